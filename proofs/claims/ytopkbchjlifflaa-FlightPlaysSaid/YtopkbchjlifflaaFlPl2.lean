/- Questions under way, as plain data: what Begin, Join and End leave. -/
import Derived.Test.YtopkbchjlifflaaFlPl
namespace Go.Proofs.Ytopkbchjlifflaa

theorem getF_usedF (L : List Fl) (s : Nat) : (getF L s).isSome = usedF L s := by
  unfold getF usedF
  rw [Bool.eq_iff_iff, List.find?_isSome, List.any_eq_true]
theorem getF_append (L : List Fl) (f : Fl) (s : Nat) : getF (L ++ [f]) s = (getF L s).or (if f.slot = s then some f else none) := by
  unfold getF
  rw [List.find?_append]
  cases L.find? fun g => decide (g.slot = s) with
  | some x => rfl
  | none =>
    by_cases e : f.slot = s
    · simp [e]
    · simp [e]
theorem usedF_append (L : List Fl) (f : Fl) (s : Nat) : usedF (L ++ [f]) s = (usedF L s || decide (f.slot = s)) := by simp [usedF, List.any_append]
theorem getF_other (L : List Fl) (f : Fl) {s : Nat} (h : s ≠ f.slot) : getF (L ++ [f]) s = getF L s := by
  rw [getF_append, if_neg (fun e => h e.symm)]
  cases getF L s <;> rfl
theorem getF_new {L : List Fl} {f : Fl} (h : usedF L f.slot = false) : getF (L ++ [f]) f.slot = some f := by
  rw [getF_append, getF_none h, if_pos rfl]
  rfl
theorem wsF_not {L : List Fl} {s : Nat} (h : usedF L s = false) : wsF L s = [] := by unfold wsF; rw [getF_none h]; rfl
theorem slotsF_append (L : List Fl) (f : Fl) : slotsF (L ++ [f]) = slotsF L ++ [f.slot] := by simp [slotsF]
theorem findF_none_iff {L : List Fl} {q : Qs} : findF L q = none ↔ ∀ f ∈ L, f.q ≠ q := by
  constructor
  · intro h f hf e
    unfold findF at h
    rw [Option.map_eq_none_iff, List.find?_eq_none] at h
    exact h f hf (by simpa using e)
  · exact findF_none
theorem OkF.begin {n m : Nat} {L : List Fl} (h : OkF n m L) {f : Fl} (hu : usedF L f.slot = false) (hq : findF L f.q = none) (hl : f.slot < n) (hm : mayB f.q.name = true) (hf : foldL f.q.name = f.q.name) (hn : f.q.ty < 65536 ∧ f.q.cl < 65536) (hw : f.ws.length ≤ m) : OkF n m (L ++ [f]) := by
  have all : ∀ {P : Fl → Prop}, (∀ g ∈ L, P g) → P f → ∀ g ∈ L ++ [f], P g := by
    intro P h1 h2 g hg
    rcases List.mem_append.1 hg with e | e
    · exact h1 g e
    · simp at e; subst e; exact h2
  refine ⟨?_, all h.low hl, ?_, all h.name ⟨hm, hf⟩, all h.num hn, all h.wait hw⟩
  · rw [slotsF_append, List.nodup_append]
    refine ⟨h.slots, by simp, ?_⟩
    intro a ha b hb e
    simp at hb
    obtain ⟨g, hg, e2⟩ := List.mem_map.1 ha
    have : usedF L f.slot = true := usedF_iff.2 ⟨g, hg, by rw [e2, e, hb]⟩
    rw [hu] at this
    cases this
  · rw [List.map_append, List.nodup_append]
    refine ⟨h.qs, by simp, ?_⟩
    intro a ha b hb e
    simp at hb
    obtain ⟨g, hg, e2⟩ := List.mem_map.1 ha
    exact findF_none_iff.1 hq g hg (by rw [e2, e, hb])

/-- Join. -/
theorem setW_slots (L : List Fl) (s : Nat) (ws : List Wt) : slotsF (setW L s ws) = slotsF L := by
  unfold slotsF setW
  rw [List.map_map]
  apply List.map_congr_left
  intro f _
  simp only [Function.comp]
  split <;> rfl
theorem setW_qs (L : List Fl) (s : Nat) (ws : List Wt) : (setW L s ws).map (fun f => (f.q, f.slot)) = L.map (fun f => (f.q, f.slot)) := by
  unfold setW
  rw [List.map_map]
  apply List.map_congr_left
  intro f _
  simp only [Function.comp]
  split <;> rfl
theorem setW_get (L : List Fl) (s : Nat) (ws : List Wt) (t : Nat) : getF (setW L s ws) t = (getF L t).map fun f => if f.slot = s then ⟨f.slot, f.q, ws⟩ else f := by
  unfold getF setW
  induction L with
  | nil => rfl
  | cons f L ih =>
    rw [List.map_cons, List.find?_cons, List.find?_cons]
    have e : (if f.slot = s then (⟨f.slot, f.q, ws⟩ : Fl) else f).slot = f.slot := by split <;> rfl
    rw [e]
    by_cases h : f.slot = t
    · simp [h]
    · simp only [h, decide_false]
      exact ih
theorem setW_used (L : List Fl) (s : Nat) (ws : List Wt) (t : Nat) : usedF (setW L s ws) t = usedF L t := by
  rw [← getF_usedF, ← getF_usedF, setW_get]
  cases getF L t <;> rfl
theorem setW_q (L : List Fl) (s : Nat) (ws : List Wt) (t : Nat) : ((getF (setW L s ws) t).map Fl.q) = (getF L t).map Fl.q := by
  rw [setW_get]
  cases getF L t with
  | none => rfl
  | some f => simp only [Option.map_some]; split <;> rfl
theorem setW_ws_other (L : List Fl) {s : Nat} (ws : List Wt) {t : Nat} (h : t ≠ s) : wsF (setW L s ws) t = wsF L t := by
  unfold wsF
  rw [setW_get]
  cases hg : getF L t with
  | none => rfl
  | some f =>
    have := (getF_some hg).2
    simp only [Option.map_some]
    rw [if_neg (by omega)]
theorem setW_ws_same {L : List Fl} {s : Nat} (ws : List Wt) (h : usedF L s = true) : wsF (setW L s ws) s = ws := by
  unfold wsF
  rw [setW_get]
  cases hg : getF L s with
  | none => have := getF_usedF L s; rw [hg, h] at this; cases this
  | some f =>
    have := (getF_some hg).2
    simp only [Option.map_some]
    rw [if_pos this]
    rfl
theorem OkF.join {n m : Nat} {L : List Fl} (h : OkF n m L) (s : Nat) {ws : List Wt} (hw : ws.length ≤ m) : OkF n m (setW L s ws) := by
  have all : ∀ {P : Nat → Qs → Prop}, (∀ g ∈ L, P g.slot g.q) → ∀ g ∈ setW L s ws, P g.slot g.q := by
    intro P h1 g hg
    obtain ⟨f, hf, e⟩ := List.mem_map.1 hg
    subst e
    have := h1 f hf
    split <;> exact this
  refine ⟨by rw [setW_slots]; exact h.slots, all (P := fun s _ => s < n) h.low, ?_, all (P := fun _ q => mayB q.name = true ∧ foldL q.name = q.name) h.name, all (P := fun _ q => q.ty < 65536 ∧ q.cl < 65536) h.num, ?_⟩
  · have e := congrArg (List.map Prod.fst) (setW_qs L s ws)
    rw [List.map_map, List.map_map] at e
    have h1 : (setW L s ws).map Fl.q = L.map Fl.q := e
    rw [h1]; exact h.qs
  · intro g hg
    obtain ⟨f, hf, e⟩ := List.mem_map.1 hg
    subst e
    have := h.wait f hf
    split
    · exact hw
    · exact this

/-- End. -/
theorem endF_get (L : List Fl) (s t : Nat) : getF (endF L s) t = if t = s then none else getF L t := by
  unfold getF endF
  rw [List.find?_filter]
  by_cases e : t = s
  · subst e
    rw [if_pos rfl, List.find?_eq_none]
    intro f _
    by_cases h : f.slot = t <;> simp [h]
  · rw [if_neg e]
    congr 1
    funext f
    by_cases h : f.slot = t
    · have : f.slot ≠ s := by omega
      simp [h, e]
    · simp [h]
theorem endF_used (L : List Fl) (s t : Nat) : usedF (endF L s) t = (!decide (t = s) && usedF L t) := by
  rw [← getF_usedF, endF_get, ← getF_usedF]
  by_cases e : t = s <;> simp [e]
theorem endF_slots (L : List Fl) (s : Nat) : slotsF (endF L s) = (slotsF L).filter fun t => !decide (t = s) := by
  unfold slotsF endF
  rw [List.filter_map]
  rfl
theorem nodup_cut : ∀ (l : List Nat), l.Nodup → ∀ i (h : i < l.length), l.take i ++ l.drop (i + 1) = l.filter fun t => !decide (t = l[i]) := by
  intro l
  induction l with
  | nil => intro _ i h; simp at h
  | cons x l ih =>
    intro hn i h
    rw [List.nodup_cons] at hn
    cases i with
    | zero =>
      simp only [List.take_zero, List.nil_append, List.drop_succ_cons, List.drop_zero, List.getElem_cons_zero, List.filter_cons, decide_true, Bool.not_true]
      symm
      rw [if_neg (by simp), List.filter_eq_self]
      intro a ha
      simp
      intro e
      exact hn.1 (by rw [← e]; exact ha)
    | succ i =>
      have hi : i < l.length := by simpa using h
      have hne : x ≠ l[i] := fun e => hn.1 (by rw [e]; exact List.getElem_mem hi)
      simp only [List.take_succ_cons, List.cons_append, List.drop_succ_cons, List.getElem_cons_succ]
      rw [ih hn.2 i hi, List.filter_cons, if_pos (by simpa using hne)]
theorem OkF.fin {n m : Nat} {L : List Fl} (h : OkF n m L) (s : Nat) : OkF n m (endF L s) := h.sub List.filter_sublist

end Go.Proofs.Ytopkbchjlifflaa
