/- Timers, as plain data: the things in the row in which they were put; put, drop; what is first. -/
import Derived.Test.YtlkhaookdmgbnaaTimPl
namespace Go.Proofs.Ytlkhaookdmgbnaa

def InI (k : Int) : Prop := -9223372036854775808 ≤ k ∧ k ≤ 9223372036854775807
/-- Without the thing of that number. -/
def delL (L : List It) (id : Int) : List It := L.filter fun x => decide (x.id ≠ id)
def putL (L : List It) (id due : Int) (p : Nat) : List It := delL L id ++ [⟨id, due, p⟩]
/-- What holds of things in the row in which they were put. -/
structure OkL (L : List It) (p : Nat) : Prop where
  ids : (L.map It.id).Nodup
  rise : L.Pairwise fun x y => x.put < y.put
  top : ∀ x ∈ L, x.put ≤ p
  idI : ∀ x ∈ L, InI x.id
  dueI : ∀ x ∈ L, InI x.due
  len : L.length ≤ p
theorem ok_nil : OkL [] 0 := ⟨by simp, by simp, by simp, by simp, by simp, by simp⟩
theorem delL_sub (L : List It) (id : Int) : (delL L id).Sublist L := List.filter_sublist
theorem mem_delL {L : List It} {id : Int} {x : It} : x ∈ delL L id ↔ x ∈ L ∧ x.id ≠ id := by simp [delL, List.mem_filter]
theorem OkL.sub {L M : List It} {p : Nat} (h : OkL L p) (hs : M.Sublist L) : OkL M p :=
  ⟨h.ids.sublist (hs.map _), h.rise.sublist hs, fun x hx => h.top x (hs.subset hx), fun x hx => h.idI x (hs.subset hx), fun x hx => h.dueI x (hs.subset hx), Nat.le_trans hs.length_le h.len⟩
theorem OkL.del {L : List It} {p : Nat} (h : OkL L p) (id : Int) : OkL (delL L id) p := h.sub (delL_sub L id)
theorem OkL.put {L : List It} {p : Nat} (h : OkL L p) {id due : Int} (h1 : InI id) (h2 : InI due) : OkL (putL L id due (p + 1)) (p + 1) := by
  have hd := h.del id
  refine ⟨?_, ?_, ?_, ?_, ?_, ?_⟩
  · unfold putL
    rw [List.map_append, List.nodup_append]
    refine ⟨hd.ids, by simp, ?_⟩
    intro a ha b hb
    simp at hb
    obtain ⟨x, hx, rfl⟩ := List.mem_map.1 ha
    rw [hb]
    exact (mem_delL.1 hx).2
  · unfold putL
    rw [List.pairwise_append]
    refine ⟨hd.rise, by simp, ?_⟩
    intro a ha b hb
    simp at hb
    rw [hb]
    have := hd.top a ha
    show a.put < p + 1
    omega
  · intro x hx
    rcases List.mem_append.1 hx with e | e
    · have := hd.top x e; omega
    · simp at e; rw [e]; exact Nat.le_refl _
  · intro x hx
    rcases List.mem_append.1 hx with e | e
    · exact hd.idI x e
    · simp at e; rw [e]; exact h1
  · intro x hx
    rcases List.mem_append.1 hx with e | e
    · exact hd.dueI x e
    · simp at e; rw [e]; exact h2
  · have := hd.len
    unfold putL
    simp only [List.length_append, List.length_cons, List.length_nil]
    omega
theorem delL_absent {L : List It} {id : Int} (h : ∀ x ∈ L, x.id ≠ id) : delL L id = L := List.filter_eq_self.2 fun x hx => by simpa using h x hx
/-- One goes out of a row that is the same but for its order. -/
theorem perm_out {x : It} {r L : List It} (h : (x :: r).Perm L) (hn : (L.map It.id).Nodup) : r.Perm (delL L x.id) := by
  have h1 : ((x :: r).map It.id).Nodup := ((h.map It.id).nodup_iff).2 hn
  rw [List.map_cons, List.nodup_cons] at h1
  have h2 := h.filter fun y => decide (y.id ≠ x.id)
  rw [List.filter_cons, if_neg (by simp)] at h2
  have h3 : r.filter (fun y => decide (y.id ≠ x.id)) = r := List.filter_eq_self.2 fun y hy => by
    have : y.id ≠ x.id := fun e => h1.1 (List.mem_map.2 ⟨y, hy, e⟩)
    simpa using this
  rw [h3] at h2
  exact h2
theorem eraseIdx_perm : ∀ (l : List It) (i : Nat) (hi : i < l.length), (l[i] :: l.eraseIdx i).Perm l
  | x :: l, 0, _ => List.Perm.refl _
  | x :: l, i + 1, h => (List.Perm.swap x _ _).trans (List.Perm.cons x (eraseIdx_perm l i (by simpa using h)))
theorem perm_set {l L : List It} {i : Nat} (hi : i < l.length) (hp : l.Perm L) (hn : (L.map It.id).Nodup) (y : It) : (l.set i y).Perm (delL L l[i].id ++ [y]) := by
  have h1 : (l[i] :: l.eraseIdx i).Perm l := eraseIdx_perm _ _ hi
  have h2 : (l.set i y).Perm (y :: l.eraseIdx i) := by
    have h3 : ((l.set i y)[i]'(by simpa using hi) :: (l.set i y).eraseIdx i).Perm (l.set i y) := eraseIdx_perm _ _ (by simpa using hi)
    rw [List.getElem_set_self, List.eraseIdx_set_eq] at h3
    exact h3.symm
  have h4 := perm_out (h1.trans hp) hn
  exact h2.trans ((List.Perm.cons y h4).trans (List.perm_append_singleton y _).symm)

/-- The first one: the one that is due soonest; of those of one reading the one that was put first. -/
def isMin (x : It) (L : List It) : Prop := x ∈ L ∧ ∀ y ∈ L, leI x y
def insI (x : It) : List It → List It
  | [] => [x]
  | y :: l => if ltI y x then y :: insI x l else x :: y :: l
def sortL : List It → List It
  | [] => []
  | x :: l => insI x (sortL l)
theorem insI_perm (x : It) (l : List It) : (insI x l).Perm (x :: l) := by
  induction l with
  | nil => exact List.Perm.refl _
  | cons y l ih =>
    unfold insI
    by_cases h : ltI y x = true
    · rw [if_pos h]
      exact (List.Perm.cons y ih).trans (List.Perm.swap x y l)
    · rw [if_neg h]
theorem sortL_perm (l : List It) : (sortL l).Perm l := by
  induction l with
  | nil => exact List.Perm.refl _
  | cons x l ih => exact (insI_perm x _).trans (List.Perm.cons x ih)
theorem insI_sorted (x : It) (l : List It) (h : l.Pairwise leI) : (insI x l).Pairwise leI := by
  induction l with
  | nil => simp [insI]
  | cons y l ih =>
    rw [List.pairwise_cons] at h
    unfold insI
    by_cases hl : ltI y x = true
    · rw [if_pos hl, List.pairwise_cons]
      refine ⟨fun z hz => ?_, ih h.2⟩
      rcases List.mem_cons.1 ((insI_perm x l).mem_iff.1 hz) with e | e
      · rw [e]; exact leI_of_lt hl
      · exact h.1 z e
    · have hl' : leI x y := by unfold leI; simpa using hl
      rw [if_neg hl, List.pairwise_cons, List.pairwise_cons]
      refine ⟨fun z hz => ?_, h⟩
      rcases List.mem_cons.1 hz with e | e
      · rw [e]; exact hl'
      · exact leI_trans hl' (h.1 z e)
theorem sortL_sorted (l : List It) : (sortL l).Pairwise leI := by
  induction l with
  | nil => simp [sortL]
  | cons x l ih => exact insI_sorted x _ ih
/-- Rows of things that were put one by one, each behind the others: sorted, they are equal if they hold the same. -/
theorem sorted_eq {L : List It} (h : L.Pairwise fun x y => x.put < y.put) : ∀ {a b : List It}, a.Pairwise leI → b.Pairwise leI → a.Perm L → b.Perm L → a = b := by
  intro a b ha hb h1 h2
  have hanti : ∀ x ∈ L, ∀ y ∈ L, leI x y → leI y x → x = y := by
    intro x hx y hy k1 k2
    rw [leI_iff] at k1 k2
    have e : x.put = y.put := by omega
    obtain ⟨i, hi, rfl⟩ := List.getElem_of_mem hx
    obtain ⟨j, hj, rfl⟩ := List.getElem_of_mem hy
    rcases Nat.lt_trichotomy i j with hh | hh | hh
    · have := List.pairwise_iff_getElem.1 h i j hi hj hh; omega
    · subst hh; rfl
    · have := List.pairwise_iff_getElem.1 h j i hj hi hh; omega
  exact List.Perm.eq_of_pairwise (fun x y hx hy k1 k2 => hanti x (h1.mem_iff.1 hx) y (h2.mem_iff.1 hy) k1 k2) ha hb (h1.trans h2.symm)
theorem min_head {x : It} {L : List It} (h : L.Pairwise fun x y => x.put < y.put) (hm : isMin x L) (hn : (L.map It.id).Nodup) : sortL L = x :: sortL (delL L x.id) := by
  have h1 : (x :: L.erase x).Perm L := (List.perm_cons_erase hm.1).symm
  have h2 := perm_out h1 hn
  have h3 : (x :: sortL (delL L x.id)).Perm L := ((List.Perm.cons x (sortL_perm _)).trans (List.Perm.cons x h2.symm)).trans h1
  refine sorted_eq h (sortL_sorted L) ?_ (sortL_perm L) h3
  rw [List.pairwise_cons]
  refine ⟨fun y hy => hm.2 y ?_, sortL_sorted _⟩
  exact (mem_delL.1 ((sortL_perm _).mem_iff.1 hy)).1
/-- What is due at a reading, in its row; what is left. -/
def dueL (L : List It) (now : Int) : List Int := ((sortL L).filter fun x => decide (x.due ≤ now)).map It.id
def restL (L : List It) (now : Int) : List It := L.filter fun x => decide (now < x.due)
theorem due_none {L : List It} {now : Int} (h : ∀ x ∈ L, now < x.due) : dueL L now = [] ∧ restL L now = L := by
  constructor
  · unfold dueL
    rw [List.filter_eq_nil_iff.2]
    · rfl
    · intro x hx
      have := h x ((sortL_perm L).mem_iff.1 hx)
      simp; omega
  · exact List.filter_eq_self.2 fun x hx => by simpa using h x hx
theorem due_step {x : It} {L : List It} {now : Int} (h : L.Pairwise fun x y => x.put < y.put) (hm : isMin x L) (hn : (L.map It.id).Nodup) (hx : x.due ≤ now) : dueL L now = x.id :: dueL (delL L x.id) now ∧ restL L now = restL (delL L x.id) now := by
  constructor
  · unfold dueL
    rw [min_head h hm hn, List.filter_cons, if_pos (by simpa using hx)]
    rfl
  · unfold restL delL
    rw [List.filter_filter]
    apply List.filter_congr
    intro y hy
    by_cases e : y.id = x.id
    · have : y = x := by
        obtain ⟨i, hi, rfl⟩ := List.getElem_of_mem hy
        obtain ⟨j, hj, rfl⟩ := List.getElem_of_mem hm.1
        rcases Nat.lt_trichotomy i j with hh | hh | hh
        · exact absurd (by rw [List.getElem_map, List.getElem_map]; exact e) (List.pairwise_iff_getElem.1 hn i j (by simpa using hi) (by simpa using hj) hh)
        · subst hh; rfl
        · exact absurd (by rw [List.getElem_map, List.getElem_map]; exact e.symm) (List.pairwise_iff_getElem.1 hn j i (by simpa using hj) (by simpa using hi) hh)
      subst this
      simp; omega
    · simp [e]
theorem delL_len {x : It} {L : List It} (hm : x ∈ L) (hn : (L.map It.id).Nodup) : (delL L x.id).length + 1 = L.length := by
  have h1 : (x :: L.erase x).Perm L := (List.perm_cons_erase hm).symm
  have := (perm_out h1 hn).length_eq
  have h3 := h1.length_eq
  simp only [List.length_cons] at h3
  omega

end Go.Proofs.Ytlkhaookdmgbnaa
