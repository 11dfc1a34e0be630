/- A ring of neighbours, as plain functions: going forward from 0 the places come in their row; what cutting and hanging a place does to the row. -/
import Derived.WalkKit
namespace Go.Proofs.Ytjnipcalncpimaa

/-- From a, forward by f and back by g, over the places of l, to b. -/
def Seg (f g : Nat → Nat) : Nat → List Nat → Nat → Prop
  | a, [], b => f a = b ∧ g b = a
  | a, p :: l, b => f a = p ∧ g p = a ∧ Seg f g p l b

/-- The last of a and l. -/
def endOf : Nat → List Nat → Nat
  | a, [] => a
  | _, p :: l => endOf p l

theorem endOf_mem (a : Nat) (l : List Nat) : endOf a l ∈ a :: l := by
  induction l generalizing a with
  | nil => simp [endOf]
  | cons p l ih => simp only [endOf]; exact List.mem_cons_of_mem _ (ih p)

theorem seg_append (f g : Nat → Nat) (a : Nat) (l : List Nat) (p : Nat) (m : List Nat) (b : Nat) : Seg f g a (l ++ p :: m) b ↔ Seg f g a l p ∧ Seg f g p m b := by
  induction l generalizing a with
  | nil => simp [Seg, and_assoc]
  | cons q l ih => simp [Seg, ih, and_assoc]

theorem seg_end {f g : Nat → Nat} {a : Nat} {l : List Nat} {b : Nat} (h : Seg f g a l b) : g b = endOf a l ∧ f (endOf a l) = b := by
  induction l generalizing a with
  | nil => exact ⟨h.2, h.1⟩
  | cons p l ih => exact ih h.2.2

/-- The same way, but that it ends at another place. -/
theorem seg_turn {f g f' g' : Nat → Nat} {a : Nat} {l : List Nat} {b b' : Nat} (h : Seg f g a l b) (hnd : (a :: l).Nodup)
    (hf : ∀ z ∈ a :: l, z ≠ endOf a l → f' z = f z) (hg : ∀ z ∈ l, g' z = g z) (he : f' (endOf a l) = b') (hb : g' b' = endOf a l) : Seg f' g' a l b' := by
  induction l generalizing a with
  | nil => exact ⟨he, hb⟩
  | cons p l ih =>
    obtain ⟨h1, h2, h3⟩ := h
    have hnd' : (p :: l).Nodup := (List.nodup_cons.1 hnd).2
    have hne : a ≠ endOf p l := fun e => (List.nodup_cons.1 hnd).1 (e ▸ endOf_mem p l)
    refine ⟨by rw [hf a (List.mem_cons_self) hne]; exact h1, by rw [hg p (List.mem_cons_self)]; exact h2, ?_⟩
    exact ih h3 hnd' (fun z hz hz2 => hf z (List.mem_cons_of_mem _ hz) hz2) (fun z hz => hg z (List.mem_cons_of_mem _ hz)) he hb

/-- The places of a ring, in their row. -/
def Ring (f g : Nat → Nat) (ps : List Nat) : Prop := (0 :: ps).Nodup ∧ Seg f g 0 ps 0 ∧ ∀ p, p ∉ 0 :: ps → f p = 0 ∧ g p = 0

def upd (f : Nat → Nat) (p v : Nat) : Nat → Nat := fun q => if q = p then v else f q
theorem upd_same (f : Nat → Nat) (p v : Nat) : upd f p v p = v := by simp [upd]
theorem upd_other (f : Nat → Nat) (p v q : Nat) (h : q ≠ p) : upd f p v q = f q := by simp [upd, h]

theorem ring_empty : Ring (fun _ => 0) (fun _ => 0) [] := ⟨by simp, ⟨rfl, rfl⟩, fun _ _ => ⟨rfl, rfl⟩⟩

theorem ring_in {f g : Nat → Nat} {ps : List Nat} (h : Ring f g ps) (p : Nat) (hp : p ≠ 0) : (g p ≠ 0 ∨ f 0 = p) ↔ p ∈ ps := by
  obtain ⟨hnd, hs, ho⟩ := h
  constructor
  · intro hh
    refine Classical.byContradiction fun hn => ?_
    have hn' : p ∉ 0 :: ps := by simp [hp, hn]
    rcases hh with hh | hh
    · exact hh (ho p hn').2
    · cases ps with
      | nil => exact hp (hh.symm.trans hs.1)
      | cons q l => exact hn (by rw [← hh, hs.1]; exact List.mem_cons_self)
  · intro hm
    obtain ⟨l, m, rfl⟩ := List.append_of_mem hm
    obtain ⟨h1, _⟩ := (seg_append f g 0 l p m 0).1 hs
    have he := seg_end h1
    cases l with
    | nil => right; exact he.2
    | cons q l =>
      left
      rw [he.1]
      have hm2 : endOf 0 (q :: l) ∈ q :: l := by simp only [endOf]; exact endOf_mem q l
      intro e
      rw [e] at hm2
      exact (List.nodup_cons.1 hnd).1 (List.mem_append_left _ hm2)

/-- Cutting a place: its neighbours become neighbours. -/
theorem ring_cut {f g : Nat → Nat} {ps : List Nat} (h : Ring f g ps) (p : Nat) (hp : p ∈ ps) :
    Ring (upd (upd f (g p) (f p)) p 0) (upd (upd g (f p) (g p)) p 0) (ps.filter (· ≠ p)) ∧ upd (upd f (g p) (f p)) p 0 (g p) ≠ f (g p) := by
  obtain ⟨hnd, hs, ho⟩ := h
  obtain ⟨l, m, rfl⟩ := List.append_of_mem hp
  obtain ⟨h1, h2⟩ := (seg_append f g 0 l p m 0).1 hs
  have he := seg_end h1
  have hnd2 : (l ++ p :: m).Nodup := (List.nodup_cons.1 hnd).2
  have hpl : p ∉ l := fun hh => by
    have := (List.nodup_append.1 hnd2).2.2 p hh p List.mem_cons_self
    exact this rfl
  have hpm : p ∉ m := (List.nodup_cons.1 (List.nodup_append.1 hnd2).2.1).1
  have hp0 : p ≠ 0 := fun e => (List.nodup_cons.1 hnd).1 (by rw [← e]; simp)
  have h0l : 0 ∉ l := fun hh => (List.nodup_cons.1 hnd).1 (List.mem_append_left _ hh)
  have h0m : 0 ∉ m := fun hh => (List.nodup_cons.1 hnd).1 (List.mem_append_right _ (List.mem_cons_of_mem _ hh))
  have hlnd : l.Nodup := (List.nodup_append.1 hnd2).1
  have hmnd : m.Nodup := (List.nodup_cons.1 (List.nodup_append.1 hnd2).2.1).2
  have hlm : ∀ x ∈ l, x ∉ m := fun x hx hy => (List.nodup_append.1 hnd2).2.2 x hx x (List.mem_cons_of_mem _ hy) rfl
  have hfl : (l ++ p :: m).filter (· ≠ p) = l ++ m := by
    rw [List.filter_append, List.filter_cons]
    simp only [ne_eq, not_true_eq_false, decide_false, Bool.false_eq_true, if_false]
    congr 1
    · exact List.filter_eq_self.2 fun x hx => by simp; intro e; exact hpl (e ▸ hx)
    · exact List.filter_eq_self.2 fun x hx => by simp; intro e; exact hpm (e ▸ hx)
  have hgp : g p = endOf 0 l := he.1
  have hend : endOf 0 l ∈ 0 :: l := endOf_mem 0 l
  have hendp : endOf 0 l ≠ p := fun e => by
    rw [e] at hend
    rcases List.mem_cons.1 hend with hh | hh
    · exact hp0 hh
    · exact hpl hh
  have hndl : (0 :: l).Nodup := List.nodup_cons.2 ⟨h0l, hlnd⟩
  rw [hfl]
  have hfp : f p ≠ p := by
    cases m with
    | nil => rw [h2.1]; exact hp0.symm
    | cons q m => rw [h2.1]; intro e; exact hpm (by rw [← e]; simp)
  refine ⟨⟨?_, ?_, ?_⟩, ?_⟩
  · refine List.nodup_cons.2 ⟨by simp [h0l, h0m], ?_⟩
    exact List.nodup_append.2 ⟨hlnd, hmnd, fun x hx y hy e => hlm x hx (e ▸ hy)⟩
  · have key : Seg (upd (upd f (g p) (f p)) p 0) (upd (upd g (f p) (g p)) p 0) 0 l (f p) := by
      refine seg_turn h1 hndl ?_ ?_ ?_ ?_
      · intro z hz hze
        have hzp : z ≠ p := fun e => by subst e; rcases List.mem_cons.1 hz with hh | hh; exact hp0 hh; exact hpl hh
        rw [upd_other _ _ _ _ hzp, upd_other _ _ _ _ (by rw [hgp]; exact hze)]
      · intro z hz
        have hzp : z ≠ p := fun e => hpl (e ▸ hz)
        have hzf : z ≠ f p := by
          cases m with
          | nil => rw [h2.1]; intro e; exact h0l (e ▸ hz)
          | cons q m => rw [h2.1]; intro e; exact hlm z hz (by rw [e]; simp)
        rw [upd_other _ _ _ _ hzp, upd_other _ _ _ _ hzf]
      · rw [upd_other _ _ _ _ hendp, hgp, upd_same]
      · rw [upd_other _ _ _ _ hfp, upd_same, hgp]
    cases m with
    | nil =>
      have : f p = 0 := h2.1
      rw [this] at key
      rw [List.append_nil, this]
      exact key
    | cons q m =>
      have hq : f p = q := h2.1
      rw [hq] at key ⊢
      refine (seg_append _ _ 0 l q m 0).2 ⟨key, ?_⟩
      have hqm : (q :: m).Nodup := hmnd
      have h3 := h2.2.2
      have h3e := seg_end h3
      have hq0 : q ≠ 0 := fun e => h0m (by rw [e]; simp)
      have memq : ∀ z ∈ q :: m, z ≠ p ∧ z ≠ g p := by
        intro z hz
        refine ⟨fun e => hpm (e ▸ hz), fun e => ?_⟩
        rw [hgp] at e
        rw [e] at hz
        rcases List.mem_cons.1 hend with hh | hh
        · rw [hh] at hz; exact h0m hz
        · exact hlm _ hh hz
      refine seg_turn h3 hqm ?_ ?_ ?_ ?_
      · intro z hz _
        rw [upd_other _ _ _ _ (memq z hz).1, upd_other _ _ _ _ (memq z hz).2]
      · intro z hz
        have hzq : z ≠ q := fun e => (List.nodup_cons.1 hqm).1 (e ▸ hz)
        rw [upd_other _ _ _ _ (memq z (List.mem_cons_of_mem _ hz)).1, upd_other _ _ _ _ hzq]
      · have hm1 := memq _ (endOf_mem q m)
        rw [upd_other _ _ _ _ hm1.1, upd_other _ _ _ _ hm1.2]; exact h3e.2
      · rw [upd_other _ _ _ _ hp0.symm, upd_other _ _ _ _ hq0.symm]; exact h3e.1
  · intro z hz
    by_cases hzp : z = p
    · subst hzp; exact ⟨upd_same _ _ _, upd_same _ _ _⟩
    · have hz' : z ∉ 0 :: (l ++ p :: m) := by
        intro hh
        apply hz
        rcases List.mem_cons.1 hh with hh | hh
        · simp [hh]
        · rcases List.mem_append.1 hh with hh | hh
          · exact List.mem_cons_of_mem _ (List.mem_append_left _ hh)
          · rcases List.mem_cons.1 hh with hh | hh
            · exact absurd hh hzp
            · exact List.mem_cons_of_mem _ (List.mem_append_right _ hh)
      have hzg : z ≠ g p := by
        intro e; rw [hgp] at e; apply hz; rw [e]
        rcases List.mem_cons.1 hend with hh | hh
        · rw [hh]; simp
        · exact List.mem_cons_of_mem _ (List.mem_append_left _ hh)
      have hzf : z ≠ f p := by
        intro e; apply hz
        cases m with
        | nil => rw [e, h2.1]; simp
        | cons q m => rw [e, h2.1]; simp
      rw [upd_other _ _ _ _ hzp, upd_other _ _ _ _ hzp, upd_other _ _ _ _ hzg, upd_other _ _ _ _ hzf]
      exact ho z hz'
  · rw [hgp, upd_other _ _ _ _ hendp, upd_same, he.2]; exact hfp

/-- Hanging a place behind the last one. -/
theorem ring_hang {f g : Nat → Nat} {ps : List Nat} (h : Ring f g ps) (p : Nat) (hp0 : p ≠ 0) (hp : p ∉ ps) :
    Ring (upd (upd f (g 0) p) p 0) (upd (upd g p (g 0)) 0 p) (ps ++ [p]) := by
  obtain ⟨hnd, hs, ho⟩ := h
  have he := seg_end hs
  have hend := endOf_mem 0 ps
  have hendp : endOf 0 ps ≠ p := fun e => by
    rw [e] at hend
    rcases List.mem_cons.1 hend with hh | hh
    · exact hp0 hh
    · exact hp hh
  refine ⟨?_, ?_, ?_⟩
  · refine List.nodup_cons.2 ⟨?_, ?_⟩
    · simp [(List.nodup_cons.1 hnd).1, hp0.symm]
    · exact List.nodup_append.2 ⟨(List.nodup_cons.1 hnd).2, by simp, fun x hx y hy e => by simp at hy; subst hy; exact hp (e ▸ hx)⟩
  · refine (seg_append _ _ 0 ps p [] 0).2 ⟨?_, upd_same _ _ _, upd_same _ _ _⟩
    refine seg_turn hs hnd ?_ ?_ ?_ ?_
    · intro z hz hze
      have hzp : z ≠ p := fun e => by subst e; rcases List.mem_cons.1 hz with hh | hh; exact hp0 hh; exact hp hh
      rw [upd_other _ _ _ _ hzp, upd_other _ _ _ _ (by rw [he.1]; exact hze)]
    · intro z hz
      have hzp : z ≠ p := fun e => hp (e ▸ hz)
      have hz0 : z ≠ 0 := fun e => (List.nodup_cons.1 hnd).1 (e ▸ hz)
      rw [upd_other _ _ _ _ hz0, upd_other _ _ _ _ hzp]
    · rw [upd_other _ _ _ _ hendp, he.1, upd_same]
    · rw [upd_other _ _ _ _ hp0, upd_same, he.1]
  · intro z hz
    have hz0 : z ≠ 0 := fun e => hz (by simp [e])
    have hzp : z ≠ p := fun e => hz (by simp [e])
    have hzps : z ∉ ps := fun hh => hz (by simp [hh])
    have hzg : z ≠ g 0 := by
      intro e; rw [he.1] at e; rw [← e] at hend
      rcases List.mem_cons.1 hend with hh | hh
      · exact hz0 hh
      · exact hzps hh
    rw [upd_other _ _ _ _ hzp, upd_other _ _ _ _ hzg, upd_other _ _ _ _ hz0, upd_other _ _ _ _ hzp]
    exact ho z (by simp [hz0, hzps])

theorem ring_congr {f g f' g' : Nat → Nat} {ps : List Nat} (h : Ring f g ps) (hf : f = f') (hg : g = g') : Ring f' g' ps := by subst hf; subst hg; exact h

/-- The first and the last of a ring. -/
theorem ring_first {f g : Nat → Nat} {ps : List Nat} (h : Ring f g ps) : f 0 = ps.headD 0 := by
  obtain ⟨_, hs, _⟩ := h
  cases ps with
  | nil => exact hs.1
  | cons p l => exact hs.1
theorem endOf_last (a : Nat) (l : List Nat) : endOf a l = l.getLastD a := by
  induction l generalizing a with
  | nil => rfl
  | cons p l ih => simp only [endOf]; rw [ih p]; cases l <;> rfl
theorem ring_last {f g : Nat → Nat} {ps : List Nat} (h : Ring f g ps) : g 0 = ps.getLastD 0 := by
  rw [← endOf_last]; exact (seg_end h.2.1).1
/-- The next one of each place of a ring. -/
theorem ring_next {f g : Nat → Nat} {l m : List Nat} {p : Nat} (h : Ring f g (l ++ p :: m)) : f p = m.headD 0 := by
  obtain ⟨_, hs, _⟩ := h
  have := ((seg_append f g 0 l p m 0).1 hs).2
  cases m with
  | nil => exact this.1
  | cons q m => exact this.1

end Go.Proofs.Ytjnipcalncpimaa
