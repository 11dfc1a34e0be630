/- A ring of neighbours, as plain functions: going forward from 0 the places come in their row; what cutting and hanging a place does to the row. The list of package lru in memory: its ring as two rows of numbers, and the rows' readings and writings. The walks of package lru: the ring's in, cut, hang; slot. The walks of package lru: hang, slot, Use. The walks of package lru: New, Copy, Oldest, Newest, Has. The walks of package lru: Row, Len, Drop. The walk of package lru: Drop. -/
import Derived.WalkKit
import Derived.Test.YtgdnfempcjlipaaBaseZ
import Derived.Test.YtgdnfempcjlipaaChecked
import Derived.WalkLawsBesides
import Derived.Outline
import Derived.Deep.QuietTactic
import Derived.BigQuiet
import Derived.RegionTactic
import Derived.ChangeAlike
import Derived.BigRegion
import Derived.Deep.WholeRow
import Derived.Deep.DeepMust
import Derived.WalkSpells

namespace Go.Proofs.Ytgdnfempcjlipaa.Lr

/-- From a, forward by f and back by g, over the places of l, to b. -/
def Seg (f g : Nat → Nat) : Nat → List Nat → Nat → Prop
  | a, [], b => f a = b ∧ g b = a
  | a, p :: l, b => f a = p ∧ g p = a ∧ Seg f g p l b

/-- The last of a and l. -/
def endOf : Nat → List Nat → Nat
  | a, [] => a
  | _, p :: l => endOf p l

set_option maxRecDepth 100000 in
theorem endOf_mem (a : Nat) (l : List Nat) : endOf a l ∈ a :: l := by
  induction l generalizing a with
  | nil => simp [endOf]
  | cons p l ih => simp only [endOf]; exact List.mem_cons_of_mem _ (ih p)

set_option maxRecDepth 100000 in
theorem seg_append (f g : Nat → Nat) (a : Nat) (l : List Nat) (p : Nat) (m : List Nat) (b : Nat) : Seg f g a (l ++ p :: m) b ↔ Seg f g a l p ∧ Seg f g p m b := by
  induction l generalizing a with
  | nil => simp [Seg, and_assoc]
  | cons q l ih => simp [Seg, ih, and_assoc]

set_option maxRecDepth 100000 in
theorem seg_end {f g : Nat → Nat} {a : Nat} {l : List Nat} {b : Nat} (h : Seg f g a l b) : g b = endOf a l ∧ f (endOf a l) = b := by
  induction l generalizing a with
  | nil => exact ⟨h.2, h.1⟩
  | cons p l ih => exact ih h.2.2

set_option maxRecDepth 100000 in
/-- The same way, but that it ends at another place. -/
theorem seg_turn {f g f' g' : Nat → Nat} {a : Nat} {l : List Nat} {b b' : Nat} (h : Seg f g a l b) (hnd : (a :: l).Nodup)
    (hf : ∀ z ∈ a :: l, z ≠ endOf a l → f' z = f z) (hg : ∀ z ∈ l, g' z = g z) (he : f' (endOf a l) = b') (hb : g' b' = endOf a l) : Seg f' g' a l b' := by
  induction l generalizing a with
  | nil => exact ⟨he, hb⟩
  | cons p l ih =>
    obtain ⟨h1, h2, h3⟩ := h
    have hnd' : (p :: l).Nodup := (List.nodup_cons.1 hnd).2
    have hne : a ≠ endOf p l := fun e => (List.nodup_cons.1 hnd).1 (e ▸ endOf_mem p l)
    refine ⟨by rw [hf a (List.mem_cons_self) hne]; exact h1, by rw [hg p (List.mem_cons_self)]; exact h2, ?_⟩
    exact ih h3 hnd' (fun z hz hz2 => hf z (List.mem_cons_of_mem _ hz) hz2) (fun z hz => hg z (List.mem_cons_of_mem _ hz)) he hb

/-- The places of a ring, in their row. -/
def Ring (f g : Nat → Nat) (ps : List Nat) : Prop := (0 :: ps).Nodup ∧ Seg f g 0 ps 0 ∧ ∀ p, p ∉ 0 :: ps → f p = 0 ∧ g p = 0

def upd (f : Nat → Nat) (p v : Nat) : Nat → Nat := fun q => if q = p then v else f q
set_option maxRecDepth 100000 in
theorem upd_same (f : Nat → Nat) (p v : Nat) : upd f p v p = v := by simp [upd]
set_option maxRecDepth 100000 in
theorem upd_other (f : Nat → Nat) (p v q : Nat) (h : q ≠ p) : upd f p v q = f q := by simp [upd, h]

set_option maxRecDepth 100000 in
theorem ring_empty : Ring (fun _ => 0) (fun _ => 0) [] := ⟨by simp, ⟨rfl, rfl⟩, fun _ _ => ⟨rfl, rfl⟩⟩

set_option maxRecDepth 100000 in
theorem ring_in {f g : Nat → Nat} {ps : List Nat} (h : Ring f g ps) (p : Nat) (hp : p ≠ 0) : (g p ≠ 0 ∨ f 0 = p) ↔ p ∈ ps := by
  obtain ⟨hnd, hs, ho⟩ := h
  constructor
  · intro hh
    refine Classical.byContradiction fun hn => ?_
    have hn' : p ∉ 0 :: ps := by simp [hp, hn]
    rcases hh with hh | hh
    · exact hh (ho p hn').2
    · cases ps with
      | nil => exact hp (hh.symm.trans hs.1)
      | cons q l => exact hn (by rw [← hh, hs.1]; exact List.mem_cons_self)
  · intro hm
    obtain ⟨l, m, rfl⟩ := List.append_of_mem hm
    obtain ⟨h1, _⟩ := (seg_append f g 0 l p m 0).1 hs
    have he := seg_end h1
    cases l with
    | nil => right; exact he.2
    | cons q l =>
      left
      rw [he.1]
      have hm2 : endOf 0 (q :: l) ∈ q :: l := by simp only [endOf]; exact endOf_mem q l
      intro e
      rw [e] at hm2
      exact (List.nodup_cons.1 hnd).1 (List.mem_append_left _ hm2)

set_option maxRecDepth 100000 in
/-- Cutting a place: its neighbours become neighbours. -/
theorem ring_cut {f g : Nat → Nat} {ps : List Nat} (h : Ring f g ps) (p : Nat) (hp : p ∈ ps) :
    Ring (upd (upd f (g p) (f p)) p 0) (upd (upd g (f p) (g p)) p 0) (ps.filter (· ≠ p)) ∧ upd (upd f (g p) (f p)) p 0 (g p) ≠ f (g p) := by
  obtain ⟨hnd, hs, ho⟩ := h
  obtain ⟨l, m, rfl⟩ := List.append_of_mem hp
  obtain ⟨h1, h2⟩ := (seg_append f g 0 l p m 0).1 hs
  have he := seg_end h1
  have hnd2 : (l ++ p :: m).Nodup := (List.nodup_cons.1 hnd).2
  have hpl : p ∉ l := fun hh => by
    have := (List.nodup_append.1 hnd2).2.2 p hh p List.mem_cons_self
    exact this rfl
  have hpm : p ∉ m := (List.nodup_cons.1 (List.nodup_append.1 hnd2).2.1).1
  have hp0 : p ≠ 0 := fun e => (List.nodup_cons.1 hnd).1 (by rw [← e]; simp)
  have h0l : 0 ∉ l := fun hh => (List.nodup_cons.1 hnd).1 (List.mem_append_left _ hh)
  have h0m : 0 ∉ m := fun hh => (List.nodup_cons.1 hnd).1 (List.mem_append_right _ (List.mem_cons_of_mem _ hh))
  have hlnd : l.Nodup := (List.nodup_append.1 hnd2).1
  have hmnd : m.Nodup := (List.nodup_cons.1 (List.nodup_append.1 hnd2).2.1).2
  have hlm : ∀ x ∈ l, x ∉ m := fun x hx hy => (List.nodup_append.1 hnd2).2.2 x hx x (List.mem_cons_of_mem _ hy) rfl
  have hfl : (l ++ p :: m).filter (· ≠ p) = l ++ m := by
    rw [List.filter_append, List.filter_cons]
    simp only [ne_eq, not_true_eq_false, decide_false, Bool.false_eq_true, if_false]
    congr 1
    · exact List.filter_eq_self.2 fun x hx => by simp; intro e; exact hpl (e ▸ hx)
    · exact List.filter_eq_self.2 fun x hx => by simp; intro e; exact hpm (e ▸ hx)
  have hgp : g p = endOf 0 l := he.1
  have hend : endOf 0 l ∈ 0 :: l := endOf_mem 0 l
  have hendp : endOf 0 l ≠ p := fun e => by
    rw [e] at hend
    rcases List.mem_cons.1 hend with hh | hh
    · exact hp0 hh
    · exact hpl hh
  have hndl : (0 :: l).Nodup := List.nodup_cons.2 ⟨h0l, hlnd⟩
  rw [hfl]
  have hfp : f p ≠ p := by
    cases m with
    | nil => rw [h2.1]; exact hp0.symm
    | cons q m => rw [h2.1]; intro e; exact hpm (by rw [← e]; simp)
  refine ⟨⟨?_, ?_, ?_⟩, ?_⟩
  · refine List.nodup_cons.2 ⟨by simp [h0l, h0m], ?_⟩
    exact List.nodup_append.2 ⟨hlnd, hmnd, fun x hx y hy e => hlm x hx (e ▸ hy)⟩
  · have key : Seg (upd (upd f (g p) (f p)) p 0) (upd (upd g (f p) (g p)) p 0) 0 l (f p) := by
      refine seg_turn h1 hndl ?_ ?_ ?_ ?_
      · intro z hz hze
        have hzp : z ≠ p := fun e => by subst e; rcases List.mem_cons.1 hz with hh | hh; exact hp0 hh; exact hpl hh
        rw [upd_other _ _ _ _ hzp, upd_other _ _ _ _ (by rw [hgp]; exact hze)]
      · intro z hz
        have hzp : z ≠ p := fun e => hpl (e ▸ hz)
        have hzf : z ≠ f p := by
          cases m with
          | nil => rw [h2.1]; intro e; exact h0l (e ▸ hz)
          | cons q m => rw [h2.1]; intro e; exact hlm z hz (by rw [e]; simp)
        rw [upd_other _ _ _ _ hzp, upd_other _ _ _ _ hzf]
      · rw [upd_other _ _ _ _ hendp, hgp, upd_same]
      · rw [upd_other _ _ _ _ hfp, upd_same, hgp]
    cases m with
    | nil =>
      have : f p = 0 := h2.1
      rw [this] at key
      rw [List.append_nil, this]
      exact key
    | cons q m =>
      have hq : f p = q := h2.1
      rw [hq] at key ⊢
      refine (seg_append _ _ 0 l q m 0).2 ⟨key, ?_⟩
      have hqm : (q :: m).Nodup := hmnd
      have h3 := h2.2.2
      have h3e := seg_end h3
      have hq0 : q ≠ 0 := fun e => h0m (by rw [e]; simp)
      have memq : ∀ z ∈ q :: m, z ≠ p ∧ z ≠ g p := by
        intro z hz
        refine ⟨fun e => hpm (e ▸ hz), fun e => ?_⟩
        rw [hgp] at e
        rw [e] at hz
        rcases List.mem_cons.1 hend with hh | hh
        · rw [hh] at hz; exact h0m hz
        · exact hlm _ hh hz
      refine seg_turn h3 hqm ?_ ?_ ?_ ?_
      · intro z hz _
        rw [upd_other _ _ _ _ (memq z hz).1, upd_other _ _ _ _ (memq z hz).2]
      · intro z hz
        have hzq : z ≠ q := fun e => (List.nodup_cons.1 hqm).1 (e ▸ hz)
        rw [upd_other _ _ _ _ (memq z (List.mem_cons_of_mem _ hz)).1, upd_other _ _ _ _ hzq]
      · have hm1 := memq _ (endOf_mem q m)
        rw [upd_other _ _ _ _ hm1.1, upd_other _ _ _ _ hm1.2]; exact h3e.2
      · rw [upd_other _ _ _ _ hp0.symm, upd_other _ _ _ _ hq0.symm]; exact h3e.1
  · intro z hz
    by_cases hzp : z = p
    · subst hzp; exact ⟨upd_same _ _ _, upd_same _ _ _⟩
    · have hz' : z ∉ 0 :: (l ++ p :: m) := by
        intro hh
        apply hz
        rcases List.mem_cons.1 hh with hh | hh
        · simp [hh]
        · rcases List.mem_append.1 hh with hh | hh
          · exact List.mem_cons_of_mem _ (List.mem_append_left _ hh)
          · rcases List.mem_cons.1 hh with hh | hh
            · exact absurd hh hzp
            · exact List.mem_cons_of_mem _ (List.mem_append_right _ hh)
      have hzg : z ≠ g p := by
        intro e; rw [hgp] at e; apply hz; rw [e]
        rcases List.mem_cons.1 hend with hh | hh
        · rw [hh]; simp
        · exact List.mem_cons_of_mem _ (List.mem_append_left _ hh)
      have hzf : z ≠ f p := by
        intro e; apply hz
        cases m with
        | nil => rw [e, h2.1]; simp
        | cons q m => rw [e, h2.1]; simp
      rw [upd_other _ _ _ _ hzp, upd_other _ _ _ _ hzp, upd_other _ _ _ _ hzg, upd_other _ _ _ _ hzf]
      exact ho z hz'
  · rw [hgp, upd_other _ _ _ _ hendp, upd_same, he.2]; exact hfp

set_option maxRecDepth 100000 in
/-- Hanging a place behind the last one. -/
theorem ring_hang {f g : Nat → Nat} {ps : List Nat} (h : Ring f g ps) (p : Nat) (hp0 : p ≠ 0) (hp : p ∉ ps) :
    Ring (upd (upd f (g 0) p) p 0) (upd (upd g p (g 0)) 0 p) (ps ++ [p]) := by
  obtain ⟨hnd, hs, ho⟩ := h
  have he := seg_end hs
  have hend := endOf_mem 0 ps
  have hendp : endOf 0 ps ≠ p := fun e => by
    rw [e] at hend
    rcases List.mem_cons.1 hend with hh | hh
    · exact hp0 hh
    · exact hp hh
  refine ⟨?_, ?_, ?_⟩
  · refine List.nodup_cons.2 ⟨?_, ?_⟩
    · simp [(List.nodup_cons.1 hnd).1, hp0.symm]
    · exact List.nodup_append.2 ⟨(List.nodup_cons.1 hnd).2, by simp, fun x hx y hy e => by simp at hy; subst hy; exact hp (e ▸ hx)⟩
  · refine (seg_append _ _ 0 ps p [] 0).2 ⟨?_, upd_same _ _ _, upd_same _ _ _⟩
    refine seg_turn hs hnd ?_ ?_ ?_ ?_
    · intro z hz hze
      have hzp : z ≠ p := fun e => by subst e; rcases List.mem_cons.1 hz with hh | hh; exact hp0 hh; exact hp hh
      rw [upd_other _ _ _ _ hzp, upd_other _ _ _ _ (by rw [he.1]; exact hze)]
    · intro z hz
      have hzp : z ≠ p := fun e => hp (e ▸ hz)
      have hz0 : z ≠ 0 := fun e => (List.nodup_cons.1 hnd).1 (e ▸ hz)
      rw [upd_other _ _ _ _ hz0, upd_other _ _ _ _ hzp]
    · rw [upd_other _ _ _ _ hendp, he.1, upd_same]
    · rw [upd_other _ _ _ _ hp0, upd_same, he.1]
  · intro z hz
    have hz0 : z ≠ 0 := fun e => hz (by simp [e])
    have hzp : z ≠ p := fun e => hz (by simp [e])
    have hzps : z ∉ ps := fun hh => hz (by simp [hh])
    have hzg : z ≠ g 0 := by
      intro e; rw [he.1] at e; rw [← e] at hend
      rcases List.mem_cons.1 hend with hh | hh
      · exact hz0 hh
      · exact hzps hh
    rw [upd_other _ _ _ _ hzp, upd_other _ _ _ _ hzg, upd_other _ _ _ _ hz0, upd_other _ _ _ _ hzp]
    exact ho z (by simp [hz0, hzps])

set_option maxRecDepth 100000 in
theorem ring_congr {f g f' g' : Nat → Nat} {ps : List Nat} (h : Ring f g ps) (hf : f = f') (hg : g = g') : Ring f' g' ps := by subst hf; subst hg; exact h

set_option maxRecDepth 100000 in
/-- The first and the last of a ring. -/
theorem ring_first {f g : Nat → Nat} {ps : List Nat} (h : Ring f g ps) : f 0 = ps.headD 0 := by
  obtain ⟨_, hs, _⟩ := h
  cases ps with
  | nil => exact hs.1
  | cons p l => exact hs.1
set_option maxRecDepth 100000 in
theorem endOf_last (a : Nat) (l : List Nat) : endOf a l = l.getLastD a := by
  induction l generalizing a with
  | nil => rfl
  | cons p l ih => simp only [endOf]; rw [ih p]; cases l <;> rfl
set_option maxRecDepth 100000 in
theorem ring_last {f g : Nat → Nat} {ps : List Nat} (h : Ring f g ps) : g 0 = ps.getLastD 0 := by
  rw [← endOf_last]; exact (seg_end h.2.1).1
set_option maxRecDepth 100000 in
/-- The next one of each place of a ring. -/
theorem ring_next {f g : Nat → Nat} {l m : List Nat} {p : Nat} (h : Ring f g (l ++ p :: m)) : f p = m.headD 0 := by
  obtain ⟨_, hs, _⟩ := h
  have := ((seg_append f g 0 l p m 0).1 hs).2
  cases m with
  | nil => exact this.1
  | cons q m => exact this.1

end Go.Proofs.Ytgdnfempcjlipaa.Lr

namespace Go.Proofs.Ytgdnfempcjlipaa.Lr
open Go.RowKit

/-- The cells of a list: its slots, the next ones, the last ones. -/
def lruCells (n : Nat) (nx la : List Nat) : Array Value := (Value.int .i64 n :: (nx ++ la).map fun (x : Nat) => Value.int .i64 x).toArray

set_option maxRecDepth 100000 in
theorem lru_get_n (n : Nat) (nx la : List Nat) : (lruCells n nx la)[0]? = some (.int .i64 n) := by simp [lruCells]
set_option maxRecDepth 100000 in
theorem lru_get_next (n : Nat) (nx la : List Nat) (p : Nat) (h : p < nx.length) : (lruCells n nx la)[1 + p]? = some (.int .i64 (nx[p] : Nat)) := by
  unfold lruCells
  rw [List.getElem?_toArray, Nat.add_comm, List.getElem?_cons_succ, List.map_append, List.getElem?_append_left (by simpa using h)]
  simp [h]
set_option maxRecDepth 100000 in
theorem lru_get_last (n : Nat) (nx la : List Nat) (p : Nat) (hx : nx.length = 257) (h : p < la.length) : (lruCells n nx la)[258 + p]? = some (.int .i64 (la[p] : Nat)) := by
  unfold lruCells
  rw [List.getElem?_toArray, show 258 + p = 257 + p + 1 by omega, List.getElem?_cons_succ, List.map_append, List.getElem?_append_right (by simp; omega)]
  simp [hx, h]
set_option maxRecDepth 100000 in
theorem lru_set_next (n : Nat) (nx la : List Nat) (p v : Nat) (h : p < nx.length) : (lruCells n nx la).setIfInBounds (1 + p) (.int .i64 (v : Nat)) = lruCells n (nx.set p v) la := by
  unfold lruCells
  rw [List.setIfInBounds_toArray, Nat.add_comm, List.set_cons_succ, List.map_append, List.set_append_left _ _ (by simpa using h), List.map_append, List.map_set]
set_option maxRecDepth 100000 in
theorem lru_set_last (n : Nat) (nx la : List Nat) (p v : Nat) (hx : nx.length = 257) : (lruCells n nx la).setIfInBounds (258 + p) (.int .i64 (v : Nat)) = lruCells n nx (la.set p v) := by
  unfold lruCells
  rw [List.setIfInBounds_toArray, show 258 + p = 257 + p + 1 by omega, List.set_cons_succ, List.map_append, List.set_append_right _ _ (by simp; omega), List.map_append, List.map_set]
  simp [hx]

/-- A row of numbers, as a function. -/
def fnOf (l : List Nat) : Nat → Nat := fun p => l.getD p 0
set_option maxRecDepth 100000 in
theorem fnOf_get (l : List Nat) (p : Nat) (h : p < l.length) : fnOf l p = l[p] := by simp [fnOf, h]
set_option maxRecDepth 100000 in
theorem fnOf_set (l : List Nat) (p v : Nat) (h : p < l.length) : fnOf (l.set p v) = upd (fnOf l) p v := by
  funext q
  unfold fnOf upd
  by_cases e : q = p
  · subst e; simp [h]
  · simp [e, List.getElem?_set, Ne.symm e]
set_option maxRecDepth 100000 in
theorem fnOf_zero (n : Nat) : fnOf (List.replicate n 0) = fun _ => 0 := by
  funext q
  simp only [fnOf, List.getD_eq_getElem?_getD, List.getElem?_replicate]
  split <;> rfl
set_option maxRecDepth 100000 in
theorem fnOf_inj {l m : List Nat} (hl : l.length = m.length) (h : fnOf l = fnOf m) : l = m := by
  apply List.ext_getElem hl
  intro i h1 h2
  have := congrFun h i
  rwa [fnOf_get l i h1, fnOf_get m i h2] at this

end Go.Proofs.Ytgdnfempcjlipaa.Lr

namespace Go.Proofs.Ytgdnfempcjlipaa.Lr
open Go.RowKit

/-- The block b is a list of n slots with the rows nx and la. -/
def RawL (w : World) (b n : Nat) (nx la : List Nat) : Prop := nx.length = 257 ∧ la.length = 257 ∧ w.heap[b]? = some (.cells (lruCells n nx la) 108 (0, 0))

set_option maxRecDepth 100000 in
theorem RawL.next {w : World} {b n : Nat} {nx la : List Nat} (h : RawL w b n nx la) (p : Nat) (hp : p < 257) : w.cell? ⟨b, 1 + p, none⟩ = some (.int .i64 (fnOf nx p : Nat)) := by
  rw [cell_of h.2.2, lru_get_next n nx la p (by rw [h.1]; exact hp), fnOf_get nx p (by rw [h.1]; exact hp)]
set_option maxRecDepth 100000 in
theorem RawL.last {w : World} {b n : Nat} {nx la : List Nat} (h : RawL w b n nx la) (p : Nat) (hp : p < 257) : w.cell? ⟨b, 258 + p, none⟩ = some (.int .i64 (fnOf la p : Nat)) := by
  rw [cell_of h.2.2, lru_get_last n nx la p h.1 (by rw [h.2.1]; exact hp), fnOf_get la p (by rw [h.2.1]; exact hp)]
set_option maxRecDepth 100000 in
theorem RawL.slots {w : World} {b n : Nat} {nx la : List Nat} (h : RawL w b n nx la) : w.cell? ⟨b, 0, none⟩ = some (.int .i64 n) := by
  rw [cell_of h.2.2, lru_get_n]
set_option maxRecDepth 100000 in
theorem RawL.free {w : World} {b n : Nat} {nx la : List Nat} (h : RawL w b n nx la) (i : Nat) : w.frozen? ⟨b, i, none⟩ = false := free_of h.2.2
set_option maxRecDepth 100000 in
theorem RawL.setNext {w : World} {b n : Nat} {nx la : List Nat} (h : RawL w b n nx la) (p v : Nat) (hp : p < 257) : RawL (w.setCell ⟨b, 1 + p, none⟩ (.int .i64 (v : Nat))) b n (nx.set p v) la :=
  ⟨by simpa using h.1, h.2.1, by rw [heap_set h.2.2, lru_set_next n nx la p v (by rw [h.1]; exact hp)]⟩
set_option maxRecDepth 100000 in
theorem RawL.setLast {w : World} {b n : Nat} {nx la : List Nat} (h : RawL w b n nx la) (p v : Nat) (hp : p < 257) : RawL (w.setCell ⟨b, 258 + p, none⟩ (.int .i64 (v : Nat))) b n nx (la.set p v) :=
  ⟨h.1, by simpa using h.2.1, by rw [heap_set h.2.2, lru_set_last n nx la p v h.1]⟩
set_option maxRecDepth 100000 in
theorem RawL.drewN {w : World} {b n : Nat} {nx la : List Nat} (h : RawL w b n nx la) (m : Nat) : RawL (w.drewN m) b n nx la := h
set_option maxRecDepth 100000 in
theorem RawL.lt {w : World} {b n : Nat} {nx la : List Nat} (h : RawL w b n nx la) : b < w.heap.size := lt_of_block h.2.2
set_option maxRecDepth 100000 in
theorem RawL.chg {S : List Nat} {w w' : World} {b n : Nat} {nx la : List Nat} (h : RawL w b n nx la) (hc : Chg S w w') (hb : b ∉ S) : RawL w' b n nx la := ⟨h.1, h.2.1, hc.keep h.2.2 hb⟩

set_option maxRecDepth 100000 in
theorem in_yes (b n p : Nat) (nx la : List Nat) (w : World) (h : RawL w b n nx la) (hp : p < 257) (hin : fnOf la p ≠ 0 ∨ fnOf nx 0 = p) :
    Calls Try.prog 68 #[.pointer (some ⟨b, 1, none⟩), .int .i64 p] w fun e w' => e = .returned (.bool true) ∧ w = w' := by
  have c1 := h.last p hp
  have c2 := h.next 0 (by decide)
  clear h
  have hi : (p : Int) < 257 := by omega
  by_cases h0 : fnOf la p = 0
  · have h1 : fnOf nx 0 = p := hin.resolve_left (by simpa using h0)
    rw [h0] at c1
    rw [h1] at c2
    clear hin h0 h1
    go_enter Try.func68, Try.ntmps68
    go_wp2
    go_ret
    exact ⟨rfl, rfl⟩
  · have t1 : ((fnOf la p : Int) != 0) = true := by simp; omega
    clear hin h0
    go_enter Try.func68, Try.ntmps68
    go_wp2
    go_ret
    exact ⟨rfl, rfl⟩

set_option maxRecDepth 100000 in
theorem in_no (b n p : Nat) (nx la : List Nat) (w : World) (h : RawL w b n nx la) (hp : p < 257) (hin : fnOf la p = 0) (hin2 : fnOf nx 0 ≠ p) :
    Calls Try.prog 68 #[.pointer (some ⟨b, 1, none⟩), .int .i64 p] w fun e w' => e = .returned (.bool false) ∧ w = w' := by
  have c1 := h.last p hp
  have c2 := h.next 0 (by decide)
  clear h
  have hi : (p : Int) < 257 := by omega
  rw [hin] at c1
  have t1 : ((fnOf nx 0 : Int) == (p : Int)) = false := by simp; omega
  clear hin hin2
  go_enter Try.func68, Try.ntmps68
  go_wp2
  go_ret
  exact ⟨rfl, rfl⟩

set_option maxRecDepth 100000 in
theorem cut_no (b n p : Nat) (nx la : List Nat) (w : World) (h : RawL w b n nx la) (hp : p < 257) (hin : fnOf la p = 0) (hin2 : fnOf nx 0 ≠ p) :
    Calls Try.prog 56 #[.pointer (some ⟨b, 1, none⟩), .int .i64 p] w fun e w' => e = .returned (.tuple #[]) ∧ w = w' := by
  go_enter Try.func56, Try.ntmps56
  go_wp2_with (go_at_call 68; refine (in_no b n p nx la _ h hp hin hin2).mono ?_; rintro e w' ⟨rfl, rfl⟩)
  refine bodyPost_ret (results_none (by rfl) _ _ _) rfl ?_
  exact ⟨rfl, rfl⟩

set_option maxRecDepth 100000 in
set_option maxHeartbeats 1000000 in
theorem cut_yes (b n p x y : Nat) (nx la : List Nat) (w : World) (h : RawL w b n nx la) (hp : p < 257) (hin : fnOf la p ≠ 0 ∨ fnOf nx 0 = p) (hx : fnOf la p = x) (hy : fnOf nx p = y) (hxb : x < 257) (hyb : y < 257) :
    Calls Try.prog 56 #[.pointer (some ⟨b, 1, none⟩), .int .i64 p] w fun e w' => e = .returned (.tuple #[]) ∧ RawL w' b n ((nx.set x y).set p 0) ((la.set y x).set p 0) ∧ Chg [b] w w' := by
  have c1 := h.last p hp
  have c2 := h.next p hp
  rw [hx] at c1
  rw [hy] at c2
  have HIN := Lib.hid hin
  clear hx hy hin
  have hi : (p : Int) < 257 := by omega
  have hix : (x : Int) < 257 := by omega
  have hiy : (y : Int) < 257 := by omega
  go_enter Try.func56, Try.ntmps56
  go_wp2_with (go_at_call 68; refine (in_yes b n p nx la _ h hp HIN.out).mono ?_; rintro e w' ⟨rfl, rfl⟩)
  go_quiet (fail)
  go_wp2
  refine wp_abs ?_
  intro w1 hw1
  have h1 : RawL w1 b n nx la := by rw [hw1]; exact h
  have hc1 : Chg [b] w w1 := by rw [hw1]; exact (Chg.refl _ _).drewN _
  clear hw1 c1 c2 h
  have c1 := h1.next x hxb
  have c2 := h1.last y hyb
  have f1 := h1.free (1 + x)
  have f2 := h1.free (258 + y)
  obtain ⟨v', hv'⟩ := cell_set_some' (w := w1) (p := ⟨b, 1 + x, none⟩) (x := .int .i64 (y : Nat)) (q := ⟨b, 258 + y, none⟩) c2
  go_region
  go_wp2
  refine wp_abs ?_
  intro w2 hw2
  have h2 : RawL w2 b n (nx.set x y) (la.set y x) := by rw [hw2]; exact (h1.setNext x y hxb).setLast y x hyb
  have hc2 : Chg [b] w w2 := by rw [hw2]; exact ((hc1.trans (Chg.set1 _ _ _ _)).trans (Chg.set1 _ _ _ _)).drew
  clear hw2 c1 c2 f1 f2 hv' h1 hc1
  have c1 := h2.next p hp
  have c2 := h2.last p hp
  have f1 := h2.free (1 + p)
  have f2 := h2.free (258 + p)
  obtain ⟨v'', hv''⟩ := cell_set_some' (w := w2) (p := ⟨b, 1 + p, none⟩) (x := .int .i64 0) (q := ⟨b, 258 + p, none⟩) c2
  go_region
  go_end0
  exact ⟨rfl, (h2.setNext p 0 hp).setLast p 0 hp, ((hc2.trans (Chg.set1 _ _ _ _)).trans (Chg.set1 _ _ _ _)).drew⟩

end Go.Proofs.Ytgdnfempcjlipaa.Lr

namespace Go.Proofs.Ytgdnfempcjlipaa.Lr
open Go.RowKit

set_option maxRecDepth 100000 in
theorem seg_next_mem {f g : Nat → Nat} {a : Nat} {l : List Nat} {b : Nat} (h : Seg f g a l b) : ∀ z ∈ a :: l, f z ∈ l ++ [b] := by
  induction l generalizing a with
  | nil => intro z hz; simp at hz; subst hz; simp [h.1]
  | cons p l ih =>
    intro z hz
    rcases List.mem_cons.1 hz with hh | hh
    · subst hh; rw [h.1]; simp
    · exact List.mem_cons_of_mem _ (ih h.2.2 z hh)
set_option maxRecDepth 100000 in
theorem seg_last_mem {f g : Nat → Nat} {a : Nat} {l : List Nat} {b : Nat} (h : Seg f g a l b) : ∀ z ∈ l ++ [b], g z ∈ a :: l := by
  induction l generalizing a with
  | nil => intro z hz; simp at hz; subst hz; simp [h.2]
  | cons p l ih =>
    intro z hz
    rw [List.cons_append] at hz
    rcases List.mem_cons.1 hz with hh | hh
    · subst hh; rw [h.2.1]; simp
    · exact List.mem_cons_of_mem _ (ih h.2.2 z hh)
set_option maxRecDepth 100000 in
theorem ring_bound {f g : Nat → Nat} {ps : List Nat} (h : Ring f g ps) (hb : ∀ x ∈ ps, x < 257) (p : Nat) : f p < 257 ∧ g p < 257 := by
  obtain ⟨_, hs, ho⟩ := h
  by_cases hp : p ∈ 0 :: ps
  · have h1 := seg_next_mem hs p hp
    have h2 := seg_last_mem hs p (by rcases List.mem_cons.1 hp with hh | hh; simp [hh]; simp [hh])
    constructor
    · rcases List.mem_append.1 h1 with hh | hh
      · exact hb _ hh
      · simp at hh; omega
    · rcases List.mem_cons.1 h2 with hh | hh
      · omega
      · exact hb _ hh
  · rw [(ho p hp).1, (ho p hp).2]; exact ⟨by decide, by decide⟩

/-- The block b is a list of n slots, of which those of row are in it, in that row. -/
def LruAt (w : World) (b n : Nat) (row : List Nat) : Prop :=
  n ≤ 256 ∧ (∀ x ∈ row, x < n) ∧ ∃ nx la, RawL w b n nx la ∧ Ring (fnOf nx) (fnOf la) (row.map (· + 1))

set_option maxRecDepth 100000 in
theorem LruAt.chg {S : List Nat} {w w' : World} {b n : Nat} {row : List Nat} (h : LruAt w b n row) (hc : Chg S w w') (hb : b ∉ S) : LruAt w' b n row := by
  obtain ⟨h1, h2, nx, la, h3, h4⟩ := h
  exact ⟨h1, h2, nx, la, h3.chg hc hb, h4⟩
set_option maxRecDepth 100000 in
theorem LruAt.lt {w : World} {b n : Nat} {row : List Nat} (h : LruAt w b n row) : b < w.heap.size := by
  obtain ⟨_, _, _, _, h3, _⟩ := h; exact h3.lt
set_option maxRecDepth 100000 in
theorem LruAt.nodup {w : World} {b n : Nat} {row : List Nat} (h : LruAt w b n row) : row.Nodup := by
  obtain ⟨_, _, nx, la, _, h4⟩ := h
  have h1 : (row.map (· + 1)).Pairwise (· ≠ ·) := (List.nodup_cons.1 h4.1).2
  rw [List.pairwise_map] at h1
  exact h1.imp fun hne e => hne (by rw [e])

set_option maxRecDepth 100000 in
theorem nodup_le (n : Nat) : ∀ (l : List Nat), l.Nodup → (∀ x ∈ l, x < n) → l.length ≤ n := by
  induction n with
  | zero =>
    intro l _ hlt
    cases l with
    | nil => simp
    | cons x l => exact absurd (hlt x (by simp)) (by simp)
  | succ n ih =>
    intro l hnd hlt
    have h1 := ih (l.erase n) (hnd.erase n) (fun x hx => by
      have h2 := (hnd.mem_erase_iff).1 hx
      have := hlt x h2.2
      omega)
    have h2 : l.length - 1 ≤ (l.erase n).length := by
      rw [List.length_erase]; split <;> omega
    omega
set_option maxRecDepth 100000 in
theorem LruAt.len {w : World} {b n : Nat} {row : List Nat} (h : LruAt w b n row) : row.length ≤ 256 :=
  Nat.le_trans (nodup_le n row h.nodup h.2.1) h.1

set_option maxRecDepth 100000 in
set_option maxHeartbeats 1000000 in
theorem hang_any (b n p x : Nat) (nx la : List Nat) (w : World) (h : RawL w b n nx la) (hp : p < 257) (hx : fnOf la 0 = x) (hxb : x < 257) :
    Calls Try.prog 57 #[.pointer (some ⟨b, 1, none⟩), .int .i64 p] w fun e w' => e = .returned (.tuple #[]) ∧ RawL w' b n ((nx.set x p).set p 0) ((la.set p x).set 0 p) ∧ Chg [b] w w' := by
  have c0 := h.last 0 (by decide)
  rw [hx] at c0
  clear hx
  have c1 := h.next x hxb
  have c2 := h.last p hp
  have f1 := h.free (1 + x)
  have f2 := h.free (258 + p)
  have hi : (p : Int) < 257 := by omega
  have hix : (x : Int) < 257 := by omega
  obtain ⟨v', hv'⟩ := cell_set_some' (w := w) (p := ⟨b, 1 + x, none⟩) (x := .int .i64 (p : Nat)) (q := ⟨b, 258 + p, none⟩) c2
  go_enter Try.func57, Try.ntmps57
  go_wp2
  go_region
  go_wp2
  refine wp_abs ?_
  intro w2 hw2
  have h2 : RawL w2 b n (nx.set x p) (la.set p x) := by rw [hw2]; exact (h.setNext x p hxb).setLast p x hp
  have hc2 : Chg [b] w w2 := by rw [hw2]; exact ((Chg.set1 _ _ _ _).trans (Chg.set1 _ _ _ _)).drew
  clear hw2 c0 c1 c2 f1 f2 hv' h
  have c1 := h2.next p hp
  have c2 := h2.last 0 (by decide)
  have f1 := h2.free (1 + p)
  have f2 := h2.free (258 + 0)
  obtain ⟨v'', hv''⟩ := cell_set_some' (w := w2) (p := ⟨b, 1 + p, none⟩) (x := .int .i64 0) (q := ⟨b, 258 + 0, none⟩) c2
  go_region
  go_end0
  exact ⟨rfl, (h2.setNext p 0 hp).setLast 0 p (by decide), ((hc2.trans (Chg.set1 _ _ _ _)).trans (Chg.set1 _ _ _ _)).drew⟩

set_option maxRecDepth 100000 in
theorem slot_nil (at_ : Int) (w : World) :
    Calls Try.prog 55 #[.pointer none, .int .i64 at_] w fun e w' => e = .returned (.bool false) ∧ w = w' := by
  go_enter Try.func55, Try.ntmps55
  go_wp2
  go_ret
  exact ⟨rfl, rfl⟩
set_option maxRecDepth 100000 in
theorem slot_in (b n at_ : Nat) (row : List Nat) (w : World) (h : LruAt w b n row) (hat : at_ < n) :
    Calls Try.prog 55 #[.pointer (some ⟨b, 0, none⟩), .int .i64 at_] w fun e w' => e = .returned (.bool true) ∧ w = w' := by
  obtain ⟨_, _, nx, la, hr, _⟩ := h
  have c0 := hr.slots
  have t1 : decide (0 ≤ (at_ : Int)) = true := by simp
  clear hr
  go_enter Try.func55, Try.ntmps55
  go_wp2
  go_ret
  exact ⟨rfl, rfl⟩
set_option maxRecDepth 100000 in
theorem slot_out (b n : Nat) (at_ : Int) (row : List Nat) (w : World) (h : LruAt w b n row) (hat : at_ < 0 ∨ (n : Int) ≤ at_) :
    Calls Try.prog 55 #[.pointer (some ⟨b, 0, none⟩), .int .i64 at_] w fun e w' => e = .returned (.bool false) ∧ w = w' := by
  obtain ⟨_, _, nx, la, hr, _⟩ := h
  have c0 := hr.slots
  clear hr
  by_cases h0 : at_ < 0
  · have t1 : decide (0 ≤ at_) = false := by simp; omega
    clear hat
    go_enter Try.func55, Try.ntmps55
    go_wp2
    go_ret
    exact ⟨rfl, rfl⟩
  · have t1 : decide (0 ≤ at_) = true := by simp; omega
    have t2 : decide (at_ < (n : Int)) = false := by simp; omega
    clear hat
    go_enter Try.func55, Try.ntmps55
    go_wp2
    go_ret
    exact ⟨rfl, rfl⟩

/-- What the row is behind a use of a slot. -/
def useL (row : List Nat) (x : Nat) : List Nat := row.filter (· ≠ x) ++ [x]
/-- What the row is behind a drop of a slot. -/
def dropL (row : List Nat) (x : Nat) : List Nat := row.filter (· ≠ x)

set_option maxRecDepth 100000 in
theorem map_filter_succ (row : List Nat) (x : Nat) : (row.map (· + 1)).filter (· ≠ x + 1) = (row.filter (· ≠ x)).map (· + 1) := by
  induction row with
  | nil => rfl
  | cons y l ih =>
    simp only [List.map_cons, List.filter_cons, ih]
    by_cases e : y = x
    · subst e; simp
    · simp [e]
set_option maxRecDepth 100000 in
theorem mem_succ (row : List Nat) (x : Nat) : x + 1 ∈ row.map (· + 1) ↔ x ∈ row := by simp

set_option maxRecDepth 100000 in
/-- cut, on a list. -/
theorem cut_row (b n x : Nat) (row : List Nat) (pv : Int) (w : World) (h : LruAt w b n row) (hx : x < n) (hpv : pv = ((x + 1 : Nat) : Int)) :
    Calls Try.prog 56 #[.pointer (some ⟨b, 1, none⟩), .int .i64 pv] w fun e w' => e = .returned (.tuple #[]) ∧ LruAt w' b n (dropL row x) ∧ Chg [b] w w' := by
  subst hpv
  obtain ⟨hn, hlt, nx, la, hr, hring⟩ := h
  have hiff := ring_in hring (x + 1) (by omega)
  rw [mem_succ] at hiff
  have hb := ring_bound hring (by intro y hy; simp at hy; obtain ⟨z, hz, rfl⟩ := hy; have := hlt z hz; omega)
  have hlt' : ∀ y ∈ dropL row x, y < n := fun y hy => hlt y (List.mem_filter.1 hy).1
  by_cases hm : x ∈ row
  · refine (cut_yes b n (x + 1) _ _ nx la w hr (by omega) (hiff.2 hm) rfl rfl (hb _).2 (hb _).1).mono ?_
    rintro e w' ⟨rfl, hr', hc⟩
    refine ⟨rfl, ⟨hn, hlt', _, _, hr', ?_⟩, hc⟩
    have hc1 := (ring_cut hring (x + 1) ((mem_succ row x).2 hm)).1
    rw [map_filter_succ] at hc1
    refine ring_congr hc1 ?_ ?_
    · rw [fnOf_set _ _ _ (by simp [hr.1]; omega), fnOf_set _ _ _ (by rw [hr.1]; exact (hb _).2)]
    · rw [fnOf_set _ _ _ (by simp [hr.2.1]; omega), fnOf_set _ _ _ (by rw [hr.2.1]; exact (hb _).1)]
  · have hno : ¬ (fnOf la (x + 1) ≠ 0 ∨ fnOf nx 0 = x + 1) := fun hh => hm (hiff.1 hh)
    have h1 : fnOf la (x + 1) = 0 := Classical.byContradiction fun hh => hno (.inl hh)
    have h2 : fnOf nx 0 ≠ x + 1 := fun hh => hno (.inr hh)
    refine (cut_no b n (x + 1) nx la w hr (by omega) h1 h2).mono ?_
    rintro e w' ⟨rfl, rfl⟩
    refine ⟨rfl, ⟨hn, hlt', nx, la, hr, ?_⟩, Chg.refl _ _⟩
    have : dropL row x = row := List.filter_eq_self.2 fun y hy => by simp; intro e; exact hm (e ▸ hy)
    rw [this]; exact hring

set_option maxRecDepth 100000 in
/-- hang, on a list. -/
theorem hang_row (b n x : Nat) (row : List Nat) (pv : Int) (w : World) (h : LruAt w b n row) (hx : x < n) (hm : x ∉ row) (hpv : pv = ((x + 1 : Nat) : Int)) :
    Calls Try.prog 57 #[.pointer (some ⟨b, 1, none⟩), .int .i64 pv] w fun e w' => e = .returned (.tuple #[]) ∧ LruAt w' b n (row ++ [x]) ∧ Chg [b] w w' := by
  subst hpv
  obtain ⟨hn, hlt, nx, la, hr, hring⟩ := h
  have hb := ring_bound hring (by intro y hy; simp at hy; obtain ⟨z, hz, rfl⟩ := hy; have := hlt z hz; omega)
  refine (hang_any b n (x + 1) _ nx la w hr (by omega) rfl (hb _).2).mono ?_
  rintro e w' ⟨rfl, hr', hc⟩
  refine ⟨rfl, ⟨hn, ?_, _, _, hr', ?_⟩, hc⟩
  · intro y hy
    rcases List.mem_append.1 hy with hh | hh
    · exact hlt y hh
    · simp at hh; omega
  · have hc1 := ring_hang hring (x + 1) (by omega) (fun hh => hm ((mem_succ row x).1 hh))
    rw [List.map_append]
    refine ring_congr hc1 ?_ ?_
    · rw [fnOf_set _ _ _ (by simp [hr.1]; omega), fnOf_set _ _ _ (by rw [hr.1]; exact (hb _).2)]
    · rw [fnOf_set _ _ _ (by simp [hr.2.1]), fnOf_set _ _ _ (by rw [hr.2.1]; omega)]

set_option maxRecDepth 100000 in
theorem use_nil (at_ : Int) (w : World) :
    Calls Try.prog 33 #[.pointer none, .int .i64 at_] w fun e w' => e = .returned (.int .i64 2) ∧ w = w' := by
  go_enter Try.func33, Try.ntmps33
  go_wp2
  go_ret
  exact ⟨rfl, rfl⟩
set_option maxRecDepth 100000 in
theorem use_out (b n : Nat) (at_ : Int) (row : List Nat) (w : World) (h : LruAt w b n row) (hat : at_ < 0 ∨ (n : Int) ≤ at_) :
    Calls Try.prog 33 #[.pointer (some ⟨b, 0, none⟩), .int .i64 at_] w fun e w' => e = .returned (.int .i64 1) ∧ w = w' := by
  have HS := Lib.hid hat
  clear hat
  go_enter Try.func33, Try.ntmps33
  go_wp2_with fail
  refine (slot_out b n at_ row _ h HS.out).mono ?_
  rintro e w' ⟨rfl, rfl⟩
  go_wp2
  go_ret
  exact ⟨rfl, rfl⟩
set_option maxRecDepth 100000 in
theorem use_in (b n x : Nat) (row : List Nat) (w : World) (h : LruAt w b n row) (hx : x < n) :
    Calls Try.prog 33 #[.pointer (some ⟨b, 0, none⟩), .int .i64 x] w fun e w' => e = .returned (.int .i64 0) ∧ LruAt w' b n (useL row x) ∧ Chg [b] w w' := by
  have hn := h.1
  go_enter Try.func33, Try.ntmps33
  go_wp2_with fail
  refine (slot_in b n x row _ h hx).mono ?_
  rintro e w' ⟨rfl, rfl⟩
  go_wp2_with fail
  refine (cut_row b n x row _ _ h hx (by omega)).mono ?_
  rintro e w1 ⟨rfl, h1, hc1⟩
  go_wp2_with fail
  refine (hang_row b n x _ _ _ h1 hx (by simp [dropL]) (by omega)).mono ?_
  rintro e w2 ⟨rfl, h2, hc2⟩
  go_wp2
  go_ret
  exact ⟨rfl, h2, hc1.trans hc2⟩

end Go.Proofs.Ytgdnfempcjlipaa.Lr

namespace Go.Proofs.Ytgdnfempcjlipaa.Lr
open Go.RowKit

def zerosL : List Nat := List.replicate 257 0
set_option maxRecDepth 100000 in
theorem zerosL_length : zerosL.length = 257 := by unfold zerosL; exact List.length_replicate
set_option maxRecDepth 100000 in
theorem lru_zero (w : World) : (zeroValue 108).run Try.prog w = .ok (.agg (lruCells 0 zerosL zerosL)) w := by kernel_rfl
set_option maxRecDepth 100000 in
theorem lru_size : (Try.prog.info? 108).map (·.size) = some 515 := by kernel_rfl
set_option maxRecDepth 100000 in
theorem lruCells_size (n : Nat) (nx la : List Nat) (h1 : nx.length = 257) (h2 : la.length = 257) : (lruCells n nx la).size = 515 := by simp [lruCells, h1, h2]
set_option maxRecDepth 100000 in
theorem lruCells_one (n : Nat) (nx la : List Nat) : (lruCells n nx la).all (·.oneCell') = true := by
  simp only [lruCells, Array.all_eq_true]
  intro i hi
  simp only [List.getElem_toArray]
  cases i with
  | zero => rfl
  | succ i => simp only [List.getElem_cons_succ, List.getElem_map]; rfl

set_option maxRecDepth 100000 in
theorem copy_nil (w : World) :
    Calls Try.prog 43 #[.pointer none] w fun e w' => e = .returned (.pointer none) ∧ w = w' := by
  go_enter Try.func43, Try.ntmps43
  go_wp2
  go_ret
  exact ⟨rfl, rfl⟩

set_option maxRecDepth 100000 in
theorem copy_any (b n : Nat) (row : List Nat) (w : World) (h : LruAt w b n row) :
    Calls Try.prog 43 #[.pointer (some ⟨b, 0, none⟩)] w fun e w' => e = .returned (.pointer (some ⟨w.heap.size, 0, none⟩)) ∧ LruAt w' w.heap.size n row ∧ LruAt w' b n row ∧ Chg [] w w' := by
  have h0 := h
  obtain ⟨hn, hlt, nx, la, hr, hring⟩ := h
  have hz := lru_zero
  have hst := run_storeCells_new (P := Try.prog) w 108 (lruCells 0 zerosL zerosL) (lruCells n nx la) (by rw [lru_size, lruCells_size _ _ _ hr.1 hr.2.1]) (by rw [lruCells_size _ _ _ hr.1 hr.2.1, lruCells_size _ _ _ zerosL_length zerosL_length]) (lruCells_one _ _ _)
  have hsz := lruCells_size n nx la hr.1 hr.2.1
  have HR := Lib.hid hr
  have HSZ := Lib.hid (show (Try.prog.info? 108).map (·.size) = some (lruCells n nx la).size by rw [lru_size, lruCells_size _ _ _ hr.1 hr.2.1])
  have HRING := Lib.hid hring
  have HLT := Lib.hid hlt
  have H0 := Lib.hid h0
  clear hr hring hlt h0
  go_enter Try.func43, Try.ntmps43
  go_wp2_with (refine wpList_load_row rfl 108 _ rfl b rfl 108 _ (0, 0) _ HR.out.2.2 Try.underlying108 rfl HSZ.out ?_)
  go_ret
  exact ⟨rfl, ⟨hn, HLT.out, nx, la, ⟨HR.out.1, HR.out.2.1, heap_new _ _⟩, HRING.out⟩, H0.out.chg (S := []) ((Chg.refl _ _).alloc _) (by simp), (Chg.refl _ _).alloc _⟩

set_option maxRecDepth 100000 in
theorem lru_set_n (m n : Nat) (nx la : List Nat) : (lruCells m nx la).setIfInBounds 0 (.int .i64 (n : Nat)) = lruCells n nx la := by
  unfold lruCells
  rw [List.setIfInBounds_toArray, List.set_cons_zero]

set_option maxRecDepth 100000 in
theorem ring_zero : Ring (fnOf zerosL) (fnOf zerosL) [] := by
  have : fnOf zerosL = fun _ => 0 := fnOf_zero 257
  rw [this]; exact ring_empty

set_option maxRecDepth 100000 in
theorem new_out (n : Int) (w : World) (hn : n < 0 ∨ 256 < n) :
    Calls Try.prog 45 #[.int .i64 n] w fun e w' => e = .returned (.tuple #[.pointer none, .int .i64 1]) ∧ w = w' := by
  rcases hn with hn | hn
  · go_enter Try.func45, Try.ntmps45
    go_wp2
    go_ret2
    exact ⟨rfl, rfl⟩
  · have h1 : ¬ n < 0 := by omega
    go_enter Try.func45, Try.ntmps45
    go_wp2
    go_ret2
    exact ⟨rfl, rfl⟩

set_option maxRecDepth 100000 in
theorem new_in (n : Nat) (w : World) (hn : n ≤ 256) :
    Calls Try.prog 45 #[.int .i64 n] w fun e w' => e = .returned (.tuple #[.pointer (some ⟨w.heap.size, 0, none⟩), .int .i64 0]) ∧ LruAt w' w.heap.size n [] ∧ Chg [] w w' := by
  have hz := lru_zero
  have hd : decide ((n : Int) < 0) = false := by simp
  go_enter Try.func45, Try.ntmps45
  go_wp2
  go_ret2
  rw [lru_set_n]
  exact ⟨rfl, ⟨hn, by simp, zerosL, zerosL, ⟨zerosL_length, zerosL_length, heap_new _ _⟩, ring_zero⟩, (Chg.refl _ _).alloc _⟩

set_option maxRecDepth 100000 in
theorem oldest_nil (w : World) :
    Calls Try.prog 49 #[.pointer none] w fun e w' => e = .returned (.tuple #[.int .i64 0, .bool false]) ∧ w = w' := by
  go_enter Try.func49, Try.ntmps49
  go_wp2
  go_ret2
  exact ⟨rfl, rfl⟩
/-- The first of a row, or 0; is there one? -/
def firstOf (row : List Nat) : Nat := row.headD 0
def lastOf (row : List Nat) : Nat := row.getLastD 0

set_option maxRecDepth 100000 in
theorem oldest_any (b n x : Nat) (r : Bool) (row : List Nat) (w : World) (h : LruAt w b n row) (hx : x = firstOf row) (hr : r = !row.isEmpty) :
    Calls Try.prog 49 #[.pointer (some ⟨b, 0, none⟩)] w fun e w' => e = .returned (.tuple #[.int .i64 x, .bool r]) ∧ w = w' := by
  have hle := h.1
  obtain ⟨hn, hlt, nx, la, hraw, hring⟩ := h
  have c1 := hraw.next 0 (by decide)
  rw [ring_first hring] at c1
  cases row with
  | nil =>
    subst hx; subst hr
    simp only [List.map_nil, List.headD_nil] at c1
    clear hraw hring
    go_enter Try.func49, Try.ntmps49
    go_wp2
    go_ret2
    exact ⟨rfl, rfl⟩
  | cons y l =>
    have hyn : y < n := hlt y (by simp)
    have hxy : x = y := hx
    have hrt : r = true := hr
    subst hxy; subst hrt
    simp only [List.map_cons, List.headD_cons] at c1
    have t1 : (((x + 1 : Nat) : Int) == 0) = false := by simp; omega
    have t2 : (((x + 1 : Nat) : Int) - 1) = (x : Int) := by omega
    clear hraw hring hlt hx hr
    go_enter Try.func49, Try.ntmps49
    go_wp2
    go_ret2
    exact ⟨by congr 2, rfl⟩

set_option maxRecDepth 100000 in
theorem getLastD_map_succ (y : Nat) (l : List Nat) : ((y :: l).map (· + 1)).getLastD 0 = (y :: l).getLastD 0 + 1 := by
  rw [List.getLastD_eq_getLast?, List.getLastD_eq_getLast?, List.getLast?_map]
  cases h : (y :: l).getLast? with
  | none => simp at h
  | some z => rfl
set_option maxRecDepth 100000 in
theorem getLastD_mem (y : Nat) (l : List Nat) : (y :: l).getLastD 0 ∈ y :: l := by
  rw [List.getLastD_eq_getLast?]
  cases h : (y :: l).getLast? with
  | none => simp at h
  | some z => exact List.mem_of_getLast? h

set_option maxRecDepth 100000 in
theorem has_nil (at_ : Int) (w : World) :
    Calls Try.prog 50 #[.pointer none, .int .i64 at_] w fun e w' => e = .returned (.bool false) ∧ w = w' := by
  go_enter Try.func50, Try.ntmps50
  go_wp2_with (go_at_call 55; refine (slot_nil at_ _).mono ?_; rintro e w' ⟨rfl, rfl⟩)
  go_ret
  exact ⟨rfl, rfl⟩
set_option maxRecDepth 100000 in
theorem has_out (b n : Nat) (at_ : Int) (row : List Nat) (w : World) (h : LruAt w b n row) (hat : at_ < 0 ∨ (n : Int) ≤ at_) :
    Calls Try.prog 50 #[.pointer (some ⟨b, 0, none⟩), .int .i64 at_] w fun e w' => e = .returned (.bool false) ∧ w = w' := by
  have HS := Lib.hid hat
  clear hat
  go_enter Try.func50, Try.ntmps50
  go_wp2_with (go_at_call 55; refine (slot_out b n at_ row _ h HS.out).mono ?_; rintro e w' ⟨rfl, rfl⟩)
  go_ret
  exact ⟨rfl, rfl⟩

set_option maxRecDepth 100000 in
theorem in_at (b n p : Nat) (pv : Int) (nx la : List Nat) (ps : List Nat) (w : World) (h : RawL w b n nx la) (hring : Ring (fnOf nx) (fnOf la) ps) (hp0 : p ≠ 0) (hp : p < 257) (hpv : pv = p) (r : Bool) (hr : r = decide (p ∈ ps)) :
    Calls Try.prog 68 #[.pointer (some ⟨b, 1, none⟩), .int .i64 pv] w fun e w' => e = .returned (.bool r) ∧ w = w' := by
  subst hpv
  have hiff := ring_in hring p hp0
  by_cases hm : p ∈ ps
  · rw [hr, decide_eq_true hm]
    exact in_yes b n p nx la w h hp (hiff.2 hm)
  · rw [hr, decide_eq_false hm]
    have hno : ¬ (fnOf la p ≠ 0 ∨ fnOf nx 0 = p) := fun hh => hm (hiff.1 hh)
    exact in_no b n p nx la w h hp (Classical.byContradiction fun hh => hno (.inl hh)) (fun hh => hno (.inr hh))

set_option maxRecDepth 100000 in
theorem has_in (b n x : Nat) (r : Bool) (row : List Nat) (w : World) (h : LruAt w b n row) (hx : x < n) (hr : r = decide (x ∈ row)) :
    Calls Try.prog 50 #[.pointer (some ⟨b, 0, none⟩), .int .i64 x] w fun e w' => e = .returned (.bool r) ∧ w = w' := by
  have h0 := h
  obtain ⟨hn, hlt, nx, la, hraw, hring⟩ := h
  have hr2 : r = decide (x + 1 ∈ row.map (· + 1)) := by rw [hr]; congr 1; rw [mem_succ]
  have HR := Lib.hid hr2
  clear hr hr2 hlt
  go_enter Try.func50, Try.ntmps50
  go_wp2_with fail
  refine (slot_in b n x row _ h0 hx).mono ?_
  rintro e w' ⟨rfl, rfl⟩
  go_wp2_with fail
  refine (in_at b n (x + 1) _ nx la _ _ hraw hring (by omega) (by omega) (by omega) r HR.out).mono ?_
  rintro e w' ⟨rfl, rfl⟩
  go_wp2
  go_ret
  exact ⟨rfl, rfl⟩

end Go.Proofs.Ytgdnfempcjlipaa.Lr

namespace Go.Proofs.Ytgdnfempcjlipaa.Lr
open Go.RowKit

set_option maxRecDepth 100000 in
theorem Try.elemInt : (Try.prog.info? 3).map (fun i => (i.zero, i.size, i.bytes)) = some (some (.int .i64 0), 1, 8) := by kernel_rfl

def lenOf : Value → Nat | .slice _ n _ => n | _ => 0
set_option maxRecDepth 100000 in
theorem owns_len {w : World} {base : Nat} {t : TypeId} {sz : Nat} {v : Value} {n : Nat} {xs : List Value} (h : w.ownsRow base t sz v n xs) : ∃ a c, v = .slice a n c := by
  obtain ⟨_, h⟩ := h
  rcases h with ⟨rfl, rfl⟩ | ⟨g, cap, cur, rfl, _⟩
  · exact ⟨none, 0, rfl⟩
  · exact ⟨_, _, rfl⟩
set_option maxRecDepth 100000 in
theorem owns_block {w : World} {base : Nat} {t : TypeId} {sz : Nat} {v : Value} {n : Nat} {xs : List Value} (h : w.ownsRow base t sz v n xs) : ∀ k, v.ownBlock = some k → k ∈ ([] : List Nat) ∨ base ≤ k := by
  intro k hk
  obtain ⟨_, h⟩ := h
  rcases h with ⟨rfl, _⟩ | ⟨g, cap, cur, rfl, hg, _⟩
  · simp [Value.ownBlock] at hk
  · simp [Value.ownBlock] at hk; exact .inr (by omega)

/-- The slice v is a row of the call's own that reads as l. -/
abbrev OwnI (base : Nat) (w : World) (v : Value) (l : List Nat) : Prop := w.ownsRow base 3 1 v l.length (l.map fun (x : Nat) => Value.int .i64 x)

/-- The place of the first of a row, or 0. -/
def headP (m : List Nat) : Nat := (m.map (· + 1)).headD 0

def RowRel (row : List Nat) (w : World) (v p : Value) (wr : World) : Prop :=
  ∃ l m : List Nat, row = l ++ m ∧ p = .int .i64 (headP m : Nat) ∧ OwnI w.heap.size wr v l ∧ Chg [] w wr

set_option maxRecDepth 100000 in
set_option maxHeartbeats 1000000 in
theorem row_any (b n : Nat) (row : List Nat) (w : World) (h : LruAt w b n row) :
    Calls Try.prog 39 #[.pointer (some ⟨b, 0, none⟩)] w fun e w' => ∃ v, e = .returned v ∧ OwnI w.heap.size w' v row ∧ Chg [] w w' := by
  have hlen := h.len
  obtain ⟨hn, hlt, nx, la, hraw, hring⟩ := h
  obtain ⟨i0, hi0, hz0, hz1, hz2⟩ := info_parts Try.elemInt
  have c1 := hraw.next 0 (by decide)
  rw [ring_first hring, show (row.map (· + 1)).headD 0 = headP row from rfl] at c1
  have HLT := Lib.hid hlt
  clear hlt
  go_enter Try.func39, Try.ntmps39
  go_wp2
  go_loopw [3, 4] (RowRel row w) (fun v _ _ => 300 - lenOf v)
  case atStart => exact ⟨[], row, rfl, rfl, ⟨rfl, .inl ⟨rfl, rfl⟩⟩, Chg.refl _ _⟩
  case round =>
    clear c1
    obtain ⟨l, m, hrow, rfl, hown, hc⟩ := hrel
    obtain ⟨av, cv, hv⟩ := owns_len hown
    cases m with
    | nil =>
      have hrl : row = l := by simpa using hrow
      subst hrl
      clear hrow
      rw [show headP [] = 0 from rfl]
      go_wp2
      go_ret
      exact ⟨_, rfl, hown, hc⟩
    | cons y m =>
      have hyn : y < n := HLT.out y (by rw [hrow]; simp)
      have hll : l.length < 256 := by
        have : row.length = l.length + (m.length + 1) := by rw [hrow]; simp
        omega
      have hnx := hraw.next (y + 1) (by omega)
      have hr2 : Ring (fnOf nx) (fnOf la) (l.map (· + 1) ++ (y + 1) :: m.map (· + 1)) := by
        have e : row.map (· + 1) = l.map (· + 1) ++ (y + 1) :: m.map (· + 1) := by rw [hrow]; simp
        rw [← e]; exact hring
      rw [ring_next hr2, show (m.map (· + 1)).headD 0 = headP m from rfl] at hnx
      obtain ⟨z, hz⟩ : ∃ z, z = headP m := ⟨_, rfl⟩
      rw [← hz] at hnx
      have HZ := Lib.hid hz
      have HROW := Lib.hid hrow
      have HOWN := Lib.hid hown
      have HNX := Lib.hid hnx
      have hi : ((y : Int) + 1) < 257 := by omega
      have t1 : (((y + 1 : Nat) : Int) != 0) = true := by simp; omega
      rw [show headP (y :: m) = y + 1 from rfl]
      clear hz hrow hown hr2 hnx
      rw [hv] at HOWN ⊢
      have hlv : lenOf (.slice av l.length cv) = l.length := rfl
      clear hv
      go_wp2_with (at_builtin; go_must (refine wpList_append_own _ rfl _ _ 75 rfl w.heap.size 3 i0 (.int .i64 0) 1 8 Try.underlying75 hi0 hz0 hz1 hz2 rfl (by decide) _ l.length _ rfl (HOWN.out.alloc _) ⟨wr.heap.size, 0, none⟩ 1 1 [.int .i64 (y : Nat)] rfl rfl (cell_one_new _ _ _) (by simp [Value.oneCell']) (by unfold maxLen; omega) (by omega) (by have := hc.size; simp; omega) ?_); go_must (intro v1 w1 hown1 hg1 _; have hc1 := (hc.alloc (.cells #[.int .i64 (y : Nat)] 3)).grown hg1 (owns_block HOWN.out); have hnx1 := hc1.cell HNX.out (by simp)))
      go_roundw
      case rel =>
        refine ⟨l ++ [y], m, by rw [HROW.out]; simp, by rw [← HZ.out], ?_, hc1⟩
        have e : (l ++ [y]).map (fun (x : Nat) => Value.int .i64 x) = l.map (fun (x : Nat) => Value.int .i64 x) ++ [.int .i64 (y : Nat)] := by simp
        unfold OwnI
        rw [e, List.length_append]
        exact hown1
      case measure =>
        obtain ⟨a1, c1, rfl⟩ := owns_len hown1
        simp [lenOf]; omega

set_option maxRecDepth 100000 in
theorem row_nil (w : World) :
    Calls Try.prog 39 #[.pointer none] w fun e w' => e = .returned (.slice none 0 0) ∧ w = w' := by
  go_enter Try.func39, Try.ntmps39
  go_wp2
  go_ret
  exact ⟨rfl, rfl⟩

set_option maxRecDepth 100000 in
theorem len_nil (w : World) :
    Calls Try.prog 35 #[.pointer none] w fun e w' => e = .returned (.int .i64 0) ∧ w = w' := by
  go_enter Try.func35, Try.ntmps35
  go_wp2_with (go_at_call 39; refine (row_nil _).mono ?_; rintro e w' ⟨rfl, rfl⟩)
  go_ret
  exact ⟨rfl, rfl⟩

set_option maxRecDepth 100000 in
theorem len_any (b n : Nat) (row : List Nat) (w : World) (h : LruAt w b n row) :
    Calls Try.prog 35 #[.pointer (some ⟨b, 0, none⟩)] w fun e w' => e = .returned (.int .i64 row.length) ∧ Chg [] w w' := by
  have hlen := h.len
  go_enter Try.func35, Try.ntmps35
  go_wp2_with fail
  refine (row_any b n row _ h).mono ?_
  rintro e w1 ⟨v, rfl, hown, hc⟩
  obtain ⟨a1, c1, rfl⟩ := owns_len hown
  go_wp2
  go_ret
  exact ⟨rfl, hc⟩

set_option maxRecDepth 100000 in
theorem drop_nil (at_ : Int) (w : World) :
    Calls Try.prog 67 #[.pointer none, .int .i64 at_] w fun e w' => e = .returned (.bool false) ∧ w = w' := by
  go_enter Try.func67, Try.ntmps67
  go_wp2_with (go_at_call 55; refine (slot_nil at_ _).mono ?_; rintro e w' ⟨rfl, rfl⟩)
  go_ret
  exact ⟨rfl, rfl⟩
set_option maxRecDepth 100000 in
theorem drop_out (b n : Nat) (at_ : Int) (row : List Nat) (w : World) (h : LruAt w b n row) (hat : at_ < 0 ∨ (n : Int) ≤ at_) :
    Calls Try.prog 67 #[.pointer (some ⟨b, 0, none⟩), .int .i64 at_] w fun e w' => e = .returned (.bool false) ∧ w = w' := by
  have HS := Lib.hid hat
  clear hat
  go_enter Try.func67, Try.ntmps67
  go_wp2_with (go_at_call 55; refine (slot_out b n at_ row _ h HS.out).mono ?_; rintro e w' ⟨rfl, rfl⟩)
  go_ret
  exact ⟨rfl, rfl⟩

/-- The cells of a ring. -/
def ringCells (nx la : List Nat) : Array Value := ((nx ++ la).map fun (x : Nat) => Value.int .i64 x).toArray
set_option maxRecDepth 100000 in
theorem ring_zeroV (w : World) : (zeroValue 106).run Try.prog w = .ok (.agg (ringCells zerosL zerosL)) w := by kernel_rfl
set_option maxRecDepth 100000 in
theorem ring_size : (Try.prog.info? 106).map (·.size) = some 514 := by kernel_rfl
set_option maxRecDepth 100000 in
theorem ringCells_size (nx la : List Nat) (h1 : nx.length = 257) (h2 : la.length = 257) : (ringCells nx la).size = 514 := by simp [ringCells, h1, h2]
set_option maxRecDepth 100000 in
theorem ringCells_one (nx la : List Nat) : (ringCells nx la).all (·.oneCell') = true := by
  simp only [ringCells, Array.all_eq_true]
  intro i hi
  simp only [List.getElem_toArray, List.getElem_map]
  rfl
set_option maxRecDepth 100000 in
theorem ring_get_next (nx la : List Nat) (p : Nat) (h : p < nx.length) : (ringCells nx la)[p]? = some (.int .i64 (nx[p] : Nat)) := by
  unfold ringCells
  rw [List.getElem?_toArray, List.map_append, List.getElem?_append_left (by simpa using h)]
  simp [h]
set_option maxRecDepth 100000 in
theorem ring_get_last (nx la : List Nat) (p : Nat) (hx : nx.length = 257) (h : p < la.length) : (ringCells nx la)[257 + p]? = some (.int .i64 (la[p] : Nat)) := by
  unfold ringCells
  rw [List.getElem?_toArray, List.map_append, List.getElem?_append_right (by simp; omega)]
  simp [hx, h]

set_option maxRecDepth 100000 in
theorem arr_size : (Try.prog.info? 104).map (·.size) = some 257 := by kernel_rfl
set_option maxRecDepth 100000 in
theorem rowI_list (k : IntKind) (l : List Nat) : (l.map fun (x : Nat) => Value.int k x).toArray = rowI k l := rfl

set_option maxRecDepth 100000 in
theorem lru_next_row {w : World} {b n : Nat} {nx la : List Nat} (h : RawL w b n nx la) : (Instr.loadAt 104 (.pointer (some ⟨b, 1, none⟩))).run Try.prog w = .ok (.agg (rowI .i64 nx)) w := by
  rw [← rowI_list]
  refine run_load_part (P := Try.prog) 104 b 1 _ _ Try.underlying104 rfl (by rw [arr_size]; simp [h.1]) fun j v hv => ?_
  have hj : j < nx.length := by
    rcases Nat.lt_or_ge j nx.length with hh | hh
    · exact hh
    · rw [List.getElem?_eq_none (by simpa using hh)] at hv; cases hv
  rw [h.next j (by have := h.1; omega), fnOf_get nx j hj]
  simp [hj] at hv
  rw [hv]
set_option maxRecDepth 100000 in
theorem lru_last_row {w : World} {b n : Nat} {nx la : List Nat} (h : RawL w b n nx la) : (Instr.loadAt 104 (.pointer (some ⟨b, 258, none⟩))).run Try.prog w = .ok (.agg (rowI .i64 la)) w := by
  rw [← rowI_list]
  refine run_load_part (P := Try.prog) 104 b 258 _ _ Try.underlying104 rfl (by rw [arr_size]; simp [h.2.1]) fun j v hv => ?_
  have hj : j < la.length := by
    rcases Nat.lt_or_ge j la.length with hh | hh
    · exact hh
    · rw [List.getElem?_eq_none (by simpa using hh)] at hv; cases hv
  rw [h.last j (by have := h.2.1; omega), fnOf_get la j hj]
  simp [hj] at hv
  rw [hv]
set_option maxRecDepth 100000 in
theorem ring_next_row {w : World} {q : Nat} {nx la : List Nat} {t : TypeId} (h1 : nx.length = 257) (h : w.heap[q]? = some (.cells (ringCells nx la) t (0, 0))) : (Instr.loadAt 104 (.pointer (some ⟨q, 0, none⟩))).run Try.prog w = .ok (.agg (rowI .i64 nx)) w := by
  rw [← rowI_list]
  refine run_load_part (P := Try.prog) 104 q 0 _ _ Try.underlying104 rfl (by rw [arr_size]; simp [h1]) fun j v hv => ?_
  have hj : j < nx.length := by
    rcases Nat.lt_or_ge j nx.length with hh | hh
    · exact hh
    · rw [List.getElem?_eq_none (by simpa using hh)] at hv; cases hv
  rw [Nat.zero_add, cell_of h, ring_get_next nx la j hj]
  simp [hj] at hv
  rw [hv]
set_option maxRecDepth 100000 in
theorem ring_last_row {w : World} {q : Nat} {nx la : List Nat} {t : TypeId} (h1 : nx.length = 257) (h2 : la.length = 257) (h : w.heap[q]? = some (.cells (ringCells nx la) t (0, 0))) : (Instr.loadAt 104 (.pointer (some ⟨q, 257, none⟩))).run Try.prog w = .ok (.agg (rowI .i64 la)) w := by
  rw [← rowI_list]
  refine run_load_part (P := Try.prog) 104 q 257 _ _ Try.underlying104 rfl (by rw [arr_size]; simp [h2]) fun j v hv => ?_
  have hj : j < la.length := by
    rcases Nat.lt_or_ge j la.length with hh | hh
    · exact hh
    · rw [List.getElem?_eq_none (by simpa using hh)] at hv; cases hv
  rw [cell_of h, ring_get_last nx la j h1 hj]
  simp [hj] at hv
  rw [hv]
set_option maxRecDepth 100000 in
/-- The whole ring of a list, loaded. -/
theorem lru_ring_load {w : World} {b n : Nat} {nx la : List Nat} (h : RawL w b n nx la) : (Instr.loadAt 106 (.pointer (some ⟨b, 1, none⟩))).run Try.prog w = .ok (.agg (ringCells nx la)) w := by
  refine run_load_part (P := Try.prog) (w := w) 106 b 1 _ _ Try.underlying106 rfl (by rw [ring_size]; simp [h.1, h.2.1]) fun j v hv => ?_
  rw [cell_of h.2.2]
  unfold lruCells
  rw [List.getElem?_toArray, Nat.add_comm, List.getElem?_cons_succ]
  exact hv

end Go.Proofs.Ytgdnfempcjlipaa.Lr

namespace Go.Proofs.Ytgdnfempcjlipaa.Lr
open Go.RowKit

set_option maxRecDepth 100000 in
/-- cut, on a list, with what becomes of its rows. -/
theorem cut_raw (b n x : Nat) (row : List Nat) (nx la : List Nat) (pv : Int) (w : World) (hn : n ≤ 256) (hlt : ∀ y ∈ row, y < n) (hr : RawL w b n nx la) (hring : Ring (fnOf nx) (fnOf la) (row.map (· + 1))) (hx : x < n) (hpv : pv = ((x + 1 : Nat) : Int)) :
    Calls Try.prog 56 #[.pointer (some ⟨b, 1, none⟩), .int .i64 pv] w fun e w' => e = .returned (.tuple #[]) ∧
      ∃ nx' la', RawL w' b n nx' la' ∧ Ring (fnOf nx') (fnOf la') ((dropL row x).map (· + 1)) ∧ (x ∈ row → nx' ≠ nx) ∧ (x ∉ row → nx' = nx ∧ la' = la) ∧ Chg [b] w w' := by
  subst hpv
  have hiff := ring_in hring (x + 1) (by omega)
  rw [mem_succ] at hiff
  have hb := ring_bound hring (by intro y hy; simp at hy; obtain ⟨z, hz, rfl⟩ := hy; have := hlt z hz; omega)
  by_cases hm : x ∈ row
  · refine (cut_yes b n (x + 1) _ _ nx la w hr (by omega) (hiff.2 hm) rfl rfl (hb _).2 (hb _).1).mono ?_
    rintro e w' ⟨rfl, hr', hc⟩
    obtain ⟨hc1, hc2⟩ := ring_cut hring (x + 1) ((mem_succ row x).2 hm)
    rw [map_filter_succ] at hc1
    have e1 : fnOf ((nx.set (fnOf la (x + 1)) (fnOf nx (x + 1))).set (x + 1) 0) = upd (upd (fnOf nx) (fnOf la (x + 1)) (fnOf nx (x + 1))) (x + 1) 0 := by
      rw [fnOf_set _ _ _ (by simp [hr.1]; omega), fnOf_set _ _ _ (by rw [hr.1]; exact (hb _).2)]
    refine ⟨rfl, _, _, hr', ring_congr hc1 e1.symm ?_, ?_, fun hh => absurd hm hh, hc⟩
    · rw [fnOf_set _ _ _ (by simp [hr.2.1]; omega), fnOf_set _ _ _ (by rw [hr.2.1]; exact (hb _).1)]
    · intro _ he
      apply hc2
      rw [← e1, he]
  · have hno : ¬ (fnOf la (x + 1) ≠ 0 ∨ fnOf nx 0 = x + 1) := fun hh => hm (hiff.1 hh)
    have h1 : fnOf la (x + 1) = 0 := Classical.byContradiction fun hh => hno (.inl hh)
    have h2 : fnOf nx 0 ≠ x + 1 := fun hh => hno (.inr hh)
    refine (cut_no b n (x + 1) nx la w hr (by omega) h1 h2).mono ?_
    rintro e w' ⟨rfl, rfl⟩
    refine ⟨rfl, nx, la, hr, ?_, fun hh => absurd hh hm, fun _ => ⟨rfl, rfl⟩, Chg.refl _ _⟩
    have : dropL row x = row := List.filter_eq_self.2 fun y hy => by simp; intro e; exact hm (e ▸ hy)
    rw [this]; exact hring

set_option maxRecDepth 100000 in
theorem ints_alike (l m : List Nat) (hl : l.length = 257) (hm : m.length = 257) (r : Bool) (hr : r = decide (l = m)) (w : World) :
    (Op.equalIn 10000 104 (.agg (rowI .i64 l)) (.agg (rowI .i64 m))).run Try.prog w = .ok r w := by
  obtain ⟨i0, hi0, hz0, hz1, hz2⟩ := info_parts Try.elemInt
  rw [hr]
  exact run_equal_rows 9998 104 3 257 .i64 i0 l m Try.underlying104 Try.underlying3 hi0 hz1 hl hm

set_option maxRecDepth 100000 in
set_option maxHeartbeats 2000000 in
theorem drop_in (b n x : Nat) (r : Bool) (row : List Nat) (w : World) (h : LruAt w b n row) (hx : x < n) (hr : r = decide (x ∈ row)) :
    Calls Try.prog 67 #[.pointer (some ⟨b, 0, none⟩), .int .i64 x] w fun e w' => e = .returned (.bool r) ∧ LruAt w' b n (dropL row x) ∧ Chg [b] w w' := by
  have h0 := h
  obtain ⟨hn, hlt, nx, la, hraw, hring⟩ := h
  have hzv := ring_zeroV
  have HLD := Lib.hid (lru_ring_load hraw)
  have hst := run_storeCells_new (P := Try.prog) w 106 (ringCells zerosL zerosL) (ringCells nx la) (by rw [ring_size, ringCells_size _ _ hraw.1 hraw.2.1]) (by rw [ringCells_size _ _ hraw.1 hraw.2.1, ringCells_size _ _ zerosL_length zerosL_length]) (ringCells_one _ _)
  have hsz := ringCells_size nx la hraw.1 hraw.2.1
  have HLT := Lib.hid hlt
  have HR := Lib.hid hr
  clear hlt hr
  go_enter Try.func67, Try.ntmps67
  go_wp2_with fail
  refine (slot_in b n x row _ h0 hx).mono ?_
  rintro e w' ⟨rfl, rfl⟩
  go_wp2_with (refine wpList_load_known rfl 106 _ rfl _ (.agg (ringCells nx la)) rfl HLD.out ?_)
  obtain ⟨q, hq⟩ : ∃ q, q = w.heap.size := ⟨_, rfl⟩
  have hqb : q ≠ b := by have := hraw.lt; omega
  have hqh : (w.alloc (.cells (ringCells nx la) 106)).heap[q]? = some (.cells (ringCells nx la) 106 (0, 0)) := heap_new' _ _ _ hq
  rw [← hq]
  clear hst hzv
  refine (cut_raw b n x row nx la _ _ hn HLT.out (hraw.chg (S := []) ((Chg.refl _ _).alloc _) (by simp)) hring hx (by omega)).mono ?_
  rintro e w2 ⟨rfl, nx', la', hr2, hring2, hyes, hno, hc2⟩
  have hqh2 := hc2.keep hqh (by simpa using hqb)
  have hC2 : Chg [b] w w2 := ((Chg.refl [b] w).alloc _).trans hc2
  have hl1 := fun m => lru_next_row (hr2.drewN m)
  have hl2 := fun m => lru_last_row (hr2.drewN m)
  have hl3 := fun (m : Nat) => ring_next_row (w := w2.drewN m) hraw.1 hqh2
  have hl4 := fun (m : Nat) => ring_last_row (w := w2.drewN m) hraw.1 hraw.2.1 hqh2
  have hlt2 : ∀ y ∈ dropL row x, y < n := fun y hy => HLT.out y (List.mem_filter.1 hy).1
  have HLT2 := Lib.hid hlt2
  have HQ2 := Lib.hid hqh2
  have HYES := Lib.hid hyes
  have HNO := Lib.hid hno
  clear hq hqh hqh2 hc2 hyes hno hlt2 hsz HLD
  by_cases hm : x ∈ row
  · have e1 := ints_alike nx' nx hr2.1 hraw.1 false (by simp [HYES.out hm])
    have hrt : r = true := by rw [HR.out]; simp [hm]
    clear hm HYES HNO HR
    go_wp2_with fail
    refine wp_region_quiet_lit (by kernel_rfl) (by kernel_rfl) ?_
    iterate 4 go_big_quiet_step (fail)
    (go_big_quiet_want; refine quiet_load_known 104 (.tmp 23) rfl _ _ rfl (fun w' hw' => by obtain ⟨m, rfl⟩ := hw'; exact hl1 m) ?_; go_simp; go_big_quiet_on)
    go_big_quiet_step (fail)
    (go_big_quiet_want; refine quiet_load_known 104 (.tmp 25) rfl _ _ rfl (fun w' hw' => by obtain ⟨m, rfl⟩ := hw'; exact hl3 m) ?_; go_simp; go_big_quiet_on)
    repeat (go_big_quiet_step (fail))
    refine wpQuiet_nil ?_
    intro _ hw'
    obtain ⟨nq, hw''⟩ := hw'
    subst hw''
    go_wp2
    go_ret
    subst hrt
    exact ⟨rfl, ⟨hn, HLT2.out, nx', la', hr2, hring2⟩, hC2.drewN _⟩
  · obtain ⟨e1, e2⟩ := HNO.out hm
    have g1 := ints_alike nx' nx hr2.1 hraw.1 true (by simp [e1])
    have g2 := ints_alike la' la hr2.2.1 hraw.2.1 true (by simp [e2])
    have hrt : r = false := by rw [HR.out]; simp [hm]
    clear hm HYES HNO HR e1 e2
    go_wp2_with fail
    refine wp_region_quiet_lit (by kernel_rfl) (by kernel_rfl) ?_
    iterate 4 go_big_quiet_step (fail)
    (go_big_quiet_want; refine quiet_load_known 104 (.tmp 23) rfl _ _ rfl (fun w' hw' => by obtain ⟨m, rfl⟩ := hw'; exact hl1 m) ?_; go_simp; go_big_quiet_on)
    go_big_quiet_step (fail)
    (go_big_quiet_want; refine quiet_load_known 104 (.tmp 25) rfl _ _ rfl (fun w' hw' => by obtain ⟨m, rfl⟩ := hw'; exact hl3 m) ?_; go_simp; go_big_quiet_on)
    iterate 6 go_big_quiet_step (fail)
    (go_big_quiet_want; refine quiet_load_known 104 (.tmp 32) rfl _ _ rfl (fun w' hw' => by obtain ⟨m, rfl⟩ := hw'; exact hl2 m) ?_; go_simp; go_big_quiet_on)
    go_big_quiet_step (fail)
    (go_big_quiet_want; refine quiet_load_known 104 (.tmp 34) rfl _ _ rfl (fun w' hw' => by obtain ⟨m, rfl⟩ := hw'; exact hl4 m) ?_; go_simp; go_big_quiet_on)
    repeat (go_big_quiet_step (fail))
    refine wpQuiet_nil ?_
    intro _ hw'
    obtain ⟨nq, hw''⟩ := hw'
    subst hw''
    go_wp2
    go_ret
    subst hrt
    exact ⟨rfl, ⟨hn, HLT2.out, nx', la', hr2, hring2⟩, hC2.drewN _⟩

end Go.Proofs.Ytgdnfempcjlipaa.Lr
