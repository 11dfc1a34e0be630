/- The walks of package lru: the ring's in, cut, hang; slot. -/
import Derived.Test.YtjnipcalncpimaaChecked
import Derived.Test.YtjnipcalncpimaaLruA
import Derived.Test.YtjnipcalncpimaaTools
import Derived.WalkLawsBesides
import Derived.Outline
import Derived.Deep.QuietTactic
import Derived.BigQuiet
import Derived.RegionTactic
import Derived.ChangeAlike
import Derived.BigRegion
namespace Go.Proofs.Ytjnipcalncpimaa
open Go.RowKit

/-- The block b is a list of n slots with the rows nx and la. -/
def RawL (w : World) (b n : Nat) (nx la : List Nat) : Prop := nx.length = 257 ∧ la.length = 257 ∧ w.heap[b]? = some (.cells (lruCells n nx la) 50 (0, 0))

theorem RawL.next {w : World} {b n : Nat} {nx la : List Nat} (h : RawL w b n nx la) (p : Nat) (hp : p < 257) : w.cell? ⟨b, 1 + p, none⟩ = some (.int .i64 (fnOf nx p : Nat)) := by
  rw [cell_of h.2.2, lru_get_next n nx la p (by rw [h.1]; exact hp), fnOf_get nx p (by rw [h.1]; exact hp)]
theorem RawL.last {w : World} {b n : Nat} {nx la : List Nat} (h : RawL w b n nx la) (p : Nat) (hp : p < 257) : w.cell? ⟨b, 258 + p, none⟩ = some (.int .i64 (fnOf la p : Nat)) := by
  rw [cell_of h.2.2, lru_get_last n nx la p h.1 (by rw [h.2.1]; exact hp), fnOf_get la p (by rw [h.2.1]; exact hp)]
theorem RawL.slots {w : World} {b n : Nat} {nx la : List Nat} (h : RawL w b n nx la) : w.cell? ⟨b, 0, none⟩ = some (.int .i64 n) := by
  rw [cell_of h.2.2, lru_get_n]
theorem RawL.free {w : World} {b n : Nat} {nx la : List Nat} (h : RawL w b n nx la) (i : Nat) : w.frozen? ⟨b, i, none⟩ = false := free_of h.2.2
theorem RawL.setNext {w : World} {b n : Nat} {nx la : List Nat} (h : RawL w b n nx la) (p v : Nat) (hp : p < 257) : RawL (w.setCell ⟨b, 1 + p, none⟩ (.int .i64 (v : Nat))) b n (nx.set p v) la :=
  ⟨by simpa using h.1, h.2.1, by rw [heap_set h.2.2, lru_set_next n nx la p v (by rw [h.1]; exact hp)]⟩
theorem RawL.setLast {w : World} {b n : Nat} {nx la : List Nat} (h : RawL w b n nx la) (p v : Nat) (hp : p < 257) : RawL (w.setCell ⟨b, 258 + p, none⟩ (.int .i64 (v : Nat))) b n nx (la.set p v) :=
  ⟨h.1, by simpa using h.2.1, by rw [heap_set h.2.2, lru_set_last n nx la p v h.1]⟩
theorem RawL.drewN {w : World} {b n : Nat} {nx la : List Nat} (h : RawL w b n nx la) (m : Nat) : RawL (w.drewN m) b n nx la := h
theorem RawL.lt {w : World} {b n : Nat} {nx la : List Nat} (h : RawL w b n nx la) : b < w.heap.size := lt_of_block h.2.2
theorem RawL.chg {S : List Nat} {w w' : World} {b n : Nat} {nx la : List Nat} (h : RawL w b n nx la) (hc : Chg S w w') (hb : b ∉ S) : RawL w' b n nx la := ⟨h.1, h.2.1, hc.keep h.2.2 hb⟩

theorem in_yes (b n p : Nat) (nx la : List Nat) (w : World) (h : RawL w b n nx la) (hp : p < 257) (hin : fnOf la p ≠ 0 ∨ fnOf nx 0 = p) :
    Calls Try.prog 28 #[.pointer (some ⟨b, 1, none⟩), .int .i64 p] w fun e w' => e = .returned (.bool true) ∧ w = w' := by
  have c1 := h.last p hp
  have c2 := h.next 0 (by decide)
  clear h
  have hi : (p : Int) < 257 := by omega
  by_cases h0 : fnOf la p = 0
  · have h1 : fnOf nx 0 = p := hin.resolve_left (by simpa using h0)
    rw [h0] at c1
    rw [h1] at c2
    clear hin h0 h1
    go_enter Try.func28, Try.ntmps28
    go_wp2
    go_ret
    exact ⟨rfl, rfl⟩
  · have t1 : ((fnOf la p : Int) != 0) = true := by simp; omega
    clear hin h0
    go_enter Try.func28, Try.ntmps28
    go_wp2
    go_ret
    exact ⟨rfl, rfl⟩

theorem in_no (b n p : Nat) (nx la : List Nat) (w : World) (h : RawL w b n nx la) (hp : p < 257) (hin : fnOf la p = 0) (hin2 : fnOf nx 0 ≠ p) :
    Calls Try.prog 28 #[.pointer (some ⟨b, 1, none⟩), .int .i64 p] w fun e w' => e = .returned (.bool false) ∧ w = w' := by
  have c1 := h.last p hp
  have c2 := h.next 0 (by decide)
  clear h
  have hi : (p : Int) < 257 := by omega
  rw [hin] at c1
  have t1 : ((fnOf nx 0 : Int) == (p : Int)) = false := by simp; omega
  clear hin hin2
  go_enter Try.func28, Try.ntmps28
  go_wp2
  go_ret
  exact ⟨rfl, rfl⟩

theorem cut_no (b n p : Nat) (nx la : List Nat) (w : World) (h : RawL w b n nx la) (hp : p < 257) (hin : fnOf la p = 0) (hin2 : fnOf nx 0 ≠ p) :
    Calls Try.prog 29 #[.pointer (some ⟨b, 1, none⟩), .int .i64 p] w fun e w' => e = .returned (.tuple #[]) ∧ w = w' := by
  go_enter Try.func29, Try.ntmps29
  go_wp2_with (go_at_call 28; refine (in_no b n p nx la _ h hp hin hin2).mono ?_; rintro e w' ⟨rfl, rfl⟩)
  refine bodyPost_ret (results_none (by rfl) _ _ _) rfl ?_
  exact ⟨rfl, rfl⟩

set_option maxHeartbeats 1000000 in
theorem cut_yes (b n p x y : Nat) (nx la : List Nat) (w : World) (h : RawL w b n nx la) (hp : p < 257) (hin : fnOf la p ≠ 0 ∨ fnOf nx 0 = p) (hx : fnOf la p = x) (hy : fnOf nx p = y) (hxb : x < 257) (hyb : y < 257) :
    Calls Try.prog 29 #[.pointer (some ⟨b, 1, none⟩), .int .i64 p] w fun e w' => e = .returned (.tuple #[]) ∧ RawL w' b n ((nx.set x y).set p 0) ((la.set y x).set p 0) ∧ Chg [b] w w' := by
  have c1 := h.last p hp
  have c2 := h.next p hp
  rw [hx] at c1
  rw [hy] at c2
  have HIN := Lib.hid hin
  clear hx hy hin
  have hi : (p : Int) < 257 := by omega
  have hix : (x : Int) < 257 := by omega
  have hiy : (y : Int) < 257 := by omega
  go_enter Try.func29, Try.ntmps29
  go_wp2_with (go_at_call 28; refine (in_yes b n p nx la _ h hp HIN.out).mono ?_; rintro e w' ⟨rfl, rfl⟩)
  go_quiet (fail)
  go_wp2
  refine wp_abs ?_
  intro w1 hw1
  have h1 : RawL w1 b n nx la := by rw [hw1]; exact h
  have hc1 : Chg [b] w w1 := by rw [hw1]; exact (Chg.refl _ _).drewN _
  clear hw1 c1 c2 h
  have c1 := h1.next x hxb
  have c2 := h1.last y hyb
  have f1 := h1.free (1 + x)
  have f2 := h1.free (258 + y)
  obtain ⟨v', hv'⟩ := cell_set_some' (w := w1) (p := ⟨b, 1 + x, none⟩) (x := .int .i64 (y : Nat)) (q := ⟨b, 258 + y, none⟩) c2
  go_region
  go_wp2
  refine wp_abs ?_
  intro w2 hw2
  have h2 : RawL w2 b n (nx.set x y) (la.set y x) := by rw [hw2]; exact (h1.setNext x y hxb).setLast y x hyb
  have hc2 : Chg [b] w w2 := by rw [hw2]; exact ((hc1.trans (Chg.set1 _ _ _ _)).trans (Chg.set1 _ _ _ _)).drew
  clear hw2 c1 c2 f1 f2 hv' h1 hc1
  have c1 := h2.next p hp
  have c2 := h2.last p hp
  have f1 := h2.free (1 + p)
  have f2 := h2.free (258 + p)
  obtain ⟨v'', hv''⟩ := cell_set_some' (w := w2) (p := ⟨b, 1 + p, none⟩) (x := .int .i64 0) (q := ⟨b, 258 + p, none⟩) c2
  go_region
  go_end0
  exact ⟨rfl, (h2.setNext p 0 hp).setLast p 0 hp, ((hc2.trans (Chg.set1 _ _ _ _)).trans (Chg.set1 _ _ _ _)).drew⟩

end Go.Proofs.Ytjnipcalncpimaa
