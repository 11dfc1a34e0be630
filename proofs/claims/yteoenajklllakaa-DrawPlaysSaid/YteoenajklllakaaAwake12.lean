/- The walk of awake: the document's examples. -/
import Derived.Test.YteoenajklllakaaDrawD
import Derived.Test.YteoenajklllakaaInts
namespace Go.Proofs.Yteoenajklllakaa
open Go.RowKit

theorem reads_row {k : IntKind} {w : World} {r c : Nat} {l : List Nat} (hc : ∀ i (h : i < l.length), w.cell? ⟨r, i, none⟩ = some (.int k (l[i] : Nat))) : Reads k w (.slice (some ⟨r, 0, none⟩) l.length c) l := by
  refine ⟨_, _, rfl, by simp, by simp, ?_⟩
  intro p hp i h
  cases hp
  have : (Addr.add ⟨r, 0, none⟩ i) = ⟨r, i, none⟩ := by unfold Addr.add; split <;> simp_all
  rw [this]; exact hc i h

theorem reads_nil {k : IntKind} {w : World} : Reads k w (.slice none 0 0) [] := ⟨none, 0, rfl, fun _ => rfl, fun h => absurd rfl h, fun p hp => by cases hp⟩

theorem reads_heap {k : IntKind} {w : World} {r c : Nat} {l : List Nat} {t : TypeId} {f : Nat × Nat} (h : w.heap[r]? = some (.cells (rowI k l) t f)) : Reads k w (.slice (some ⟨r, 0, none⟩) l.length c) l :=
  reads_row fun i hi => (cell_of h).trans (rowI_get k l i hi)

theorem ex_a : drawN 0 [7, 9] 0 = 7 := by decide +kernel
theorem ex_b : drawN 0 [7, 9] 1 = 9 := by decide +kernel
theorem ex_c : drawN 0 [7, 9] 2 = 16294208416658607535 := by decide +kernel
theorem ex_d : drawN 0 [7, 9] 3 = 7960286522194355700 := by decide +kernel
theorem ex_e : drawN 0 [47] 0 % 10 = 7 := by decide +kernel
theorem ex_f : shufN (drawN 0 [0, 0]) 0 3 = [1, 2, 0] := by decide +kernel

set_option maxHeartbeats 1000000 in
theorem awake_any (w : World) : Calls Try.prog 12 #[] w fun e w' => e = .returned (.bool true) ∧ Chg [] w w' := by
  have HE := Lib.hid (And.intro ex_a (And.intro ex_b (And.intro ex_c (And.intro ex_d (And.intro ex_e ex_f)))))
  go_enter Try.func12, Try.ntmps12
  go_wp2_with fail
  refine (new_any 0 _ [7, 9] _ (by decide) (by decide) (reads_heap (heap_new' _ _ _ rfl))).mono ?_
  rintro e w1 ⟨b1, rfl, hb1, ht1, hc1⟩
  go_wp2_with fail
  refine (next_any b1 0 [7, 9] 0 _ ht1 (by decide)).mono ?_
  rintro e w2 ⟨rfl, ht2, hc2⟩
  rw [HE.out.1]
  go_wp2_with fail
  refine (next_any b1 0 [7, 9] 1 _ ht2 (by decide)).mono ?_
  rintro e w3 ⟨rfl, ht3, hc3⟩
  rw [HE.out.2.1]
  go_wp2_with fail
  refine (next_any b1 0 [7, 9] 2 _ ht3 (by decide)).mono ?_
  rintro e w4 ⟨rfl, ht4, hc4⟩
  rw [HE.out.2.2.1]
  go_wp2_with fail
  refine (next_any b1 0 [7, 9] 3 _ ht4 (by decide)).mono ?_
  rintro e w5 ⟨rfl, ht5, hc5⟩
  rw [HE.out.2.2.2.1]
  have hC5 : Chg [] w w5 := by
    have h1 : Chg [] w w1 := ((Chg.refl [] w).alloc _).trans hc1
    have hb : w.heap.size ≤ b1 := by simp at hb1; omega
    exact (((h1.trans_new hc2 (by simp; omega)).trans_new hc3 (by simp; omega)).trans_new hc4 (by simp; omega)).trans_new hc5 (by simp; omega)
  clear hc1 hc2 hc3 hc4 hc5 ht1 ht2 ht3 ht4 ht5 hb1
  go_wp2_with fail
  refine (new_any 0 _ [47] _ (by decide) (by decide) (reads_heap (heap_new' _ _ _ rfl))).mono ?_
  rintro e w6 ⟨b2, rfl, hb2, ht6, hc6⟩
  go_wp2_with fail
  refine (below_at b2 0 [47] 0 10 7 10 _ ht6 (by decide) rfl HE.out.2.2.2.2.1.symm (by decide) (by decide)).mono ?_
  rintro e w7 ⟨rfl, ht7, hc7⟩
  have hC7 : Chg [] w w7 := ((hC5.alloc _).trans hc6).trans_new hc7 (by have := hC5.size; simp at hb2 ⊢; omega)
  clear hc6 hc7 ht6 ht7 hb2 hC5
  go_wp2_with fail
  refine (new_any 0 _ [0, 0] _ (by decide) (by decide) (reads_heap (heap_new' _ _ _ rfl))).mono ?_
  rintro e w8 ⟨b3, rfl, hb3, ht8, hc8⟩
  go_wp2_with fail
  refine (shuffle_any b3 0 [0, 0] 0 3 _ ht8 (by decide) (by decide) (by decide)).mono ?_
  rintro e w9 ⟨rfl, hr9, ht9, hc9⟩
  have hC9 : Chg [] w w9 := ((hC7.alloc _).trans hc8).trans_new hc9 (by have := hC7.size; simp at hb3 ⊢; omega)
  rw [HE.out.2.2.2.2.2] at hr9
  have HR9 := Lib.hid hr9
  clear hr9 hc8 hc9 ht8 ht9 hb3 hC7
  go_wp2_with fail
  refine (ints_any _ _ [1, 2, 0] [1, 2, 0] _ (Row.of_heap (heap_old HR9.out)) (Row.of_heap (heap_new' _ _ _ rfl)) (by decide) (by decide)).mono ?_
  rintro e w10 ⟨rfl, n, rfl⟩
  go_wp2
  go_ret
  exact ⟨rfl, (hC9.alloc _).drewN _⟩

end Go.Proofs.Yteoenajklllakaa
