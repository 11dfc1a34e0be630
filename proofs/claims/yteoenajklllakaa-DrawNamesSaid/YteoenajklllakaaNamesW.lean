/- The walk of DrawNames. -/
import Derived.Test.YteoenajklllakaaAwake12
import Derived.Test.YteoenajklllakaaDrawZ
namespace Go.Proofs.Yteoenajklllakaa
open Go.RowKit

theorem ex_g : drawN 0 [18446744073709551615] 0 % 4611686018427387904 = 4611686018427387903 := by decide +kernel
theorem ex_h : drawN 0 [] 0 = 16294208416658607535 := by decide +kernel
theorem ex_i : shufN (drawN 1 [18446744073709551615]) 0 1 = [0] := by rfl

set_option maxRecDepth 100000 in
set_option maxHeartbeats 4000000 in
theorem drawNames_walk (w : World) : Calls Try.prog 7 #[] w fun e w' => e = .returned (.bool true) ∧ Below w.heap.size w w' := by
  have HE := Lib.hid (And.intro ex_g (And.intro ex_h ex_i))
  have hq := @run_neq_slice_nil_any
  go_enter Try.func7, Try.ntmps7
  go_wp2_with fail
  refine (awake_any _).mono ?_
  rintro e w1 ⟨rfl, hc1⟩
  go_wp2_with fail
  refine (new_any 1 _ [18446744073709551615] _ (by decide) (by decide) (reads_heap (heap_new' _ _ _ rfl))).mono ?_
  rintro e w2 ⟨b, rfl, hb2, ht2, hc2⟩
  have hC2 : Chg [] w w2 := (hc1.alloc _).trans hc2
  have hwb : w.heap.size ≤ b := by have := hc1.size; simp at hb2; omega
  clear hc1 hc2 hb2
  go_wp2_with fail
  refine (below_less _ 0 _ (by decide)).mono ?_
  rintro e w3 ⟨rfl, rfl⟩
  go_wp2_with fail
  refine (below_less _ (-5) _ (by decide)).mono ?_
  rintro e w3 ⟨rfl, rfl⟩
  go_wp2_with fail
  refine (shuffle_out _ 0 _ (by decide)).mono ?_
  rintro e w3 ⟨rfl, rfl⟩
  go_wp2_with fail
  refine (shuffle_out _ (-1) _ (by decide)).mono ?_
  rintro e w3 ⟨rfl, rfl⟩
  go_wp2_with fail
  refine (shuffle_out _ 257 _ (by decide)).mono ?_
  rintro e w3 ⟨rfl, rfl⟩
  go_wp2_with fail
  refine (shuffle_out _ 4611686018427387904 _ (by decide)).mono ?_
  rintro e w3 ⟨rfl, rfl⟩
  go_wp2_with fail
  refine (used_any b _ _ _ _ ht2).mono ?_
  rintro e w3 ⟨rfl, rfl⟩
  go_wp2_with fail
  refine (shuffle_any b _ _ _ 1 _ ht2 (by decide) (by decide) (by decide)).mono ?_
  rintro e w3 ⟨rfl, hr3, ht3, hc3⟩
  rw [HE.out.2.2] at hr3
  have HR3 := Lib.hid hr3
  have hC3 : Chg [] w w3 := hC2.trans_new hc3 (by simp; omega)
  clear hr3 hc3 hC2 ht2
  go_wp2_with fail
  refine (ints_any _ _ [0] [0] _ (Row.of_heap (heap_old HR3.out)) (Row.of_heap (heap_new' _ _ _ rfl)) (by decide) (by decide)).mono ?_
  rintro e w4 ⟨rfl, n4, hw4⟩
  have ht4 : TapeAt w4 b 1 [18446744073709551615] (0 + (1 - 1)) := by rw [hw4]; exact ht3.alloc _
  have hC4 : Chg [] w w4 := by rw [hw4]; exact (hC3.alloc _).drewN _
  clear hw4 HR3 hC3 ht3
  go_wp2_with fail
  refine (used_any b _ _ _ _ ht4).mono ?_
  rintro e w5 ⟨rfl, rfl⟩
  go_wp2_with fail
  refine (below_at b _ _ _ 1 0 _ _ ht4 (by decide) rfl (by simp [Nat.mod_one]) (by decide) (by decide)).mono ?_
  rintro e w5 ⟨rfl, ht5, hc5⟩
  have hC5 : Chg [] w w5 := hC4.trans_new hc5 (by simp; omega)
  clear hc5 hC4 ht4
  go_wp2_with fail
  refine (used_any b _ _ _ _ ht5).mono ?_
  rintro e w6 ⟨rfl, rfl⟩
  go_wp2_with fail
  refine (shuffle_any b _ _ _ 256 _ ht5 (by decide) (by decide) (by decide)).mono ?_
  rintro e w6 ⟨rfl, _, ht6, hc6⟩
  have hC6 : Chg [] w w6 := hC5.trans_new hc6 (by simp; omega)
  clear hc6 hC5 ht5
  go_wp2_with fail
  refine (used_any b _ _ _ _ ht6).mono ?_
  rintro e w7 ⟨rfl, rfl⟩
  go_wp2_with fail
  refine (new_any 0 _ [18446744073709551615] _ (by decide) (by decide) (reads_heap (heap_new' _ _ _ rfl))).mono ?_
  rintro e w7 ⟨b7, rfl, hb7, ht7, hc7⟩
  go_wp2_with fail
  refine (below_at b7 _ _ _ 4611686018427387904 4611686018427387903 _ _ ht7 (by decide) rfl HE.out.1.symm (by decide) (by decide)).mono ?_
  rintro e w8 ⟨rfl, _, hc8⟩
  have hC8 : Chg [] w w8 := ((hC6.alloc _).trans hc7).trans_new hc8 (by have := hC6.size; simp at hb7 ⊢; omega)
  clear hc7 hc8 hb7 ht7 ht6 hC6
  go_wp2_with fail
  refine (next_zero _ 0 _ (heap_new' _ _ _ rfl) (by decide)).mono ?_
  rintro e w9 ⟨rfl, ht9, hc9⟩
  rw [HE.out.2.1]
  have hC9 : Chg [] w w9 := (hC8.alloc _).trans_new hc9 (by have := hC8.size; simp; omega)
  go_wp2_with fail
  refine (used_any _ _ _ _ _ ht9).mono ?_
  rintro e w10 ⟨rfl, rfl⟩
  go_wp2_with fail
  refine (next_nil _).mono ?_
  rintro e w10 ⟨rfl, rfl⟩
  go_wp2_with fail
  refine (below_nil _ _).mono ?_
  rintro e w10 ⟨rfl, rfl⟩
  go_wp2_with fail
  refine (shuffle_nil _ _).mono ?_
  rintro e w10 ⟨rfl, rfl⟩
  go_wp2_with fail
  refine (used_nil _).mono ?_
  rintro e w10 ⟨rfl, rfl⟩
  go_wp2_with fail
  refine (copy_nil _).mono ?_
  rintro e w10 ⟨rfl, rfl⟩
  go_wp2
  go_ret
  exact ⟨rfl, hC9.below (Nat.le_refl _) (by simp)⟩

end Go.Proofs.Yteoenajklllakaa
