/- The walk of TimerNames. -/
import Derived.Test.YtlkhaookdmgbnaaAwake14
namespace Go.Proofs.Ytlkhaookdmgbnaa
open Go.RowKit

set_option maxRecDepth 100000 in
set_option maxHeartbeats 8000000 in
theorem timerNames_walk (w : World) : Calls Try.prog 8 #[] w fun e w' => e = .returned (.bool true) ∧ Below w.heap.size w w' := by
  go_enter Try.func8, Try.ntmps8
  go_wp2_with fail
  refine (awake_any w).mono ?_
  rintro e w1 ⟨rfl, hc1⟩
  go_wp2_with fail
  have H1 : Hid (TB w (w1.alloc (.cells #[.map none, .slice none 0 0, .int .u64 0] 62)) w1.heap.size [] 0) := Lib.hid (TB.new hc1)
  obtain ⟨t, ht⟩ : ∃ t, t = w1.heap.size := ⟨_, rfl⟩
  rw [← ht] at H1 ⊢
  clear ht
  refine (next0_t w t 0 _ H1.out).mono ?_
  rintro e w2 ⟨rfl, hc2⟩
  have H2 := Lib.hid (H1.out.same hc2)
  clear hc1 hc2 H1
  go_wp2_with fail
  refine (at0_t w t 0 [] 0 _ H2.out (by unfold InI; omega) (by simp)).mono ?_
  rintro e w3 ⟨rfl, rfl⟩
  go_wp2_with fail
  refine (len_t w t [] 0 _ H2.out).mono ?_
  rintro e w3 ⟨rfl, rfl⟩
  go_wp2_with fail
  refine (due_t w t [] 0 9223372036854775807 _ H2.out (by omega)).mono ?_
  rw [show dueL [] 9223372036854775807 = [] by decide, show restL [] 9223372036854775807 = [] by decide]
  rintro e w3 ⟨a, c, rfl, hr, h3⟩
  have H3 := Lib.hid h3
  clear hr h3 H2
  go_wp2_with fail
  refine (put_t w t _ 0 (-5) (-9223372036854775808) _ H3.out (by unfold InI; omega) (by unfold InI; omega) (by omega)).mono ?_
  rintro e w4 ⟨rfl, h2⟩
  have H4 : Hid (TB w w4 t [⟨-5, -9223372036854775808, 1⟩] 1) := Lib.hid h2
  clear h2 H3
  go_wp2_with fail
  refine (put_t w t _ 1 4611686018427387904 9223372036854775807 _ H4.out (by unfold InI; omega) (by unfold InI; omega) (by omega)).mono ?_
  rintro e w5 ⟨rfl, h2⟩
  have H5 : Hid (TB w w5 t [⟨-5, -9223372036854775808, 1⟩, ⟨4611686018427387904, 9223372036854775807, 2⟩] 2) := Lib.hid h2
  clear h2 H4
  go_wp2_with fail
  refine (put_t w t _ 2 0 0 _ H5.out (by unfold InI; omega) (by unfold InI; omega) (by omega)).mono ?_
  rintro e w6 ⟨rfl, h2⟩
  have H6 : Hid (TB w w6 t [⟨-5, -9223372036854775808, 1⟩, ⟨4611686018427387904, 9223372036854775807, 2⟩, ⟨0, 0, 3⟩] 3) := Lib.hid h2
  clear h2 H5
  go_wp2_with fail
  refine (len_t w t _ 3 _ H6.out).mono ?_
  rintro e w7 ⟨rfl, rfl⟩
  go_wp2_with fail
  refine (next_t w t _ 3 ⟨-5, -9223372036854775808, 1⟩ _ H6.out (by decide)).mono ?_
  rintro e w7 ⟨rfl, hc7⟩
  have H7 := Lib.hid (H6.out.same hc7)
  clear hc7 H6
  go_wp2_with fail
  refine (due_t w t _ 3 0 _ H7.out (by omega)).mono ?_
  rw [show dueL [⟨-5, -9223372036854775808, 1⟩, ⟨4611686018427387904, 9223372036854775807, 2⟩, ⟨0, 0, 3⟩] 0 = [-5, 0] by decide, show restL [⟨-5, -9223372036854775808, 1⟩, ⟨4611686018427387904, 9223372036854775807, 2⟩, ⟨0, 0, 3⟩] 0 = [⟨4611686018427387904, 9223372036854775807, 2⟩] by decide]
  rintro e w8 ⟨a, c, rfl, hr, h6⟩
  have HR := Lib.hid hr
  have H8 := Lib.hid h6
  clear hr h6 H7
  go_wp2_with fail
  have hal : Chg [] w8 (w8.alloc (.cells #[.int .i64 (-5), .int .i64 0] 3)) := (Chg.refl [] w8).alloc _
  refine (intsz_c _ _ [-5, 0] [-5, 0] true (Lib.hid (by decide)) _ (HR.out.chg hal) (RowZ.lit (l := [-5, 0]) rfl) (by decide) (by decide)).mono ?_
  rintro e w9 ⟨rfl, hc7⟩
  have H9 := Lib.hid ((H8.out.same hal).same hc7)
  clear hal hc7 H8 HR
  go_wp2_with fail
  refine (due_t w t _ 3 9223372036854775806 _ H9.out (by omega)).mono ?_
  rw [show dueL [⟨4611686018427387904, 9223372036854775807, 2⟩] 9223372036854775806 = [] by decide, show restL [⟨4611686018427387904, 9223372036854775807, 2⟩] 9223372036854775806 = [⟨4611686018427387904, 9223372036854775807, 2⟩] by decide]
  rintro e w10 ⟨a, c, rfl, hr, h6⟩
  have H10 := Lib.hid h6
  clear hr h6 H9
  go_wp2_with fail
  refine (due_t w t _ 3 9223372036854775807 _ H10.out (by omega)).mono ?_
  rw [show dueL [⟨4611686018427387904, 9223372036854775807, 2⟩] 9223372036854775807 = [4611686018427387904] by decide, show restL [⟨4611686018427387904, 9223372036854775807, 2⟩] 9223372036854775807 = [] by decide]
  rintro e w11 ⟨a, c, rfl, hr, h6⟩
  have HR := Lib.hid hr
  have H11 := Lib.hid h6
  clear hr h6 H10
  go_wp2_with fail
  have hal : Chg [] w11 (w11.alloc (.cells #[.int .i64 4611686018427387904] 3)) := (Chg.refl [] w11).alloc _
  refine (intsz_c _ _ [4611686018427387904] [4611686018427387904] true (Lib.hid (by decide)) _ (HR.out.chg hal) (RowZ.lit (l := [4611686018427387904]) rfl) (by decide) (by decide)).mono ?_
  rintro e w12 ⟨rfl, hc7⟩
  have HB : Hid (Below w.heap.size w w12) := Lib.hid (((H11.out.same hal).same hc7).chg.below (Nat.le_refl _) (by simp))
  clear hal hc7 H11 HR
  go_wp2_with fail
  refine (next_nil _).mono ?_
  rintro e w13 ⟨rfl, rfl⟩
  go_wp2_with fail
  refine (at_nil _ _).mono ?_
  rintro e w13 ⟨rfl, rfl⟩
  go_wp2_with fail
  refine (put_nil _ _ _).mono ?_
  rintro e w13 ⟨rfl, rfl⟩
  go_wp2_with fail
  refine (drop_nil _ _).mono ?_
  rintro e w13 ⟨rfl, rfl⟩
  go_wp2_with fail
  refine (due_nil _ _).mono ?_
  rintro e w13 ⟨rfl, rfl⟩
  go_wp2_with fail
  refine (len_nil _).mono ?_
  rintro e w13 ⟨rfl, rfl⟩
  go_wp2_with fail
  refine (copy_nil _).mono ?_
  rintro e w13 ⟨rfl, rfl⟩
  go_wp2
  go_ret
  exact ⟨rfl, HB.out⟩

end Go.Proofs.Ytlkhaookdmgbnaa
