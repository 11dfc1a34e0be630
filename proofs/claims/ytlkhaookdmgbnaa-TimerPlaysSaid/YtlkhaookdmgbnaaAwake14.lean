/- The examples: the walk of awake. -/
import Derived.Test.YtlkhaookdmgbnaaTimQ
namespace Go.Proofs.Ytlkhaookdmgbnaa
open Go.RowKit

theorem RowZ.lit {w : World} {l : List Int} {c n : Nat} (hn : n = l.length) : RowZ .i64 (w.alloc (.cells (l.map fun x => Value.int .i64 x).toArray 3)) (.slice (some ⟨w.heap.size, 0, none⟩) n c) l := by
  subst hn
  refine RowZ.of_heap (xs := []) (t := 3) (f := (0, 0)) ?_
  rw [List.append_nil]
  exact heap_new w _

set_option maxRecDepth 100000 in
set_option maxHeartbeats 4000000 in
theorem awake_any (w : World) : Calls Try.prog 10 #[] w fun e w' => e = .returned (.bool true) ∧ Chg [] w w' := by
  go_enter Try.func10, Try.ntmps10
  go_wp2_with fail
  refine (new_t w w (Chg.refl _ _)).mono ?_
  rintro e w1 ⟨t, rfl, h1⟩
  have H1 := Lib.hid h1
  clear h1
  go_wp2_with fail
  refine (put_t w t [] 0 1 5 _ H1.out (by unfold InI; omega) (by unfold InI; omega) (by omega)).mono ?_
  rintro e w2 ⟨rfl, h2⟩
  have H2 : Hid (TB w w2 t [⟨1, 5, 1⟩] 1) := Lib.hid h2
  clear h2 H1
  go_wp2_with fail
  refine (put_t w t _ 1 2 3 _ H2.out (by unfold InI; omega) (by unfold InI; omega) (by omega)).mono ?_
  rintro e w3 ⟨rfl, h2⟩
  have H3 : Hid (TB w w3 t [⟨1, 5, 1⟩, ⟨2, 3, 2⟩] 2) := Lib.hid h2
  clear h2 H2
  go_wp2_with fail
  refine (put_t w t _ 2 3 5 _ H3.out (by unfold InI; omega) (by unfold InI; omega) (by omega)).mono ?_
  rintro e w4 ⟨rfl, h2⟩
  have H4 : Hid (TB w w4 t [⟨1, 5, 1⟩, ⟨2, 3, 2⟩, ⟨3, 5, 3⟩] 3) := Lib.hid h2
  clear h2 H3
  go_wp2_with fail
  refine (next_t w t _ 3 ⟨2, 3, 2⟩ _ H4.out (by decide)).mono ?_
  rintro e w5 ⟨rfl, hc5⟩
  have H5 := Lib.hid (H4.out.same hc5)
  clear hc5 H4
  go_wp2_with fail
  refine (due_t w t _ 3 5 _ H5.out (by omega)).mono ?_
  rw [show dueL [⟨1, 5, 1⟩, ⟨2, 3, 2⟩, ⟨3, 5, 3⟩] 5 = [2, 1, 3] by decide, show restL [⟨1, 5, 1⟩, ⟨2, 3, 2⟩, ⟨3, 5, 3⟩] 5 = [] by decide]
  rintro e w6 ⟨a, c, rfl, hr, h6⟩
  have HR := Lib.hid hr
  have H6 := Lib.hid h6
  clear hr h6 H5
  go_wp2_with fail
  have hal : Chg [] w6 (w6.alloc (.cells #[.int .i64 2, .int .i64 1, .int .i64 3] 3)) := (Chg.refl [] w6).alloc _
  refine (intsz_c _ _ [2, 1, 3] [2, 1, 3] true (Lib.hid (by decide)) _ (HR.out.chg hal) (RowZ.lit (l := [2, 1, 3]) rfl) (by decide) (by decide)).mono ?_
  rintro e w7 ⟨rfl, hc7⟩
  have H7 := Lib.hid ((H6.out.same hal).same hc7)
  clear hal hc7 H6 HR
  go_wp2_with fail
  refine (len_t w t [] 3 _ H7.out).mono ?_
  rintro e w8 ⟨rfl, rfl⟩
  go_wp2_with fail
  refine (put_t w t _ 3 1 5 _ H7.out (by unfold InI; omega) (by unfold InI; omega) (by omega)).mono ?_
  rintro e w8 ⟨rfl, h2⟩
  have H8 : Hid (TB w w8 t [⟨1, 5, 4⟩] 4) := Lib.hid h2
  clear h2 H7
  go_wp2_with fail
  refine (put_t w t _ 4 2 5 _ H8.out (by unfold InI; omega) (by unfold InI; omega) (by omega)).mono ?_
  rintro e w9 ⟨rfl, h2⟩
  have H9 : Hid (TB w w9 t [⟨1, 5, 4⟩, ⟨2, 5, 5⟩] 5) := Lib.hid h2
  clear h2 H8
  go_wp2_with fail
  refine (put_t w t _ 5 1 5 _ H9.out (by unfold InI; omega) (by unfold InI; omega) (by omega)).mono ?_
  rintro e w10 ⟨rfl, h2⟩
  have H10 : Hid (TB w w10 t [⟨2, 5, 5⟩, ⟨1, 5, 6⟩] 6) := Lib.hid h2
  clear h2 H9
  go_wp2_with fail
  refine (due_t w t _ 6 9 _ H10.out (by omega)).mono ?_
  rw [show dueL [⟨2, 5, 5⟩, ⟨1, 5, 6⟩] 9 = [2, 1] by decide, show restL [⟨2, 5, 5⟩, ⟨1, 5, 6⟩] 9 = [] by decide]
  rintro e w11 ⟨a, c, rfl, hr, h6⟩
  have HR := Lib.hid hr
  have H11 := Lib.hid h6
  clear hr h6 H10
  go_wp2_with fail
  have hal : Chg [] w11 (w11.alloc (.cells #[.int .i64 2, .int .i64 1] 3)) := (Chg.refl [] w11).alloc _
  refine (intsz_c _ _ [2, 1] [2, 1] true (Lib.hid (by decide)) _ (HR.out.chg hal) (RowZ.lit (l := [2, 1]) rfl) (by decide) (by decide)).mono ?_
  rintro e w12 ⟨rfl, hc7⟩
  have H12 := Lib.hid ((H11.out.same hal).same hc7)
  clear hal hc7 H11 HR
  go_wp2_with fail
  refine (drop0_t w t 6 [] 1 _ H12.out (by unfold InI; omega) (by simp)).mono ?_
  rintro e w13 ⟨rfl, rfl⟩
  go_wp2
  go_ret
  exact ⟨rfl, H12.out.chg⟩

end Go.Proofs.Ytlkhaookdmgbnaa
