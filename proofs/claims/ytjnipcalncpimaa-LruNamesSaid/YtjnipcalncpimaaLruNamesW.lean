/- The walk of LruNames. -/
import Derived.Test.YtjnipcalncpimaaLruG
namespace Go.Proofs.Ytjnipcalncpimaa
open Go.RowKit

/-- 255, 254, .., the first i of them. -/
def downRow (i : Nat) : List Nat := (List.range i).map fun j => 255 - j
theorem downRow_use (i : Nat) (h : i < 256) : useL (downRow i) (255 - i) = downRow (i + 1) := by
  unfold useL
  rw [List.filter_eq_self.2]
  · simp [downRow, List.range_succ]
  · intro y hy
    simp [downRow] at hy
    obtain ⟨j, hj, rfl⟩ := hy
    simp; omega
theorem downRow_len : (downRow 256).length = 256 := by simp [downRow]
theorem downRow_first : 255 = firstOf (downRow 256) := by decide
theorem downRow_last : 0 = lastOf (downRow 256) := by decide
theorem downRow_some : true = !(downRow 256).isEmpty := by decide

def NamesR (b : Nat) (w : World) (i : Value) (wr : World) : Prop := ∃ j : Nat, j ≤ 256 ∧ i = .int .i64 j ∧ LruAt wr b 256 (downRow j) ∧ Chg [] w wr

set_option maxRecDepth 100000 in
set_option maxHeartbeats 8000000 in
theorem lruNames_walk (w : World) : Calls Try.prog 7 #[] w fun e w' => e = .returned (.bool true) ∧ Below w.heap.size w w' := by
  have hz := lru_zero
  have HFST := Lib.hid downRow_first
  have HLST := Lib.hid downRow_last
  have HSOME := Lib.hid downRow_some
  have HLEN := Lib.hid downRow_len
  go_enter Try.func7, Try.ntmps7
  go_wp2_with fail
  refine (awake_any _).mono ?_
  rintro e w1 ⟨rfl, hC1⟩
  go_wp2_with fail
  refine (new_out (-1) _ (by decide)).mono ?_
  rintro e w2 ⟨rfl, rfl⟩
  go_wp2_with fail
  refine (new_out 257 _ (by decide)).mono ?_
  rintro e w2 ⟨rfl, rfl⟩
  go_wp2_with fail
  refine (new_in 0 _ (by decide)).mono ?_
  rintro e w2 ⟨rfl, n2, hc2⟩
  obtain ⟨a, ha⟩ : ∃ a, a = w1.heap.size := ⟨_, rfl⟩
  rw [← ha] at n2 ⊢
  have hC2 : Chg [] w w2 := hC1.trans hc2
  clear ha hc2 hC1
  go_wp2_with fail
  refine (new_in 256 _ (by decide)).mono ?_
  rintro e w3 ⟨rfl, l3, hc3⟩
  obtain ⟨b, hb⟩ : ∃ b, b = w2.heap.size := ⟨_, rfl⟩
  have hwb : w.heap.size ≤ b := by have := hC2.size; omega
  rw [← hb] at l3 ⊢
  have n3 := n2.chg hc3 (by simp)
  have hC3 : Chg [] w w3 := hC2.trans hc3
  clear hb hc3 hC2 n2
  go_wp2_with fail
  refine (use_out a 0 0 _ _ n3 (by decide)).mono ?_
  rintro e w4 ⟨rfl, rfl⟩
  go_wp2_with fail
  go_loopw [9] (NamesR b w) (fun i _ => 256 - (intOf i).toNat)
  case atStart => exact ⟨0, by decide, rfl, l3, hC3⟩
  case round =>
    clear l3 hC3
    obtain ⟨j, hj, rfl, hl, hC⟩ := hrel
    by_cases hlt : j < 256
    · have hdu := downRow_use j hlt
      have HDU := Lib.hid hdu
      clear hdu
      have t1 : (255 : Int) - (j : Int) = ((255 - j : Nat) : Int) := by omega
      go_wp2_with fail
      refine (use_in b 256 (255 - j) _ _ hl (by omega)).mono ?_
      rintro e w4 ⟨rfl, l4, hc4⟩
      have hC4 : Chg [] w w4 := hC.trans_new hc4 (by simpa using hwb)
      rw [HDU.out] at l4
      clear t1
      go_wp2
      go_roundw
      case rel => exact ⟨j + 1, by omega, by go_num, l4, hC4⟩
      case measure => simp [intOf] <;> omega
    · obtain rfl : j = 256 := by omega
      obtain ⟨row, hrow⟩ : ∃ row, row = downRow 256 := ⟨_, rfl⟩
      rw [← hrow] at hl HFST HLST HSOME HLEN
      clear hrow
      go_wp2_with fail
      refine (oldest_any b 256 255 true _ _ hl HFST.out HSOME.out).mono ?_
      rintro e w4 ⟨rfl, rfl⟩
      go_wp2_with fail
      refine (newest_any b 256 0 true _ _ hl HLST.out HSOME.out).mono ?_
      rintro e w4 ⟨rfl, rfl⟩
      go_wp2_with fail
      refine (len_any b 256 _ _ hl).mono ?_
      rintro e w4 ⟨rfl, hc4⟩
      have l4 := hl.chg hc4 (by simp)
      have hC4 : Chg [] w w4 := hC.trans hc4
      rw [HLEN.out]
      clear hc4 hl hC
      go_wp2_with fail
      refine (use_out b 256 256 _ _ l4 (by decide)).mono ?_
      rintro e w5 ⟨rfl, rfl⟩
      go_wp2_with fail
      refine (use_out b 256 (-1) _ _ l4 (by decide)).mono ?_
      rintro e w5 ⟨rfl, rfl⟩
      go_wp2_with fail
      refine (has_out b 256 256 _ _ l4 (by decide)).mono ?_
      rintro e w5 ⟨rfl, rfl⟩
      go_wp2_with fail
      refine (has_out b 256 (-1) _ _ l4 (by decide)).mono ?_
      rintro e w5 ⟨rfl, rfl⟩
      go_wp2_with fail
      refine (drop_out b 256 (-1) _ _ l4 (by decide)).mono ?_
      rintro e w5 ⟨rfl, rfl⟩
      go_wp2_with fail
      refine (drop_out b 256 256 _ _ l4 (by decide)).mono ?_
      rintro e w5 ⟨rfl, rfl⟩
      go_wp2_with fail
      refine (oldest_nil _).mono ?_
      rintro e w5 ⟨rfl, rfl⟩
      go_wp2_with fail
      refine (newest_nil _).mono ?_
      rintro e w5 ⟨rfl, rfl⟩
      go_wp2_with fail
      refine calls_abs ?_
      intro w5 hw5
      obtain ⟨f, hf⟩ : ∃ f, f = w4.heap.size := ⟨_, rfl⟩
      have f5 : LruAt w5 f 0 [] := by rw [hw5]; exact ⟨by decide, by simp, zerosL, zerosL, ⟨zerosL_length, zerosL_length, heap_new' _ _ _ hf⟩, ring_zero⟩
      have hC5 : Chg [] w w5 := by rw [hw5]; exact hC4.alloc _
      rw [← hf]
      clear hw5 hf hC4 l4 hz
      refine (oldest_any f 0 0 false _ _ f5 rfl rfl).mono ?_
      rintro e w6 ⟨rfl, rfl⟩
      go_wp2_with fail
      refine (use_nil _ _).mono ?_
      rintro e w6 ⟨rfl, rfl⟩
      go_wp2_with fail
      refine (drop_nil _ _).mono ?_
      rintro e w6 ⟨rfl, rfl⟩
      go_wp2_with fail
      refine (row_nil _).mono ?_
      rintro e w6 ⟨rfl, rfl⟩
      go_wp2_with fail
      refine (len_nil _).mono ?_
      rintro e w6 ⟨rfl, rfl⟩
      go_wp2_with fail
      refine (has_nil _ _).mono ?_
      rintro e w6 ⟨rfl, rfl⟩
      go_wp2_with fail
      refine (copy_nil _).mono ?_
      rintro e w6 ⟨rfl, rfl⟩
      go_wp2_with fail
      refine (use_out f 0 0 _ _ f5 (by decide)).mono ?_
      rintro e w6 ⟨rfl, rfl⟩
      go_wp2_with fail
      refine (has_out f 0 0 _ _ f5 (by decide)).mono ?_
      rintro e w6 ⟨rfl, rfl⟩
      go_wp2_with fail
      refine (len_any f 0 _ _ f5).mono ?_
      rintro e w6 ⟨rfl, hc6⟩
      have hC6 : Chg [] w w6 := hC5.trans hc6
      clear hc6 f5 hC5
      go_wp2
      go_ret
      exact ⟨rfl, hC6.below (Nat.le_refl _) (by simp)⟩

end Go.Proofs.Ytjnipcalncpimaa
