/- The walks of SipTells and SipOn. -/
import Derived.Test.YthaikobmelalgaaSipH
import Derived.Test.YthaikobmelalgaaWf
namespace Go.Proofs.Ythaikobmelalgaa
open Go.RowKit

theorem sum_r (b k0 k1 : Nat) (l : List Nat) (r : Nat) (hr : Hid (r = sipN k0 k1 l)) (w : World) (h : HashAt w b k0 k1 l) (hl : l.length ≤ 4000000000) :
    Calls Try.prog 13 #[.pointer (some ⟨b, 0, none⟩)] w fun e w' => e = .returned (.int .u64 r) ∧ Chg [] w w' := by
  rw [hr.out]; exact sum_any b k0 k1 l w h hl

set_option maxRecDepth 100000 in
theorem sipTells_walk (x y : Int) (s : ByteArray) (w : World) (hx : (Lit.int .u64 x).wf = true) (hy : (Lit.int .u64 y).wf = true) (_hs : s.size ≤ maxLen) :
    Calls Try.prog 3 #[.int .u64 x, .int .u64 y, .string s] w fun e w' => e = .returned (.bool true) ∧ Below w.heap.size w w' := by
  obtain ⟨k0, rfl, h0⟩ := nat_of_u64 hx
  obtain ⟨k1, rfl, h1⟩ := nat_of_u64 hy
  clear hx hy
  by_cases hbig : 5000 < s.size
  · go_enter Try.func3, Try.ntmps3
    go_wp2_with fail
    refine (awake_any _).mono ?_
    rintro e w1 ⟨rfl, hc1⟩
    go_wp2
    go_ret
    exact ⟨rfl, hc1.below (Nat.le_refl _) (by simp)⟩
  have hd : decide (5000 < s.size) = false := by simpa using hbig
  have hle : s.size ≤ 5000 := by omega
  obtain ⟨r, hr⟩ : ∃ r, r = sipN k0 k1 (bytesN s) := ⟨_, rfl⟩
  have HR := Lib.hid hr
  clear hr hbig
  go_enter Try.func3, Try.ntmps3
  go_wp2_with fail
  refine (total_any k0 k1 s r HR _ h0 h1 (by omega)).mono ?_
  rintro e w1 ⟨rfl, hc1⟩
  go_wp2_with fail
  refine (rsum_any k0 k1 s r HR _ h0 h1 (by omega)).mono ?_
  rintro e w2 ⟨rfl, hc2⟩
  go_wp2_with fail
  refine (awake_any _).mono ?_
  rintro e w3 ⟨rfl, hc3⟩
  go_wp2
  go_ret
  exact ⟨rfl, ((hc1.trans hc2).trans hc3).below (Nat.le_refl _) (by simp)⟩

set_option maxRecDepth 100000 in
set_option maxHeartbeats 1000000 in
theorem sipOn_walk (x y : Int) (s t : ByteArray) (w : World) (hx : (Lit.int .u64 x).wf = true) (hy : (Lit.int .u64 y).wf = true) (hsm : s.size ≤ maxLen) (htm : t.size ≤ maxLen) :
    Calls Try.prog 7 #[.int .u64 x, .int .u64 y, .string s, .string t] w fun e w' => e = .returned (.bool true) ∧ Below w.heap.size w w' := by
  obtain ⟨k0, rfl, h0⟩ := nat_of_u64 hx
  obtain ⟨k1, rfl, h1⟩ := nat_of_u64 hy
  unfold maxLen at hsm htm
  clear hx hy
  by_cases hbig : 5000 < s.size
  · go_enter Try.func7, Try.ntmps7
    go_wp2_with fail
    refine (awake_any _).mono ?_
    rintro e w1 ⟨rfl, hc1⟩
    go_wp2
    go_ret
    exact ⟨rfl, hc1.below (Nat.le_refl _) (by simp)⟩
  have hd : decide (5000 < s.size) = false := by simpa using hbig
  by_cases hbig2 : 5000 < t.size
  · go_enter Try.func7, Try.ntmps7
    go_wp2_with fail
    refine (awake_any _).mono ?_
    rintro e w1 ⟨rfl, hc1⟩
    go_wp2
    go_ret
    exact ⟨rfl, hc1.below (Nat.le_refl _) (by simp)⟩
  have hd2 : decide (5000 < t.size) = false := by simpa using hbig2
  have hle : s.size ≤ 5000 := by omega
  have hle2 : t.size ≤ 5000 := by omega
  obtain ⟨r, hr⟩ : ∃ r, r = sipN k0 k1 (bytesN s) := ⟨_, rfl⟩
  have HR := Lib.hid hr
  obtain ⟨r2, hr2⟩ : ∃ r, r = sipN k0 k1 (bytesN s ++ bytesN t) := ⟨_, rfl⟩
  have HR2 := Lib.hid hr2
  have HR3 : Hid (r2 = sipN k0 k1 (bytesN (s ++ t))) := Lib.hid (by rw [bytesN_append]; exact hr2)
  have hl1 : (bytesN s).length = s.size := bytesN_len s
  have hl2 : (bytesN s ++ bytesN t).length = s.size + t.size := by simp [bytesN_len]
  have HL1 := Lib.hid hl1
  have HL2 := Lib.hid hl2
  have hst : (s ++ t).size ≤ 10000 := by rw [ByteArray.size_append]; omega
  clear hr hr2 hbig hbig2 hl1 hl2
  go_enter Try.func7, Try.ntmps7
  go_wp2_with fail
  refine (awake_any _).mono ?_
  rintro e w1 ⟨rfl, hC1⟩
  go_wp2_with fail
  refine (make_any k0 k1 _ h0 h1).mono ?_
  rintro e w2 ⟨rfl, g2, hc2⟩
  obtain ⟨b, hb⟩ : ∃ b, b = w1.heap.size := ⟨_, rfl⟩
  have hwb : w.heap.size ≤ b := by have := hC1.size; omega
  rw [← hb] at g2 ⊢
  have hC2 := hC1.trans hc2
  clear hb hc2 hC1
  go_wp2_with fail
  refine (write_any b k0 k1 [] s _ g2 (by simp) (by omega)).mono ?_
  rintro e w3 ⟨rfl, g3, hc3⟩
  have hC3 : Chg [] w w3 := hC2.trans_new hc3 (by simpa using hwb)
  rw [List.nil_append] at g3
  clear hc3 hC2 g2
  go_wp2_with fail
  refine (sum_r b k0 k1 _ r HR _ g3 (by rw [HL1.out]; omega)).mono ?_
  rintro e w4 ⟨rfl, hc4⟩
  have g4 := g3.chg hc4 (by simp)
  have hC4 := hC3.trans hc4
  clear hc4 hC3 g3
  go_wp2_with fail
  refine (copy_any b k0 k1 _ _ g4).mono ?_
  rintro e w5 ⟨rfl, c5, g5, hc5⟩
  obtain ⟨c, hc⟩ : ∃ c, c = w4.heap.size := ⟨_, rfl⟩
  have hwc : w.heap.size ≤ c := by have := hC4.size; omega
  have hbc : b ≠ c := by have := g4.lt; omega
  rw [← hc] at c5 ⊢
  have hC5 := hC4.trans hc5
  clear hc hc5 hC4 g4
  go_wp2_with fail
  refine (write_any c k0 k1 _ t _ c5 (by rw [HL1.out]; omega) (by omega)).mono ?_
  rintro e w6 ⟨rfl, c6, hc6⟩
  have g6 := g5.chg hc6 (by simpa using hbc)
  have hC6 : Chg [] w w6 := hC5.trans_new hc6 (by simpa using hwc)
  clear hc6 hC5 c5 g5
  go_wp2_with fail
  refine (sum_r b k0 k1 _ r HR _ g6 (by rw [HL1.out]; omega)).mono ?_
  rintro e w7 ⟨rfl, hc7⟩
  have g7 := g6.chg hc7 (by simp)
  have c7 := c6.chg hc7 (by simp)
  have hC7 := hC6.trans hc7
  clear hc7 hC6 c6 g6
  go_wp2_with fail
  refine (len_any b k0 k1 _ _ g7).mono ?_
  rintro e w8 ⟨rfl, rfl⟩
  rw [HL1.out]
  go_wp2_with fail
  refine (len_any c k0 k1 _ _ c7).mono ?_
  rintro e w8 ⟨rfl, rfl⟩
  rw [HL2.out]
  go_wp2_with fail
  refine (write_any b k0 k1 _ t _ g7 (by rw [HL1.out]; omega) (by omega)).mono ?_
  rintro e w8 ⟨rfl, g8, hc8⟩
  have c8 := c7.chg hc8 (by simpa using Ne.symm hbc)
  have hC8 : Chg [] w w8 := hC7.trans_new hc8 (by simpa using hwb)
  clear hc8 hC7 c7 g7
  go_wp2_with fail
  refine (sum_r b k0 k1 _ r2 HR2 _ g8 (by rw [HL2.out]; omega)).mono ?_
  rintro e w9 ⟨rfl, hc9⟩
  have g9 := g8.chg hc9 (by simp)
  have c9 := c8.chg hc9 (by simp)
  have hC9 := hC8.trans hc9
  clear hc9 hC8 c8 g8
  go_wp2_with fail
  refine (sum_r c k0 k1 _ r2 HR2 _ c9 (by rw [HL2.out]; omega)).mono ?_
  rintro e wa ⟨rfl, hca⟩
  have ga := g9.chg hca (by simp)
  have hCa := hC9.trans hca
  clear hca hC9 c9 g9
  go_wp2_with fail
  refine (sum_r b k0 k1 _ r2 HR2 _ ga (by rw [HL2.out]; omega)).mono ?_
  rintro e wb ⟨rfl, hcb⟩
  have hCb := hCa.trans hcb
  clear hcb hCa ga
  go_wp2_with fail
  refine (total_any k0 k1 (s ++ t) r2 HR3 _ h0 h1 (by omega)).mono ?_
  rintro e wc ⟨rfl, hcc⟩
  have hCc := hCb.trans hcc
  go_wp2
  go_ret
  exact ⟨rfl, hCc.below (Nat.le_refl _) (by simp)⟩

end Go.Proofs.Ythaikobmelalgaa
