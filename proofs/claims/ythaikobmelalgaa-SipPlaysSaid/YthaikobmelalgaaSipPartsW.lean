/- The walk of SipParts. -/
import Derived.Test.YthaikobmelalgaaSipTellsW
import Derived.Test.YthaikobmelalgaaStrs
namespace Go.Proofs.Ythaikobmelalgaa
open Go.RowKit

def CountR (c q : Nat) (zs : List Nat) (n i : Value) : Prop := ∃ j : Nat, j ≤ zs.length ∧ wtN c q (zs.take j) ≤ c + q + q ∧ i = .int .i64 j ∧ n = .int .i64 (wtN c q (zs.take j) : Nat)

def PartsR (b k0 k1 : Nat) (zs : List Nat) (w : World) (v i : Value) (wr : World) : Prop :=
  ∃ (j : Nat) (T : ByteArray), j ≤ zs.length ∧ i = .int .i64 j ∧ v = .string T ∧ T.size = (zs.take j).sum ∧ HashAt wr b k0 k1 (bytesN T) ∧ Chg [] w wr

set_option maxRecDepth 100000 in
set_option maxHeartbeats 4000000 in
theorem sipParts_walk (x y : Int) (a : Option Addr) (cap : Nat) (ss : List ByteArray) (w : World) (hx : (Lit.int .u64 x).wf = true) (hy : (Lit.int .u64 y).wf = true) (h : IsStrs w a ss) :
    Calls Try.prog 4 #[.int .u64 x, .int .u64 y, .slice a ss.length cap] w fun e w' => e = .returned (.bool true) ∧ Below w.heap.size w w' := by
  obtain ⟨k0, rfl, h0⟩ := nat_of_u64 hx
  obtain ⟨k1, rfl, h1⟩ := nat_of_u64 hy
  obtain ⟨hmax, hss⟩ := h
  unfold maxLen at hmax hss
  obtain ⟨zs, hzs⟩ : ∃ zs, zs = ss.map (·.size) := ⟨_, rfl⟩
  have hzl : zs.length = ss.length := by rw [hzs]; simp
  have HZG : Hid (∀ i (h : i < ss.length) (h' : i < zs.length), zs[i] = ss[i].size) := Lib.hid (by intro i _ _; simp [hzs])
  have HZL := Lib.hid hzl
  have HSS := Lib.hid hss
  clear hx hy hss hzs hzl
  go_enter Try.func4, Try.ntmps4
  go_wp2
  go_loop [7, 8] (CountR 10 5000 zs) (fun _ i => ss.length - (intOf i).toNat)
  case atStart => exact ⟨0, Nat.zero_le _, by simp [wtN], rfl, rfl⟩
  case round =>
    obtain ⟨j, hj, hN, rfl, rfl⟩ := hrel
    obtain ⟨N, hNe⟩ : ∃ N, N = wtN 10 5000 (zs.take j) := ⟨_, rfl⟩
    rw [← hNe] at hN ⊢
    have HNE := Lib.hid hNe
    clear hNe
    by_cases hlt : j < ss.length
    · by_cases hN5 : N < 5000
      · have hjz : j < zs.length := by rw [HZL.out]; exact hlt
        obtain ⟨r, o, ha, hr, hc, hsz⟩ := HSS.out j hlt
        have hw := wtN_take 10 5000 zs j hjz
        rw [HZG.out j hlt hjz, ← HNE.out] at hw
        subst ha
        obtain ⟨S, hS⟩ : ∃ S, S = ss[j] := ⟨_, rfl⟩
        rw [← hS] at hc hsz hw
        have HW := Lib.hid hw
        clear hS hw
        go_wp2_with fail
        go_round
        case rel =>
          refine ⟨j + 1, hjz, by rw [HW.out]; omega, by go_num, ?_⟩
          rw [HW.out]
          congr 1
          split <;> omega
        case measure => simp [intOf] <;> omega
      · have d5 : decide (N < 5000) = false := by simpa using hN5
        have g5 : 5000 ≤ N := by omega
        go_wp2_with fail
        refine (awake_any _).mono ?_
        rintro e w1 ⟨rfl, hc1⟩
        go_wp2
        go_ret
        exact ⟨rfl, hc1.below (Nat.le_refl _) (by simp)⟩
    · have dl : decide (j < ss.length) = false := by simpa using hlt
      by_cases hN5 : 5000 ≤ N
      · go_wp2_with fail
        refine (awake_any _).mono ?_
        rintro e w1 ⟨rfl, hc1⟩
        go_wp2
        go_ret
        exact ⟨rfl, hc1.below (Nat.le_refl _) (by simp)⟩
      have d5 : decide (5000 ≤ N) = false := by simpa using hN5
      have hsum : zs.sum ≤ 5000 := by
        have e1 : zs.take j = zs := List.take_of_length_le (by rw [HZL.out]; omega)
        have e2 := HNE.out
        rw [e1] at e2
        have := wtN_sum 10 5000 zs (by omega)
        omega
      clear hlt hj
      go_wp2_with fail
      refine (awake_any _).mono ?_
      rintro e w1 ⟨rfl, hC1⟩
      go_wp2_with fail
      refine (make_any k0 k1 _ h0 h1).mono ?_
      rintro e w2 ⟨rfl, g2, hc2⟩
      obtain ⟨b, hb⟩ : ∃ b, b = w1.heap.size := ⟨_, rfl⟩
      have hwb : w.heap.size ≤ b := by have := hC1.size; omega
      rw [← hb] at g2 ⊢
      have hC2 := hC1.trans hc2
      clear hb hc2 hC1
      go_wp2_with fail
      go_loopw [10, 11] (PartsR b k0 k1 zs w) (fun _ i _ => ss.length - (intOf i).toNat)
      case atStart => exact ⟨0, ⟨#[]⟩, Nat.zero_le _, rfl, rfl, rfl, g2, hC2⟩
      case round =>
        clear g2 hC2
        obtain ⟨i, T, hi, rfl, rfl, hT, g, hC⟩ := hrel
        have hTl := sum_take_le zs i
        have hT5 : T.size ≤ 5000 := by omega
        have HT := Lib.hid hT
        clear hT
        by_cases hlt : i < ss.length
        · have hiz : i < zs.length := by rw [HZL.out]; exact hlt
          obtain ⟨r, o, ha, hr, hc, hsz⟩ := HSS.out i hlt
          have hw := sum_take_succ zs i hiz
          have hle := sum_take_le zs (i + 1)
          rw [HZG.out i hlt hiz, ← HT.out] at hw
          rw [hw] at hle
          subst ha
          obtain ⟨S, hS⟩ : ∃ S, S = ss[i] := ⟨_, rfl⟩
          rw [← hS] at hc hsz hw hle
          have HW := Lib.hid hw
          have hS5 : S.size ≤ 5000 := by omega
          clear hS hw
          have hc0 : wr.cell? ⟨r, o + i, none⟩ = some (.string S) := hC.cell hc (by simp)
          go_wp2_with fail
          refine (write_any b k0 k1 _ S _ g (by rw [bytesN_len]; omega) (by omega)).mono ?_
          rintro e w3 ⟨rfl, g3, hc3⟩
          have hC3 : Chg [] w w3 := hC.trans_new hc3 (by simpa using hwb)
          have hc1 : w3.cell? ⟨r, o + i, none⟩ = some (.string S) := hC3.cell hc (by simp)
          rw [← bytesN_append] at g3
          clear hc0
          go_wp2_with fail
          go_roundw
          case rel => exact ⟨i + 1, T ++ S, hiz, by go_num, rfl, by rw [ByteArray.size_append, HW.out], g3, hC3⟩
          case measure => simp [intOf] <;> omega
        · have dl2 : decide (i < ss.length) = false := by simpa using hlt
          obtain ⟨r, hr⟩ : ∃ r, r = sipN k0 k1 (bytesN T) := ⟨_, rfl⟩
          have HR := Lib.hid hr
          have HLT := Lib.hid (bytesN_len T)
          clear hr hlt
          go_wp2_with fail
          refine (sum_r b k0 k1 _ r HR _ g (by rw [HLT.out]; omega)).mono ?_
          rintro e w3 ⟨rfl, hc3⟩
          have g3 := g.chg hc3 (by simp)
          have hC3 := hC.trans hc3
          go_wp2_with fail
          refine (total_any k0 k1 T r HR _ h0 h1 (by omega)).mono ?_
          rintro e w4 ⟨rfl, hc4⟩
          have g4 := g3.chg hc4 (by simp)
          have hC4 := hC3.trans hc4
          go_wp2_with fail
          refine (len_any b k0 k1 _ _ g4).mono ?_
          rintro e w5 ⟨rfl, rfl⟩
          rw [HLT.out]
          go_wp2
          go_ret
          exact ⟨rfl, hC4.below (Nat.le_refl _) (by simp)⟩

end Go.Proofs.Ythaikobmelalgaa
