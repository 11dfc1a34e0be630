/- The walk of SipPlays. -/
import Derived.Test.YthaikobmelalgaaSipPartsW
import Derived.Test.YthaikobmelalgaaActs13
namespace Go.Proofs.Ythaikobmelalgaa
open Go.RowKit

theorem wtN_take_le (c q : Nat) (l : List Nat) (j : Nat) : wtN c q (l.take j) ≤ wtN c q l := by
  unfold wtN
  rw [List.map_take]
  exact sum_take_le _ j

set_option maxRecDepth 100000 in
set_option maxHeartbeats 1000000 in
theorem long_any (a : Option Addr) (cap : Nat) (acts : List (Nat × ByteArray)) (w : World) (h : IsActs w a acts) (B : Bool) (hB : Hid (B = decide (4000 ≤ wtN 20 4000 (acts.map (·.2.size))))) :
    Calls Try.prog 16 #[.slice a acts.length cap] w fun e w' => e = .returned (.bool B) ∧ w = w' := by
  obtain ⟨hmax, hss⟩ := h
  unfold maxLen at hmax hss
  obtain ⟨zs, hzs⟩ : ∃ zs, zs = acts.map (·.2.size) := ⟨_, rfl⟩
  have hzl : zs.length = acts.length := by rw [hzs]; simp
  have HZG : Hid (∀ i (h : i < acts.length) (h' : i < zs.length), zs[i] = acts[i].2.size) := Lib.hid (by intro i _ _; simp [hzs])
  have HZL := Lib.hid hzl
  have HSS := Lib.hid hss
  rw [← hzs] at hB
  clear hss hzs hzl
  go_enter Try.func16, Try.ntmps16
  go_wp2
  go_loop [3, 4] (CountR 20 4000 zs) (fun _ i => acts.length - (intOf i).toNat)
  case atStart => exact ⟨0, Nat.zero_le _, by simp [wtN], rfl, rfl⟩
  case round =>
    obtain ⟨j, hj, hN, rfl, rfl⟩ := hrel
    obtain ⟨N, hNe⟩ : ∃ N, N = wtN 20 4000 (zs.take j) := ⟨_, rfl⟩
    rw [← hNe] at hN ⊢
    have HNE := Lib.hid hNe
    clear hNe
    by_cases hlt : j < acts.length
    · by_cases hN5 : N < 4000
      · have hjz : j < zs.length := by rw [HZL.out]; exact hlt
        obtain ⟨r, o, ha, hr, _, hc, _, hsz⟩ := HSS.out j hlt
        have hw := wtN_take 20 4000 zs j hjz
        rw [HZG.out j hlt hjz, ← HNE.out] at hw
        subst ha
        obtain ⟨S, hS⟩ : ∃ S, S = acts[j].2 := ⟨_, rfl⟩
        rw [← hS] at hc hsz hw
        have HW := Lib.hid hw
        clear hS hw
        go_wp2_with fail
        go_round
        case rel =>
          refine ⟨j + 1, hjz, by rw [HW.out]; omega, by go_num, ?_⟩
          rw [HW.out]
          congr 1
          split <;> omega
        case measure => simp [intOf] <;> omega
      · have d5 : decide (N < 4000) = false := by simpa using hN5
        have g5 : 4000 ≤ N := by omega
        go_wp2_with fail
        go_ret
        refine ⟨?_, rfl⟩
        have hBt : B = true := by
          rw [hB.out]
          exact decide_eq_true (by have := wtN_take_le 20 4000 zs j; have := HNE.out; omega)
        rw [hBt]
        rfl
    · have dl : decide (j < acts.length) = false := by simpa using hlt
      have e2 : B = decide (4000 ≤ N) := by
        have e1 : zs.take j = zs := List.take_of_length_le (by rw [HZL.out]; omega)
        have e2 := HNE.out
        rw [e1] at e2
        rw [hB.out, e2]
      obtain ⟨C, hC⟩ : ∃ C, C = decide (4000 ≤ N) := ⟨_, rfl⟩
      rw [← hC] at e2
      subst e2
      have hC' : decide ((4000 : Int) ≤ (N : Int)) = B := by rw [hC]; congr 1; rw [eq_iff_iff]; omega
      clear hC hB
      go_wp2_with fail
      go_ret
      exact ⟨rfl, rfl⟩

def PlaysR (k0 k1 : Nat) (zs : List Nat) (w : World) (h v i : Value) (wr : World) : Prop :=
  ∃ (j b : Nat) (T : ByteArray), j ≤ zs.length ∧ i = .int .i64 j ∧ h = .pointer (some ⟨b, 0, none⟩) ∧ w.heap.size ≤ b ∧ v = .string T ∧ T.size ≤ (zs.take j).sum ∧ HashAt wr b k0 k1 (bytesN T) ∧ Chg [] w wr

set_option maxRecDepth 100000 in
set_option maxHeartbeats 4000000 in
theorem sipPlays_walk (x y : Int) (a : Option Addr) (cap : Nat) (acts : List (Nat × ByteArray)) (w : World) (hx : (Lit.int .u64 x).wf = true) (hy : (Lit.int .u64 y).wf = true) (h : IsActs w a acts) :
    Calls Try.prog 6 #[.int .u64 x, .int .u64 y, .slice a acts.length cap] w fun e w' => e = .returned (.bool true) ∧ Below w.heap.size w w' := by
  obtain ⟨k0, rfl, h0⟩ := nat_of_u64 hx
  obtain ⟨k1, rfl, h1⟩ := nat_of_u64 hy
  have hL := h
  obtain ⟨hmax, hss⟩ := h
  unfold maxLen at hmax hss
  obtain ⟨zs, hzs⟩ : ∃ zs, zs = acts.map (·.2.size) := ⟨_, rfl⟩
  have hzl : zs.length = acts.length := by rw [hzs]; simp
  have HZG : Hid (∀ i (h : i < acts.length) (h' : i < zs.length), zs[i] = acts[i].2.size) := Lib.hid (by intro i _ _; simp [hzs])
  have HZL := Lib.hid hzl
  have HSS := Lib.hid hss
  have HLG := fun B => long_any a cap acts w hL B
  rw [← hzs] at HLG
  have HLG' := Lib.hid HLG
  clear hx hy hss hzs hzl hL HLG
  by_cases hbig : 4000 ≤ wtN 20 4000 zs
  · have HB : Hid (true = decide (4000 ≤ wtN 20 4000 zs)) := Lib.hid (by rw [decide_eq_true hbig])
    clear hbig
    go_enter Try.func6, Try.ntmps6
    go_wp2_with fail
    refine (HLG'.out true HB).mono ?_
    rintro e w1 ⟨rfl, rfl⟩
    go_wp2_with fail
    refine (awake_any _).mono ?_
    rintro e w1 ⟨rfl, hc1⟩
    go_wp2
    go_ret
    exact ⟨rfl, hc1.below (Nat.le_refl _) (by simp)⟩
  have HB : Hid (false = decide (4000 ≤ wtN 20 4000 zs)) := Lib.hid (by rw [decide_eq_false hbig])
  have hsum : zs.sum ≤ 4000 := by
    have := wtN_sum 20 4000 zs (by omega)
    omega
  clear hbig
  go_enter Try.func6, Try.ntmps6
  go_wp2_with fail
  refine (HLG'.out false HB).mono ?_
  rintro e w1 ⟨rfl, rfl⟩
  go_wp2_with fail
  refine (make_any k0 k1 _ h0 h1).mono ?_
  rintro e w2 ⟨rfl, g2, hC2⟩
  obtain ⟨b, hb⟩ : ∃ b, b = w.heap.size := ⟨_, rfl⟩
  have hwb : w.heap.size ≤ b := by omega
  rw [← hb] at g2 ⊢
  clear hb HLG' HB
  go_wp2_with fail
  go_loopw [7, 8, 9] (PlaysR k0 k1 zs w) (fun _ _ i _ => acts.length - (intOf i).toNat)
  case atStart => exact ⟨0, b, ⟨#[]⟩, Nat.zero_le _, rfl, rfl, hwb, rfl, Nat.zero_le _, g2, hC2⟩
  case round =>
    clear g2 hC2 hwb
    obtain ⟨i, b, T, hi, rfl, rfl, hwb, rfl, hT, g, hC⟩ := hrel
    have hTl := sum_take_le zs i
    have hT5 : T.size ≤ 4000 := by omega
    by_cases hlt : i < acts.length
    · have hiz : i < zs.length := by rw [HZL.out]; exact hlt
      obtain ⟨r, o, ha, hr, hcW, hcS, hWb, hsz⟩ := HSS.out i hlt
      have hw := sum_take_succ zs i hiz
      have hle := sum_take_le zs (i + 1)
      rw [HZG.out i hlt hiz] at hw
      rw [hw] at hle
      subst ha
      obtain ⟨W, hW⟩ : ∃ W, W = acts[i].1 := ⟨_, rfl⟩
      obtain ⟨S, hS⟩ : ∃ S, S = acts[i].2 := ⟨_, rfl⟩
      rw [← hW] at hcW hWb
      rw [← hS] at hcS hsz hw hle
      have HW := Lib.hid hw
      have hS5 : S.size ≤ 4000 := by omega
      clear hS hW hw
      have d1 : wr.cell? ⟨r, o + i * 2, none⟩ = some (.int .u8 W) := hC.cell hcW (by simp)
      have d2 : wr.cell? ⟨r, o + i * 2 + 1, none⟩ = some (.string S) := hC.cell hcS (by simp)
      by_cases hW0 : W = 0
      · subst hW0
        have hTS : T.size + S.size ≤ 4000 := by omega
        obtain ⟨rr, hrr⟩ : ∃ r, r = sipN k0 k1 (bytesN (T ++ S)) := ⟨_, rfl⟩
        have HR := Lib.hid hrr
        have hts : (T ++ S).size ≤ 4000 := by rw [ByteArray.size_append]; omega
        have HLT := Lib.hid (bytesN_len (T ++ S))
        clear hrr
        go_wp2_with fail
        refine (write_any b k0 k1 _ S _ g (by rw [bytesN_len]; omega) (by omega)).mono ?_
        rintro e w3 ⟨rfl, g3, hc3⟩
        have hC3 : Chg [] w w3 := hC.trans_new hc3 (by simpa using hwb)
        have d3 : w3.cell? ⟨r, o + i * 2 + 1, none⟩ = some (.string S) := hC3.cell hcS (by simp)
        rw [← bytesN_append] at g3
        clear d1 d2
        go_wp2_with fail
        refine (sum_r b k0 k1 _ rr HR _ g3 (by rw [HLT.out]; omega)).mono ?_
        rintro e w4 ⟨rfl, hc4⟩
        have g4 := g3.chg hc4 (by simp)
        have hC4 := hC3.trans hc4
        go_wp2_with fail
        refine (rsum_any k0 k1 (T ++ S) rr HR _ h0 h1 (by omega)).mono ?_
        rintro e w5 ⟨rfl, hc5⟩
        have g5 := g4.chg hc5 (by simp)
        have hC5 := hC4.trans hc5
        go_wp2_with fail
        refine (len_any b k0 k1 _ _ g5).mono ?_
        rintro e w6 ⟨rfl, rfl⟩
        rw [HLT.out]
        clear d3
        go_wp2
        go_roundw
        case rel => exact ⟨i + 1, b, T ++ S, hiz, by go_num, rfl, hwb, rfl, by rw [ByteArray.size_append, HW.out]; omega, g5, hC5⟩
        case measure => simp [intOf] <;> omega
      have u0 : ((W : Int) == 0) = false := by simp; omega
      obtain ⟨rr, hrr⟩ : ∃ r, r = sipN k0 k1 (bytesN T) := ⟨_, rfl⟩
      have HR := Lib.hid hrr
      have HLT := Lib.hid (bytesN_len T)
      clear hrr
      by_cases hW1 : W = 1
      · subst hW1
        go_wp2_with fail
        refine (copy_any b k0 k1 _ _ g).mono ?_
        rintro e w3 ⟨rfl, c3, g3, hc3⟩
        obtain ⟨c, hc⟩ : ∃ c, c = wr.heap.size := ⟨_, rfl⟩
        have hwc : w.heap.size ≤ c := by have := hC.size; omega
        have hbc : b ≠ c := by have := g.lt; omega
        rw [← hc] at c3 ⊢
        have hC3 := hC.trans hc3
        clear hc hc3 d1 d2 u0
        go_wp2_with fail
        refine (write_any b k0 k1 _ _ _ g3 (by rw [HLT.out]; omega) (by decide)).mono ?_
        rintro e w4 ⟨rfl, g4, hc4⟩
        have c4 := c3.chg hc4 (by simpa using Ne.symm hbc)
        have hC4 : Chg [] w w4 := hC3.trans_new hc4 (by simpa using hwb)
        clear g4 hc4 g3 c3
        go_wp2_with fail
        refine (sum_r c k0 k1 _ rr HR _ c4 (by rw [HLT.out]; omega)).mono ?_
        rintro e w5 ⟨rfl, hc5⟩
        have c5 := c4.chg hc5 (by simp)
        have hC5 := hC4.trans hc5
        go_wp2_with fail
        refine (rsum_any k0 k1 T rr HR _ h0 h1 (by omega)).mono ?_
        rintro e w6 ⟨rfl, hc6⟩
        have c6 := c5.chg hc6 (by simp)
        have hC6 := hC5.trans hc6
        go_wp2_with fail
        refine (len_any c k0 k1 _ _ c6).mono ?_
        rintro e w7 ⟨rfl, rfl⟩
        rw [HLT.out]
        go_wp2
        go_roundw
        case rel => exact ⟨i + 1, c, T, hiz, by go_num, rfl, hwc, rfl, by rw [HW.out]; omega, c6, hC6⟩
        case measure => simp [intOf] <;> omega
      have u1 : ((W : Int) == 1) = false := by simp; omega
      go_wp2_with fail
      refine (sum_r b k0 k1 _ rr HR _ g (by rw [HLT.out]; omega)).mono ?_
      rintro e w5 ⟨rfl, hc5⟩
      have c5 := g.chg hc5 (by simp)
      have hC5 := hC.trans hc5
      clear d1 d2
      go_wp2_with fail
      refine (rsum_any k0 k1 T rr HR _ h0 h1 (by omega)).mono ?_
      rintro e w6 ⟨rfl, hc6⟩
      have c6 := c5.chg hc6 (by simp)
      have hC6 := hC5.trans hc6
      go_wp2_with fail
      refine (len_any b k0 k1 _ _ c6).mono ?_
      rintro e w7 ⟨rfl, rfl⟩
      rw [HLT.out]
      go_wp2
      go_roundw
      case rel => exact ⟨i + 1, b, T, hiz, by go_num, rfl, hwb, rfl, by rw [HW.out]; omega, c6, hC6⟩
      case measure => simp [intOf] <;> omega
    · have dl : decide (i < acts.length) = false := by simpa using hlt
      go_wp2_with fail
      refine (awake_any _).mono ?_
      rintro e w3 ⟨rfl, hc3⟩
      go_wp2
      go_ret
      exact ⟨rfl, (hC.trans hc3).below (Nat.le_refl _) (by simp)⟩

end Go.Proofs.Ythaikobmelalgaa
