/- The walk of TimerApart. -/
import Derived.Test.YtlkhaookdmgbnaaTimerByW
import Derived.Test.YtlkhaookdmgbnaaTimS
namespace Go.Proofs.Ytlkhaookdmgbnaa
open Go.RowKit

theorem due_any' (w0 : World) (tb : Nat) (L : List It) (p : Nat) (now : Int) (w : World) (h : TB w0 w tb L p) (hp : p ≤ 1000000) :
    Calls Try.prog 12 #[.pointer (some ⟨tb, 0, none⟩), .int .i64 now] w fun e w' => ∃ v, e = .returned v ∧ RowZ .i64 w' v (dueL L now) ∧ Chg [] w0 w' ∧ TB w0 w' tb (restL L now) p := by
  refine (due_t w0 tb L p now w h hp).mono ?_
  rintro e w' ⟨a, c, rfl, hr, hT⟩
  exact ⟨_, rfl, hr, hT.chg, hT⟩

set_option maxRecDepth 100000 in
set_option maxHeartbeats 8000000 in
theorem timerApart_walk (a0 : Option Addr) (cap0 : Nat) (z0 : List (Int × Int)) (a1 : Option Addr) (cap1 : Nat) (z1 : List (Int × Int)) (now : Int) (w : World) (w0 : IsSets w a0 z0) (w1 : IsSets w a1 z1) (w2 : (Lit.int .i64 now).wf = true) :
    Calls Try.prog 6 #[.slice a0 z0.length cap0, .slice a1 z1.length cap1, .int .i64 now] w fun e w' => e = .returned (.bool true) ∧ Below w.heap.size w w' := by
  have HS := Lib.hid w0
  have HS1 := Lib.hid w1
  have hm0 := w0.1
  have hm1 := w1.1
  have hm0' : z0.length ≤ 9223372036854775807 := by simp only [maxLen] at hm0; omega
  have hm1' : z1.length ≤ 9223372036854775807 := by simp only [maxLen] at hm1; omega
  clear w0 w1 hm0 hm1 w2
  by_cases hl : z0.length ≤ 150
  · by_cases hr : z1.length ≤ 150
    · have d1 : decide ((150 : Int) < (z0.length : Int)) = false := by simp; omega
      have d2 : decide ((150 : Int) < (z1.length : Int)) = false := by simp; omega
      have d3 : decide (150 < z0.length) = false := by simp; omega
      have d4 : decide (150 < z1.length) = false := by simp; omega
      go_enter Try.func6, Try.ntmps6
      go_wp2_with fail
      refine (awake_any w).mono ?_
      rintro e w1 ⟨rfl, hc1⟩
      clear d1 d2 d3 d4
      go_wp2_with fail
      refine (put_sets a0 cap0 z0 _ (HS.out.same hc1) (by omega)).mono ?_
      rintro e w2 ⟨t, rfl, h2⟩
      have HS2 := Lib.hid ((HS.out.same hc1).same h2.chg)
      have H2 := Lib.hid h2
      clear h2
      go_wp2_with fail
      refine (put_sets a0 cap0 z0 _ HS2.out (by omega)).mono ?_
      rintro e w3 ⟨u, rfl, h3⟩
      obtain ⟨F1, F2, hTT⟩ := TT.made hc1 H2.out h3
      have HTT := Lib.hid hTT
      obtain ⟨L, hL⟩ : ∃ L, L = putsT z0 z0.length := ⟨_, rfl⟩
      rw [← hL] at HTT
      obtain ⟨p, hp⟩ : ∃ p, p = z0.length := ⟨_, rfl⟩
      rw [← hp] at HTT
      have HLP := Lib.hid (And.intro hL hp)
      have hp1 : p ≤ 150 := by omega
      have hLp : L.length ≤ p := HTT.out.two.ok.len
      have hw3 : w.heap.size ≤ w3.heap.size := HTT.out.chg.size
      clear hL hp h3 hTT H2 HS2 hc1
      go_wp2_with fail
      refine (copy_any t F1 L p _ HTT.out.one (by omega)).mono ?_
      rintro e w4 ⟨c, rfl, h4⟩
      have H4 := Lib.hid h4
      clear h4
      go_wp2_with fail
      go_loopw [10] (fun v wr => ∃ k M, k ≤ z1.length ∧ v = .int .i64 (k : Nat) ∧ TB w3 wr c M (p + k)) (fun v _ => z1.length - (intOf v).toNat)
      case atStart => exact ⟨0, L, by omega, rfl, H4.out⟩
      case round =>
        clear H4
        obtain ⟨k, M, hk, rfl, hC⟩ := hrel
        have HC := Lib.hid hC
        clear hC
        by_cases hlt : k < z1.length
        · obtain ⟨b, o, rfl, hb, c0, c1, i0, i1⟩ := HS1.out.2 k hlt
          have hch := HTT.out.chg.trans HC.out.chg
          have c0' := hch.cell c0 (by simp)
          have c1' := hch.cell c1 (by simp)
          obtain ⟨id, hid⟩ : ∃ id, id = z1[k].1 := ⟨_, rfl⟩
          obtain ⟨due, hdue⟩ : ∃ due, due = z1[k].2 := ⟨_, rfl⟩
          rw [← hid] at c0' i0
          rw [← hdue] at c1' i1
          have b1 : (k : Int) < (z1.length : Int) := by omega
          clear hch c0 c1 hid hdue
          go_wp2_with fail
          go_region_with (go_at_call 17; go_must (refine (put_t w3 c M (p + k) id due _ (HC.out.same ((Chg.refl [] _).drew)) i0 i1 (by omega)).mono ?_; rintro e w5 ⟨rfl, h5⟩))
          all_goals
            have H5 := Lib.hid h5
            clear h5
            go_wp2
            go_roundw
            case rel => exact ⟨k + 1, _, by omega, by go_num, H5.out⟩
            case measure => simp [intOf]; omega
        · obtain rfl : k = z1.length := by omega
          go_wp2_with fail
          refine (due_t w3 c M _ now _ HC.out (by omega)).mono ?_
          rintro e w5 ⟨a5, c5, rfl, _, h5⟩
          have HT5 := Lib.hid (HTT.out.same h5.chg)
          clear h5 HC HTT
          go_wp2_with fail
          refine (copy_any t F1 L p _ HT5.out.one (by omega)).mono ?_
          rintro e w6 ⟨d, rfl, Fd, hd1, hd2, hd3, hd4⟩
          have HT6 := Lib.hid (HT5.out.same hd4)
          have hs5 := HT5.out.size
          have HDL : Hid (∀ y ∈ d :: Fd, w3.heap.size ≤ y) := Lib.hid (by
            intro y hy
            rcases List.mem_cons.1 hy with e | e
            · omega
            · have := hd2 y e; omega)
          have HD6 := Lib.hid hd1
          clear hd1 hd2 hd3 hd4 HT5
          go_wp2_with fail
          refine (len_any t F1 _ p _ HT6.out.one).mono ?_
          rintro e w7 ⟨rfl, rfl⟩
          go_wp2_with fail
          refine (len_any u F2 _ p _ HT6.out.two).mono ?_
          rintro e w7 ⟨rfl, rfl⟩
          have q1 : ((L.length : Int) != (L.length : Int)) = false := by simp
          go_wp2_with fail
          refine (due_any t F1 _ p 9223372036854775807 _ HT6.out.one (by omega)).mono ?_
          rintro e w7 ⟨v7, rfl, o7, m7, c7⟩
          have HT7 := Lib.hid (HT6.out.due1 m7 c7)
          have HD7 : Hid (TimersAt w7 d Fd L p) := Lib.hid (HD6.out.chg c7 (fun hx => by have := HT6.out.low1 d hx; have := HDL.out d (by simp); omega) (fun y hy hx => by have := HT6.out.low1 y hx; have := HDL.out y (by simp [hy]); omega))
          have O7 := Lib.hid o7
          have hs6 := HT6.out.size
          clear o7 m7 c7 HD6
          go_wp2_with fail
          refine (due_any u F2 _ p 9223372036854775807 _ HT7.out.two (by omega)).mono ?_
          rintro e w8 ⟨v8, rfl, o8, m8, c8⟩
          have HT8 := Lib.hid (HT7.out.due2 m8 c8)
          have HD8 : Hid (TimersAt w8 d Fd L p) := Lib.hid (HD7.out.chg c8 (fun hx => by have := HT7.out.low2 d hx; have := HDL.out d (by simp); omega) (fun y hy hx => by have := HT7.out.low2 y hx; have := HDL.out y (by simp [hy]); omega))
          have R7 := Lib.hid (OwnZ.row (OwnZ.chg O7.out c8 (fun y hy => Nat.lt_of_lt_of_le (HT7.out.low2 y hy) hs6)))
          have R8 := Lib.hid o8.row
          clear o8 m8 c8 HD7 O7
          have hln : (dueL L 9223372036854775807).length ≤ 1000000 := Nat.le_trans (dueL_len_le _ _) (by omega)
          go_wp2_with fail
          refine (intsz_c _ _ _ _ true (Lib.hid (by simp)) _ R7.out R8.out hln hln).mono ?_
          rintro e w9 ⟨rfl, hc9⟩
          have HT9 := Lib.hid (HT8.out.same hc9)
          have HD9 := Lib.hid (HD8.out.same hc9)
          clear hc9 R7 R8 HT8 HD8 HT7 HT6
          go_wp2_with fail
          refine (due_any d Fd L p 9223372036854775807 _ HD9.out (by omega)).mono ?_
          rintro e w10 ⟨v10, rfl, o10, m10, c10⟩
          have HC10 : Hid (Chg [] w w10) := Lib.hid (HT9.out.chg.trans_new c10 fun y hy => .inr (by have := HDL.out y hy; omega))
          have R10 := Lib.hid o10.row
          clear o10 m10 c10 HT9 HD9
          go_wp2_with fail
          refine (put_sets a0 cap0 z0 _ (HS.out.same HC10.out) (by omega)).mono ?_
          rintro e w11 ⟨x, rfl, h11⟩
          rw [← HLP.out.1, ← HLP.out.2] at h11
          have H11 := Lib.hid h11
          clear h11
          go_wp2_with fail
          refine (due_any' w10 x L p 9223372036854775807 _ H11.out (by omega)).mono ?_
          rintro e w12 ⟨v12, rfl, r12, hc12, _⟩
          have R12 := Lib.hid r12
          have R13 := Lib.hid (R10.out.chg hc12)
          have HC12 : Hid (Chg [] w w12) := Lib.hid (HC10.out.trans hc12)
          clear r12 hc12 R10
          go_wp2_with fail
          refine (intsz_c _ _ _ _ true (Lib.hid (by simp)) _ R13.out R12.out hln hln).mono ?_
          rintro e w13 ⟨rfl, hc13⟩
          have HB : Hid (Below w.heap.size w w13) := Lib.hid ((HC12.out.trans hc13).below (Nat.le_refl _) (by simp))
          clear hc13
          go_wp2
          go_ret
          exact ⟨rfl, HB.out⟩
    · have d1 : decide ((150 : Int) < (z0.length : Int)) = false := by simp; omega
      have d2 : decide ((150 : Int) < (z1.length : Int)) = true := by simp; omega
      have d3 : decide (150 < z0.length) = false := by simp; omega
      have d4 : decide (150 < z1.length) = true := by simp; omega
      go_enter Try.func6, Try.ntmps6
      go_wp2_with fail
      refine (awake_any w).mono ?_
      rintro e w1 ⟨rfl, hc1⟩
      go_wp2
      go_ret
      exact ⟨rfl, hc1.below (Nat.le_refl _) (by simp)⟩
  · have d1 : decide ((150 : Int) < (z0.length : Int)) = true := by simp; omega
    have d3 : decide (150 < z0.length) = true := by simp; omega
    go_enter Try.func6, Try.ntmps6
    go_wp2_with fail
    refine (awake_any w).mono ?_
    rintro e w1 ⟨rfl, hc1⟩
    go_wp2
    go_ret
    exact ⟨rfl, hc1.below (Nat.le_refl _) (by simp)⟩

end Go.Proofs.Ytlkhaookdmgbnaa
