/- The walk of ReputeRest. -/
import Derived.Test.YtjcciojbljlloaaRepTrialW
import Derived.Test.YtjcciojbljlloaaRepPl3
namespace Go.Proofs.Ytjcciojbljlloaa
open Go.RowKit

theorem due_v (b r L R : Nat) (us : List Up) (w : World) (t : Nat) (f : Bool) (h : Book w b r L R us) (hd : Hid (dueN us = (t, f))) :
    Calls Try.prog 20 #[.pointer (some ⟨b, 0, none⟩)] w fun e w' => e = .returned (.tuple #[.int .i64 t, .bool f]) ∧ Chg [] w w' := by
  have := due_any b r L R us w h
  rw [hd.out] at this
  exact this

set_option maxRecDepth 100000 in
set_option maxHeartbeats 8000000 in
theorem reputeRest_walk (x y z : Int) (a : Option Addr) (cap : Nat) (acts : List ActT) (u now again : Int) (w : World) (_hx : (Lit.int .i64 x).wf = true) (_hy : (Lit.int .i64 y).wf = true) (_hz : (Lit.int .i64 z).wf = true) (h : IsActs w a acts) (_hu : (Lit.int .i64 u).wf = true) (_hn : (Lit.int .i64 now).wf = true) (_ha : (Lit.int .i64 again).wf = true) :
    Calls Try.prog 7 #[.int .i64 x, .int .i64 y, .int .i64 z, .slice a acts.length cap, .int .i64 u, .int .i64 now, .int .i64 again] w fun e w' => e = .returned (.bool true) ∧ Below w.heap.size w w' := by
  have hmax := h.1
  unfold maxLen at hmax
  have HA := Lib.hid h
  clear h
  by_cases hbig : 600 < acts.length
  · have hbI : (600 : Int) < (acts.length : Int) := by omega
    go_enter Try.func7, Try.ntmps7
    go_wp2_with fail
    refine (awake_any _).mono ?_
    rintro e w1 ⟨rfl, hc1⟩
    go_wp2
    go_ret
    exact ⟨rfl, hc1.below (Nat.le_refl _) (by simp)⟩
  have hd : decide (600 < acts.length) = false := by simpa using hbig
  have hdI : decide ((600 : Int) < (acts.length : Int)) = false := by simp; omega
  have hleI : (acts.length : Int) ≤ 600 := by omega
  by_cases hn0 : now < 0
  · go_enter Try.func7, Try.ntmps7
    go_wp2_with fail
    refine (awake_any _).mono ?_
    rintro e w1 ⟨rfl, hc1⟩
    go_wp2
    go_ret
    exact ⟨rfl, hc1.below (Nat.le_refl _) (by simp)⟩
  have dn0 : decide (now < 0) = false := by simpa using hn0
  by_cases hn1 : 549755813888 < now
  · go_enter Try.func7, Try.ntmps7
    go_wp2_with fail
    refine (awake_any _).mono ?_
    rintro e w1 ⟨rfl, hc1⟩
    go_wp2
    go_ret
    exact ⟨rfl, hc1.below (Nat.le_refl _) (by simp)⟩
  have dn1 : decide (549755813888 < now) = false := by simpa using hn1
  by_cases ha0 : again < 0
  · go_enter Try.func7, Try.ntmps7
    go_wp2_with fail
    refine (awake_any _).mono ?_
    rintro e w1 ⟨rfl, hc1⟩
    go_wp2
    go_ret
    exact ⟨rfl, hc1.below (Nat.le_refl _) (by simp)⟩
  have da0 : decide (again < 0) = false := by simpa using ha0
  by_cases ha1 : 549755813888 < again
  · go_enter Try.func7, Try.ntmps7
    go_wp2_with fail
    refine (awake_any _).mono ?_
    rintro e w1 ⟨rfl, hc1⟩
    go_wp2
    go_ret
    exact ⟨rfl, hc1.below (Nat.le_refl _) (by simp)⟩
  have da1 : decide (549755813888 < again) = false := by simpa using ha1
  obtain ⟨nw, rfl⟩ : ∃ nw : Nat, now = nw := ⟨now.toNat, by omega⟩
  obtain ⟨ag, rfl⟩ : ∃ ag : Nat, again = ag := ⟨again.toNat, by omega⟩
  have hnw : nw ≤ 549755813888 := by omega
  have hag : ag ≤ 549755813888 := by omega
  obtain ⟨n, L, R, hS⟩ := sizes_any x y z
  have HS := Lib.hid hS
  have n9 : n ≤ 9 := by have := hS.n5; omega
  have n1 : 1 ≤ n := by have := hS.n5; omega
  have hL2 := hS.L2
  have hL1 := hS.L1
  have hR2 := hS.R2
  obtain ⟨us0, hus0⟩ : ∃ us, us = foldB L R (newB n) acts := ⟨_, rfl⟩
  have hul : us0.length = n := by rw [hus0, foldB_len, newB_len]
  have HU := Lib.hid hus0
  have hok0 : AllOk us0 := by rw [hus0]; exact allOk_fold hL2 hR2 _ (newB_ok n)
  obtain ⟨us1, hus1⟩ : ∃ us, us = backB L 4398046511104 us0 := ⟨_, rfl⟩
  have hul1 : us1.length = n := by rw [hus1, backB_len, hul]
  have hfree : ∀ p ∈ us1, p.rests = false := by rw [hus1]; exact back_late hok0
  have HB1 : Hid (backB L 4398046511104 us0 = us1) := Lib.hid hus1.symm
  obtain ⟨U, hU⟩ : ∃ U : Nat, (u % 18446744073709551616) % (n : Int) = U := ⟨((u % 18446744073709551616) % (n : Int)).toNat, by have := Int.emod_nonneg (u % 18446744073709551616) (show (n : Int) ≠ 0 by omega); omega⟩
  have hUn : U < n := by have := Int.emod_lt_of_pos (u % 18446744073709551616) (show (0 : Int) < (n : Int) by omega); omega
  have eU : (IntKind.u64.wrap u).tmod (n : Int) = (U : Int) := by rw [IntKind.wrap_u64, Int.tmod_eq_emod_of_nonneg (by omega)]; exact hU
  have eW : IntKind.u64.wrap (n : Int) = (n : Int) := by rw [IntKind.wrap_u64]; omega
  have hnz : ((n : Int) == 0) = false := by simp; omega
  obtain ⟨T, hT⟩ : ∃ T, T = nw + R := ⟨_, rfl⟩
  obtain ⟨us2, us3, us5, B, hF⟩ := rest_facts L R us1 U nw ag n T hT hul1 hUn hfree hL2 hnw hag
  obtain ⟨sc1, hsc1⟩ : ∃ s, s = (getB us1 (U : Int)).score := ⟨_, rfl⟩
  obtain ⟨sc2, hsc2⟩ : ∃ s, s = (getB us2 (U : Int)).score := ⟨_, rfl⟩
  have hs2 := hF.s2
  have hb2 := hF.b2
  rw [← hsc1, ← hsc2] at hs2
  rw [← hsc2] at hb2
  have HSC1 : Hid ((getB us1 (U : Int)).score = sc1) := Lib.hid hsc1.symm
  have HSC2 : Hid ((getB us2 (U : Int)).score = sc2) := Lib.hid hsc2.symm
  have emax : (if (0 : Int) < (sc1 : Int) - 10 then (sc1 : Int) - 10 else 0) = (sc2 : Int) := by rw [hs2]; split <;> omega
  have emax2 : (if (10 : Int) < (sc1 : Int) then (sc1 : Int) - 10 else 0) = (sc2 : Int) := by rw [hs2]; split <;> omega
  have emax3 : (if 10 < sc1 then (sc1 : Int) - 10 else 0) = (sc2 : Int) := by rw [hs2]; split <;> omega
  have hsc1b : sc1 ≤ 100 := by
    rw [hsc1, getB_in (by omega)]
    have hok1 : AllOk us1 := by rw [hus1]; exact backB_ok hok0 hL2
    exact (hok1 _ (List.getElem_mem _)).score
  obtain ⟨l0, hl0⟩ : ∃ l, l = backI 4398046511104 us0 := ⟨_, rfl⟩
  have HL0 : Hid (backI 4398046511104 us0 = l0) := Lib.hid hl0.symm
  obtain ⟨lm, hlm⟩ : ∃ l, l = mayN us1 := ⟨_, rfl⟩
  have HLM : Hid (mayN us1 = lm) := Lib.hid hlm.symm
  have hlmn : lm.length = n := by rw [hlm]; exact hF.may
  have HLMN := Lib.hid hlmn
  have HR1 := Lib.hid hF.r1
  have HE2 := Lib.hid hF.e2
  have HR2 := Lib.hid hF.r2
  have HE3 := Lib.hid hF.e3
  have HE5 := Lib.hid hF.e5
  have hasE : ∀ us : List Up, us.length = n → ∀ m : Nat, m ≤ 549755813888 → errB (hasB us (U : Int) && nowB (m : Int)) = 0 := by
    intro us hl m hm
    have e1 : hasB us (U : Int) = true := hasB_iff.2 ⟨by omega, by omega⟩
    have e2 : nowB (m : Int) = true := decide_eq_true ⟨by omega, by omega⟩
    rw [e1, e2]; rfl
  have hl2 : us2.length = n := by rw [← hF.e2]; unfold disI; split; rw [disB_len]; exact hul1; exact hul1
  have HERR1 := Lib.hid (hasE us1 hul1 nw hnw)
  have HERR2 := Lib.hid (hasE us2 hl2 ag hag)
  have hTi : (nw : Int) + (R : Int) = (T : Int) := by omega
  have hTb : T ≤ 600000000000 := by omega
  have HF := Lib.hid hF
  have hR1 : 1 ≤ R := HS.out.R1
  have hT1 : 1 ≤ T := by omega
  clear hS hbig hus0 hul hus1 hul1 hfree hok0 hU hF hsc1 hsc2 hs2 hl0 hlm hlmn hasE hl2 hT
  go_enter Try.func7, Try.ntmps7
  go_wp2_with fail
  refine (awake_any _).mono ?_
  rintro e w1 ⟨rfl, hC1⟩
  go_wp2_with fail
  refine (made_any x y z a cap acts n L R HS.out _ (HA.out.chg hC1)).mono ?_
  rintro e w2 ⟨b, r, rfl, hwb, hwr, b2, hc2⟩
  rw [← HU.out] at b2
  have hC2 : Chg [] w w2 := hC1.trans hc2
  have hwr' : w.heap.size ≤ r := by have := hC1.size; omega
  clear hwb hwr hc2 hC1
  go_wp2_with fail
  refine (back_v b r L R us0 4398046511104 _ l0 us1 b2 HL0 HB1).mono ?_
  rintro e w3 ⟨a3, c3, rfl, own3, b3, hc3⟩
  have hC3 : Chg [] w w3 := hC2.trans_new hc3 (by simpa using hwr')
  clear own3 b2 hc3 hC2 eU eW
  go_wp2_with fail
  refine (may_v b r L R us1 _ lm b3 HLM).mono ?_
  rintro e w4 ⟨a4, c4, rfl, own4, hc4⟩
  have b4 := b3.chg hc4 (by simp) (by simp)
  have hC4 := hC3.trans hc4
  rw [HLMN.out]
  clear own4 b3 hc4 hC3
  obtain ⟨rm, hrm⟩ : ∃ rm, rm = decide (n / 2 + 1 < n) := ⟨_, rfl⟩
  rw [← hrm] at hb2
  have hrmI : decide ((n : Int) / 2 + 1 < (n : Int)) = rm := by rw [hrm, decide_eq_decide]; omega
  clear hrm
  go_wp2_with fail
  refine (score_v b r L R us1 U _ sc1 b4 HSC1).mono ?_
  rintro e w5 ⟨rfl, rfl⟩
  clear hrmI
  go_wp2_with fail
  refine (rests_v b r L R us1 U _ false b4 HR1).mono ?_
  rintro e w5 ⟨rfl, rfl⟩
  go_wp2_with fail
  refine (dissent_v b r L R us1 U nw _ 0 us2 b4 HERR1 HE2).mono ?_
  rintro e w5 ⟨rfl, b5, hc5⟩
  have hC5 : Chg [] w w5 := hC4.trans_new hc5 (by simpa using hwr')
  clear b4 hc5 hC4
  go_wp2_with fail
  refine (score_v b r L R us2 U _ sc2 b5 HSC2).mono ?_
  rintro e w6 ⟨rfl, rfl⟩
  go_wp2_with fail
  refine (rests_v b r L R us2 U _ B b5 HR2).mono ?_
  rintro e w6 ⟨rfl, rfl⟩
  clear emax emax2 emax3
  cases rm with
  | false =>
    have hBf : B = false := by rw [hb2]; rfl
    subst hBf
    clear hb2
    go_wp2_with fail
    refine (rests_v b r L R us2 U _ false b5 HR2).mono ?_
    rintro e w6 ⟨rfl, rfl⟩
    go_wp2
    go_ret
    exact ⟨rfl, hC5.below (Nat.le_refl _) (by simp)⟩
  | true =>
    by_cases hsL : sc2 < L
    · have hBt : B = true := by rw [hb2, decide_eq_true hsL]; rfl
      subst hBt
      clear hb2
      have dsL : decide (sc2 < L) = true := by simpa using hsL
      have dsLI : decide ((sc2 : Int) < (L : Int)) = true := by simp; omega
      go_wp2_with fail
      refine (score_v b r L R us2 U _ sc2 b5 HSC2).mono ?_
      rintro e w6 ⟨rfl, rfl⟩
      go_wp2_with fail
      refine (rests_v b r L R us2 U _ true b5 HR2).mono ?_
      rintro e w6 ⟨rfl, rfl⟩
      go_wp2_with fail
      refine (due_v b r L R us2 _ T true b5 (Lib.hid (HF.out.due2 rfl))).mono ?_
      rintro e w6 ⟨rfl, hc6⟩
      have b6 := b5.chg hc6 (by simp) (by simp)
      have hC6 := hC5.trans hc6
      clear b5 hc6 hC5
      go_wp2_with fail
      refine (trial_v b r L R us2 U _ false b6 (Lib.hid (HF.out.t2 rfl))).mono ?_
      rintro e w7 ⟨rfl, rfl⟩
      go_wp2_with fail
      refine (dissent_v b r L R us2 U ag _ 0 us3 b6 HERR2 HE3).mono ?_
      rintro e w7 ⟨rfl, b7, hc7⟩
      have hC7 : Chg [] w w7 := hC6.trans_new hc7 (by simpa using hwr')
      clear b6 hc7 hC6
      go_wp2_with fail
      refine (rests_v b r L R us3 U _ true b7 (Lib.hid (HF.out.r3 rfl))).mono ?_
      rintro e w8 ⟨rfl, rfl⟩
      go_wp2_with fail
      refine (due_v b r L R us3 _ T true b7 (Lib.hid (HF.out.due3 rfl))).mono ?_
      rintro e w8 ⟨rfl, hc8⟩
      have b8 := b7.chg hc8 (by simp) (by simp)
      have hC8 := hC7.trans hc8
      clear b7 hc8 hC7
      go_wp2_with fail
      refine (back_v b r L R us3 ((T : Int) - 1) _ [] us3 b8 (Lib.hid (HF.out.i4 rfl)) (Lib.hid (HF.out.e4 rfl))).mono ?_
      rintro e w9 ⟨a9, c9, rfl, own9, b9, hc9⟩
      have hC9 : Chg [] w w9 := hC8.trans_new hc9 (by simpa using hwr')
      clear own9 b8 hc9 hC8
      go_wp2_with fail
      refine (back_v b r L R us3 (T : Int) _ [U] us5 b9 (Lib.hid (HF.out.i5 rfl)) HE5).mono ?_
      rintro e wa ⟨aa, ca, rfl, owna, ba, hca⟩
      have hCa : Chg [] w wa := hC9.trans_new hca (by simpa using hwr')
      have OWNA := Lib.hid owna
      clear owna b9 hca hC9
      go_wp2_with fail
      refine (ints_c _ _ [U] [U] true (Lib.hid (by simp)) _ (row_chg (row_of_own OWNA.out) ((Chg.refl [] _).alloc _)) (Row.of_heap (heap_new' _ _ _ rfl)) (by simp) (by simp)).mono ?_
      rintro e wb ⟨rfl, hcb⟩
      have bb := (ba.chg ((Chg.refl [] _).alloc _) (by simp) (by simp)).chg hcb (by simp) (by simp)
      have hCb := (hCa.alloc _).trans hcb
      clear ba hCa OWNA hcb
      go_wp2_with fail
      refine (rests_v b r L R us5 U _ false bb (Lib.hid (HF.out.r5 rfl))).mono ?_
      rintro e wc ⟨rfl, rfl⟩
      go_wp2_with fail
      refine (score_v b r L R us5 U _ L bb (Lib.hid (HF.out.s5 rfl))).mono ?_
      rintro e wc ⟨rfl, rfl⟩
      obtain ⟨tt, htt⟩ : ∃ t, t = decide (L < 100) := ⟨_, rfl⟩
      have HTT : Hid ((getB us5 (U : Int)).trial = tt) := Lib.hid (by rw [htt]; exact HF.out.t5 rfl)
      have htI : decide ((L : Int) < 100) = tt := by rw [htt, decide_eq_decide]; omega
      clear htt
      go_wp2_with fail
      refine (trial_v b r L R us5 U _ tt bb HTT).mono ?_
      rintro e wc ⟨rfl, rfl⟩
      cases tt with
      | true =>
        have hL100 : (L : Int) < 100 := by simpa using htI
        go_wp2
        go_ret
        exact ⟨rfl, hCb.below (Nat.le_refl _) (by simp)⟩
      | false =>
        go_wp2
        go_ret
        exact ⟨rfl, hCb.below (Nat.le_refl _) (by simp)⟩
    · have hBf : B = false := by rw [hb2, decide_eq_false hsL]; rfl
      subst hBf
      clear hb2
      have dsL : decide (sc2 < L) = false := by simpa using hsL
      go_wp2_with fail
      refine (score_v b r L R us2 U _ sc2 b5 HSC2).mono ?_
      rintro e w6 ⟨rfl, rfl⟩
      go_wp2_with fail
      refine (rests_v b r L R us2 U _ false b5 HR2).mono ?_
      rintro e w6 ⟨rfl, rfl⟩
      go_wp2
      go_ret
      exact ⟨rfl, hC5.below (Nat.le_refl _) (by simp)⟩

end Go.Proofs.Ytjcciojbljlloaa
