/- The walk of CacheReadings. -/
import Derived.Test.YtgdnfempcjlipaaCaF
import Derived.Test.YtgdnfempcjlipaaCacheOldestW
import Derived.Deep.CutRange
namespace Go.Proofs.Ytgdnfempcjlipaa
open Go.RowKit Go.Maps

set_option maxRecDepth 100000 in
set_option maxHeartbeats 8000000 in
theorem cacheReadings_walk (x0 : Int) (la : Option Addr) (lc : Nat) (l : List ActT) (ta : Option Addr) (tl tc : Nat) (ts : List Int) (w : World)
    (_hx : (Lit.int .i64 x0).wf = true) (hA : IsActs w la l) (hT : IsRow .i64 w ta tl tc ts) :
    Calls Try.prog 6 #[.int .i64 x0, .slice la l.length lc, .slice ta tl tc] w fun e w' => e = .returned (.bool true) ∧ Below w.heap.size w w' := by
  have HA := Lib.hid hA
  have hT2 := argk hT
  have HTK := Lib.hid hT2
  have htx : (tl : Int) ≤ 9223372036854775807 := by have := hT2.1; unfold maxLen at this; omega
  clear hA hT hT2
  go_enter Try.func6, Try.ntmps6
  go_wp2_with fail
  refine (long_any la lc l w HA.out).mono ?_
  rintro e w1 ⟨b1, rfl, hb1, hc1⟩
  have HC1 := Lib.hid hc1
  clear hc1
  cases b1 with
  | true =>
    clear hb1
    go_wp2_with fail
    refine (awake_any _).mono ?_
    rintro e w9 ⟨rfl, hc9⟩
    have HEND := Lib.hid ((HC1.out.trans hc9).below (Nat.le_refl w.heap.size) (by simp))
    clear hc9
    go_wp2
    go_ret
    exact ⟨rfl, HEND.out⟩
  | false =>
    have HO1 := Lib.hid (hb1 rfl)
    clear hb1
    by_cases h3 : 200 < tl
    · have t1 : decide ((200 : Int) < (tl : Int)) = true := by rw [decide_eq_true_eq]; omega
      have t1n : decide (200 < tl) = true := by simpa using h3
      clear h3
      go_wp2_with fail
      refine (awake_any _).mono ?_
      rintro e w9 ⟨rfl, hc9⟩
      have HEND := Lib.hid ((HC1.out.trans hc9).below (Nat.le_refl w.heap.size) (by simp))
      clear hc9
      go_wp2
      go_ret
      exact ⟨rfl, HEND.out⟩
    have t1 : decide ((200 : Int) < (tl : Int)) = false := by rw [decide_eq_false_iff_not]; omega
    have t1n : decide (200 < tl) = false := by simpa using h3
    clear h3
    go_wp2_with fail
    refine (awake_any _).mono ?_
    rintro e w2 ⟨rfl, dc2⟩
    have HC2 := Lib.hid (HC1.out.trans dc2)
    obtain ⟨n, hn⟩ : ∃ n, n = roomN x0 := ⟨_, rfl⟩
    have hn1 : 1 ≤ n ∧ n ≤ 256 := by rw [hn]; exact room_le x0
    have HN := Lib.hid hn
    have HN1 := Lib.hid hn1
    clear dc2 HC1 t1 t1n hn hn1
    go_wp2_with fail
    refine (made_c (Cabs.nil (P := 0) HC2.out) x0 4 n (by omega) HN).mono ?_
    rintro e w3 ⟨ca, rfl, hT3, hc3⟩
    have HT3 : Hid (Cabs w w3 0 [⟨ca, n, 4, 5, ⟨0, []⟩⟩]) := Lib.hid hT3
    clear hT3 hc3 HC2
    go_wp2_with fail
    refine (made_c HT3.out x0 4 n (by omega) HN).mono ?_
    rintro e w4 ⟨cb, rfl, hT4, hc4⟩
    have HT4 : Hid (Cabs w w4 0 [⟨ca, n, 4, 5, ⟨0, []⟩⟩, ⟨cb, n, 4, 5, ⟨0, []⟩⟩]) := Lib.hid hT4
    have hll : l.length ≤ 300 := HO1.out.1
    clear hT4 hc4 HT3
    go_wp2_with fail
    go_loopw [9, 10] (fun t i wr => RdgR w ca cb n l.length t i wr) (fun _ i _ => l.length - (intOf i).toNat)
    case atStart => exact ⟨0, ⟨0, []⟩, Nat.zero_le _, rfl, rfl, HT4.out⟩
    case round =>
      clear HT4
      obtain ⟨j, c, hj, rfl, rfl, hT⟩ := hrel
      by_cases hlt : j < l.length
      · obtain ⟨b, o, rfl, _, q, hok⟩ := HA.out.2 j hlt
        obtain ⟨A, hA⟩ : ∃ A, A = l[j] := ⟨_, rfl⟩
        have hver : OkVer A.v := by rw [hA]; exact HO1.out.2 _ (List.getElem_mem hlt)
        rw [← hA] at q hok
        obtain ⟨ak, ⟨nm, ty, cl⟩, av, al, an, asv, aov⟩ := A
        obtain ⟨hk, ⟨hq1, hq2, hq3⟩, hv, hl, hn⟩ := hok
        simp only at hk hq1 hq2 hq3 hl hn q hv hver
        obtain ⟨sa, sn, sc, oa, on, oc, rfl, rfl⟩ := hv.slices
        have hmk := hT.isChg
        have e0 : wr.cell? ⟨b, o + j * 9, none⟩ = some (.int .u8 (ak : Nat)) := hmk.cell (q 0 _ rfl) (by simp)
        have e1 : wr.cell? ⟨b, o + j * 9 + 1, none⟩ = some (.string nm) := by rw [Nat.add_assoc]; exact hmk.cell (q 1 _ rfl) (by simp)
        have e2 : wr.cell? ⟨b, o + j * 9 + 2, none⟩ = some (.int .u16 (ty : Nat)) := by rw [Nat.add_assoc]; exact hmk.cell (q 2 _ rfl) (by simp)
        have e3 : wr.cell? ⟨b, o + j * 9 + 3, none⟩ = some (.int .u16 (cl : Nat)) := by rw [Nat.add_assoc]; exact hmk.cell (q 3 _ rfl) (by simp)
        have e4 : wr.cell? ⟨b, o + j * 9 + 4, none⟩ = some (.int .u8 (av.code : Nat)) := by rw [Nat.add_assoc]; exact hmk.cell (q 4 _ rfl) (by simp)
        have e5 : wr.cell? ⟨b, o + j * 9 + 5, none⟩ = some (.slice sa sn sc) := by rw [Nat.add_assoc]; exact hmk.cell (q 5 _ rfl) (by simp)
        have e6 : wr.cell? ⟨b, o + j * 9 + 6, none⟩ = some (.slice oa on oc) := by rw [Nat.add_assoc]; exact hmk.cell (q 6 _ rfl) (by simp)
        have e7 : wr.cell? ⟨b, o + j * 9 + 7, none⟩ = some (.int .i64 al) := by rw [Nat.add_assoc]; exact hmk.cell (q 7 _ rfl) (by simp)
        have e8 : wr.cell? ⟨b, o + j * 9 + 8, none⟩ = some (.int .i64 an) := by rw [Nat.add_assoc]; exact hmk.cell (q 8 _ rfl) (by simp)
        have hok : OkM n c := hT.ok (i := 0) rfl
        obtain ⟨t, ht⟩ : ∃ t, t = max c.now (min an topT) := ⟨_, rfl⟩
        have hte : max c.now (min an 1099511627776) = t := ht.symm
        have htb : c.now ≤ t ∧ t ≤ topT := by have := hok.now1; rw [ht]; omega
        have HT := Lib.hid hT
        have HRV := Lib.hid (hv.rd hver)
        have HOK := Lib.hid hok
        have HTE := Lib.hid hte
        have HTB := Lib.hid htb
        have HT0 := Lib.hid ht
        clear hA hver q hv hmk hT hok ht hte htb
        go_upto_if 61 with fail
        rw [HTE.out]
        obtain ⟨ab, hab⟩ : ∃ ab, ab = wr.heap.size := ⟨_, rfl⟩
        rw [← hab]
        refine wp_abs ?_
        intro w1 hw1
        have dc1 : Chg [] wr w1 := by rw [hw1]; exact (Chg.refl _ _).alloc _
        have hB1 : AAt w1 ab ak nm ty cl av.code (.slice sa sn sc) (.slice oa on oc) al an := by unfold AAt; rw [hw1, hab]; exact heap_new _ _
        have HT1 := Lib.hid (HT.out.same dc1)
        have HB1 := Lib.hid hB1
        have hP : 2 * j ≤ 800000 := by omega
        clear hw1 dc1 hB1 hab HT e0 e1 e2 e3 e4 e5 e6 e7 e8
        go_cut [] from 43 to 170 (fun wx => ∃ r : Int, r ≤ t ∧ Cabs w wx (2 * j) [⟨ca, n, 4, 5, c⟩, ⟨cb, n, 4, 5, advC c r⟩] ∧ CChg w1 wx)
        case first =>
          by_cases hlt2 : j < tl
          · obtain ⟨b2, o2, rfl, _, tcell, twf⟩ := HTK.out.2 j hlt2
            have d0 := HT1.out.isChg.cell tcell (by simp)
            have hrb := int_i64 twf
            obtain ⟨rd, hrd⟩ : ∃ rd, rd = ts.getD j 0 := ⟨_, rfl⟩
            rw [← hrd] at d0 hrb
            have u1 : decide ((j : Int) < (tl : Int)) = true := by rw [decide_eq_true_eq]; omega
            have u1n : decide (j < tl) = true := by rw [decide_eq_true_eq]; exact hlt2
            obtain ⟨rr, hrr⟩ : ∃ rr : Nat, rr = c.M.length - (advC c (min rd t)).M.length := ⟨_, rfl⟩
            have HRR := Lib.hid hrr
            clear tcell twf hrr hrd
            rw [u1n]
            go_wp2_with fail
            refine (expire_c HT1.out (i := 1) rfl (min rd t) rr (by omega) HRR).mono ?_
            rintro e w2 ⟨rfl, hT2, hcc2⟩
            have HT2 : Hid (Cabs w w2 (2 * j) [⟨ca, n, 4, 5, c⟩, ⟨cb, n, 4, 5, advC c (min rd t)⟩]) := Lib.hid hT2
            have HCC2 := Lib.hid hcc2
            clear hT2 hcc2 HT1
            go_wp2_with fail
            go_meet
            exact ⟨min rd t, by omega, HT2.out, HCC2.out⟩
          · have u1 : decide ((j : Int) < (tl : Int)) = false := by rw [decide_eq_false_iff_not]; omega
            have u1n : decide (j < tl) = false := by rw [decide_eq_false_iff_not]; exact hlt2
            have hself : advC c c.now = c := exp_self HOK.out (by have h1 := HOK.out.now1; unfold clampT topT at *; omega)
            have hnew : ∃ r : Int, r ≤ t ∧ Cabs w w1 (2 * j) [⟨ca, n, 4, 5, c⟩, ⟨cb, n, 4, 5, advC c r⟩] ∧ CChg w1 w1 := ⟨c.now, HTB.out.1, by rw [hself]; exact HT1.out, (Chg.refl [] w1).cchg⟩
            have HNEW := Lib.hid hnew
            clear hself hnew hlt2
            rw [u1n]
            go_wp2_with fail
            go_meet
            exact HNEW.out
        case rest =>
          obtain ⟨r, hr, hT, hcc⟩ := hcut
          have HT := Lib.hid hT
          have HB := Lib.hid (HB1.out.cchg hcc)
          have HR := Lib.hid hr
          have k0 := HB.out.c0
          clear hT hcc hr HT1 HB1
          by_cases hk0 : ak = 0
          · subst hk0
            obtain ⟨rr, hrr⟩ : ∃ rr : Int, rr = if okK ⟨nm, ty, cl⟩ al = true then 0 else 1 := ⟨_, rfl⟩
            obtain ⟨mb, hmb⟩ : ∃ b, b = mayB nm.data.toList := ⟨_, rfl⟩
            have HRR := Lib.hid hrr
            have HMB := Lib.hid hmb
            have S0 := Lib.hid HB.out.c9
            clear hrr hmb
            go_wp2_with fail
            clear k0
            go_region_held3 (fun W => W.cell? ⟨ab, 1, none⟩ = some (.string nm) ∧ W.cell? ⟨ab, 2, none⟩ = some (.int .u16 (ty : Nat)) ∧ W.cell? ⟨ab, 3, none⟩ = some (.int .u16 (cl : Nat)) ∧ W.cell? ⟨ab, 4, none⟩ = some (.int .u8 (av.code : Nat)) ∧ W.cell? ⟨ab, 5, none⟩ = some (.slice sa sn sc) ∧ W.cell? ⟨ab, 6, none⟩ = some (.slice oa on oc) ∧ W.cell? ⟨ab, 7, none⟩ = some (.int .i64 al) ∧ W.cell? ⟨ab, 8, none⟩ = some (.int .i64 an)) (first | (with_reducible exact S10.out) | (with_reducible exact S9.out) | exact S0.out) (first | (go_at_call 11; refine (keep_c HT9.out (i := 1) rfl ⟨nm, ty, cl⟩ (av.code : Nat) sa oa sn sc on oc av al an (by omega) hq1 hq2 hq3 hl (.inl HRV.out) rr HRR).mono ?_; rintro e10 w10 ⟨rfl, hT10, hcc10⟩; have HB10 := Lib.hid (HB9.out.cchg hcc10); have S10 := Lib.hid HB10.out.c9; clear hcc10) | (go_at_call 11; refine (keep_c (HT.out.same (Chg.refl [] wc).drew) (i := 0) rfl ⟨nm, ty, cl⟩ (av.code : Nat) sa oa sn sc on oc av al an (by omega) hq1 hq2 hq3 hl (.inl HRV.out) rr HRR).mono ?_; rintro e9 w9 ⟨rfl, hT9, hcc9⟩; have HB9 := Lib.hid ((HB.out.same (Chg.refl [] wc).drew).cchg hcc9); have S9 := Lib.hid HB9.out.c9; have HT9 := Lib.hid hT9; clear hT9 hcc9))
            have HT10 : Hid (Cabs w w10 (2 * j + 1 + 1) [⟨ca, n, 4, 5, keepC n c ⟨nm, ty, cl⟩ av al an⟩, ⟨cb, n, 4, 5, keepC n (advC c r) ⟨nm, ty, cl⟩ av al an⟩]) := Lib.hid hT10
            obtain ⟨n1, _, _, _, _, _, l1, _⟩ := S10.out
            clear hT10 S0 S9 S10 HB9 HB HT9 HT
            go_wp2_with fail
            refine (may_any nm mb w10 hq1 HMB).mono ?_
            rintro e11 w11 ⟨rfl, rfl⟩
            have HMB2 := Lib.hid HMB.out
            cases mb with
            | false =>
              have hokf : okK ⟨nm, ty, cl⟩ al = false := by unfold okK mayQ; simp only; rw [← HMB2.out]; rfl
              have e1 : advC (advC c r) t = advC c t := adv_adv (b := t) HOK.out.now1 HR.out (by have := HTB.out; omega)
              have e2 : (advC c t).now = t := adv_now HTB.out.1 HTB.out.2
              have hkc1 : keepC n c ⟨nm, ty, cl⟩ av al an = c := by unfold keepC; rw [if_neg (by rw [hokf]; decide)]
              have hkc2 : keepC n (advC c r) ⟨nm, ty, cl⟩ av al an = advC c r := by unfold keepC; rw [if_neg (by rw [hokf]; decide)]
              have hT10 := HT10.out
              rw [hkc1, hkc2] at hT10
              have HT11 := Lib.hid hT10
              obtain ⟨ra, hra⟩ : ∃ ra : Nat, ra = c.M.length - (advC c t).M.length := ⟨_, rfl⟩
              obtain ⟨rb, hrb⟩ : ∃ rb : Nat, rb = (advC c r).M.length - (advC (advC c r) t).M.length := ⟨_, rfl⟩
              have HRA := Lib.hid hra
              have HRB := Lib.hid hrb
              have HE := Lib.hid (And.intro e1 e2)
              clear e1 e2 hkc1 hkc2 hT10 HT10 hra hrb hokf n1 l1
              go_wp2_with fail
              refine (expire_c HT11.out (i := 0) rfl t ra (by omega) HRA).mono ?_
              rintro e w12 ⟨rfl, hT12, _⟩
              have HT12 := Lib.hid hT12
              clear hT12
              go_wp2_with fail
              refine (expire_c HT12.out (i := 1) rfl t rb (by omega) HRB).mono ?_
              rintro e w13 ⟨rfl, hT13, _⟩
              have hnew : RdgR w ca cb n l.length (.int .i64 t) (.int .i64 ((j + 1 : Nat) : Int)) w13 := by
                refine ⟨j + 1, advC c t, hlt, rfl, by rw [HE.out.2], ?_⟩
                have h1 : Cabs w w13 (2 * j + 1 + 1) [⟨ca, n, 4, 5, advC c t⟩, ⟨cb, n, 4, 5, advC (advC c r) t⟩] := hT13
                rw [HE.out.1] at h1
                exact h1.mono (by omega)
              have HNEW := Lib.hid hnew
              clear hnew hT13 HT11 HT12 HE HRA HRB
              go_wp2
              go_roundw
              case rel => first | exact HNEW.out | ((repeat apply Exists.intro); exact ⟨HNEW.out, rfl⟩)
              case measure => simp [intOf] <;> omega
            | true =>
              by_cases hal : al < 1
              · have u1 : decide (al < 1) = true := by rw [decide_eq_true_eq]; exact hal
                have hokf : okK ⟨nm, ty, cl⟩ al = false := by
                  unfold okK
                  rw [show decide (1 ≤ al) = false by rw [decide_eq_false_iff_not]; omega, Bool.and_false]
                clear hal
                have e1 : advC (advC c r) t = advC c t := adv_adv (b := t) HOK.out.now1 HR.out (by have := HTB.out; omega)
                have e2 : (advC c t).now = t := adv_now HTB.out.1 HTB.out.2
                have hkc1 : keepC n c ⟨nm, ty, cl⟩ av al an = c := by unfold keepC; rw [if_neg (by rw [hokf]; decide)]
                have hkc2 : keepC n (advC c r) ⟨nm, ty, cl⟩ av al an = advC c r := by unfold keepC; rw [if_neg (by rw [hokf]; decide)]
                have hT10 := HT10.out
                rw [hkc1, hkc2] at hT10
                have HT11 := Lib.hid hT10
                obtain ⟨ra, hra⟩ : ∃ ra : Nat, ra = c.M.length - (advC c t).M.length := ⟨_, rfl⟩
                obtain ⟨rb, hrb⟩ : ∃ rb : Nat, rb = (advC c r).M.length - (advC (advC c r) t).M.length := ⟨_, rfl⟩
                have HRA := Lib.hid hra
                have HRB := Lib.hid hrb
                have HE := Lib.hid (And.intro e1 e2)
                have u1x := u1
                clear u1x e1 e2 hkc1 hkc2 hT10 HT10 hra hrb hokf n1
                go_wp2_with fail
                refine (expire_c HT11.out (i := 0) rfl t ra (by omega) HRA).mono ?_
                rintro e w12 ⟨rfl, hT12, _⟩
                have HT12 := Lib.hid hT12
                clear hT12
                go_wp2_with fail
                refine (expire_c HT12.out (i := 1) rfl t rb (by omega) HRB).mono ?_
                rintro e w13 ⟨rfl, hT13, _⟩
                have hnew : RdgR w ca cb n l.length (.int .i64 t) (.int .i64 ((j + 1 : Nat) : Int)) w13 := by
                  refine ⟨j + 1, advC c t, hlt, rfl, by rw [HE.out.2], ?_⟩
                  have h1 : Cabs w w13 (2 * j + 1 + 1) [⟨ca, n, 4, 5, advC c t⟩, ⟨cb, n, 4, 5, advC (advC c r) t⟩] := hT13
                  rw [HE.out.1] at h1
                  exact h1.mono (by omega)
                have HNEW := Lib.hid hnew
                clear hnew hT13 HT11 HT12 HE HRA HRB
                go_wp2
                go_roundw
                case rel => first | exact HNEW.out | ((repeat apply Exists.intro); exact ⟨HNEW.out, rfl⟩)
                case measure => simp [intOf] <;> omega
              · have u1 : decide (al < 1) = false := by rw [decide_eq_false_iff_not]; exact hal
                have hokt : okK ⟨nm, ty, cl⟩ al = true := by
                  unfold okK mayQ
                  simp only
                  rw [← HMB2.out, Bool.true_and, decide_eq_true_eq]
                  omega
                have e1 : keepC n (advC c r) ⟨nm, ty, cl⟩ av al an = keepC n c ⟨nm, ty, cl⟩ av al an := keep_adv (b := t) HOK.out.now1 HR.out HT0.out hokt
                have e2 : (keepC n c ⟨nm, ty, cl⟩ av al an).now = t := by rw [now_keep HOK.out.now1 hokt, HT0.out]
                have hnew : RdgR w ca cb n l.length (.int .i64 t) (.int .i64 ((j + 1 : Nat) : Int)) w10 := by
                  refine ⟨j + 1, keepC n c ⟨nm, ty, cl⟩ av al an, hlt, rfl, by rw [e2], ?_⟩
                  have h1 := HT10.out
                  rw [e1] at h1
                  exact h1.mono (by omega)
                have HNEW := Lib.hid hnew
                clear hnew e1 e2 hokt hal n1 HT10
                go_wp2
                go_roundw
                case rel => first | exact HNEW.out | ((repeat apply Exists.intro); exact ⟨HNEW.out, rfl⟩)
                case measure => simp [intOf] <;> omega
          · have u0 : ((ak : Int) == 0) = false := by rw [beq_eq_false_iff_ne]; omega
            obtain ⟨s1, s2, s3, _, _, _, _, s8⟩ := HB.out.c9
            have hga : gotC (advC c r) ⟨nm, ty, cl⟩ an = gotC c ⟨nm, ty, cl⟩ an := got_adv (b := t) HOK.out.now1 HR.out HT0.out
            have hfa : findC (advC c r) ⟨nm, ty, cl⟩ an = findC c ⟨nm, ty, cl⟩ an := find_adv (b := t) HOK.out.now1 HR.out HT0.out
            have hna : (findC c ⟨nm, ty, cl⟩ an).now = t := by rw [now_find HOK.out.now1, HT0.out]
            have hav : (advC c an).now = t := by rw [now_adv HOK.out.now1, HT0.out]
            have hav2 : (advC (advC c r) an).now = t := by rw [adv_adv (b := t) HOK.out.now1 HR.out HT0.out, hav]
            obtain ⟨o', ho'⟩ : ∃ o', o' = gotC c ⟨nm, ty, cl⟩ an := ⟨_, rfl⟩
            obtain ⟨cf, hcf⟩ : ∃ cf, cf = findC c ⟨nm, ty, cl⟩ an := ⟨_, rfl⟩
            obtain ⟨code, hcode⟩ : ∃ code, code = (gotV o').code := ⟨_, rfl⟩
            obtain ⟨left, hleft⟩ : ∃ left, left = leftV o' t := ⟨_, rfl⟩
            obtain ⟨bb, hbb⟩ : ∃ bb, bb = o'.isSome := ⟨_, rfl⟩
            have HO' := Lib.hid ho'
            have HO2 : Hid (o' = gotC (advC c r) ⟨nm, ty, cl⟩ an) := Lib.hid (by rw [hga, ho'])
            have HCF := Lib.hid hcf
            have HCF2 : Hid (findC (advC c r) ⟨nm, ty, cl⟩ an = cf) := Lib.hid (by rw [hfa, hcf])
            have HNA : Hid (cf.now = t) := Lib.hid (by rw [hcf, hna])
            have HCD := Lib.hid hcode
            have HLF : Hid (left = leftV o' (advC c an).now) := Lib.hid (by rw [hav, hleft])
            have HLF2 : Hid (left = leftV o' (advC (advC c r) an).now) := Lib.hid (by rw [hav2, hleft])
            have HLT := Lib.hid hleft
            have HBB := Lib.hid hbb
            have hlb : 0 ≤ left ∧ left ≤ 2199023255552 := by
              rw [hleft]
              cases hoo : o' with
              | none => exact ⟨Int.le_refl _, by show (0 : Int) ≤ 2199023255552; omega⟩
              | some e =>
                have := got_left HOK.out (by rw [← ho', hoo])
                rw [hav] at this
                have h0 := HOK.out.now0
                have h1 := HTB.out.1
                show 0 ≤ e.til - t ∧ e.til - t ≤ 2199023255552
                unfold topT at this
                omega
            have hwt : IntKind.i64.wrap (t + left) = t + left := by
              have h0 := HOK.out.now0
              have h1 := HTB.out
              unfold topT at h1
              exact IntWalk.i64_in _ (by omega)
            have hlat : bb = true → 1 ≤ left := by
              intro hb
              rw [hbb] at hb
              rw [hleft]
              cases hoo : o' with
              | none => rw [hoo] at hb; cases hb
              | some e =>
                have := got_left HOK.out (by rw [← ho', hoo])
                rw [hav] at this
                exact this.1
            have hnot : bb = true → t + left ≤ topT → gotC cf ⟨nm, ty, cl⟩ (t + left) = none := by
              intro hb hle
              rw [hbb] at hb
              cases hoo : o' with
              | none => rw [hoo] at hb; cases hb
              | some e =>
                have e1 : t + left = e.til := by rw [hleft, hoo]; show t + (e.til - t) = e.til; omega
                rw [e1] at hle ⊢
                rw [hcf]
                exact got_late HOK.out (by rw [← ho', hoo]) hle
            have HLB := Lib.hid hlb
            have HWT := Lib.hid hwt
            have HLAT := Lib.hid hlat
            have HNOT := Lib.hid hnot
            clear hlb hwt hlat hnot
            clear hga hfa hna hav hav2 ho' hcf hcode hleft hbb
            go_wp2_with fail
            refine (find_c HT.out (i := 0) rfl ⟨nm, ty, cl⟩ an o' code left bb (by omega) hq1 hq2 hq3 HO' HCD HLF HBB).mono ?_
            rintro e w9 ⟨ua, un, uc, va, vn, vc, rfl, hov9, hT9, hcc9⟩
            have HT9 : Hid (Cabs w w9 (2 * j) [⟨ca, n, 4, 5, cf⟩, ⟨cb, n, 4, 5, advC c r⟩]) := Lib.hid (by rw [HCF.out]; exact hT9)
            have HB9 := Lib.hid (HB.out.cchg hcc9)
            have HV9 := Lib.hid hov9
            obtain ⟨y1, y2, y3, _, _, _, _, y8⟩ := (HB9.out.same ((Chg.refl [] w9).alloc (.cells #[.int .u8 (code : Nat), .slice ua un uc, .slice va vn vc] 34))).c9
            clear hov9 hT9 hcc9 HT HB s1 s2 s3 s8
            go_wp2_with fail
            obtain ⟨b12, hb12⟩ : ∃ b12, b12 = w9.heap.size := ⟨_, rfl⟩
            rw [← hb12]
            refine calls_abs ?_
            intro w10 hw10
            have dc10 : Chg [] w9 w10 := by rw [hw10]; exact (Chg.refl _ _).alloc _
            have hY10 : VAt w10 b12 code (.slice ua un uc) (.slice va vn vc) := by unfold VAt; rw [hw10, hb12]; exact heap_new _ _
            have HT10 := Lib.hid (HT9.out.same dc10)
            have HB10 := Lib.hid (HB9.out.same dc10)
            have HV10 := Lib.hid ((chg_ck dc10).ownV HV9.out)
            have HY10 := Lib.hid hY10
            clear hw10 dc10 hY10 hb12 HT9 HB9 HV9 y1 y2 y3 y8
            refine (find_c HT10.out (i := 1) rfl ⟨nm, ty, cl⟩ an o' code left bb (by omega) hq1 hq2 hq3 HO2 HCD HLF2 HBB).mono ?_
            rintro e w11 ⟨ua2, un2, uc2, va2, vn2, vc2, rfl, hov11, hT11, hcc11⟩
            have HT11 : Hid (Cabs w w11 (2 * j) [⟨ca, n, 4, 5, cf⟩, ⟨cb, n, 4, 5, cf⟩]) := Lib.hid (by have := HCF2.out; simp only at hT11; rw [← this]; rw [← this] at hT11; exact hT11)
            have HB11 := Lib.hid (HB10.out.cchg hcc11)
            have HV11 := Lib.hid (hcc11.ck.ownV HV10.out)
            have HY11 := Lib.hid (HY10.out.cchg hcc11)
            have HZ11 := Lib.hid hov11
            obtain ⟨g0, g1, g2⟩ := (HY11.out.same ((Chg.refl [] w11).alloc (.cells #[.int .u8 (code : Nat), .slice ua2 un2 uc2, .slice va2 vn2 vc2] 34))).c3
            clear hov11 hT11 hcc11 HT10 HB10 HV10 HY10
            go_wp2_with fail
            refine calls_abs ?_
            intro w12 hw12
            have dc12 : Chg [] w11 w12 := by rw [hw12]; exact (Chg.refl _ _).alloc _
            have HT12 := Lib.hid (HT11.out.same dc12)
            have HB12 := Lib.hid (HB11.out.same dc12)
            have HV12 := Lib.hid ((chg_ck dc12).ownV HV11.out)
            have HZ12 := Lib.hid ((chg_ck dc12).ownV HZ11.out)
            clear hw12 dc12 HT11 HB11 HV11 HY11 HZ11 g0 g1 g2
            refine (sameV_true _ _ _ _ _ _ (gotV o') w12 HV12.out.rd HZ12.out.rd).mono ?_
            rintro e w13 ⟨rfl, dc13⟩
            have HT13 := Lib.hid (HT12.out.same dc13)
            have HB13 := Lib.hid (HB12.out.same dc13)
            clear dc13 HT12 HB12 HV12 HZ12
            cases bb with
            | false =>
              obtain ⟨o2, ho2⟩ : ∃ o2, o2 = gotC cf ⟨nm, ty, cl⟩ (t + left) := ⟨_, rfl⟩
              obtain ⟨code2, hcode2⟩ : ∃ code2, code2 = (gotV o2).code := ⟨_, rfl⟩
              obtain ⟨left2, hleft2⟩ : ∃ left2, left2 = leftV o2 (advC cf (t + left)).now := ⟨_, rfl⟩
              obtain ⟨b2, hb2⟩ : ∃ b2, b2 = o2.isSome := ⟨_, rfl⟩
              have HO3 := Lib.hid ho2
              have HCD3 := Lib.hid hcode2
              have HLF3 := Lib.hid hleft2
              have HBB3 := Lib.hid hb2
              clear ho2 hcode2 hleft2 hb2
              go_upto_region 26 with fail
              go_cut [18, 19, 20] from 43 to 170 (fun _ _ v wx => v = .bool b2 ∧ Cabs w wx (2 * j) [⟨ca, n, 4, 5, cf⟩, ⟨cb, n, 4, 5, cf⟩])
              case first =>

                refine wp_region_held_drew (S := fun W => W.cell? ⟨ab, 1, none⟩ = some (.string nm) ∧ W.cell? ⟨ab, 2, none⟩ = some (.int .u16 (ty : Nat)) ∧ W.cell? ⟨ab, 3, none⟩ = some (.int .u16 (cl : Nat))) (by kernel_rfl) ((HB13.out.same (Chg.refl [] w13).drew).cq) (fun hHeld => ?_)
                refine takeD (i := 0) (d := some 150) (v := ?_) rfl rfl (by kernel_rfl) (by kernel_rfl) (by kernel_rfl) (fun _ _ _ h => h) (Or.inl ⟨by rfl, ?_⟩) hHeld ?_
                rotate_left
                · intro w hSw
                  obtain ⟨s1, s2, s3⟩ := hSw
                  go_simp <;> (with_reducible rfl)
                try simp only [Act.put, List.setIfInBounds_toArray, List.set_cons_zero, List.set_cons_succ]
                refine takeD (i := 2) (d := some 152) (v := ?_) rfl rfl (by kernel_rfl) (by kernel_rfl) (by kernel_rfl) (fun _ _ _ h => h) (Or.inl ⟨by rfl, ?_⟩) hHeld ?_
                rotate_left
                · intro w hSw
                  obtain ⟨s1, s2, s3⟩ := hSw
                  go_simp <;> (with_reducible rfl)
                try simp only [Act.put, List.setIfInBounds_toArray, List.set_cons_zero, List.set_cons_succ]
                refine takeD (i := 3) (d := some 153) (v := ?_) rfl rfl (by kernel_rfl) (by kernel_rfl) (by kernel_rfl) (fun _ _ _ h => h) (Or.inl ⟨by rfl, ?_⟩) hHeld ?_
                rotate_left
                · intro w hSw
                  obtain ⟨s1, s2, s3⟩ := hSw
                  go_simp <;> (with_reducible rfl)
                try simp only [Act.put, List.setIfInBounds_toArray, List.set_cons_zero, List.set_cons_succ]
                refine takeD (i := 4) (d := some 154) (v := ?_) rfl rfl (by kernel_rfl) (by kernel_rfl) (by kernel_rfl) (fun _ _ _ h => h) (Or.inl ⟨by rfl, ?_⟩) hHeld ?_
                rotate_left
                · intro w hSw
                  obtain ⟨s1, s2, s3⟩ := hSw
                  go_simp <;> (with_reducible rfl)
                try simp only [Act.put, List.setIfInBounds_toArray, List.set_cons_zero, List.set_cons_succ]
                refine takeD (i := 5) (d := some 155) (v := ?_) rfl rfl (by kernel_rfl) (by kernel_rfl) (by kernel_rfl) (fun _ _ _ h => h) (Or.inl ⟨by rfl, ?_⟩) hHeld ?_
                rotate_left
                · intro w hSw
                  obtain ⟨s1, s2, s3⟩ := hSw
                  go_simp <;> (with_reducible rfl)
                try simp only [Act.put, List.setIfInBounds_toArray, List.set_cons_zero, List.set_cons_succ]
                refine takeD (i := 6) (d := some 156) (v := ?_) rfl rfl (by kernel_rfl) (by kernel_rfl) (by kernel_rfl) (fun _ _ _ h => h) (Or.inl ⟨by rfl, ?_⟩) hHeld ?_
                rotate_left
                · intro w hSw
                  obtain ⟨s1, s2, s3⟩ := hSw
                  go_simp <;> (with_reducible rfl)
                try simp only [Act.put, List.setIfInBounds_toArray, List.set_cons_zero, List.set_cons_succ]
                refine wpAnyH_ready (rs := [1, 12]) (by kernel_rfl) (by simp) ?_
                refine AllReadyH.cons rfl (fun K hK => ?_) ?_
                · go_simp
                  refine (copy_c (HT13.out.same (Chg.refl [] w13).drew) (i := 0) rfl HN1.out.1 (by omega)).mono ?_
                  rintro e14 w14 ⟨cc, rfl, hT14, hc14⟩
                  have HT14 : Hid (Cabs w w14 (2 * j) [⟨ca, n, 4, 5, cf⟩, ⟨cb, n, 4, 5, cf⟩, ⟨cc, n, 4, 5, cf⟩]) := Lib.hid hT14
                  have HB14 := Lib.hid ((HB13.out.same (Chg.refl [] w13).drew).same hc14)
                  clear hT14 hc14
                  go_wp2_with fail
                  refine hK.out _ _ HB14.out.cq (fun hHeld => ?_)
                  clear hK K
                  try simp only [Act.put, List.setIfInBounds_toArray, List.set_cons_zero, List.set_cons_succ]
                  refine wpAnyH_ready (rs := [7, 12]) (by kernel_rfl) (by simp) ?_
                  refine AllReadyH.cons rfl (fun K hK => ?_) ?_
                  · go_simp
                    rw [HWT.out]
                    refine (find_c HT14.out (i := 2) rfl ⟨nm, ty, cl⟩ (t + left) o2 code2 left2 b2 (by omega) hq1 hq2 hq3 HO3 HCD3 HLF3 HBB3).mono ?_
                    rintro e15 w15 ⟨fa, fn, fc, ga, gn, gc, rfl, _, hT15, hcc15⟩
                    have HT15 : Hid (Cabs w w15 (2 * j) [⟨ca, n, 4, 5, cf⟩, ⟨cb, n, 4, 5, cf⟩, ⟨cc, n, 4, 5, findC cf ⟨nm, ty, cl⟩ (t + left)⟩]) := Lib.hid hT15
                    have HB15 := Lib.hid ((HB14.out).cchg hcc15)
                    clear hT15 hcc15
                    go_wp2_with fail
                    refine hK.out _ _ HB15.out.cq (fun hHeld => ?_)
                    clear hK K
                    try simp only [Act.put, List.setIfInBounds_toArray, List.set_cons_zero, List.set_cons_succ]
                    refine takeD (i := 8) (d := some 149) (v := ?_) rfl rfl (by kernel_rfl) (by kernel_rfl) (by kernel_rfl) (fun _ _ _ h => h) (Or.inl ⟨by rfl, ?_⟩) hHeld ?_
                    rotate_left
                    · intro w hSw
                      obtain ⟨s1, s2, s3⟩ := hSw
                      go_simp <;> (with_reducible rfl)
                    try simp only [Act.put, List.setIfInBounds_toArray, List.set_cons_zero, List.set_cons_succ]
                    refine takeD (i := 9) (d := some 158) (v := ?_) rfl rfl (by kernel_rfl) (by kernel_rfl) (by kernel_rfl) (fun _ _ _ h => h) (Or.inl ⟨by rfl, ?_⟩) hHeld ?_
                    rotate_left
                    · intro w hSw
                      obtain ⟨s1, s2, s3⟩ := hSw
                      go_simp <;> (with_reducible rfl)
                    try simp only [Act.put, List.setIfInBounds_toArray, List.set_cons_zero, List.set_cons_succ]
                    refine takeD (i := 10) (d := some 159) (v := ?_) rfl rfl (by kernel_rfl) (by kernel_rfl) (by kernel_rfl) (fun _ _ _ h => h) (Or.inl ⟨by rfl, ?_⟩) hHeld ?_
                    rotate_left
                    · intro w hSw
                      obtain ⟨s1, s2, s3⟩ := hSw
                      go_simp <;> (with_reducible rfl)
                    try simp only [Act.put, List.setIfInBounds_toArray, List.set_cons_zero, List.set_cons_succ]
                    refine takeD (i := 11) (d := some 160) (v := ?_) rfl rfl (by kernel_rfl) (by kernel_rfl) (by kernel_rfl) (fun _ _ _ h => h) (Or.inl ⟨by rfl, ?_⟩) hHeld ?_
                    rotate_left
                    · intro w hSw
                      obtain ⟨s1, s2, s3⟩ := hSw
                      go_simp <;> (with_reducible rfl)
                    try simp only [Act.put, List.setIfInBounds_toArray, List.set_cons_zero, List.set_cons_succ]
                    refine wpAnyH_ready (rs := [12]) (by kernel_rfl) (by simp) ?_
                    refine AllReadyH.cons rfl (fun K hK => ?_) ?_
                    · go_simp
                      obtain ⟨bq, hbq⟩ : ∃ bq, bq = w15.heap.size := ⟨_, rfl⟩
                      have HQ16 : Hid ((w15.alloc (.cells #[.int .u8 0, .slice none 0 0, .slice none 0 0] 34)).heap[bq]? = some (.cells #[.int .u8 0, .slice none 0 0, .slice none 0 0] 34)) := Lib.hid (by rw [hbq]; exact heap_new _ _)
                      have HT16 := Lib.hid ((HT15.out).same ((Chg.refl [] w15).alloc (.cells #[.int .u8 0, .slice none 0 0, .slice none 0 0] 34)))
                      have HB16 := Lib.hid ((HB15.out).same ((Chg.refl [] w15).alloc (.cells #[.int .u8 0, .slice none 0 0, .slice none 0 0] 34)))
                      have HBQ : Hid (w.heap.size ≤ bq) := Lib.hid (by rw [hbq]; exact (HT15.out).isChg.size)
                      rw [← hbq]
                      clear hbq
                      refine hK.out _ _ HB16.out.cq (fun hHeld => ?_)
                      clear hK K
                      try simp only [Act.put, List.setIfInBounds_toArray, List.set_cons_zero, List.set_cons_succ]
                      have hq := HQ16.out
                      have hne := HB16.out.ne hq
                      have f0 := free_of (i := 0) hq
                      have f1 := free_of (i := 1) hq
                      have f2 := free_of (i := 2) hq
                      have g0 := cell_of (i := 0) hq
                      have g1 := cell_of (i := 1) hq
                      have g2 := cell_of (i := 2) hq
                      refine wpAnyH_ready (rs := [13]) (by kernel_rfl) (by simp) ?_
                      refine AllReadyH.cons rfl (fun K hK => ?_) AllReadyH.nil
                      go_simp
                      have hst : Chg [bq] (w15.alloc (.cells #[.int .u8 0, .slice none 0 0, .slice none 0 0] 34)) ((((w15.alloc (.cells #[.int .u8 0, .slice none 0 0, .slice none 0 0] 34)).setCell ⟨bq, 0, none⟩ (.int .u8 (code2 : Nat))).setCell ⟨bq, 1, none⟩ (.slice fa fn fc)).setCell ⟨bq, 2, none⟩ (.slice ga gn gc)) := (((Chg.refl _ _).setCell (.inl (by simp)) _).setCell (.inl (by simp)) _).setCell (.inl (by simp)) _
                      refine hK.out _ _ (AAt.out HB16.out hst hne).cq (fun hHeld => ?_)
                      clear hK K
                      try simp only [Act.put, List.setIfInBounds_toArray, List.set_cons_zero, List.set_cons_succ]
                      refine takeD (i := 14) (d := some 19) (v := ?_) rfl rfl (by kernel_rfl) (by kernel_rfl) (by kernel_rfl) (fun _ _ _ h => h) (Or.inl ⟨by rfl, ?_⟩) hHeld ?_
                      rotate_left
                      · intro w hSw
                        obtain ⟨s1, s2, s3⟩ := hSw
                        go_simp <;> (with_reducible rfl)
                      try simp only [Act.put, List.setIfInBounds_toArray, List.set_cons_zero, List.set_cons_succ]
                      refine takeD (i := 15) (d := some 20) (v := ?_) rfl rfl (by kernel_rfl) (by kernel_rfl) (by kernel_rfl) (fun _ _ _ h => h) (Or.inl ⟨by rfl, ?_⟩) hHeld ?_
                      rotate_left
                      · intro w hSw
                        obtain ⟨s1, s2, s3⟩ := hSw
                        go_simp <;> (with_reducible rfl)
                      try simp only [Act.put, List.setIfInBounds_toArray, List.set_cons_zero, List.set_cons_succ]
                      refine wpAnyH_done (by kernel_rfl) ?_ _
                      try simp only [Act.put, List.setIfInBounds_toArray, List.set_cons_zero, List.set_cons_succ]
                      have hfin := Cabs.pop (T := [⟨ca, n, 4, 5, cf⟩, ⟨cb, n, 4, 5, cf⟩]) (x := ⟨cc, n, 4, 5, findC cf ⟨nm, ty, cl⟩ (t + left)⟩) (HT16.out.other hst (by
                        intro k hk
                        simp at hk
                        rw [hk]
                        exact ⟨HBQ.out, _, ty_cells hq, by decide, by decide, by decide⟩))
                      have HFN := Lib.hid hfin
                      clear hfin hst hq f0 f1 f2 g0 g1 g2
                      go_wp2_with fail
                      go_meet
                      exact ⟨rfl, HFN.out⟩
                    exact AllReadyH.nil
                  refine AllReadyH.cons rfl (fun K hK => ?_) ?_
                  · go_simp
                    obtain ⟨bq, hbq⟩ : ∃ bq, bq = w14.heap.size := ⟨_, rfl⟩
                    have HQ16 : Hid ((w14.alloc (.cells #[.int .u8 0, .slice none 0 0, .slice none 0 0] 34)).heap[bq]? = some (.cells #[.int .u8 0, .slice none 0 0, .slice none 0 0] 34)) := Lib.hid (by rw [hbq]; exact heap_new _ _)
                    have HT16 := Lib.hid ((HT14.out).same ((Chg.refl [] w14).alloc (.cells #[.int .u8 0, .slice none 0 0, .slice none 0 0] 34)))
                    have HB16 := Lib.hid ((HB14.out).same ((Chg.refl [] w14).alloc (.cells #[.int .u8 0, .slice none 0 0, .slice none 0 0] 34)))
                    have HBQ : Hid (w.heap.size ≤ bq) := Lib.hid (by rw [hbq]; exact (HT14.out).isChg.size)
                    rw [← hbq]
                    clear hbq
                    refine hK.out _ _ HB16.out.cq (fun hHeld => ?_)
                    clear hK K
                    try simp only [Act.put, List.setIfInBounds_toArray, List.set_cons_zero, List.set_cons_succ]
                    refine wpAnyH_ready (rs := [7]) (by kernel_rfl) (by simp) ?_
                    refine AllReadyH.cons rfl (fun K hK => ?_) ?_
                    · go_simp
                      rw [HWT.out]
                      refine (find_c HT16.out (i := 2) rfl ⟨nm, ty, cl⟩ (t + left) o2 code2 left2 b2 (by omega) hq1 hq2 hq3 HO3 HCD3 HLF3 HBB3).mono ?_
                      rintro e15 w15 ⟨fa, fn, fc, ga, gn, gc, rfl, _, hT15, hcc15⟩
                      have HT15 : Hid (Cabs w w15 (2 * j) [⟨ca, n, 4, 5, cf⟩, ⟨cb, n, 4, 5, cf⟩, ⟨cc, n, 4, 5, findC cf ⟨nm, ty, cl⟩ (t + left)⟩]) := Lib.hid hT15
                      have HB15 := Lib.hid ((HB16.out).cchg hcc15)
                      have HQ15 := Lib.hid (hcc15.keep HQ16.out (by decide))
                      clear hT15 hcc15
                      go_wp2_with fail
                      refine hK.out _ _ HB15.out.cq (fun hHeld => ?_)
                      clear hK K
                      try simp only [Act.put, List.setIfInBounds_toArray, List.set_cons_zero, List.set_cons_succ]
                      refine takeD (i := 8) (d := some 149) (v := ?_) rfl rfl (by kernel_rfl) (by kernel_rfl) (by kernel_rfl) (fun _ _ _ h => h) (Or.inl ⟨by rfl, ?_⟩) hHeld ?_
                      rotate_left
                      · intro w hSw
                        obtain ⟨s1, s2, s3⟩ := hSw
                        go_simp <;> (with_reducible rfl)
                      try simp only [Act.put, List.setIfInBounds_toArray, List.set_cons_zero, List.set_cons_succ]
                      refine takeD (i := 9) (d := some 158) (v := ?_) rfl rfl (by kernel_rfl) (by kernel_rfl) (by kernel_rfl) (fun _ _ _ h => h) (Or.inl ⟨by rfl, ?_⟩) hHeld ?_
                      rotate_left
                      · intro w hSw
                        obtain ⟨s1, s2, s3⟩ := hSw
                        go_simp <;> (with_reducible rfl)
                      try simp only [Act.put, List.setIfInBounds_toArray, List.set_cons_zero, List.set_cons_succ]
                      refine takeD (i := 10) (d := some 159) (v := ?_) rfl rfl (by kernel_rfl) (by kernel_rfl) (by kernel_rfl) (fun _ _ _ h => h) (Or.inl ⟨by rfl, ?_⟩) hHeld ?_
                      rotate_left
                      · intro w hSw
                        obtain ⟨s1, s2, s3⟩ := hSw
                        go_simp <;> (with_reducible rfl)
                      try simp only [Act.put, List.setIfInBounds_toArray, List.set_cons_zero, List.set_cons_succ]
                      refine takeD (i := 11) (d := some 160) (v := ?_) rfl rfl (by kernel_rfl) (by kernel_rfl) (by kernel_rfl) (fun _ _ _ h => h) (Or.inl ⟨by rfl, ?_⟩) hHeld ?_
                      rotate_left
                      · intro w hSw
                        obtain ⟨s1, s2, s3⟩ := hSw
                        go_simp <;> (with_reducible rfl)
                      try simp only [Act.put, List.setIfInBounds_toArray, List.set_cons_zero, List.set_cons_succ]
                      have hq := HQ15.out
                      have hne := HB15.out.ne hq
                      have f0 := free_of (i := 0) hq
                      have f1 := free_of (i := 1) hq
                      have f2 := free_of (i := 2) hq
                      have g0 := cell_of (i := 0) hq
                      have g1 := cell_of (i := 1) hq
                      have g2 := cell_of (i := 2) hq
                      refine wpAnyH_ready (rs := [13]) (by kernel_rfl) (by simp) ?_
                      refine AllReadyH.cons rfl (fun K hK => ?_) AllReadyH.nil
                      go_simp
                      have hst : Chg [bq] w15 (((w15.setCell ⟨bq, 0, none⟩ (.int .u8 (code2 : Nat))).setCell ⟨bq, 1, none⟩ (.slice fa fn fc)).setCell ⟨bq, 2, none⟩ (.slice ga gn gc)) := (((Chg.refl _ _).setCell (.inl (by simp)) _).setCell (.inl (by simp)) _).setCell (.inl (by simp)) _
                      refine hK.out _ _ (AAt.out HB15.out hst hne).cq (fun hHeld => ?_)
                      clear hK K
                      try simp only [Act.put, List.setIfInBounds_toArray, List.set_cons_zero, List.set_cons_succ]
                      refine takeD (i := 14) (d := some 19) (v := ?_) rfl rfl (by kernel_rfl) (by kernel_rfl) (by kernel_rfl) (fun _ _ _ h => h) (Or.inl ⟨by rfl, ?_⟩) hHeld ?_
                      rotate_left
                      · intro w hSw
                        obtain ⟨s1, s2, s3⟩ := hSw
                        go_simp <;> (with_reducible rfl)
                      try simp only [Act.put, List.setIfInBounds_toArray, List.set_cons_zero, List.set_cons_succ]
                      refine takeD (i := 15) (d := some 20) (v := ?_) rfl rfl (by kernel_rfl) (by kernel_rfl) (by kernel_rfl) (fun _ _ _ h => h) (Or.inl ⟨by rfl, ?_⟩) hHeld ?_
                      rotate_left
                      · intro w hSw
                        obtain ⟨s1, s2, s3⟩ := hSw
                        go_simp <;> (with_reducible rfl)
                      try simp only [Act.put, List.setIfInBounds_toArray, List.set_cons_zero, List.set_cons_succ]
                      refine wpAnyH_done (by kernel_rfl) ?_ _
                      try simp only [Act.put, List.setIfInBounds_toArray, List.set_cons_zero, List.set_cons_succ]
                      have hfin := Cabs.pop (T := [⟨ca, n, 4, 5, cf⟩, ⟨cb, n, 4, 5, cf⟩]) (x := ⟨cc, n, 4, 5, findC cf ⟨nm, ty, cl⟩ (t + left)⟩) (HT15.out.other hst (by
                        intro k hk
                        simp at hk
                        rw [hk]
                        exact ⟨HBQ.out, _, ty_cells hq, by decide, by decide, by decide⟩))
                      have HFN := Lib.hid hfin
                      clear hfin hst hq f0 f1 f2 g0 g1 g2
                      go_wp2_with fail
                      go_meet
                      exact ⟨rfl, HFN.out⟩
                    exact AllReadyH.nil
                  exact AllReadyH.nil
                refine AllReadyH.cons rfl (fun K hK => ?_) ?_
                · go_simp
                  obtain ⟨bq, hbq⟩ : ∃ bq, bq = w13.heap.size := ⟨_, rfl⟩
                  have HQ16 : Hid ((w13.alloc (.cells #[.int .u8 0, .slice none 0 0, .slice none 0 0] 34)).drew.heap[bq]? = some (.cells #[.int .u8 0, .slice none 0 0, .slice none 0 0] 34)) := Lib.hid (by rw [hbq]; exact heap_new _ _)
                  have HT16 := Lib.hid ((HT13.out).same ((Chg.refl [] w13).alloc (.cells #[.int .u8 0, .slice none 0 0, .slice none 0 0] 34)).drew)
                  have HB16 := Lib.hid ((HB13.out).same ((Chg.refl [] w13).alloc (.cells #[.int .u8 0, .slice none 0 0, .slice none 0 0] 34)).drew)
                  have HBQ : Hid (w.heap.size ≤ bq) := Lib.hid (by rw [hbq]; exact (HT13.out).isChg.size)
                  rw [← hbq]
                  clear hbq
                  refine hK.out _ _ HB16.out.cq (fun hHeld => ?_)
                  clear hK K
                  try simp only [Act.put, List.setIfInBounds_toArray, List.set_cons_zero, List.set_cons_succ]
                  refine wpAnyH_ready (rs := [1]) (by kernel_rfl) (by simp) ?_
                  refine AllReadyH.cons rfl (fun K hK => ?_) ?_
                  · go_simp
                    refine (copy_c HT16.out (i := 0) rfl HN1.out.1 (by omega)).mono ?_
                    rintro e14 w14 ⟨cc, rfl, hT14, hc14⟩
                    have HT14 : Hid (Cabs w w14 (2 * j) [⟨ca, n, 4, 5, cf⟩, ⟨cb, n, 4, 5, cf⟩, ⟨cc, n, 4, 5, cf⟩]) := Lib.hid hT14
                    have HB14 := Lib.hid ((HB16.out).same hc14)
                    have HQ14 := Lib.hid (hc14.keep HQ16.out (by simp))
                    clear hT14 hc14
                    go_wp2_with fail
                    refine hK.out _ _ HB14.out.cq (fun hHeld => ?_)
                    clear hK K
                    try simp only [Act.put, List.setIfInBounds_toArray, List.set_cons_zero, List.set_cons_succ]
                    refine wpAnyH_ready (rs := [7]) (by kernel_rfl) (by simp) ?_
                    refine AllReadyH.cons rfl (fun K hK => ?_) ?_
                    · go_simp
                      rw [HWT.out]
                      refine (find_c HT14.out (i := 2) rfl ⟨nm, ty, cl⟩ (t + left) o2 code2 left2 b2 (by omega) hq1 hq2 hq3 HO3 HCD3 HLF3 HBB3).mono ?_
                      rintro e15 w15 ⟨fa, fn, fc, ga, gn, gc, rfl, _, hT15, hcc15⟩
                      have HT15 : Hid (Cabs w w15 (2 * j) [⟨ca, n, 4, 5, cf⟩, ⟨cb, n, 4, 5, cf⟩, ⟨cc, n, 4, 5, findC cf ⟨nm, ty, cl⟩ (t + left)⟩]) := Lib.hid hT15
                      have HB15 := Lib.hid ((HB14.out).cchg hcc15)
                      have HQ15 := Lib.hid (hcc15.keep HQ14.out (by decide))
                      clear hT15 hcc15
                      go_wp2_with fail
                      refine hK.out _ _ HB15.out.cq (fun hHeld => ?_)
                      clear hK K
                      try simp only [Act.put, List.setIfInBounds_toArray, List.set_cons_zero, List.set_cons_succ]
                      refine takeD (i := 8) (d := some 149) (v := ?_) rfl rfl (by kernel_rfl) (by kernel_rfl) (by kernel_rfl) (fun _ _ _ h => h) (Or.inl ⟨by rfl, ?_⟩) hHeld ?_
                      rotate_left
                      · intro w hSw
                        obtain ⟨s1, s2, s3⟩ := hSw
                        go_simp <;> (with_reducible rfl)
                      try simp only [Act.put, List.setIfInBounds_toArray, List.set_cons_zero, List.set_cons_succ]
                      refine takeD (i := 9) (d := some 158) (v := ?_) rfl rfl (by kernel_rfl) (by kernel_rfl) (by kernel_rfl) (fun _ _ _ h => h) (Or.inl ⟨by rfl, ?_⟩) hHeld ?_
                      rotate_left
                      · intro w hSw
                        obtain ⟨s1, s2, s3⟩ := hSw
                        go_simp <;> (with_reducible rfl)
                      try simp only [Act.put, List.setIfInBounds_toArray, List.set_cons_zero, List.set_cons_succ]
                      refine takeD (i := 10) (d := some 159) (v := ?_) rfl rfl (by kernel_rfl) (by kernel_rfl) (by kernel_rfl) (fun _ _ _ h => h) (Or.inl ⟨by rfl, ?_⟩) hHeld ?_
                      rotate_left
                      · intro w hSw
                        obtain ⟨s1, s2, s3⟩ := hSw
                        go_simp <;> (with_reducible rfl)
                      try simp only [Act.put, List.setIfInBounds_toArray, List.set_cons_zero, List.set_cons_succ]
                      refine takeD (i := 11) (d := some 160) (v := ?_) rfl rfl (by kernel_rfl) (by kernel_rfl) (by kernel_rfl) (fun _ _ _ h => h) (Or.inl ⟨by rfl, ?_⟩) hHeld ?_
                      rotate_left
                      · intro w hSw
                        obtain ⟨s1, s2, s3⟩ := hSw
                        go_simp <;> (with_reducible rfl)
                      try simp only [Act.put, List.setIfInBounds_toArray, List.set_cons_zero, List.set_cons_succ]
                      have hq := HQ15.out
                      have hne := HB15.out.ne hq
                      have f0 := free_of (i := 0) hq
                      have f1 := free_of (i := 1) hq
                      have f2 := free_of (i := 2) hq
                      have g0 := cell_of (i := 0) hq
                      have g1 := cell_of (i := 1) hq
                      have g2 := cell_of (i := 2) hq
                      refine wpAnyH_ready (rs := [13]) (by kernel_rfl) (by simp) ?_
                      refine AllReadyH.cons rfl (fun K hK => ?_) AllReadyH.nil
                      go_simp
                      have hst : Chg [bq] w15 (((w15.setCell ⟨bq, 0, none⟩ (.int .u8 (code2 : Nat))).setCell ⟨bq, 1, none⟩ (.slice fa fn fc)).setCell ⟨bq, 2, none⟩ (.slice ga gn gc)) := (((Chg.refl _ _).setCell (.inl (by simp)) _).setCell (.inl (by simp)) _).setCell (.inl (by simp)) _
                      refine hK.out _ _ (AAt.out HB15.out hst hne).cq (fun hHeld => ?_)
                      clear hK K
                      try simp only [Act.put, List.setIfInBounds_toArray, List.set_cons_zero, List.set_cons_succ]
                      refine takeD (i := 14) (d := some 19) (v := ?_) rfl rfl (by kernel_rfl) (by kernel_rfl) (by kernel_rfl) (fun _ _ _ h => h) (Or.inl ⟨by rfl, ?_⟩) hHeld ?_
                      rotate_left
                      · intro w hSw
                        obtain ⟨s1, s2, s3⟩ := hSw
                        go_simp <;> (with_reducible rfl)
                      try simp only [Act.put, List.setIfInBounds_toArray, List.set_cons_zero, List.set_cons_succ]
                      refine takeD (i := 15) (d := some 20) (v := ?_) rfl rfl (by kernel_rfl) (by kernel_rfl) (by kernel_rfl) (fun _ _ _ h => h) (Or.inl ⟨by rfl, ?_⟩) hHeld ?_
                      rotate_left
                      · intro w hSw
                        obtain ⟨s1, s2, s3⟩ := hSw
                        go_simp <;> (with_reducible rfl)
                      try simp only [Act.put, List.setIfInBounds_toArray, List.set_cons_zero, List.set_cons_succ]
                      refine wpAnyH_done (by kernel_rfl) ?_ _
                      try simp only [Act.put, List.setIfInBounds_toArray, List.set_cons_zero, List.set_cons_succ]
                      have hfin := Cabs.pop (T := [⟨ca, n, 4, 5, cf⟩, ⟨cb, n, 4, 5, cf⟩]) (x := ⟨cc, n, 4, 5, findC cf ⟨nm, ty, cl⟩ (t + left)⟩) (HT15.out.other hst (by
                        intro k hk
                        simp at hk
                        rw [hk]
                        exact ⟨HBQ.out, _, ty_cells hq, by decide, by decide, by decide⟩))
                      have HFN := Lib.hid hfin
                      clear hfin hst hq f0 f1 f2 g0 g1 g2
                      go_wp2_with fail
                      go_meet
                      exact ⟨rfl, HFN.out⟩
                    exact AllReadyH.nil
                  exact AllReadyH.nil
                exact AllReadyH.nil
              case rest =>
                obtain ⟨rfl, hT⟩ := hcut
                have hnew : RdgR w ca cb n l.length (.int .i64 t) (.int .i64 ((j + 1 : Nat) : Int)) wc := ⟨j + 1, cf, hlt, rfl, by rw [HNA.out], hT.mono (by omega)⟩
                have HNEW := Lib.hid hnew
                clear hnew hT
                go_wp2
                go_roundw
                case rel => first | exact HNEW.out | ((repeat apply Exists.intro); exact ⟨HNEW.out, rfl⟩)
                case measure => simp [intOf] <;> omega
            | true =>
              have hla := HLAT.out rfl
              have hnt := HNOT.out rfl
              have HNT := Lib.hid hnt
              clear hnt
              have u1 : decide (left < 1) = false := by rw [decide_eq_false_iff_not]; omega
              have hlb := HLB.out
              have htI : 0 ≤ t ∧ t ≤ 1099511627776 := by have h0 := HOK.out.now0; have h1 := HTB.out; unfold topT at h1; omega
              obtain ⟨o2, ho2⟩ : ∃ o2, o2 = gotC cf ⟨nm, ty, cl⟩ (t + left) := ⟨_, rfl⟩
              obtain ⟨code2, hcode2⟩ : ∃ code2, code2 = (gotV o2).code := ⟨_, rfl⟩
              obtain ⟨left2, hleft2⟩ : ∃ left2, left2 = leftV o2 (advC cf (t + left)).now := ⟨_, rfl⟩
              obtain ⟨b2, hb2⟩ : ∃ b2, b2 = o2.isSome := ⟨_, rfl⟩
              have HO3 := Lib.hid ho2
              have HCD3 := Lib.hid hcode2
              have HLF3 := Lib.hid hleft2
              have HBB3 := Lib.hid hb2
              clear ho2 hcode2 hleft2 hb2
              go_upto_region 26 with fail
              go_cut [18, 19, 20] from 43 to 170 (fun _ _ v wx => v = .bool b2 ∧ Cabs w wx (2 * j) [⟨ca, n, 4, 5, cf⟩, ⟨cb, n, 4, 5, cf⟩])
              case first =>

                refine wp_region_held_drew (S := fun W => W.cell? ⟨ab, 1, none⟩ = some (.string nm) ∧ W.cell? ⟨ab, 2, none⟩ = some (.int .u16 (ty : Nat)) ∧ W.cell? ⟨ab, 3, none⟩ = some (.int .u16 (cl : Nat))) (by kernel_rfl) ((HB13.out.same (Chg.refl [] w13).drew).cq) (fun hHeld => ?_)
                refine takeD (i := 0) (d := some 150) (v := ?_) rfl rfl (by kernel_rfl) (by kernel_rfl) (by kernel_rfl) (fun _ _ _ h => h) (Or.inl ⟨by rfl, ?_⟩) hHeld ?_
                rotate_left
                · intro w hSw
                  obtain ⟨s1, s2, s3⟩ := hSw
                  go_simp <;> (with_reducible rfl)
                try simp only [Act.put, List.setIfInBounds_toArray, List.set_cons_zero, List.set_cons_succ]
                refine takeD (i := 2) (d := some 152) (v := ?_) rfl rfl (by kernel_rfl) (by kernel_rfl) (by kernel_rfl) (fun _ _ _ h => h) (Or.inl ⟨by rfl, ?_⟩) hHeld ?_
                rotate_left
                · intro w hSw
                  obtain ⟨s1, s2, s3⟩ := hSw
                  go_simp <;> (with_reducible rfl)
                try simp only [Act.put, List.setIfInBounds_toArray, List.set_cons_zero, List.set_cons_succ]
                refine takeD (i := 3) (d := some 153) (v := ?_) rfl rfl (by kernel_rfl) (by kernel_rfl) (by kernel_rfl) (fun _ _ _ h => h) (Or.inl ⟨by rfl, ?_⟩) hHeld ?_
                rotate_left
                · intro w hSw
                  obtain ⟨s1, s2, s3⟩ := hSw
                  go_simp <;> (with_reducible rfl)
                try simp only [Act.put, List.setIfInBounds_toArray, List.set_cons_zero, List.set_cons_succ]
                refine takeD (i := 4) (d := some 154) (v := ?_) rfl rfl (by kernel_rfl) (by kernel_rfl) (by kernel_rfl) (fun _ _ _ h => h) (Or.inl ⟨by rfl, ?_⟩) hHeld ?_
                rotate_left
                · intro w hSw
                  obtain ⟨s1, s2, s3⟩ := hSw
                  go_simp <;> (with_reducible rfl)
                try simp only [Act.put, List.setIfInBounds_toArray, List.set_cons_zero, List.set_cons_succ]
                refine takeD (i := 5) (d := some 155) (v := ?_) rfl rfl (by kernel_rfl) (by kernel_rfl) (by kernel_rfl) (fun _ _ _ h => h) (Or.inl ⟨by rfl, ?_⟩) hHeld ?_
                rotate_left
                · intro w hSw
                  obtain ⟨s1, s2, s3⟩ := hSw
                  go_simp <;> (with_reducible rfl)
                try simp only [Act.put, List.setIfInBounds_toArray, List.set_cons_zero, List.set_cons_succ]
                refine takeD (i := 6) (d := some 156) (v := ?_) rfl rfl (by kernel_rfl) (by kernel_rfl) (by kernel_rfl) (fun _ _ _ h => h) (Or.inl ⟨by rfl, ?_⟩) hHeld ?_
                rotate_left
                · intro w hSw
                  obtain ⟨s1, s2, s3⟩ := hSw
                  go_simp <;> (with_reducible rfl)
                try simp only [Act.put, List.setIfInBounds_toArray, List.set_cons_zero, List.set_cons_succ]
                refine wpAnyH_ready (rs := [1, 12]) (by kernel_rfl) (by simp) ?_
                refine AllReadyH.cons rfl (fun K hK => ?_) ?_
                · go_simp
                  refine (copy_c (HT13.out.same (Chg.refl [] w13).drew) (i := 0) rfl HN1.out.1 (by omega)).mono ?_
                  rintro e14 w14 ⟨cc, rfl, hT14, hc14⟩
                  have HT14 : Hid (Cabs w w14 (2 * j) [⟨ca, n, 4, 5, cf⟩, ⟨cb, n, 4, 5, cf⟩, ⟨cc, n, 4, 5, cf⟩]) := Lib.hid hT14
                  have HB14 := Lib.hid ((HB13.out.same (Chg.refl [] w13).drew).same hc14)
                  clear hT14 hc14
                  go_wp2_with fail
                  refine hK.out _ _ HB14.out.cq (fun hHeld => ?_)
                  clear hK K
                  try simp only [Act.put, List.setIfInBounds_toArray, List.set_cons_zero, List.set_cons_succ]
                  refine wpAnyH_ready (rs := [7, 12]) (by kernel_rfl) (by simp) ?_
                  refine AllReadyH.cons rfl (fun K hK => ?_) ?_
                  · go_simp
                    rw [HWT.out]
                    refine (find_c HT14.out (i := 2) rfl ⟨nm, ty, cl⟩ (t + left) o2 code2 left2 b2 (by omega) hq1 hq2 hq3 HO3 HCD3 HLF3 HBB3).mono ?_
                    rintro e15 w15 ⟨fa, fn, fc, ga, gn, gc, rfl, _, hT15, hcc15⟩
                    have HT15 : Hid (Cabs w w15 (2 * j) [⟨ca, n, 4, 5, cf⟩, ⟨cb, n, 4, 5, cf⟩, ⟨cc, n, 4, 5, findC cf ⟨nm, ty, cl⟩ (t + left)⟩]) := Lib.hid hT15
                    have HB15 := Lib.hid ((HB14.out).cchg hcc15)
                    clear hT15 hcc15
                    go_wp2_with fail
                    refine hK.out _ _ HB15.out.cq (fun hHeld => ?_)
                    clear hK K
                    try simp only [Act.put, List.setIfInBounds_toArray, List.set_cons_zero, List.set_cons_succ]
                    refine takeD (i := 8) (d := some 149) (v := ?_) rfl rfl (by kernel_rfl) (by kernel_rfl) (by kernel_rfl) (fun _ _ _ h => h) (Or.inl ⟨by rfl, ?_⟩) hHeld ?_
                    rotate_left
                    · intro w hSw
                      obtain ⟨s1, s2, s3⟩ := hSw
                      go_simp <;> (with_reducible rfl)
                    try simp only [Act.put, List.setIfInBounds_toArray, List.set_cons_zero, List.set_cons_succ]
                    refine takeD (i := 9) (d := some 158) (v := ?_) rfl rfl (by kernel_rfl) (by kernel_rfl) (by kernel_rfl) (fun _ _ _ h => h) (Or.inl ⟨by rfl, ?_⟩) hHeld ?_
                    rotate_left
                    · intro w hSw
                      obtain ⟨s1, s2, s3⟩ := hSw
                      go_simp <;> (with_reducible rfl)
                    try simp only [Act.put, List.setIfInBounds_toArray, List.set_cons_zero, List.set_cons_succ]
                    refine takeD (i := 10) (d := some 159) (v := ?_) rfl rfl (by kernel_rfl) (by kernel_rfl) (by kernel_rfl) (fun _ _ _ h => h) (Or.inl ⟨by rfl, ?_⟩) hHeld ?_
                    rotate_left
                    · intro w hSw
                      obtain ⟨s1, s2, s3⟩ := hSw
                      go_simp <;> (with_reducible rfl)
                    try simp only [Act.put, List.setIfInBounds_toArray, List.set_cons_zero, List.set_cons_succ]
                    refine takeD (i := 11) (d := some 160) (v := ?_) rfl rfl (by kernel_rfl) (by kernel_rfl) (by kernel_rfl) (fun _ _ _ h => h) (Or.inl ⟨by rfl, ?_⟩) hHeld ?_
                    rotate_left
                    · intro w hSw
                      obtain ⟨s1, s2, s3⟩ := hSw
                      go_simp <;> (with_reducible rfl)
                    try simp only [Act.put, List.setIfInBounds_toArray, List.set_cons_zero, List.set_cons_succ]
                    refine wpAnyH_ready (rs := [12]) (by kernel_rfl) (by simp) ?_
                    refine AllReadyH.cons rfl (fun K hK => ?_) ?_
                    · go_simp
                      obtain ⟨bq, hbq⟩ : ∃ bq, bq = w15.heap.size := ⟨_, rfl⟩
                      have HQ16 : Hid ((w15.alloc (.cells #[.int .u8 0, .slice none 0 0, .slice none 0 0] 34)).heap[bq]? = some (.cells #[.int .u8 0, .slice none 0 0, .slice none 0 0] 34)) := Lib.hid (by rw [hbq]; exact heap_new _ _)
                      have HT16 := Lib.hid ((HT15.out).same ((Chg.refl [] w15).alloc (.cells #[.int .u8 0, .slice none 0 0, .slice none 0 0] 34)))
                      have HB16 := Lib.hid ((HB15.out).same ((Chg.refl [] w15).alloc (.cells #[.int .u8 0, .slice none 0 0, .slice none 0 0] 34)))
                      have HBQ : Hid (w.heap.size ≤ bq) := Lib.hid (by rw [hbq]; exact (HT15.out).isChg.size)
                      rw [← hbq]
                      clear hbq
                      refine hK.out _ _ HB16.out.cq (fun hHeld => ?_)
                      clear hK K
                      try simp only [Act.put, List.setIfInBounds_toArray, List.set_cons_zero, List.set_cons_succ]
                      have hq := HQ16.out
                      have hne := HB16.out.ne hq
                      have f0 := free_of (i := 0) hq
                      have f1 := free_of (i := 1) hq
                      have f2 := free_of (i := 2) hq
                      have g0 := cell_of (i := 0) hq
                      have g1 := cell_of (i := 1) hq
                      have g2 := cell_of (i := 2) hq
                      refine wpAnyH_ready (rs := [13]) (by kernel_rfl) (by simp) ?_
                      refine AllReadyH.cons rfl (fun K hK => ?_) AllReadyH.nil
                      go_simp
                      have hst : Chg [bq] (w15.alloc (.cells #[.int .u8 0, .slice none 0 0, .slice none 0 0] 34)) ((((w15.alloc (.cells #[.int .u8 0, .slice none 0 0, .slice none 0 0] 34)).setCell ⟨bq, 0, none⟩ (.int .u8 (code2 : Nat))).setCell ⟨bq, 1, none⟩ (.slice fa fn fc)).setCell ⟨bq, 2, none⟩ (.slice ga gn gc)) := (((Chg.refl _ _).setCell (.inl (by simp)) _).setCell (.inl (by simp)) _).setCell (.inl (by simp)) _
                      refine hK.out _ _ (AAt.out HB16.out hst hne).cq (fun hHeld => ?_)
                      clear hK K
                      try simp only [Act.put, List.setIfInBounds_toArray, List.set_cons_zero, List.set_cons_succ]
                      refine takeD (i := 14) (d := some 19) (v := ?_) rfl rfl (by kernel_rfl) (by kernel_rfl) (by kernel_rfl) (fun _ _ _ h => h) (Or.inl ⟨by rfl, ?_⟩) hHeld ?_
                      rotate_left
                      · intro w hSw
                        obtain ⟨s1, s2, s3⟩ := hSw
                        go_simp <;> (with_reducible rfl)
                      try simp only [Act.put, List.setIfInBounds_toArray, List.set_cons_zero, List.set_cons_succ]
                      refine takeD (i := 15) (d := some 20) (v := ?_) rfl rfl (by kernel_rfl) (by kernel_rfl) (by kernel_rfl) (fun _ _ _ h => h) (Or.inl ⟨by rfl, ?_⟩) hHeld ?_
                      rotate_left
                      · intro w hSw
                        obtain ⟨s1, s2, s3⟩ := hSw
                        go_simp <;> (with_reducible rfl)
                      try simp only [Act.put, List.setIfInBounds_toArray, List.set_cons_zero, List.set_cons_succ]
                      refine wpAnyH_done (by kernel_rfl) ?_ _
                      try simp only [Act.put, List.setIfInBounds_toArray, List.set_cons_zero, List.set_cons_succ]
                      have hfin := Cabs.pop (T := [⟨ca, n, 4, 5, cf⟩, ⟨cb, n, 4, 5, cf⟩]) (x := ⟨cc, n, 4, 5, findC cf ⟨nm, ty, cl⟩ (t + left)⟩) (HT16.out.other hst (by
                        intro k hk
                        simp at hk
                        rw [hk]
                        exact ⟨HBQ.out, _, ty_cells hq, by decide, by decide, by decide⟩))
                      have HFN := Lib.hid hfin
                      clear hfin hst hq f0 f1 f2 g0 g1 g2
                      go_wp2_with fail
                      go_meet
                      exact ⟨rfl, HFN.out⟩
                    exact AllReadyH.nil
                  refine AllReadyH.cons rfl (fun K hK => ?_) ?_
                  · go_simp
                    obtain ⟨bq, hbq⟩ : ∃ bq, bq = w14.heap.size := ⟨_, rfl⟩
                    have HQ16 : Hid ((w14.alloc (.cells #[.int .u8 0, .slice none 0 0, .slice none 0 0] 34)).heap[bq]? = some (.cells #[.int .u8 0, .slice none 0 0, .slice none 0 0] 34)) := Lib.hid (by rw [hbq]; exact heap_new _ _)
                    have HT16 := Lib.hid ((HT14.out).same ((Chg.refl [] w14).alloc (.cells #[.int .u8 0, .slice none 0 0, .slice none 0 0] 34)))
                    have HB16 := Lib.hid ((HB14.out).same ((Chg.refl [] w14).alloc (.cells #[.int .u8 0, .slice none 0 0, .slice none 0 0] 34)))
                    have HBQ : Hid (w.heap.size ≤ bq) := Lib.hid (by rw [hbq]; exact (HT14.out).isChg.size)
                    rw [← hbq]
                    clear hbq
                    refine hK.out _ _ HB16.out.cq (fun hHeld => ?_)
                    clear hK K
                    try simp only [Act.put, List.setIfInBounds_toArray, List.set_cons_zero, List.set_cons_succ]
                    refine wpAnyH_ready (rs := [7]) (by kernel_rfl) (by simp) ?_
                    refine AllReadyH.cons rfl (fun K hK => ?_) ?_
                    · go_simp
                      rw [HWT.out]
                      refine (find_c HT16.out (i := 2) rfl ⟨nm, ty, cl⟩ (t + left) o2 code2 left2 b2 (by omega) hq1 hq2 hq3 HO3 HCD3 HLF3 HBB3).mono ?_
                      rintro e15 w15 ⟨fa, fn, fc, ga, gn, gc, rfl, _, hT15, hcc15⟩
                      have HT15 : Hid (Cabs w w15 (2 * j) [⟨ca, n, 4, 5, cf⟩, ⟨cb, n, 4, 5, cf⟩, ⟨cc, n, 4, 5, findC cf ⟨nm, ty, cl⟩ (t + left)⟩]) := Lib.hid hT15
                      have HB15 := Lib.hid ((HB16.out).cchg hcc15)
                      have HQ15 := Lib.hid (hcc15.keep HQ16.out (by decide))
                      clear hT15 hcc15
                      go_wp2_with fail
                      refine hK.out _ _ HB15.out.cq (fun hHeld => ?_)
                      clear hK K
                      try simp only [Act.put, List.setIfInBounds_toArray, List.set_cons_zero, List.set_cons_succ]
                      refine takeD (i := 8) (d := some 149) (v := ?_) rfl rfl (by kernel_rfl) (by kernel_rfl) (by kernel_rfl) (fun _ _ _ h => h) (Or.inl ⟨by rfl, ?_⟩) hHeld ?_
                      rotate_left
                      · intro w hSw
                        obtain ⟨s1, s2, s3⟩ := hSw
                        go_simp <;> (with_reducible rfl)
                      try simp only [Act.put, List.setIfInBounds_toArray, List.set_cons_zero, List.set_cons_succ]
                      refine takeD (i := 9) (d := some 158) (v := ?_) rfl rfl (by kernel_rfl) (by kernel_rfl) (by kernel_rfl) (fun _ _ _ h => h) (Or.inl ⟨by rfl, ?_⟩) hHeld ?_
                      rotate_left
                      · intro w hSw
                        obtain ⟨s1, s2, s3⟩ := hSw
                        go_simp <;> (with_reducible rfl)
                      try simp only [Act.put, List.setIfInBounds_toArray, List.set_cons_zero, List.set_cons_succ]
                      refine takeD (i := 10) (d := some 159) (v := ?_) rfl rfl (by kernel_rfl) (by kernel_rfl) (by kernel_rfl) (fun _ _ _ h => h) (Or.inl ⟨by rfl, ?_⟩) hHeld ?_
                      rotate_left
                      · intro w hSw
                        obtain ⟨s1, s2, s3⟩ := hSw
                        go_simp <;> (with_reducible rfl)
                      try simp only [Act.put, List.setIfInBounds_toArray, List.set_cons_zero, List.set_cons_succ]
                      refine takeD (i := 11) (d := some 160) (v := ?_) rfl rfl (by kernel_rfl) (by kernel_rfl) (by kernel_rfl) (fun _ _ _ h => h) (Or.inl ⟨by rfl, ?_⟩) hHeld ?_
                      rotate_left
                      · intro w hSw
                        obtain ⟨s1, s2, s3⟩ := hSw
                        go_simp <;> (with_reducible rfl)
                      try simp only [Act.put, List.setIfInBounds_toArray, List.set_cons_zero, List.set_cons_succ]
                      have hq := HQ15.out
                      have hne := HB15.out.ne hq
                      have f0 := free_of (i := 0) hq
                      have f1 := free_of (i := 1) hq
                      have f2 := free_of (i := 2) hq
                      have g0 := cell_of (i := 0) hq
                      have g1 := cell_of (i := 1) hq
                      have g2 := cell_of (i := 2) hq
                      refine wpAnyH_ready (rs := [13]) (by kernel_rfl) (by simp) ?_
                      refine AllReadyH.cons rfl (fun K hK => ?_) AllReadyH.nil
                      go_simp
                      have hst : Chg [bq] w15 (((w15.setCell ⟨bq, 0, none⟩ (.int .u8 (code2 : Nat))).setCell ⟨bq, 1, none⟩ (.slice fa fn fc)).setCell ⟨bq, 2, none⟩ (.slice ga gn gc)) := (((Chg.refl _ _).setCell (.inl (by simp)) _).setCell (.inl (by simp)) _).setCell (.inl (by simp)) _
                      refine hK.out _ _ (AAt.out HB15.out hst hne).cq (fun hHeld => ?_)
                      clear hK K
                      try simp only [Act.put, List.setIfInBounds_toArray, List.set_cons_zero, List.set_cons_succ]
                      refine takeD (i := 14) (d := some 19) (v := ?_) rfl rfl (by kernel_rfl) (by kernel_rfl) (by kernel_rfl) (fun _ _ _ h => h) (Or.inl ⟨by rfl, ?_⟩) hHeld ?_
                      rotate_left
                      · intro w hSw
                        obtain ⟨s1, s2, s3⟩ := hSw
                        go_simp <;> (with_reducible rfl)
                      try simp only [Act.put, List.setIfInBounds_toArray, List.set_cons_zero, List.set_cons_succ]
                      refine takeD (i := 15) (d := some 20) (v := ?_) rfl rfl (by kernel_rfl) (by kernel_rfl) (by kernel_rfl) (fun _ _ _ h => h) (Or.inl ⟨by rfl, ?_⟩) hHeld ?_
                      rotate_left
                      · intro w hSw
                        obtain ⟨s1, s2, s3⟩ := hSw
                        go_simp <;> (with_reducible rfl)
                      try simp only [Act.put, List.setIfInBounds_toArray, List.set_cons_zero, List.set_cons_succ]
                      refine wpAnyH_done (by kernel_rfl) ?_ _
                      try simp only [Act.put, List.setIfInBounds_toArray, List.set_cons_zero, List.set_cons_succ]
                      have hfin := Cabs.pop (T := [⟨ca, n, 4, 5, cf⟩, ⟨cb, n, 4, 5, cf⟩]) (x := ⟨cc, n, 4, 5, findC cf ⟨nm, ty, cl⟩ (t + left)⟩) (HT15.out.other hst (by
                        intro k hk
                        simp at hk
                        rw [hk]
                        exact ⟨HBQ.out, _, ty_cells hq, by decide, by decide, by decide⟩))
                      have HFN := Lib.hid hfin
                      clear hfin hst hq f0 f1 f2 g0 g1 g2
                      go_wp2_with fail
                      go_meet
                      exact ⟨rfl, HFN.out⟩
                    exact AllReadyH.nil
                  exact AllReadyH.nil
                refine AllReadyH.cons rfl (fun K hK => ?_) ?_
                · go_simp
                  obtain ⟨bq, hbq⟩ : ∃ bq, bq = w13.heap.size := ⟨_, rfl⟩
                  have HQ16 : Hid ((w13.alloc (.cells #[.int .u8 0, .slice none 0 0, .slice none 0 0] 34)).drew.heap[bq]? = some (.cells #[.int .u8 0, .slice none 0 0, .slice none 0 0] 34)) := Lib.hid (by rw [hbq]; exact heap_new _ _)
                  have HT16 := Lib.hid ((HT13.out).same ((Chg.refl [] w13).alloc (.cells #[.int .u8 0, .slice none 0 0, .slice none 0 0] 34)).drew)
                  have HB16 := Lib.hid ((HB13.out).same ((Chg.refl [] w13).alloc (.cells #[.int .u8 0, .slice none 0 0, .slice none 0 0] 34)).drew)
                  have HBQ : Hid (w.heap.size ≤ bq) := Lib.hid (by rw [hbq]; exact (HT13.out).isChg.size)
                  rw [← hbq]
                  clear hbq
                  refine hK.out _ _ HB16.out.cq (fun hHeld => ?_)
                  clear hK K
                  try simp only [Act.put, List.setIfInBounds_toArray, List.set_cons_zero, List.set_cons_succ]
                  refine wpAnyH_ready (rs := [1]) (by kernel_rfl) (by simp) ?_
                  refine AllReadyH.cons rfl (fun K hK => ?_) ?_
                  · go_simp
                    refine (copy_c HT16.out (i := 0) rfl HN1.out.1 (by omega)).mono ?_
                    rintro e14 w14 ⟨cc, rfl, hT14, hc14⟩
                    have HT14 : Hid (Cabs w w14 (2 * j) [⟨ca, n, 4, 5, cf⟩, ⟨cb, n, 4, 5, cf⟩, ⟨cc, n, 4, 5, cf⟩]) := Lib.hid hT14
                    have HB14 := Lib.hid ((HB16.out).same hc14)
                    have HQ14 := Lib.hid (hc14.keep HQ16.out (by simp))
                    clear hT14 hc14
                    go_wp2_with fail
                    refine hK.out _ _ HB14.out.cq (fun hHeld => ?_)
                    clear hK K
                    try simp only [Act.put, List.setIfInBounds_toArray, List.set_cons_zero, List.set_cons_succ]
                    refine wpAnyH_ready (rs := [7]) (by kernel_rfl) (by simp) ?_
                    refine AllReadyH.cons rfl (fun K hK => ?_) ?_
                    · go_simp
                      rw [HWT.out]
                      refine (find_c HT14.out (i := 2) rfl ⟨nm, ty, cl⟩ (t + left) o2 code2 left2 b2 (by omega) hq1 hq2 hq3 HO3 HCD3 HLF3 HBB3).mono ?_
                      rintro e15 w15 ⟨fa, fn, fc, ga, gn, gc, rfl, _, hT15, hcc15⟩
                      have HT15 : Hid (Cabs w w15 (2 * j) [⟨ca, n, 4, 5, cf⟩, ⟨cb, n, 4, 5, cf⟩, ⟨cc, n, 4, 5, findC cf ⟨nm, ty, cl⟩ (t + left)⟩]) := Lib.hid hT15
                      have HB15 := Lib.hid ((HB14.out).cchg hcc15)
                      have HQ15 := Lib.hid (hcc15.keep HQ14.out (by decide))
                      clear hT15 hcc15
                      go_wp2_with fail
                      refine hK.out _ _ HB15.out.cq (fun hHeld => ?_)
                      clear hK K
                      try simp only [Act.put, List.setIfInBounds_toArray, List.set_cons_zero, List.set_cons_succ]
                      refine takeD (i := 8) (d := some 149) (v := ?_) rfl rfl (by kernel_rfl) (by kernel_rfl) (by kernel_rfl) (fun _ _ _ h => h) (Or.inl ⟨by rfl, ?_⟩) hHeld ?_
                      rotate_left
                      · intro w hSw
                        obtain ⟨s1, s2, s3⟩ := hSw
                        go_simp <;> (with_reducible rfl)
                      try simp only [Act.put, List.setIfInBounds_toArray, List.set_cons_zero, List.set_cons_succ]
                      refine takeD (i := 9) (d := some 158) (v := ?_) rfl rfl (by kernel_rfl) (by kernel_rfl) (by kernel_rfl) (fun _ _ _ h => h) (Or.inl ⟨by rfl, ?_⟩) hHeld ?_
                      rotate_left
                      · intro w hSw
                        obtain ⟨s1, s2, s3⟩ := hSw
                        go_simp <;> (with_reducible rfl)
                      try simp only [Act.put, List.setIfInBounds_toArray, List.set_cons_zero, List.set_cons_succ]
                      refine takeD (i := 10) (d := some 159) (v := ?_) rfl rfl (by kernel_rfl) (by kernel_rfl) (by kernel_rfl) (fun _ _ _ h => h) (Or.inl ⟨by rfl, ?_⟩) hHeld ?_
                      rotate_left
                      · intro w hSw
                        obtain ⟨s1, s2, s3⟩ := hSw
                        go_simp <;> (with_reducible rfl)
                      try simp only [Act.put, List.setIfInBounds_toArray, List.set_cons_zero, List.set_cons_succ]
                      refine takeD (i := 11) (d := some 160) (v := ?_) rfl rfl (by kernel_rfl) (by kernel_rfl) (by kernel_rfl) (fun _ _ _ h => h) (Or.inl ⟨by rfl, ?_⟩) hHeld ?_
                      rotate_left
                      · intro w hSw
                        obtain ⟨s1, s2, s3⟩ := hSw
                        go_simp <;> (with_reducible rfl)
                      try simp only [Act.put, List.setIfInBounds_toArray, List.set_cons_zero, List.set_cons_succ]
                      have hq := HQ15.out
                      have hne := HB15.out.ne hq
                      have f0 := free_of (i := 0) hq
                      have f1 := free_of (i := 1) hq
                      have f2 := free_of (i := 2) hq
                      have g0 := cell_of (i := 0) hq
                      have g1 := cell_of (i := 1) hq
                      have g2 := cell_of (i := 2) hq
                      refine wpAnyH_ready (rs := [13]) (by kernel_rfl) (by simp) ?_
                      refine AllReadyH.cons rfl (fun K hK => ?_) AllReadyH.nil
                      go_simp
                      have hst : Chg [bq] w15 (((w15.setCell ⟨bq, 0, none⟩ (.int .u8 (code2 : Nat))).setCell ⟨bq, 1, none⟩ (.slice fa fn fc)).setCell ⟨bq, 2, none⟩ (.slice ga gn gc)) := (((Chg.refl _ _).setCell (.inl (by simp)) _).setCell (.inl (by simp)) _).setCell (.inl (by simp)) _
                      refine hK.out _ _ (AAt.out HB15.out hst hne).cq (fun hHeld => ?_)
                      clear hK K
                      try simp only [Act.put, List.setIfInBounds_toArray, List.set_cons_zero, List.set_cons_succ]
                      refine takeD (i := 14) (d := some 19) (v := ?_) rfl rfl (by kernel_rfl) (by kernel_rfl) (by kernel_rfl) (fun _ _ _ h => h) (Or.inl ⟨by rfl, ?_⟩) hHeld ?_
                      rotate_left
                      · intro w hSw
                        obtain ⟨s1, s2, s3⟩ := hSw
                        go_simp <;> (with_reducible rfl)
                      try simp only [Act.put, List.setIfInBounds_toArray, List.set_cons_zero, List.set_cons_succ]
                      refine takeD (i := 15) (d := some 20) (v := ?_) rfl rfl (by kernel_rfl) (by kernel_rfl) (by kernel_rfl) (fun _ _ _ h => h) (Or.inl ⟨by rfl, ?_⟩) hHeld ?_
                      rotate_left
                      · intro w hSw
                        obtain ⟨s1, s2, s3⟩ := hSw
                        go_simp <;> (with_reducible rfl)
                      try simp only [Act.put, List.setIfInBounds_toArray, List.set_cons_zero, List.set_cons_succ]
                      refine wpAnyH_done (by kernel_rfl) ?_ _
                      try simp only [Act.put, List.setIfInBounds_toArray, List.set_cons_zero, List.set_cons_succ]
                      have hfin := Cabs.pop (T := [⟨ca, n, 4, 5, cf⟩, ⟨cb, n, 4, 5, cf⟩]) (x := ⟨cc, n, 4, 5, findC cf ⟨nm, ty, cl⟩ (t + left)⟩) (HT15.out.other hst (by
                        intro k hk
                        simp at hk
                        rw [hk]
                        exact ⟨HBQ.out, _, ty_cells hq, by decide, by decide, by decide⟩))
                      have HFN := Lib.hid hfin
                      clear hfin hst hq f0 f1 f2 g0 g1 g2
                      go_wp2_with fail
                      go_meet
                      exact ⟨rfl, HFN.out⟩
                    exact AllReadyH.nil
                  exact AllReadyH.nil
                exact AllReadyH.nil
              case rest =>
                obtain ⟨rfl, hT⟩ := hcut
                by_cases hle : t + left ≤ 1099511627776
                · have u2 : decide (t + left ≤ 1099511627776) = true := by rw [decide_eq_true_eq]; exact hle
                  have hb2 : b2 = false := by
                    have h1 := HNT.out hle
                    have h2 := HBB3.out
                    rw [HO3.out, h1] at h2
                    exact h2
                  subst hb2
                  have hnew : RdgR w ca cb n l.length (.int .i64 t) (.int .i64 ((j + 1 : Nat) : Int)) wc := ⟨j + 1, cf, hlt, rfl, by rw [HNA.out], hT.mono (by omega)⟩
                  have HNEW := Lib.hid hnew
                  clear hnew hT
                  go_wp2
                  go_roundw
                  case rel => first | exact HNEW.out | ((repeat apply Exists.intro); exact ⟨HNEW.out, rfl⟩)
                  case measure => simp [intOf] <;> omega
                · have u2 : decide (t + left ≤ 1099511627776) = false := by rw [decide_eq_false_iff_not]; exact hle
                  have hnew : RdgR w ca cb n l.length (.int .i64 t) (.int .i64 ((j + 1 : Nat) : Int)) wc := ⟨j + 1, cf, hlt, rfl, by rw [HNA.out], hT.mono (by omega)⟩
                  have HNEW := Lib.hid hnew
                  clear hnew hT
                  go_wp2
                  go_roundw
                  case rel => first | exact HNEW.out | ((repeat apply Exists.intro); exact ⟨HNEW.out, rfl⟩)
                  case measure => simp [intOf] <;> omega

      · obtain ⟨k, hk⟩ : ∃ k, k = l.length := ⟨_, rfl⟩
        have hjl : j = l.length := by omega
        have t3 : decide (j < l.length) = false := by rw [decide_eq_false_iff_not]; exact hlt
        have hok : OkM n c := hT.ok (i := 0) rfl
        obtain ⟨r1, hr1⟩ : ∃ r1, r1 = c.M.map (·.q) := ⟨_, rfl⟩
        have HR1 := Lib.hid hr1
        have HQ1 : Hid ((∀ q ∈ r1, OkQ q) ∧ r1.length ≤ 1000) := Lib.hid ⟨by rw [hr1]; exact hok.okq, by rw [hr1]; exact rowLen hok HN1.out.2⟩
        have HT := Lib.hid hT
        clear hr1 hok hT hk hjl
        go_wp2_with fail
        refine (row_c HT.out (i := 0) rfl r1 HR1).mono ?_
        rintro e w8 ⟨ya, yc, rfl, hr8, hc8⟩
        have HT8 := Lib.hid (HT.out.same hc8)
        have HR8 := Lib.hid hr8
        clear hr8 hc8 HT
        go_wp2_with fail
        refine (row_c HT8.out (i := 1) rfl r1 HR1).mono ?_
        rintro e w9 ⟨za, zc, rfl, hr9, hc9⟩
        have HT9 := Lib.hid (HT8.out.same hc9)
        have HR9 := Lib.hid (HR8.out.same hc9)
        have HS9 := Lib.hid hr9
        clear hr9 hc9 HT8 HR8
        go_wp2_with fail
        refine (same_rows HR9.out HS9.out HQ1.out.1 HQ1.out.2).mono ?_
        rintro e w10 ⟨rfl, hc10⟩
        have HEND := Lib.hid ((HT9.out.isChg.trans hc10).below (Nat.le_refl w.heap.size) (by simp))
        clear hc10 HT9 HR9 HS9
        go_wp2
        go_ret
        exact ⟨rfl, HEND.out⟩

end Go.Proofs.Ytgdnfempcjlipaa
