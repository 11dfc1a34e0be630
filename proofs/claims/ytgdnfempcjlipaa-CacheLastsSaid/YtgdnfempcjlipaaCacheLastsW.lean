/- The walk of CacheLasts. -/
import Derived.Test.YtgdnfempcjlipaaCaF
import Derived.Test.YtgdnfempcjlipaaCacheOldestW
namespace Go.Proofs.Ytgdnfempcjlipaa
open Go.RowKit Go.Maps

set_option maxRecDepth 100000 in
set_option maxHeartbeats 8000000 in
theorem cacheLasts_walk (x0 : Int) (la : Option Addr) (lc : Nat) (l : List ActT) (x : Qn) (av : ActT) (lf : Int) (ma : Option Addr) (mc : Nat) (more : List Qn) (ta : Option Addr) (tl tc : Nat) (ts : List Int) (w : World)
    (_hx : (Lit.int .i64 x0).wf = true) (hA : IsActs w la l) (hx : OkQ x) (hv : RawV w av.sv av.ov av.v) (_hlf : (Lit.int .i64 lf).wf = true) (hM : IsQs w ma more) (hT : IsRow .u8 w ta tl tc ts) :
    Calls Try.prog 4 #[.int .i64 x0, .slice la l.length lc, .agg (qV x), .agg #[.int .u8 (av.v.code : Nat), av.sv, av.ov], .int .i64 lf, .slice ma more.length mc, .slice ta tl tc] w fun e w' => e = .returned (.bool true) ∧ Below w.heap.size w w' := by
  obtain ⟨nm, ty, cl⟩ := x
  obtain ⟨_, _, v, _, _, sv, ov⟩ := av
  simp only at hv ⊢
  unfold qV
  simp only
  have HXQ := Lib.hid hx
  obtain ⟨hq1, hq2, hq3⟩ := hx
  simp only at hq1 hq2 hq3
  obtain ⟨sa, sn, sc, oa, on, oc, rfl, rfl⟩ := hv.slices
  have HV := Lib.hid hv
  have HA := Lib.hid hA
  have HM := Lib.hid hM
  have hT2 := argk hT
  have HTK := Lib.hid hT2
  obtain ⟨mn, hmn⟩ : ∃ mn, mn = more.length := ⟨_, rfl⟩
  have hmx : (mn : Int) ≤ 9223372036854775807 := by have := hM.1; rw [hmn]; unfold maxLen at this; omega
  have htx : (tl : Int) ≤ 9223372036854775807 := by have := hT2.1; unfold maxLen at this; omega
  rw [← hmn]
  have HMN := Lib.hid hmn
  clear hA hM hT hT2 hv hmn
  go_enter Try.func4, Try.ntmps4
  go_wp2_with fail
  obtain ⟨xb, hxb⟩ : ∃ xb, xb = w.heap.size := ⟨_, rfl⟩
  rw [← hxb]
  refine calls_abs ?_
  intro w0 hw0
  have hc0 : Chg [] w w0 := by rw [hw0]; exact ((Chg.refl _ _).alloc _).alloc _
  have hX0 : QAt w0 xb ⟨nm, ty, cl⟩ := by unfold QAt; rw [hw0, hxb]; exact heap_old (heap_new _ _)
  have hV0 : VAt w0 (xb + 1) v.code (.slice sa sn sc) (.slice oa on oc) := by unfold VAt; rw [hw0, hxb]; exact heap_new' _ _ _ (by simp)
  have HC0 := Lib.hid hc0
  have HX0 := Lib.hid hX0
  have HV0 := Lib.hid hV0
  clear hw0 hc0 hX0 hV0 hxb
  refine (long_any la lc l w0 (HA.out.chg HC0.out)).mono ?_
  rintro e w1 ⟨b1, rfl, hb1, dc1⟩
  have HC1 := Lib.hid (HC0.out.trans dc1)
  have HX1 := Lib.hid (HX0.out.same dc1)
  have HV1 := Lib.hid (HV0.out.same dc1)
  clear dc1 HC0 HX0 HV0
  cases b1 with
  | true =>
    clear hb1
    go_wp2_with fail
    refine (awake_any _).mono ?_
    rintro e w9 ⟨rfl, hc9⟩
    have HEND := Lib.hid ((HC1.out.trans hc9).below (Nat.le_refl w.heap.size) (by simp))
    clear hc9
    go_wp2
    go_ret
    exact ⟨rfl, HEND.out⟩
  | false =>
    have HO1 := Lib.hid (hb1 rfl)
    clear hb1
    obtain ⟨x0c, x1c, x2c⟩ := HX1.out.c3
    obtain ⟨v0c, v1c, v2c⟩ := HV1.out.c3
    simp only at x0c x1c x2c
    go_wp2_with fail
    obtain ⟨ab, hab⟩ : ∃ ab, ab = w1.heap.size := ⟨_, rfl⟩
    rw [← hab]
    refine calls_abs ?_
    intro w2 hw2
    have dc2 : Chg [] w1 w2 := by rw [hw2]; exact (Chg.refl _ _).alloc _
    have hact : w2.heap[ab]? = some (.cells #[.int .u8 0, .string nm, .int .u16 (ty : Nat), .int .u16 (cl : Nat), .int .u8 (v.code : Nat), .slice sa sn sc, .slice oa on oc, .int .i64 0, .int .i64 0] 46 (0, 0)) := by rw [hw2, hab]; exact heap_new _ _
    have HC2 := Lib.hid (HC1.out.trans dc2)
    have HX2 := Lib.hid (HX1.out.same dc2)
    have HV2 := Lib.hid (HV1.out.same dc2)
    have hA2 := isActs_one (x := ⟨nm, ty, cl⟩) hact HXQ.out (HV.out.same HC2.out)
    have HA2 := Lib.hid hA2
    clear hw2 dc2 hact hA2 hab HX1 HV1 HC1 x0c x1c x2c v0c v1c v2c
    refine (long_any (some ⟨ab, 0, none⟩) 1 [⟨0, ⟨nm, ty, cl⟩, v, 0, 0, .slice sa sn sc, .slice oa on oc⟩] w2 HA2.out).mono ?_
    rintro e w3 ⟨b3, rfl, hb3, dc3⟩
    have HC3 := Lib.hid (HC2.out.trans dc3)
    have HX3 := Lib.hid (HX2.out.same dc3)
    have HV3 := Lib.hid (HV2.out.same dc3)
    clear dc3 HC2 HX2 HV2 HA2
    cases b3 with
    | true =>
      clear hb3
      go_wp2_with fail
      refine (awake_any _).mono ?_
      rintro e w9 ⟨rfl, hc9⟩
      have HEND := Lib.hid ((HC3.out.trans hc9).below (Nat.le_refl w.heap.size) (by simp))
      clear hc9
      go_wp2
      go_ret
      exact ⟨rfl, HEND.out⟩
    | false =>
      have hov : OkVer v := (hb3 rfl).2 _ (List.mem_singleton.2 rfl)
      have HOV := Lib.hid hov
      clear hb3 hov
      by_cases h3 : 100 < mn
      · have t1 : decide ((100 : Int) < (mn : Int)) = true := by rw [decide_eq_true_eq]; omega
        have t1n : decide (100 < mn) = true := by simpa using h3
        clear h3
        go_wp2_with fail
        refine (awake_any _).mono ?_
        rintro e w9 ⟨rfl, hc9⟩
        have HEND := Lib.hid ((HC3.out.trans hc9).below (Nat.le_refl w.heap.size) (by simp))
        clear hc9
        go_wp2
        go_ret
        exact ⟨rfl, HEND.out⟩
      by_cases h4 : 100 < tl
      · have t1 : decide ((100 : Int) < (mn : Int)) = false := by rw [decide_eq_false_iff_not]; omega
        have t1n : decide (100 < mn) = false := by simpa using h3
        have t2 : decide ((100 : Int) < (tl : Int)) = true := by rw [decide_eq_true_eq]; omega
        have t2n : decide (100 < tl) = true := by simpa using h4
        clear h3 h4
        go_wp2_with fail
        refine (awake_any _).mono ?_
        rintro e w9 ⟨rfl, hc9⟩
        have HEND := Lib.hid ((HC3.out.trans hc9).below (Nat.le_refl w.heap.size) (by simp))
        clear hc9
        go_wp2
        go_ret
        exact ⟨rfl, HEND.out⟩
      have t1 : decide ((100 : Int) < (mn : Int)) = false := by rw [decide_eq_false_iff_not]; omega
      have t1n : decide (100 < mn) = false := by simpa using h3
      have t2 : decide ((100 : Int) < (tl : Int)) = false := by rw [decide_eq_false_iff_not]; omega
      have t2n : decide (100 < tl) = false := by simpa using h4
      have hml : mn ≤ 100 := by omega
      have htl : tl ≤ 100 := by omega
      have HL := Lib.hid (And.intro hml htl)
      clear h3 h4 hml htl
      go_wp2_with fail
      refine (awake_any _).mono ?_
      rintro e w4 ⟨rfl, dc4⟩
      have HC4 := Lib.hid (HC3.out.trans dc4)
      have HX4 := Lib.hid (HX3.out.same dc4)
      have HV4 := Lib.hid (HV3.out.same dc4)
      clear dc4 HC3 HX3 HV3 t1 t1n t2 t2n
      obtain ⟨n, hn⟩ : ∃ n, n = roomN x0 := ⟨_, rfl⟩
      have hn1 : 1 ≤ n ∧ n ≤ 256 := by rw [hn]; exact room_le x0
      have hreq : wrap64 (1 + wrap64 ((IntKind.u64.wrap x0).tmod 40)) = (n : Int) := by rw [hn]; exact room_eq x0
      obtain ⟨lif, hlif⟩ : ∃ lif, lif = lifeN lf := ⟨_, rfl⟩
      have hlif1 : 1 ≤ lif ∧ lif ≤ 1000 := by rw [hlif]; exact life_in lf
      have hleq : wrap64 (1 + wrap64 ((IntKind.u64.wrap lf).tmod 1000)) = (lif : Int) := by rw [hlif]; exact life_eq lf
      have HN := Lib.hid hn
      have HREQ := Lib.hid hreq
      have HLEQ := Lib.hid hleq
      have HN1 := Lib.hid hn1
      clear hn hreq hlif hleq
      go_wp2_with fail
      refine (made_c (Cabs.nil (P := 0) HC4.out) x0 1 n (by omega) HN).mono ?_
      rintro e w5 ⟨cb, rfl, hT5, hc5⟩
      have HT5 : Hid (Cabs w w5 0 [⟨cb, n, 1, 5, ⟨0, []⟩⟩]) := Lib.hid hT5
      have HX5 := Lib.hid (HX4.out.same hc5)
      have HV5 := Lib.hid (HV4.out.same hc5)
      clear hT5 hc5 HX4 HV4 HC4
      go_wp2_with fail
      rw [HREQ.out]
      refine (play_c HT5.out (i0 := 0) rfl la lc l HA.out HO1.out (by omega)).mono ?_
      rintro e w6 ⟨rfl, hT6, hck6⟩
      obtain ⟨c0, hc0⟩ : ∃ c0, c0 = runA n ⟨0, []⟩ l := ⟨_, rfl⟩
      have HT6 : Hid (Cabs w w6 300 [⟨cb, n, 1, 5, c0⟩]) := Lib.hid (hT6.cast (by have := HO1.out.1; omega) (by rw [hc0]; rfl))
      have HX6 := Lib.hid (HX5.out.ck hck6)
      have HV6 := Lib.hid (HV5.out.ck hck6)
      have hbound : (∀ a ∈ l, a.now ≤ halfT) → c0.now ≤ halfT := by
        intro hb
        rw [hc0]
        exact runA_now l _ (by simp only; unfold halfT; omega) hb
      have HBO := Lib.hid hbound
      clear hT6 hck6 hc0 HT5 HX5 HV5 hbound
      obtain ⟨x0c, x1c, x2c⟩ := HX6.out.c3
      obtain ⟨v0c, v1c, v2c⟩ := HV6.out.c3
      simp only at x0c x1c x2c
      have hlI : (1 : Int) ≤ (lif : Int) ∧ (lif : Int) ≤ 1000 := by omega
      obtain ⟨mb, hmb⟩ : ∃ b, b = mayB nm.data.toList := ⟨_, rfl⟩
      obtain ⟨r0, hr0⟩ : ∃ r0 : Int, r0 = if okK ⟨nm, ty, cl⟩ (lif : Int) = true then 0 else 1 := ⟨_, rfl⟩
      have hr1 : r0 = if mb = true then 0 else 1 := by
        rw [hr0, hmb]
        have : okK ⟨nm, ty, cl⟩ (lif : Int) = mayB nm.data.toList := by unfold okK mayQ; rw [decide_eq_true hlI.1, Bool.and_true]
        rw [this]
      have HMB := Lib.hid hmb
      have HR0 := Lib.hid hr0
      have HR1 := Lib.hid hr1
      have HLI := Lib.hid hlI
      clear hmb hr0 hr1 hlI
      go_wp2_with fail
      rw [HLEQ.out]
      refine (keep_c HT6.out (i := 0) rfl ⟨nm, ty, cl⟩ (v.code : Nat) sa oa sn sc on oc v (lif : Int) 549755813888 (by omega) hq1 hq2 hq3 (by omega) (.inl (HV.out.rd HOV.out)) r0 HR0).mono ?_
      rintro e w7 ⟨rfl, hT7, hcc7⟩
      obtain ⟨c1, hc1⟩ : ∃ c1, c1 = keepC n c0 ⟨nm, ty, cl⟩ v (lif : Int) halfT := ⟨_, rfl⟩
      have HT7 : Hid (Cabs w w7 301 [⟨cb, n, 1, 5, c1⟩]) := Lib.hid (by rw [hc1]; exact hT7)
      have HX7 := Lib.hid (HX6.out.cchg hcc7)
      have HV7 := Lib.hid (HV6.out.cchg hcc7)
      have hok0 := HT6.out.ok (i := 0) rfl
      have HOK0 := Lib.hid hok0
      have HC1 := Lib.hid hc1
      clear hT7 hcc7 hok0 hc1 HT6 HX6 HV6 x0c x1c x2c v0c v1c v2c
      obtain ⟨x0c, x1c, x2c⟩ := HX7.out.c3
      simp only at x0c x1c x2c
      go_wp2_with fail
      refine (may_any nm mb w7 hq1 HMB).mono ?_
      rintro e9 w9 ⟨rfl, rfl⟩
      cases mb with
      | false =>
        have hr := HR1.out
        simp only [Bool.false_eq_true, if_false] at hr
        subst hr
        have HEND := Lib.hid (HT7.out.isChg.below (Nat.le_refl w.heap.size) (by simp))
        clear HT7
        go_wp2
        go_ret
        exact ⟨rfl, HEND.out⟩
      | true =>
        have hr := HR1.out
        simp only [if_true] at hr
        subst hr
        have hmq : mayQ ⟨nm, ty, cl⟩ = true := HMB.out.symm
        obtain ⟨hg1, hg2, hg3⟩ := keep_got (v := v) (t := halfT) HN1.out.1 HOK0.out hmq HLI.out hq2 hq3
        rw [← HC1.out] at hg1 hg2 hg3
        have hleft : Hid ((lif : Int) = leftV (some ⟨foldQ ⟨nm, ty, cl⟩, v, (advC c0 halfT).now + (lif : Int)⟩) (advC c1 halfT).now) := Lib.hid (by rw [hg2]; show (lif : Int) = (advC c0 halfT).now + (lif : Int) - (advC c0 halfT).now; omega)
        have hgo : Hid (some ⟨foldQ ⟨nm, ty, cl⟩, v, (advC c0 halfT).now + (lif : Int)⟩ = gotC c1 ⟨nm, ty, cl⟩ 549755813888) := Lib.hid hg1.symm
        have HMQ := Lib.hid hmq
        have HG3 := Lib.hid hg3
        clear hg1 hg2 hg3 hmq
        go_wp2_with fail
        refine (find_c HT7.out (i := 0) rfl ⟨nm, ty, cl⟩ 549755813888 _ v.code (lif : Int) true (by omega) hq1 hq2 hq3 hgo (Lib.hid rfl) hleft (Lib.hid rfl)).mono ?_
        rintro e w8 ⟨ua, un, uc, ya, yn, yc, rfl, _, hT8, hcc8⟩
        have HT8 : Hid (Cabs w w8 301 [⟨cb, n, 1, 5, c1⟩]) := Lib.hid (by have := HG3.out; unfold halfT at this; rw [← this]; exact hT8)
        have HX8 := Lib.hid (HX7.out.cchg hcc8)
        have HV8 := Lib.hid (HV7.out.cchg hcc8)
        clear hT8 hcc8 HT7 HX7 HV7 x0c x1c x2c hleft hgo HG3
        go_wp2_with fail
        refine wp_abs ?_
        intro w9 hw9
        have dc9 : Chg [] w8 w9 := by rw [hw9]; first | exact (Chg.refl _ _).alloc _ | exact (((Chg.refl _ _).alloc _).setCell (.inr (by simp)) _)
        have HT9 := Lib.hid (HT8.out.same dc9)
        have HX9 := Lib.hid (HX8.out.same dc9)
        have HV9 := Lib.hid (HV8.out.same dc9)
        clear hw9 dc9 HT8 HX8 HV8
        obtain ⟨f, hf⟩ : ∃ f, f = foldQ ⟨nm, ty, cl⟩ := ⟨_, rfl⟩
        have HF := Lib.hid hf
        clear hf
        have hstart : L1R w w9 cb n mn tl c0 f v (lif : Int) (.slice none 0 0) (.int .i64 0) (.int .i64 0) w9 := by
          refine ⟨0, 0, [], c1, Nat.zero_le _, Nat.zero_le _, rfl, rfl, Nat.le_refl _, HT9.out, R.OwnR.nil _ _ _ _ _, Nat.le_refl _, by simp, fun hb => ?_, CK.refl _⟩
          have := LInv.start (v := v) HN1.out.1 HMQ.out HLI.out hb
          rw [HF.out, HC1.out]
          simpa using this
        have HSTART := Lib.hid hstart
        clear hstart
        go_loopw [22, 23, 24] (fun u p i wr => L1R w w9 cb n mn tl c0 f v (lif : Int) u p i wr) (fun _ _ i _ => mn - (intOf i).toNat)
        case atStart => exact HSTART.out
        case round =>
          clear HSTART
          obtain ⟨j, p, U, c, hjm, hjt, rfl, rfl, hp, hT, hU, hUl, hUq, hL, hK⟩ := hrel
          obtain ⟨ua', uc', rfl⟩ := hU.len
          obtain ⟨un, hun⟩ : ∃ un, un = U.length := ⟨_, rfl⟩
          rw [← hun] at hU hUl ⊢
          have HUN := Lib.hid hun
          clear hun
          have HT := Lib.hid hT
          have HU := Lib.hid (And.intro hU (And.intro hUl hUq))
          have HL1 := Lib.hid hL
          have HK := Lib.hid hK
          have HJ := Lib.hid (And.intro hjm (And.intro hjt hp))
          clear hT hU hUl hUq hL hK
          by_cases hlt1 : j < mn
          · by_cases hlt2 : j < tl
            · obtain ⟨qb, qo, rfl, _, mq, mok⟩ := HM.out.2 j (by rw [← HMN.out]; exact hlt1)
              obtain ⟨⟨qn, qt, qc⟩, hs⟩ : ∃ s, s = more[j]'(by rw [← HMN.out]; exact hlt1) := ⟨_, rfl⟩
              rw [← hs] at mq mok
              have hmk := HT.out.isChg
              have d0 : wr.cell? ⟨qb, qo + j * 3, none⟩ = some (.string qn) := hmk.cell (mq 0 _ rfl) (by simp)
              have d1 : wr.cell? ⟨qb, qo + j * 3 + 1, none⟩ = some (.int .u16 (qt : Nat)) := by rw [Nat.add_assoc]; exact hmk.cell (mq 1 _ rfl) (by simp)
              have d2 : wr.cell? ⟨qb, qo + j * 3 + 2, none⟩ = some (.int .u16 (qc : Nat)) := by rw [Nat.add_assoc]; exact hmk.cell (mq 2 _ rfl) (by simp)
              obtain ⟨tb, to, rfl, _, tcell, twf⟩ := HTK.out.2 j hlt2
              obtain ⟨tk, htk, htk1⟩ : ∃ tk : Nat, ts.getD j 0 = (tk : Int) ∧ tk < 256 := by have := nat_u8 twf; exact ⟨(ts.getD j 0).toNat, by omega, by omega⟩
              rw [htk] at tcell
              have dt := hmk.cell tcell (by simp)
              obtain ⟨p1, hp1⟩ : ∃ p1, p1 = p + tk := ⟨_, rfl⟩
              have sq : w.cell? ⟨qb, qo + j * 3, none⟩ = some (.string qn) ∧ w.cell? ⟨qb, qo + j * 3 + 1, none⟩ = some (.int .u16 (qt : Nat)) ∧ w.cell? ⟨qb, qo + j * 3 + 2, none⟩ = some (.int .u16 (qc : Nat)) := ⟨mq 0 _ rfl, by rw [Nat.add_assoc]; exact mq 1 _ rfl, by rw [Nat.add_assoc]; exact mq 2 _ rfl⟩
              have SQ := Lib.hid sq
              have hadd : (p : Int) + (tk : Int) = (p1 : Int) := by omega
              have hp2 : p1 ≤ 255 * (j + 1) := by have := HJ.out.2.2; omega
              have hp3 : p ≤ p1 := by omega
              have hp4 : p1 ≤ 25500 := by have := HL.out.1; omega
              have HP1 := Lib.hid (And.intro hp2 (And.intro hp3 hp4))
              have HS := Lib.hid hs
              have HMQ2 := Lib.hid mq
              have HMOK := Lib.hid mok
              have hpI : (p1 : Int) ≤ 25500 := by omega
              clear sq hs mq mok hmk htk twf tcell hp1 hp2 hp3
              go_wp2_with fail
              have hfin : ∀ (w' : World) (c' : Cst) (U' : List Qn) (uv : Value) (P : Nat), Cabs w w' P [⟨cb, n, 1, 5, c'⟩] → P ≤ 301 + j + 1 → R.OwnR 24 3 qL w9.heap.size w' uv U' → U'.length ≤ j + 1 → (∀ q ∈ U', OkQ q ∧ q.nm.size ≤ 3000) → (c0.now ≤ halfT → LInv n f v (halfT + (lif : Int)) c' U' (halfT + (p1 : Int))) → CK w9 w' → L1R w w9 cb n mn (tl) c0 f v (lif : Int) uv (.int .i64 (p1 : Nat)) (.int .i64 ((j + 1 : Nat) : Int)) w' :=
                fun w' c' U' uv P h1 h2 h3 h4 h5 h6 h7 => ⟨j + 1, p1, U', c', hlt1, hlt2, rfl, rfl, HP1.out.1, h1.mono (by omega), h3, h4, h5, h6, h7⟩
              have hskip : ∀ (w' : World) (P : Nat), Cabs w w' P [⟨cb, n, 1, 5, c⟩] → P ≤ 301 + j + 1 → CK wr w' → L1R w w9 cb n mn tl c0 f v (lif : Int) (.slice ua' un uc') (.int .i64 (p1 : Nat)) (.int .i64 ((j + 1 : Nat) : Int)) w' :=
                fun w' P h1 h2 h3 => hfin w' c U _ P h1 h2 (h3.ownR HU.out.1 (by decide)) (by have := HU.out.2.1; rw [← HUN.out]; omega) HU.out.2.2 (fun hb => (HL1.out hb).skip (by have := HP1.out.2.1; omega)) (HK.out.trans h3)
              have HFIN := Lib.hid hfin
              have HSKIP := Lib.hid hskip
              clear hfin hskip
              obtain ⟨z0, z1, z2⟩ := (HX9.out.ck HK.out).c3
              simp only at z0 z1 z2
              have hqsz : (qn.size : Int) ≤ 9223372036854775807 := by have := HMOK.out.name; unfold maxLen at this; simp only at this; omega
              by_cases h3000 : 3000 < qn.size
              · have u1 : decide ((3000 : Int) < (qn.size : Int)) = true := by rw [decide_eq_true_eq]; omega
                have u1n : decide (3000 < qn.size) = true := by simpa using h3000
                clear h3000
                go_quiet (fail)
                have HNEW := Lib.hid (HSKIP.out (wr.drewN nq) _ (HT.out.same (Chg.drewN (Chg.refl [] wr) _)) (by omega) (chg_ck (Chg.drewN (Chg.refl [] wr) _)))
                clear HT HSKIP HFIN
                go_wp2
                go_roundw
                case rel => exact HNEW.out
                case measure => simp [intOf] <;> omega
              · have u1 : decide ((3000 : Int) < (qn.size : Int)) = false := by rw [decide_eq_false_iff_not]; omega
                have u1n : decide (3000 < qn.size) = false := by simpa using h3000
                have hq3000 : qn.size ≤ 3000 := by omega
                have hn3 : nm.size ≤ 100000 := by have := (mayB_len HMQ.out).2; rw [size_list] at this; simp only at this; omega
                have S0 : Hid (wr.cell? ⟨qb, qo + j * 3, none⟩ = some (.string qn) ∧ wr.cell? ⟨qb, qo + j * 3 + 1, none⟩ = some (.int .u16 (qt : Nat)) ∧ wr.cell? ⟨qb, qo + j * 3 + 2, none⟩ = some (.int .u16 (qc : Nat)) ∧ wr.cell? ⟨xb, 0, none⟩ = some (.string nm) ∧ wr.cell? ⟨xb, 1, none⟩ = some (.int .u16 (ty : Nat)) ∧ wr.cell? ⟨xb, 2, none⟩ = some (.int .u16 (cl : Nat))) := Lib.hid ⟨d0, d1, d2, z0, z1, z2⟩
                obtain ⟨ev, hevv⟩ : ∃ ev, ev = eqQ ⟨qn, qt, qc⟩ ⟨nm, ty, cl⟩ := ⟨_, rfl⟩
                have HEV := Lib.hid hevv
                clear h3000 hevv d0 d1 d2 z0 z1 z2 dt
                cases ev with
                | true =>
                  refine wp_region_held_drew (S := fun W => W.cell? ⟨qb, qo + j * 3, none⟩ = some (.string qn) ∧ W.cell? ⟨qb, qo + j * 3 + 1, none⟩ = some (.int .u16 (qt : Nat)) ∧ W.cell? ⟨qb, qo + j * 3 + 2, none⟩ = some (.int .u16 (qc : Nat)) ∧ W.cell? ⟨xb, 0, none⟩ = some (.string nm) ∧ W.cell? ⟨xb, 1, none⟩ = some (.int .u16 (ty : Nat)) ∧ W.cell? ⟨xb, 2, none⟩ = some (.int .u16 (cl : Nat))) (by kernel_rfl) (c6_chg S0.out (Chg.refl [] wr).drew) (fun hHeld => ?_)
                  refine takeD (i := 0) (d := some 121) (v := ?_) rfl rfl (by kernel_rfl) (by kernel_rfl) (by kernel_rfl) (fun _ _ _ h => h) (Or.inl ⟨by rfl, ?_⟩) hHeld ?_
                  rotate_left
                  · intro w hSw
                    obtain ⟨s1, s2, s3, s4, s5, s6⟩ := hSw
                    go_simp <;> (with_reducible rfl)
                  try simp only [Act.put, List.setIfInBounds_toArray, List.set_cons_zero, List.set_cons_succ]
                  refine takeD (i := 1) (d := some 122) (v := ?_) rfl rfl (by kernel_rfl) (by kernel_rfl) (by kernel_rfl) (fun _ _ _ h => h) (Or.inl ⟨by rfl, ?_⟩) hHeld ?_
                  rotate_left
                  · intro w hSw
                    obtain ⟨s1, s2, s3, s4, s5, s6⟩ := hSw
                    go_simp <;> (with_reducible rfl)
                  try simp only [Act.put, List.setIfInBounds_toArray, List.set_cons_zero, List.set_cons_succ]
                  refine takeD (i := 2) (d := some 123) (v := ?_) rfl rfl (by kernel_rfl) (by kernel_rfl) (by kernel_rfl) (fun _ _ _ h => h) (Or.inl ⟨by rfl, ?_⟩) hHeld ?_
                  rotate_left
                  · intro w hSw
                    obtain ⟨s1, s2, s3, s4, s5, s6⟩ := hSw
                    go_simp <;> (with_reducible rfl)
                  try simp only [Act.put, List.setIfInBounds_toArray, List.set_cons_zero, List.set_cons_succ]
                  refine takeD (i := 3) (d := some 124) (v := ?_) rfl rfl (by kernel_rfl) (by kernel_rfl) (by kernel_rfl) (fun _ _ _ h => h) (Or.inl ⟨by rfl, ?_⟩) hHeld ?_
                  rotate_left
                  · intro w hSw
                    obtain ⟨s1, s2, s3, s4, s5, s6⟩ := hSw
                    go_simp <;> (with_reducible rfl)
                  try simp only [Act.put, List.setIfInBounds_toArray, List.set_cons_zero, List.set_cons_succ]
                  refine takeD (i := 4) (d := some 125) (v := ?_) rfl rfl (by kernel_rfl) (by kernel_rfl) (by kernel_rfl) (fun _ _ _ h => h) (Or.inl ⟨by rfl, ?_⟩) hHeld ?_
                  rotate_left
                  · intro w hSw
                    obtain ⟨s1, s2, s3, s4, s5, s6⟩ := hSw
                    go_simp <;> (with_reducible rfl)
                  try simp only [Act.put, List.setIfInBounds_toArray, List.set_cons_zero, List.set_cons_succ]
                  refine takeD (i := 5) (d := some 126) (v := ?_) rfl rfl (by kernel_rfl) (by kernel_rfl) (by kernel_rfl) (fun _ _ _ h => h) (Or.inl ⟨by rfl, ?_⟩) hHeld ?_
                  rotate_left
                  · intro w hSw
                    obtain ⟨s1, s2, s3, s4, s5, s6⟩ := hSw
                    go_simp <;> (with_reducible rfl)
                  try simp only [Act.put, List.setIfInBounds_toArray, List.set_cons_zero, List.set_cons_succ]
                  refine takeD (i := 6) (d := some 127) (v := ?_) rfl rfl (by kernel_rfl) (by kernel_rfl) (by kernel_rfl) (fun _ _ _ h => h) (Or.inl ⟨by rfl, ?_⟩) hHeld ?_
                  rotate_left
                  · intro w hSw
                    obtain ⟨s1, s2, s3, s4, s5, s6⟩ := hSw
                    go_simp <;> (with_reducible rfl)
                  try simp only [Act.put, List.setIfInBounds_toArray, List.set_cons_zero, List.set_cons_succ]
                  refine takeD (i := 7) (d := some 128) (v := ?_) rfl rfl (by kernel_rfl) (by kernel_rfl) (by kernel_rfl) (fun _ _ _ h => h) (Or.inl ⟨by rfl, ?_⟩) hHeld ?_
                  rotate_left
                  · intro w hSw
                    obtain ⟨s1, s2, s3, s4, s5, s6⟩ := hSw
                    go_simp <;> (with_reducible rfl)
                  try simp only [Act.put, List.setIfInBounds_toArray, List.set_cons_zero, List.set_cons_succ]
                  refine takeD (i := 8) (d := some 129) (v := ?_) rfl rfl (by kernel_rfl) (by kernel_rfl) (by kernel_rfl) (fun _ _ _ h => h) (Or.inl ⟨by rfl, ?_⟩) hHeld ?_
                  rotate_left
                  · intro w hSw
                    obtain ⟨s1, s2, s3, s4, s5, s6⟩ := hSw
                    go_simp <;> (with_reducible rfl)
                  try simp only [Act.put, List.setIfInBounds_toArray, List.set_cons_zero, List.set_cons_succ]
                  refine takeD (i := 9) (d := some 130) (v := ?_) rfl rfl (by kernel_rfl) (by kernel_rfl) (by kernel_rfl) (fun _ _ _ h => h) (Or.inl ⟨by rfl, ?_⟩) hHeld ?_
                  rotate_left
                  · intro w hSw
                    obtain ⟨s1, s2, s3, s4, s5, s6⟩ := hSw
                    go_simp <;> (with_reducible rfl)
                  try simp only [Act.put, List.setIfInBounds_toArray, List.set_cons_zero, List.set_cons_succ]
                  refine takeD (i := 10) (d := some 131) (v := ?_) rfl rfl (by kernel_rfl) (by kernel_rfl) (by kernel_rfl) (fun _ _ _ h => h) (Or.inl ⟨by rfl, ?_⟩) hHeld ?_
                  rotate_left
                  · intro w hSw
                    obtain ⟨s1, s2, s3, s4, s5, s6⟩ := hSw
                    go_simp <;> (with_reducible rfl)
                  try simp only [Act.put, List.setIfInBounds_toArray, List.set_cons_zero, List.set_cons_succ]
                  refine takeD (i := 11) (d := some 132) (v := ?_) rfl rfl (by kernel_rfl) (by kernel_rfl) (by kernel_rfl) (fun _ _ _ h => h) (Or.inl ⟨by rfl, ?_⟩) hHeld ?_
                  rotate_left
                  · intro w hSw
                    obtain ⟨s1, s2, s3, s4, s5, s6⟩ := hSw
                    go_simp <;> (with_reducible rfl)
                  try simp only [Act.put, List.setIfInBounds_toArray, List.set_cons_zero, List.set_cons_succ]
                  refine takeD (i := 12) (d := some 133) (v := ?_) rfl rfl (by kernel_rfl) (by kernel_rfl) (by kernel_rfl) (fun _ _ _ h => h) (Or.inl ⟨by rfl, ?_⟩) hHeld ?_
                  rotate_left
                  · intro w hSw
                    obtain ⟨s1, s2, s3, s4, s5, s6⟩ := hSw
                    go_simp <;> (with_reducible rfl)
                  try simp only [Act.put, List.setIfInBounds_toArray, List.set_cons_zero, List.set_cons_succ]
                  refine wpAnyH_ready (rs := [13]) (by kernel_rfl) (by simp) ?_
                  refine AllReadyH.cons rfl (fun K hK => ?_) AllReadyH.nil
                  go_simp
                  refine (equal_any ⟨qn, qt, qc⟩ ⟨nm, ty, cl⟩ true wr.drew (Nat.le_trans hq3000 (by decide)) hn3 HEV).mono ?_
                  rintro e9 w10 ⟨rfl, hc10⟩
                  replace hc10 := hc10.undrew
                  have S10 := Lib.hid (c6_chg S0.out hc10)
                  go_wp2_with fail
                  refine hK.out _ _ S10.out (fun hHeld2 => ?_)
                  clear hK K
                  try simp only [Act.put, List.setIfInBounds_toArray, List.set_cons_zero, List.set_cons_succ]
                  refine takeD (i := 14) (d := some 135) (v := ?_) rfl rfl (by kernel_rfl) (by kernel_rfl) (by kernel_rfl) (fun _ _ _ h => h) (Or.inl ⟨by rfl, ?_⟩) hHeld2 ?_
                  rotate_left
                  · intro w hSw
                    obtain ⟨s1, s2, s3, s4, s5, s6⟩ := hSw
                    go_simp <;> (with_reducible rfl)
                  try simp only [Act.put, List.setIfInBounds_toArray, List.set_cons_zero, List.set_cons_succ]
                  refine takeD (i := 15) (d := some 136) (v := ?_) rfl rfl (by kernel_rfl) (by kernel_rfl) (by kernel_rfl) (fun _ _ _ h => h) (Or.inl ⟨by rfl, ?_⟩) hHeld2 ?_
                  rotate_left
                  · intro w hSw
                    obtain ⟨s1, s2, s3, s4, s5, s6⟩ := hSw
                    go_simp <;> (with_reducible rfl)
                  try simp only [Act.put, List.setIfInBounds_toArray, List.set_cons_zero, List.set_cons_succ]
                  refine takeD (i := 16) (d := some 137) (v := undef) rfl rfl (by kernel_rfl) (by kernel_rfl) (by kernel_rfl) (fun _ _ _ h => h) (Or.inr ⟨by rfl, rfl⟩) hHeld2 ?_
                  try simp only [Act.put, List.setIfInBounds_toArray, List.set_cons_zero, List.set_cons_succ]
                  refine takeD (i := 17) (d := some 138) (v := undef) rfl rfl (by kernel_rfl) (by kernel_rfl) (by kernel_rfl) (fun _ _ _ h => h) (Or.inr ⟨by rfl, rfl⟩) hHeld2 ?_
                  try simp only [Act.put, List.setIfInBounds_toArray, List.set_cons_zero, List.set_cons_succ]
                  refine takeD (i := 18) (d := some 139) (v := undef) rfl rfl (by kernel_rfl) (by kernel_rfl) (by kernel_rfl) (fun _ _ _ h => h) (Or.inr ⟨by rfl, rfl⟩) hHeld2 ?_
                  try simp only [Act.put, List.setIfInBounds_toArray, List.set_cons_zero, List.set_cons_succ]
                  refine takeD (i := 19) (d := some 140) (v := undef) rfl rfl (by kernel_rfl) (by kernel_rfl) (by kernel_rfl) (fun _ _ _ h => h) (Or.inr ⟨by rfl, rfl⟩) hHeld2 ?_
                  try simp only [Act.put, List.setIfInBounds_toArray, List.set_cons_zero, List.set_cons_succ]
                  refine takeD (i := 20) (d := some 141) (v := undef) rfl rfl (by kernel_rfl) (by kernel_rfl) (by kernel_rfl) (fun _ _ _ h => h) (Or.inr ⟨by rfl, rfl⟩) hHeld2 ?_
                  try simp only [Act.put, List.setIfInBounds_toArray, List.set_cons_zero, List.set_cons_succ]
                  refine takeD (i := 21) (d := some 142) (v := undef) rfl rfl (by kernel_rfl) (by kernel_rfl) (by kernel_rfl) (fun _ _ _ h => h) (Or.inr ⟨by rfl, rfl⟩) hHeld2 ?_
                  try simp only [Act.put, List.setIfInBounds_toArray, List.set_cons_zero, List.set_cons_succ]
                  refine takeD (i := 22) (d := some 143) (v := undef) rfl rfl (by kernel_rfl) (by kernel_rfl) (by kernel_rfl) (fun _ _ _ h => h) (Or.inr ⟨by rfl, rfl⟩) hHeld2 ?_
                  try simp only [Act.put, List.setIfInBounds_toArray, List.set_cons_zero, List.set_cons_succ]
                  refine takeD (i := 23) (d := some 144) (v := undef) rfl rfl (by kernel_rfl) (by kernel_rfl) (by kernel_rfl) (fun _ _ _ h => h) (Or.inr ⟨by rfl, rfl⟩) hHeld2 ?_
                  try simp only [Act.put, List.setIfInBounds_toArray, List.set_cons_zero, List.set_cons_succ]
                  refine takeD (i := 24) (d := some 145) (v := undef) rfl rfl (by kernel_rfl) (by kernel_rfl) (by kernel_rfl) (fun _ _ _ h => h) (Or.inr ⟨by rfl, rfl⟩) hHeld2 ?_
                  try simp only [Act.put, List.setIfInBounds_toArray, List.set_cons_zero, List.set_cons_succ]
                  refine takeD (i := 25) (d := some 146) (v := undef) rfl rfl (by kernel_rfl) (by kernel_rfl) (by kernel_rfl) (fun _ _ _ h => h) (Or.inr ⟨by rfl, rfl⟩) hHeld2 ?_
                  try simp only [Act.put, List.setIfInBounds_toArray, List.set_cons_zero, List.set_cons_succ]
                  refine takeD (i := 26) (d := some 147) (v := undef) rfl rfl (by kernel_rfl) (by kernel_rfl) (by kernel_rfl) (fun _ _ _ h => h) (Or.inr ⟨by rfl, rfl⟩) hHeld2 ?_
                  try simp only [Act.put, List.setIfInBounds_toArray, List.set_cons_zero, List.set_cons_succ]
                  refine takeD (i := 27) (d := some 148) (v := ?_) rfl rfl (by kernel_rfl) (by kernel_rfl) (by kernel_rfl) (fun _ _ _ h => h) (Or.inl ⟨by rfl, ?_⟩) hHeld2 ?_
                  rotate_left
                  · intro w hSw
                    obtain ⟨s1, s2, s3, s4, s5, s6⟩ := hSw
                    go_simp <;> (with_reducible rfl)
                  try simp only [Act.put, List.setIfInBounds_toArray, List.set_cons_zero, List.set_cons_succ]
                  refine wpAnyH_done (by kernel_rfl) ?_ _
                  try simp only [Act.put, List.setIfInBounds_toArray, List.set_cons_zero, List.set_cons_succ]
                  clear hHeld hHeld2
                  have HNEW := Lib.hid (HSKIP.out w10 _ (HT.out.same hc10) (by omega) (chg_ck hc10))
                  clear hc10 S0 S10 HT HSKIP HFIN
                  go_wp2
                  go_roundw
                  case rel => exact HNEW.out
                  case measure => simp [intOf] <;> omega
                | false =>
                  have hqm : qn.size ≤ maxLen := HMOK.out.name
                  have hqt : qt < 65536 := HMOK.out.ty
                  have hqc : qc < 65536 := HMOK.out.cl
                  obtain ⟨ok, hok⟩ : ∃ ok, ok = okK ⟨qn, qt, qc⟩ 5000 := ⟨_, rfl⟩
                  have hwt : IntKind.i64.wrap (549755813888 + (p1 : Int)) = 549755813888 + (p1 : Int) := by
                    exact IntWalk.i64_in _ (by omega)
                  have HWT := Lib.hid hwt
                  clear hwt
                  cases ok with
                  | false =>
                    have HRK : Hid ((1 : Int) = if okK ⟨qn, qt, qc⟩ 5000 = true then 0 else 1) := Lib.hid (by rw [← hok]; rfl)
                    have HOK := Lib.hid hok
                    clear hok
                    refine wp_region_held_drew (S := fun W => W.cell? ⟨qb, qo + j * 3, none⟩ = some (.string qn) ∧ W.cell? ⟨qb, qo + j * 3 + 1, none⟩ = some (.int .u16 (qt : Nat)) ∧ W.cell? ⟨qb, qo + j * 3 + 2, none⟩ = some (.int .u16 (qc : Nat)) ∧ W.cell? ⟨xb, 0, none⟩ = some (.string nm) ∧ W.cell? ⟨xb, 1, none⟩ = some (.int .u16 (ty : Nat)) ∧ W.cell? ⟨xb, 2, none⟩ = some (.int .u16 (cl : Nat))) (by kernel_rfl) (c6_chg S0.out (Chg.refl [] wr).drew) (fun hHeld => ?_)
                    refine takeD (i := 0) (d := some 121) (v := ?_) rfl rfl (by kernel_rfl) (by kernel_rfl) (by kernel_rfl) (fun _ _ _ h => h) (Or.inl ⟨by rfl, ?_⟩) hHeld ?_
                    rotate_left
                    · intro w hSw
                      obtain ⟨s1, s2, s3, s4, s5, s6⟩ := hSw
                      go_simp <;> (with_reducible rfl)
                    try simp only [Act.put, List.setIfInBounds_toArray, List.set_cons_zero, List.set_cons_succ]
                    refine takeD (i := 1) (d := some 122) (v := ?_) rfl rfl (by kernel_rfl) (by kernel_rfl) (by kernel_rfl) (fun _ _ _ h => h) (Or.inl ⟨by rfl, ?_⟩) hHeld ?_
                    rotate_left
                    · intro w hSw
                      obtain ⟨s1, s2, s3, s4, s5, s6⟩ := hSw
                      go_simp <;> (with_reducible rfl)
                    try simp only [Act.put, List.setIfInBounds_toArray, List.set_cons_zero, List.set_cons_succ]
                    refine takeD (i := 2) (d := some 123) (v := ?_) rfl rfl (by kernel_rfl) (by kernel_rfl) (by kernel_rfl) (fun _ _ _ h => h) (Or.inl ⟨by rfl, ?_⟩) hHeld ?_
                    rotate_left
                    · intro w hSw
                      obtain ⟨s1, s2, s3, s4, s5, s6⟩ := hSw
                      go_simp <;> (with_reducible rfl)
                    try simp only [Act.put, List.setIfInBounds_toArray, List.set_cons_zero, List.set_cons_succ]
                    refine takeD (i := 3) (d := some 124) (v := ?_) rfl rfl (by kernel_rfl) (by kernel_rfl) (by kernel_rfl) (fun _ _ _ h => h) (Or.inl ⟨by rfl, ?_⟩) hHeld ?_
                    rotate_left
                    · intro w hSw
                      obtain ⟨s1, s2, s3, s4, s5, s6⟩ := hSw
                      go_simp <;> (with_reducible rfl)
                    try simp only [Act.put, List.setIfInBounds_toArray, List.set_cons_zero, List.set_cons_succ]
                    refine takeD (i := 4) (d := some 125) (v := ?_) rfl rfl (by kernel_rfl) (by kernel_rfl) (by kernel_rfl) (fun _ _ _ h => h) (Or.inl ⟨by rfl, ?_⟩) hHeld ?_
                    rotate_left
                    · intro w hSw
                      obtain ⟨s1, s2, s3, s4, s5, s6⟩ := hSw
                      go_simp <;> (with_reducible rfl)
                    try simp only [Act.put, List.setIfInBounds_toArray, List.set_cons_zero, List.set_cons_succ]
                    refine takeD (i := 5) (d := some 126) (v := ?_) rfl rfl (by kernel_rfl) (by kernel_rfl) (by kernel_rfl) (fun _ _ _ h => h) (Or.inl ⟨by rfl, ?_⟩) hHeld ?_
                    rotate_left
                    · intro w hSw
                      obtain ⟨s1, s2, s3, s4, s5, s6⟩ := hSw
                      go_simp <;> (with_reducible rfl)
                    try simp only [Act.put, List.setIfInBounds_toArray, List.set_cons_zero, List.set_cons_succ]
                    refine takeD (i := 6) (d := some 127) (v := ?_) rfl rfl (by kernel_rfl) (by kernel_rfl) (by kernel_rfl) (fun _ _ _ h => h) (Or.inl ⟨by rfl, ?_⟩) hHeld ?_
                    rotate_left
                    · intro w hSw
                      obtain ⟨s1, s2, s3, s4, s5, s6⟩ := hSw
                      go_simp <;> (with_reducible rfl)
                    try simp only [Act.put, List.setIfInBounds_toArray, List.set_cons_zero, List.set_cons_succ]
                    refine takeD (i := 7) (d := some 128) (v := ?_) rfl rfl (by kernel_rfl) (by kernel_rfl) (by kernel_rfl) (fun _ _ _ h => h) (Or.inl ⟨by rfl, ?_⟩) hHeld ?_
                    rotate_left
                    · intro w hSw
                      obtain ⟨s1, s2, s3, s4, s5, s6⟩ := hSw
                      go_simp <;> (with_reducible rfl)
                    try simp only [Act.put, List.setIfInBounds_toArray, List.set_cons_zero, List.set_cons_succ]
                    refine takeD (i := 8) (d := some 129) (v := ?_) rfl rfl (by kernel_rfl) (by kernel_rfl) (by kernel_rfl) (fun _ _ _ h => h) (Or.inl ⟨by rfl, ?_⟩) hHeld ?_
                    rotate_left
                    · intro w hSw
                      obtain ⟨s1, s2, s3, s4, s5, s6⟩ := hSw
                      go_simp <;> (with_reducible rfl)
                    try simp only [Act.put, List.setIfInBounds_toArray, List.set_cons_zero, List.set_cons_succ]
                    refine takeD (i := 9) (d := some 130) (v := ?_) rfl rfl (by kernel_rfl) (by kernel_rfl) (by kernel_rfl) (fun _ _ _ h => h) (Or.inl ⟨by rfl, ?_⟩) hHeld ?_
                    rotate_left
                    · intro w hSw
                      obtain ⟨s1, s2, s3, s4, s5, s6⟩ := hSw
                      go_simp <;> (with_reducible rfl)
                    try simp only [Act.put, List.setIfInBounds_toArray, List.set_cons_zero, List.set_cons_succ]
                    refine takeD (i := 10) (d := some 131) (v := ?_) rfl rfl (by kernel_rfl) (by kernel_rfl) (by kernel_rfl) (fun _ _ _ h => h) (Or.inl ⟨by rfl, ?_⟩) hHeld ?_
                    rotate_left
                    · intro w hSw
                      obtain ⟨s1, s2, s3, s4, s5, s6⟩ := hSw
                      go_simp <;> (with_reducible rfl)
                    try simp only [Act.put, List.setIfInBounds_toArray, List.set_cons_zero, List.set_cons_succ]
                    refine takeD (i := 11) (d := some 132) (v := ?_) rfl rfl (by kernel_rfl) (by kernel_rfl) (by kernel_rfl) (fun _ _ _ h => h) (Or.inl ⟨by rfl, ?_⟩) hHeld ?_
                    rotate_left
                    · intro w hSw
                      obtain ⟨s1, s2, s3, s4, s5, s6⟩ := hSw
                      go_simp <;> (with_reducible rfl)
                    try simp only [Act.put, List.setIfInBounds_toArray, List.set_cons_zero, List.set_cons_succ]
                    refine takeD (i := 12) (d := some 133) (v := ?_) rfl rfl (by kernel_rfl) (by kernel_rfl) (by kernel_rfl) (fun _ _ _ h => h) (Or.inl ⟨by rfl, ?_⟩) hHeld ?_
                    rotate_left
                    · intro w hSw
                      obtain ⟨s1, s2, s3, s4, s5, s6⟩ := hSw
                      go_simp <;> (with_reducible rfl)
                    try simp only [Act.put, List.setIfInBounds_toArray, List.set_cons_zero, List.set_cons_succ]
                    refine wpAnyH_ready (rs := [13]) (by kernel_rfl) (by simp) ?_
                    refine AllReadyH.cons rfl (fun K hK => ?_) AllReadyH.nil
                    go_simp
                    refine (equal_any ⟨qn, qt, qc⟩ ⟨nm, ty, cl⟩ false wr.drew (Nat.le_trans hq3000 (by decide)) hn3 HEV).mono ?_
                    rintro e9 w10 ⟨rfl, hc10⟩
                    replace hc10 := hc10.undrew
                    have S10 := Lib.hid (c6_chg S0.out hc10)
                    go_wp2_with fail
                    refine hK.out _ _ S10.out (fun hHeld2 => ?_)
                    clear hK K
                    try simp only [Act.put, List.setIfInBounds_toArray, List.set_cons_zero, List.set_cons_succ]
                    refine takeD (i := 14) (d := some 135) (v := ?_) rfl rfl (by kernel_rfl) (by kernel_rfl) (by kernel_rfl) (fun _ _ _ h => h) (Or.inl ⟨by rfl, ?_⟩) hHeld2 ?_
                    rotate_left
                    · intro w hSw
                      obtain ⟨s1, s2, s3, s4, s5, s6⟩ := hSw
                      go_simp <;> (with_reducible rfl)
                    try simp only [Act.put, List.setIfInBounds_toArray, List.set_cons_zero, List.set_cons_succ]
                    refine takeD (i := 15) (d := some 136) (v := ?_) rfl rfl (by kernel_rfl) (by kernel_rfl) (by kernel_rfl) (fun _ _ _ h => h) (Or.inl ⟨by rfl, ?_⟩) hHeld2 ?_
                    rotate_left
                    · intro w hSw
                      obtain ⟨s1, s2, s3, s4, s5, s6⟩ := hSw
                      go_simp <;> (with_reducible rfl)
                    try simp only [Act.put, List.setIfInBounds_toArray, List.set_cons_zero, List.set_cons_succ]
                    refine takeD (i := 16) (d := some 137) (v := ?_) rfl rfl (by kernel_rfl) (by kernel_rfl) (by kernel_rfl) (fun _ _ _ h => h) (Or.inl ⟨by rfl, ?_⟩) hHeld2 ?_
                    rotate_left
                    · intro w hSw
                      obtain ⟨s1, s2, s3, s4, s5, s6⟩ := hSw
                      go_simp <;> (with_reducible rfl)
                    try simp only [Act.put, List.setIfInBounds_toArray, List.set_cons_zero, List.set_cons_succ]
                    refine takeD (i := 17) (d := some 138) (v := ?_) rfl rfl (by kernel_rfl) (by kernel_rfl) (by kernel_rfl) (fun _ _ _ h => h) (Or.inl ⟨by rfl, ?_⟩) hHeld2 ?_
                    rotate_left
                    · intro w hSw
                      obtain ⟨s1, s2, s3, s4, s5, s6⟩ := hSw
                      go_simp <;> (with_reducible rfl)
                    try simp only [Act.put, List.setIfInBounds_toArray, List.set_cons_zero, List.set_cons_succ]
                    refine takeD (i := 18) (d := some 139) (v := ?_) rfl rfl (by kernel_rfl) (by kernel_rfl) (by kernel_rfl) (fun _ _ _ h => h) (Or.inl ⟨by rfl, ?_⟩) hHeld2 ?_
                    rotate_left
                    · intro w hSw
                      obtain ⟨s1, s2, s3, s4, s5, s6⟩ := hSw
                      go_simp <;> (with_reducible rfl)
                    try simp only [Act.put, List.setIfInBounds_toArray, List.set_cons_zero, List.set_cons_succ]
                    refine takeD (i := 19) (d := some 140) (v := ?_) rfl rfl (by kernel_rfl) (by kernel_rfl) (by kernel_rfl) (fun _ _ _ h => h) (Or.inl ⟨by rfl, ?_⟩) hHeld2 ?_
                    rotate_left
                    · intro w hSw
                      obtain ⟨s1, s2, s3, s4, s5, s6⟩ := hSw
                      go_simp <;> (with_reducible rfl)
                    try simp only [Act.put, List.setIfInBounds_toArray, List.set_cons_zero, List.set_cons_succ]
                    refine takeD (i := 20) (d := some 141) (v := ?_) rfl rfl (by kernel_rfl) (by kernel_rfl) (by kernel_rfl) (fun _ _ _ h => h) (Or.inl ⟨by rfl, ?_⟩) hHeld2 ?_
                    rotate_left
                    · intro w hSw
                      obtain ⟨s1, s2, s3, s4, s5, s6⟩ := hSw
                      go_simp <;> (with_reducible rfl)
                    try simp only [Act.put, List.setIfInBounds_toArray, List.set_cons_zero, List.set_cons_succ]
                    refine takeD (i := 22) (d := some 143) (v := ?_) rfl rfl (by kernel_rfl) (by kernel_rfl) (by kernel_rfl) (fun _ _ _ h => h) (Or.inl ⟨by rfl, ?_⟩) hHeld2 ?_
                    rotate_left
                    · intro w hSw
                      obtain ⟨s1, s2, s3, s4, s5, s6⟩ := hSw
                      go_simp <;> (with_reducible rfl)
                    try simp only [Act.put, List.setIfInBounds_toArray, List.set_cons_zero, List.set_cons_succ]
                    refine takeD (i := 23) (d := some 144) (v := ?_) rfl rfl (by kernel_rfl) (by kernel_rfl) (by kernel_rfl) (fun _ _ _ h => h) (Or.inl ⟨by rfl, ?_⟩) hHeld2 ?_
                    rotate_left
                    · intro w hSw
                      obtain ⟨s1, s2, s3, s4, s5, s6⟩ := hSw
                      go_simp <;> (with_reducible rfl)
                    try simp only [Act.put, List.setIfInBounds_toArray, List.set_cons_zero, List.set_cons_succ]
                    refine takeD (i := 24) (d := some 145) (v := ?_) rfl rfl (by kernel_rfl) (by kernel_rfl) (by kernel_rfl) (fun _ _ _ h => h) (Or.inl ⟨by rfl, ?_⟩) hHeld2 ?_
                    rotate_left
                    · intro w hSw
                      obtain ⟨s1, s2, s3, s4, s5, s6⟩ := hSw
                      go_simp <;> (with_reducible rfl)
                    try simp only [Act.put, List.setIfInBounds_toArray, List.set_cons_zero, List.set_cons_succ]
                    refine wpAnyH_ready (rs := [21]) (by kernel_rfl) (by simp) ?_
                    refine AllReadyH.cons rfl (fun K hK => ?_) AllReadyH.nil
                    go_simp
                    refine (says_any 4 w10 (by omega)).mono ?_
                    rintro e9 w11 ⟨ssa, ssoa, rfl, hs11, hc11⟩
                    have S11 := Lib.hid (c6_chg S10.out hc11)
                    have HS11 := Lib.hid (hs11.low (Nat.zero_le _))
                    have HT11 := Lib.hid (HT.out.same (hc10.trans hc11))
                    go_wp2_with fail
                    refine hK.out _ _ S11.out (fun hHeld3 => ?_)
                    clear hK K hs11
                    try simp only [Act.put, List.setIfInBounds_toArray, List.set_cons_zero, List.set_cons_succ]
                    refine wpAnyH_ready (rs := [25]) (by kernel_rfl) (by simp) ?_
                    refine AllReadyH.cons rfl (fun K hK => ?_) AllReadyH.nil
                    go_simp
                    rw [HWT.out]
                    refine (keep_c HT11.out (i := 0) rfl ⟨qn, qt, qc⟩ 4 ssa ssoa 1 1 0 0 (saysV 4) 5000 (549755813888 + (p1 : Int)) (by have := HL.out.1; omega) hqm hqt hqc (by omega) (.inr HS11.out) 1 HRK).mono ?_
                    rintro e9 w12 ⟨rfl, hT12, hcc12⟩
                    have HC12 := Lib.hid ((chg_ck (hc10.trans hc11)).trans hcc12.ck)
                    have z12 := (HX9.out.ck (HK.out.trans HC12.out)).c3
                    simp only at z12
                    have S12 : Hid (w12.cell? ⟨qb, qo + j * 3, none⟩ = some (.string qn) ∧ w12.cell? ⟨qb, qo + j * 3 + 1, none⟩ = some (.int .u16 (qt : Nat)) ∧ w12.cell? ⟨qb, qo + j * 3 + 2, none⟩ = some (.int .u16 (qc : Nat)) ∧ w12.cell? ⟨xb, 0, none⟩ = some (.string nm) ∧ w12.cell? ⟨xb, 1, none⟩ = some (.int .u16 (ty : Nat)) ∧ w12.cell? ⟨xb, 2, none⟩ = some (.int .u16 (cl : Nat))) := Lib.hid ⟨hT12.isChg.cell SQ.out.1 (by simp), hT12.isChg.cell SQ.out.2.1 (by simp), hT12.isChg.cell SQ.out.2.2 (by simp), z12.1, z12.2.1, z12.2.2⟩
                    clear z12
                    go_wp2_with fail
                    refine hK.out _ _ S12.out (fun hHeld4 => ?_)
                    clear hK K
                    try simp only [Act.put, List.setIfInBounds_toArray, List.set_cons_zero, List.set_cons_succ]
                    refine takeD (i := 26) (d := some 147) (v := ?_) rfl rfl (by kernel_rfl) (by kernel_rfl) (by kernel_rfl) (fun _ _ _ h => h) (Or.inl ⟨by rfl, ?_⟩) hHeld4 ?_
                    rotate_left
                    · intro w hSw
                      obtain ⟨s1, s2, s3, s4, s5, s6⟩ := hSw
                      go_simp <;> (with_reducible rfl)
                    try simp only [Act.put, List.setIfInBounds_toArray, List.set_cons_zero, List.set_cons_succ]
                    refine takeD (i := 27) (d := some 148) (v := ?_) rfl rfl (by kernel_rfl) (by kernel_rfl) (by kernel_rfl) (fun _ _ _ h => h) (Or.inl ⟨by rfl, ?_⟩) hHeld4 ?_
                    rotate_left
                    · intro w hSw
                      obtain ⟨s1, s2, s3, s4, s5, s6⟩ := hSw
                      go_simp <;> (with_reducible rfl)
                    try simp only [Act.put, List.setIfInBounds_toArray, List.set_cons_zero, List.set_cons_succ]
                    refine wpAnyH_done (by kernel_rfl) ?_ _
                    try simp only [Act.put, List.setIfInBounds_toArray, List.set_cons_zero, List.set_cons_succ]
                    clear hHeld hHeld2 hHeld3 hHeld4
                    have hkc : keepC n c ⟨qn, qt, qc⟩ (saysV 4) 5000 (549755813888 + (p1 : Int)) = c := by unfold keepC; rw [if_neg (by rw [← HOK.out]; decide)]
                    have hT12' : Cabs w w12 (301 + j + 1) [⟨cb, n, 1, 5, c⟩] := by have := hT12; simp only [List.set_cons_zero, Chn.put] at this; rw [hkc] at this; exact this
                    have HNEW := Lib.hid (HSKIP.out w12 _ hT12' (by omega) HC12.out)
                    clear hkc hT12 hT12' hcc12 hc10 hc11 S0 S10 S11 S12 HT HT11 HS11 HC12 HSKIP HFIN
                    go_wp2
                    go_roundw
                    case rel => exact HNEW.out
                    case measure => simp [intOf] <;> omega
                  | true =>
                    have HRK : Hid ((0 : Int) = if okK ⟨qn, qt, qc⟩ 5000 = true then 0 else 1) := Lib.hid (by rw [← hok]; rfl)
                    have HOK := Lib.hid hok
                    clear hok
                    refine wp_region_held_drew (S := fun W => W.cell? ⟨qb, qo + j * 3, none⟩ = some (.string qn) ∧ W.cell? ⟨qb, qo + j * 3 + 1, none⟩ = some (.int .u16 (qt : Nat)) ∧ W.cell? ⟨qb, qo + j * 3 + 2, none⟩ = some (.int .u16 (qc : Nat)) ∧ W.cell? ⟨xb, 0, none⟩ = some (.string nm) ∧ W.cell? ⟨xb, 1, none⟩ = some (.int .u16 (ty : Nat)) ∧ W.cell? ⟨xb, 2, none⟩ = some (.int .u16 (cl : Nat))) (by kernel_rfl) (c6_chg S0.out (Chg.refl [] wr).drew) (fun hHeld => ?_)
                    refine takeD (i := 0) (d := some 121) (v := ?_) rfl rfl (by kernel_rfl) (by kernel_rfl) (by kernel_rfl) (fun _ _ _ h => h) (Or.inl ⟨by rfl, ?_⟩) hHeld ?_
                    rotate_left
                    · intro w hSw
                      obtain ⟨s1, s2, s3, s4, s5, s6⟩ := hSw
                      go_simp <;> (with_reducible rfl)
                    try simp only [Act.put, List.setIfInBounds_toArray, List.set_cons_zero, List.set_cons_succ]
                    refine takeD (i := 1) (d := some 122) (v := ?_) rfl rfl (by kernel_rfl) (by kernel_rfl) (by kernel_rfl) (fun _ _ _ h => h) (Or.inl ⟨by rfl, ?_⟩) hHeld ?_
                    rotate_left
                    · intro w hSw
                      obtain ⟨s1, s2, s3, s4, s5, s6⟩ := hSw
                      go_simp <;> (with_reducible rfl)
                    try simp only [Act.put, List.setIfInBounds_toArray, List.set_cons_zero, List.set_cons_succ]
                    refine takeD (i := 2) (d := some 123) (v := ?_) rfl rfl (by kernel_rfl) (by kernel_rfl) (by kernel_rfl) (fun _ _ _ h => h) (Or.inl ⟨by rfl, ?_⟩) hHeld ?_
                    rotate_left
                    · intro w hSw
                      obtain ⟨s1, s2, s3, s4, s5, s6⟩ := hSw
                      go_simp <;> (with_reducible rfl)
                    try simp only [Act.put, List.setIfInBounds_toArray, List.set_cons_zero, List.set_cons_succ]
                    refine takeD (i := 3) (d := some 124) (v := ?_) rfl rfl (by kernel_rfl) (by kernel_rfl) (by kernel_rfl) (fun _ _ _ h => h) (Or.inl ⟨by rfl, ?_⟩) hHeld ?_
                    rotate_left
                    · intro w hSw
                      obtain ⟨s1, s2, s3, s4, s5, s6⟩ := hSw
                      go_simp <;> (with_reducible rfl)
                    try simp only [Act.put, List.setIfInBounds_toArray, List.set_cons_zero, List.set_cons_succ]
                    refine takeD (i := 4) (d := some 125) (v := ?_) rfl rfl (by kernel_rfl) (by kernel_rfl) (by kernel_rfl) (fun _ _ _ h => h) (Or.inl ⟨by rfl, ?_⟩) hHeld ?_
                    rotate_left
                    · intro w hSw
                      obtain ⟨s1, s2, s3, s4, s5, s6⟩ := hSw
                      go_simp <;> (with_reducible rfl)
                    try simp only [Act.put, List.setIfInBounds_toArray, List.set_cons_zero, List.set_cons_succ]
                    refine takeD (i := 5) (d := some 126) (v := ?_) rfl rfl (by kernel_rfl) (by kernel_rfl) (by kernel_rfl) (fun _ _ _ h => h) (Or.inl ⟨by rfl, ?_⟩) hHeld ?_
                    rotate_left
                    · intro w hSw
                      obtain ⟨s1, s2, s3, s4, s5, s6⟩ := hSw
                      go_simp <;> (with_reducible rfl)
                    try simp only [Act.put, List.setIfInBounds_toArray, List.set_cons_zero, List.set_cons_succ]
                    refine takeD (i := 6) (d := some 127) (v := ?_) rfl rfl (by kernel_rfl) (by kernel_rfl) (by kernel_rfl) (fun _ _ _ h => h) (Or.inl ⟨by rfl, ?_⟩) hHeld ?_
                    rotate_left
                    · intro w hSw
                      obtain ⟨s1, s2, s3, s4, s5, s6⟩ := hSw
                      go_simp <;> (with_reducible rfl)
                    try simp only [Act.put, List.setIfInBounds_toArray, List.set_cons_zero, List.set_cons_succ]
                    refine takeD (i := 7) (d := some 128) (v := ?_) rfl rfl (by kernel_rfl) (by kernel_rfl) (by kernel_rfl) (fun _ _ _ h => h) (Or.inl ⟨by rfl, ?_⟩) hHeld ?_
                    rotate_left
                    · intro w hSw
                      obtain ⟨s1, s2, s3, s4, s5, s6⟩ := hSw
                      go_simp <;> (with_reducible rfl)
                    try simp only [Act.put, List.setIfInBounds_toArray, List.set_cons_zero, List.set_cons_succ]
                    refine takeD (i := 8) (d := some 129) (v := ?_) rfl rfl (by kernel_rfl) (by kernel_rfl) (by kernel_rfl) (fun _ _ _ h => h) (Or.inl ⟨by rfl, ?_⟩) hHeld ?_
                    rotate_left
                    · intro w hSw
                      obtain ⟨s1, s2, s3, s4, s5, s6⟩ := hSw
                      go_simp <;> (with_reducible rfl)
                    try simp only [Act.put, List.setIfInBounds_toArray, List.set_cons_zero, List.set_cons_succ]
                    refine takeD (i := 9) (d := some 130) (v := ?_) rfl rfl (by kernel_rfl) (by kernel_rfl) (by kernel_rfl) (fun _ _ _ h => h) (Or.inl ⟨by rfl, ?_⟩) hHeld ?_
                    rotate_left
                    · intro w hSw
                      obtain ⟨s1, s2, s3, s4, s5, s6⟩ := hSw
                      go_simp <;> (with_reducible rfl)
                    try simp only [Act.put, List.setIfInBounds_toArray, List.set_cons_zero, List.set_cons_succ]
                    refine takeD (i := 10) (d := some 131) (v := ?_) rfl rfl (by kernel_rfl) (by kernel_rfl) (by kernel_rfl) (fun _ _ _ h => h) (Or.inl ⟨by rfl, ?_⟩) hHeld ?_
                    rotate_left
                    · intro w hSw
                      obtain ⟨s1, s2, s3, s4, s5, s6⟩ := hSw
                      go_simp <;> (with_reducible rfl)
                    try simp only [Act.put, List.setIfInBounds_toArray, List.set_cons_zero, List.set_cons_succ]
                    refine takeD (i := 11) (d := some 132) (v := ?_) rfl rfl (by kernel_rfl) (by kernel_rfl) (by kernel_rfl) (fun _ _ _ h => h) (Or.inl ⟨by rfl, ?_⟩) hHeld ?_
                    rotate_left
                    · intro w hSw
                      obtain ⟨s1, s2, s3, s4, s5, s6⟩ := hSw
                      go_simp <;> (with_reducible rfl)
                    try simp only [Act.put, List.setIfInBounds_toArray, List.set_cons_zero, List.set_cons_succ]
                    refine takeD (i := 12) (d := some 133) (v := ?_) rfl rfl (by kernel_rfl) (by kernel_rfl) (by kernel_rfl) (fun _ _ _ h => h) (Or.inl ⟨by rfl, ?_⟩) hHeld ?_
                    rotate_left
                    · intro w hSw
                      obtain ⟨s1, s2, s3, s4, s5, s6⟩ := hSw
                      go_simp <;> (with_reducible rfl)
                    try simp only [Act.put, List.setIfInBounds_toArray, List.set_cons_zero, List.set_cons_succ]
                    refine wpAnyH_ready (rs := [13]) (by kernel_rfl) (by simp) ?_
                    refine AllReadyH.cons rfl (fun K hK => ?_) AllReadyH.nil
                    go_simp
                    refine (equal_any ⟨qn, qt, qc⟩ ⟨nm, ty, cl⟩ false wr.drew (Nat.le_trans hq3000 (by decide)) hn3 HEV).mono ?_
                    rintro e9 w10 ⟨rfl, hc10⟩
                    replace hc10 := hc10.undrew
                    have S10 := Lib.hid (c6_chg S0.out hc10)
                    go_wp2_with fail
                    refine hK.out _ _ S10.out (fun hHeld2 => ?_)
                    clear hK K
                    try simp only [Act.put, List.setIfInBounds_toArray, List.set_cons_zero, List.set_cons_succ]
                    refine takeD (i := 14) (d := some 135) (v := ?_) rfl rfl (by kernel_rfl) (by kernel_rfl) (by kernel_rfl) (fun _ _ _ h => h) (Or.inl ⟨by rfl, ?_⟩) hHeld2 ?_
                    rotate_left
                    · intro w hSw
                      obtain ⟨s1, s2, s3, s4, s5, s6⟩ := hSw
                      go_simp <;> (with_reducible rfl)
                    try simp only [Act.put, List.setIfInBounds_toArray, List.set_cons_zero, List.set_cons_succ]
                    refine takeD (i := 15) (d := some 136) (v := ?_) rfl rfl (by kernel_rfl) (by kernel_rfl) (by kernel_rfl) (fun _ _ _ h => h) (Or.inl ⟨by rfl, ?_⟩) hHeld2 ?_
                    rotate_left
                    · intro w hSw
                      obtain ⟨s1, s2, s3, s4, s5, s6⟩ := hSw
                      go_simp <;> (with_reducible rfl)
                    try simp only [Act.put, List.setIfInBounds_toArray, List.set_cons_zero, List.set_cons_succ]
                    refine takeD (i := 16) (d := some 137) (v := ?_) rfl rfl (by kernel_rfl) (by kernel_rfl) (by kernel_rfl) (fun _ _ _ h => h) (Or.inl ⟨by rfl, ?_⟩) hHeld2 ?_
                    rotate_left
                    · intro w hSw
                      obtain ⟨s1, s2, s3, s4, s5, s6⟩ := hSw
                      go_simp <;> (with_reducible rfl)
                    try simp only [Act.put, List.setIfInBounds_toArray, List.set_cons_zero, List.set_cons_succ]
                    refine takeD (i := 17) (d := some 138) (v := ?_) rfl rfl (by kernel_rfl) (by kernel_rfl) (by kernel_rfl) (fun _ _ _ h => h) (Or.inl ⟨by rfl, ?_⟩) hHeld2 ?_
                    rotate_left
                    · intro w hSw
                      obtain ⟨s1, s2, s3, s4, s5, s6⟩ := hSw
                      go_simp <;> (with_reducible rfl)
                    try simp only [Act.put, List.setIfInBounds_toArray, List.set_cons_zero, List.set_cons_succ]
                    refine takeD (i := 18) (d := some 139) (v := ?_) rfl rfl (by kernel_rfl) (by kernel_rfl) (by kernel_rfl) (fun _ _ _ h => h) (Or.inl ⟨by rfl, ?_⟩) hHeld2 ?_
                    rotate_left
                    · intro w hSw
                      obtain ⟨s1, s2, s3, s4, s5, s6⟩ := hSw
                      go_simp <;> (with_reducible rfl)
                    try simp only [Act.put, List.setIfInBounds_toArray, List.set_cons_zero, List.set_cons_succ]
                    refine takeD (i := 19) (d := some 140) (v := ?_) rfl rfl (by kernel_rfl) (by kernel_rfl) (by kernel_rfl) (fun _ _ _ h => h) (Or.inl ⟨by rfl, ?_⟩) hHeld2 ?_
                    rotate_left
                    · intro w hSw
                      obtain ⟨s1, s2, s3, s4, s5, s6⟩ := hSw
                      go_simp <;> (with_reducible rfl)
                    try simp only [Act.put, List.setIfInBounds_toArray, List.set_cons_zero, List.set_cons_succ]
                    refine takeD (i := 20) (d := some 141) (v := ?_) rfl rfl (by kernel_rfl) (by kernel_rfl) (by kernel_rfl) (fun _ _ _ h => h) (Or.inl ⟨by rfl, ?_⟩) hHeld2 ?_
                    rotate_left
                    · intro w hSw
                      obtain ⟨s1, s2, s3, s4, s5, s6⟩ := hSw
                      go_simp <;> (with_reducible rfl)
                    try simp only [Act.put, List.setIfInBounds_toArray, List.set_cons_zero, List.set_cons_succ]
                    refine takeD (i := 22) (d := some 143) (v := ?_) rfl rfl (by kernel_rfl) (by kernel_rfl) (by kernel_rfl) (fun _ _ _ h => h) (Or.inl ⟨by rfl, ?_⟩) hHeld2 ?_
                    rotate_left
                    · intro w hSw
                      obtain ⟨s1, s2, s3, s4, s5, s6⟩ := hSw
                      go_simp <;> (with_reducible rfl)
                    try simp only [Act.put, List.setIfInBounds_toArray, List.set_cons_zero, List.set_cons_succ]
                    refine takeD (i := 23) (d := some 144) (v := ?_) rfl rfl (by kernel_rfl) (by kernel_rfl) (by kernel_rfl) (fun _ _ _ h => h) (Or.inl ⟨by rfl, ?_⟩) hHeld2 ?_
                    rotate_left
                    · intro w hSw
                      obtain ⟨s1, s2, s3, s4, s5, s6⟩ := hSw
                      go_simp <;> (with_reducible rfl)
                    try simp only [Act.put, List.setIfInBounds_toArray, List.set_cons_zero, List.set_cons_succ]
                    refine takeD (i := 24) (d := some 145) (v := ?_) rfl rfl (by kernel_rfl) (by kernel_rfl) (by kernel_rfl) (fun _ _ _ h => h) (Or.inl ⟨by rfl, ?_⟩) hHeld2 ?_
                    rotate_left
                    · intro w hSw
                      obtain ⟨s1, s2, s3, s4, s5, s6⟩ := hSw
                      go_simp <;> (with_reducible rfl)
                    try simp only [Act.put, List.setIfInBounds_toArray, List.set_cons_zero, List.set_cons_succ]
                    refine wpAnyH_ready (rs := [21]) (by kernel_rfl) (by simp) ?_
                    refine AllReadyH.cons rfl (fun K hK => ?_) AllReadyH.nil
                    go_simp
                    refine (says_any 4 w10 (by omega)).mono ?_
                    rintro e9 w11 ⟨ssa, ssoa, rfl, hs11, hc11⟩
                    have S11 := Lib.hid (c6_chg S10.out hc11)
                    have HS11 := Lib.hid (hs11.low (Nat.zero_le _))
                    have HT11 := Lib.hid (HT.out.same (hc10.trans hc11))
                    go_wp2_with fail
                    refine hK.out _ _ S11.out (fun hHeld3 => ?_)
                    clear hK K hs11
                    try simp only [Act.put, List.setIfInBounds_toArray, List.set_cons_zero, List.set_cons_succ]
                    refine wpAnyH_ready (rs := [25]) (by kernel_rfl) (by simp) ?_
                    refine AllReadyH.cons rfl (fun K hK => ?_) AllReadyH.nil
                    go_simp
                    rw [HWT.out]
                    refine (keep_c HT11.out (i := 0) rfl ⟨qn, qt, qc⟩ 4 ssa ssoa 1 1 0 0 (saysV 4) 5000 (549755813888 + (p1 : Int)) (by have := HL.out.1; omega) hqm hqt hqc (by omega) (.inr HS11.out) 0 HRK).mono ?_
                    rintro e9 w12 ⟨rfl, hT12, hcc12⟩
                    have HC12 := Lib.hid ((chg_ck (hc10.trans hc11)).trans hcc12.ck)
                    have z12 := (HX9.out.ck (HK.out.trans HC12.out)).c3
                    simp only at z12
                    have S12 : Hid (w12.cell? ⟨qb, qo + j * 3, none⟩ = some (.string qn) ∧ w12.cell? ⟨qb, qo + j * 3 + 1, none⟩ = some (.int .u16 (qt : Nat)) ∧ w12.cell? ⟨qb, qo + j * 3 + 2, none⟩ = some (.int .u16 (qc : Nat)) ∧ w12.cell? ⟨xb, 0, none⟩ = some (.string nm) ∧ w12.cell? ⟨xb, 1, none⟩ = some (.int .u16 (ty : Nat)) ∧ w12.cell? ⟨xb, 2, none⟩ = some (.int .u16 (cl : Nat))) := Lib.hid ⟨hT12.isChg.cell SQ.out.1 (by simp), hT12.isChg.cell SQ.out.2.1 (by simp), hT12.isChg.cell SQ.out.2.2 (by simp), z12.1, z12.2.1, z12.2.2⟩
                    clear z12
                    go_wp2_with fail
                    refine hK.out _ _ S12.out (fun hHeld4 => ?_)
                    clear hK K
                    try simp only [Act.put, List.setIfInBounds_toArray, List.set_cons_zero, List.set_cons_succ]
                    refine takeD (i := 26) (d := some 147) (v := ?_) rfl rfl (by kernel_rfl) (by kernel_rfl) (by kernel_rfl) (fun _ _ _ h => h) (Or.inl ⟨by rfl, ?_⟩) hHeld4 ?_
                    rotate_left
                    · intro w hSw
                      obtain ⟨s1, s2, s3, s4, s5, s6⟩ := hSw
                      go_simp <;> (with_reducible rfl)
                    try simp only [Act.put, List.setIfInBounds_toArray, List.set_cons_zero, List.set_cons_succ]
                    refine takeD (i := 27) (d := some 148) (v := ?_) rfl rfl (by kernel_rfl) (by kernel_rfl) (by kernel_rfl) (fun _ _ _ h => h) (Or.inl ⟨by rfl, ?_⟩) hHeld4 ?_
                    rotate_left
                    · intro w hSw
                      obtain ⟨s1, s2, s3, s4, s5, s6⟩ := hSw
                      go_simp <;> (with_reducible rfl)
                    try simp only [Act.put, List.setIfInBounds_toArray, List.set_cons_zero, List.set_cons_succ]
                    refine wpAnyH_done (by kernel_rfl) ?_ _
                    try simp only [Act.put, List.setIfInBounds_toArray, List.set_cons_zero, List.set_cons_succ]
                    clear hHeld hHeld2 hHeld3 hHeld4
                    obtain ⟨c', hc'⟩ : ∃ c', c' = keepC n c ⟨qn, qt, qc⟩ (saysV 4) 5000 (549755813888 + (p1 : Int)) := ⟨_, rfl⟩
                    have hT12' : Cabs w w12 (301 + j + 1) [⟨cb, n, 1, 5, c'⟩] := by rw [hc']; exact hT12
                    have hoc : OkM n c := HT.out.ok (i := 0) rfl
                    have hmq2 : mayQ ⟨qn, qt, qc⟩ = true := by have := HOK.out; unfold okK at this; rw [eq_comm, Bool.and_eq_true] at this; exact this.1
                    have hqf : foldQ ⟨qn, qt, qc⟩ ≠ f := by
                      intro e
                      have : eqQ ⟨qn, qt, qc⟩ ⟨nm, ty, cl⟩ = true := eqQ_iff.2 ⟨hmq2, HMQ.out, by rw [e, HF.out]⟩
                      rw [← HEV.out] at this
                      cases this
                    have hli : c0.now ≤ halfT → LInv n f v (halfT + (lif : Int)) c' (pushU U ⟨qn, qt, qc⟩) (halfT + (p1 : Int)) := by
                      intro hb
                      have := (HL1.out hb).keep (v2 := saysV 4) (t' := halfT + (p1 : Int)) hoc HN1.out.1 HOK.out.symm hqf (by have := HP1.out.2.1; omega) (by have := HP1.out.2.2; unfold halfT topT; omega)
                      rw [hc']
                      exact this
                    have HLI2 := Lib.hid hli
                    have HT12 := Lib.hid hT12'
                    have HU12 := Lib.hid (HC12.out.ownR HU.out.1 (by decide))
                    have HMQ3 := Lib.hid hmq2
                    clear hT12 hT12' hoc hqf hli hmq2 hc' hcc12 hc10 hc11 S0 S10 S11 HT HT11 HS11 HSKIP HL1
                    go_wp2_with fail
                    have hub : un ≤ 100 := by have := HU.out.2.1; have := HL.out.1; omega
                    go_loopw [25, 26] (fun h k wr => L2R w12 U ⟨qn, qt, qc⟩ h k wr) (fun _ k _ => un - (intOf k).toNat)
                    case atStart => exact ⟨0, Nat.zero_le _, rfl, rfl, Chg.refl _ _⟩
                    case round =>
                      obtain ⟨k, hk, rfl, rfl, hck⟩ := hrel
                      rw [← HUN.out] at hk
                      obtain ⟨hb, hhb⟩ : ∃ hb, hb = hereU U ⟨qn, qt, qc⟩ k := ⟨_, rfl⟩
                      rw [← hhb]
                      have HHB := Lib.hid hhb
                      clear hhb
                      by_cases hlt : k < un
                      · cases hb with
                        | true =>
                          have hkd : k < U.length := by rw [← HUN.out]; exact hlt
                          have hnx : hereU U ⟨qn, qt, qc⟩ (k + 1) = true := by rw [hereU_succ hkd, ← HHB.out]; rfl
                          have HNX := Lib.hid hnx
                          clear hnx hkd
                          go_wp2_with fail
                          go_quiet (fail)
                          go_wp2
                          go_roundw
                          case rel => first | exact ⟨k + 1, by rw [← HUN.out]; omega, by go_num, by rw [HNX.out], hck.drewN _⟩ | ((repeat apply Exists.intro); exact ⟨⟨k + 1, by rw [← HUN.out]; omega, by go_num, by rw [HNX.out], hck.drewN _⟩, rfl⟩)
                          case measure => simp [intOf] <;> omega
                        | false =>
                          have hkd : k < U.length := by rw [← HUN.out]; exact hlt
                          obtain ⟨g, gc, hgv, _, _, hcell⟩ := (HU12.out.same hck).cells qL_len (by omega)
                          rw [← HUN.out] at hgv
                          injection hgv with hg1 _ hg3
                          subst hg1
                          subst hg3
                          obtain ⟨⟨yn, yt, yc⟩, hys⟩ : ∃ s, s = U[k] := ⟨_, rfl⟩
                          have hyq := HU.out.2.2 U[k] (List.getElem_mem hkd)
                          have hcj := hcell k hkd
                          rw [← hys] at hyq hcj
                          have hyz := hyq.2
                          simp only at hyz
                          have e0 : wr.cell? ⟨g, k * 3, none⟩ = some (.string yn) := hcj 0 _ rfl
                          have e1 : wr.cell? ⟨g, k * 3 + 1, none⟩ = some (.int .u16 (yt : Nat)) := hcj 1 _ rfl
                          have e2 : wr.cell? ⟨g, k * 3 + 2, none⟩ = some (.int .u16 (yc : Nat)) := hcj 2 _ rfl
                          have dm := HT12.out.isChg.trans hck
                          have d0 := dm.cell SQ.out.1 (by simp)
                          have d1 := dm.cell SQ.out.2.1 (by simp)
                          have d2 := dm.cell SQ.out.2.2 (by simp)
                          have T0 : Hid (wr.cell? ⟨g, k * 3, none⟩ = some (.string yn) ∧ wr.cell? ⟨g, k * 3 + 1, none⟩ = some (.int .u16 (yt : Nat)) ∧ wr.cell? ⟨g, k * 3 + 2, none⟩ = some (.int .u16 (yc : Nat)) ∧ wr.cell? ⟨qb, qo + j * 3, none⟩ = some (.string qn) ∧ wr.cell? ⟨qb, qo + j * 3 + 1, none⟩ = some (.int .u16 (qt : Nat)) ∧ wr.cell? ⟨qb, qo + j * 3 + 2, none⟩ = some (.int .u16 (qc : Nat))) := Lib.hid ⟨e0, e1, e2, d0, d1, d2⟩
                          obtain ⟨ev, hevv⟩ : ∃ ev, ev = eqQ ⟨yn, yt, yc⟩ ⟨qn, qt, qc⟩ := ⟨_, rfl⟩
                          have HEV2 := Lib.hid hevv
                          have hnx : hereU U ⟨qn, qt, qc⟩ (k + 1) = ev := by rw [hereU_succ hkd, ← HHB.out, hevv, ← hys]; rfl
                          have HNX := Lib.hid hnx
                          clear hnx hevv hys hyq hcj hcell e0 e1 e2 d0 d1 d2 dm
                          go_wp2_with fail
                          go_region_held3 (fun W => W.cell? ⟨g, k * 3, none⟩ = some (.string yn) ∧ W.cell? ⟨g, k * 3 + 1, none⟩ = some (.int .u16 (yt : Nat)) ∧ W.cell? ⟨g, k * 3 + 2, none⟩ = some (.int .u16 (yc : Nat)) ∧ W.cell? ⟨qb, qo + j * 3, none⟩ = some (.string qn) ∧ W.cell? ⟨qb, qo + j * 3 + 1, none⟩ = some (.int .u16 (qt : Nat)) ∧ W.cell? ⟨qb, qo + j * 3 + 2, none⟩ = some (.int .u16 (qc : Nat))) (first | (with_reducible exact T9.out) | exact T0.out) (first | (go_at_call 18; refine (equal_any ⟨yn, yt, yc⟩ ⟨qn, qt, qc⟩ ev wr.drew (Nat.le_trans hyz (by decide)) (Nat.le_trans hq3000 (by decide)) HEV2).mono ?_; rintro e13 w13 ⟨rfl, hc13⟩; replace hc13 := hc13.undrew; have T9 := Lib.hid (c6_chg T0.out hc13)))
                          have HC13 := Lib.hid (hck.trans hc13)
                          clear hc13 T0 T9
                          go_wp2
                          go_roundw
                          case rel => exact ⟨k + 1, by rw [← HUN.out]; omega, by go_num, by rw [HNX.out], HC13.out⟩
                          case measure => simp [intOf] <;> omega
                      · have hku : un = k := by omega
                        subst hku
                        have hhv : hb = hereU U ⟨qn, qt, qc⟩ U.length := by rw [HHB.out, HUN.out]
                        have HHV := Lib.hid hhv
                        have HTr := Lib.hid (HT12.out.same hck)
                        have HUr := Lib.hid (HU12.out.same hck)
                        have HCr := Lib.hid (HC12.out.trans (chg_ck hck))
                        clear HHB hhv HT12 HU12 HC12
                        cases hb with
                        | true =>
                          have hpu : pushU U ⟨qn, qt, qc⟩ = U := by unfold pushU; rw [if_pos HHV.out.symm]
                          have hli2 : c0.now ≤ halfT → LInv n f v (halfT + (lif : Int)) c' U (halfT + (p1 : Int)) := by intro hb; have := HLI2.out hb; rw [hpu] at this; exact this
                          have HNEW := Lib.hid (HFIN.out wr c' U _ _ HTr.out (Nat.le_refl _) HUr.out (by have := HU.out.2.1; rw [← HUN.out]; omega) HU.out.2.2 hli2 (HK.out.trans HCr.out))
                          clear hpu hli2 hck HFIN HTr HUr HCr
                          go_wp2
                          go_roundw
                          case rel => exact HNEW.out
                          case measure => simp [intOf] <;> omega
                        | false =>
                          have hpu : pushU U ⟨qn, qt, qc⟩ = U ++ [⟨qn, qt, qc⟩] := by unfold pushU; rw [if_neg (by rw [← HHV.out]; decide)]
                          have hsz9 : w9.heap.size ≤ (wr.alloc (.cells #[.string qn, .int .u16 (qt : Nat), .int .u16 (qc : Nat)] 24)).heap.size := by
                            have h1 := (HK.out.trans HCr.out).1
                            have h2 := ((Chg.refl [] wr).alloc (.cells #[.string qn, .int .u16 (qt : Nat), .int .u16 (qc : Nat)] 24)).size
                            omega
                          have HOWN := Lib.hid (HUr.out.same ((Chg.refl [] wr).alloc (.cells #[.string qn, .int .u16 (qt : Nat), .int .u16 (qc : Nat)] 24)))
                          have hstep : ∀ xa xc w3, R.OwnR 24 3 qL w9.heap.size w3 (.slice xa (un + 1) xc) (U ++ [⟨qn, qt, qc⟩]) → (wr.alloc (.cells #[.string qn, .int .u16 (qt : Nat), .int .u16 (qc : Nat)] 24)).grownBy w3 (Value.slice ua' un uc').ownBlock → L1R w w9 cb n mn tl c0 f v (lif : Int) (.slice xa (un + 1) xc) (.int .i64 (p1 : Nat)) (.int .i64 ((j + 1 : Nat) : Int)) w3 := by
                            intro xa xc w3 h1 h2
                            refine HFIN.out w3 c' (U ++ [⟨qn, qt, qc⟩]) _ _ ((HTr.out.same ((Chg.refl [] wr).alloc _)).addq HOWN.out (HT9.out.isChg.size) h2) (Nat.le_refl _) h1 ?_ ?_ ?_ ?_
                            · rw [List.length_append, List.length_singleton, ← HUN.out]; have := HU.out.2.1; omega
                            · intro q hq
                              rcases List.mem_append.1 hq with hq | hq
                              · exact HU.out.2.2 q hq
                              · simp at hq
                                subst hq
                                exact ⟨HMOK.out, hq3000⟩
                            · intro hb; have := HLI2.out hb; rw [hpu] at this; exact this
                            · exact ((HK.out.trans HCr.out).trans (chg_ck ((Chg.refl [] wr).alloc _))).addq HOWN.out h2
                          have HSTEP := Lib.hid hstep
                          have dm := HTr.out.isChg
                          have d0 := dm.cell SQ.out.1 (by simp)
                          have d1 := dm.cell SQ.out.2.1 (by simp)
                          have d2 := dm.cell SQ.out.2.2 (by simp)
                          have hul : un ≤ 1000 := by have := HU.out.2.1; have := HL.out.1; omega
                          have hOWN := HOWN.out
                          rw [HUN.out] at hOWN hul
                          clear hpu hstep hck HFIN HTr HUr HCr HOWN dm
                          go_wp2_with (first
                            | (at_builtin; go_must (refine wpList_addQ rfl _ _ rfl w9.heap.size ua' uc' U ⟨qn, qt, qc⟩ _ (by rw [← HUN.out]; rfl) rfl hOWN (heap_new _ _) hul hsz9 ?_; intro xa xc w3 h1 h2))
                            | fail)
                          rw [← HUN.out] at h1 h2 ⊢
                          have HNEW := Lib.hid (HSTEP.out xa xc w3 h1 h2)
                          clear h1 h2 d0 d1 d2 hOWN
                          go_wp2
                          go_roundw
                          case rel => exact HNEW.out
                          case measure => simp [intOf] <;> omega
            · have q1 : decide ((j : Int) < (mn : Int)) = true := by rw [decide_eq_true_eq]; omega
              have q1n : decide (j < mn) = true := by rw [decide_eq_true_eq]; omega
              have q2 : decide ((j : Int) < (tl : Int)) = false := by rw [decide_eq_false_iff_not]; omega
              have q2n : decide (j < tl) = false := by rw [decide_eq_false_iff_not]; omega
              clear hlt1 hlt2
              have hpI : (p : Int) ≤ 25500 := by have := HJ.out.2.2; have := HL.out.1; have := HJ.out.1; omega
              have hll : l.length ≤ 300 := HO1.out.1
              have hnI : (n : Int) ≤ 256 := by have := HN1.out.2; omega
              have hliI : (1 : Int) ≤ (lif : Int) ∧ (lif : Int) ≤ 1000 := HLI.out
              go_wp2_with fail
              go_loopw [27] (fun i w3 => L3R l wr i w3) (fun i _ => l.length - (intOf i).toNat)
              case atStart => exact ⟨0, Nat.zero_le _, rfl, by simp, Chg.refl _ _⟩
              case round =>
                obtain ⟨k, hk, rfl, hbn, hck⟩ := hrel
                have HBN := Lib.hid hbn
                clear hbn
                by_cases hlt3 : k < l.length
                · obtain ⟨b, o, rfl, _, q, hok⟩ := HA.out.2 k hlt3
                  obtain ⟨A, hA⟩ : ∃ A, A = l[k] := ⟨_, rfl⟩
                  rw [← hA] at q hok
                  obtain ⟨an, han⟩ : ∃ an, an = A.now := ⟨_, rfl⟩
                  have hanb := hok.now
                  rw [← han] at hanb
                  have d8 := (HT.out.isChg.trans hck).cell (q 8 (.int .i64 an) (by rw [han]; rfl)) (by simp)
                  rw [← Nat.add_assoc] at d8
                  have HAN := Lib.hid (And.intro hA han)
                  clear q hok hA han
                  by_cases hgt : 549755813888 < an
                  · have u1 : decide ((549755813888 : Int) < an) = true := by rw [decide_eq_true_eq]; exact hgt
                    have HEND := Lib.hid ((HT.out.isChg.trans hck).below (Nat.le_refl w.heap.size) (by simp))
                    clear hgt hck HT
                    go_wp2
                    go_ret
                    exact ⟨rfl, HEND.out⟩
                  · have u1 : decide ((549755813888 : Int) < an) = false := by rw [decide_eq_false_iff_not]; exact hgt
                    have hnew : ∀ WO, Chg [] WO wr → L3R l WO (.int .i64 ((k + 1 : Nat) : Int)) wr := by
                      intro WO hck
                      refine ⟨k + 1, hlt3, rfl, fun a ha => ?_, hck⟩
                      rw [List.take_succ_eq_append_getElem hlt3] at ha
                      rcases List.mem_append.1 ha with ha | ha
                      · exact HBN.out a ha
                      · simp at ha
                        rw [ha, ← HAN.out.1, ← HAN.out.2]
                        unfold halfT
                        omega
                    have HNEW := Lib.hid (hnew _ hck)
                    clear hgt hck HT hnew
                    go_wp2
                    go_roundw
                    case rel => exact HNEW.out
                    case measure => simp [intOf] <;> omega
                · have hkl : k = l.length := by omega
                  have hall : ∀ a ∈ l, a.now ≤ halfT := by
                    intro a ha
                    refine HBN.out a ?_
                    rw [hkl, List.take_of_length_le (Nat.le_refl _)]
                    exact ha
                  have hli := HL1.out (HBO.out hall)
                  have HLI3 := Lib.hid hli
                  have HT3 := Lib.hid (HT.out.same hck)
                  have HU3 := Lib.hid (HU.out.1.same hck)
                  have HK3 := Lib.hid (HK.out.trans (chg_ck hck))
                  have hmq : mayQ ⟨nm, ty, cl⟩ = true := HMQ.out
                  have hff : foldQ ⟨nm, ty, cl⟩ = f := HF.out.symm
                  have hlo := hli.lo
                  have htop : halfT + (p : Int) ≤ topT := by unfold halfT topT; omega
                  obtain ⟨z0, z1, z2⟩ := (HX9.out.ck HK3.out).c3
                  simp only at z0 z1 z2
                  have t3 : decide (k < l.length) = false := by rw [decide_eq_false_iff_not]; exact hlt3
                  by_cases hpl : (lif : Int) ≤ (p : Int)
                  · have hno : Hid (none = gotC c ⟨nm, ty, cl⟩ (549755813888 + (p : Int))) := Lib.hid (by
                      have := got_none_of (c := c) (x := ⟨nm, ty, cl⟩) (e := ⟨f, v, halfT + (lif : Int)⟩) hmq hff hli.own hlo htop (by show halfT + (lif : Int) ≤ halfT + (p : Int); omega)
                      unfold halfT at this
                      exact this.symm)
                    have u2 : decide ((lif : Int) ≤ (p : Int)) = true := by rw [decide_eq_true_eq]; exact hpl
                    have u2n : decide (lif ≤ p) = true := by rw [decide_eq_true_eq]; omega
                    clear hli hlo hmq hff hall HBN HT HK HU HL1 hck htop hpl
                    go_wp2_with fail
                    refine (find_c HT3.out (i := 0) rfl ⟨nm, ty, cl⟩ (549755813888 + (p : Int)) none 0 0 false (by have := HL.out.1; have := HJ.out.1; omega) hq1 hq2 hq3 hno (Lib.hid rfl) (Lib.hid rfl) (Lib.hid rfl)).mono ?_
                    rintro e w4 ⟨fa, fn, fc, ga, gn, gc, rfl, _, hT4, hcc4⟩
                    have HEND := Lib.hid ((hT4.isChg.alloc (.cells #[.int .u8 0, .slice fa fn fc, .slice ga gn gc] 34)).below (Nat.le_refl w.heap.size) (by simp))
                    clear hT4 hcc4 HT3
                    go_wp2
                    go_ret
                    exact ⟨rfl, HEND.out⟩
                  · have u2 : decide ((lif : Int) ≤ (p : Int)) = false := by rw [decide_eq_false_iff_not]; exact hpl
                    have u2n : decide (lif ≤ p) = false := by rw [decide_eq_false_iff_not]; omega
                    by_cases hun : n ≤ un
                    · have u3 : decide ((n : Int) ≤ (un : Int)) = true := by rw [decide_eq_true_eq]; omega
                      have u3n : decide (n ≤ un) = true := by rw [decide_eq_true_eq]; exact hun
                      obtain ⟨o, ho⟩ : ∃ o, o = gotC c ⟨nm, ty, cl⟩ (549755813888 + (p : Int)) := ⟨_, rfl⟩
                      obtain ⟨code, hcode⟩ : ∃ code, code = (gotV o).code := ⟨_, rfl⟩
                      obtain ⟨left, hleft⟩ : ∃ left, left = leftV o (advC c (549755813888 + (p : Int))).now := ⟨_, rfl⟩
                      obtain ⟨bb, hbb⟩ : ∃ bb, bb = o.isSome := ⟨_, rfl⟩
                      have HO' := Lib.hid ho
                      have HCD := Lib.hid hcode
                      have HLF := Lib.hid hleft
                      have HBB := Lib.hid hbb
                      clear ho hcode hleft hbb hli hlo hmq hff hall HBN HT HK HU HL1 hck htop hpl hun
                      go_wp2_with fail
                      refine (find_c HT3.out (i := 0) rfl ⟨nm, ty, cl⟩ (549755813888 + (p : Int)) o code left bb (by have := HL.out.1; have := HJ.out.1; omega) hq1 hq2 hq3 HO' HCD HLF HBB).mono ?_
                      rintro e w4 ⟨fa, fn, fc, ga, gn, gc, rfl, _, hT4, hcc4⟩
                      have HEND := Lib.hid ((hT4.isChg.alloc (.cells #[.int .u8 (code : Nat), .slice fa fn fc, .slice ga gn gc] 34)).below (Nat.le_refl w.heap.size) (by simp))
                      clear hT4 hcc4 HT3
                      go_wp2
                      go_ret
                      exact ⟨rfl, HEND.out⟩
                    · have hun2 : U.length < n := by rw [← HUN.out]; omega
                      have u3 : decide ((n : Int) ≤ (un : Int)) = false := by rw [decide_eq_false_iff_not]; omega
                      have u3n : decide (n ≤ un) = false := by rw [decide_eq_false_iff_not]; exact hun
                      have hT1 : halfT + (lif : Int) ≤ topT := by unfold halfT topT; omega
                      have hhas := hli.has (by omega) hun2
                      have hg1 := got_of (x := ⟨nm, ty, cl⟩) hmq hff hhas hlo htop (by show halfT + (p : Int) < halfT + (lif : Int); omega)
                      have hadv1 : (advC c (halfT + (p : Int))).now = halfT + (p : Int) := adv_now hlo htop
                      obtain ⟨hhas2, hnow2⟩ := has_find (x := ⟨nm, ty, cl⟩) hmq hff hhas hlo htop (by show halfT + (p : Int) < halfT + (lif : Int); omega)
                      obtain ⟨c3, hc3⟩ : ∃ c3, c3 = findC c ⟨nm, ty, cl⟩ (halfT + (p : Int)) := ⟨_, rfl⟩
                      rw [← hc3] at hhas2 hnow2
                      have hlo2 : c3.now ≤ halfT + (lif : Int) - 1 := by omega
                      have hg2 := got_of (x := ⟨nm, ty, cl⟩) hmq hff hhas2 hlo2 (by omega) (by show halfT + (lif : Int) - 1 < halfT + (lif : Int); omega)
                      have hadv2 : (advC c3 (halfT + (lif : Int) - 1)).now = halfT + (lif : Int) - 1 := adv_now hlo2 (by omega)
                      obtain ⟨hhas3, hnow3⟩ := has_find (x := ⟨nm, ty, cl⟩) hmq hff hhas2 hlo2 (by omega) (by show halfT + (lif : Int) - 1 < halfT + (lif : Int); omega)
                      obtain ⟨c4, hc4⟩ : ∃ c4, c4 = findC c3 ⟨nm, ty, cl⟩ (halfT + (lif : Int) - 1) := ⟨_, rfl⟩
                      rw [← hc4] at hhas3 hnow3
                      have hg3 := got_none_of (x := ⟨nm, ty, cl⟩) (e := ⟨f, v, halfT + (lif : Int)⟩) hmq hff hhas3.2 (by rw [hnow3]; show halfT + (lif : Int) - 1 ≤ halfT + (lif : Int); omega) hT1 (Int.le_refl _)
                      have HG1 : Hid (some ⟨f, v, halfT + (lif : Int)⟩ = gotC c ⟨nm, ty, cl⟩ (549755813888 + (p : Int))) := Lib.hid hg1.symm
                      have HL1' : Hid ((lif : Int) - (p : Int) = leftV (some ⟨f, v, halfT + (lif : Int)⟩) (advC c (549755813888 + (p : Int))).now) := Lib.hid (by
                        have : (advC c (549755813888 + (p : Int))).now = halfT + (p : Int) := hadv1
                        rw [this]
                        show (lif : Int) - (p : Int) = halfT + (lif : Int) - (halfT + (p : Int))
                        omega)
                      have HG2 : Hid (some ⟨f, v, halfT + (lif : Int)⟩ = gotC c3 ⟨nm, ty, cl⟩ (549755813888 + (lif : Int) - 1)) := Lib.hid hg2.symm
                      have HL2' : Hid ((1 : Int) = leftV (some ⟨f, v, halfT + (lif : Int)⟩) (advC c3 (549755813888 + (lif : Int) - 1)).now) := Lib.hid (by
                        have : (advC c3 (549755813888 + (lif : Int) - 1)).now = halfT + (lif : Int) - 1 := hadv2
                        rw [this]
                        show (1 : Int) = halfT + (lif : Int) - (halfT + (lif : Int) - 1)
                        omega)
                      have HG3 : Hid (none = gotC c4 ⟨nm, ty, cl⟩ (549755813888 + (lif : Int))) := Lib.hid hg3.symm
                      have HC3' : Hid (c3 = findC c ⟨nm, ty, cl⟩ (549755813888 + (p : Int))) := Lib.hid hc3
                      have HC4' : Hid (c4 = findC c3 ⟨nm, ty, cl⟩ (549755813888 + (lif : Int) - 1)) := Lib.hid hc4
                      clear hli hlo hmq hff hall HBN HT HK HU HL1 hck htop hpl hun hun2 hT1 hhas hg1 hadv1 hhas2 hnow2 hc3 hlo2 hg2 hadv2 hhas3 hnow3 hc4 hg3
                      have hP : 301 + j ≤ 900000 := by have := HL.out.1; have := HJ.out.1; omega
                      go_wp2_with fail
                      refine (find_c HT3.out (i := 0) rfl ⟨nm, ty, cl⟩ (549755813888 + (p : Int)) (some ⟨f, v, halfT + (lif : Int)⟩) v.code ((lif : Int) - (p : Int)) true hP hq1 hq2 hq3 HG1 (Lib.hid rfl) HL1' (Lib.hid rfl)).mono ?_
                      rintro e w4 ⟨fa, fn, fc, ga, gn, gc, rfl, hov4, hT4, hcc4⟩
                      have HT4 : Hid (Cabs w w4 (301 + j) [⟨cb, n, 1, 5, c3⟩]) := Lib.hid (by rw [HC3'.out]; exact hT4)
                      have HK4 := Lib.hid (HK3.out.trans hcc4.ck)
                      have HR4 : Hid (RdV w4 (v.code : Nat) (.slice fa fn fc) (.slice ga gn gc) v) := Lib.hid hov4.rd
                      have hz4 := (HX9.out.ck HK4.out).c3
                      have hy4 := (HV9.out.ck HK4.out).same ((Chg.refl [] w4).alloc (.cells #[.int .u8 (v.code : Nat), .slice fa fn fc, .slice ga gn gc] 34))
                      obtain ⟨y0, y1, y2⟩ := hy4.c3
                      clear hov4 hT4 hcc4 HT3 HK3 hz4 hy4 z0 z1 z2 HU3 HG1 HL1' HC3'
                      go_wp2_with fail
                      refine calls_abs ?_
                      intro w5 hw5
                      have dc5 : Chg [] w4 w5 := by rw [hw5]; exact (Chg.refl _ _).alloc _
                      have HT5 := Lib.hid (HT4.out.same dc5)
                      have HK5 := Lib.hid (HK4.out.trans (chg_ck dc5))
                      have HR5 := Lib.hid (HR4.out.same dc5)
                      have HS5 := Lib.hid ((HV.out.rd HOV.out).same HT5.out.isChg)
                      clear hw5 dc5 HT4 HK4 HR4 y0 y1 y2
                      refine (sameV_true _ _ _ _ _ _ v w5 HR5.out HS5.out).mono ?_
                      rintro e w6 ⟨rfl, dc6⟩
                      have HT6 := Lib.hid (HT5.out.same dc6)
                      have HK6 := Lib.hid (HK5.out.trans (chg_ck dc6))
                      obtain ⟨z0, z1, z2⟩ := (HX9.out.ck HK6.out).c3
                      simp only at z0 z1 z2
                      clear dc6 HT5 HK5 HR5 HS5
                      go_wp2_with fail
                      refine (find_c HT6.out (i := 0) rfl ⟨nm, ty, cl⟩ (549755813888 + (lif : Int) - 1) (some ⟨f, v, halfT + (lif : Int)⟩) v.code 1 true hP hq1 hq2 hq3 HG2 (Lib.hid rfl) HL2' (Lib.hid rfl)).mono ?_
                      rintro e w7 ⟨fa2, fn2, fc2, ga2, gn2, gc2, rfl, _, hT7, hcc7⟩
                      have HT7 : Hid (Cabs w w7 (301 + j) [⟨cb, n, 1, 5, c4⟩]) := Lib.hid (by rw [HC4'.out]; exact hT7)
                      have HK7 := Lib.hid (HK6.out.trans hcc7.ck)
                      clear hT7 hcc7 HT6 HK6 z0 z1 z2 HG2 HL2' HC4'
                      obtain ⟨z0, z1, z2⟩ := (HX9.out.ck HK7.out).c3
                      simp only at z0 z1 z2
                      go_wp2_with fail
                      refine (find_c HT7.out (i := 0) rfl ⟨nm, ty, cl⟩ (549755813888 + (lif : Int)) none 0 0 false hP hq1 hq2 hq3 HG3 (Lib.hid rfl) (Lib.hid rfl) (Lib.hid rfl)).mono ?_
                      rintro e w8 ⟨fa3, fn3, fc3, ga3, gn3, gc3, rfl, _, hT8, hcc8⟩
                      have HEND := Lib.hid ((hT8.isChg.alloc (.cells #[.int .u8 0, .slice fa3 fn3 fc3, .slice ga3 gn3 gc3] 34)).below (Nat.le_refl w.heap.size) (by simp))
                      clear hT8 hcc8 HT7 HK7 z0 z1 z2
                      go_wp2
                      go_ret
                      exact ⟨rfl, HEND.out⟩
          · have q1 : decide ((j : Int) < (mn : Int)) = false := by rw [decide_eq_false_iff_not]; omega
            have q1n : decide (j < mn) = false := by rw [decide_eq_false_iff_not]; omega
            clear hlt1
            have hpI : (p : Int) ≤ 25500 := by have := HJ.out.2.2; have := HL.out.1; have := HJ.out.1; omega
            have hll : l.length ≤ 300 := HO1.out.1
            have hnI : (n : Int) ≤ 256 := by have := HN1.out.2; omega
            have hliI : (1 : Int) ≤ (lif : Int) ∧ (lif : Int) ≤ 1000 := HLI.out
            go_wp2_with fail
            go_loopw [27] (fun i w3 => L3R l wr i w3) (fun i _ => l.length - (intOf i).toNat)
            case atStart => exact ⟨0, Nat.zero_le _, rfl, by simp, Chg.refl _ _⟩
            case round =>
              obtain ⟨k, hk, rfl, hbn, hck⟩ := hrel
              have HBN := Lib.hid hbn
              clear hbn
              by_cases hlt3 : k < l.length
              · obtain ⟨b, o, rfl, _, q, hok⟩ := HA.out.2 k hlt3
                obtain ⟨A, hA⟩ : ∃ A, A = l[k] := ⟨_, rfl⟩
                rw [← hA] at q hok
                obtain ⟨an, han⟩ : ∃ an, an = A.now := ⟨_, rfl⟩
                have hanb := hok.now
                rw [← han] at hanb
                have d8 := (HT.out.isChg.trans hck).cell (q 8 (.int .i64 an) (by rw [han]; rfl)) (by simp)
                rw [← Nat.add_assoc] at d8
                have HAN := Lib.hid (And.intro hA han)
                clear q hok hA han
                by_cases hgt : 549755813888 < an
                · have u1 : decide ((549755813888 : Int) < an) = true := by rw [decide_eq_true_eq]; exact hgt
                  have HEND := Lib.hid ((HT.out.isChg.trans hck).below (Nat.le_refl w.heap.size) (by simp))
                  clear hgt hck HT
                  go_wp2
                  go_ret
                  exact ⟨rfl, HEND.out⟩
                · have u1 : decide ((549755813888 : Int) < an) = false := by rw [decide_eq_false_iff_not]; exact hgt
                  have hnew : ∀ WO, Chg [] WO wr → L3R l WO (.int .i64 ((k + 1 : Nat) : Int)) wr := by
                    intro WO hck
                    refine ⟨k + 1, hlt3, rfl, fun a ha => ?_, hck⟩
                    rw [List.take_succ_eq_append_getElem hlt3] at ha
                    rcases List.mem_append.1 ha with ha | ha
                    · exact HBN.out a ha
                    · simp at ha
                      rw [ha, ← HAN.out.1, ← HAN.out.2]
                      unfold halfT
                      omega
                  have HNEW := Lib.hid (hnew _ hck)
                  clear hgt hck HT hnew
                  go_wp2
                  go_roundw
                  case rel => exact HNEW.out
                  case measure => simp [intOf] <;> omega
              · have hkl : k = l.length := by omega
                have hall : ∀ a ∈ l, a.now ≤ halfT := by
                  intro a ha
                  refine HBN.out a ?_
                  rw [hkl, List.take_of_length_le (Nat.le_refl _)]
                  exact ha
                have hli := HL1.out (HBO.out hall)
                have HLI3 := Lib.hid hli
                have HT3 := Lib.hid (HT.out.same hck)
                have HU3 := Lib.hid (HU.out.1.same hck)
                have HK3 := Lib.hid (HK.out.trans (chg_ck hck))
                have hmq : mayQ ⟨nm, ty, cl⟩ = true := HMQ.out
                have hff : foldQ ⟨nm, ty, cl⟩ = f := HF.out.symm
                have hlo := hli.lo
                have htop : halfT + (p : Int) ≤ topT := by unfold halfT topT; omega
                obtain ⟨z0, z1, z2⟩ := (HX9.out.ck HK3.out).c3
                simp only at z0 z1 z2
                have t3 : decide (k < l.length) = false := by rw [decide_eq_false_iff_not]; exact hlt3
                by_cases hpl : (lif : Int) ≤ (p : Int)
                · have hno : Hid (none = gotC c ⟨nm, ty, cl⟩ (549755813888 + (p : Int))) := Lib.hid (by
                    have := got_none_of (c := c) (x := ⟨nm, ty, cl⟩) (e := ⟨f, v, halfT + (lif : Int)⟩) hmq hff hli.own hlo htop (by show halfT + (lif : Int) ≤ halfT + (p : Int); omega)
                    unfold halfT at this
                    exact this.symm)
                  have u2 : decide ((lif : Int) ≤ (p : Int)) = true := by rw [decide_eq_true_eq]; exact hpl
                  have u2n : decide (lif ≤ p) = true := by rw [decide_eq_true_eq]; omega
                  clear hli hlo hmq hff hall HBN HT HK HU HL1 hck htop hpl
                  go_wp2_with fail
                  refine (find_c HT3.out (i := 0) rfl ⟨nm, ty, cl⟩ (549755813888 + (p : Int)) none 0 0 false (by have := HL.out.1; have := HJ.out.1; omega) hq1 hq2 hq3 hno (Lib.hid rfl) (Lib.hid rfl) (Lib.hid rfl)).mono ?_
                  rintro e w4 ⟨fa, fn, fc, ga, gn, gc, rfl, _, hT4, hcc4⟩
                  have HEND := Lib.hid ((hT4.isChg.alloc (.cells #[.int .u8 0, .slice fa fn fc, .slice ga gn gc] 34)).below (Nat.le_refl w.heap.size) (by simp))
                  clear hT4 hcc4 HT3
                  go_wp2
                  go_ret
                  exact ⟨rfl, HEND.out⟩
                · have u2 : decide ((lif : Int) ≤ (p : Int)) = false := by rw [decide_eq_false_iff_not]; exact hpl
                  have u2n : decide (lif ≤ p) = false := by rw [decide_eq_false_iff_not]; omega
                  by_cases hun : n ≤ un
                  · have u3 : decide ((n : Int) ≤ (un : Int)) = true := by rw [decide_eq_true_eq]; omega
                    have u3n : decide (n ≤ un) = true := by rw [decide_eq_true_eq]; exact hun
                    obtain ⟨o, ho⟩ : ∃ o, o = gotC c ⟨nm, ty, cl⟩ (549755813888 + (p : Int)) := ⟨_, rfl⟩
                    obtain ⟨code, hcode⟩ : ∃ code, code = (gotV o).code := ⟨_, rfl⟩
                    obtain ⟨left, hleft⟩ : ∃ left, left = leftV o (advC c (549755813888 + (p : Int))).now := ⟨_, rfl⟩
                    obtain ⟨bb, hbb⟩ : ∃ bb, bb = o.isSome := ⟨_, rfl⟩
                    have HO' := Lib.hid ho
                    have HCD := Lib.hid hcode
                    have HLF := Lib.hid hleft
                    have HBB := Lib.hid hbb
                    clear ho hcode hleft hbb hli hlo hmq hff hall HBN HT HK HU HL1 hck htop hpl hun
                    go_wp2_with fail
                    refine (find_c HT3.out (i := 0) rfl ⟨nm, ty, cl⟩ (549755813888 + (p : Int)) o code left bb (by have := HL.out.1; have := HJ.out.1; omega) hq1 hq2 hq3 HO' HCD HLF HBB).mono ?_
                    rintro e w4 ⟨fa, fn, fc, ga, gn, gc, rfl, _, hT4, hcc4⟩
                    have HEND := Lib.hid ((hT4.isChg.alloc (.cells #[.int .u8 (code : Nat), .slice fa fn fc, .slice ga gn gc] 34)).below (Nat.le_refl w.heap.size) (by simp))
                    clear hT4 hcc4 HT3
                    go_wp2
                    go_ret
                    exact ⟨rfl, HEND.out⟩
                  · have hun2 : U.length < n := by rw [← HUN.out]; omega
                    have u3 : decide ((n : Int) ≤ (un : Int)) = false := by rw [decide_eq_false_iff_not]; omega
                    have u3n : decide (n ≤ un) = false := by rw [decide_eq_false_iff_not]; exact hun
                    have hT1 : halfT + (lif : Int) ≤ topT := by unfold halfT topT; omega
                    have hhas := hli.has (by omega) hun2
                    have hg1 := got_of (x := ⟨nm, ty, cl⟩) hmq hff hhas hlo htop (by show halfT + (p : Int) < halfT + (lif : Int); omega)
                    have hadv1 : (advC c (halfT + (p : Int))).now = halfT + (p : Int) := adv_now hlo htop
                    obtain ⟨hhas2, hnow2⟩ := has_find (x := ⟨nm, ty, cl⟩) hmq hff hhas hlo htop (by show halfT + (p : Int) < halfT + (lif : Int); omega)
                    obtain ⟨c3, hc3⟩ : ∃ c3, c3 = findC c ⟨nm, ty, cl⟩ (halfT + (p : Int)) := ⟨_, rfl⟩
                    rw [← hc3] at hhas2 hnow2
                    have hlo2 : c3.now ≤ halfT + (lif : Int) - 1 := by omega
                    have hg2 := got_of (x := ⟨nm, ty, cl⟩) hmq hff hhas2 hlo2 (by omega) (by show halfT + (lif : Int) - 1 < halfT + (lif : Int); omega)
                    have hadv2 : (advC c3 (halfT + (lif : Int) - 1)).now = halfT + (lif : Int) - 1 := adv_now hlo2 (by omega)
                    obtain ⟨hhas3, hnow3⟩ := has_find (x := ⟨nm, ty, cl⟩) hmq hff hhas2 hlo2 (by omega) (by show halfT + (lif : Int) - 1 < halfT + (lif : Int); omega)
                    obtain ⟨c4, hc4⟩ : ∃ c4, c4 = findC c3 ⟨nm, ty, cl⟩ (halfT + (lif : Int) - 1) := ⟨_, rfl⟩
                    rw [← hc4] at hhas3 hnow3
                    have hg3 := got_none_of (x := ⟨nm, ty, cl⟩) (e := ⟨f, v, halfT + (lif : Int)⟩) hmq hff hhas3.2 (by rw [hnow3]; show halfT + (lif : Int) - 1 ≤ halfT + (lif : Int); omega) hT1 (Int.le_refl _)
                    have HG1 : Hid (some ⟨f, v, halfT + (lif : Int)⟩ = gotC c ⟨nm, ty, cl⟩ (549755813888 + (p : Int))) := Lib.hid hg1.symm
                    have HL1' : Hid ((lif : Int) - (p : Int) = leftV (some ⟨f, v, halfT + (lif : Int)⟩) (advC c (549755813888 + (p : Int))).now) := Lib.hid (by
                      have : (advC c (549755813888 + (p : Int))).now = halfT + (p : Int) := hadv1
                      rw [this]
                      show (lif : Int) - (p : Int) = halfT + (lif : Int) - (halfT + (p : Int))
                      omega)
                    have HG2 : Hid (some ⟨f, v, halfT + (lif : Int)⟩ = gotC c3 ⟨nm, ty, cl⟩ (549755813888 + (lif : Int) - 1)) := Lib.hid hg2.symm
                    have HL2' : Hid ((1 : Int) = leftV (some ⟨f, v, halfT + (lif : Int)⟩) (advC c3 (549755813888 + (lif : Int) - 1)).now) := Lib.hid (by
                      have : (advC c3 (549755813888 + (lif : Int) - 1)).now = halfT + (lif : Int) - 1 := hadv2
                      rw [this]
                      show (1 : Int) = halfT + (lif : Int) - (halfT + (lif : Int) - 1)
                      omega)
                    have HG3 : Hid (none = gotC c4 ⟨nm, ty, cl⟩ (549755813888 + (lif : Int))) := Lib.hid hg3.symm
                    have HC3' : Hid (c3 = findC c ⟨nm, ty, cl⟩ (549755813888 + (p : Int))) := Lib.hid hc3
                    have HC4' : Hid (c4 = findC c3 ⟨nm, ty, cl⟩ (549755813888 + (lif : Int) - 1)) := Lib.hid hc4
                    clear hli hlo hmq hff hall HBN HT HK HU HL1 hck htop hpl hun hun2 hT1 hhas hg1 hadv1 hhas2 hnow2 hc3 hlo2 hg2 hadv2 hhas3 hnow3 hc4 hg3
                    have hP : 301 + j ≤ 900000 := by have := HL.out.1; have := HJ.out.1; omega
                    go_wp2_with fail
                    refine (find_c HT3.out (i := 0) rfl ⟨nm, ty, cl⟩ (549755813888 + (p : Int)) (some ⟨f, v, halfT + (lif : Int)⟩) v.code ((lif : Int) - (p : Int)) true hP hq1 hq2 hq3 HG1 (Lib.hid rfl) HL1' (Lib.hid rfl)).mono ?_
                    rintro e w4 ⟨fa, fn, fc, ga, gn, gc, rfl, hov4, hT4, hcc4⟩
                    have HT4 : Hid (Cabs w w4 (301 + j) [⟨cb, n, 1, 5, c3⟩]) := Lib.hid (by rw [HC3'.out]; exact hT4)
                    have HK4 := Lib.hid (HK3.out.trans hcc4.ck)
                    have HR4 : Hid (RdV w4 (v.code : Nat) (.slice fa fn fc) (.slice ga gn gc) v) := Lib.hid hov4.rd
                    have hz4 := (HX9.out.ck HK4.out).c3
                    have hy4 := (HV9.out.ck HK4.out).same ((Chg.refl [] w4).alloc (.cells #[.int .u8 (v.code : Nat), .slice fa fn fc, .slice ga gn gc] 34))
                    obtain ⟨y0, y1, y2⟩ := hy4.c3
                    clear hov4 hT4 hcc4 HT3 HK3 hz4 hy4 z0 z1 z2 HU3 HG1 HL1' HC3'
                    go_wp2_with fail
                    refine calls_abs ?_
                    intro w5 hw5
                    have dc5 : Chg [] w4 w5 := by rw [hw5]; exact (Chg.refl _ _).alloc _
                    have HT5 := Lib.hid (HT4.out.same dc5)
                    have HK5 := Lib.hid (HK4.out.trans (chg_ck dc5))
                    have HR5 := Lib.hid (HR4.out.same dc5)
                    have HS5 := Lib.hid ((HV.out.rd HOV.out).same HT5.out.isChg)
                    clear hw5 dc5 HT4 HK4 HR4 y0 y1 y2
                    refine (sameV_true _ _ _ _ _ _ v w5 HR5.out HS5.out).mono ?_
                    rintro e w6 ⟨rfl, dc6⟩
                    have HT6 := Lib.hid (HT5.out.same dc6)
                    have HK6 := Lib.hid (HK5.out.trans (chg_ck dc6))
                    obtain ⟨z0, z1, z2⟩ := (HX9.out.ck HK6.out).c3
                    simp only at z0 z1 z2
                    clear dc6 HT5 HK5 HR5 HS5
                    go_wp2_with fail
                    refine (find_c HT6.out (i := 0) rfl ⟨nm, ty, cl⟩ (549755813888 + (lif : Int) - 1) (some ⟨f, v, halfT + (lif : Int)⟩) v.code 1 true hP hq1 hq2 hq3 HG2 (Lib.hid rfl) HL2' (Lib.hid rfl)).mono ?_
                    rintro e w7 ⟨fa2, fn2, fc2, ga2, gn2, gc2, rfl, _, hT7, hcc7⟩
                    have HT7 : Hid (Cabs w w7 (301 + j) [⟨cb, n, 1, 5, c4⟩]) := Lib.hid (by rw [HC4'.out]; exact hT7)
                    have HK7 := Lib.hid (HK6.out.trans hcc7.ck)
                    clear hT7 hcc7 HT6 HK6 z0 z1 z2 HG2 HL2' HC4'
                    obtain ⟨z0, z1, z2⟩ := (HX9.out.ck HK7.out).c3
                    simp only at z0 z1 z2
                    go_wp2_with fail
                    refine (find_c HT7.out (i := 0) rfl ⟨nm, ty, cl⟩ (549755813888 + (lif : Int)) none 0 0 false hP hq1 hq2 hq3 HG3 (Lib.hid rfl) (Lib.hid rfl) (Lib.hid rfl)).mono ?_
                    rintro e w8 ⟨fa3, fn3, fc3, ga3, gn3, gc3, rfl, _, hT8, hcc8⟩
                    have HEND := Lib.hid ((hT8.isChg.alloc (.cells #[.int .u8 0, .slice fa3 fn3 fc3, .slice ga3 gn3 gc3] 34)).below (Nat.le_refl w.heap.size) (by simp))
                    clear hT8 hcc8 HT7 HK7 z0 z1 z2
                    go_wp2
                    go_ret
                    exact ⟨rfl, HEND.out⟩

end Go.Proofs.Ytgdnfempcjlipaa
