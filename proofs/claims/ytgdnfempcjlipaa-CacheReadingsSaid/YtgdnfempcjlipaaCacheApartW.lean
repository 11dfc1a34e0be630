/- The walk of CacheApart. -/
import Derived.Test.YtgdnfempcjlipaaCaB
namespace Go.Proofs.Ytgdnfempcjlipaa
open Go.RowKit Go.Maps

theorem Cabs.cast {w wr : World} {P Q : Nat} {T U : List Chn} (h : Cabs w wr P T) (hP : P ≤ Q) (hT : T = U) : Cabs w wr Q U := by subst hT; exact h.mono hP
theorem rowLen {n : Nat} {c : Cst} (h : OkM n c) (hn : n ≤ 256) : (c.M.map (·.q)).length ≤ 1000 := by rw [List.length_map]; have := h.len; omega
theorem room_le (x : Int) : 1 ≤ roomN x ∧ roomN x ≤ 256 := by unfold roomN; omega
theorem nat_u64 {n : Int} (h : (Lit.int .u64 n).wf = true) : ∃ k : Nat, n = (k : Int) ∧ k < 18446744073709551616 := by
  simp [Lit.wf, IntKind.min, IntKind.max, IntKind.signed, IntKind.bits] at h
  exact ⟨n.toNat, by omega, by omega⟩
def qZ : Qn := ⟨bs [0], 1, 1⟩
theorem ok_z : okK qZ 3 = true := by decide
set_option maxRecDepth 100000 in
set_option maxHeartbeats 4000000 in
theorem cacheApart_walk (x : Int) (la : Option Addr) (lc : Nat) (l : List ActT) (ma : Option Addr) (mc : Nat) (more : List ActT) (k m : Int) (w : World) (_hx : (Lit.int .i64 x).wf = true) (hA : IsActs w la l) (hB : IsActs w ma more) (hk : (Lit.int .u64 k).wf = true) (hm : (Lit.int .u64 m).wf = true) :
    Calls Try.prog 7 #[.int .i64 x, .slice la l.length lc, .slice ma more.length mc, .int .u64 k, .int .u64 m] w fun e w' => e = .returned (.bool true) ∧ Below w.heap.size w w' := by
  obtain ⟨kn, rfl, hkn⟩ := nat_u64 hk
  obtain ⟨mn, rfl, hmn⟩ := nat_u64 hm
  have HA := Lib.hid hA
  have HB := Lib.hid hB
  clear hA hB hk hm
  go_enter Try.func7, Try.ntmps7
  go_wp2_with fail
  refine (long_any la lc l w HA.out).mono ?_
  rintro e w1 ⟨b1, rfl, hb1, hc1⟩
  cases b1 with
  | true =>
    go_wp2_with fail
    refine (awake_any _).mono ?_
    rintro e w9 ⟨rfl, hc9⟩
    go_wp2
    go_ret
    exact ⟨rfl, (hc1.trans hc9).below (Nat.le_refl _) (by simp)⟩
  | false =>
    have HO1 := Lib.hid (hb1 rfl)
    clear hb1
    go_wp2_with fail
    refine (long_any ma mc more w1 (HB.out.chg hc1)).mono ?_
    rintro e w2 ⟨b2, rfl, hb2, dc2⟩
    have hc2 := hc1.trans dc2
    clear hc1 dc2
    cases b2 with
    | true =>
      go_wp2_with fail
      refine (awake_any _).mono ?_
      rintro e w9 ⟨rfl, hc9⟩
      go_wp2
      go_ret
      exact ⟨rfl, (hc2.trans hc9).below (Nat.le_refl _) (by simp)⟩
    | false =>
      have HO2 := Lib.hid (hb2 rfl)
      clear hb2
      go_wp2_with fail
      refine (awake_any _).mono ?_
      rintro e w3 ⟨rfl, dc3⟩
      have HC3 := Lib.hid (hc2.trans dc3)
      obtain ⟨n, hn⟩ : ∃ n, n = roomN x := ⟨_, rfl⟩
      have hn1 : 1 ≤ n ∧ n ≤ 256 := by rw [hn]; exact room_le x
      have HN := Lib.hid hn
      obtain ⟨p1, hp1⟩ : ∃ p1, p1 = l.length := ⟨_, rfl⟩
      obtain ⟨p2, hp2⟩ : ∃ p2, p2 = more.length := ⟨_, rfl⟩
      have b1 : p1 ≤ 300 := by rw [hp1]; exact HO1.out.1
      have b2 : p2 ≤ 300 := by rw [hp2]; exact HO2.out.1
      have HP1 := Lib.hid hp1
      have HP2 := Lib.hid hp2
      clear hc2 dc3 hn hp1 hp2
      go_wp2_with fail
      refine (made_c (Cabs.nil (P := 0) HC3.out) x kn n hkn HN).mono ?_
      rintro e w4 ⟨ca, rfl, hT4, hc4⟩
      have HT4 : Hid (Cabs w w4 0 [⟨ca, n, kn, 5, ⟨0, []⟩⟩]) := Lib.hid hT4
      clear hT4 hc4 HC3
      go_wp2_with fail
      refine (made_c HT4.out x mn n hmn HN).mono ?_
      rintro e w5 ⟨cb, rfl, hT5, hc5⟩
      have HT5 : Hid (Cabs w w5 0 [⟨ca, n, kn, 5, ⟨0, []⟩⟩, ⟨cb, n, mn, 5, ⟨0, []⟩⟩]) := Lib.hid hT5
      clear hT5 hc5 HT4
      go_wp2_with fail
      refine (play_c HT5.out (i0 := 0) rfl la lc l HA.out HO1.out (by omega)).mono ?_
      rintro e w6 ⟨rfl, hT6, _⟩
      obtain ⟨c1, hc1⟩ : ∃ c1, c1 = runA n ⟨0, []⟩ l := ⟨_, rfl⟩
      have HT6 : Hid (Cabs w w6 300 [⟨ca, n, kn, 5, c1⟩, ⟨cb, n, mn, 5, ⟨0, []⟩⟩]) := Lib.hid (hT6.cast (by have := HP1.out; omega) (by rw [hc1]; rfl))
      have HC1 := Lib.hid hc1
      clear hT6 HT5 hc1
      go_wp2_with fail
      refine (play_c HT6.out (i0 := 1) rfl la lc l HA.out HO1.out (by omega)).mono ?_
      rintro e w7 ⟨rfl, hT7, _⟩
      have HT7 : Hid (Cabs w w7 600 [⟨ca, n, kn, 5, c1⟩, ⟨cb, n, mn, 5, c1⟩]) := Lib.hid (hT7.cast (by have := HP1.out; omega) (by rw [HC1.out]; rfl))
      clear hT7 HT6
      have HOK1 := Lib.hid (HT7.out.ok (i := 0) rfl)
      obtain ⟨r1, hr1⟩ : ∃ r1, r1 = c1.M.map (·.q) := ⟨_, rfl⟩
      have HR1 := Lib.hid hr1
      have HQ1 : Hid ((∀ q ∈ r1, OkQ q) ∧ r1.length ≤ 1000) := Lib.hid ⟨by rw [hr1]; exact HOK1.out.okq, by rw [hr1]; exact rowLen HOK1.out hn1.2⟩
      clear hr1
      go_wp2_with fail
      refine (row_c HT7.out (i := 0) rfl r1 HR1).mono ?_
      rintro e w8 ⟨ya, yc, rfl, hr8, hc8⟩
      have HT8 := Lib.hid (HT7.out.same hc8)
      have HR8 := Lib.hid hr8
      clear hr8 hc8 HT7
      go_wp2_with fail
      refine (row_c HT8.out (i := 1) rfl r1 HR1).mono ?_
      rintro e w9 ⟨za, zc, rfl, hr9, hc9⟩
      have HT9 := Lib.hid (HT8.out.same hc9)
      have HR9 := Lib.hid (HR8.out.same hc9)
      have HS9 := Lib.hid hr9
      clear hr9 hc9 HT8 HR8
      go_wp2_with fail
      refine (same_rows HR9.out HS9.out HQ1.out.1 HQ1.out.2).mono ?_
      rintro e w10 ⟨rfl, hc10⟩
      have HT10 := Lib.hid (HT9.out.same hc10)
      clear hc10 HT9 HR9 HS9
      go_wp2_with fail
      refine (copy_c HT10.out (i := 0) rfl hn1.1 (by omega)).mono ?_
      rintro e w11 ⟨cc, rfl, hT11, hc11⟩
      have HT11 : Hid (Cabs w w11 600 [⟨ca, n, kn, 5, c1⟩, ⟨cb, n, mn, 5, c1⟩, ⟨cc, n, kn, 5, c1⟩]) := Lib.hid hT11
      clear hT11 hc11 HT10
      go_wp2_with fail
      refine (play_c HT11.out (i0 := 2) rfl ma mc more HB.out HO2.out (by omega)).mono ?_
      rintro e w12 ⟨rfl, hT12, _⟩
      obtain ⟨c2, hc2⟩ : ∃ c2, c2 = runA n c1 more := ⟨_, rfl⟩
      have HT12 : Hid (Cabs w w12 900 [⟨ca, n, kn, 5, c1⟩, ⟨cb, n, mn, 5, c1⟩, ⟨cc, n, kn, 5, c2⟩]) := Lib.hid (hT12.cast (by have := HP2.out; omega) (by rw [hc2]; rfl))
      have HC2 := Lib.hid hc2
      clear hT12 HT11 hc2
      have HOK2 := Lib.hid (HT12.out.ok (i := 2) rfl)
      obtain ⟨r2, hr2⟩ : ∃ r2, r2 = c2.M.map (·.q) := ⟨_, rfl⟩
      have HR2 := Lib.hid hr2
      have HQ2 : Hid ((∀ q ∈ r2, OkQ q) ∧ r2.length ≤ 1000) := Lib.hid ⟨by rw [hr2]; exact HOK2.out.okq, by rw [hr2]; exact rowLen HOK2.out hn1.2⟩
      clear hr2
      go_wp2_with fail
      refine (row_c HT12.out (i := 2) rfl r2 HR2).mono ?_
      rintro e w13 ⟨ka, kc, rfl, hr13, hc13⟩
      have HT13 := Lib.hid (HT12.out.same hc13)
      have HK13 := Lib.hid hr13
      clear hr13 hc13 HT12
      go_wp2_with fail
      refine (row_c HT13.out (i := 0) rfl r1 HR1).mono ?_
      rintro e w14 ⟨ua, uc, rfl, hr14, hc14⟩
      have HT14 := Lib.hid (HT13.out.same hc14)
      have HK14 := Lib.hid (HK13.out.same hc14)
      have HU14 := Lib.hid hr14
      clear hr14 hc14 HT13 HK13
      go_wp2_with fail
      refine (row_c HT14.out (i := 1) rfl r1 HR1).mono ?_
      rintro e w15 ⟨va, vc, rfl, hr15, hc15⟩
      have HT15 := Lib.hid (HT14.out.same hc15)
      have HK15 := Lib.hid (HK14.out.same hc15)
      have HU15 := Lib.hid (HU14.out.same hc15)
      have HV15 := Lib.hid hr15
      clear hr15 hc15 HT14 HK14 HU14
      go_wp2_with fail
      refine (same_rows HU15.out HV15.out HQ1.out.1 HQ1.out.2).mono ?_
      rintro e w16 ⟨rfl, hc16⟩
      have HT16 := Lib.hid (HT15.out.same hc16)
      have HK16 := Lib.hid (HK15.out.same hc16)
      clear hc16 HT15 HK15 HU15 HV15
      obtain ⟨rr, hrr⟩ : ∃ rr : Nat, rr = c1.M.length - (advC c1 1099511627776).M.length := ⟨_, rfl⟩
      have HRR := Lib.hid hrr
      clear hrr
      go_wp2_with fail
      refine (expire_c HT16.out (i := 0) rfl 1099511627776 rr (by omega) HRR).mono ?_
      rintro e w17 ⟨rfl, hT17, hcc17⟩
      have HT17 : Hid (Cabs w w17 900 [⟨ca, n, kn, 5, advC c1 1099511627776⟩, ⟨cb, n, mn, 5, c1⟩, ⟨cc, n, kn, 5, c2⟩]) := Lib.hid hT17
      have HK17 := Lib.hid (hcc17.ownR HK16.out (by decide))
      clear hT17 hcc17 HT16 HK16
      go_wp2_with fail
      refine (q_arr (bs [0]) w17).mono ?_
      rintro e w18 ⟨rfl, hc18⟩
      have HT18 := Lib.hid (HT17.out.same hc18)
      have HK18 := Lib.hid (HK17.out.same hc18)
      clear hc18 HT17 HK17
      go_wp2_with fail
      refine (says_any 1 w18 (by omega)).mono ?_
      rintro e w19 ⟨sa, oa, rfl, hs19, hc19⟩
      have HT19 := Lib.hid (HT18.out.same hc19)
      have HK19 := Lib.hid (HK18.out.same hc19)
      have HS19 := Lib.hid (hs19.low (Nat.zero_le _))
      clear hs19 hc19 HT18 HK18
      go_wp2_with fail
      refine (keep_c HT19.out (i := 0) rfl qZ 1 sa oa 1 1 0 0 (saysV 1) 3 1099511627776 (by omega) (le_max (by decide)) (by decide) (by decide) (by omega) (.inr HS19.out) 0 (Lib.hid (by rw [if_pos ok_z]))).mono ?_
      rintro e w20 ⟨rfl, hT20, hcc20⟩
      obtain ⟨c3, hc3⟩ : ∃ c3, c3 = keepC n (advC c1 1099511627776) qZ (saysV 1) 3 1099511627776 := ⟨_, rfl⟩
      have HT20 : Hid (Cabs w w20 901 [⟨ca, n, kn, 5, c3⟩, ⟨cb, n, mn, 5, c1⟩, ⟨cc, n, kn, 5, c2⟩]) := Lib.hid (by rw [hc3]; exact hT20)
      have HK20 := Lib.hid (hcc20.ownR HK19.out (by decide))
      clear hT20 hcc20 HT19 HK19 HS19 hc3
      go_wp2_with fail
      refine (play_c HT20.out (i0 := 1) rfl ma mc more HB.out HO2.out (by omega)).mono ?_
      rintro e w21 ⟨rfl, hT21, hck21⟩
      have HT21 : Hid (Cabs w w21 1300 [⟨ca, n, kn, 5, c3⟩, ⟨cb, n, mn, 5, c2⟩, ⟨cc, n, kn, 5, c2⟩]) := Lib.hid (hT21.cast (by have := HP2.out; omega) (by rw [HC2.out]; rfl))
      have HK21 := Lib.hid (hck21.ownR HK20.out (by decide))
      clear hT21 hck21 HT20 HK20
      go_wp2_with fail
      refine (row_c HT21.out (i := 2) rfl r2 HR2).mono ?_
      rintro e w22 ⟨ga, gc, rfl, hr22, hc22⟩
      have HT22 := Lib.hid (HT21.out.same hc22)
      have HK22 := Lib.hid (HK21.out.same hc22)
      have HG22 := Lib.hid hr22
      clear hr22 hc22 HT21 HK21
      go_wp2_with fail
      refine (same_rows HG22.out HK22.out HQ2.out.1 HQ2.out.2).mono ?_
      rintro e w23 ⟨rfl, hc23⟩
      have HT23 := Lib.hid (HT22.out.same hc23)
      have HK23 := Lib.hid (HK22.out.same hc23)
      clear hc23 HT22 HK22 HG22
      go_wp2_with fail
      refine (row_c HT23.out (i := 1) rfl r2 HR2).mono ?_
      rintro e w24 ⟨ja, jc, rfl, hr24, hc24⟩
      have HT24 := Lib.hid (HT23.out.same hc24)
      have HK24 := Lib.hid (HK23.out.same hc24)
      have HJ24 := Lib.hid hr24
      clear hr24 hc24 HT23 HK23
      go_wp2_with fail
      refine (same_rows HJ24.out HK24.out HQ2.out.1 HQ2.out.2).mono ?_
      rintro e w25 ⟨rfl, hc25⟩
      have HEND := Lib.hid ((HT24.out.isChg.trans hc25).below (Nat.le_refl _) (by simp))
      clear hc25 HT24 HK24 HJ24
      go_wp2
      go_ret
      exact ⟨rfl, HEND.out⟩

end Go.Proofs.Ytgdnfempcjlipaa
