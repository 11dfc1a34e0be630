/- The walks of package repute: Agree, Dissent, Silent. -/
import Derived.Test.YtdbannnbbngckaaRepC
namespace Go.Proofs.Ytdbannnbbngckaa
open Go.RowKit

def agreeI (L : Nat) (us : List Up) (u : Int) : List Up := if hasB us u then agreeB L us u.toNat else us
def silentI (us : List Up) (u : Int) : List Up := if hasB us u then silentB us u.toNat else us
def nowB (n : Int) : Bool := decide (0 ≤ n ∧ n ≤ 1099511627776)
def disI (L R : Nat) (us : List Up) (u n : Int) : List Up := if hasB us u && nowB n then disB L R us u.toNat n.toNat else us
/-- The error of a number that is none. -/
def errB (b : Bool) : Nat := if b then 0 else 1

theorem agree_nil (u : Int) (w : World) :
    Calls Try.prog 37 #[.pointer none, .int .i64 u] w fun e w' => e = .returned (.int .i64 2) ∧ w = w' := by
  go_enter Try.func37, Try.ntmps37
  go_wp2
  go_ret
  exact ⟨rfl, rfl⟩
theorem silent_nil (u : Int) (w : World) :
    Calls Try.prog 40 #[.pointer none, .int .i64 u] w fun e w' => e = .returned (.int .i64 2) ∧ w = w' := by
  go_enter Try.func40, Try.ntmps40
  go_wp2
  go_ret
  exact ⟨rfl, rfl⟩
theorem dissent_nil (u n : Int) (w : World) :
    Calls Try.prog 14 #[.pointer none, .int .i64 u, .int .i64 n] w fun e w' => e = .returned (.int .i64 2) ∧ w = w' := by
  go_enter Try.func14, Try.ntmps14
  go_wp2
  go_ret
  exact ⟨rfl, rfl⟩

set_option maxHeartbeats 1000000 in
theorem agree_any (b r L R : Nat) (us : List Up) (u : Int) (w : World) (h : Book w b r L R us) :
    Calls Try.prog 37 #[.pointer (some ⟨b, 0, none⟩), .int .i64 u] w fun e w' => e = .returned (.int .i64 (errB (hasB us u) : Nat)) ∧ Book w' b r L R (agreeI L us u) ∧ Chg [r] w w' := by
  by_cases hh : hasB us u = true
  · obtain ⟨n, rfl, hn⟩ := nat_of_has hh
    obtain ⟨cap, hcap, c2⟩ := h.c2
    obtain ⟨p, hp⟩ : ∃ p, p = us[n] := ⟨_, rfl⟩
    obtain ⟨o0, o1, o2, o3, o4, o5, o6⟩ := h.row.one n hn
    rw [← hp] at o0 o1 o2 o3 o4 o5 o6
    have hni : (n : Int) < (us.length : Int) := by omega
    have HB : Hid (true = hasB us n) := Lib.hid hh.symm
    have hok : UpOk p := by rw [hp]; exact h.ok _ (List.getElem_mem hn)
    have hps := hok.score
    have hpa := hok.agree
    have f0 := h.row.fr (n * 7)
    have f1 := h.row.fr (n * 7 + 1)
    have hbr : b ≠ r := Ne.symm h.ne
    have HP := Lib.hid hp
    obtain ⟨q, hq⟩ : ∃ q : Up, q = { p with agree := cnt p.agree, score := min (p.score + 1) 100 } := ⟨_, rfl⟩
    have okq : UpOk q := by rw [hq]; exact ⟨by show min _ _ ≤ _; omega, cnt_le _, hok.3, hok.4, hok.5⟩
    have HQA : Hid (q.agree = cnt p.agree) := Lib.hid (by rw [hq])
    have hqs : q.score = min (p.score + 1) 100 := by rw [hq]
    have emin : (if (100 : Int) < (p.score : Int) + 1 then 100 else (p.score : Int) + 1) = (q.score : Int) := by rw [hqs]; split <;> omega
    have HQ := Lib.hid hq
    have HFIN : Hid (agreeI L us n = us.set n (q.look L)) := by
      refine Lib.hid ?_
      unfold agreeI
      rw [hh, if_pos rfl, Int.toNat_natCast]
      unfold agreeB
      rw [modify_set us n _ hn, ← hp, hq]
      rfl
    have HE : Hid (errB (hasB us n) = 0) := Lib.hid (by rw [hh]; rfl)
    rw [HE.out]
    clear hh hp hq hqs
    go_enter Try.func37, Try.ntmps37
    go_wp2_with (first | (go_at_call 34; refine (has_any b r L R us _ _ h true HB).mono ?_; rintro e w' ⟨rfl, rfl⟩) | (go_at_call 52; refine (count_r p.agree q.agree HQA hpa _).mono ?_; rintro e w' ⟨rfl, rfl⟩))
    clear emin
    refine calls_abs ?_
    intro w1 hw1
    have hrow : UpsAt 63 w1 r (us.set n q) := by
      rw [hw1, HQ.out]
      exact (h.row.upd n 1 p { p with agree := cnt p.agree } hn HP.out.symm (by decide) _ rfl).upd2 0 _ hn (by decide) _ rfl
    have hC1 : Chg [r] w w1 := by
      rw [hw1]
      iterate 2 (refine Chg.setCell ?_ (.inl (by simp)) _)
      exact Chg.refl _ _
    have h1 : Book w1 b r L R (us.set n q) := h.to hC1 (by simp) (allOk_set h.ok okq) hrow
    have hn1 : n < (us.set n q).length := by simpa using hn
    clear hw1 o0 o1 o2 o3 o4 o5 o6 f0 f1 c2 hrow
    refine (step_climb b r L R n (us.set n q) 0 w1 h1 hn1).mono ?_
    rintro e w2 ⟨rfl, hrow2, hc2⟩
    rw [List.getElem_set_self, List.set_set] at hrow2
    go_wp2
    go_ret
    rw [HFIN.out]
    exact ⟨rfl, h.to (hC1.trans hc2) (by simp) (allOk_set h.ok (look_ok okq)) hrow2, hC1.trans hc2⟩
  · have HB : Hid (false = hasB us u) := Lib.hid (by simpa using Ne.symm hh)
    have HF : Hid (agreeI L us u = us) := Lib.hid (by unfold agreeI; rw [← HB.out]; rfl)
    have HE : Hid (errB (hasB us u) = 1) := Lib.hid (by rw [← HB.out]; rfl)
    rw [HF.out, HE.out]
    clear hh
    go_enter Try.func37, Try.ntmps37
    go_wp2_with (go_at_call 34; refine (has_any b r L R us _ _ h false HB).mono ?_; rintro e w' ⟨rfl, rfl⟩)
    go_ret
    exact ⟨rfl, h, Chg.refl _ _⟩

set_option maxHeartbeats 1000000 in
theorem silent_any (b r L R : Nat) (us : List Up) (u : Int) (w : World) (h : Book w b r L R us) :
    Calls Try.prog 40 #[.pointer (some ⟨b, 0, none⟩), .int .i64 u] w fun e w' => e = .returned (.int .i64 (errB (hasB us u) : Nat)) ∧ Book w' b r L R (silentI us u) ∧ Chg [r] w w' := by
  by_cases hh : hasB us u = true
  · obtain ⟨n, rfl, hn⟩ := nat_of_has hh
    obtain ⟨cap, hcap, c2⟩ := h.c2
    obtain ⟨p, hp⟩ : ∃ p, p = us[n] := ⟨_, rfl⟩
    obtain ⟨o0, o1, o2, o3, o4, o5, o6⟩ := h.row.one n hn
    rw [← hp] at o0 o1 o2 o3 o4 o5 o6
    have hni : (n : Int) < (us.length : Int) := by omega
    have HB : Hid (true = hasB us n) := Lib.hid hh.symm
    have hok : UpOk p := by rw [hp]; exact h.ok _ (List.getElem_mem hn)
    have hps := hok.score
    have hpa := hok.silent
    have f0 := h.row.fr (n * 7)
    have f3 := h.row.fr (n * 7 + 3)
    have hbr : b ≠ r := Ne.symm h.ne
    have HP := Lib.hid hp
    obtain ⟨q, hq⟩ : ∃ q : Up, q = p.silentS := ⟨_, rfl⟩
    have okq : UpOk q := by rw [hq]; exact silentS_ok hok
    have HQA : Hid (q.silent = cnt p.silent) := Lib.hid (by rw [hq]; rfl)
    have hqs : q.score = p.score - 2 := by rw [hq]; rfl
    have emax : (if (p.score : Int) - 2 < 0 then 0 else (p.score : Int) - 2) = (q.score : Int) := by rw [hqs]; split <;> omega
    have HQ := Lib.hid hq
    have HFIN : Hid (silentI us n = us.set n q) := by
      refine Lib.hid ?_
      unfold silentI
      rw [hh, if_pos rfl, Int.toNat_natCast]
      unfold silentB
      rw [modify_set us n _ hn, ← hp, hq]
    have HE : Hid (errB (hasB us n) = 0) := Lib.hid (by rw [hh]; rfl)
    rw [HE.out]
    clear hh hp hq hqs
    go_enter Try.func40, Try.ntmps40
    go_wp2_with (first | (go_at_call 34; refine (has_any b r L R us _ _ h true HB).mono ?_; rintro e w' ⟨rfl, rfl⟩) | (go_at_call 52; refine (count_r p.silent q.silent HQA hpa _).mono ?_; rintro e w' ⟨rfl, rfl⟩))
    go_ret
    have hC1 : Chg [r] w ((w.setCell ⟨r, n * 7 + 3, none⟩ (.int .i64 q.silent)).setCell ⟨r, n * 7, none⟩ (.int .i64 q.score)) := by
      iterate 2 (refine Chg.setCell ?_ (.inl (by simp)) _)
      exact Chg.refl _ _
    rw [HFIN.out]
    refine ⟨rfl, h.to hC1 (by simp) (allOk_set h.ok okq) ?_, hC1⟩
    rw [HQ.out]
    exact (h.row.upd n 3 p { p with silent := cnt p.silent } hn HP.out.symm (by decide) _ rfl).upd2 0 _ hn (by decide) _ rfl
  · have HB : Hid (false = hasB us u) := Lib.hid (by simpa using Ne.symm hh)
    have HF : Hid (silentI us u = us) := Lib.hid (by unfold silentI; rw [← HB.out]; rfl)
    have HE : Hid (errB (hasB us u) = 1) := Lib.hid (by rw [← HB.out]; rfl)
    rw [HF.out, HE.out]
    clear hh
    go_enter Try.func40, Try.ntmps40
    go_wp2_with (go_at_call 34; refine (has_any b r L R us _ _ h false HB).mono ?_; rintro e w' ⟨rfl, rfl⟩)
    go_ret
    exact ⟨rfl, h, Chg.refl _ _⟩

set_option maxHeartbeats 1000000 in
theorem dissent_any (b r L R : Nat) (us : List Up) (u n : Int) (w : World) (h : Book w b r L R us) :
    Calls Try.prog 14 #[.pointer (some ⟨b, 0, none⟩), .int .i64 u, .int .i64 n] w fun e w' => e = .returned (.int .i64 (errB (hasB us u && nowB n) : Nat)) ∧ Book w' b r L R (disI L R us u n) ∧ Chg [r] w w' := by
  by_cases hh : hasB us u = true
  · have HB : Hid (true = hasB us u) := Lib.hid hh.symm
    by_cases hnow : 0 ≤ n ∧ n ≤ 1099511627776
    · obtain ⟨u, rfl, hu⟩ := nat_of_has hh
      obtain ⟨m, rfl⟩ : ∃ m : Nat, n = m := ⟨n.toNat, by omega⟩
      have hm : m ≤ 1099511627776 := by omega
      have HN : Hid (nowB m = true) := Lib.hid (decide_eq_true hnow)
      have HF : Hid (disI L R us u m = disB L R us u m) := Lib.hid (by unfold disI; rw [hh, HN.out]; simp)
      have HE : Hid (errB (hasB us u && nowB m) = 0) := Lib.hid (by rw [hh, HN.out]; rfl)
      have hR := h.hR
      rw [HF.out, HE.out]
      have d1 : decide ((m : Int) < 0) = false := by simp
      have d2 : decide (1099511627776 < (m : Int)) = false := by simp; omega
      clear hh hnow
      go_enter Try.func14, Try.ntmps14
      go_wp2_with (go_at_call 34; refine (has_any b r L R us _ _ h true HB).mono ?_; rintro e w' ⟨rfl, rfl⟩)
      refine (step_dis b r L R u m us w h hu hm).mono ?_
      rintro e w1 ⟨rfl, hrow, hc1⟩
      go_wp2
      go_ret
      exact ⟨rfl, h.to hc1 (disB_len _ _ _ _ _) (disB_ok h.ok _ _ (by omega)) hrow, hc1⟩
    · have HN : Hid (nowB n = false) := Lib.hid (decide_eq_false hnow)
      have HF : Hid (disI L R us u n = us) := Lib.hid (by unfold disI; rw [HN.out]; simp)
      have HE : Hid (errB (hasB us u && nowB n) = 1) := Lib.hid (by rw [HN.out]; simp [errB])
      rw [HF.out, HE.out]
      clear hh
      by_cases h0 : n < 0
      · go_enter Try.func14, Try.ntmps14
        go_wp2_with (go_at_call 34; refine (has_any b r L R us _ _ h true HB).mono ?_; rintro e w' ⟨rfl, rfl⟩)
        go_ret
        exact ⟨rfl, h, Chg.refl _ _⟩
      · have d1 : decide (n < 0) = false := by simpa using h0
        have d2 : 1099511627776 < n := by omega
        clear hnow
        go_enter Try.func14, Try.ntmps14
        go_wp2_with (go_at_call 34; refine (has_any b r L R us _ _ h true HB).mono ?_; rintro e w' ⟨rfl, rfl⟩)
        go_ret
        exact ⟨rfl, h, Chg.refl _ _⟩
  · have HB : Hid (false = hasB us u) := Lib.hid (by simpa using Ne.symm hh)
    have HF : Hid (disI L R us u n = us) := Lib.hid (by unfold disI; rw [← HB.out]; rfl)
    have HE : Hid (errB (hasB us u && nowB n) = 1) := Lib.hid (by rw [← HB.out]; rfl)
    rw [HF.out, HE.out]
    clear hh
    go_enter Try.func14, Try.ntmps14
    go_wp2_with (go_at_call 34; refine (has_any b r L R us _ _ h false HB).mono ?_; rintro e w' ⟨rfl, rfl⟩)
    go_ret
    exact ⟨rfl, h, Chg.refl _ _⟩

end Go.Proofs.Ytdbannnbbngckaa
