/- The document's book: Is, bound, look, Silent, Agree. -/
import Derived.Test.YtdbannnbbngckaaRepI20
namespace Go.Proofs.Ytdbannnbbngckaa
open Go.RowKit

abbrev RBook := BookAt 88 90

theorem ris_any (b r L R : Nat) (us : List Up) (u : Int) (w : World) (h : RBook w b r L R us) (B : Bool) (hB : Hid (B = hasB us u)) :
    Calls Try.prog 54 #[.pointer (some ⟨b, 0, none⟩), .int .i64 u] w fun e w' => e = .returned (.bool B) ∧ w = w' := by
  obtain ⟨cap, _, c2⟩ := h.c2
  have hB' : B = decide (0 ≤ u ∧ u < us.length) := hB.out
  by_cases h0 : 0 ≤ u
  · by_cases h1 : u < us.length
    · have hb : B = true := by rw [hB']; simp [h0, h1]
      subst hb
      clear hB hB'
      go_enter Try.func54, Try.ntmps54
      go_wp2
      go_ret
      exact ⟨rfl, rfl⟩
    · have hb : B = false := by rw [hB']; simp [h1]
      subst hb
      clear hB hB'
      have d1 : decide (u < (us.length : Int)) = false := by simpa using h1
      go_enter Try.func54, Try.ntmps54
      go_wp2
      go_ret
      exact ⟨rfl, rfl⟩
  · have hb : B = false := by rw [hB']; simp [h0]
    subst hb
    clear hB hB'
    have d0 : decide (0 ≤ u) = false := by simpa using h0
    go_enter Try.func54, Try.ntmps54
    go_wp2
    go_ret
    exact ⟨rfl, rfl⟩

theorem rbound_any (b r L R : Nat) (us : List Up) (w : World) (h : RBook w b r L R us) :
    Calls Try.prog 60 #[.pointer (some ⟨b, 0, none⟩)] w fun e w' => e = .returned (.int .i64 (bnd L : Nat)) ∧ w = w' := by
  have c0 := h.c0
  have hL := h.hL
  go_enter Try.func60, Try.ntmps60
  go_wp2
  all_goals
    go_ret
    exact ⟨ret_int (by unfold bnd; omega), rfl⟩

set_option maxRecDepth 100000 in
set_option maxHeartbeats 2000000 in
theorem rsilent_any (b r L R : Nat) (us : List Up) (u : Int) (w : World) (h : RBook w b r L R us) :
    Calls Try.prog 41 #[.pointer (some ⟨b, 0, none⟩), .int .i64 u] w fun e w' => e = .returned (.int .i64 (errB (hasB us u) : Nat)) ∧ RBook w' b r L R (silentI us u) ∧ Chg [r] w w' := by
  by_cases hh : hasB us u = true
  · obtain ⟨n, rfl, hn⟩ := nat_of_has hh
    obtain ⟨p, hp⟩ : ∃ p, p = us[n] := ⟨_, rfl⟩
    have hni : (n : Int) < (us.length : Int) := by omega
    have HB : Hid (true = hasB us n) := Lib.hid hh.symm
    have hok : UpOk p := by rw [hp]; exact h.ok _ (List.getElem_mem hn)
    have hps := hok.score
    have hpa := hok.silent
    have hbr : b ≠ r := Ne.symm h.ne
    have HP := Lib.hid hp
    obtain ⟨q, hq⟩ : ∃ q : Up, q = p.silentS := ⟨_, rfl⟩
    have okq : UpOk q := by rw [hq]; exact silentS_ok hok
    have hqa : q.silent = cnt p.silent := by rw [hq]; rfl
    have hqs : q.score = p.score - 2 := by rw [hq]; rfl
    have w1e : IntKind.i64.wrap ((p.silent : Int) + 1) = (p.silent : Int) + 1 := IntWalk.i64_in _ (by omega)
    have w2e : IntKind.i64.wrap ((p.score : Int) - 2) = (p.score : Int) - 2 := IntWalk.i64_in _ (by omega)
    have m1e : (if (p.silent : Int) + 1 < 65535 then (p.silent : Int) + 1 else 65535) = (q.silent : Int) := by rw [hqa]; unfold cnt; split <;> omega
    have m2e : (if (0 : Int) < (p.score : Int) - 2 then (p.score : Int) - 2 else 0) = (q.score : Int) := by rw [hqs]; split <;> omega
    have m3e : (if (2 : Int) < (p.score : Int) then (p.score : Int) - 2 else 0) = (q.score : Int) := by rw [hqs]; split <;> omega
    have HQ := Lib.hid hq
    have HFIN : Hid (silentI us n = us.set n q) := by
      refine Lib.hid ?_
      unfold silentI
      rw [hh, if_pos rfl, Int.toNat_natCast]
      unfold silentB
      rw [modify_set us n _ hn, ← hp, hq]
    have HE : Hid (errB (hasB us n) = 0) := Lib.hid (by rw [hh]; rfl)
    rw [HE.out]
    have hn1 : ∀ x : Up, n < (us.set n x).length := fun x => by simpa using hn
    have HN1 := Lib.hid hn1
    clear hn1
    obtain ⟨p1, hp1⟩ : ∃ p1 : Up, p1 = { p with silent := q.silent } := ⟨_, rfl⟩
    have ok1 : UpOk p1 := by rw [hp1]; exact ⟨hok.1, hok.2, hok.3, okq.4, hok.5⟩
    have HP1 := Lib.hid hp1
    have HP1S : Hid (p1.score = p.score) := Lib.hid (by rw [hp1])
    clear hh hp hq hqs hqa hp1
    go_enter Try.func41, Try.ntmps41
    go_wp2_with (go_at_call 54; refine (ris_any b r L R us _ _ h true HB).mono ?_; rintro e w' ⟨rfl, rfl⟩)
    refine region_tail 17 (by kernel_rfl) (by kernel_rfl) ?_
    intro v0 hv0
    have hC0 : Chg [r] w v0 := by rw [hv0]; exact (Chg.refl _ _).drew
    have g0 : RBook v0 b r L R (us) := by rw [hv0]; exact h.chg ((Chg.refl [] _).drew) (by simp) (by simp)
    clear hv0
    obtain ⟨cap0, hcap0, c20⟩ := g0.c2
    obtain ⟨o0, o1, o2, o3, o4, o5, o6⟩ := g0.row.one n hn
    rw [← HP.out] at o0 o1 o2 o3 o4 o5 o6
    have ff := g0.row.fr (n * 7 + 3)
    simp only [List.take_succ_cons, List.take_zero, List.drop_succ_cons, List.drop_zero]
    repeat still_step
    refine wpStill_nil ?_
    go_upto_region 4 with (fail)
    refine wp_abs ?_
    intro w1 hw1
    have row1 : UpsAt 90 w1 r (us.set n p1) := by
      rw [hw1]
      exact g0.row.upd n 3 p p1 hn HP.out.symm (by decide) _ (by rw [HP1.out]; rfl)
    have hD1 : Chg [r] w w1 := by rw [hw1]; exact hC0.setCell (.inl (by simp)) _
    have h1 : RBook w1 b r L R (us.set n p1) := h.to hD1 (by simp) (allOk_set h.ok ok1) row1
    clear hw1 o0 o1 o2 o3 o4 o5 o6 ff c20 hcap0 row1 g0 hC0
    refine region_tail 17 (by kernel_rfl) (by kernel_rfl) ?_
    intro v1 hv1
    have hC1 : Chg [r] w v1 := by rw [hv1]; exact hD1.drew
    have g1 : RBook v1 b r L R (us.set n p1) := by rw [hv1]; exact h1.chg ((Chg.refl [] _).drew) (by simp) (by simp)
    clear hv1
    obtain ⟨cap1, hcap1, c21⟩ := g1.c2
    rw [List.length_set] at c21 hcap1
    obtain ⟨o0, o1, o2, o3, o4, o5, o6⟩ := g1.row.one n (HN1.out p1)
    rw [List.getElem_set_self] at o0 o1 o2 o3 o4 o5 o6
    rw [HP1S.out] at o0
    have ff := g1.row.fr (n * 7)
    simp only [List.take_succ_cons, List.take_zero, List.drop_succ_cons, List.drop_zero]
    repeat still_step
    refine wpStill_nil ?_
    go_upto_region 5 with (fail)
    refine wp_abs ?_
    intro w2 hw2
    have row2 : UpsAt 90 w2 r (us.set n q) := by
      rw [hw2]
      exact g1.row.upd2 0 q hn (by decide) _ (by rw [HP1.out, HQ.out]; rfl)
    have hD2 : Chg [r] w w2 := by rw [hw2]; exact hC1.setCell (.inl (by simp)) _
    have h2 : RBook w2 b r L R (us.set n q) := h.to hD2 (by simp) (allOk_set h.ok okq) row2
    clear hw2 o0 o1 o2 o3 o4 o5 o6 ff c21 hcap1 row2 g1 hC1
    clear w1e w2e m1e m2e m3e
    go_wp2
    go_ret
    rw [HFIN.out]
    exact ⟨rfl, h2, hD2⟩
  · have HB : Hid (false = hasB us u) := Lib.hid (by simpa using Ne.symm hh)
    have HF : Hid (silentI us u = us) := Lib.hid (by unfold silentI; rw [← HB.out]; rfl)
    have HE : Hid (errB (hasB us u) = 1) := Lib.hid (by rw [← HB.out]; rfl)
    rw [HF.out, HE.out]
    clear hh
    go_enter Try.func41, Try.ntmps41
    go_wp2_with (go_at_call 54; refine (ris_any b r L R us _ _ h false HB).mono ?_; rintro e w' ⟨rfl, rfl⟩)
    go_ret
    exact ⟨rfl, h, Chg.refl _ _⟩

theorem rbound_q (b r L R : Nat) (us : List Up) (B : Nat) (hB : Hid (B = bnd L)) (w : World) (h : RBook w b r L R us) :
    Calls Try.prog 60 #[.pointer (some ⟨b, 0, none⟩)] w fun e w' => e = .returned (.int .i64 B) ∧ w' = w := by
  rw [hB.out]
  exact (rbound_any b r L R us w h).mono fun _ _ hh => ⟨hh.1, hh.2.symm⟩

theorem look_off {L : Nat} {p : Up} (h : p.trial = false) : p.look L = p := by
  unfold Up.look
  split
  · cases p; simp at h; simp [h]
  · rfl

set_option maxRecDepth 100000 in
set_option maxHeartbeats 2000000 in
theorem rlook_any (b r L R n : Nat) (us : List Up) (w : World) (h : RBook w b r L R us) (hn : n < us.length) :
    Calls Try.prog 55 #[.pointer (some ⟨b, 0, none⟩), .int .i64 n] w fun e w' => e = .returned (.tuple #[]) ∧ RBook w' b r L R (us.set n (us[n].look L)) ∧ Chg [r] w w' := by
  obtain ⟨cap, hcap, c2⟩ := h.c2
  obtain ⟨p, hp⟩ : ∃ p, p = us[n] := ⟨_, rfl⟩
  obtain ⟨o0, o1, o2, o3, o4, o5, o6⟩ := h.row.one n hn
  rw [← hp] at o0 o1 o2 o3 o4 o5 o6 ⊢
  have hni : (n : Int) < (us.length : Int) := by omega
  have hok : UpOk p := by rw [hp]; exact h.ok _ (List.getElem_mem hn)
  have f5 := h.row.fr (n * 7 + 5)
  have HP := Lib.hid hp
  have HSAME : Hid (us.set n p = us) := Lib.hid (by rw [hp]; exact set_same us n hn)
  obtain ⟨B, hB⟩ : ∃ B, B = bnd L := ⟨_, rfl⟩
  have HB := Lib.hid hB
  clear hp hB
  cases ht : p.trial with
  | false =>
    rw [ht] at o5
    have HT := Lib.hid ht
    clear ht
    go_enter Try.func55, Try.ntmps55
    go_wp2_with fail
    go_quiet (fail)
    go_wp2
    go_end0
    refine ⟨rfl, ?_, (Chg.refl _ _).drewN _⟩
    rw [look_off HT.out, HSAME.out]
    exact h.chg ((Chg.refl [] _).drewN _) (by simp) (by simp)
  | true =>
    rw [ht] at o5
    have HT := Lib.hid ht
    clear ht
    by_cases hle : B ≤ p.score
    · have HLE := Lib.hid hle
      go_enter Try.func55, Try.ntmps55
      go_wp2_with fail
      go_quiet ((go_at_call 60; exact Calls.quiet_of_same (rbound_q b r L R us B HB _ (h.chg ((Chg.refl [] _).drewN _) (by simp) (by simp)))))
      go_wp2
      go_end0
      have hC : Chg [r] w ((w.setCell ⟨r, n * 7 + 5, none⟩ (.bool false))) := Chg.set1 _ _ _ _
      have hrow : UpsAt 90 (w.setCell ⟨r, n * 7 + 5, none⟩ (.bool false)) r (us.set n { p with trial := false }) := h.row.upd n 5 p _ hn HP.out.symm (by decide) _ rfl
      have hb : RBook (w.setCell ⟨r, n * 7 + 5, none⟩ (.bool false)) b r L R (us.set n { p with trial := false }) := h.to hC (by simp) (allOk_set h.ok ⟨hok.1, hok.2, hok.3, hok.4, hok.5⟩) hrow
      rw [look_yes (by rw [← HB.out]; exact HLE.out)]
      exact ⟨rfl, hb.chg ((Chg.refl [] _).drewN _) (by simp) (by simp), hC.drewN _⟩
    · have HLE := Lib.hid hle
      have hd : decide (B ≤ p.score) = false := by simpa using hle
      clear hle
      go_enter Try.func55, Try.ntmps55
      go_wp2_with fail
      go_quiet ((go_at_call 60; exact Calls.quiet_of_same (rbound_q b r L R us B HB _ (h.chg ((Chg.refl [] _).drewN _) (by simp) (by simp)))))
      go_wp2
      go_end0
      refine ⟨rfl, ?_, (Chg.refl _ _).drewN _⟩
      rw [look_no (by rw [← HB.out]; exact HLE.out), HSAME.out]
      exact h.chg ((Chg.refl [] _).drewN _) (by simp) (by simp)

set_option maxRecDepth 100000 in
set_option maxHeartbeats 2000000 in
theorem ragree_any (b r L R : Nat) (us : List Up) (u : Int) (w : World) (h : RBook w b r L R us) :
    Calls Try.prog 38 #[.pointer (some ⟨b, 0, none⟩), .int .i64 u] w fun e w' => e = .returned (.int .i64 (errB (hasB us u) : Nat)) ∧ RBook w' b r L R (agreeI L us u) ∧ Chg [r] w w' := by
  by_cases hh : hasB us u = true
  · obtain ⟨n, rfl, hn⟩ := nat_of_has hh
    obtain ⟨p, hp⟩ : ∃ p, p = us[n] := ⟨_, rfl⟩
    have hni : (n : Int) < (us.length : Int) := by omega
    have HB : Hid (true = hasB us n) := Lib.hid hh.symm
    have hok : UpOk p := by rw [hp]; exact h.ok _ (List.getElem_mem hn)
    have hps := hok.score
    have hpa := hok.agree
    have hbr : b ≠ r := Ne.symm h.ne
    have HP := Lib.hid hp
    obtain ⟨q, hq⟩ : ∃ q : Up, q = { p with agree := cnt p.agree, score := min (p.score + 1) 100 } := ⟨_, rfl⟩
    have okq : UpOk q := by rw [hq]; exact ⟨by show min _ _ ≤ _; omega, cnt_le _, hok.3, hok.4, hok.5⟩
    have hqa : q.agree = cnt p.agree := by rw [hq]
    have hqs : q.score = min (p.score + 1) 100 := by rw [hq]
    have w1e : IntKind.i64.wrap ((p.agree : Int) + 1) = (p.agree : Int) + 1 := IntWalk.i64_in _ (by omega)
    have w2e : IntKind.i64.wrap ((p.score : Int) + 1) = (p.score : Int) + 1 := IntWalk.i64_in _ (by omega)
    have m1e : (if (p.agree : Int) + 1 < 65535 then (p.agree : Int) + 1 else 65535) = (q.agree : Int) := by rw [hqa]; unfold cnt; split <;> omega
    have m2e : (if (p.score : Int) + 1 < 100 then (p.score : Int) + 1 else 100) = (q.score : Int) := by rw [hqs]; split <;> omega
    have HQ := Lib.hid hq
    have HFIN : Hid (agreeI L us n = us.set n (q.look L)) := by
      refine Lib.hid ?_
      unfold agreeI
      rw [hh, if_pos rfl, Int.toNat_natCast]
      unfold agreeB
      rw [modify_set us n _ hn, ← hp, hq]
      rfl
    have HE : Hid (errB (hasB us n) = 0) := Lib.hid (by rw [hh]; rfl)
    rw [HE.out]
    have hn1 : ∀ x : Up, n < (us.set n x).length := fun x => by simpa using hn
    have HN1 := Lib.hid hn1
    clear hn1
    obtain ⟨p1, hp1⟩ : ∃ p1 : Up, p1 = { p with agree := q.agree } := ⟨_, rfl⟩
    have ok1 : UpOk p1 := by rw [hp1]; exact ⟨hok.1, okq.2, hok.3, hok.4, hok.5⟩
    have HP1 := Lib.hid hp1
    have HP1S : Hid (p1.score = p.score) := Lib.hid (by rw [hp1])
    clear hh hp hq hqs hqa hp1
    go_enter Try.func38, Try.ntmps38
    go_wp2_with (go_at_call 54; refine (ris_any b r L R us _ _ h true HB).mono ?_; rintro e w' ⟨rfl, rfl⟩)
    refine region_tail 17 (by kernel_rfl) (by kernel_rfl) ?_
    intro v0 hv0
    have hC0 : Chg [r] w v0 := by rw [hv0]; exact (Chg.refl _ _).drew
    have g0 : RBook v0 b r L R (us) := by rw [hv0]; exact h.chg ((Chg.refl [] _).drew) (by simp) (by simp)
    clear hv0
    obtain ⟨cap0, hcap0, c20⟩ := g0.c2
    obtain ⟨o0, o1, o2, o3, o4, o5, o6⟩ := g0.row.one n hn
    rw [← HP.out] at o0 o1 o2 o3 o4 o5 o6
    have ff := g0.row.fr (n * 7 + 1)
    simp only [List.take_succ_cons, List.take_zero, List.drop_succ_cons, List.drop_zero]
    repeat still_step
    refine wpStill_nil ?_
    go_upto_region 4 with (fail)
    refine wp_abs ?_
    intro w1 hw1
    have row1 : UpsAt 90 w1 r (us.set n p1) := by
      rw [hw1]
      exact g0.row.upd n 1 p p1 hn HP.out.symm (by decide) _ (by rw [HP1.out]; rfl)
    have hD1 : Chg [r] w w1 := by rw [hw1]; exact hC0.setCell (.inl (by simp)) _
    have h1 : RBook w1 b r L R (us.set n p1) := h.to hD1 (by simp) (allOk_set h.ok ok1) row1
    clear hw1 o0 o1 o2 o3 o4 o5 o6 ff c20 hcap0 row1 g0 hC0
    refine region_tail 17 (by kernel_rfl) (by kernel_rfl) ?_
    intro v1 hv1
    have hC1 : Chg [r] w v1 := by rw [hv1]; exact hD1.drew
    have g1 : RBook v1 b r L R (us.set n p1) := by rw [hv1]; exact h1.chg ((Chg.refl [] _).drew) (by simp) (by simp)
    clear hv1
    obtain ⟨cap1, hcap1, c21⟩ := g1.c2
    rw [List.length_set] at c21 hcap1
    obtain ⟨o0, o1, o2, o3, o4, o5, o6⟩ := g1.row.one n (HN1.out p1)
    rw [List.getElem_set_self] at o0 o1 o2 o3 o4 o5 o6
    rw [HP1S.out] at o0
    have ff := g1.row.fr (n * 7)
    simp only [List.take_succ_cons, List.take_zero, List.drop_succ_cons, List.drop_zero]
    repeat still_step
    refine wpStill_nil ?_
    go_wp2_with fail
    refine calls_abs ?_
    intro w2 hw2
    have row2 : UpsAt 90 w2 r (us.set n q) := by
      rw [hw2]
      exact g1.row.upd2 0 q hn (by decide) _ (by rw [HP1.out, HQ.out]; rfl)
    have hD2 : Chg [r] w w2 := by rw [hw2]; exact hC1.setCell (.inl (by simp)) _
    have h2 : RBook w2 b r L R (us.set n q) := h.to hD2 (by simp) (allOk_set h.ok okq) row2
    clear hw2 o0 o1 o2 o3 o4 o5 o6 ff c21 hcap1 row2 g1 hC1
    clear w1e w2e m1e m2e
    refine (rlook_any b r L R n (us.set n q) _ h2 (HN1.out q)).mono ?_
    rintro e w3 ⟨rfl, h3, hc3⟩
    rw [List.getElem_set_self, List.set_set] at h3
    go_wp2
    go_ret
    rw [HFIN.out]
    exact ⟨rfl, h3, hD2.trans hc3⟩
  · have HB : Hid (false = hasB us u) := Lib.hid (by simpa using Ne.symm hh)
    have HF : Hid (agreeI L us u = us) := Lib.hid (by unfold agreeI; rw [← HB.out]; rfl)
    have HE : Hid (errB (hasB us u) = 1) := Lib.hid (by rw [← HB.out]; rfl)
    rw [HF.out, HE.out]
    clear hh
    go_enter Try.func38, Try.ntmps38
    go_wp2_with (go_at_call 54; refine (ris_any b r L R us _ _ h false HB).mono ?_; rintro e w' ⟨rfl, rfl⟩)
    go_ret
    exact ⟨rfl, h, Chg.refl _ _⟩

end Go.Proofs.Ytdbannnbbngckaa
