/- The document's book: Dissent. -/
import Derived.Test.YtdbannnbbngckaaRefB
namespace Go.Proofs.Ytdbannnbbngckaa
open Go.RowKit

set_option maxRecDepth 100000 in
set_option maxHeartbeats 4000000 in
theorem rdissent_in (b r L R n m : Nat) (us : List Up) (w : World) (h : RBook w b r L R us) (hn : n < us.length) (hm : m ≤ 1099511627776) (hodd : us.length % 2 = 1) :
    Calls Try.prog 39 #[.pointer (some ⟨b, 0, none⟩), .int .i64 n, .int .i64 m] w fun e w' => e = .returned (.int .i64 0) ∧ RBook w' b r L R (disB L R us n m) ∧ Chg [r] w w' := by
  obtain ⟨p, hp⟩ : ∃ p, p = us[n] := ⟨_, rfl⟩
  have hni : (n : Int) < (us.length : Int) := by omega
  have HB : Hid (true = hasB us n) := Lib.hid (hasB_iff.2 ⟨by omega, by omega⟩).symm
  have hok : UpOk p := by rw [hp]; exact h.ok _ (List.getElem_mem hn)
  have hps := hok.score
  have hpa := hok.dissent
  have hbr : b ≠ r := Ne.symm h.ne
  have hlen := h.len
  have hR := h.hR
  have d1 : decide ((m : Int) < 0) = false := by simp
  have d2 : decide (1099511627776 < (m : Int)) = false := by simp; omega
  have HP := Lib.hid hp
  obtain ⟨q, hq⟩ : ∃ q : Up, q = p.dis := ⟨_, rfl⟩
  have okq : UpOk q := by rw [hq]; exact dis_ok hok
  have hqa : q.dissent = cnt p.dissent := by rw [hq]; rfl
  have hqs : q.score = p.score - 10 := by rw [hq]; rfl
  have hqr : q.rests = p.rests := by rw [hq]; rfl
  have w1e : IntKind.i64.wrap ((p.dissent : Int) + 1) = (p.dissent : Int) + 1 := IntWalk.i64_in _ (by omega)
  have w2e : IntKind.i64.wrap ((p.score : Int) - 10) = (p.score : Int) - 10 := IntWalk.i64_in _ (by omega)
  have m1e : (if (p.dissent : Int) + 1 < 65535 then (p.dissent : Int) + 1 else 65535) = (q.dissent : Int) := by rw [hqa]; unfold cnt; split <;> omega
  have m2e : (if (0 : Int) < (p.score : Int) - 10 then (p.score : Int) - 10 else 0) = (q.score : Int) := by rw [hqs]; split <;> omega
  have m3e : (if (10 : Int) < (p.score : Int) then (p.score : Int) - 10 else 0) = (q.score : Int) := by rw [hqs]; split <;> omega
  have HQ := Lib.hid hq
  have HDIS : Hid (disB L R us n m = us.set n (if (!q.rests && decide (q.score < L) && decide (us.length / 2 + 1 ≤ othN n 0 us)) then q.leave (m + R) else q)) := by
    refine Lib.hid ?_
    unfold disB
    rw [modify_set us n _ hn]
    have e : leaves L us n = (!q.rests && decide (q.score < L) && decide (us.length / 2 + 1 ≤ othN n 0 us)) := by
      unfold leaves
      rw [List.getElem?_eq_getElem hn, ← hp, hqr, hq]
    rw [e, ← hp, ← hq]
  have hn1 : ∀ x : Up, n < (us.set n x).length := fun x => by simpa using hn
  have HN1 := Lib.hid hn1
  clear hn1
  obtain ⟨p1, hp1⟩ : ∃ p1 : Up, p1 = { p with dissent := q.dissent } := ⟨_, rfl⟩
  have ok1 : UpOk p1 := by rw [hp1]; exact ⟨hok.1, hok.2, okq.3, hok.4, hok.5⟩
  have HP1 := Lib.hid hp1
  have HP1S : Hid (p1.score = p.score) := Lib.hid (by rw [hp1])
  obtain ⟨f, hf⟩ : ∃ f, f = us.length / 2 := ⟨_, rfl⟩
  have ef : ((us.length : Int) - 1) / 2 = (f : Int) := by omega
  have HF := Lib.hid hf
  have hf9 : f ≤ 4 := by omega
  have HODD := Lib.hid hodd
  clear hp hq hqs hqa hp1 hqr hf hodd
  go_enter Try.func39, Try.ntmps39
  go_wp2_with (go_at_call 54; refine (ris_any b r L R us _ _ h true HB).mono ?_; rintro e w' ⟨rfl, rfl⟩)
  refine region_tail 17 (by kernel_rfl) (by kernel_rfl) ?_
  intro v0 hv0
  have hC0 : Chg [r] w v0 := by rw [hv0]; exact (Chg.refl _ _).drew
  have g0 : RBook v0 b r L R (us) := by rw [hv0]; exact h.chg ((Chg.refl [] _).drew) (by simp) (by simp)
  clear hv0
  obtain ⟨cap0, hcap0, c20⟩ := g0.c2
  obtain ⟨o0, o1, o2, o3, o4, o5, o6⟩ := g0.row.one n hn
  rw [← HP.out] at o0 o1 o2 o3 o4 o5 o6
  have ff := g0.row.fr (n * 7 + 2)
  simp only [List.take_succ_cons, List.take_zero, List.drop_succ_cons, List.drop_zero]
  repeat still_step
  refine wpStill_nil ?_
  go_upto_region 4 with (fail)
  refine wp_abs ?_
  intro w1 hw1
  have row1 : UpsAt 90 w1 r (us.set n p1) := by
    rw [hw1]
    exact g0.row.upd n 2 p p1 hn HP.out.symm (by decide) _ (by rw [HP1.out]; rfl)
  have hD1 : Chg [r] w w1 := by rw [hw1]; exact hC0.setCell (.inl (by simp)) _
  have h1 : RBook w1 b r L R (us.set n p1) := h.to hD1 (by simp) (allOk_set h.ok ok1) row1
  clear hw1 o0 o1 o2 o3 o4 o5 o6 ff c20 hcap0 row1 g0 hC0
  refine region_tail 17 (by kernel_rfl) (by kernel_rfl) ?_
  intro v1 hv1
  have hC1 : Chg [r] w v1 := by rw [hv1]; exact hD1.drew
  have g1 : RBook v1 b r L R (us.set n p1) := by rw [hv1]; exact h1.chg ((Chg.refl [] _).drew) (by simp) (by simp)
  clear hv1
  obtain ⟨cap1, hcap1, c21⟩ := g1.c2
  rw [List.length_set] at c21 hcap1
  obtain ⟨o0, o1, o2, o3, o4, o5, o6⟩ := g1.row.one n (HN1.out p1)
  rw [List.getElem_set_self] at o0 o1 o2 o3 o4 o5 o6
  rw [HP1S.out] at o0
  have ff := g1.row.fr (n * 7)
  simp only [List.take_succ_cons, List.take_zero, List.drop_succ_cons, List.drop_zero]
  repeat still_step
  refine wpStill_nil ?_
  go_upto_region 5 with (fail)
  refine wp_abs ?_
  intro w2 hw2
  have row2 : UpsAt 90 w2 r (us.set n q) := by
    rw [hw2]
    exact g1.row.upd2 0 q hn (by decide) _ (by rw [HP1.out, HQ.out]; rfl)
  have hD2 : Chg [r] w w2 := by rw [hw2]; exact hC1.setCell (.inl (by simp)) _
  have h2 : RBook w2 b r L R (us.set n q) := h.to hD2 (by simp) (allOk_set h.ok okq) row2
  clear hw2 o0 o1 o2 o3 o4 o5 o6 ff c21 hcap1 row2 g1 hC1
  clear w1e w2e m1e m2e m3e
  have hcc := h2.c0
  obtain ⟨cap, hcap, c2⟩ := h2.c2
  rw [List.length_set] at c2 hcap
  go_upto_region 6 with (fail)
  clear ef
  obtain ⟨o0, o1, o2, o3, o4, o5, o6⟩ := h2.row.one n (HN1.out q)
  rw [List.getElem_set_self] at o0 o1 o2 o3 o4 o5 o6
  by_cases hs : q.score < L
  · by_cases hr : q.rests = true
    · have HRR := Lib.hid hr
      rw [hr] at o4
      clear hr
      go_quiet (fail)
      go_wp2
      go_ret
      refine ⟨rfl, ?_, hD2.drewN _⟩
      rw [HDIS.out, HRR.out]
      simp only [Bool.not_true, Bool.false_and, Bool.false_eq_true, if_false]
      exact h2.chg ((Chg.refl [] _).drewN _) (by simp) (by simp)
    · have hr' : q.rests = false := by simpa using hr
      have HRR := Lib.hid hr'
      rw [hr'] at o4
      have HS := Lib.hid hs
      obtain ⟨l, hl⟩ : ∃ l, l = mayN (us.set n q) := ⟨_, rfl⟩
      obtain ⟨N, hN⟩ : ∃ N, N = othN n 0 us := ⟨_, rfl⟩
      have hlN : l.length = N + 1 := by
        have := oth_may n (us.set n q) 0 n (HN1.out q) (by omega)
        rw [List.getElem_set_self, othN_set us n q hn, ← hN, show free q = true by simp [free, hr']] at this
        rw [hl]
        unfold mayN
        rw [← this]
        rfl
      have hl9 : l.length ≤ 9 := by rw [hl]; exact Nat.le_trans (idxN_len free _ 0) (by rw [List.length_set]; exact hlen)
      have HL : Hid (mayN (us.set n q) = l) := Lib.hid hl.symm
      obtain ⟨M, hM⟩ : ∃ M, M = us.length / 2 + 1 := ⟨_, rfl⟩
      have hMf : M = f + 1 := by have := HF.out; omega
      have HD2 : Hid (disB L R us n m = us.set n (if M ≤ N then q.leave (m + R) else q)) := by
        refine Lib.hid ?_
        rw [HDIS.out, HRR.out, show decide (q.score < L) = true from decide_eq_true hs, ← hN, ← hM]
        simp only [Bool.not_false, Bool.and_true, Bool.true_and, decide_eq_true_eq]
      have ew1 : IntKind.i64.wrap ((l.length : Int) - 1) = (N : Int) := by rw [IntWalk.i64_in ((l.length : Int) - 1) (by omega)]; omega
      have ew2 : IntKind.i64.wrap ((f : Int) + 1) = (M : Int) := by rw [IntWalk.i64_in ((f : Int) + 1) (by omega)]; omega
      have ew3 : IntKind.i64.wrap (((us.length : Int) - 1) / 2 + 1) = (M : Int) := by have := HODD.out; rw [IntWalk.i64_in (((us.length : Int) - 1) / 2 + 1) (by omega)]; omega
      have hC1 := h2.c1
      have S1 : Hid (w2.drew.cell? ⟨b, 2, none⟩ = some (.slice (some ⟨r, 0, none⟩) us.length cap) ∧ w2.drew.cell? ⟨r, n * 7, none⟩ = some (.int .i64 q.score) ∧ w2.drew.cell? ⟨b, 0, none⟩ = some (.int .i64 L) ∧ w2.drew.cell? ⟨r, n * 7 + 4, none⟩ = some (.bool false)) := Lib.hid ⟨c2, o0, hcc, o4⟩
      have h2d : RBook w2.drew b r L R (us.set n q) := h2.chg ((Chg.refl [] _).drew) (by simp) (by simp)
      clear hl hN hM hMf hlN hr hr' o0 o1 o2 o3 o4 o5 o6 c2 hcc hC1
      go_region_held3 (fun W => W.cell? ⟨b, 2, none⟩ = some (.slice (some ⟨r, 0, none⟩) us.length cap) ∧ W.cell? ⟨r, n * 7, none⟩ = some (.int .i64 q.score) ∧ W.cell? ⟨b, 0, none⟩ = some (.int .i64 L) ∧ W.cell? ⟨r, n * 7 + 4, none⟩ = some (.bool false)) (first | (with_reducible exact S2.out) | (with_reducible exact S1.out)) (first | (go_at_call 44; go_must (refine (rmay_any b r L R (us.set n q) _ h2d l HL).mono ?_; rintro e9 w3 ⟨am, cm, rfl, own3, hc3⟩; have S2 := Lib.hid (And.intro (hc3.cell S1.out.1 (by simp)) (And.intro (hc3.cell S1.out.2.1 (by simp)) (And.intro (hc3.cell S1.out.2.2.1 (by simp)) (hc3.cell S1.out.2.2.2 (by simp))))))))
      have hc3' : Chg [] w2 w3 := hc3.undrew
      have h3 := h2.chg hc3' (by simp) (by simp)
      have hD3 : Chg [r] w w3 := hD2.trans (hc3'.mono (by simp))
      clear hc3 hc3' S1 S2 h2d h2 hD2 own3 ew1 ew2 ew3
      by_cases hMN : M ≤ N
      · have HMN := Lib.hid hMN
        obtain ⟨cap3, hcap3, c23⟩ := h3.c2
        rw [List.length_set] at c23 hcap3
        obtain ⟨o0, o1, o2, o3, o4, o5, o6⟩ := h3.row.one n (HN1.out q)
        have f4 := h3.row.fr (n * 7 + 4)
        have f5 := h3.row.fr (n * 7 + 5)
        go_upto_region 9 with (fail)
        refine wp_abs ?_
        intro w4 hw4
        obtain ⟨q2, hq2⟩ : ∃ q2 : Up, q2 = { q with rests := true, trial := false } := ⟨_, rfl⟩
        have row4 : UpsAt 90 w4 r (us.set n q2) := by
          rw [hw4, hq2]
          exact (h3.row.upd2 4 { q with rests := true } hn (by decide) _ rfl).upd2 5 _ hn (by decide) _ rfl
        have hD4 : Chg [r] w w4 := by rw [hw4]; exact (hD3.setCell (.inl (by simp)) _).setCell (.inl (by simp)) _
        have ok4 : UpOk q2 := by rw [hq2]; exact ⟨okq.1, okq.2, okq.3, okq.4, okq.5⟩
        have h4 : RBook w4 b r L R (us.set n q2) := h.to hD4 (by simp) (allOk_set h.ok ok4) row4
        have HQ2 := Lib.hid hq2
        clear hw4 hq2 row4 o0 o1 o2 o3 o4 o5 o6 f4 f5 c23 hcap3 h3 hD3
        have wse : IntKind.i64.wrap ((m : Int) + (R : Int)) = ((m + R : Nat) : Int) := by rw [IntWalk.i64_in ((m : Int) + (R : Int)) (by omega)]; omega
        refine region_tail 13 (by kernel_rfl) (by kernel_rfl) ?_
        intro v4 hv4
        have hC4 : Chg [r] w v4 := by rw [hv4]; exact hD4.drew
        have g4 : RBook v4 b r L R (us.set n q2) := by rw [hv4]; exact h4.chg ((Chg.refl [] _).drew) (by simp) (by simp)
        clear hv4
        obtain ⟨cap4, hcap4, c24⟩ := g4.c2
        have c14 := g4.c1
        rw [List.length_set] at c24 hcap4
        have o6 := (g4.row.one n (HN1.out q2)).c6
        have ff := g4.row.fr (n * 7 + 6)
        simp only [List.take_succ_cons, List.take_zero, List.drop_succ_cons, List.drop_zero]
        repeat still_step
        refine wpStill_nil ?_
        go_wp2
        go_ret
        have hD5 : Chg [r] w (v4.setCell ⟨r, n * 7 + 6, none⟩ (.int .i64 ((m + R : Nat) : Int))) := hC4.setCell (.inl (by simp)) _
        have row5 : UpsAt 90 (v4.setCell ⟨r, n * 7 + 6, none⟩ (.int .i64 ((m + R : Nat) : Int))) r (us.set n (q.leave (m + R))) := g4.row.upd2 6 _ hn (by decide) _ (by rw [HQ2.out]; rfl)
        rw [HD2.out, if_pos HMN.out]
        exact ⟨rfl, h.to hD5 (by simp) (allOk_set h.ok (leave_ok okq (by omega))) row5, hD5⟩
      · have HMN := Lib.hid hMN
        have dMN : decide (M ≤ N) = false := by simpa using hMN
        have dMNI : decide ((M : Int) ≤ (N : Int)) = false := by simp; omega
        go_wp2
        go_ret
        refine ⟨rfl, ?_, hD3⟩
        rw [HD2.out, if_neg HMN.out]
        exact h3
  · have HS := Lib.hid hs
    have ds : decide (q.score < L) = false := by simpa using hs
    clear hs
    go_quiet (fail)
    go_wp2
    go_ret
    refine ⟨rfl, ?_, hD2.drewN _⟩
    rw [HDIS.out, show decide (q.score < L) = false from decide_eq_false HS.out]
    simp only [Bool.and_false, Bool.false_and, Bool.false_eq_true, if_false]
    exact h2.chg ((Chg.refl [] _).drewN _) (by simp) (by simp)

end Go.Proofs.Ytdbannnbbngckaa
