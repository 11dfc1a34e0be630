/- The walks of package repute: a dissent's step. -/
import Derived.Test.YtdbannnbbngckaaRepB
import Derived.IntWalk
namespace Go.Proofs.Ytdbannnbbngckaa
open Go.RowKit

theorem count_r (n c : Nat) (hc : Hid (c = cnt n)) (hn : n ≤ 65535) (w : World) :
    Calls Try.prog 52 #[.int .i64 n] w fun e w' => e = .returned (.int .i64 c) ∧ w = w' := by rw [hc.out]; exact count_any n hn w

set_option maxRecDepth 100000 in
set_option maxHeartbeats 4000000 in
theorem step_dis (b r L R u now : Nat) (us : List Up) (w : World) (h : Book w b r L R us) (hu : u < us.length) (hnow : now ≤ 1099511627776) :
    Calls Try.prog 35 #[.pointer (some ⟨b, 0, none⟩), .int .i64 u, .int .i64 2, .int .i64 now] w fun e w' => e = .returned (.tuple #[]) ∧ UpsAt 63 w' r (disB L R us u now) ∧ Chg [r] w w' := by
  obtain ⟨cap, hcap, c2⟩ := h.c2
  have c0 := h.c0
  have hlen := h.len
  obtain ⟨p, hp⟩ : ∃ p, p = us[u] := ⟨_, rfl⟩
  obtain ⟨o0, o1, o2, o3, o4, o5, o6⟩ := h.row.one u hu
  rw [← hp] at o0 o1 o2 o3 o4 o5 o6
  have hni : (u : Int) < (us.length : Int) := by omega
  have f0 := h.row.fr (u * 7)
  have f2 := h.row.fr (u * 7 + 2)
  have hbr : b ≠ r := Ne.symm h.ne
  have HP := Lib.hid hp
  have hL := h.hL
  have hR := h.hR
  have hok : UpOk p := by rw [hp]; exact h.ok _ (List.getElem_mem hu)
  have hps := hok.score
  have hpd := hok.dissent
  obtain ⟨q, hq⟩ : ∃ q : Up, q = p.dis := ⟨_, rfl⟩
  have okq : UpOk q := by rw [hq]; exact dis_ok hok
  have hqr : q.rests = p.rests := by rw [hq]; rfl
  have hqs : q.score = p.score - 10 := by rw [hq]; rfl
  have hqd : q.dissent = cnt p.dissent := by rw [hq]; rfl
  have HQ := Lib.hid hq
  have HQS := Lib.hid hqs
  have HQD := Lib.hid hqd
  have HDIS : Hid (disB L R us u now = us.set u (if (!q.rests && decide (q.score < L) && decide (us.length / 2 + 1 ≤ othN u 0 us)) then q.leave (now + R) else q)) := by
    refine Lib.hid ?_
    unfold disB
    rw [modify_set us u _ hu]
    have e : leaves L us u = (!q.rests && decide (q.score < L) && decide (us.length / 2 + 1 ≤ othN u 0 us)) := by
      unfold leaves
      rw [List.getElem?_eq_getElem hu, ← hp, hqr, hq]
    rw [e, ← hp, ← hq]
  have HQR := Lib.hid hqr
  have e10 : (if (p.score : Int) - 10 < 0 then 0 else (p.score : Int) - 10) = (q.score : Int) := by rw [hqs]; split <;> omega
  clear hp hq hqr hqs hqd
  go_enter Try.func35, Try.ntmps35
  go_upto_region 12 with (go_at_call 52; refine (count_r p.dissent q.dissent HQD hpd _).mono ?_; rintro e w' ⟨rfl, rfl⟩)
  clear e10
  refine wp_abs ?_
  intro w1 hw1
  have hrow : UpsAt 63 w1 r (us.set u q) := by
    rw [hw1, HQ.out]
    exact (h.row.upd u 2 p { p with dissent := p.dis.dissent } hu HP.out.symm (by decide) _ rfl).upd2 0 _ hu (by decide) _ rfl
  have hC1 : Chg [r] w w1 := by
    rw [hw1]
    iterate 2 (refine Chg.setCell ?_ (.inl (by simp)) _)
    exact Chg.refl _ _
  have h1 : Book w1 b r L R (us.set u q) := h.to hC1 (by simp) (allOk_set h.ok okq) hrow
  have hu1 : u < (us.set u q).length := by simpa using hu
  clear hw1 o0 o1 o2 o3 o4 o5 o6 f0 f2 c0 c2 hrow hcap
  have c0 := h1.c0
  have c1 := h1.c1
  obtain ⟨cap1, hcap, c2⟩ := h1.c2
  obtain ⟨o0, o1, o2, o3, o4, o5, o6⟩ := h1.row.one u hu1
  rw [List.getElem_set_self] at o0 o1 o2 o3 o4 o5 o6
  rw [List.length_set] at c2 hcap
  by_cases hr : q.rests = true
  · have HRR := Lib.hid hr
    rw [hr] at o4
    clear hr
    go_quiet (fail)
    go_wp2
    refine bodyPost_ret (results_none (by rfl) _ _ _) rfl ⟨rfl, ?_, hC1.drewN _⟩
    rw [HDIS.out, HRR.out]
    simp only [Bool.not_true, Bool.false_and, Bool.false_eq_true, if_false]
    exact h1.row
  have hr' : q.rests = false := by simpa using hr
  have HRR := Lib.hid hr'
  rw [hr'] at o4
  clear hr hr'
  by_cases hs : L ≤ q.score
  · have HSS := Lib.hid hs
    go_quiet (fail)
    go_wp2
    refine bodyPost_ret (results_none (by rfl) _ _ _) rfl ⟨rfl, ?_, hC1.drewN _⟩
    rw [HDIS.out, HRR.out, show decide (q.score < L) = false from decide_eq_false (by have := HSS.out; omega)]
    simp only [Bool.and_false, Bool.false_and, Bool.false_eq_true, if_false]
    exact h1.row
  have hd : decide (L ≤ q.score) = false := by simpa using hs
  have hlt : q.score < L := by omega
  obtain ⟨N, hN⟩ : ∃ N, N = othN u 0 us := ⟨_, rfl⟩
  have Q := fun W hW => others_any b r L R u (us.set u q) W hW
  rw [othN_set us u q hu, ← hN] at Q
  have QQ := Lib.hid Q
  have hNle : N ≤ 9 := by rw [hN]; exact Nat.le_trans (othN_le u us 0) hlen
  have HD2 : Hid (disB L R us u now = us.set u (if us.length / 2 + 1 ≤ N then q.leave (now + R) else q)) := by
    refine Lib.hid ?_
    rw [HDIS.out, HRR.out, show decide (q.score < L) = true from decide_eq_true hlt, ← hN]
    simp only [Bool.not_false, Bool.and_true, Bool.true_and, decide_eq_true_eq]
  clear hN Q hs
  have S1 : Hid (w1.drew.cell? ⟨r, u * 7 + 4, none⟩ = some (.bool false) ∧ w1.drew.cell? ⟨r, u * 7, none⟩ = some (.int .i64 q.score) ∧ w1.drew.cell? ⟨b, 0, none⟩ = some (.int .i64 L) ∧ w1.drew.cell? ⟨b, 2, none⟩ = some (.slice (some ⟨r, 0, none⟩) us.length cap1)) := Lib.hid ⟨o4, o0, c0, c2⟩
  have hw1d : Book w1.drew b r L R (us.set u q) := h1.chg ((Chg.refl [] _).drew) (by simp) (by simp)
  clear o0 o1 o2 o3 o4 o5 o6 c0 c1 c2
  have hdiv : (us.length : Int).tdiv 2 = ((us.length / 2 : Nat) : Int) := by rw [Int.tdiv_eq_ediv_of_nonneg (by omega)]; omega
  go_region_held3 (fun W => W.cell? ⟨r, u * 7 + 4, none⟩ = some (.bool false) ∧ W.cell? ⟨r, u * 7, none⟩ = some (.int .i64 q.score) ∧ W.cell? ⟨b, 0, none⟩ = some (.int .i64 L) ∧ W.cell? ⟨b, 2, none⟩ = some (.slice (some ⟨r, 0, none⟩) us.length cap1)) (first | (with_reducible exact S2.out) | (with_reducible exact S1.out)) (first | (go_at_call 53; go_must (refine (QQ.out _ hw1d).mono ?_; rintro e9 w2 ⟨rfl, hc2⟩; have h2 := hw1d.chg hc2 (by simp) (by simp); have S2 := Lib.hid (And.intro (hc2.cell S1.out.1 (by simp)) (And.intro (hc2.cell S1.out.2.1 (by simp)) (And.intro (hc2.cell S1.out.2.2.1 (by simp)) (hc2.cell S1.out.2.2.2 (by simp))))))))
  clear hdiv
  obtain ⟨M, hM⟩ : ∃ M, M = us.length / 2 + 1 := ⟨_, rfl⟩
  have hwr : IntKind.i64.wrap (IntKind.i64.wrap ((us.length : Int) / 2) + 1) = (M : Int) := by
    rw [IntWalk.i64_in ((us.length : Int) / 2) (by omega), IntWalk.i64_in ((us.length : Int) / 2 + 1) (by omega)]; omega
  rw [← hM] at HD2
  have hC2 : Chg [r] w w2 := (hC1.drew).trans (hc2.mono (by simp))
  clear hM hc2 S1 S2
  by_cases hMN : M ≤ N
  · have HMN := Lib.hid hMN
    have c1 := h2.c1
    obtain ⟨o0, o1, o2, o3, o4, o5, o6⟩ := h2.row.one u hu1
    have f4 := h2.row.fr (u * 7 + 4)
    have f5 := h2.row.fr (u * 7 + 5)
    have f6 := h2.row.fr (u * 7 + 6)
    go_wp2
    go_end0
    refine ⟨rfl, ?_, ?_⟩
    · rw [HD2.out, if_pos HMN.out]
      exact ((h2.row.upd2 4 { q with rests := true } hu (by decide) _ rfl).upd2 6 { q with rests := true, til := now + R } hu (by decide) _ rfl).upd2 5 _ hu (by decide) _ rfl
    · iterate 3 (refine Chg.setCell ?_ (.inl (by simp)) _)
      exact hC2
  · have HMN := Lib.hid hMN
    have hd2 : decide ((M : Int) ≤ (N : Int)) = false := by simp; omega
    have hlt2 : N < M := by omega
    go_wp2
    refine bodyPost_ret (results_none (by rfl) _ _ _) rfl ⟨rfl, ?_, hC2⟩
    rw [HD2.out, if_neg HMN.out]
    exact h2.row

end Go.Proofs.Ytdbannnbbngckaa
