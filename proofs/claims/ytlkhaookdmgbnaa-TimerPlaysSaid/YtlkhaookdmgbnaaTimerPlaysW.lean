/- The walk of TimerPlays. -/
import Derived.Test.YtlkhaookdmgbnaaTimU
import Derived.Test.YtlkhaookdmgbnaaAwake14
import Derived.Deep.RegionHeld3
namespace Go.Proofs.Ytlkhaookdmgbnaa
open Go.RowKit

theorem dueL_le (L : List It) (now : Int) : (dueL L now).length ≤ L.length := by
  unfold dueL
  rw [List.length_map, ← (sortL_perm L).length_eq]
  exact List.length_filter_le _ _
theorem refT_new (w : World) : RefT (w.alloc (.cells #[.slice none 0 0] 49)) w.heap.size [] [] :=
  ⟨by simp, _, heap_new _ _, R.OwnR.nil _ _ _ _ _, fun g hg => by simp [Value.ownBlock] at hg⟩
theorem due_v (tb : Nat) (F : List Nat) (L : List It) (p : Nat) (now : Int) (d : List Int) (M : List It) (w : World) (h : TimersAt w tb F L p) (hp : p ≤ 1000000) (hd : Hid (d = dueL L now)) (hM : Hid (M = restL L now)) :
    Calls Try.prog 12 #[.pointer (some ⟨tb, 0, none⟩), .int .i64 now] w fun e w' => ∃ a c, e = .returned (.slice a d.length c) ∧ OwnZ w.heap.size w' (.slice a d.length c) d ∧ TimersAt w' tb F M p ∧ Chg (tb :: F) w w' := by
  rw [hd.out, hM.out]
  refine (due_any tb F L p now w h hp).mono ?_
  rintro e w' ⟨v, rfl, k1, k2, k3⟩
  obtain ⟨a, c, rfl⟩ := owns_len k1
  exact ⟨a, c, rfl, k1, k2, k3⟩
theorem rdue_v (q : Nat) (G : List Nat) (L : List It) (p : Nat) (now : Int) (d : List Int) (M : List It) (w : World) (h : RefT w q G L) (hok : OkL L p) (hd : Hid (d = dueL L now)) (hM : Hid (M = restL L now)) :
    Calls Try.prog 22 #[.pointer (some ⟨q, 0, none⟩), .int .i64 now] w fun e w' => ∃ a c, e = .returned (.slice a d.length c) ∧ OwnZ w.heap.size w' (.slice a d.length c) d ∧ (∃ G', RefT w' q G' M ∧ ∀ g ∈ G', g ∈ G ∨ w.heap.size ≤ g) ∧ Chg [q] w w' := by
  rw [hd.out, hM.out]
  refine (rdue_any q G L w p now h hok).mono ?_
  rintro e w' ⟨v, rfl, k1, k2, k3⟩
  obtain ⟨a, c, rfl⟩ := owns_len k1
  exact ⟨a, c, rfl, k1, k2, k3⟩

def TPlaysR (n : Nat) (w : World) (t x i : Value) (wr : World) : Prop :=
  ∃ (j tb : Nat) (F : List Nat) (L : List It) (p q : Nat) (G : List Nat), j ≤ n ∧ i = .int .i64 (j : Nat) ∧ t = .pointer (some ⟨tb, 0, none⟩) ∧ x = .pointer (some ⟨q, 0, none⟩) ∧ TR w wr tb F L p q G L ∧ p ≤ j

set_option maxRecDepth 100000 in
set_option maxHeartbeats 16000000 in
theorem timerPlays_walk (a : Option Addr) (cap : Nat) (acts : List ActT) (w : World) (h : IsActs w a acts) :
    Calls Try.prog 7 #[.slice a acts.length cap] w fun e w' => e = .returned (.bool true) ∧ Below w.heap.size w w' := by
  have hmax := h.1
  unfold maxLen at hmax
  have HA := Lib.hid h.2
  clear h
  by_cases hbig : 300 < acts.length
  · have hbI : (300 : Int) < (acts.length : Int) := by omega
    go_enter Try.func7, Try.ntmps7
    go_wp2_with fail
    refine (awake_any _).mono ?_
    rintro e w1 ⟨rfl, hc1⟩
    go_wp2
    go_ret
    exact ⟨rfl, hc1.below (Nat.le_refl _) (by simp)⟩
  have hd : decide (300 < acts.length) = false := by simpa using hbig
  have hdJ : decide ((300 : Int) < (acts.length : Int)) = false := by simp; omega
  have hle : acts.length ≤ 300 := by omega
  clear hbig
  go_enter Try.func7, Try.ntmps7
  go_wp2_with fail
  refine (new_any w).mono ?_
  rintro e w1 ⟨rfl, hw1⟩
  have ht1 : TimersAt w1 w.heap.size [] [] 0 := by rw [hw1]; exact new_at w
  have hc1 : Chg [] w w1 := by rw [hw1]; exact (Chg.refl _ _).alloc _
  obtain ⟨tb, htb⟩ : ∃ tb, tb = w.heap.size := ⟨_, rfl⟩
  have hwtb : w.heap.size ≤ tb := by omega
  rw [← htb] at ht1 ⊢
  clear htb hw1
  go_wp2_with fail
  obtain ⟨q, hq⟩ : ∃ q, q = w1.heap.size := ⟨_, rfl⟩
  have hR0 : TR w (w1.alloc (.cells #[.slice none 0 0] 49)) tb [] [] 0 q [] [] := by
    have := ht1.lt
    refine ⟨ht1.same ((Chg.refl _ _).alloc _), by rw [hq]; exact refT_new w1, ?_, ?_, ?_, by have := hc1.size; omega, hc1.alloc _⟩
    · intro y hy hh; simp at hy hh; omega
    · intro y hy; simp at hy; rw [hy, hq]; simp
    · intro y hy; simp at hy; omega
  rw [← hq]
  have HR0 := Lib.hid hR0
  clear hq hR0 ht1 hc1 hwtb
  go_loopw [3, 4, 5] (TPlaysR acts.length w) (fun _ _ i _ => acts.length - (intOf i).toNat)
  case atStart => exact ⟨0, tb, [], [], 0, q, [], Nat.zero_le _, rfl, rfl, rfl, HR0.out, Nat.le_refl _⟩
  case round =>
    clear HR0
    obtain ⟨j, tb, F, L, p, q, G, hj, rfl, rfl, rfl, hR, hpj⟩ := hrel
    by_cases hlt : j < acts.length
    · obtain ⟨g, o, ha, hg, d0, d1, d2, hok⟩ := HA.out j hlt
      obtain ⟨A, hA⟩ : ∃ A, A = acts[j] := ⟨_, rfl⟩
      rw [← hA] at d0 d1 d2 hok
      obtain ⟨K, U, N⟩ := A
      subst ha
      have e0 : wr.cell? ⟨g, o + j * 3, none⟩ = some (.int .u8 K) := hR.chg.cell d0 (by simp)
      have e1 : wr.cell? ⟨g, o + j * 3 + 1, none⟩ = some (.int .i64 U) := hR.chg.cell d1 (by simp)
      have e2 : wr.cell? ⟨g, o + j * 3 + 2, none⟩ = some (.int .i64 N) := hR.chg.cell d2 (by simp)
      have hU : InI U := hok.2.1
      have hN : InI N := hok.2.2
      have HU := Lib.hid hU
      have HN := Lib.hid hN
      clear hA d0 d1 d2 hok hU hN
      have hpp : p ≤ 1000 := by omega
      have hLp := hR.t.ok.len
      obtain ⟨p0, hp0⟩ : ∃ p0, p0 = wr.heap.size := ⟨_, rfl⟩
      have hpF : p0 ∉ tb :: F := by
        intro hh
        rcases List.mem_cons.1 hh with e | e
        · have := hR.t.lt; omega
        · have := hR.t.low _ e; omega
      have hpq : p0 ∉ [q] := by have := hR.x.lt; simp; omega
      by_cases hK1 : K = 1
      · subst hK1
        go_wp2_with fail
        rw [← hp0]
        refine wp_abs ?_
        intro w0 hw0
        have z1 : w0.cell? ⟨p0, 1, none⟩ = some (.int .i64 U) := by rw [hw0, hp0]; exact cell_of (heap_new _ _)
        have z2 : w0.cell? ⟨p0, 2, none⟩ = some (.int .i64 N) := by rw [hw0, hp0]; exact cell_of (heap_new _ _)
        have hR0 : TR w w0 tb F L p q G L := by rw [hw0]; exact hR.same ((Chg.refl _ _).alloc _)
        clear hw0 hp0 e0 e1 e2 hR
        obtain ⟨bb, hbb⟩ : ∃ bb, bb = lookB L U := ⟨_, rfl⟩
        have HB := Lib.hid hbb
        have HB2 : Hid (bb = decide ((delL L U).length < L.length)) := Lib.hid (by rw [drop_b]; exact hbb)
        have gbb : (bb != bb) = false := by simp
        have hR1 := hR0.same ((Chg.refl [] _).drew)
        have Z1 : Hid (w0.drew.cell? ⟨p0, 1, none⟩ = some (.int .i64 U)) := Lib.hid z1
        clear hbb hR0 z1 z2
        go_region_held3 (fun W => W.cell? ⟨p0, 1, none⟩ = some (.int .i64 U)) (first | (with_reducible exact Z6.out) | (with_reducible exact Z5.out) | (with_reducible exact Z1.out)) (first | (go_at_call 18; go_must (refine (drop_v tb F L p _ U bb hR1.t HU.out (by omega) HB).mono ?_; rintro e9 w5 ⟨rfl, k5, hc5⟩; have hR5 := hR1.tstep k5 (fun y hy => .inl hy) hc5; have Z5 := Lib.hid (hc5.cell (p := ⟨p0, 1, none⟩) Z1.out hpF))) | (go_at_call 21; go_must (refine (rdrop_any q G L _ U bb hR5.x HB2).mono ?_; rintro e9 w6 ⟨rfl, ⟨G6, k6, g6⟩, hc6⟩; obtain ⟨G9, hR9⟩ := hR5.xstep k6 (fun g hg => .inr (g6 g hg)) hc6; have Z6 := Lib.hid (hc6.cell (p := ⟨p0, 1, none⟩) Z5.out hpq))))
        clear Z1 Z5 Z6 hR1 hR5 k5 hc5 k6 g6 hc6 HB HB2 gbb HN HU hpF hpq G6

        obtain ⟨nv1, hnv1⟩ : ∃ nv1, nv1 = hdI (delL L U) := ⟨_, rfl⟩
        obtain ⟨nv2, hnv2⟩ : ∃ nv2, nv2 = hdD (delL L U) := ⟨_, rfl⟩
        obtain ⟨nv3, hnv3⟩ : ∃ nv3, nv3 = hdB (delL L U) := ⟨_, rfl⟩
        have H1 := Lib.hid hnv1
        have H2 := Lib.hid hnv2
        have H3 := Lib.hid hnv3
        have gb : (nv3 != nv3) = false := by simp
        clear hnv1 hnv2 hnv3
        go_wp2_with fail
        refine (next_v tb F (delL L U) p _ nv1 nv2 nv3 hR9.t H1 H2 H3).mono ?_
        rintro e9 wn ⟨rfl, hcn⟩
        have hRn := hR9.same hcn
        clear hR9 hcn
        go_wp2_with fail
        refine (rnext_v (delL L U) p _ q G9 nv1 nv2 nv3 hRn.x hRn.t.ok H1 H2 H3).mono ?_
        rintro e9 wm ⟨rfl, hcm⟩
        have hRm := hRn.same hcm
        clear hRn hcm H1 H2 H3
        obtain ⟨vq, hq1, hq2⟩ := hRm.x.2
        obtain ⟨aq, cq, rfl⟩ := hq2.1.len
        have kq : wm.cell? ⟨q, 0, none⟩ = some (.slice aq ((delL L U)).length cq) := cell_of hq1
        have hlq := hRm.x.1
        clear hq1 hq2
        have hlen := fun (m : Nat) => len_any tb F (delL L U) p (wm.drewN m) (hRm.t.drewN m)
        have HR := Lib.hid hRm
        clear hRm
        go_wp2_with fail
        go_quiet ((go_at_call 14; exact Calls.quiet_of_same ((hlen _).mono fun e w' h => ⟨h.1, h.2.symm⟩)))
        go_wp2_with fail
        clear hlen kq
        refine wp_abs ?_
        intro wo hwo
        have hRo : TR w wo tb F (delL L U) p q G9 (delL L U) := by rw [hwo]; exact HR.out.same ((Chg.refl [] _).drewN _)
        clear hwo HR
        go_loop [14] (fun v => ∃ k : Nat, k ≤ j + 1 ∧ v = .int .i64 (k : Nat)) (fun v => j + 1 - (intOf v).toNat)
        case atStart => exact ⟨0, Nat.zero_le _, rfl⟩
        case round =>
          obtain ⟨k, hk, rfl⟩ := hrel
          by_cases hkj : k ≤ j
          · obtain ⟨g1, o1, ha1, _, _, b1, _, hok1⟩ := HA.out k (by omega)
            have hg1 := ha1
            injection hg1 with hg1
            injection hg1 with hgb hgo
            subst hgb; subst hgo
            obtain ⟨I, hI⟩ : ∃ I, I = acts[k].u := ⟨_, rfl⟩
            rw [← hI] at b1
            have hII : InI I := by rw [hI]; exact hok1.2.1
            have b2 := hRo.chg.cell b1 (by simp)
            have HI := Lib.hid hII
            clear hI hok1 b1 ha1 hII
            obtain ⟨va, hva⟩ : ∃ va, va = lookA (delL L U) I := ⟨_, rfl⟩
            obtain ⟨vb, hvb⟩ : ∃ vb, vb = lookB (delL L U) I := ⟨_, rfl⟩
            have HV := Lib.hid hva
            have HW := Lib.hid hvb
            have gv : (vb != vb) = false := by simp
            clear hva hvb
            go_wp2_with fail
            refine (at_v tb F (delL L U) p _ I va vb hRo.t HI.out HV HW).mono ?_
            rintro e9 w9 ⟨rfl, rfl⟩
            go_wp2_with fail
            refine (rat_any q G9 (delL L U) _ I va vb hRo.x HV HW).mono ?_
            rintro e9 w9 ⟨rfl, rfl⟩
            go_wp2
            go_round
            case rel => exact ⟨k + 1, by omega, by go_num⟩
            case measure => simp [intOf] <;> omega
          · have tk : decide (k ≤ j) = false := by simp; omega
            go_wp2
            go_roundw
            case rel => exact ⟨j + 1, tb, F, (delL L U), p, q, G9, by omega, by go_num, rfl, rfl, hRo, by omega⟩
            case measure => simp [intOf] <;> omega
      have u1 : ((K : Int) == 1) = false := by simp; omega
      by_cases hK2 : K = 2
      · subst hK2
        go_wp2_with fail
        rw [← hp0]
        refine wp_abs ?_
        intro w0 hw0
        have z1 : w0.cell? ⟨p0, 1, none⟩ = some (.int .i64 U) := by rw [hw0, hp0]; exact cell_of (heap_new _ _)
        have z2 : w0.cell? ⟨p0, 2, none⟩ = some (.int .i64 N) := by rw [hw0, hp0]; exact cell_of (heap_new _ _)
        have hR0 : TR w w0 tb F L p q G L := by rw [hw0]; exact hR.same ((Chg.refl _ _).alloc _)
        clear hw0 hp0 e0 e1 e2 hR
        obtain ⟨dd, hdd⟩ : ∃ dd, dd = dueL L N := ⟨_, rfl⟩
        obtain ⟨M, hM⟩ : ∃ M, M = restL L N := ⟨_, rfl⟩
        have hdl : dd.length ≤ 1000000 := by have := dueL_le L N; rw [← hdd] at this; omega
        have HDD := Lib.hid hdd
        have HM := Lib.hid hM
        have hok0 := hR0.t.ok
        have hR1 := hR0.same ((Chg.refl [] _).drew)
        have Z1 : Hid (w0.drew.cell? ⟨p0, 2, none⟩ = some (.int .i64 N)) := Lib.hid z2
        have hql : q < w0.heap.size := hR0.x.lt
        clear hdd hM hR0 z1 z2
        go_region_held3 (fun W => W.cell? ⟨p0, 2, none⟩ = some (.int .i64 N)) (first | (with_reducible exact Z7.out) | (with_reducible exact Z6.out) | (with_reducible exact Z5.out) | (with_reducible exact Z1.out)) (first | (go_at_call 12; go_must (refine (due_v tb F L p N dd M _ hR1.t (by omega) HDD HM).mono ?_; rintro e9 w5 ⟨a5, c5, rfl, ho5, k5, hc5⟩; have hR5 := hR1.tstep k5 (fun y hy => .inl hy) hc5; have Z5 := Lib.hid (hc5.cell (p := ⟨p0, 2, none⟩) Z1.out hpF))) | (go_at_call 22; go_must (refine (rdue_v q G L p N dd M _ hR5.x hok0 HDD HM).mono ?_; rintro e9 w6 ⟨a6, c6, rfl, ho6, ⟨G6, k6, g6⟩, hc6⟩; obtain ⟨G9, hR6⟩ := hR5.xstep k6 g6 hc6; have ho56 := OwnZ.chg ho5 hc6 (by simpa using hql); have Z6 := Lib.hid (hc6.cell (p := ⟨p0, 2, none⟩) Z5.out hpq))) | (go_at_call 15; go_must (refine (intsz_c _ _ dd dd true (Lib.hid (by simp)) _ ho56.row ho6.row hdl hdl).mono ?_; rintro e9 w7 ⟨rfl, hc7⟩; have hR9 := hR6.same hc7; have Z7 := Lib.hid (hc7.cell (p := ⟨p0, 2, none⟩) Z6.out (by simp)))))
        clear Z1 Z5 Z6 Z7 hR1 hR5 hR6 k5 hc5 k6 g6 hc6 hc7 ho5 ho6 ho56 HDD HM HN HU hpF hpq hok0

        obtain ⟨nv1, hnv1⟩ : ∃ nv1, nv1 = hdI M := ⟨_, rfl⟩
        obtain ⟨nv2, hnv2⟩ : ∃ nv2, nv2 = hdD M := ⟨_, rfl⟩
        obtain ⟨nv3, hnv3⟩ : ∃ nv3, nv3 = hdB M := ⟨_, rfl⟩
        have H1 := Lib.hid hnv1
        have H2 := Lib.hid hnv2
        have H3 := Lib.hid hnv3
        have gb : (nv3 != nv3) = false := by simp
        clear hnv1 hnv2 hnv3
        go_wp2_with fail
        refine (next_v tb F M p _ nv1 nv2 nv3 hR9.t H1 H2 H3).mono ?_
        rintro e9 wn ⟨rfl, hcn⟩
        have hRn := hR9.same hcn
        clear hR9 hcn
        go_wp2_with fail
        refine (rnext_v M p _ q G9 nv1 nv2 nv3 hRn.x hRn.t.ok H1 H2 H3).mono ?_
        rintro e9 wm ⟨rfl, hcm⟩
        have hRm := hRn.same hcm
        clear hRn hcm H1 H2 H3
        obtain ⟨vq, hq1, hq2⟩ := hRm.x.2
        obtain ⟨aq, cq, rfl⟩ := hq2.1.len
        have kq : wm.cell? ⟨q, 0, none⟩ = some (.slice aq (M).length cq) := cell_of hq1
        have hlq := hRm.x.1
        clear hq1 hq2
        have hlen := fun (m : Nat) => len_any tb F M p (wm.drewN m) (hRm.t.drewN m)
        have HR := Lib.hid hRm
        clear hRm
        go_wp2_with fail
        go_quiet ((go_at_call 14; exact Calls.quiet_of_same ((hlen _).mono fun e w' h => ⟨h.1, h.2.symm⟩)))
        go_wp2_with fail
        clear hlen kq
        refine wp_abs ?_
        intro wo hwo
        have hRo : TR w wo tb F M p q G9 M := by rw [hwo]; exact HR.out.same ((Chg.refl [] _).drewN _)
        clear hwo HR
        go_loop [14] (fun v => ∃ k : Nat, k ≤ j + 1 ∧ v = .int .i64 (k : Nat)) (fun v => j + 1 - (intOf v).toNat)
        case atStart => exact ⟨0, Nat.zero_le _, rfl⟩
        case round =>
          obtain ⟨k, hk, rfl⟩ := hrel
          by_cases hkj : k ≤ j
          · obtain ⟨g1, o1, ha1, _, _, b1, _, hok1⟩ := HA.out k (by omega)
            have hg1 := ha1
            injection hg1 with hg1
            injection hg1 with hgb hgo
            subst hgb; subst hgo
            obtain ⟨I, hI⟩ : ∃ I, I = acts[k].u := ⟨_, rfl⟩
            rw [← hI] at b1
            have hII : InI I := by rw [hI]; exact hok1.2.1
            have b2 := hRo.chg.cell b1 (by simp)
            have HI := Lib.hid hII
            clear hI hok1 b1 ha1 hII
            obtain ⟨va, hva⟩ : ∃ va, va = lookA M I := ⟨_, rfl⟩
            obtain ⟨vb, hvb⟩ : ∃ vb, vb = lookB M I := ⟨_, rfl⟩
            have HV := Lib.hid hva
            have HW := Lib.hid hvb
            have gv : (vb != vb) = false := by simp
            clear hva hvb
            go_wp2_with fail
            refine (at_v tb F M p _ I va vb hRo.t HI.out HV HW).mono ?_
            rintro e9 w9 ⟨rfl, rfl⟩
            go_wp2_with fail
            refine (rat_any q G9 M _ I va vb hRo.x HV HW).mono ?_
            rintro e9 w9 ⟨rfl, rfl⟩
            go_wp2
            go_round
            case rel => exact ⟨k + 1, by omega, by go_num⟩
            case measure => simp [intOf] <;> omega
          · have tk : decide (k ≤ j) = false := by simp; omega
            go_wp2
            go_roundw
            case rel => exact ⟨j + 1, tb, F, M, p, q, G9, by omega, by go_num, rfl, rfl, hRo, by omega⟩
            case measure => simp [intOf] <;> omega
      have u2 : ((K : Int) == 2) = false := by simp; omega
      by_cases hK3 : K = 3
      · subst hK3
        go_wp2_with fail
        rw [← hp0]
        refine calls_abs ?_
        intro w0 hw0
        have z1 : w0.cell? ⟨p0, 1, none⟩ = some (.int .i64 U) := by rw [hw0, hp0]; exact cell_of (heap_new _ _)
        have z2 : w0.cell? ⟨p0, 2, none⟩ = some (.int .i64 N) := by rw [hw0, hp0]; exact cell_of (heap_new _ _)
        have hR0 : TR w w0 tb F L p q G L := by rw [hw0]; exact hR.same ((Chg.refl _ _).alloc _)
        clear hw0 hp0 e0 e1 e2 hR
        refine (copy_any tb F L p w0 hR0.t (by omega)).mono ?_
        rintro e9 w5 ⟨cb, rfl, F1, k5, f5, c5, hc5⟩
        have hR5 := hR0.same hc5
        have y1 := hc5.cell z1 (by simp)
        have y2 := hc5.cell z2 (by simp)
        have hlow : ∀ y ∈ cb :: F1, w0.heap.size ≤ y := by
          intro y hy
          rcases List.mem_cons.1 hy with e | e
          · omega
          · exact f5 y e
        have hdis : ∀ y ∈ cb :: F1, y ∉ tb :: F := by
          intro y hy hh
          have h1 := hlow y hy
          rcases List.mem_cons.1 hh with e | e
          · have := hR0.t.lt; omega
          · have := hR0.t.low _ e; omega
        have HDIS := Lib.hid hdis
        have HLOW := Lib.hid hlow
        have HR0' := Lib.hid hR0
        clear z1 z2 f5 c5 hc5 hR0 hdis hlow
        go_wp2_with fail
        refine (put_any tb F L p U N _ hR5.t HU.out HN.out (by omega)).mono ?_
        rintro e9 w6 ⟨rfl, F6, k6, g6, hc6⟩
        have hT6 := k5.chg hc6 (HDIS.out cb (by simp)) (fun y hy => HDIS.out y (List.mem_cons_of_mem _ hy))
        have hR6 := hR5.tstep k6 g6 hc6
        have hdis6 : ∀ y ∈ cb :: F1, y ∉ tb :: F6 := by
          intro y hy hh
          have hy5 : y < w5.heap.size := by
            rcases List.mem_cons.1 hy with e | e
            · rw [e]; exact k5.lt
            · exact k5.low y e
          rcases List.mem_cons.1 hh with e | e
          · exact HDIS.out y hy (by simp [e])
          · rcases g6 y e with e2 | e2
            · exact HDIS.out y hy (List.mem_cons_of_mem _ e2)
            · omega
        have HDIS6 := Lib.hid hdis6
        clear hdis6 k5 k6 g6 hc6 hR5 y1 y2 HDIS HU HN
        go_wp2_with fail
        refine (due_v tb F6 _ (p + 1) 4611686018427387904 _ _ _ hR6.t (by omega) (Lib.hid rfl) (Lib.hid rfl)).mono ?_
        rintro e9 w7 ⟨a7, c7, rfl, _, k7, hc7⟩
        have hT7 := hT6.chg hc7 (HDIS6.out cb (by simp)) (fun y hy => HDIS6.out y (List.mem_cons_of_mem _ hy))
        have hR7 := hR6.tstep k7 (fun y hy => .inl hy) hc7
        clear hT6 hR6 k7 hc7 HDIS6
        go_wp2_with fail
        refine (rcopy_any q G L _ hR7.x).mono ?_
        rintro e9 w8 ⟨q8, G8, rfl, x1, x2, x3, hc8⟩
        obtain ⟨G9, hR9⟩ := HR0'.out.copies hT7 HLOW.out hR7.chg x3 x1 x2 hc8
        clear HR0' hT7 hR7 x1 x2 x3 hc8 HLOW hpF hpq

        obtain ⟨nv1, hnv1⟩ : ∃ nv1, nv1 = hdI L := ⟨_, rfl⟩
        obtain ⟨nv2, hnv2⟩ : ∃ nv2, nv2 = hdD L := ⟨_, rfl⟩
        obtain ⟨nv3, hnv3⟩ : ∃ nv3, nv3 = hdB L := ⟨_, rfl⟩
        have H1 := Lib.hid hnv1
        have H2 := Lib.hid hnv2
        have H3 := Lib.hid hnv3
        have gb : (nv3 != nv3) = false := by simp
        clear hnv1 hnv2 hnv3
        go_wp2_with fail
        refine (next_v cb F1 L p _ nv1 nv2 nv3 hR9.t H1 H2 H3).mono ?_
        rintro e9 wn ⟨rfl, hcn⟩
        have hRn := hR9.same hcn
        clear hR9 hcn
        go_wp2_with fail
        refine (rnext_v L p _ q8 G9 nv1 nv2 nv3 hRn.x hRn.t.ok H1 H2 H3).mono ?_
        rintro e9 wm ⟨rfl, hcm⟩
        have hRm := hRn.same hcm
        clear hRn hcm H1 H2 H3
        obtain ⟨vq, hq1, hq2⟩ := hRm.x.2
        obtain ⟨aq, cq, rfl⟩ := hq2.1.len
        have kq : wm.cell? ⟨q8, 0, none⟩ = some (.slice aq (L).length cq) := cell_of hq1
        have hlq := hRm.x.1
        clear hq1 hq2
        have hlen := fun (m : Nat) => len_any cb F1 L p (wm.drewN m) (hRm.t.drewN m)
        have HR := Lib.hid hRm
        clear hRm
        go_wp2_with fail
        go_quiet ((go_at_call 14; exact Calls.quiet_of_same ((hlen _).mono fun e w' h => ⟨h.1, h.2.symm⟩)))
        go_wp2_with fail
        clear hlen kq
        refine wp_abs ?_
        intro wo hwo
        have hRo : TR w wo cb F1 L p q8 G9 L := by rw [hwo]; exact HR.out.same ((Chg.refl [] _).drewN _)
        clear hwo HR
        go_loop [14] (fun v => ∃ k : Nat, k ≤ j + 1 ∧ v = .int .i64 (k : Nat)) (fun v => j + 1 - (intOf v).toNat)
        case atStart => exact ⟨0, Nat.zero_le _, rfl⟩
        case round =>
          obtain ⟨k, hk, rfl⟩ := hrel
          by_cases hkj : k ≤ j
          · obtain ⟨g1, o1, ha1, _, _, b1, _, hok1⟩ := HA.out k (by omega)
            have hg1 := ha1
            injection hg1 with hg1
            injection hg1 with hgb hgo
            subst hgb; subst hgo
            obtain ⟨I, hI⟩ : ∃ I, I = acts[k].u := ⟨_, rfl⟩
            rw [← hI] at b1
            have hII : InI I := by rw [hI]; exact hok1.2.1
            have b2 := hRo.chg.cell b1 (by simp)
            have HI := Lib.hid hII
            clear hI hok1 b1 ha1 hII
            obtain ⟨va, hva⟩ : ∃ va, va = lookA L I := ⟨_, rfl⟩
            obtain ⟨vb, hvb⟩ : ∃ vb, vb = lookB L I := ⟨_, rfl⟩
            have HV := Lib.hid hva
            have HW := Lib.hid hvb
            have gv : (vb != vb) = false := by simp
            clear hva hvb
            go_wp2_with fail
            refine (at_v cb F1 L p _ I va vb hRo.t HI.out HV HW).mono ?_
            rintro e9 w9 ⟨rfl, rfl⟩
            go_wp2_with fail
            refine (rat_any q8 G9 L _ I va vb hRo.x HV HW).mono ?_
            rintro e9 w9 ⟨rfl, rfl⟩
            go_wp2
            go_round
            case rel => exact ⟨k + 1, by omega, by go_num⟩
            case measure => simp [intOf] <;> omega
          · have tk : decide (k ≤ j) = false := by simp; omega
            go_wp2
            go_roundw
            case rel => exact ⟨j + 1, cb, F1, L, p, q8, G9, by omega, by go_num, rfl, rfl, hRo, by omega⟩
            case measure => simp [intOf] <;> omega
      have u3 : ((K : Int) == 3) = false := by simp; omega
      · skip
        go_wp2_with fail
        rw [← hp0]
        refine calls_abs ?_
        intro w0 hw0
        have z1 : w0.cell? ⟨p0, 1, none⟩ = some (.int .i64 U) := by rw [hw0, hp0]; exact cell_of (heap_new _ _)
        have z2 : w0.cell? ⟨p0, 2, none⟩ = some (.int .i64 N) := by rw [hw0, hp0]; exact cell_of (heap_new _ _)
        have hR0 : TR w w0 tb F L p q G L := by rw [hw0]; exact hR.same ((Chg.refl _ _).alloc _)
        clear hw0 hp0 e0 e1 e2 hR
        refine (put_any tb F L p U N w0 hR0.t HU.out HN.out (by omega)).mono ?_
        rintro e9 w5 ⟨rfl, F5, k5, g5, hc5⟩
        have hR5 := hR0.tstep k5 g5 hc5
        have y1 := hc5.cell (p := ⟨p0, 1, none⟩) z1 hpF
        have y2 := hc5.cell (p := ⟨p0, 2, none⟩) z2 hpF
        clear z1 z2 k5 g5 hc5 hR0 HU HN
        have hl9 : L.length ≤ 900 := by omega
        go_wp2_with fail
        refine (rput_any q G L w5 U N (p + 1) hR5.x hl9).mono ?_
        rintro e9 w6 ⟨rfl, ⟨G6, k6, g6⟩, hc6⟩
        obtain ⟨G9, hR9⟩ := hR5.xstep k6 (fun g hg => .inr (g6 g hg)) hc6
        obtain ⟨M, hM⟩ : ∃ M, M = putL L U N (p + 1) := ⟨_, rfl⟩
        rw [← hM] at hR9
        clear hR5 k6 g6 hc6 y1 y2 hM hpF hpq G6

        obtain ⟨nv1, hnv1⟩ : ∃ nv1, nv1 = hdI M := ⟨_, rfl⟩
        obtain ⟨nv2, hnv2⟩ : ∃ nv2, nv2 = hdD M := ⟨_, rfl⟩
        obtain ⟨nv3, hnv3⟩ : ∃ nv3, nv3 = hdB M := ⟨_, rfl⟩
        have H1 := Lib.hid hnv1
        have H2 := Lib.hid hnv2
        have H3 := Lib.hid hnv3
        have gb : (nv3 != nv3) = false := by simp
        clear hnv1 hnv2 hnv3
        go_wp2_with fail
        refine (next_v tb F5 M (p + 1) _ nv1 nv2 nv3 hR9.t H1 H2 H3).mono ?_
        rintro e9 wn ⟨rfl, hcn⟩
        have hRn := hR9.same hcn
        clear hR9 hcn
        go_wp2_with fail
        refine (rnext_v M (p + 1) _ q G9 nv1 nv2 nv3 hRn.x hRn.t.ok H1 H2 H3).mono ?_
        rintro e9 wm ⟨rfl, hcm⟩
        have hRm := hRn.same hcm
        clear hRn hcm H1 H2 H3
        obtain ⟨vq, hq1, hq2⟩ := hRm.x.2
        obtain ⟨aq, cq, rfl⟩ := hq2.1.len
        have kq : wm.cell? ⟨q, 0, none⟩ = some (.slice aq (M).length cq) := cell_of hq1
        have hlq := hRm.x.1
        clear hq1 hq2
        have hlen := fun (m : Nat) => len_any tb F5 M (p + 1) (wm.drewN m) (hRm.t.drewN m)
        have HR := Lib.hid hRm
        clear hRm
        go_wp2_with fail
        go_quiet ((go_at_call 14; exact Calls.quiet_of_same ((hlen _).mono fun e w' h => ⟨h.1, h.2.symm⟩)))
        go_wp2_with fail
        clear hlen kq
        refine wp_abs ?_
        intro wo hwo
        have hRo : TR w wo tb F5 M (p + 1) q G9 M := by rw [hwo]; exact HR.out.same ((Chg.refl [] _).drewN _)
        clear hwo HR
        go_loop [14] (fun v => ∃ k : Nat, k ≤ j + 1 ∧ v = .int .i64 (k : Nat)) (fun v => j + 1 - (intOf v).toNat)
        case atStart => exact ⟨0, Nat.zero_le _, rfl⟩
        case round =>
          obtain ⟨k, hk, rfl⟩ := hrel
          by_cases hkj : k ≤ j
          · obtain ⟨g1, o1, ha1, _, _, b1, _, hok1⟩ := HA.out k (by omega)
            have hg1 := ha1
            injection hg1 with hg1
            injection hg1 with hgb hgo
            subst hgb; subst hgo
            obtain ⟨I, hI⟩ : ∃ I, I = acts[k].u := ⟨_, rfl⟩
            rw [← hI] at b1
            have hII : InI I := by rw [hI]; exact hok1.2.1
            have b2 := hRo.chg.cell b1 (by simp)
            have HI := Lib.hid hII
            clear hI hok1 b1 ha1 hII
            obtain ⟨va, hva⟩ : ∃ va, va = lookA M I := ⟨_, rfl⟩
            obtain ⟨vb, hvb⟩ : ∃ vb, vb = lookB M I := ⟨_, rfl⟩
            have HV := Lib.hid hva
            have HW := Lib.hid hvb
            have gv : (vb != vb) = false := by simp
            clear hva hvb
            go_wp2_with fail
            refine (at_v tb F5 M (p + 1) _ I va vb hRo.t HI.out HV HW).mono ?_
            rintro e9 w9 ⟨rfl, rfl⟩
            go_wp2_with fail
            refine (rat_any q G9 M _ I va vb hRo.x HV HW).mono ?_
            rintro e9 w9 ⟨rfl, rfl⟩
            go_wp2
            go_round
            case rel => exact ⟨k + 1, by omega, by go_num⟩
            case measure => simp [intOf] <;> omega
          · have tk : decide (k ≤ j) = false := by simp; omega
            go_wp2
            go_roundw
            case rel => exact ⟨j + 1, tb, F5, M, (p + 1), q, G9, by omega, by go_num, rfl, rfl, hRo, by omega⟩
            case measure => simp [intOf] <;> omega
    · obtain rfl : j = acts.length := by omega
      obtain ⟨dd, hdd⟩ : ∃ dd, dd = dueL L 9223372036854775807 := ⟨_, rfl⟩
      have hLp := hR.t.ok.len
      have hdl : dd.length ≤ 1000000 := by have := dueL_le L 9223372036854775807; rw [← hdd] at this; omega
      have HDD := Lib.hid hdd
      have hok0 := hR.t.ok
      have hql : q < wr.heap.size := hR.x.lt
      clear hdd
      go_wp2_with fail
      refine (due_v tb F L p 9223372036854775807 dd _ _ hR.t (by omega) HDD (Lib.hid rfl)).mono ?_
      rintro e9 w5 ⟨a5, c5, rfl, ho5, k5, hc5⟩
      have hR5 := hR.tstep k5 (fun y hy => .inl hy) hc5
      clear hR
      go_wp2_with fail
      refine (rdue_v q G L p 9223372036854775807 dd _ _ hR5.x hok0 HDD (Lib.hid rfl)).mono ?_
      rintro e9 w6 ⟨a6, c6, rfl, ho6, ⟨G6, k6, g6⟩, hc6⟩
      obtain ⟨G9, hR6⟩ := hR5.xstep k6 g6 hc6
      have ho56 := OwnZ.chg ho5 hc6 (by simpa using hql)
      clear hR5 k5 hc5 k6 g6 hc6
      go_wp2_with fail
      refine (intsz_c _ _ dd dd true (Lib.hid (by simp)) _ ho56.row ho6.row hdl hdl).mono ?_
      rintro e9 w7 ⟨rfl, hc7⟩
      go_wp2_with fail
      refine (awake_any _).mono ?_
      rintro e w8 ⟨rfl, hc8⟩
      go_wp2
      go_ret
      exact ⟨rfl, ((hR6.chg.trans hc7).trans hc8).below (Nat.le_refl _) (by simp)⟩

end Go.Proofs.Ytlkhaookdmgbnaa
