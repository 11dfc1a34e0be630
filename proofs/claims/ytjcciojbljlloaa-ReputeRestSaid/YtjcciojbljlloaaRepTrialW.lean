/- The walk of ReputeTrial. -/
import Derived.Test.YtjcciojbljlloaaRepI
import Derived.Test.YtjcciojbljlloaaRepPl2
namespace Go.Proofs.Ytjcciojbljlloaa
open Go.RowKit

theorem i64_of {a : Int} (h : (Lit.int .i64 a).wf = true) : -9223372036854775808 ≤ a ∧ a ≤ 9223372036854775807 := int_i64 h

def TrialR (b r L R n : Nat) (acts : List ActT) (w : World) (i : Value) (wr : World) : Prop :=
  ∃ j : Nat, j ≤ acts.length ∧ i = .int .i64 j ∧ Book wr b r L R (foldB L R (newB n) (acts.take j)) ∧ Chg [] w wr
def PairR (b r c rc L R n : Nat) (us vs : List Up) (w : World) (i : Value) (wr : World) : Prop :=
  ∃ j : Nat, j ≤ n ∧ i = .int .i64 j ∧ Book wr b r L R vs ∧ Book wr c rc L R us ∧ Chg [] w wr

set_option maxRecDepth 100000 in
set_option maxHeartbeats 8000000 in
theorem reputeTrial_walk (x y z : Int) (a : Option Addr) (cap : Nat) (acts : List ActT) (w : World) (_hx : (Lit.int .i64 x).wf = true) (_hy : (Lit.int .i64 y).wf = true) (_hz : (Lit.int .i64 z).wf = true) (h : IsActs w a acts) :
    Calls Try.prog 5 #[.int .i64 x, .int .i64 y, .int .i64 z, .slice a acts.length cap] w fun e w' => e = .returned (.bool true) ∧ Below w.heap.size w w' := by
  have hmax := h.1
  unfold maxLen at hmax
  have HA := Lib.hid h.2
  clear h
  by_cases hbig : 600 < acts.length
  · go_enter Try.func5, Try.ntmps5
    go_wp2_with fail
    refine (awake_any _).mono ?_
    rintro e w1 ⟨rfl, hc1⟩
    go_wp2
    go_ret
    exact ⟨rfl, hc1.below (Nat.le_refl _) (by simp)⟩
  have hd : decide (600 < acts.length) = false := by simpa using hbig
  have hdI : decide ((600 : Int) < (acts.length : Int)) = false := by simp; omega
  have hleI : (acts.length : Int) ≤ 600 := by omega
  have hle6 : acts.length ≤ 600 := by omega
  obtain ⟨n, L, R, hS⟩ := sizes_any x y z
  have HS := Lib.hid hS
  have hL2 := hS.L2
  have n9 : n ≤ 9 := by have := hS.n5; omega
  have n1 : 1 ≤ n := by have := hS.n5; omega
  have hR2 := hS.R2
  obtain ⟨B, hB⟩ : ∃ B, B = bnd L := ⟨_, rfl⟩
  have emin : (if (L : Int) + 10 < 100 then (L : Int) + 10 else 100) = (B : Int) := by rw [hB]; unfold bnd; split <;> omega
  have HB := Lib.hid hB
  clear hS hB hbig
  go_enter Try.func5, Try.ntmps5
  go_wp2_with fail
  refine (awake_any _).mono ?_
  rintro e w1 ⟨rfl, hC1⟩
  go_wp2_with fail
  refine (made_any x y z none 0 [] n L R HS.out _ (isActs_nil _)).mono ?_
  rintro e w2 ⟨b, r, rfl, hwb, hwr, h2, hc2⟩
  have hC2 : Chg [] w w2 := hC1.trans hc2
  have hwb' : w.heap.size ≤ b := by have := hC1.size; omega
  have hwr' : w.heap.size ≤ r := by have := hC1.size; omega
  clear hwb hwr hc2 hC1
  go_wp2_with fail
  go_loopw [13] (TrialR b r L R n acts w) (fun i _ => acts.length - (intOf i).toNat)
  case atStart => exact ⟨0, Nat.zero_le _, rfl, h2, hC2⟩
  case round =>
    clear h2 hC2
    obtain ⟨j, hj, rfl, hb, hC⟩ := hrel
    by_cases hlt : j < acts.length
    · obtain ⟨q, o, ha, hq, d0, d1, d2, hok⟩ := HA.out j hlt
      have hst := foldB_step L R (newB n) acts j hlt
      obtain ⟨A, hA⟩ : ∃ A, A = acts[j] := ⟨_, rfl⟩
      rw [← hA] at d0 d1 d2 hst
      obtain ⟨us, hus⟩ : ∃ us, us = foldB L R (newB n) (acts.take j) := ⟨_, rfl⟩
      obtain ⟨vs, hvs⟩ : ∃ vs, vs = foldB L R (newB n) (acts.take (j + 1)) := ⟨_, rfl⟩
      have hul : us.length = n := by rw [hus, foldB_len, newB_len]
      have hvl : vs.length = n := by rw [hvs, foldB_len, newB_len]
      have hto : AllTrial L us := by rw [hus]; exact allTrial_fold _ (allTrial_new L n)
      rw [← hus, ← hvs] at hst
      rw [← hus] at hb
      have htr : ∀ i (h1 : i < us.length) (h2 : i < vs.length), Tr L us[i] vs[i] := by
        intro i h1 h2
        have := doB_tr L R us A.k A.u A.n i h1 (by rw [← hst]; exact h2)
        simp only [← hst] at this
        exact this
      have HTR := Lib.hid htr
      have HTO := Lib.hid hto
      have HST := Lib.hid hst
      have HVS := Lib.hid hvs
      have HUL := Lib.hid hul
      have HVL := Lib.hid hvl
      have hpos : 0 < us.length := by omega
      subst ha
      clear hA hst hus hvs htr hto hul hvl hok
      go_wp2_with fail
      refine (copy_any b r L R us _ hb hpos).mono ?_
      rintro e w3 ⟨c, rc, rfl, hwc, hwrc, c3, hc3⟩
      have b3 := hb.chg hc3 (by simp) (by simp)
      have hC3 := hC.trans hc3
      have hcr : c ≠ r := by have := hb.ltr; omega
      have hrcr : rc ≠ r := by have := hb.ltr; omega
      have e0 := hC3.cell d0 (by simp)
      have e1 := hC3.cell d1 (by simp)
      have e2 := hC3.cell d2 (by simp)
      clear hc3 hb hC d0 d1 d2
      go_wp2_with fail
      refine (does_any b r L R us A.k A.u A.n _ b3).mono ?_
      rintro e w4 ⟨rfl, b4, hc4⟩
      rw [← HST.out] at b4
      have c4 := c3.chg hc4 (by simpa using hcr) (by simpa using hrcr)
      have hC4 : Chg [] w w4 := hC3.trans_new hc4 (by simpa using hwr')
      clear e0 e1 e2 hc4 b3 c3 hC3
      go_wp2_with fail
      obtain ⟨wo, hwo⟩ : ∃ wo : World, wo = wr := ⟨_, rfl⟩
      go_loopw [15] (PairR b r c rc L R n us vs w) (fun i _ => n - (intOf i).toNat)
      case atStart => exact ⟨0, Nat.zero_le _, rfl, b4, c4, hC4⟩
      case round =>
        clear b4 c4 hC4
        obtain ⟨i, hi, rfl, hb5, hc5, hC5⟩ := hrel
        by_cases hlt2 : i < n
        · have hiu : i < us.length := by rw [HUL.out]; exact hlt2
          have hiv : i < vs.length := by rw [HVL.out]; exact hlt2
          obtain ⟨p, hp⟩ : ∃ p, p = tellB us i := ⟨_, rfl⟩
          obtain ⟨q, hq⟩ : ∃ q, q = tellB vs i := ⟨_, rfl⟩
          have HP := Lib.hid hp
          have HQ := Lib.hid hq
          rw [tell_in hiu] at hp
          rw [tell_in hiv] at hq
          have htr := HTR.out i hiu hiv
          have hto := HTO.out i hiu
          have hB := HB.out
          have f1 : q.trial = true → q.rests = false ∧ q.score < B := by rw [hq, hB]; exact fun a => tr_trial (x := us[i]) (y := vs[i]) htr hto a
          have f2 : q.trial = true → p.trial = false → p.rests = true := by rw [hq, hp]; exact fun a1 a2 => tr_new (x := us[i]) (y := vs[i]) htr a1 a2
          have f3 : p.trial = true → q.trial = false → q.rests = false → B ≤ q.score := by rw [hq, hp, hB]; exact fun a1 a2 a3 => tr_over (x := us[i]) (y := vs[i]) htr a1 a2 a3 hto
          clear hp hq htr hto hB
          cases hqt : q.trial with
          | true =>
            obtain ⟨hqr, hqs⟩ := f1 hqt
            have dqs : decide (B ≤ q.score) = false := by simp; omega
            cases hpt : p.trial with
            | true =>
              clear f1 f2 f3
              go_wp2_with fail
              refine (of_any c rc L R us i p HP _ hc5).mono ?_
              rintro e w6 ⟨rfl, hc6⟩
              have hb6 := hb5.chg hc6 (by simp) (by simp)
              have hcc6 := hc5.chg hc6 (by simp) (by simp)
              have hC6 := hC5.trans hc6
              clear hc6
              go_wp2_with fail
              refine (of_any b r L R vs i q HQ _ hb6).mono ?_
              rintro e w7 ⟨rfl, hc7⟩
              have hb7 := hb6.chg hc7 (by simp) (by simp)
              have hcc7 := hcc6.chg hc7 (by simp) (by simp)
              have hC7 := hC6.trans hc7
              clear hc7 hb6 hcc6 hC6 hb5 hc5 hC5
              unfold upA
              go_wp2
              go_roundw
              case rel => exact ⟨i + 1, by omega, by go_num, (hb7.chg ((Chg.refl [] _).alloc _) (by simp) (by simp)).chg ((Chg.refl [] _).alloc _) (by simp) (by simp), (hcc7.chg ((Chg.refl [] _).alloc _) (by simp) (by simp)).chg ((Chg.refl [] _).alloc _) (by simp) (by simp), (hC7.alloc _).alloc _⟩
              case measure => simp [intOf] <;> omega
            | false =>
              have hpr := f2 hqt hpt
              clear f1 f2 f3
              go_wp2_with fail
              refine (of_any c rc L R us i p HP _ hc5).mono ?_
              rintro e w6 ⟨rfl, hc6⟩
              have hb6 := hb5.chg hc6 (by simp) (by simp)
              have hcc6 := hc5.chg hc6 (by simp) (by simp)
              have hC6 := hC5.trans hc6
              clear hc6
              go_wp2_with fail
              refine (of_any b r L R vs i q HQ _ hb6).mono ?_
              rintro e w7 ⟨rfl, hc7⟩
              have hb7 := hb6.chg hc7 (by simp) (by simp)
              have hcc7 := hcc6.chg hc7 (by simp) (by simp)
              have hC7 := hC6.trans hc7
              clear hc7 hb6 hcc6 hC6 hb5 hc5 hC5
              unfold upA
              go_wp2
              go_roundw
              case rel => exact ⟨i + 1, by omega, by go_num, (hb7.chg ((Chg.refl [] _).alloc _) (by simp) (by simp)).chg ((Chg.refl [] _).alloc _) (by simp) (by simp), (hcc7.chg ((Chg.refl [] _).alloc _) (by simp) (by simp)).chg ((Chg.refl [] _).alloc _) (by simp) (by simp), (hC7.alloc _).alloc _⟩
              case measure => simp [intOf] <;> omega
          | false =>
            cases hpt : p.trial with
            | false =>
              clear f1 f2 f3
              go_wp2_with fail
              refine (of_any c rc L R us i p HP _ hc5).mono ?_
              rintro e w6 ⟨rfl, hc6⟩
              have hb6 := hb5.chg hc6 (by simp) (by simp)
              have hcc6 := hc5.chg hc6 (by simp) (by simp)
              have hC6 := hC5.trans hc6
              clear hc6
              go_wp2_with fail
              refine (of_any b r L R vs i q HQ _ hb6).mono ?_
              rintro e w7 ⟨rfl, hc7⟩
              have hb7 := hb6.chg hc7 (by simp) (by simp)
              have hcc7 := hcc6.chg hc7 (by simp) (by simp)
              have hC7 := hC6.trans hc7
              clear hc7 hb6 hcc6 hC6 hb5 hc5 hC5
              unfold upA
              go_wp2
              go_roundw
              case rel => exact ⟨i + 1, by omega, by go_num, (hb7.chg ((Chg.refl [] _).alloc _) (by simp) (by simp)).chg ((Chg.refl [] _).alloc _) (by simp) (by simp), (hcc7.chg ((Chg.refl [] _).alloc _) (by simp) (by simp)).chg ((Chg.refl [] _).alloc _) (by simp) (by simp), (hC7.alloc _).alloc _⟩
              case measure => simp [intOf] <;> omega
            | true =>
              cases hqr : q.rests with
              | true =>
                clear f1 f2 f3
                go_wp2_with fail
                refine (of_any c rc L R us i p HP _ hc5).mono ?_
                rintro e w6 ⟨rfl, hc6⟩
                have hb6 := hb5.chg hc6 (by simp) (by simp)
                have hcc6 := hc5.chg hc6 (by simp) (by simp)
                have hC6 := hC5.trans hc6
                clear hc6
                go_wp2_with fail
                refine (of_any b r L R vs i q HQ _ hb6).mono ?_
                rintro e w7 ⟨rfl, hc7⟩
                have hb7 := hb6.chg hc7 (by simp) (by simp)
                have hcc7 := hcc6.chg hc7 (by simp) (by simp)
                have hC7 := hC6.trans hc7
                clear hc7 hb6 hcc6 hC6 hb5 hc5 hC5
                unfold upA
                go_wp2
                go_roundw
                case rel => exact ⟨i + 1, by omega, by go_num, (hb7.chg ((Chg.refl [] _).alloc _) (by simp) (by simp)).chg ((Chg.refl [] _).alloc _) (by simp) (by simp), (hcc7.chg ((Chg.refl [] _).alloc _) (by simp) (by simp)).chg ((Chg.refl [] _).alloc _) (by simp) (by simp), (hC7.alloc _).alloc _⟩
                case measure => simp [intOf] <;> omega
              | false =>
                have hbs := f3 hpt hqt hqr
                have dbs : decide (q.score < B) = false := by simp; omega
                clear f1 f2 f3
                go_wp2_with fail
                refine (of_any c rc L R us i p HP _ hc5).mono ?_
                rintro e w6 ⟨rfl, hc6⟩
                have hb6 := hb5.chg hc6 (by simp) (by simp)
                have hcc6 := hc5.chg hc6 (by simp) (by simp)
                have hC6 := hC5.trans hc6
                clear hc6
                go_wp2_with fail
                refine (of_any b r L R vs i q HQ _ hb6).mono ?_
                rintro e w7 ⟨rfl, hc7⟩
                have hb7 := hb6.chg hc7 (by simp) (by simp)
                have hcc7 := hcc6.chg hc7 (by simp) (by simp)
                have hC7 := hC6.trans hc7
                clear hc7 hb6 hcc6 hC6 hb5 hc5 hC5
                unfold upA
                go_wp2
                go_roundw
                case rel => exact ⟨i + 1, by omega, by go_num, (hb7.chg ((Chg.refl [] _).alloc _) (by simp) (by simp)).chg ((Chg.refl [] _).alloc _) (by simp) (by simp), (hcc7.chg ((Chg.refl [] _).alloc _) (by simp) (by simp)).chg ((Chg.refl [] _).alloc _) (by simp) (by simp), (hC7.alloc _).alloc _⟩
                case measure => simp [intOf] <;> omega
        · have dl2 : decide (i < n) = false := by simpa using hlt2
          rw [HVS.out] at hb5
          go_wp2
          go_roundw
          case rel => exact ⟨j + 1, by omega, by go_num, hb5, hC5⟩
          case measure => simp [intOf] <;> omega
    · have dl : decide (j < acts.length) = false := by simpa using hlt
      go_wp2
      go_ret
      exact ⟨rfl, hC.below (Nat.le_refl _) (by simp)⟩

end Go.Proofs.Ytjcciojbljlloaa
