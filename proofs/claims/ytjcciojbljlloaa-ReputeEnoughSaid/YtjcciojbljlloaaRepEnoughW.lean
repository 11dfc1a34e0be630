/- The walk of ReputeEnough. -/
import Derived.Test.YtjcciojbljlloaaRepTrialW
import Derived.IntWalk
namespace Go.Proofs.Ytjcciojbljlloaa
open Go.RowKit

theorem rests_q (b r L R : Nat) (us : List Up) (u : Int) (w : World) (v : Bool) (h : Book w b r L R us) (hv : Hid ((getB us u).rests = v)) :
    Calls Try.prog 14 #[.pointer (some ⟨b, 0, none⟩), .int .i64 u] w fun e w' => e = .returned (.bool v) ∧ w' = w :=
  (rests_v b r L R us u w v h hv).mono fun _ _ hh => ⟨hh.1, hh.2.symm⟩

def rst (p : Up) : Bool := p.rests
theorem rst_free (us : List Up) : ∀ i, (idxN free i us).length + (idxN rst i us).length = us.length := by
  induction us with
  | nil => intro i; rfl
  | cons p l ih =>
    intro i
    have := ih (i + 1)
    have hf : free p = !p.rests := rfl
    have hr : rst p = p.rests := rfl
    simp only [idxN, List.length_cons]
    by_cases hp : p.rests = true
    · rw [hp] at hf hr
      rw [hf, hr]
      simp only [Bool.not_true, Bool.false_eq_true, if_false, if_true, List.length_cons]
      omega
    · have hp' : p.rests = false := by simpa using hp
      rw [hp'] at hf hr
      rw [hf, hr]
      simp only [Bool.not_false, Bool.false_eq_true, if_false, if_true, List.length_cons]
      omega

def EnR (b r L R n : Nat) (acts : List ActT) (w : World) (i : Value) (wr : World) : Prop :=
  ∃ j : Nat, j ≤ acts.length + 1 ∧ i = .int .i64 ((j : Int) - 1) ∧ Book wr b r L R (foldB L R (newB n) (acts.take (j - 1))) ∧ Chg [] w wr
def CntR (vs : List Up) (n : Nat) (c i : Value) : Prop := ∃ u : Nat, u ≤ n ∧ i = .int .i64 u ∧ c = .int .i64 ((idxN rst 0 (vs.take u)).length : Nat)
def MayKR (b r L R : Nat) (vs : List Up) (g : Nat) (l : List Nat) (w : World) (i : Value) (wr : World) : Prop :=
  ∃ k : Nat, k ≤ l.length ∧ i = .int .i64 k ∧ Book wr b r L R vs ∧ (∀ j (h : j < l.length), wr.cell? ⟨g, j, none⟩ = some (.int .i64 (l[j] : Nat))) ∧ Chg [] w wr

theorem may_free {vs : List Up} {x : Nat} (h : x ∈ mayN vs) : ∃ hx : x < vs.length, vs[x].rests = false := by
  obtain ⟨_, h2, h3⟩ := (idxN_mem free x vs 0).1 h
  exact ⟨by simpa using h2, by simpa [free] using h3⟩

set_option maxRecDepth 100000 in
set_option maxHeartbeats 8000000 in
theorem en_round (b r L R n : Nat) (vs : List Up) (hvl : vs.length = n) (hen : Enough vs) : n / 2 + 1 ≤ (mayN vs).length ∧ (mayN vs).length + (idxN rst 0 vs).length = n ∧ (∀ k (h : k < (mayN vs).length), (getB vs ((mayN vs)[k] : Nat)).rests = false ∧ (mayN vs)[k] < n) ∧ (∀ k (h : k + 1 < (mayN vs).length), (mayN vs)[k] < (mayN vs)[k + 1]) := by
  unfold Enough at hen
  rw [hvl] at hen
  refine ⟨hen, by have := rst_free vs 0; rw [hvl] at this; exact this, ?_, ?_⟩
  · intro k h
    obtain ⟨hx, hr⟩ := may_free (List.getElem_mem h)
    rw [getB_in hx]
    exact ⟨hr, hvl ▸ hx⟩
  · intro k h
    have := idxN_sorted free vs 0
    exact List.pairwise_iff_getElem.1 this k (k + 1) (Nat.lt_of_succ_lt h) h (Nat.lt_succ_self k)

theorem rst_step (vs : List Up) (k : Nat) (h : k < vs.length) : (idxN rst 0 (vs.take (k + 1))).length = (idxN rst 0 (vs.take k)).length + (if vs[k].rests then 1 else 0) := by
  rw [idx_step rst vs k h]
  unfold rst
  split <;> simp

set_option maxRecDepth 100000 in
set_option maxHeartbeats 8000000 in
theorem reputeEnough_walk (x y z : Int) (a : Option Addr) (cap : Nat) (acts : List ActT) (w : World) (_hx : (Lit.int .i64 x).wf = true) (_hy : (Lit.int .i64 y).wf = true) (_hz : (Lit.int .i64 z).wf = true) (h : IsActs w a acts) :
    Calls Try.prog 3 #[.int .i64 x, .int .i64 y, .int .i64 z, .slice a acts.length cap] w fun e w' => e = .returned (.bool true) ∧ Below w.heap.size w w' := by
  have hmax := h.1
  unfold maxLen at hmax
  have HA := Lib.hid h.2
  clear h
  by_cases hbig : 600 < acts.length
  · go_enter Try.func3, Try.ntmps3
    go_wp2_with fail
    refine (awake_any _).mono ?_
    rintro e w1 ⟨rfl, hc1⟩
    go_wp2
    go_ret
    exact ⟨rfl, hc1.below (Nat.le_refl _) (by simp)⟩
  have hd : decide (600 < acts.length) = false := by simpa using hbig
  have hdI : decide ((600 : Int) < (acts.length : Int)) = false := by simp; omega
  have hleI : (acts.length : Int) ≤ 600 := by omega
  obtain ⟨n, L, R, hS⟩ := sizes_any x y z
  have HS := Lib.hid hS
  have n9 : n ≤ 9 := by have := hS.n5; omega
  have n1 : 1 ≤ n := by have := hS.n5; omega
  clear hS hbig
  go_enter Try.func3, Try.ntmps3
  go_wp2_with fail
  refine (awake_any _).mono ?_
  rintro e w1 ⟨rfl, hC1⟩
  go_wp2_with fail
  refine (made_any x y z none 0 [] n L R HS.out _ (isActs_nil _)).mono ?_
  rintro e w2 ⟨b, r, rfl, hwb, hwr, h2, hc2⟩
  have hC2 : Chg [] w w2 := hC1.trans hc2
  have hwr' : w.heap.size ≤ r := by have := hC1.size; omega
  clear hwb hwr hc2 hC1
  go_wp2_with fail
  go_loopw [13] (EnR b r L R n acts w) (fun i _ => (acts.length : Int).toNat + 1 - (intOf i + 1).toNat)
  case atStart => exact ⟨0, Nat.zero_le _, rfl, h2, hC2⟩
  case round =>
    clear h2 hC2
    obtain ⟨j, hj, rfl, hb, hC⟩ := hrel
    by_cases hlt : j < acts.length + 1
    · obtain ⟨vs, hvs⟩ : ∃ vs, vs = foldB L R (newB n) (acts.take j) := ⟨_, rfl⟩
      have hvl : vs.length = n := by rw [hvs, foldB_len, newB_len]
      have hen : Enough vs := by rw [hvs]; exact enough_fold _ (enough_new n n1)
      have HVS := Lib.hid hvs
      obtain ⟨q1, q2, q3, q4⟩ := en_round b r L R n vs hvl hen
      obtain ⟨l, hl⟩ : ∃ l, l = mayN vs := ⟨_, rfl⟩
      rw [← hl] at q1 q2
      have HMAY : Hid (mayN vs = l) := Lib.hid hl.symm
      have Q3 : Hid (∀ k (h : k < l.length), (getB vs (l[k] : Nat)).rests = false ∧ l[k] < n) := Lib.hid (by subst hl; exact q3)
      have Q4 : Hid (∀ k (h : k + 1 < l.length), l[k] < l[k + 1]) := Lib.hid (by subst hl; exact q4)
      have HVL := Lib.hid hvl
      have Q2 := Lib.hid q2
      have hlpos : 0 < l.length := by omega
      have hl9 : l.length ≤ 9 := by omega
      clear hvs hvl hen q3 q4 hl q2
      cases j with
      | zero =>
        have hbW : Book wr b r L R vs := by rw [HVS.out]; exact hb
        have hCW := hC
        clear hb
        rw [show (((0 : Nat) : Int) - 1) = -1 from rfl]
        go_wp2_with fail
        refine (may_v b r L R vs _ l hbW HMAY).mono ?_
        rintro e w4 ⟨am, cm, rfl, own4, hc4⟩
        have b4 := hbW.chg hc4 (by simp) (by simp)
        have hC4 := hCW.trans hc4
        obtain ⟨hlnil, _⟩ | ⟨g, cg, hv, hcells⟩ := row_of_own own4
        · rw [hlnil] at hlpos; simp at hlpos
        injection hv with hv1 hv2 hv3
        subst hv1
        have HCELLS := Lib.hid hcells
        clear hcells hv2 hv3 own4 hc4 hbW hCW
        go_wp2_with fail
        go_loop [15, 16] (CntR vs n) (fun _ i => n - (intOf i).toNat)
        case atStart => exact ⟨0, Nat.zero_le _, rfl, rfl⟩
        case round =>
          obtain ⟨u, hu, rfl, rfl⟩ := hrel
          have hcl : (idxN rst 0 (vs.take u)).length ≤ 9 := Nat.le_trans (idx_le rst vs u) (by omega)
          by_cases hun : u < n
          · have huv : u < vs.length := by rw [HVL.out]; exact hun
            have hst := rst_step vs u huv
            obtain ⟨N, hN⟩ : ∃ N, N = (idxN rst 0 (vs.take u)).length := ⟨_, rfl⟩
            rw [← hN] at hst hcl ⊢
            have HST := Lib.hid hst
            obtain ⟨v, hv⟩ : ∃ v, v = vs[u].rests := ⟨_, rfl⟩
            have HV : Hid ((getB vs (u : Int)).rests = v) := Lib.hid (by rw [getB_in huv, hv])
            have HV2 := Lib.hid hv
            clear hst hN hv
            go_wp2_with fail
            refine (rests_v b r L R vs u _ v b4 HV).mono ?_
            rintro e w5 ⟨rfl, rfl⟩
            cases v with
            | true =>
              go_wp2
              go_round
              case rel => exact ⟨u + 1, hun, by go_num, by rw [HST.out, ← HV2.out, if_pos rfl]; go_num⟩
              case measure => simp [intOf] <;> omega
            | false =>
              go_wp2
              go_round
              case rel => exact ⟨u + 1, hun, by go_num, by rw [HST.out, ← HV2.out, if_neg (by decide)]; go_num⟩
              case measure => simp [intOf] <;> omega
          · have dun : decide (u < n) = false := by simpa using hun
            have hvt : vs.take u = vs := List.take_of_length_le (by rw [HVL.out]; omega)
            rw [hvt] at hcl ⊢
            obtain ⟨N, hN⟩ : ∃ N, N = (idxN rst 0 vs).length := ⟨_, rfl⟩
            have q2 := Q2.out
            rw [← hN] at hcl q2 ⊢
            have t1 : decide ((l.length : Int) < (n : Int) / 2 + 1) = false := by simp; omega
            have t2 : ((l.length : Int) + (N : Int) != (n : Int)) = false := by simp; omega
            clear hvt hN q2 hun
            go_wp2_with fail
            go_loopw [17] (MayKR b r L R vs g l w) (fun i _ => l.length - (intOf i).toNat)
            case atStart => exact ⟨0, Nat.zero_le _, rfl, b4, HCELLS.out, hC4⟩
            case round =>
              clear b4 hC4 HCELLS t1 t2
              obtain ⟨k, hk, rfl, b5, hcells, hC5⟩ := hrel
              by_cases hkl : k < l.length
              · obtain ⟨x1, x2⟩ := Q3.out k hkl
                have ck := hcells k hkl
                obtain ⟨X, hX⟩ : ∃ X, X = l[k] := ⟨_, rfl⟩
                rw [← hX] at x1 x2 ck
                have HX := Lib.hid x1
                have hki : (k : Int) < (l.length : Int) := by omega
                have y1 : decide ((X : Int) < 0) = false := by simp
                have y2 : decide (n ≤ X) = false := by simp; omega
                have HCE := Lib.hid hcells
                cases k with
                | zero =>
                  clear x1 hX hcells
                  go_wp2_with fail
                  go_quiet ((go_at_call 14; exact Calls.quiet_of_same (rests_q b r L R vs X _ false (b5.chg ((Chg.refl [] _).drewN _) (by simp) (by simp)) HX)))
                  go_wp2
                  go_roundw
                  case rel => exact ⟨1, by omega, by go_num, b5.chg ((Chg.refl [] _).drewN _) (by simp) (by simp), HCE.out, hC5.drewN _⟩
                  case measure => simp [intOf] <;> omega
                | succ m =>
                  have hml : m < l.length := by omega
                  have cm' := hcells m hml
                  have hlt4 := Q4.out m hkl
                  obtain ⟨Y, hY⟩ : ∃ Y, Y = l[m] := ⟨_, rfl⟩
                  rw [← hX, ← hY] at hlt4
                  rw [← hY] at cm'
                  have y3 : decide (X ≤ Y) = false := by simp; omega
                  have y4 : IntKind.i64.wrap (((m + 1 : Nat) : Int) - 1) = (m : Int) := by rw [IntWalk.i64_in _ (by omega)]; omega
                  have y5 : (m : Int) < (l.length : Int) := by omega
                  have y6 : decide ((0 : Int) < ((m + 1 : Nat) : Int)) = true := by first | (simp; done) | (simp; omega)
                  clear x1 hX hY hcells
                  go_wp2_with fail
                  go_quiet ((go_at_call 14; exact Calls.quiet_of_same (rests_q b r L R vs X _ false (b5.chg ((Chg.refl [] _).drewN _) (by simp) (by simp)) HX)))
                  clear y4 y6
                  go_wp2
                  go_roundw
                  case rel => exact ⟨m + 1 + 1, by omega, by go_num, b5.chg ((Chg.refl [] _).drewN _) (by simp) (by simp), HCE.out, hC5.drewN _⟩
                  case measure => simp [intOf] <;> omega
              · have dkl : decide (k < l.length) = false := by simpa using hkl
                go_wp2
                go_roundw
                case rel => exact ⟨0 + 1, by omega, by go_num, by rw [HVS.out] at b5; exact b5, hC5⟩
                case measure => simp [intOf] <;> omega
      | succ k0 =>
        have hk0 : k0 < acts.length := by omega
        obtain ⟨q, o, ha, hq, d0, d1, d2, hok⟩ := HA.out k0 hk0
        have hst := foldB_step L R (newB n) acts k0 hk0
        obtain ⟨A, hA⟩ : ∃ A, A = acts[k0] := ⟨_, rfl⟩
        rw [← hA] at d0 d1 d2 hst
        rw [← HVS.out] at hst
        have HST0 := Lib.hid hst
        subst ha
        have e0 := hC.cell d0 (by simp)
        have e1 := hC.cell d1 (by simp)
        have e2 := hC.cell d2 (by simp)
        rw [show (((k0 + 1 : Nat) : Int) - 1) = (k0 : Int) by omega]
        rw [Nat.add_sub_cancel] at hb
        clear hA hst d0 d1 d2 hok
        go_wp2_with fail
        refine (does_any b r L R _ A.k A.u A.n _ hb).mono ?_
        rintro e w3 ⟨rfl, hbW, hc3⟩
        rw [← HST0.out] at hbW
        have hCW : Chg [] w w3 := hC.trans_new hc3 (by simpa using hwr')
        clear e0 e1 e2 hb hc3 hC
        go_wp2_with fail
        refine (may_v b r L R vs _ l hbW HMAY).mono ?_
        rintro e w4 ⟨am, cm, rfl, own4, hc4⟩
        have b4 := hbW.chg hc4 (by simp) (by simp)
        have hC4 := hCW.trans hc4
        obtain ⟨hlnil, _⟩ | ⟨g, cg, hv, hcells⟩ := row_of_own own4
        · rw [hlnil] at hlpos; simp at hlpos
        injection hv with hv1 hv2 hv3
        subst hv1
        have HCELLS := Lib.hid hcells
        clear hcells hv2 hv3 own4 hc4 hbW hCW
        go_wp2_with fail
        go_loop [15, 16] (CntR vs n) (fun _ i => n - (intOf i).toNat)
        case atStart => exact ⟨0, Nat.zero_le _, rfl, rfl⟩
        case round =>
          obtain ⟨u, hu, rfl, rfl⟩ := hrel
          have hcl : (idxN rst 0 (vs.take u)).length ≤ 9 := Nat.le_trans (idx_le rst vs u) (by omega)
          by_cases hun : u < n
          · have huv : u < vs.length := by rw [HVL.out]; exact hun
            have hst := rst_step vs u huv
            obtain ⟨N, hN⟩ : ∃ N, N = (idxN rst 0 (vs.take u)).length := ⟨_, rfl⟩
            rw [← hN] at hst hcl ⊢
            have HST := Lib.hid hst
            obtain ⟨v, hv⟩ : ∃ v, v = vs[u].rests := ⟨_, rfl⟩
            have HV : Hid ((getB vs (u : Int)).rests = v) := Lib.hid (by rw [getB_in huv, hv])
            have HV2 := Lib.hid hv
            clear hst hN hv
            go_wp2_with fail
            refine (rests_v b r L R vs u _ v b4 HV).mono ?_
            rintro e w5 ⟨rfl, rfl⟩
            cases v with
            | true =>
              go_wp2
              go_round
              case rel => exact ⟨u + 1, hun, by go_num, by rw [HST.out, ← HV2.out, if_pos rfl]; go_num⟩
              case measure => simp [intOf] <;> omega
            | false =>
              go_wp2
              go_round
              case rel => exact ⟨u + 1, hun, by go_num, by rw [HST.out, ← HV2.out, if_neg (by decide)]; go_num⟩
              case measure => simp [intOf] <;> omega
          · have dun : decide (u < n) = false := by simpa using hun
            have hvt : vs.take u = vs := List.take_of_length_le (by rw [HVL.out]; omega)
            rw [hvt] at hcl ⊢
            obtain ⟨N, hN⟩ : ∃ N, N = (idxN rst 0 vs).length := ⟨_, rfl⟩
            have q2 := Q2.out
            rw [← hN] at hcl q2 ⊢
            have t1 : decide ((l.length : Int) < (n : Int) / 2 + 1) = false := by simp; omega
            have t2 : ((l.length : Int) + (N : Int) != (n : Int)) = false := by simp; omega
            clear hvt hN q2 hun
            go_wp2_with fail
            go_loopw [17] (MayKR b r L R vs g l w) (fun i _ => l.length - (intOf i).toNat)
            case atStart => exact ⟨0, Nat.zero_le _, rfl, b4, HCELLS.out, hC4⟩
            case round =>
              clear b4 hC4 HCELLS t1 t2
              obtain ⟨k, hk, rfl, b5, hcells, hC5⟩ := hrel
              by_cases hkl : k < l.length
              · obtain ⟨x1, x2⟩ := Q3.out k hkl
                have ck := hcells k hkl
                obtain ⟨X, hX⟩ : ∃ X, X = l[k] := ⟨_, rfl⟩
                rw [← hX] at x1 x2 ck
                have HX := Lib.hid x1
                have hki : (k : Int) < (l.length : Int) := by omega
                have y1 : decide ((X : Int) < 0) = false := by simp
                have y2 : decide (n ≤ X) = false := by simp; omega
                have HCE := Lib.hid hcells
                cases k with
                | zero =>
                  clear x1 hX hcells
                  go_wp2_with fail
                  go_quiet ((go_at_call 14; exact Calls.quiet_of_same (rests_q b r L R vs X _ false (b5.chg ((Chg.refl [] _).drewN _) (by simp) (by simp)) HX)))
                  go_wp2
                  go_roundw
                  case rel => exact ⟨1, by omega, by go_num, b5.chg ((Chg.refl [] _).drewN _) (by simp) (by simp), HCE.out, hC5.drewN _⟩
                  case measure => simp [intOf] <;> omega
                | succ m =>
                  have hml : m < l.length := by omega
                  have cm' := hcells m hml
                  have hlt4 := Q4.out m hkl
                  obtain ⟨Y, hY⟩ : ∃ Y, Y = l[m] := ⟨_, rfl⟩
                  rw [← hX, ← hY] at hlt4
                  rw [← hY] at cm'
                  have y3 : decide (X ≤ Y) = false := by simp; omega
                  have y4 : IntKind.i64.wrap (((m + 1 : Nat) : Int) - 1) = (m : Int) := by rw [IntWalk.i64_in _ (by omega)]; omega
                  have y5 : (m : Int) < (l.length : Int) := by omega
                  have y6 : decide ((0 : Int) < ((m + 1 : Nat) : Int)) = true := by first | (simp; done) | (simp; omega)
                  clear x1 hX hY hcells
                  go_wp2_with fail
                  go_quiet ((go_at_call 14; exact Calls.quiet_of_same (rests_q b r L R vs X _ false (b5.chg ((Chg.refl [] _).drewN _) (by simp) (by simp)) HX)))
                  clear y4 y6
                  go_wp2
                  go_roundw
                  case rel => exact ⟨m + 1 + 1, by omega, by go_num, b5.chg ((Chg.refl [] _).drewN _) (by simp) (by simp), HCE.out, hC5.drewN _⟩
                  case measure => simp [intOf] <;> omega
              · have dkl : decide (k < l.length) = false := by simpa using hkl
                go_wp2
                go_roundw
                case rel => exact ⟨k0 + 1 + 1, by omega, by go_num, by rw [HVS.out] at b5; exact b5, hC5⟩
                case measure => simp [intOf] <;> omega
    · have dl : decide (((j : Int) - 1) < (acts.length : Int)) = false := by simp; omega
      obtain rfl : j = acts.length + 1 := by omega
      rw [show (((acts.length + 1 : Nat) : Int) - 1) = (acts.length : Int) by omega]
      clear dl
      go_wp2
      go_ret
      exact ⟨rfl, hC.below (Nat.le_refl _) (by simp)⟩

end Go.Proofs.Ytjcciojbljlloaa
