/- The walk of PendApart. -/
import Derived.Test.YteehenajchdgaaaPendFreeW
namespace Go.Proofs.Yteehenajchdgaaa
open Go.RowKit Go.Maps

theorem nat_u16 {x : Int} (h : (Lit.int .u16 x).wf = true) : ∃ n : Nat, x = n ∧ n < 65536 := by
  simp [Lit.wf, IntKind.min, IntKind.max, IntKind.signed, IntKind.bits] at h
  exact ⟨x.toNat, by omega, by omega⟩
theorem wrapu1 (n : Nat) : IntKind.u64.wrap ((n : Int) + 1) = (((n + 1) % 18446744073709551616 : Nat) : Int) := by
  rw [IntKind.wrap_u64]; omega

/-- Two tables of the same, that lie apart. -/
structure Two (w : World) (t1 : Nat) (m1 : List Nat) (t2 : Nat) (m2 : List Nat) (n : Nat) (L : List Ou) : Prop where
  a : PTab w t1 m1 n L
  b : PTab w t2 m2 n L
  d : ∀ m ∈ m1, m ∉ m2
theorem Two.chg {w w' : World} {S : List Nat} {t1 t2 : Nat} {m1 m2 : List Nat} {n : Nat} {L : List Ou} (h : Two w t1 m1 t2 m2 n L) (hc : Chg S w w') (ho : Odd S w) (h1 : ∀ m ∈ m1, m ∉ S) (h2 : ∀ m ∈ m2, m ∉ S) : Two w' t1 m1 t2 m2 n L :=
  ⟨h.a.chg hc ho h1, h.b.chg hc ho h2, h.d⟩
theorem Two.same {w w' : World} {t1 t2 : Nat} {m1 m2 : List Nat} {n : Nat} {L : List Ou} (h : Two w t1 m1 t2 m2 n L) (hc : Chg [] w w') : Two w' t1 m1 t2 m2 n L := ⟨h.a.same hc, h.b.same hc, h.d⟩
theorem not_cons {w : World} {tb : Nat} {ms mc : List Nat} {n : Nat} {L : List Ou} {b seed : Nat} {l : List Nat} {k : Nat} (h : PTab w tb ms n L) (ht : D.TapeAt w b seed l k) (hd : ∀ m ∈ ms, m ∉ mc) : ∀ m ∈ ms, m ∉ b :: mc := by
  intro m hm hh
  rcases List.mem_cons.1 hh with e | e
  · exact h.not_tape ht m hm e
  · exact hd m hm e

def ApR (t1 : Nat) (m1 : List Nat) (t2 : Nat) (m2 : List Nat) (n : Nat) (L : List Ou) (tc : Nat) (mc : List Nat) (b seed : Nat) (l : List Nat) (acts : List ActT) (w : World) (i : Value) (wr : World) : Prop :=
  ∃ j : Nat, j ≤ acts.length ∧ i = .int .i64 (j : Nat) ∧ Two wr t1 m1 t2 m2 n L ∧ TT wr tc mc n b seed l (runP n seed l ⟨L, 0⟩ (acts.take j)) ∧ Chg [] w wr
def ApF (t1 : Nat) (m1 : List Nat) (t2 : Nat) (m2 : List Nat) (n : Nat) (w : World) (i : Value) (wr : World) : Prop :=
  ∃ (j : Nat) (L : List Ou), j ≤ 32 ∧ i = .int .i64 (j : Nat) ∧ Two wr t1 m1 t2 m2 n L ∧ L.length ≤ 1000000 ∧ Chg [] w wr

set_option maxRecDepth 100000 in
set_option maxHeartbeats 8000000 in
theorem pendApart_walk (x sd : Int) (fa : Option Addr) (flen fcap : Nat) (zs : List Int) (a : Option Addr) (cap : Nat) (acts : List ActT) (a2 : Option Addr) (cap2 : Nat) (more : List ActT) (idi : Int) (w : World) (hx : (Lit.int .i64 x).wf = true) (hsd : (Lit.int .u64 sd).wf = true) (hz : IsRow .u64 w fa flen fcap zs) (hA : IsActs w a acts) (hA2 : IsActs w a2 more) (hid : (Lit.int .u16 idi).wf = true) :
    Calls Try.prog 5 #[.int .i64 x, .int .u64 sd, .slice fa flen fcap, .slice a acts.length cap, .slice a2 more.length cap2, .int .u16 idi] w fun e w' => e = .returned (.bool true) ∧ Below w.heap.size w w' := by
  have hmax := hA.1
  have hmax2 := hA2.1
  unfold maxLen at hmax hmax2
  have hxi := int_i64 hx
  obtain ⟨l, hll, hlb, hrd, _, hlm⟩ := D.arg_u64 hz
  unfold maxLen at hlm
  obtain ⟨seed, rfl, hseed⟩ := D.nat_of_u64 hsd
  obtain ⟨id, rfl, hidl⟩ := nat_u16 hid
  have HA := Lib.hid hA
  have HA2 := Lib.hid hA2
  have HRD := Lib.hid hrd
  have HLB := Lib.hid hlb
  subst hll
  clear hA hrd hlb hz hx hsd hA2 hid
  by_cases hb1 : 200 < acts.length
  · have hb1I : (200 : Int) < (acts.length : Int) := by omega
    go_enter Try.func5, Try.ntmps5
    go_wp2_with fail
    refine (awake_any _).mono ?_
    rintro e w1 ⟨rfl, hc1⟩
    go_wp2
    go_ret
    exact ⟨rfl, hc1.below (Nat.le_refl _) (by simp)⟩
  have hd1 : decide (200 < acts.length) = false := by simpa using hb1
  have hd1I : decide ((200 : Int) < (acts.length : Int)) = false := by simp; omega
  by_cases hb3 : 200 < more.length
  · have hb3I : (200 : Int) < (more.length : Int) := by omega
    clear hb1
    go_enter Try.func5, Try.ntmps5
    go_wp2_with fail
    refine (awake_any _).mono ?_
    rintro e w1 ⟨rfl, hc1⟩
    go_wp2
    go_ret
    exact ⟨rfl, hc1.below (Nat.le_refl _) (by simp)⟩
  have hd3 : decide (200 < more.length) = false := by simpa using hb3
  have hd3I : decide ((200 : Int) < (more.length : Int)) = false := by simp; omega
  by_cases hb2 : 300 < l.length
  · have hb2I : (300 : Int) < (l.length : Int) := by omega
    clear hb1 hb3
    go_enter Try.func5, Try.ntmps5
    go_wp2_with fail
    refine (awake_any _).mono ?_
    rintro e w1 ⟨rfl, hc1⟩
    go_wp2
    go_ret
    exact ⟨rfl, hc1.below (Nat.le_refl _) (by simp)⟩
  have hd2 : decide (300 < l.length) = false := by simpa using hb2
  have hd2I : decide ((300 : Int) < (l.length : Int)) = false := by simp; omega
  have hal : acts.length ≤ 200 := by omega
  have hal2 : more.length ≤ 200 := by omega
  have hll : l.length ≤ 300 := by omega
  clear hb1 hb2 hb3
  go_enter Try.func5, Try.ntmps5
  go_wp2_with fail
  refine (awake_any _).mono ?_
  rintro e w1 ⟨rfl, hc1⟩
  have hrd1 := HRD.out.chg (S := []) hc1 (by simp)
  have hA1 := HA.out.chg hc1
  obtain ⟨n, hn⟩ : ∃ n, n = upsN x := ⟨_, rfl⟩
  obtain ⟨st, hst⟩ : ∃ st, st = runP n seed l ⟨[], 0⟩ acts := ⟨_, rfl⟩
  have hlen := runP_len n seed l ⟨[], 0⟩ acts
  rw [← hst] at hlen
  simp only [List.length_nil, Nat.zero_add] at hlen
  have hLle : st.L.length ≤ 200 := by omega
  have HN := Lib.hid hn
  have HST := Lib.hid hst
  clear hn hst hlen
  go_wp2_with fail
  refine (made_any x seed _ l a cap acts n st w1 hxi (by omega) HLB.out hrd1 hA1 (by omega) HN HST).mono ?_
  rintro e w2 ⟨tb, ms, b, rfl, hM⟩
  have hT := hM.tt.tab
  have hlom := hM.lom
  have hC2 := hc1.trans hM.chg
  have hrd2 := HRD.out.chg (S := []) hC2 (by simp)
  have hA3 := HA.out.chg hC2
  have hLom : ∀ m ∈ ms, m ∈ ([] : List Nat) ∨ w.heap.size ≤ m := fun m hm => .inr (Nat.le_trans hc1.size (hlom m hm))
  have HLOM := Lib.hid hLom
  have hn9 := hT.n9
  clear hM hlom hc1 hrd1 hA1 hLom
  go_wp2_with fail
  refine (made_any x seed _ l a cap acts n st w2 hxi (by omega) HLB.out hrd2 hA3 (by omega) HN HST).mono ?_
  rintro e w3 ⟨tb2, ms2, b2, rfl, hM⟩
  have hLom2 : ∀ m ∈ ms2, m ∈ ([] : List Nat) ∨ w.heap.size ≤ m := fun m hm => .inr (Nat.le_trans hC2.size (hM.lom m hm))
  have HLOM2 := Lib.hid hLom2
  have h2 : Two w3 tb ms tb2 ms2 n st.L := ⟨hT.same hM.chg, hM.tt.tab, (dis_new hT hM.lom).2⟩
  have hC3 := hC2.trans hM.chg
  obtain ⟨L, hL⟩ : ∃ L, L = st.L := ⟨_, rfl⟩
  rw [← hL] at h2 hLle
  clear hT hM hC2 hrd2 hA3 hLom2 HN HST hL HA
  go_wp2_with fail
  refine (copy_any tb ms n L w3 h2.a).mono ?_
  rintro e w4 ⟨tc, mc, rfl, hc, _, hmc, hc4⟩
  have hdc1 := dis_new h2.a hmc
  have hdc2 := dis_new h2.b hmc
  have h24 := h2.same hc4
  have hC4 := hC3.trans hc4
  have hrd4 := HRD.out.chg (S := []) hC4 (by simp)
  have hLomc : ∀ m ∈ mc, m ∈ ([] : List Nat) ∨ w.heap.size ≤ m := fun m hm => .inr (Nat.le_trans hC3.size (hmc m hm))
  have HLOMC := Lib.hid hLomc
  have HD1 := Lib.hid hdc1.2
  have HD2 := Lib.hid hdc2.2
  clear h2 hC3 hc4 hdc1 hdc2 hLomc hmc
  go_wp2_with fail
  rw [wrapu1]
  obtain ⟨sd2, hsd2⟩ : ∃ sd2, sd2 = (seed + 1) % 18446744073709551616 := ⟨_, rfl⟩
  rw [← hsd2]
  clear hsd2
  refine (D.new_any sd2 _ l w4 (by omega) HLB.out hrd4).mono ?_
  rintro e w5 ⟨bo, rfl, hbo, hTo, hc5⟩
  have hTT : TT w5 tc mc n bo sd2 l ⟨L, 0⟩ := ⟨hc.same hc5, hTo⟩
  have h25 := h24.same hc5
  have hC5 := hC4.trans hc5
  have hbow : w.heap.size ≤ bo := Nat.le_trans hC4.size hbo
  clear hc h24 hC4 hrd4 hTo hc5 hbo HRD HLB
  have HTT := Lib.hid hTT
  have H25 := Lib.hid h25
  have HC5 := Lib.hid hC5
  have HACTS := Lib.hid HA2.out.2
  clear hTT h25 hC5 HA2
  go_wp2_with fail
  go_loopw [21] (ApR tb ms tb2 ms2 n L tc mc bo sd2 l more w) (fun i _ => more.length - (intOf i).toNat)
  case atStart => exact ⟨0, Nat.zero_le _, rfl, H25.out, HTT.out, HC5.out⟩
  case round =>
    clear H25 HTT HC5
    obtain ⟨j, hj, rfl, h2, hT, hC⟩ := hrel
    by_cases hlt : j < more.length
    · obtain ⟨g, o, ha, hg, d0, d1, d2, hok⟩ := HACTS.out j hlt
      obtain ⟨A, hA⟩ : ∃ A, A = more[j] := ⟨_, rfl⟩
      rw [← hA] at d0 d1 d2 hok
      have htk : more.take (j + 1) = more.take j ++ [A] := by rw [List.take_succ_eq_append_getElem hlt, ← hA]
      have hlen := runP_len n sd2 l ⟨L, 0⟩ (more.take j)
      rw [List.length_take, Nat.min_eq_left hj] at hlen
      obtain ⟨st0, hst0⟩ : ∃ st0, st0 = runP n sd2 l ⟨L, 0⟩ (more.take j) := ⟨_, rfl⟩
      rw [← hst0] at hT hlen
      simp only at hlen
      have hnew : runP n sd2 l ⟨L, 0⟩ (more.take (j + 1)) = doP n sd2 l st0 A := by rw [htk, runP_snoc, ← hst0]
      have HNEW := Lib.hid hnew
      clear hA htk hnew hst0 hok
      subst ha
      have e0 : wr.cell? ⟨g, o + j * 3, none⟩ = some (.int .u8 (A.k : Nat)) := hC.cell d0 (by simp)
      have e1 : wr.cell? ⟨g, o + j * 3 + 1, none⟩ = some (.int .i64 A.u) := hC.cell d1 (by simp)
      have e2 : wr.cell? ⟨g, o + j * 3 + 2, none⟩ = some (.int .i64 A.n) := hC.cell d2 (by simp)
      clear d0 d1 d2
      have hk1 : st0.k ≤ 1000000 := by omega
      have hL1 : st0.L.length ≤ 1000000 := by omega
      clear hlen
      go_wp2_with fail
      refine (does_any tc mc n bo sd2 l st0 _ A wr hT hk1 hL1 (Lib.hid rfl)).mono ?_
      rintro e w6 ⟨rfl, hT6, hc6⟩
      have h26 := h2.chg hc6 hT.odd (not_cons h2.a hT.tape HD1.out) (not_cons h2.b hT.tape HD2.out)
      go_wp2
      go_roundw
      case rel =>
        refine ⟨j + 1, by omega, by go_num, h26, by rw [HNEW.out]; exact hT6, hC.trans_new hc6 ?_⟩
        intro y hy
        rcases List.mem_cons.1 hy with e | e
        · right; omega
        · exact HLOMC.out y e
      case measure => simp [intOf] <;> omega
    · clear hT
      go_wp2_with fail
      clear hlt hj
      go_loop [22] (fun v => ∃ k : Nat, k ≤ n ∧ v = .int .i64 (k : Nat)) (fun v => n - (intOf v).toNat)
      case atStart => exact ⟨0, Nat.zero_le _, rfl⟩
      case round =>
        obtain ⟨k, hk, rfl⟩ := hrel
        by_cases hlt : k < n
        · obtain ⟨q1, hq1⟩ : ∃ q1, q1 = atO L (k : Int) id := ⟨_, rfl⟩
          obtain ⟨q2, hq2⟩ : ∃ q2, q2 = hasO L (k : Int) id := ⟨_, rfl⟩
          obtain ⟨q3, hq3⟩ : ∃ q3, q3 = lenO L (k : Int) := ⟨_, rfl⟩
          have HQ1 := Lib.hid hq1
          have HQ2 := Lib.hid hq2
          have HQ3 := Lib.hid hq3
          have g2 : (q2 != q2) = false := by simp
          clear hq1 hq2 hq3
          go_wp2_with fail
          refine (find_any tb ms n L _ (k : Int) id q1 q2 h2.a hidl HQ1 HQ2).mono ?_
          rintro e w6 ⟨rfl, rfl⟩
          go_wp2_with fail
          refine (find_any tb2 ms2 n L _ (k : Int) id q1 q2 h2.b hidl HQ1 HQ2).mono ?_
          rintro e w6 ⟨rfl, rfl⟩
          go_wp2_with fail
          refine (len_any tb ms n L _ (k : Int) q3 h2.a HQ3).mono ?_
          rintro e w6 ⟨rfl, rfl⟩
          go_wp2_with fail
          refine (len_any tb2 ms2 n L _ (k : Int) q3 h2.b HQ3).mono ?_
          rintro e w6 ⟨rfl, rfl⟩
          go_wp2
          go_round
          case rel => exact ⟨k + 1, by omega, by go_num⟩
          case measure => simp [intOf] <;> omega
        · have HTWO := Lib.hid h2
          obtain ⟨wo, hwo⟩ : ∃ wo : World, wo = wr := ⟨_, rfl⟩
          rw [← hwo] at HTWO hC ⊢
          clear hwo h2
          go_wp2_with fail
          clear hlt hk
          go_loopw [27] (ApF tb ms tb2 ms2 n w) (fun i _ => 32 - (intOf i).toNat)
          case atStart => exact ⟨0, L, Nat.zero_le _, rfl, HTWO.out, by omega, hC⟩
          case round =>
            clear HTWO hC
            obtain ⟨j2, L2, hj2, rfl, h2, hL2, hC⟩ := hrel
            by_cases hlt : j2 < 32
            · obtain ⟨q1, hq1⟩ : ∃ q1, q1 = L2.length - (freeA L2 (j2 : Int)).length := ⟨_, rfl⟩
              have HQ1 := Lib.hid hq1
              clear hq1
              go_wp2_with fail
              refine (free_any tb ms n L2 _ (j2 : Int) q1 h2.a HQ1 hL2).mono ?_
              rintro e w6 ⟨rfl, ha6, hc6⟩
              have hb6 := h2.b.beside h2.a hc6 (fun m hm hm2 => h2.d m hm2 hm)
              have hC6 := hC.trans_new hc6 HLOM.out
              go_wp2_with fail
              refine (free_any tb2 ms2 n L2 _ (j2 : Int) q1 hb6 HQ1 hL2).mono ?_
              rintro e w7 ⟨rfl, hb7, hc7⟩
              have ha7 := ha6.beside hb6 hc7 h2.d
              have hC7 := hC6.trans_new hc7 HLOM2.out
              go_wp2
              go_roundw
              case rel => exact ⟨j2 + 1, _, by omega, by go_num, ⟨ha7, hb7, h2.d⟩, Nat.le_trans (freeA_le _ _) hL2, hC7⟩
              case measure => simp [intOf] <;> omega
            · have hj3 : j2 = 32 := by omega
              subst hj3
              go_wp2
              go_ret
              exact ⟨rfl, hC.below (Nat.le_refl _) (by simp)⟩

end Go.Proofs.Yteehenajchdgaaa
