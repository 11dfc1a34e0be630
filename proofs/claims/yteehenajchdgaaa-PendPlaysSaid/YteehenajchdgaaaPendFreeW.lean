/- The walk of PendFree. -/
import Derived.Test.YteehenajchdgaaaAwake29
namespace Go.Proofs.Yteehenajchdgaaa
open Go.RowKit Go.Maps

theorem PTab.beside {w w' : World} {tb tb2 : Nat} {ms ms2 : List Nat} {n n2 : Nat} {L L2 : List Ou} (h2 : PTab w tb2 ms2 n2 L2) (h : PTab w tb ms n L) (hc : Chg ms w w') (hd : ∀ m ∈ ms2, m ∉ ms) : PTab w' tb2 ms2 n2 L2 := h2.chg hc h.odd hd
theorem dis_new {w : World} {tb : Nat} {ms ms2 : List Nat} {n : Nat} {L : List Ou} (h : PTab w tb ms n L) (h2 : ∀ m ∈ ms2, w.heap.size ≤ m) : (∀ m ∈ ms2, m ∉ ms) ∧ ∀ m ∈ ms, m ∉ ms2 := by
  constructor
  · intro m hm hm2
    have := h2 m hm
    have := h.mlt m hm2
    omega
  · intro m hm hm2
    have := h2 m hm2
    have := h.mlt m hm
    omega
theorem freeO_again (L : List Ou) (s u : Int) : freeO (freeO L s u) s u = freeO L s u := by
  unfold freeO
  rw [List.filter_filter]
  congr 1
  funext o
  simp
theorem freeA_again (L : List Ou) (s : Int) : freeA (freeA L s) s = freeA L s := by
  unfold freeA
  rw [List.filter_filter]
  congr 1
  funext o
  simp
theorem freeA_O (L : List Ou) (s u : Int) : freeA (freeO L s u) s = freeA L s := by
  unfold freeA freeO
  rw [List.filter_filter]
  congr 1
  funext o
  by_cases h : o.slot = s <;> simp [h]
theorem freeA_le_O (L : List Ou) (s u : Int) : (freeA L s).length ≤ (freeO L s u).length := by
  rw [← freeA_O L s u]; exact freeA_le _ _
theorem len_free_other (L : List Ou) (s u v : Int) (h : v ≠ u) : lenO (freeO L s u) v = lenO L v := by
  unfold lenO; rw [outs_free, if_neg h]
theorem len_free_same (L : List Ou) (s u : Int) : lenO L u = lenO (freeO L s u) u + (L.length - (freeO L s u).length) := by
  unfold lenO
  rw [free_outs_len, outs_free, if_pos rfl]
  have := List.length_filter_le (fun p : Nat × Int => !decide (p.2 = s)) (outsP L u)
  omega

set_option maxRecDepth 100000 in
set_option maxHeartbeats 8000000 in
theorem pendFree_walk (x sd : Int) (fa : Option Addr) (flen fcap : Nat) (zs : List Int) (a : Option Addr) (cap : Nat) (acts : List ActT) (s u : Int) (w : World) (hx : (Lit.int .i64 x).wf = true) (hsd : (Lit.int .u64 sd).wf = true) (hz : IsRow .u64 w fa flen fcap zs) (hA : IsActs w a acts) (_hs : (Lit.int .i64 s).wf = true) (_hu : (Lit.int .i64 u).wf = true) :
    Calls Try.prog 4 #[.int .i64 x, .int .u64 sd, .slice fa flen fcap, .slice a acts.length cap, .int .i64 s, .int .i64 u] w fun e w' => e = .returned (.bool true) ∧ Below w.heap.size w w' := by
  have hmax := hA.1
  unfold maxLen at hmax
  have hxi := int_i64 hx
  obtain ⟨l, hll, hlb, hrd, _, hlm⟩ := D.arg_u64 hz
  unfold maxLen at hlm
  obtain ⟨seed, rfl, hseed⟩ := D.nat_of_u64 hsd
  have HA := Lib.hid hA
  have HRD := Lib.hid hrd
  have HLB := Lib.hid hlb
  subst hll
  clear hA hrd hlb hz hx hsd _hs _hu
  by_cases hb1 : 200 < acts.length
  · have hb1I : (200 : Int) < (acts.length : Int) := by omega
    go_enter Try.func4, Try.ntmps4
    go_wp2_with fail
    refine (awake_any _).mono ?_
    rintro e w1 ⟨rfl, hc1⟩
    go_wp2
    go_ret
    exact ⟨rfl, hc1.below (Nat.le_refl _) (by simp)⟩
  have hd1 : decide (200 < acts.length) = false := by simpa using hb1
  have hd1I : decide ((200 : Int) < (acts.length : Int)) = false := by simp; omega
  by_cases hb2 : 300 < l.length
  · have hb2I : (300 : Int) < (l.length : Int) := by omega
    clear hb1
    go_enter Try.func4, Try.ntmps4
    go_wp2_with fail
    refine (awake_any _).mono ?_
    rintro e w1 ⟨rfl, hc1⟩
    go_wp2
    go_ret
    exact ⟨rfl, hc1.below (Nat.le_refl _) (by simp)⟩
  have hd2 : decide (300 < l.length) = false := by simpa using hb2
  have hd2I : decide ((300 : Int) < (l.length : Int)) = false := by simp; omega
  have hal : acts.length ≤ 200 := by omega
  have hll : l.length ≤ 300 := by omega
  clear hb1 hb2
  go_enter Try.func4, Try.ntmps4
  go_wp2_with fail
  refine (awake_any _).mono ?_
  rintro e w1 ⟨rfl, hc1⟩
  have hrd1 := HRD.out.chg (S := []) hc1 (by simp)
  have hA1 := HA.out.chg hc1
  obtain ⟨n, hn⟩ : ∃ n, n = upsN x := ⟨_, rfl⟩
  obtain ⟨st, hst⟩ : ∃ st, st = runP n seed l ⟨[], 0⟩ acts := ⟨_, rfl⟩
  have hlen := runP_len n seed l ⟨[], 0⟩ acts
  rw [← hst] at hlen
  simp only [List.length_nil, Nat.zero_add] at hlen
  have hLle : st.L.length ≤ 1000000 := by omega
  have HN := Lib.hid hn
  have HST := Lib.hid hst
  clear hn hst HRD HA hlen
  go_wp2_with fail
  refine (made_any x seed _ l a cap acts n st w1 hxi (by omega) HLB.out hrd1 hA1 (by omega) HN HST).mono ?_
  rintro e w2 ⟨tb, ms, b, rfl, hM⟩
  have hT := hM.tt.tab
  have hlom := hM.lom
  have hC2 := hc1.trans hM.chg
  have hLom : ∀ m ∈ ms, m ∈ ([] : List Nat) ∨ w.heap.size ≤ m := fun m hm => .inr (Nat.le_trans hc1.size (hlom m hm))
  have HLOM := Lib.hid hLom
  have hn9 := hT.n9
  obtain ⟨L, hL⟩ : ∃ L, L = st.L := ⟨_, rfl⟩
  rw [← hL] at hT hLle
  clear hM hlom hc1 hrd1 hA1 HLB HN HST hLom hL
  go_wp2_with fail
  refine (copy_any tb ms n L w2 hT).mono ?_
  rintro e w3 ⟨tbw, msw, rfl, hW, _, hmsw, hc3⟩
  have hdis := dis_new hT hmsw
  have hT3 := hT.same hc3
  have hC3 := hC2.trans hc3
  have HDIS := Lib.hid hdis
  clear hT hC2 hc3 hdis hmsw
  obtain ⟨c1, hc1⟩ : ∃ c1, c1 = L.length - (freeO L s u).length := ⟨_, rfl⟩
  have hc1le : c1 ≤ 1000000 := by omega
  have HC1 := Lib.hid hc1
  clear hc1
  go_wp2_with fail
  refine (freeAt_any tb ms n L w3 u s c1 hT3 HC1).mono ?_
  rintro e w4 ⟨rfl, hT4, hc4⟩
  have hW4 := hW.beside hT3 hc4 HDIS.out.1
  have hC4 := hC3.trans_new hc4 HLOM.out
  clear hW hT3 hc4 hC3
  go_wp2_with fail
  refine (copy_any tb ms n _ w4 hT4).mono ?_
  rintro e w5 ⟨tb5, ms5, rfl, hX5, _, hms5, hc5⟩
  have hdis5 := dis_new hT4 hms5
  have hdis5w := dis_new hW4 hms5
  have hT5 := hT4.same hc5
  have hW5 := hW4.same hc5
  have hC5 := hC4.trans hc5
  have hLom5 : ∀ m ∈ ms5, m ∈ ([] : List Nat) ∨ w.heap.size ≤ m := fun m hm => .inr (Nat.le_trans hC4.size (hms5 m hm))
  have hfo := freeO_le L s u
  have hfa := freeA_le_O L s u
  obtain ⟨c2, hc2⟩ : ∃ c2, c2 = (freeO L s u).length - (freeA (freeO L s u) s).length := ⟨_, rfl⟩
  have hc2le : c2 ≤ 1000000 := by omega
  have hsum : c1 + c2 = L.length - (freeA L s).length := by rw [HC1.out, hc2, freeA_O]; omega
  have HSUM := Lib.hid hsum
  have HC2 := Lib.hid hc2
  have hflen : (freeO L s u).length ≤ 1000000 := by omega
  clear hc2 hfo hfa hms5 hc5 hT4 hW4 hC4 hsum
  go_wp2_with fail
  refine (free_any tb5 ms5 n _ w5 s c2 hX5 HC2 hflen).mono ?_
  rintro e w6 ⟨rfl, _, hc6⟩
  have hT6 := hT5.beside hX5 hc6 hdis5.2
  have hW6 := hW5.beside hX5 hc6 hdis5w.2
  have hC6 := hC5.trans_new hc6 hLom5
  clear hT5 hW5 hX5 hc6 hC5 hLom5 hdis5 hdis5w
  have hz0 : 0 = (freeO L s u).length - (freeO (freeO L s u) s u).length := by rw [freeO_again]; omega
  have HZ0 := Lib.hid hz0
  clear hz0
  go_wp2_with fail
  refine (freeAt_any tb ms n _ w6 u s 0 hT6 HZ0).mono ?_
  rintro e w7 ⟨rfl, hT7, hc7⟩
  have hW7 := hW6.beside hT6 hc7 HDIS.out.1
  have hC7 := hC6.trans_new hc7 HLOM.out
  rw [freeO_again] at hT7
  have hout : u < 0 ∨ (n : Int) ≤ u → c1 = 0 := by
    intro hu
    rw [HC1.out, freeO_out hW7.ok hu]
    omega
  have hlenS := fun v : Int => len_free_same L s v
  have HOUT := Lib.hid hout
  clear hT6 hW6 hc7 hC6 HZ0 hout hlenS
  have hcase : u < 0 ∨ (¬ u < 0 ∧ (n : Int) ≤ u) ∨ (¬ u < 0 ∧ ¬ (n : Int) ≤ u) := by omega
  have t5 : (((c1 + c2 : Nat) : Int) != (c1 : Int) + (c2 : Int)) = false := by simp
  rcases hcase with hu | hu | hu
  case' inl =>
    have t1 : decide (u < 0) = true := by simpa using hu
    have t3 : ((c1 : Int) != 0) = false := by rw [HOUT.out (.inl hu)]; rfl
  case' inr.inl =>
    have t1 : decide (u < 0) = false := by simpa using hu.1
    have t2 : decide ((n : Int) ≤ u) = true := by simpa using hu.2
    have t3 : ((c1 : Int) != 0) = false := by rw [HOUT.out (.inr hu.2)]; rfl
  case' inr.inr =>
    have t1 : decide (u < 0) = false := by simpa using hu.1
    have t2 : decide ((n : Int) ≤ u) = false := by simpa using hu.2
  all_goals
    clear HOUT hu
    go_wp2_with fail
    refine (copy_any tbw msw n L w7 hW7).mono ?_
    rintro e w8 ⟨tb8, ms8, rfl, hX8, _, hms8, hc8⟩
    have hdis8 := dis_new hT7 hms8
    have hdis8w := dis_new hW7 hms8
    have hT8 := hT7.same hc8
    have hW8 := hW7.same hc8
    have hC8 := hC7.trans hc8
    have hLom8 : ∀ m ∈ ms8, m ∈ ([] : List Nat) ∨ w.heap.size ≤ m := fun m hm => .inr (Nat.le_trans hC7.size (hms8 m hm))
    clear hT7 hW7 hC7 hc8 hms8
    go_wp2_with fail
    refine (free_any tb8 ms8 n L w8 s (c1 + c2) hX8 HSUM hLle).mono ?_
    rintro e w9 ⟨rfl, _, hc9⟩
    have hT9 := hT8.beside hX8 hc9 hdis8.2
    have hW9 := hW8.beside hX8 hc9 hdis8w.2
    have hC9 := hC8.trans_new hc9 hLom8
    clear hT8 hW8 hC8 hc9 hX8 hdis8 hdis8w hLom8
    go_wp2_with fail
    go_loop [19] (fun v => ∃ k : Nat, k ≤ n ∧ v = .int .i64 (k : Nat)) (fun v => n - (intOf v).toNat)
    case atStart => exact ⟨0, Nat.zero_le _, rfl⟩
    case round =>
      obtain ⟨k, hk, rfl⟩ := hrel
      by_cases hlt : k < n
      · by_cases hku : (k : Int) = u
        · obtain ⟨b', hb'⟩ : ∃ b', b' = lenO (freeO L s u) (k : Int) := ⟨_, rfl⟩
          obtain ⟨a', ha'⟩ : ∃ a', a' = lenO L (k : Int) := ⟨_, rfl⟩
          have hab : a' = b' + c1 := by rw [ha', hb', hku, HC1.out]; exact len_free_same L s u
          have ha2 := hW9.ok.len_le (k : Int)
          rw [← ha'] at ha2
          have g1 : ((k : Int) == u) = true := by simpa using hku
          have g2 : ((k : Int) != u) = false := by simpa using hku
          have g3 : (((a' : Int) - (b' : Int)) != (c1 : Int)) = false := by rw [hab]; simp; omega
          have hb2 : b' ≤ a' := by omega
          have HA' := Lib.hid ha'
          have HB' := Lib.hid hb'
          clear ha' hb' hab hku
          go_wp2_with fail
          refine (len_any tbw msw n L _ (k : Int) a' hW9 HA').mono ?_
          rintro e w10 ⟨rfl, rfl⟩
          go_wp2_with fail
          refine (len_any tb ms n _ _ (k : Int) b' hT9 HB').mono ?_
          rintro e w10 ⟨rfl, rfl⟩
          go_wp2
          go_round
          case rel => exact ⟨k + 1, by omega, by go_num⟩
          case measure => simp [intOf] <;> omega
        · obtain ⟨b', hb'⟩ : ∃ b', b' = lenO (freeO L s u) (k : Int) := ⟨_, rfl⟩
          have ha' : b' = lenO L (k : Int) := by rw [hb']; exact len_free_other L s u _ hku
          have ha2 := hW9.ok.len_le (k : Int)
          rw [← ha'] at ha2
          have g1 : ((k : Int) == u) = false := by simpa using hku
          have g2 : ((k : Int) != u) = true := by simpa using hku
          have g3 : (((b' : Int) - (b' : Int)) != 0) = false := by simp
          have HA' := Lib.hid ha'
          have HB' := Lib.hid hb'
          clear ha' hb' hku
          go_wp2_with fail
          refine (len_any tbw msw n L _ (k : Int) b' hW9 HA').mono ?_
          rintro e w10 ⟨rfl, rfl⟩
          go_wp2_with fail
          refine (len_any tb ms n _ _ (k : Int) b' hT9 HB').mono ?_
          rintro e w10 ⟨rfl, rfl⟩
          go_wp2
          go_round
          case rel => exact ⟨k + 1, by omega, by go_num⟩
          case measure => simp [intOf] <;> omega
      · go_wp2_with fail
        refine (copy_any tb ms n _ w9 hT9).mono ?_
        rintro e w10 ⟨tb10, ms10, rfl, hX10, _, hms10, hc10⟩
        have hC10 := hC9.trans hc10
        have hLom10 : ∀ m ∈ ms10, m ∈ ([] : List Nat) ∨ w.heap.size ≤ m := fun m hm => .inr (Nat.le_trans hC9.size (hms10 m hm))
        go_wp2_with fail
        refine (free_any tb10 ms10 n _ w10 s c2 hX10 HC2 hflen).mono ?_
        rintro e w11 ⟨rfl, hX11, hc11⟩
        have hz0 : 0 = (freeA (freeO L s u) s).length - (freeA (freeA (freeO L s u) s) s).length := by rw [freeA_again]; omega
        have HZ0 := Lib.hid hz0
        have hlz : (freeA (freeO L s u) s).length ≤ 1000000 := Nat.le_trans (freeA_le _ _) hflen
        clear hz0
        go_wp2_with fail
        refine (free_any tb10 ms10 n _ w11 s 0 hX11 HZ0 hlz).mono ?_
        rintro e w12 ⟨rfl, _, hc12⟩
        go_wp2
        go_ret
        exact ⟨rfl, ((hC10.trans_new hc11 hLom10).trans_new hc12 hLom10).below (Nat.le_refl _) (by simp)⟩

end Go.Proofs.Yteehenajchdgaaa
