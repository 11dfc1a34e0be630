/- The walk of PendDraw. -/
import Derived.Test.YteehenajchdgaaaPendApartW
namespace Go.Proofs.Yteehenajchdgaaa
open Go.RowKit Go.Maps

theorem nodup_sub {l m : List Nat} (h : l.Nodup) (hs : ∀ x ∈ l, x ∈ m) : l.length ≤ m.length := by
  induction l generalizing m with
  | nil => simp
  | cons x l ih =>
    rw [List.nodup_cons] at h
    have hx := hs x (by simp)
    have h1 := ih (m := m.erase x) h.2 (fun y hy => by
      have hne : y ≠ x := fun e => h.1 (e ▸ hy)
      exact (List.mem_erase_of_ne hne).2 (hs y (by simp [hy])))
    rw [List.length_erase_of_mem hx] at h1
    have := List.length_pos_of_mem hx
    simp only [List.length_cons]
    omega
/-- As many as were met, one behind the other, are out. -/
theorem run_len {L : List Ou} {u : Int} {x j : Nat} (hj : j ≤ 65536) (h : ∀ i, i < j → hasO L u ((x + i) % 65536) = true) : j ≤ lenO L u := by
  have h1 := nodup_sub (l := (List.range j).map fun i => (x + i) % 65536) (m := keysP (outsP L u)) (by
    rw [List.Nodup, List.pairwise_map]
    refine (List.nodup_range (n := j)).imp_of_mem ?_
    intro a b ha hb hne e
    simp at ha hb
    omega) (by
    intro y hy
    obtain ⟨i, hi, rfl⟩ := List.mem_map.1 hy
    exact hasP_mem.1 (h i (by simpa using hi)))
  simpa [keysP, lenO] using h1
theorem at_add (L : List Ou) (u s : Int) (r : Nat) (h : hasO L u r = false) : atO (L ++ [⟨u, s, r⟩]) u r = s := by
  unfold atO
  rw [outs_add, if_pos rfl]
  unfold atP
  have : (outsP L u).find? (fun p => decide (p.1 = r)) = none := by
    rw [List.find?_eq_none]
    intro p hp
    unfold hasO hasP at h
    rw [List.any_eq_false] at h
    exact h p hp
  rw [List.find?_append, this]
  simp
theorem has_add (L : List Ou) (u s : Int) (r : Nat) : hasO (L ++ [⟨u, s, r⟩]) u r = true := hasO_iff.2 ⟨⟨u, s, r⟩, by simp, rfl, rfl⟩
theorem len_add (L : List Ou) (u s : Int) (r : Nat) : lenO (L ++ [⟨u, s, r⟩]) u = lenO L u + 1 := by
  unfold lenO
  rw [outs_add, if_pos rfl]
  simp

theorem mod_eq (u : Int) (m : Nat) (h1 : 1 ≤ m) (h2 : m ≤ 100) : wrap64 ((IntKind.u64.wrap u).tmod (m : Int)) = (((u % 18446744073709551616).toNat % m : Nat) : Int) := by
  have e : IntKind.u64.wrap u = u % 18446744073709551616 := by rw [IntKind.wrap_u64]
  have h0 : 0 ≤ u % 18446744073709551616 := Int.emod_nonneg _ (by omega)
  obtain ⟨A, hA⟩ : ∃ A : Nat, u % 18446744073709551616 = A := ⟨(u % 18446744073709551616).toNat, by omega⟩
  rw [e, hA, Int.tmod_eq_emod_of_nonneg (by omega), Int.toNat_natCast, ← Int.natCast_emod]
  have : A % m < m := Nat.mod_lt _ (by omega)
  exact IntWalk.wrap64_in _ (by omega)

def WantR (L : List Ou) (u : Int) (x r : Nat) (v i : Value) : Prop :=
  ∃ j y f : Nat, y < 65536 ∧ v = .int .u16 (y : Nat) ∧ i = .int .i64 (j : Nat) ∧ y = (x + j) % 65536 ∧ nf (hasO L u) f y = r ∧ (∀ i, i < j → hasO L u ((x + i) % 65536) = true) ∧ j ≤ 300

set_option maxRecDepth 100000 in
set_option maxHeartbeats 8000000 in
theorem pendDraw_walk (x sd : Int) (fa : Option Addr) (flen fcap : Nat) (zs : List Int) (a : Option Addr) (cap : Nat) (acts : List ActT) (u s : Int) (w : World) (hx : (Lit.int .i64 x).wf = true) (hsd : (Lit.int .u64 sd).wf = true) (hz : IsRow .u64 w fa flen fcap zs) (hA : IsActs w a acts) (_hu : (Lit.int .i64 u).wf = true) (_hs : (Lit.int .i64 s).wf = true) :
    Calls Try.prog 8 #[.int .i64 x, .int .u64 sd, .slice fa flen fcap, .slice a acts.length cap, .int .i64 u, .int .i64 s] w fun e w' => e = .returned (.bool true) ∧ Below w.heap.size w w' := by
  have hmax := hA.1
  unfold maxLen at hmax
  have hxi := int_i64 hx
  obtain ⟨l, hll, hlb, hrd, _, hlm⟩ := D.arg_u64 hz
  unfold maxLen at hlm
  obtain ⟨seed, rfl, hseed⟩ := D.nat_of_u64 hsd
  have HA := Lib.hid hA
  have HRD := Lib.hid hrd
  have HLB := Lib.hid hlb
  subst hll
  clear hA hrd hlb hz hx hsd _hs _hu
  by_cases hb1 : 200 < acts.length
  · have hb1I : (200 : Int) < (acts.length : Int) := by omega
    go_enter Try.func8, Try.ntmps8
    go_wp2_with fail
    refine (awake_any _).mono ?_
    rintro e w1 ⟨rfl, hc1⟩
    go_wp2
    go_ret
    exact ⟨rfl, hc1.below (Nat.le_refl _) (by simp)⟩
  have hd1 : decide (200 < acts.length) = false := by simpa using hb1
  have hd1I : decide ((200 : Int) < (acts.length : Int)) = false := by simp; omega
  by_cases hb2 : 300 < l.length
  · have hb2I : (300 : Int) < (l.length : Int) := by omega
    clear hb1
    go_enter Try.func8, Try.ntmps8
    go_wp2_with fail
    refine (awake_any _).mono ?_
    rintro e w1 ⟨rfl, hc1⟩
    go_wp2
    go_ret
    exact ⟨rfl, hc1.below (Nat.le_refl _) (by simp)⟩
  have hd2 : decide (300 < l.length) = false := by simpa using hb2
  have hd2I : decide ((300 : Int) < (l.length : Int)) = false := by simp; omega
  have hal : acts.length ≤ 200 := by omega
  have hll : l.length ≤ 300 := by omega
  clear hb1 hb2
  go_enter Try.func8, Try.ntmps8
  go_wp2_with fail
  refine (awake_any _).mono ?_
  rintro e w1 ⟨rfl, hc1⟩
  have hrd1 := HRD.out.chg (S := []) hc1 (by simp)
  have hA1 := HA.out.chg hc1
  obtain ⟨n, hn⟩ : ∃ n, n = upsN x := ⟨_, rfl⟩
  obtain ⟨st, hst⟩ : ∃ st, st = runP n seed l ⟨[], 0⟩ acts := ⟨_, rfl⟩
  have hlen := runP_len n seed l ⟨[], 0⟩ acts
  rw [← hst] at hlen
  simp only [List.length_nil, Nat.zero_add] at hlen
  have hLle : st.L.length ≤ 200 := by omega
  have hkle : st.k ≤ 200 := by omega
  have HN := Lib.hid hn
  have HST := Lib.hid hst
  clear hn hst HRD HA hlen
  go_wp2_with fail
  refine (made_any x seed _ l a cap acts n st w1 hxi (by omega) HLB.out hrd1 hA1 (by omega) HN HST).mono ?_
  rintro e w2 ⟨tb, ms, b, rfl, hM⟩
  have hT := hM.tt.tab
  have hTp := hM.tt.tape
  have hlob : w.heap.size ≤ b := Nat.le_trans hc1.size hM.lob
  have hlom := hM.lom
  have hC2 := hc1.trans hM.chg
  have hLom : ∀ m ∈ ms, m ∈ ([] : List Nat) ∨ w.heap.size ≤ m := fun m hm => .inr (Nat.le_trans hc1.size (hlom m hm))
  have HLOM := Lib.hid hLom
  have hn9 := hT.n9
  obtain ⟨L, hL⟩ : ∃ L, L = st.L := ⟨_, rfl⟩
  obtain ⟨k, hk⟩ : ∃ k, k = st.k := ⟨_, rfl⟩
  rw [← hL] at hT hLle
  rw [← hk] at hTp hkle
  have hn1 := hT.n1
  have hnz : ¬ n = 0 := by omega
  clear hM hlom hc1 hrd1 hA1 HLB HN HST hLom hL hk
  go_wp2_with fail
  have hu := mod_eq u n hn1 (by omega)
  have hs := mod_eq s 32 (by omega) (by omega)
  obtain ⟨i, hi⟩ : ∃ i, i = (u % 18446744073709551616).toNat % n := ⟨_, rfl⟩
  obtain ⟨t, ht⟩ : ∃ t, t = (s % 18446744073709551616).toNat % 32 := ⟨_, rfl⟩
  have hin : i < n := by rw [hi]; exact Nat.mod_lt _ (by omega)
  have ht32 : t < 32 := by rw [ht]; exact Nat.mod_lt _ (by omega)
  rw [← hi] at hu
  rw [← ht] at hs
  rw [show ((32 : Nat) : Int) = 32 from rfl] at hs
  rw [hu, hs]
  clear hu hs hi ht
  refine (copy_any tb ms n L w2 hT).mono ?_
  rintro e w3 ⟨tbw, msw, rfl, hW, _, hmsw, hc3⟩
  have hdis := dis_new hT hmsw
  have hT3 := hT.same hc3
  have hTp3 := tape_chg hTp hc3 (odd_nil _) (by simp)
  have hC3 := hC2.trans hc3
  have HDIS := Lib.hid hdis
  clear hT hC2 hc3 hdis hmsw hTp
  go_wp2_with fail
  refine (D.used_any b seed l k w3 hTp3).mono ?_
  rintro e w4 ⟨rfl, rfl⟩
  go_wp2_with fail
  refine (D.copy_any b seed l k w3 hTp3).mono ?_
  rintro e w4 ⟨rfl, hTc, hTp4, hc4⟩
  obtain ⟨bc, hbc⟩ : ∃ bc, bc = w3.heap.size := ⟨_, rfl⟩
  have hbne : b ≠ bc := by have := hTp3.lt; omega
  have hbcw : w.heap.size ≤ bc := by have := hC3.size; omega
  rw [← hbc] at hTc ⊢
  have hT4 := hT3.same hc4
  have hW4 := hW.same hc4
  have hC4 := hC3.trans hc4
  clear hbc hT3 hW hC3 hTp3 hc4
  go_wp2_with fail
  refine (D.next_any bc seed l k w4 hTc (by omega)).mono ?_
  rintro e w5 ⟨rfl, _, hc5⟩
  have hodd := tape_odd hTc
  have hT5 := hT4.chg hc5 hodd (fun m hm => by simpa using hT4.not_tape hTc m hm)
  have hW5 := hW4.chg hc5 hodd (fun m hm => by simpa using hW4.not_tape hTc m hm)
  have hTp5 := tape_chg hTp4 hc5 hodd (by simpa using hbne)
  have hC5 : Chg [] w w5 := hC4.trans_new hc5 (by simpa using hbcw)
  have hdl := hTp5.small
  obtain ⟨d, hd⟩ : ∃ d, d = D.drawN seed l k := ⟨_, rfl⟩
  rw [← hd] at hdl ⊢
  have hx0 : d % 65536 < 65536 := Nat.mod_lt _ (by omega)
  obtain ⟨r, hr⟩ : ∃ r, r = nextO L (i : Int) (d % 65536) := ⟨_, rfl⟩
  have hll2 := lenO_le L (i : Int)
  have hrl : r < 65536 := by rw [hr]; exact nextO_lt L _ hx0
  have hrf : hasO L (i : Int) r = false := by rw [hr]; exact nextO_free hW5.ok (by omega) hx0
  have hr' : nf (hasO L (i : Int)) 65536 (d % 65536) = r := hr.symm
  have HR' := Lib.hid hr'
  have HR : Hid (r = nextO L (i : Int) (D.drawN seed l k % 65536)) := Lib.hid (by rw [← hd]; exact hr)
  have him : i < ms.length := by have := hT5.len; omega
  clear hT4 hW4 hTp4 hC4 hTc hc5 hodd hd hr hr'
  go_wp2_with fail
  refine (draw_ok tb ms n L w5 i t b seed l k r hT5 hTp5 (by omega) him ht32 (by omega) HR).mono ?_
  rintro e w6 ⟨rfl, hT6, hTp6, hc6⟩
  have hW6 := hW5.chg hc6 (TT.odd (st := ⟨L, k⟩) ⟨hT5, hTp5⟩) (not_cons hW5 hTp5 HDIS.out.1)
  have hC6 : Chg [] w w6 := hC5.trans_new hc6 (by
    intro y hy
    rcases List.mem_cons.1 hy with e | e
    · right; omega
    · exact HLOM.out y e)
  clear hT5 hW5 hTp5 hC5 hc6 HR
  go_wp2_with fail
  refine (D.used_any b seed l (k + 1) w6 hTp6).mono ?_
  rintro e w7 ⟨rfl, rfl⟩
  have hkk : (((k + 1 : Nat) : Int) != (k : Int) + 1) = false := by simp
  go_wp2_with fail
  go_loop [18, 21] (WantR L (i : Int) (d % 65536) r) (fun _ v => 400 - (intOf v).toNat)
  case atStart => exact ⟨0, d % 65536, 65536, hx0, by go_num, rfl, by omega, HR'.out, fun i hi => by omega, by omega⟩
  case round =>
    clear HR'
    obtain ⟨j, y, f, hy, rfl, rfl, hyx, hf, hall, hj⟩ := hrel
    by_cases hyr : y = r
    · subst hyr
      have g1 : ((y : Int) != (y : Int)) = false := by simp
      obtain ⟨q, hq⟩ : ∃ q, q = lenO L (i : Int) := ⟨_, rfl⟩
      have hq1 : q + 1 = lenO (L ++ [⟨(i : Int), (t : Int), y⟩]) (i : Int) := by rw [len_add, hq]
      have hq2 : q ≤ 1000 := by omega
      have HQ := Lib.hid hq
      have HQ1 := Lib.hid hq1
      have E1 : Hid (false = hasO L (i : Int) y) := Lib.hid hrf.symm
      have E2 : Hid ((t : Int) = atO (L ++ [⟨(i : Int), (t : Int), y⟩]) (i : Int) y) := Lib.hid (at_add L _ _ _ hrf).symm
      have E3 : Hid (true = hasO (L ++ [⟨(i : Int), (t : Int), y⟩]) (i : Int) y) := Lib.hid (has_add L _ _ _).symm
      clear hq hq1 hrf hf hall hyx
      go_wp2_with fail
      refine (find_any tbw msw n L _ (i : Int) y _ false hW6 hy (Lib.hid rfl) E1).mono ?_
      rintro e w8 ⟨rfl, rfl⟩
      go_wp2_with fail
      refine (find_any tb ms n _ _ (i : Int) y _ true hT6 hy E2 E3).mono ?_
      rintro e w8 ⟨rfl, rfl⟩
      go_wp2_with fail
      refine (len_any tb ms n _ _ (i : Int) (q + 1) hT6 HQ1).mono ?_
      rintro e w8 ⟨rfl, rfl⟩
      go_wp2_with fail
      refine (len_any tbw msw n L _ (i : Int) q hW6 HQ).mono ?_
      rintro e w8 ⟨rfl, rfl⟩
      go_wp2
      go_ret
      exact ⟨rfl, hC6.below (Nat.le_refl _) (by simp)⟩
    · have hpy : hasO L (i : Int) y = true := by
        cases hh : hasO L (i : Int) y with
        | true => rfl
        | false => rw [nf_hit _ _ _ hh] at hf; exact absurd hf hyr
      have hall2 : ∀ i', i' < j + 1 → hasO L (i : Int) ((d % 65536 + i') % 65536) = true := by
        intro i' hi'
        by_cases e : i' = j
        · rw [e, ← hyx]; exact hpy
        · exact hall i' (by omega)
      have hjl := run_len (by omega) hall2
      have hj2 : j + 1 ≤ 300 := by omega
      have hnew : ∃ f', nf (hasO L (i : Int)) f' ((y + 1) % 65536) = r := by
        cases f with
        | zero => exact absurd hf hyr
        | succ f' => rw [nf_miss _ _ _ hpy] at hf; exact ⟨f', hf⟩
      have g1 : ((y : Int) != (r : Int)) = true := by simp; omega
      have E1 : Hid (true = hasO L (i : Int) y) := Lib.hid hpy.symm
      have HALL := Lib.hid hall2
      have HNEW := Lib.hid hnew
      have hyx2 : (y + 1) % 65536 = (d % 65536 + (j + 1)) % 65536 := by omega
      have HYX := Lib.hid hyx2
      clear hpy hall hall2 hjl hnew hf hyx hyx2 hrf
      go_wp2_with fail
      refine (find_any tbw msw n L _ (i : Int) y _ true hW6 hy (Lib.hid rfl) E1).mono ?_
      rintro e w8 ⟨rfl, rfl⟩
      go_wp2
      go_round
      case rel =>
        obtain ⟨f', h1⟩ := HNEW.out
        exact ⟨j + 1, (y + 1) % 65536, f', Nat.mod_lt _ (by omega), by go_num, by go_num, HYX.out, h1, HALL.out, hj2⟩
      case measure => simp [intOf] <;> omega

end Go.Proofs.Yteehenajchdgaaa
