/- What is too long: LongSets, long. -/
import Derived.Test.YtgdnfempcjlipaaActs16b
namespace Go.Proofs.Ytgdnfempcjlipaa
open Go.RowKit Go.Maps

theorem lo_add {N mz : Int} (h0 : 0 ≤ N) (h1 : N < 6000) (h2 : 0 ≤ mz ∧ mz ≤ 6000) : wrap64 (N + 30) = N + 30 ∧ wrap64 (N + 30 + mz) = N + 30 + mz ∧ ∃ N1 : Nat, (N1 : Int) = N + 30 + mz ∧ N + 30 ≤ (N1 : Int) ∧ (N1 : Int) ≤ 12030 :=
  ⟨IntWalk.wrap64_in _ (by omega), IntWalk.wrap64_in _ (by omega), (N + 30 + mz).toNat, by omega, by omega, by omega⟩
theorem lo_add2 {N mz : Int} (h0 : 0 ≤ N) (h1 : N < 6000) (h2 : 0 ≤ mz ∧ mz ≤ 6000) : wrap64 (N + 10) = N + 10 ∧ wrap64 (N + 10 + mz) = N + 10 + mz ∧ ∃ N1 : Nat, (N1 : Int) = N + 10 + mz ∧ N + 10 ≤ (N1 : Int) ∧ (N1 : Int) ≤ 12030 :=
  ⟨IntWalk.wrap64_in _ (by omega), IntWalk.wrap64_in _ (by omega), (N + 10 + mz).toNat, by omega, by omega, by omega⟩
theorem li_add {N1 N2 N3 k : Nat} (h : (N1 : Int) + 10 * (k : Int) ≤ (N2 : Int)) (h2 : (N2 : Int) + 10 ≤ (N3 : Int)) : (N1 : Int) + 10 * ((k + 1 : Nat) : Int) ≤ (N3 : Int) := by omega
/-- Counted over j sets. -/
def LoN (ds : List (SetP × Value)) (j N : Nat) : Prop := (N : Int) ≤ 20000 ∧ ((N : Int) < 6000 → 30 * (j : Int) ≤ (N : Int) ∧ ∀ t (h : t < ds.length), t < j → 10 * (ds[t].1.data.length : Int) ≤ (N : Int))
def LoR (w : World) (n : Nat) (ds : List (SetP × Value)) (v i : Value) (wr : World) : Prop := ∃ j N : Nat, j ≤ n ∧ i = .int .i64 (j : Nat) ∧ v = .int .i64 (N : Nat) ∧ LoN ds j N ∧ Chg [] w wr
def LiR (w : World) (n N0 : Nat) (v i : Value) (wr : World) : Prop := ∃ k N : Nat, k ≤ n ∧ i = .int .i64 (k : Nat) ∧ v = .int .i64 (N : Nat) ∧ (N0 : Int) + 10 * (k : Int) ≤ (N : Int) ∧ (N : Int) ≤ 20000 ∧ Chg [] w wr
theorem LoN.ok {ds : List (SetP × Value)} {l : List SetP} {N : Nat} (h : LoN ds ds.length N) (hl : ds.map (·.1) = l) (hN : (N : Int) < 6000) : OkL l := by
  obtain ⟨h1, h2⟩ := h.2 hN
  have e : l.length = ds.length := by rw [← hl]; simp
  refine ⟨by omega, fun x hx => ?_⟩
  rw [← hl] at hx
  obtain ⟨y, hy, rfl⟩ := List.mem_map.1 hx
  obtain ⟨t, ht, rfl⟩ := List.getElem_of_mem hy
  have := h2 t ht ht
  omega
theorem LoN.next {ds : List (SetP × Value)} {j N N1 N2 k : Nat} (h : LoN ds j N) (hN : (N : Int) < 6000) (h1 : (N : Int) + 30 ≤ (N1 : Int)) (h2 : (N1 : Int) + 10 * (k : Int) ≤ (N2 : Int)) (h3 : (N2 : Int) ≤ 20000) (hk : (N2 : Int) < 6000 → ∀ h : j < ds.length, ds[j].1.data.length = k) : LoN ds (j + 1) N2 := by
  refine ⟨h3, fun h6 => ?_⟩
  obtain ⟨h4, h5⟩ := h.2 hN
  refine ⟨by omega, fun t ht htj => ?_⟩
  by_cases e : t = j
  · subst e
    have := hk h6 ht
    omega
  · have := h5 t ht (by omega)
    omega
def LongP (R : Prop) (w : World) (e : Ending) (w' : World) : Prop := ∃ b, e = .returned (.bool b) ∧ (b = false → R) ∧ Chg [] w w'
set_option maxRecDepth 100000 in
set_option maxHeartbeats 2000000 in
theorem longSets_any (v : Value) (l : List SetP) (w : World) (h : RawSets w v l) :
    Calls Try.prog 36 #[v] w fun e w' => LongP (OkL l) w e w' := by
  obtain ⟨hl, ds, hds, hrd, hx⟩ := h
  obtain ⟨a, c, e, _⟩ := id hrd
  subst e
  have hdl : ds.length = l.length := by rw [← hds]; simp
  obtain ⟨n, hn⟩ : ∃ n, n = ds.length := ⟨_, rfl⟩
  rw [← hn] at hrd ⊢
  have hn2 : (n : Int) ≤ 9223372036854775807 := by unfold maxLen at hl; omega
  have HRD := Lib.hid hrd
  have HX := Lib.hid hx
  have HN := Lib.hid hn
  have HDS := Lib.hid hds
  clear hl hds hrd hx hdl hn
  go_enter Try.func36, Try.ntmps36
  go_wp2_with fail
  go_loopw [3, 4] (fun v i wr => LoR w n ds v i wr) (fun _ i _ => n - (intOf i).toNat)
  case atStart => exact ⟨0, 0, Nat.zero_le _, rfl, rfl, ⟨by omega, fun _ => ⟨by omega, fun t h ht => absurd ht (Nat.not_lt_zero _)⟩⟩, Chg.refl _ _⟩
  case round =>
    obtain ⟨j, N, hj, rfl, rfl, hlo, hck⟩ := hrel
    have hN := hlo.1
    have HLO := Lib.hid hlo
    clear hlo
    by_cases hlt : j < n
    · by_cases hn8 : (N : Int) < 6000
      · have t1 : decide ((N : Int) < 6000) = true := by rw [decide_eq_true_eq]; exact hn8
        have t1n : decide (N < 6000) = true := by rw [decide_eq_true_eq]; omega
        have hjd : j < ds.length := by rw [← HN.out]; exact hlt
        obtain ⟨y, o, rfl, _, q⟩ := HRD.out.flat setV_len hjd (by omega)
        have hraw := HX.out ds[j] (List.getElem_mem hjd)
        obtain ⟨⟨s, dv⟩, hs⟩ : ∃ s, s = ds[j] := ⟨_, rfl⟩
        rw [← hs] at q hraw
        have hnm := hraw.nm
        have hdl := hraw.len
        simp only at hnm hdl
        have hnmI : (s.nm.size : Int) ≤ 9223372036854775807 := by unfold maxLen at hnm; omega
        have hdlI : (s.data.length : Int) ≤ 9223372036854775807 := by unfold maxLen at hdl; omega
        clear hnm hdl
        obtain ⟨da, dc, e, _⟩ := id hraw.rd
        simp only at e
        subst e
        obtain ⟨m, hm⟩ : ∃ m, m = s.data.length := ⟨_, rfl⟩
        have d0 : wr.cell? ⟨y, o + j * 5, none⟩ = some (.string s.nm) := hck.cell (q 0 _ rfl) (by simp)
        have d4 : wr.cell? ⟨y, o + j * 5 + 4, none⟩ = some (.slice da m dc) := by rw [Nat.add_assoc, hm]; exact hck.cell (q 4 _ rfl) (by simp)
        rw [← hm] at hdlI
        obtain ⟨mz, hmz, hmz1⟩ : ∃ mz : Int, min 6000 (s.nm.size : Int) = mz ∧ 0 ≤ mz ∧ mz ≤ 6000 := ⟨_, rfl, Int.le_min.2 ⟨by decide, Int.natCast_nonneg _⟩, Int.min_le_left _ _⟩
        obtain ⟨e1, e2', N1, hN1, hN1b⟩ := lo_add (Int.natCast_nonneg N) hn8 hmz1
        have he2 : (N : Int) + 30 + min 6000 (s.nm.size : Int) = (N1 : Int) := by rw [hmz, hN1]
        have HE2 := Lib.hid he2
        clear e2' he2 e1
        have HRAW := Lib.hid hraw
        have HM := Lib.hid hm
        have HS := Lib.hid hs
        have HQ := Lib.hid q
        have HN8 := Lib.hid hn8
        have HN1 := Lib.hid hN1b
        clear hraw hm hs q hn8 hN1 hmz hmz1 hN1b
        go_wp2_with fail
        have hck0 := hck
        clear hck d0 d4 t1 t1n
        go_loopw [3, 5] (fun v i wr => LiR w m N1 v i wr) (fun _ i _ => m - (intOf i).toNat)
        case atStart => exact ⟨0, N1, Nat.zero_le _, rfl, congrArg (Value.int .i64) HE2.out, by simp, Int.le_trans HN1.out.2 (by decide), hck0⟩
        case round =>
          clear hck0
          obtain ⟨k, N2, hk, rfl, rfl, h10, h20, hck⟩ := hrel
          have H10 := Lib.hid (And.intro h10 h20)
          clear h10 h20
          have d4 : wr.cell? ⟨y, o + j * 5 + 4, none⟩ = some (.slice da m dc) := by rw [Nat.add_assoc, HM.out]; exact hck.cell (HQ.out 4 _ rfl) (by simp)
          have hstep : ∀ (N3 : Nat) (k3 : Nat) (wr3 : World), Chg [] w wr3 → (N1 : Int) + 10 * (k3 : Int) ≤ (N3 : Int) → (N3 : Int) ≤ 20000 → ((N3 : Int) < 6000 → k3 = m) → LoR w n ds (.int .i64 (N3 : Nat)) (.int .i64 ((j + 1 : Nat) : Int)) wr3 := by
            intro N3 k3 wr3 hc3 b1 b2 b3
            refine ⟨j + 1, N3, hlt, rfl, rfl, HLO.out.next HN8.out HN1.out.1 b1 b2 (fun h6 hh => ?_), hc3⟩
            rw [b3 h6, HM.out, ← HS.out]
          have HSTEP := Lib.hid hstep
          clear hstep
          by_cases hkm : k < m
          · by_cases hn8 : (N2 : Int) < 6000
            · have t1 : decide ((N2 : Int) < 6000) = true := by rw [decide_eq_true_eq]; exact hn8
              have t1n : decide (N2 < 6000) = true := by rw [decide_eq_true_eq]; exact Int.ofNat_lt.1 hn8
              have hkd : k < s.data.length := by rw [← HM.out]; exact hkm
              have hsz := HRAW.out.str s.data[k] (List.getElem_mem hkd)
              obtain ⟨y2, o2, rfl, _, q2⟩ := RdR.flat strV_len HRAW.out.rd hkd (by omega)
              obtain ⟨z, hz⟩ : ∃ z, z = s.data[k] := ⟨_, rfl⟩
              have d5 : wr.cell? ⟨y2, o2 + k, none⟩ = some (.string z) := by
                have := hck.cell (q2 0 (.string z) (by rw [hz]; rfl)) (by simp)
                rw [Nat.mul_one, Nat.add_zero] at this
                exact this
              rw [← hz] at hsz
              have hszI : (z.size : Int) ≤ 9223372036854775807 := by unfold maxLen at hsz; omega
              obtain ⟨mz, hmz, hmz1⟩ : ∃ mz : Int, min 6000 (z.size : Int) = mz ∧ 0 ≤ mz ∧ mz ≤ 6000 := ⟨_, rfl, Int.le_min.2 ⟨by decide, Int.natCast_nonneg _⟩, Int.min_le_left _ _⟩
              obtain ⟨e1, e2', N3, hN3, hN3b⟩ := lo_add2 (Int.natCast_nonneg N2) hn8 hmz1
              have he2 : wrap64 (wrap64 ((N2 : Int) + 10) + min 6000 (z.size : Int)) = (N3 : Int) := by rw [e1, hmz, e2', hN3]
              have HE3 := Lib.hid he2
              have hnew : LiR w m N1 (.int .i64 (N3 : Nat)) (.int .i64 ((k + 1 : Nat) : Int)) wr := by
                refine ⟨k + 1, N3, hkm, rfl, rfl, ?_, Int.le_trans hN3b.2 (by decide), hck⟩
                exact li_add H10.out.1 hN3b.1
              have HNEW := Lib.hid hnew
              clear hnew e2' e1 he2 hN3 hN3b hmz hmz1 hsz q2 hz hn8 HSTEP
              go_wp2
              go_roundw
              case rel =>
                rw [HE3.out]
                exact HNEW.out
              case measure => simp [intOf] <;> omega
            · have t1 : decide ((N2 : Int) < 6000) = false := by rw [decide_eq_false_iff_not]; exact hn8
              have t1n : decide (N2 < 6000) = false := by rw [decide_eq_false_iff_not]; exact fun h => hn8 (Int.ofNat_lt.2 h)
              have hfin := HSTEP.out N2 k wr hck H10.out.1 H10.out.2 (fun h => absurd h hn8)
              have HFIN := Lib.hid hfin
              clear hfin hn8 HSTEP
              go_wp2
              go_roundw
              case rel => exact HFIN.out
              case measure => simp [intOf] <;> omega
          · obtain rfl : k = m := by omega
            have hfin := HSTEP.out N2 k wr hck H10.out.1 H10.out.2 (fun _ => rfl)
            have HFIN := Lib.hid hfin
            clear hfin HSTEP
            go_wp2
            go_roundw
            case rel => exact HFIN.out
            case measure => simp [intOf] <;> omega
      · have t1 : decide ((N : Int) < 6000) = false := by rw [decide_eq_false_iff_not]; exact hn8
        have t1n : decide (N < 6000) = false := by rw [decide_eq_false_iff_not]; omega
        have t2 : decide ((6000 : Int) ≤ (N : Int)) = true := by rw [decide_eq_true_eq]; omega
        have t2n : decide (6000 ≤ N) = true := by rw [decide_eq_true_eq]; omega
        clear hn8
        go_wp2
        go_ret
        exact ⟨_, rfl, by simp, hck⟩
    · obtain rfl : j = n := by omega
      obtain ⟨b, hb⟩ : ∃ b, b = decide ((6000 : Int) ≤ (N : Int)) := ⟨_, rfl⟩
      have hfin : b = false → OkL l := by
        intro hbf
        rw [hb, decide_eq_false_iff_not] at hbf
        have h1 := HLO.out
        rw [HN.out] at h1
        exact h1.ok HDS.out (by omega)
      have t2 : decide ((6000 : Int) ≤ (N : Int)) = b := hb.symm
      have t2n : decide (6000 ≤ N) = b := by rw [hb, Bool.eq_iff_iff, decide_eq_true_eq, decide_eq_true_eq]; omega
      have HFIN := Lib.hid hfin
      clear hb hfin
      go_wp2
      go_ret
      exact ⟨_, rfl, HFIN.out, hck⟩

end Go.Proofs.Ytgdnfempcjlipaa
