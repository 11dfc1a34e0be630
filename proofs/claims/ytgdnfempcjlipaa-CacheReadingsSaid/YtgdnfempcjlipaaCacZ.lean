/- What is too long: long; the acts, one by one. -/
import Derived.Test.YtgdnfempcjlipaaCacY
namespace Go.Proofs.Ytgdnfempcjlipaa
open Go.RowKit Go.Maps

def OkActs (acts : List ActT) : Prop := acts.length ≤ 300 ∧ ∀ a ∈ acts, OkVer a.v
def LaN (acts : List ActT) (j N : Nat) : Prop := (N : Int) ≤ 30000 ∧ ((N : Int) < 6000 → 20 * (j : Int) ≤ (N : Int) ∧ ∀ t (h : t < acts.length), t < j → OkVer acts[t].v)
def LaR (w : World) (acts : List ActT) (v i : Value) (wr : World) : Prop := ∃ j N : Nat, j ≤ acts.length ∧ i = .int .i64 (j : Nat) ∧ v = .int .i64 (N : Nat) ∧ LaN acts j N ∧ Chg [] w wr
theorem LaN.ok {acts : List ActT} {N : Nat} (h : LaN acts acts.length N) (hN : (N : Int) < 6000) : OkActs acts := by
  obtain ⟨h1, h2⟩ := h.2 hN
  refine ⟨by omega, fun x hx => ?_⟩
  obtain ⟨t, ht, rfl⟩ := List.getElem_of_mem hx
  exact h2 t ht ht
theorem LaN.next {acts : List ActT} {j N N2 : Nat} (h : LaN acts j N) (hN : (N : Int) < 6000) (h1 : (N : Int) + 20 ≤ (N2 : Int)) (h3 : (N2 : Int) ≤ 30000) (hk : ∀ h : j < acts.length, OkVer acts[j].v) : LaN acts (j + 1) N2 := by
  refine ⟨h3, fun h6 => ?_⟩
  obtain ⟨h4, h5⟩ := h.2 hN
  refine ⟨by omega, fun t ht htj => ?_⟩
  by_cases e : t = j
  · subst e
    exact hk ht
  · exact h5 t ht (by omega)
theorem la_add {N m1 m2 : Int} (h0 : 0 ≤ N) (h1 : N < 6000) (h2 : 0 ≤ m1 ∧ m1 ≤ 6000) (h3 : 0 ≤ m2 ∧ m2 ≤ 600) : wrap64 (N + 20) = N + 20 ∧ wrap64 (N + 20 + m1) = N + 20 + m1 ∧ wrap64 (10 * m2) = 10 * m2 ∧ wrap64 (N + 20 + m1 + 10 * m2) = N + 20 + m1 + 10 * m2 ∧ ∃ N1 : Nat, (N1 : Int) = N + 20 + m1 + 10 * m2 ∧ N + 20 ≤ (N1 : Int) ∧ (N1 : Int) ≤ 30000 :=
  ⟨IntWalk.wrap64_in _ (by omega), IntWalk.wrap64_in _ (by omega), IntWalk.wrap64_in _ (by omega), IntWalk.wrap64_in _ (by omega), (N + 20 + m1 + 10 * m2).toNat, by omega, by omega, by omega⟩
theorem wrap_add {a b : Nat} (ha : a ≤ 1000) (hb : b ≤ 1000) : wrap64 ((a : Int) + (b : Int)) = (a : Int) + (b : Int) := IntWalk.wrap64_in _ (by omega)
theorem RawSets.slice {w : World} {v : Value} {l : List SetP} (h : RawSets w v l) : ∃ a c, v = .slice a l.length c := by
  obtain ⟨h0, ds, h1, h2, h3⟩ := h
  obtain ⟨a, c, e, _⟩ := h2
  exact ⟨a, c, by rw [e, ← h1]; simp⟩
set_option maxRecDepth 100000 in
set_option maxHeartbeats 2000000 in
theorem long_any (a : Option Addr) (cap : Nat) (acts : List ActT) (w : World) (h : IsActs w a acts) :
    Calls Try.prog 16 #[.slice a acts.length cap] w fun e w' => LongP (OkActs acts) w e w' := by
  have hmax : (acts.length : Int) ≤ 9223372036854775807 := by have := h.1; unfold maxLen at this; omega
  have H := Lib.hid h.2
  clear h
  go_enter Try.func16, Try.ntmps16
  go_wp2_with fail
  go_loopw [3, 4] (fun v i wr => LaR w acts v i wr) (fun _ i _ => acts.length - (intOf i).toNat)
  case atStart => exact ⟨0, 0, Nat.zero_le _, rfl, rfl, ⟨by decide, fun _ => ⟨by decide, fun t h ht => absurd ht (Nat.not_lt_zero _)⟩⟩, Chg.refl _ _⟩
  case round =>
    obtain ⟨j, N, hj, rfl, rfl, hla, hck⟩ := hrel
    have HLA := Lib.hid hla
    clear hla
    by_cases hlt : j < acts.length
    · by_cases hn8 : (N : Int) < 6000
      · have t1 : decide ((N : Int) < 6000) = true := by rw [decide_eq_true_eq]; exact hn8
        have t1n : decide (N < 6000) = true := by rw [decide_eq_true_eq]; exact Int.ofNat_lt.1 hn8
        obtain ⟨b, o, rfl, _, q, hok⟩ := H.out j hlt
        obtain ⟨A, hA⟩ : ∃ A, A = acts[j] := ⟨_, rfl⟩
        rw [← hA] at q hok
        obtain ⟨sa, sc, hsv⟩ := hok.v.sets.slice
        obtain ⟨oa, oc, hov⟩ := hok.v.soa.slice
        have hraw1 := hok.v.sets
        have hraw2 := hok.v.soa
        rw [hsv] at hraw1
        rw [hov] at hraw2
        obtain ⟨sn, hsn⟩ : ∃ sn, sn = A.v.sets.length := ⟨_, rfl⟩
        obtain ⟨on, hon⟩ : ∃ on, on = A.v.soa.length := ⟨_, rfl⟩
        rw [← hsn] at hsv hraw1
        rw [← hon] at hov hraw2
        have hnm := hok.q.name
        obtain ⟨nm, hnme⟩ : ∃ nm, nm = A.q.nm := ⟨_, rfl⟩
        rw [← hnme] at hnm
        have hnmI : (nm.size : Int) ≤ 9223372036854775807 := by unfold maxLen at hnm; omega
        have d1 : wr.cell? ⟨b, o + j * 9 + 1, none⟩ = some (.string nm) := by rw [hnme, Nat.add_assoc]; exact hck.cell (q 1 _ rfl) (by simp)
        have d5 : wr.cell? ⟨b, o + j * 9 + 5, none⟩ = some (.slice sa sn sc) := by rw [← hsv, Nat.add_assoc]; exact hck.cell (q 5 _ rfl) (by simp)
        have d6 : wr.cell? ⟨b, o + j * 9 + 6, none⟩ = some (.slice oa on oc) := by rw [← hov, Nat.add_assoc]; exact hck.cell (q 6 _ rfl) (by simp)
        have HR1 := Lib.hid (hraw1.same hck)
        have HR2 := Lib.hid hraw2
        have HS := Lib.hid (And.intro hsn hon)
        have HA := Lib.hid hA
        have HN8 := Lib.hid hn8
        clear q hok hsv hov hraw1 hraw2 hsn hon hA hnme hnm hn8
        go_wp2_with fail
        refine (longSets_any _ A.v.sets wr HR1.out).mono ?_
        rintro e9 w1 ⟨b1, rfl, hb1, hc1⟩
        have HC1 := Lib.hid (hck.trans hc1)
        have p1 := hc1.cell d1 (by simp)
        have p5 := hc1.cell d5 (by simp)
        have p6 := hc1.cell d6 (by simp)
        cases b1 with
        | true =>
          clear hb1 hc1
          go_wp2
          go_ret
          exact ⟨true, rfl, by simp, HC1.out⟩
        | false =>
          have HB1 := Lib.hid (hb1 rfl)
          clear hb1 hc1 d1 d5 d6
          go_wp2_with fail
          refine (longSets_any _ A.v.soa w1 (HR2.out.same HC1.out)).mono ?_
          rintro e9 w2 ⟨b2, rfl, hb2, hc2⟩
          have HC2 := Lib.hid (HC1.out.trans hc2)
          have d1 := hc2.cell p1 (by simp)
          have d5 := hc2.cell p5 (by simp)
          have d6 := hc2.cell p6 (by simp)
          cases b2 with
          | true =>
            clear hb2 hc2
            go_wp2
            go_ret
            exact ⟨true, rfl, by simp, HC2.out⟩
          | false =>
            have HB2 := Lib.hid (hb2 rfl)
            obtain ⟨m1, hm1, hm1b⟩ : ∃ mz : Int, min 6000 (nm.size : Int) = mz ∧ 0 ≤ mz ∧ mz ≤ 6000 := ⟨_, rfl, Int.le_min.2 ⟨by decide, Int.natCast_nonneg _⟩, Int.min_le_left _ _⟩
            obtain ⟨m2, hm2, hm2b⟩ : ∃ mz : Int, min 600 ((sn : Int) + (on : Int)) = mz ∧ 0 ≤ mz ∧ mz ≤ 600 := ⟨_, rfl, Int.le_min.2 ⟨by decide, Int.add_nonneg (Int.natCast_nonneg _) (Int.natCast_nonneg _)⟩, Int.min_le_left _ _⟩
            have hww : wrap64 ((sn : Int) + (on : Int)) = (sn : Int) + (on : Int) := by
              rw [HS.out.1, HS.out.2]
              exact wrap_add HB1.out.1 HB2.out.1
            obtain ⟨e1, e2, e3, e4, N1, hN1, hN1b⟩ := la_add (Int.natCast_nonneg N) HN8.out hm1b hm2b
            have hnew : LaR w acts (.int .i64 (N1 : Nat)) (.int .i64 ((j + 1 : Nat) : Int)) w2 := ⟨j + 1, N1, hlt, rfl, rfl, HLA.out.next HN8.out hN1b.1 hN1b.2 (fun hh => by rw [← HA.out]; exact ⟨HB1.out, HB2.out⟩), HC2.out⟩
            have HNEW := Lib.hid hnew
            have HE := Lib.hid (And.intro hm1 (And.intro hm2 (And.intro hww (And.intro e1 (And.intro e2 (And.intro e3 (And.intro e4 hN1)))))))
            have b1 : (sn : Int) ≤ 1000 := by have := HB1.out.1; have := HS.out.1; omega
            have b2 : (on : Int) ≤ 1000 := by have := HB2.out.1; have := HS.out.2; omega
            clear hb2 hc2 p1 p5 p6 hnew hm1 hm1b hm2 hm2b hww e1 e2 e3 e4 hN1 hN1b
            go_wp2_with fail
            go_quiet (fail)
            go_wp2
            obtain ⟨hm1, hm2, hww, e1, e2, e3, e4, hN1⟩ := HE.out
            rw [e1, hm1, e2, hm2, e4, ← hN1]
            obtain ⟨j', N', r1, r2, r3, r4, r5⟩ := HNEW.out
            exact ⟨⟨j', N', r1, by rw [← r2]; exact congrArg (Value.int .i64) (by omega), r3, r4, r5.drewN _⟩, by simp [intOf]; omega⟩
      · have t1 : decide ((N : Int) < 6000) = false := by rw [decide_eq_false_iff_not]; exact hn8
        have t1n : decide (N < 6000) = false := by rw [decide_eq_false_iff_not]; exact fun h => hn8 (Int.ofNat_lt.2 h)
        have t2 : decide ((6000 : Int) ≤ (N : Int)) = true := by rw [decide_eq_true_eq]; exact Int.not_lt.1 hn8
        have t2n : decide (6000 ≤ N) = true := by rw [decide_eq_true_eq]; exact Int.ofNat_le.1 (Int.not_lt.1 hn8)
        clear hn8
        go_wp2
        go_ret
        exact ⟨true, rfl, by simp, hck⟩
    · obtain ⟨m, hm⟩ : ∃ m, m = acts.length := ⟨_, rfl⟩
      have hjm : j = m := by omega
      subst hjm
      obtain ⟨b, hb⟩ : ∃ b, b = decide ((6000 : Int) ≤ (N : Int)) := ⟨_, rfl⟩
      have hfin : b = false → OkActs acts := by
        intro hbf
        rw [hb, decide_eq_false_iff_not] at hbf
        have h1 := HLA.out
        rw [hm] at h1
        exact h1.ok (Int.not_le.1 hbf)
      have t2 : decide ((6000 : Int) ≤ (N : Int)) = b := hb.symm
      have t2n : decide (6000 ≤ N) = b := by rw [hb, Bool.eq_iff_iff, decide_eq_true_eq, decide_eq_true_eq]; exact Int.ofNat_le.symm
      have HFIN := Lib.hid hfin
      have t0 : decide (j < acts.length) = false := by rw [decide_eq_false_iff_not]; exact hlt
      clear hb hfin
      go_wp2
      go_ret
      exact ⟨_, rfl, HFIN.out, hck⟩

end Go.Proofs.Ytgdnfempcjlipaa
