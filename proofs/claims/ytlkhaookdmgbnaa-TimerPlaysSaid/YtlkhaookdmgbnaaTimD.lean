/- The walk of the library's heap: down. -/
import Derived.Test.YtlkhaookdmgbnaaTimC
namespace Go.Proofs.Ytlkhaookdmgbnaa
open Go.RowKit

/-- What holds at a round's head of 'down'. -/
structure DownAt (Q R : List (It × Nat)) (n i0 i : Nat) : Prop where
  perm : R.Perm Q
  weak : DownW (itsQ R) n i
  same : i = i0 → R = Q
  full : i ≠ i0 → DownI (itsQ R) n i
  le : i0 ≤ i
  keep : KeepN (itZ, 0) Q R n
def DownR (w : World) (tb qb cap n i0 : Nat) (Q : List (It × Nat)) (v : Value) (wr : World) : Prop :=
  ∃ (i : Nat) (R : List (It × Nat)), i < n ∧ v = .int .i64 i ∧ QH wr tb qb cap R ∧ DownAt Q R n i0 i ∧ Chg (blksQ qb Q) w wr
/-- What 'down' leaves: a heap; or nothing was moved, and it may stand too low. -/
def DownPost (w : World) (tb qb cap n i0 : Nat) (Q : List (It × Nat)) (e : Ending) (w' : World) : Prop :=
  (e = .returned (.bool true) ∧ HeapPost w tb qb cap n Q w') ∨ (e = .returned (.bool false) ∧ QH w' tb qb cap Q ∧ UpN (itsQ Q) n i0 ∧ Chg (blksQ qb Q) w w')
theorem down_fin {w w' : World} {tb qb cap n i0 i : Nat} {Q R : List (It × Nat)} (hq : QH w' tb qb cap R) (hd : DownAt Q R n i0 i) (hC : Chg (blksQ qb Q) w w') (hch : ∀ c, 0 < c → c < n → (c - 1) / 2 = i → leI ((itsQ R).getD i itZ) ((itsQ R).getD c itZ)) (B : Bool) (hB : Hid (B = decide (i0 < i))) :
    DownPost w tb qb cap n i0 Q (.returned (.bool B)) w' := by
  by_cases e : i = i0
  · right
    have hR := hd.same e
    have hw := hd.weak
    subst hR
    subst e
    refine ⟨?_, hq, downW_stay hw hch, hC⟩
    rw [hB.out]; simp
  · left
    refine ⟨?_, R, hq, hd.perm, down_end (hd.full e) hch, hd.keep, hC⟩
    rw [hB.out]
    have := hd.le
    rw [decide_eq_true (by omega)]
theorem down_next {Q R : List (It × Nat)} {n i0 i j : Nat} (hd : DownAt Q R n i0 i) (hn : n ≤ R.length) (hj : j < n) (hj0 : 0 < j) (hp : (j - 1) / 2 = i) (hlt : ltI ((itsQ R).getD j itZ) ((itsQ R).getD i itZ) = true) (hmin : ∀ c, 0 < c → c < n → (c - 1) / 2 = i → leI ((itsQ R).getD j itZ) ((itsQ R).getD c itZ)) :
    DownAt Q (swapI (itZ, 0) R i j) n i0 j := by
  have hi : i < R.length := by omega
  have hjl : j < R.length := by omega
  have hlI : n ≤ (itsQ R).length := by simpa [itsQ] using hn
  have hs := downW_step hd.weak hlI hj hj0 hp hlt hmin
  rw [← itsQ_swap hi hjl] at hs
  have hle := hd.le
  exact ⟨(swapI_perm (itZ, 0) R i j hi hjl).trans hd.perm, ⟨fun c h0 hc h1 _ => hs.1 c h0 hc h1, hs.2⟩, fun e => by omega, fun _ => hs, by omega, hd.keep.swap (by omega) hj hi hjl⟩

set_option maxRecDepth 100000 in
set_option maxHeartbeats 4000000 in
theorem down_any (tb qb cap n i0 : Nat) (Q : List (It × Nat)) (w : World) (h : QH w tb qb cap Q) (hn : n ≤ Q.length) (hi : i0 < n) (hD : DownW (itsQ Q) n i0) (hlen : Q.length ≤ 1000000000) :
    Calls Try.prog 32 #[qI tb, .int .i64 i0, .int .i64 n] w (DownPost w tb qb cap n i0 Q) := by
  unfold qI
  have HD0 : Hid (DownAt Q Q n i0 i0) := Lib.hid ⟨List.Perm.refl _, hD, fun _ => rfl, fun h => absurd rfl h, Nat.le_refl _, KeepN.refl _ _ _⟩
  clear hD
  go_enter Try.func32, Try.ntmps32
  go_wp2_with fail
  go_loopw [7] (DownR w tb qb cap n i0 Q) (fun v _ => n - (intOf v).toNat)
  case atStart => exact ⟨i0, Q, hi, rfl, h, HD0.out, Chg.refl _ _⟩
  case round =>
    clear h HD0 hi
    obtain ⟨i, R, hi, rfl, hq, hd, hC⟩ := hrel
    have hR1 : n ≤ R.length := by rw [hd.perm.length_eq]; exact hn
    have hR2 : R.length ≤ 1000000000 := by rw [hd.perm.length_eq]; exact hlen
    have HD := Lib.hid hd
    have iI : (0 : Int) ≤ (i : Int) := by omega
    have iN : (i : Int) < (n : Int) := by omega
    have nI : (n : Int) ≤ 1000000000 := by omega
    obtain ⟨B, hB⟩ : ∃ B, B = decide (i0 < i) := ⟨_, rfl⟩
    have HB := Lib.hid hB
    have hBI : decide ((i0 : Int) < (i : Int)) = B := by rw [hB, Bool.eq_iff_iff]; simp
    have hBN : decide (i0 < i) = B := hB.symm
    have HBI := Lib.hid (And.intro hBI hBN)
    clear hd hB hBI hBN
    have hiR : i < R.length := by omega
    by_cases hj1 : 2 * i + 1 < n
    · have d1 : decide ((n : Int) ≤ 2 * (i : Int) + 1) = false := by simp; omega
      have d2 : decide (2 * (i : Int) + 1 < 0) = false := by simp; omega
      have hjR : 2 * i + 1 < R.length := by omega
      have m1 := m_less _ _ _ hq.cell
      obtain ⟨j1, hj1d⟩ : ∃ j1, j1 = 2 * i + 1 := ⟨_, rfl⟩
      have HJ1 := Lib.hid hj1d
      have hj1I : 2 * (i : Int) + 1 = (j1 : Int) := by omega
      rw [← hj1d] at hj1 hjR
      rw [hj1I] at d1 d2
      clear hj1d
      by_cases hj2 : j1 + 1 < n
      · have hj2R : j1 + 1 < R.length := by omega
        have hj2I : (j1 : Int) + 1 < (n : Int) := by omega
        obtain ⟨j2, hj2d⟩ : ∃ j2, j2 = j1 + 1 := ⟨_, rfl⟩
        have HJ2 := Lib.hid hj2d
        have hj2e : (j1 : Int) + 1 = (j2 : Int) := by omega
        rw [← hj2d] at hj2 hj2R
        rw [hj2e] at hj2I
        clear hj2d
        by_cases hl : ltI R[j2].1 R[j1].1 = true
        · have HL : Hid (true = ltI R[j2].1 R[j1].1) := Lib.hid hl.symm
          have HMIN : Hid (∀ c, 0 < c → c < n → (c - 1) / 2 = i → leI ((itsQ R).getD j2 itZ) ((itsQ R).getD c itZ)) := Lib.hid (by
            intro c h0 hc hp
            have := HJ1.out
            have := HJ2.out
            by_cases e : c = j2
            · rw [e]; exact leI_refl _
            · have e2 : c = j1 := by omega
              rw [e2, itsQ_get hj2R, itsQ_get hjR]
              exact leI_of_lt hl)
          clear hl
          go_wp2_with fail
          refine (less_any qb cap j2 j1 R _ hq.q hj2R hjR true HL).mono ?_
          rintro e w1 ⟨rfl, n1, rfl⟩
          have hq1 := hq.drewN n1
          have hC1 := hC.drewN n1
          have m2 := m_less _ _ _ hq1.cell
          clear m1 hq hC d1 d2
          by_cases hli : ltI R[j2].1 R[i].1 = true
          · have HLI : Hid (true = ltI R[j2].1 R[i].1) := Lib.hid hli.symm
            clear hli
            go_wp2_with fail
            refine (less_any qb cap j2 i R _ hq1.q hj2R hiR true HLI).mono ?_
            rintro e w2 ⟨rfl, n2, rfl⟩
            have hq2 := (drew2 wr n1 n2) ▸ hq1.drewN n2
            have hC2 := (drew2 wr n1 n2) ▸ hC1.drewN n2
            have m3 := m_swap _ _ _ hq2.cell
            clear m2 hq1 hC1
            go_wp2_with fail
            refine (swap_any qb cap i j2 R _ hq2.q hiR hj2R (by have := HJ1.out; have := HJ2.out; omega)).mono ?_
            rintro e w3 ⟨rfl, hq3, hc3⟩
            have hperm := swapI_perm (itZ, 0) R i j2 hiR hj2R
            have hq4 := hq2.to hq3 hperm hc3
            have hC4 : Chg (blksQ qb Q) w w3 := hC2.trans (hc3.mono fun x hx => (blks_perm HD.out.perm x).1 hx)
            have HD4 : Hid (DownAt Q (swapI (itZ, 0) R i j2) n i0 j2) := Lib.hid (down_next HD.out hR1 (by omega) (by have := HJ1.out; have := HJ2.out; omega) (by have := HJ1.out; have := HJ2.out; omega) (by rw [itsQ_get hj2R, itsQ_get hiR]; exact HLI.out.symm) HMIN.out)
            clear m3 hq2 hC2 hq3 hc3
            go_wp2
            go_roundw
            case rel => exact ⟨j2, _, by omega, rfl, hq4, HD4.out, hC4⟩
            case measure => have := HJ1.out; have := HJ2.out; simp [intOf] <;> omega
          · have hli' : ltI R[j2].1 R[i].1 = false := by simpa using hli
            have HLI : Hid (false = ltI R[j2].1 R[i].1) := Lib.hid hli'.symm
            have HCH : Hid (∀ c, 0 < c → c < n → (c - 1) / 2 = i → leI ((itsQ R).getD i itZ) ((itsQ R).getD c itZ)) := Lib.hid (fun c h0 hc hp => leI_trans (by rw [itsQ_get hj2R, itsQ_get hiR]; exact hli') (HMIN.out c h0 hc hp))
            clear hli hli'
            go_wp2_with fail
            refine (less_any qb cap j2 i R _ hq1.q hj2R hiR false HLI).mono ?_
            rintro e w2 ⟨rfl, n2, rfl⟩
            have hq2 := (drew2 wr n1 n2) ▸ hq1.drewN n2
            have hC2 := (drew2 wr n1 n2) ▸ hC1.drewN n2
            obtain ⟨b1, b2⟩ := HBI.out
            clear m2 hq1 hC1
            go_wp2
            go_ret
            exact down_fin hq2 HD.out hC2 HCH.out B HB
        · have hl' : ltI R[j2].1 R[j1].1 = false := by simpa using hl
          have HL : Hid (false = ltI R[j2].1 R[j1].1) := Lib.hid hl'.symm
          have HMIN : Hid (∀ c, 0 < c → c < n → (c - 1) / 2 = i → leI ((itsQ R).getD j1 itZ) ((itsQ R).getD c itZ)) := Lib.hid (by
            intro c h0 hc hp
            have := HJ1.out
            have := HJ2.out
            by_cases e : c = j1
            · rw [e]; exact leI_refl _
            · have e2 : c = j2 := by omega
              rw [e2, itsQ_get hj2R, itsQ_get hjR]
              exact hl')
          clear hl hl'
          go_wp2_with fail
          refine (less_any qb cap j2 j1 R _ hq.q hj2R hjR false HL).mono ?_
          rintro e w1 ⟨rfl, n1, rfl⟩
          have hq1 := hq.drewN n1
          have hC1 := hC.drewN n1
          have m2 := m_less _ _ _ hq1.cell
          clear m1 hq hC d1 d2
          by_cases hli : ltI R[j1].1 R[i].1 = true
          · have HLI : Hid (true = ltI R[j1].1 R[i].1) := Lib.hid hli.symm
            clear hli
            go_wp2_with fail
            refine (less_any qb cap j1 i R _ hq1.q hjR hiR true HLI).mono ?_
            rintro e w2 ⟨rfl, n2, rfl⟩
            have hq2 := (drew2 wr n1 n2) ▸ hq1.drewN n2
            have hC2 := (drew2 wr n1 n2) ▸ hC1.drewN n2
            have m3 := m_swap _ _ _ hq2.cell
            clear m2 hq1 hC1
            go_wp2_with fail
            refine (swap_any qb cap i j1 R _ hq2.q hiR hjR (by have := HJ1.out; omega)).mono ?_
            rintro e w3 ⟨rfl, hq3, hc3⟩
            have hperm := swapI_perm (itZ, 0) R i j1 hiR hjR
            have hq4 := hq2.to hq3 hperm hc3
            have hC4 : Chg (blksQ qb Q) w w3 := hC2.trans (hc3.mono fun x hx => (blks_perm HD.out.perm x).1 hx)
            have HD4 : Hid (DownAt Q (swapI (itZ, 0) R i j1) n i0 j1) := Lib.hid (down_next HD.out hR1 (by omega) (by have := HJ1.out; omega) (by have := HJ1.out; omega) (by rw [itsQ_get hjR, itsQ_get hiR]; exact HLI.out.symm) HMIN.out)
            clear m3 hq2 hC2 hq3 hc3
            go_wp2
            go_roundw
            case rel => exact ⟨j1, _, by omega, rfl, hq4, HD4.out, hC4⟩
            case measure => have := HJ1.out; simp [intOf] <;> omega
          · have hli' : ltI R[j1].1 R[i].1 = false := by simpa using hli
            have HLI : Hid (false = ltI R[j1].1 R[i].1) := Lib.hid hli'.symm
            have HCH : Hid (∀ c, 0 < c → c < n → (c - 1) / 2 = i → leI ((itsQ R).getD i itZ) ((itsQ R).getD c itZ)) := Lib.hid (fun c h0 hc hp => leI_trans (by rw [itsQ_get hjR, itsQ_get hiR]; exact hli') (HMIN.out c h0 hc hp))
            clear hli hli'
            go_wp2_with fail
            refine (less_any qb cap j1 i R _ hq1.q hjR hiR false HLI).mono ?_
            rintro e w2 ⟨rfl, n2, rfl⟩
            have hq2 := (drew2 wr n1 n2) ▸ hq1.drewN n2
            have hC2 := (drew2 wr n1 n2) ▸ hC1.drewN n2
            obtain ⟨b1, b2⟩ := HBI.out
            clear m2 hq1 hC1
            go_wp2
            go_ret
            exact down_fin hq2 HD.out hC2 HCH.out B HB
      · have d3 : decide ((j1 : Int) + 1 < (n : Int)) = false := by simp; omega
        have HMIN : Hid (∀ c, 0 < c → c < n → (c - 1) / 2 = i → leI ((itsQ R).getD j1 itZ) ((itsQ R).getD c itZ)) := Lib.hid (by
          intro c h0 hc hp
          have := HJ1.out
          have e : c = j1 := by omega
          rw [e]; exact leI_refl _)
        have hq1 := hq
        have hC1 := hC
        have m2 := m1
        clear m1 hq hC
        by_cases hli : ltI R[j1].1 R[i].1 = true
        · have HLI : Hid (true = ltI R[j1].1 R[i].1) := Lib.hid hli.symm
          clear hli
          go_wp2_with fail
          refine (less_any qb cap j1 i R _ hq1.q hjR hiR true HLI).mono ?_
          rintro e w2 ⟨rfl, n2, rfl⟩
          have hq2 := hq1.drewN n2
          have hC2 := hC1.drewN n2
          have m3 := m_swap _ _ _ hq2.cell
          clear m2 hq1 hC1
          go_wp2_with fail
          refine (swap_any qb cap i j1 R _ hq2.q hiR hjR (by have := HJ1.out; omega)).mono ?_
          rintro e w3 ⟨rfl, hq3, hc3⟩
          have hperm := swapI_perm (itZ, 0) R i j1 hiR hjR
          have hq4 := hq2.to hq3 hperm hc3
          have hC4 : Chg (blksQ qb Q) w w3 := hC2.trans (hc3.mono fun x hx => (blks_perm HD.out.perm x).1 hx)
          have HD4 : Hid (DownAt Q (swapI (itZ, 0) R i j1) n i0 j1) := Lib.hid (down_next HD.out hR1 (by omega) (by have := HJ1.out; omega) (by have := HJ1.out; omega) (by rw [itsQ_get hjR, itsQ_get hiR]; exact HLI.out.symm) HMIN.out)
          clear m3 hq2 hC2 hq3 hc3
          go_wp2
          go_roundw
          case rel => exact ⟨j1, _, by omega, rfl, hq4, HD4.out, hC4⟩
          case measure => have := HJ1.out; simp [intOf] <;> omega
        · have hli' : ltI R[j1].1 R[i].1 = false := by simpa using hli
          have HLI : Hid (false = ltI R[j1].1 R[i].1) := Lib.hid hli'.symm
          have HCH : Hid (∀ c, 0 < c → c < n → (c - 1) / 2 = i → leI ((itsQ R).getD i itZ) ((itsQ R).getD c itZ)) := Lib.hid (fun c h0 hc hp => leI_trans (by rw [itsQ_get hjR, itsQ_get hiR]; exact hli') (HMIN.out c h0 hc hp))
          clear hli hli'
          go_wp2_with fail
          refine (less_any qb cap j1 i R _ hq1.q hjR hiR false HLI).mono ?_
          rintro e w2 ⟨rfl, n2, rfl⟩
          have hq2 := hq1.drewN n2
          have hC2 := hC1.drewN n2
          obtain ⟨b1, b2⟩ := HBI.out
          clear m2 hq1 hC1
          go_wp2
          go_ret
          exact down_fin hq2 HD.out hC2 HCH.out B HB
    · have d1 : (n : Int) ≤ 2 * (i : Int) + 1 := by omega
      have hch : ∀ c, 0 < c → c < n → (c - 1) / 2 = i → leI ((itsQ R).getD i itZ) ((itsQ R).getD c itZ) := fun c h0 hc hp => by omega
      have HCH := Lib.hid hch
      obtain ⟨b1, b2⟩ := HBI.out
      clear hch
      go_wp2
      go_ret
      exact down_fin hq HD.out hC HCH.out B HB

end Go.Proofs.Ytlkhaookdmgbnaa
