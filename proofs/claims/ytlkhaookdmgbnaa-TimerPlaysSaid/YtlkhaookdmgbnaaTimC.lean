/- The walks of the library's heap: up, down. -/
import Derived.Test.YtlkhaookdmgbnaaTimB
import Derived.IntWalk
namespace Go.Proofs.Ytlkhaookdmgbnaa
open Go.RowKit

/-- The queue, as the library's heap sees it: a pointer to the field of its timers. -/
structure QH (w : World) (tb qb cap : Nat) (Q : List (It × Nat)) : Prop where
  cell : w.cell? ⟨tb, 1, none⟩ = some (.slice (some ⟨qb, 0, none⟩) Q.length cap)
  q : QAt w qb cap Q
  ne : tb ∉ blksQ qb Q
def qI (tb : Nat) : Value := .iface 69 (.pointer (some ⟨tb, 1, none⟩))
theorem run_loadQ (a : Addr) (v : Value) (w : World) (h : w.cell? a = some v) : (loadVar 59 a).run Try.prog w = .ok v w := by
  simp [loadVar, isAgg, run_underlying Try.underlying59, h]
theorem m_len (a : Addr) (v : Value) (w : World) (h : w.cell? a = some v) : (method 201 69 (.pointer (some a)) "Len").run Try.prog w = .ok (50, v) w :=
  run_method_val 69 59 "Len" 200 50 a v w (by kernel_rfl) Try.underlying69 (run_loadQ a v w h)
theorem m_less (a : Addr) (v : Value) (w : World) (h : w.cell? a = some v) : (method 201 69 (.pointer (some a)) "Less").run Try.prog w = .ok (51, v) w :=
  run_method_val 69 59 "Less" 200 51 a v w (by kernel_rfl) Try.underlying69 (run_loadQ a v w h)
theorem m_swap (a : Addr) (v : Value) (w : World) (h : w.cell? a = some v) : (method 201 69 (.pointer (some a)) "Swap").run Try.prog w = .ok (52, v) w :=
  run_method_val 69 59 "Swap" 200 52 a v w (by kernel_rfl) Try.underlying69 (run_loadQ a v w h)

theorem QH.drewN {w : World} {tb qb cap : Nat} {Q : List (It × Nat)} (h : QH w tb qb cap Q) (n : Nat) : QH (w.drewN n) tb qb cap Q := ⟨h.cell, h.q.drewN n, h.ne⟩
theorem blks_perm {qb : Nat} {Q R : List (It × Nat)} (h : R.Perm Q) (x : Nat) : x ∈ blksQ qb R ↔ x ∈ blksQ qb Q := by
  simp only [blksQ, List.mem_cons]
  rw [(h.map (·.2)).mem_iff]
theorem QH.to {w w' : World} {tb qb cap : Nat} {Q R : List (It × Nat)} (h : QH w tb qb cap Q) (hq : QAt w' qb cap R) (hp : R.Perm Q) (hc : Chg (blksQ qb Q) w w') : QH w' tb qb cap R :=
  ⟨by rw [hp.length_eq]; exact hc.cell h.cell h.ne, hq, fun hx => h.ne ((blks_perm hp tb).1 hx)⟩
def itsQ (Q : List (It × Nat)) : List It := Q.map (·.1)
theorem itsQ_get {Q : List (It × Nat)} {i : Nat} (h : i < Q.length) : (itsQ Q).getD i itZ = Q[i].1 := by simp [itsQ, h]
theorem itsQ_swap {Q : List (It × Nat)} {i j : Nat} (hi : i < Q.length) (hj : j < Q.length) : itsQ (swapI (itZ, 0) Q i j) = swapI itZ (itsQ Q) i j := swapI_map (fun x : It × Nat => x.1) (itZ, 0) Q i j hi hj

/-- What stands at a round's head of 'up'. -/
def UpR (w : World) (tb qb cap n : Nat) (Q : List (It × Nat)) (v : Value) (wr : World) : Prop :=
  ∃ (j : Nat) (R : List (It × Nat)), j < n ∧ v = .int .i64 j ∧ QH wr tb qb cap R ∧ R.Perm Q ∧ UpN (itsQ R) n j ∧ KeepN (itZ, 0) Q R n ∧ Chg (blksQ qb Q) w wr
/-- What is left behind: a heap of the same things. -/
def HeapPost (w : World) (tb qb cap n : Nat) (Q : List (It × Nat)) (w' : World) : Prop :=
  ∃ R, QH w' tb qb cap R ∧ R.Perm Q ∧ HeapN (itsQ R) n ∧ KeepN (itZ, 0) Q R n ∧ Chg (blksQ qb Q) w w'

set_option maxRecDepth 100000 in
set_option maxHeartbeats 2000000 in
theorem up_any (tb qb cap n j : Nat) (Q : List (It × Nat)) (w : World) (h : QH w tb qb cap Q) (hn : n ≤ Q.length) (hj : j < n) (hU : UpN (itsQ Q) n j) (hlen : Q.length ≤ 1000000000) :
    Calls Try.prog 33 #[qI tb, .int .i64 j] w fun e w' => e = .returned (.tuple #[]) ∧ HeapPost w tb qb cap n Q w' := by
  unfold qI
  have HN := Lib.hid hn
  go_enter Try.func33, Try.ntmps33
  go_wp2_with fail
  go_loopw [1] (UpR w tb qb cap n Q) (fun v _ => (intOf v).toNat)
  case atStart => exact ⟨j, Q, hj, rfl, h, List.Perm.refl _, hU, KeepN.refl _ _ _, Chg.refl _ _⟩
  case round =>
    clear h hU hj
    obtain ⟨j, R, hj, rfl, hq, hp, hU, hK, hC⟩ := hrel
    have hRl : R.length = Q.length := hp.length_eq
    have hR1 : n ≤ R.length := by omega
    have hR2 : R.length ≤ 1000000000 := by omega
    have HU := Lib.hid hU
    have HP := Lib.hid hp
    have HK := Lib.hid hK
    clear hRl hU hp hK
    by_cases h0 : j = 0
    · subst h0
      have e1 : ((0 : Int) - 1).tdiv 2 = 0 := by decide
      have e2 : ((-1 : Int)).tdiv 2 = 0 := by decide
      go_wp2
      go_end0
      exact ⟨rfl, R, hq, HP.out, up_end HU.out (.inl rfl), HK.out, hC⟩
    · obtain ⟨p, hpd⟩ : ∃ p, p = (j - 1) / 2 := ⟨_, rfl⟩
      have hpj : p < j := by omega
      have HPD := Lib.hid hpd
      have j1 : (1 : Int) ≤ (j : Int) := by omega
      have e1 : ((j : Int) - 1) / 2 = (p : Int) := by omega
      have e2 : ((p : Int) == (j : Int)) = false := by simp; omega
      have e3 : (p == j) = false := by simp; omega
      have hjR : j < R.length := by omega
      have hpR : p < R.length := by omega
      have m1 := m_less _ _ _ hq.cell
      clear hpd h0
      by_cases hlt : ltI R[j].1 R[p].1 = true
      · have HB : Hid (true = ltI R[j].1 R[p].1) := Lib.hid hlt.symm
        clear hlt
        go_wp2_with fail
        refine (less_any qb cap j p R _ hq.q hjR hpR true HB).mono ?_
        rintro e w1 ⟨rfl, n1, rfl⟩
        have hq1 := hq.drewN n1
        have m2 := m_swap _ _ _ hq1.cell
        clear m1
        go_wp2_with fail
        refine (swap_any qb cap p j R _ hq1.q hpR hjR (by omega)).mono ?_
        rintro e w2 ⟨rfl, hq2, hc2⟩
        have hperm := swapI_perm (itZ, 0) R p j hpR hjR
        have hq3 := hq1.to hq2 hperm hc2
        have hC3 : Chg (blksQ qb Q) w w2 := (hC.drewN n1).trans (hc2.mono fun x hx => (blks_perm HP.out x).1 hx)
        have hup : UpN (itsQ (swapI (itZ, 0) R p j)) n p := by
          rw [itsQ_swap hpR hjR, HPD.out]
          have hlI : n ≤ (itsQ R).length := by simpa [itsQ] using hR1
          refine up_step HU.out hlI hj (by omega) ?_
          rw [← HPD.out, itsQ_get hjR, itsQ_get hpR]
          exact HB.out.symm
        have hKK : KeepN (itZ, 0) Q (swapI (itZ, 0) R p j) n := HK.out.swap (by omega) hj hpR hjR
        have HUP := Lib.hid hup
        have HKK := Lib.hid hKK
        clear m2 hq hq1 hq2 hc2 hC hup hKK e1 e2 e3
        go_wp2
        go_roundw
        case rel => exact ⟨p, swapI (itZ, 0) R p j, by omega, rfl, hq3, hperm.trans HP.out, HUP.out, HKK.out, hC3⟩
        case measure => simp [intOf] <;> omega
      · have hlt' : ltI R[j].1 R[p].1 = false := by simpa using hlt
        have HB : Hid (false = ltI R[j].1 R[p].1) := Lib.hid hlt'.symm
        clear hlt hlt'
        go_wp2_with fail
        refine (less_any qb cap j p R _ hq.q hjR hpR false HB).mono ?_
        rintro e w1 ⟨rfl, n1, rfl⟩
        go_wp2
        go_end0
        refine ⟨rfl, R, hq.drewN n1, HP.out, up_end HU.out (.inr ?_), HK.out, hC.drewN n1⟩
        rw [← HPD.out, itsQ_get hjR, itsQ_get hpR]
        exact HB.out.symm

end Go.Proofs.Ytlkhaookdmgbnaa
