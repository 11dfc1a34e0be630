/- A table behind acts, and its tape (made). -/
import Derived.Test.YteehenajchdgaaaPendF
namespace Go.Proofs.Yteehenajchdgaaa
open Go.RowKit Go.Maps

/-- How many upstreams a number stands for. -/
def upsN (x : Int) : Nat := (x % 18446744073709551616).toNat % 9 + 1
theorem upsN_1 (x : Int) : 1 ≤ upsN x := by unfold upsN; omega
theorem upsN_9 (x : Int) : upsN x ≤ 9 := by unfold upsN; omega

theorem ups_eq (x : Int) : wrap64 (1 + wrap64 ((IntKind.u64.wrap x).tmod 9)) = (upsN x : Int) := by
  have e : IntKind.u64.wrap x = x % 18446744073709551616 := by rw [IntKind.wrap_u64]
  have h0 : 0 ≤ x % 18446744073709551616 := Int.emod_nonneg _ (by omega)
  rw [e, Int.tmod_eq_emod_of_nonneg h0]
  unfold upsN
  have h1 : wrap64 (x % 18446744073709551616 % 9) = x % 18446744073709551616 % 9 := IntWalk.wrap64_in _ (by omega)
  rw [h1, IntWalk.wrap64_in _ (by omega)]
  omega

def MadeR (tb : Nat) (ms : List Nat) (n b seed : Nat) (l : List Nat) (acts : List ActT) (w : World) (i : Value) (wr : World) : Prop :=
  ∃ j : Nat, j ≤ acts.length ∧ i = .int .i64 (j : Nat) ∧ TT wr tb ms n b seed l (runP n seed l ⟨[], 0⟩ (acts.take j)) ∧ Chg [] w wr
/-- What 'made' gives. -/
structure Made (w w' : World) (tb : Nat) (ms : List Nat) (n b seed : Nat) (l : List Nat) (st : PS) : Prop where
  tt : TT w' tb ms n b seed l st
  lot : w.heap.size ≤ tb
  lom : ∀ m ∈ ms, w.heap.size ≤ m
  lob : w.heap.size ≤ b
  chg : Chg [] w w'
set_option maxHeartbeats 1000000 in
theorem made_any (x : Int) (seed : Nat) (fv : Value) (l : List Nat) (a : Option Addr) (cap : Nat) (acts : List ActT) (n : Nat) (st : PS) (w : World) (hx : -9223372036854775808 ≤ x ∧ x ≤ 9223372036854775807) (hl : l.length ≤ 1000000) (hb : ∀ y ∈ l, y < 18446744073709551616) (hv : D.Reads .u64 w fv l) (hA : IsActs w a acts) (hal : acts.length ≤ 1000)
    (hn : Hid (n = upsN x)) (hst : Hid (st = runP n seed l ⟨[], 0⟩ acts)) :
    Calls Try.prog 10 #[.int .i64 x, .int .u64 (seed : Nat), fv, .slice a acts.length cap] w fun e w' =>
      ∃ tb ms b, e = .returned (.tuple #[.pointer (some ⟨tb, 0, none⟩), .pointer (some ⟨b, 0, none⟩), .int .i64 (n : Nat)]) ∧ Made w w' tb ms n b seed l st := by
  obtain ⟨fa, fc, rfl⟩ : ∃ fa fc, fv = .slice fa l.length fc := by obtain ⟨a, c, rfl, _⟩ := hv; exact ⟨a, c, rfl⟩
  have HV := Lib.hid hv
  have HB := Lib.hid hb
  have HA := Lib.hid hA.2
  have h1 : 1 ≤ n := by rw [hn.out]; exact upsN_1 x
  have h9 : n ≤ 9 := by rw [hn.out]; exact upsN_9 x
  clear hv hA hb
  go_enter Try.func10, Try.ntmps10
  go_wp2_with fail
  rw [ups_eq, ← hn.out]
  refine (new_in n w h1 h9).mono ?_
  rintro e w1 ⟨tb, ms, rfl, hP, htb, hms, hc1⟩
  go_wp2_with fail
  refine (D.new_any seed (.slice fa l.length fc) l w1 hl HB.out (HV.out.chg (S := []) hc1 (by simp))).mono ?_
  rintro e w2 ⟨b, rfl, hbl, hT, hc2⟩
  have hTT : TT w2 tb ms n b seed l ⟨[], 0⟩ := ⟨hP.same hc2, hT⟩
  have hC2 := hc1.trans hc2
  have hbw : w.heap.size ≤ b := Nat.le_trans hc1.size hbl
  clear hP hT hc1 hc2 hbl HV HB
  go_wp2_with fail
  go_loopw [14] (MadeR tb ms n b seed l acts w) (fun i _ => acts.length - (intOf i).toNat)
  case atStart => exact ⟨0, Nat.zero_le _, rfl, hTT, hC2⟩
  case round =>
    clear hTT hC2
    obtain ⟨j, hj, rfl, hT, hC⟩ := hrel
    by_cases hlt : j < acts.length
    · obtain ⟨g, o, ha, hg, d0, d1, d2, hok⟩ := HA.out j hlt
      obtain ⟨A, hA⟩ : ∃ A, A = acts[j] := ⟨_, rfl⟩
      rw [← hA] at d0 d1 d2 hok
      have htk : acts.take (j + 1) = acts.take j ++ [A] := by rw [List.take_succ_eq_append_getElem hlt, ← hA]
      have hlen := runP_len n seed l ⟨[], 0⟩ (acts.take j)
      rw [List.length_take, Nat.min_eq_left hj] at hlen
      simp only [List.length_nil, Nat.zero_add] at hlen
      obtain ⟨st0, hst0⟩ : ∃ st0, st0 = runP n seed l ⟨[], 0⟩ (acts.take j) := ⟨_, rfl⟩
      rw [← hst0] at hT hlen
      have hnew : runP n seed l ⟨[], 0⟩ (acts.take (j + 1)) = doP n seed l st0 A := by rw [htk, runP_snoc, ← hst0]
      have HNEW := Lib.hid hnew
      clear hA htk hnew hst0 hok
      subst ha
      have e0 : wr.cell? ⟨g, o + j * 3, none⟩ = some (.int .u8 (A.k : Nat)) := hC.cell d0 (by simp)
      have e1 : wr.cell? ⟨g, o + j * 3 + 1, none⟩ = some (.int .i64 A.u) := hC.cell d1 (by simp)
      have e2 : wr.cell? ⟨g, o + j * 3 + 2, none⟩ = some (.int .i64 A.n) := hC.cell d2 (by simp)
      clear d0 d1 d2
      have hk1 : st0.k ≤ 1000000 := by omega
      have hL1 : st0.L.length ≤ 1000000 := by omega
      clear hlen
      go_wp2_with fail
      refine (does_any tb ms n b seed l st0 _ A wr hT hk1 hL1 (Lib.hid rfl)).mono ?_
      rintro e w3 ⟨rfl, hT3, hc3⟩
      go_wp2
      go_roundw
      case rel =>
        refine ⟨j + 1, by omega, by go_num, by rw [HNEW.out]; exact hT3, hC.trans_new hc3 ?_⟩
        intro y hy
        rcases List.mem_cons.1 hy with e | e
        · right; omega
        · exact .inr (hms y e)
      case measure => simp [intOf] <;> omega
    · obtain rfl : j = acts.length := by omega
      rw [List.take_of_length_le (Nat.le_refl _), ← hst.out] at hT
      go_wp2
      go_ret3
      exact ⟨tb, ms, b, rfl, hT, htb, hms, hbw, hC⟩

end Go.Proofs.Yteehenajchdgaaa
