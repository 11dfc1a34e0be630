/- The walk of made: a list behind acts. -/
import Derived.Test.YtjnipcalncpimaaLruG
namespace Go.Proofs.Ytjnipcalncpimaa
open Go.RowKit

/-- How many slots made makes. -/
def slotsOf (n : Int) : Nat := 1 + (n % 18446744073709551616).toNat % 256
theorem slotsOf_pos (n : Int) : 1 ≤ slotsOf n ∧ slotsOf n ≤ 256 := by unfold slotsOf; omega

theorem rowOf_take_succ (k : Nat) (acts : List (Nat × Int)) (i : Nat) (h : i < acts.length) : rowOf k (acts.take (i + 1)) = doL k (rowOf k (acts.take i)) acts[i] := by
  rw [List.take_succ_eq_append_getElem h]
  unfold rowOf
  rw [List.foldl_append]
  rfl

def MadeRel (k b : Nat) (acts : List (Nat × Int)) (w : World) (i : Value) (wr : World) : Prop :=
  ∃ j : Nat, j ≤ acts.length ∧ i = .int .i64 j ∧ LruAt wr b k (rowOf k (acts.take j)) ∧ Chg [] w wr

set_option maxHeartbeats 1000000 in
theorem made_any (n : Int) (a : Option Addr) (cap : Nat) (acts : List (Nat × Int)) (w : World) (h : IsActs w a acts) :
    Calls Try.prog 10 #[.int .i64 n, .slice a acts.length cap] w fun e w' => e = .returned (.tuple #[.pointer (some ⟨w.heap.size, 0, none⟩), .int .i64 (slotsOf n)]) ∧ LruAt w' w.heap.size (slotsOf n) (rowOf (slotsOf n) acts) ∧ Chg [] w w' := by
  obtain ⟨hmax, hacts⟩ := h
  unfold maxLen at hmax
  have HACTS := Lib.hid hacts
  clear hacts
  obtain ⟨n1, hn1⟩ : ∃ n1 : Nat, IntKind.u64.wrap n = n1 := ⟨(IntKind.u64.wrap n).toNat, by rw [IntKind.wrap_u64]; omega⟩
  obtain ⟨k, hk⟩ : ∃ k, k = slotsOf n := ⟨_, rfl⟩
  have hkb := slotsOf_pos n
  rw [← hk] at hkb
  have hne : (1 : Int) + ((n1 : Int) % 256) = (k : Int) := by
    rw [hk]; unfold slotsOf; rw [IntKind.wrap_u64] at hn1; omega
  rw [← hk]
  clear hk
  go_enter Try.func10, Try.ntmps10
  go_wp2_with fail
  refine (new_in k _ hkb.2).mono ?_
  rintro e w1 ⟨rfl, h1, hc1⟩
  obtain ⟨b, hb⟩ : ∃ b, b = w.heap.size := ⟨_, rfl⟩
  rw [← hb] at h1 ⊢
  have hwb : w.heap.size ≤ b := by omega
  have HB := Lib.hid hb
  clear hb
  go_wp2_with fail
  go_loopw [9] (MadeRel k b acts w) (fun i _ => acts.length - (intOf i).toNat)
  case atStart => exact ⟨0, Nat.zero_le _, rfl, h1, hc1⟩
  case round =>
    clear h1 hc1
    obtain ⟨j, hj, rfl, hl, hC⟩ := hrel
    by_cases hlt : j < acts.length
    · obtain ⟨r, o, ha, hr, hcW, hcN, hWb, hNb⟩ := HACTS.out j hlt
      have hsucc := rowOf_take_succ k acts j hlt
      obtain ⟨W, hW⟩ : ∃ W, W = acts[j].1 := ⟨_, rfl⟩
      obtain ⟨N, hN⟩ : ∃ N, N = acts[j].2 := ⟨_, rfl⟩
      rw [← hW] at hcW hWb
      rw [← hN] at hcN hNb
      have hdo : doL k (rowOf k (acts.take j)) acts[j] = doL k (rowOf k (acts.take j)) (W, N) := by rw [hW, hN]
      rw [hdo] at hsucc
      have HS := Lib.hid hsucc
      clear hW hN hdo hsucc
      subst ha
      have d1 : wr.cell? ⟨r, o + j * 2, none⟩ = some (.int .u8 W) := hC.cell hcW (by simp)
      have d2 : wr.cell? ⟨r, o + j * 2 + 1, none⟩ = some (.int .i64 N) := hC.cell hcN (by simp)
      clear hcW hcN
      by_cases hW0 : W = 0
      · subst hW0
        go_wp2_with fail
        refine (use_at b k N _ _ hl).mono ?_
        rintro e w2 ⟨rfl, h2, hc2⟩
        have hC2 : Chg [] w w2 := hC.trans_new hc2 (by simp; omega)
        go_wp2
        go_roundw
        case rel => exact ⟨j + 1, by omega, by go_num, by rw [HS.out]; exact h2, hC2⟩
        case measure => simp [intOf]; omega
      have e0 : ((W : Int) == 0) = false := by simp; omega
      by_cases hW1 : W = 1
      · subst hW1
        go_wp2_with fail
        refine (drop_at b k N _ _ hl).mono ?_
        rintro e w2 ⟨rfl, h2, hc2⟩
        have hC2 : Chg [] w w2 := hC.trans_new hc2 (by simp; omega)
        go_wp2
        go_roundw
        case rel => exact ⟨j + 1, by omega, by go_num, by rw [HS.out]; exact h2, hC2⟩
        case measure => simp [intOf]; omega
      have e1 : ((W : Int) == 1) = false := by simp; omega
      go_wp2
      go_roundw
      case rel => exact ⟨j + 1, by omega, by go_num, by rw [HS.out]; unfold doL; rw [if_neg hW0, if_neg hW1]; exact hl, hC⟩
      case measure => simp [intOf]; omega
    · obtain rfl : j = acts.length := by omega
      rw [List.take_of_length_le (Nat.le_refl _)] at hl
      go_wp2
      go_ret2
      exact ⟨by rw [← HB.out]; rfl, by rw [← HB.out]; exact hl, hC⟩

end Go.Proofs.Ytjnipcalncpimaa
