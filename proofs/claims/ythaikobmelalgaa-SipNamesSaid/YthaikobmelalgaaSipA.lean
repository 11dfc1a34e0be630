/- The walks of package sip and of its document: rotation. -/
import Derived.Test.YthaikobmelalgaaChecked
import Derived.Test.YthaikobmelalgaaMem
import Derived.Test.YthaikobmelalgaaTools
import Derived.Test.YthaikobmelalgaaSipPl
import Derived.WalkLawsBesides
import Derived.Outline
import Derived.Deep.QuietTactic
import Derived.BigQuiet
import Derived.Laws.Bits64
import Derived.Laws.Bits64b
namespace Go.Proofs.Ythaikobmelalgaa
open Go.RowKit

theorem ret_int {k : IntKind} {a b : Int} (h : a = b) : Ending.returned (.int k a) = .returned (.int k b) := by rw [h]

theorem rot_eq (x n m : Nat) (p q : Int) (hp : p = ((2 ^ n : Nat) : Int)) (hq : q = ((2 ^ m : Nat) : Int)) (hm : m = 64 - n) (hx : x < 18446744073709551616) :
    bits .or .u64 (IntKind.u64.wrap ((x : Int) * p)) ((x : Int) / q) = ((rotN x n : Nat) : Int) := by
  subst hp; subst hq; subst hm
  rw [IntKind.wrap_u64, show ((x : Int) * ((2 ^ n : Nat) : Int) % 18446744073709551616) = ((x * 2 ^ n % 18446744073709551616 : Nat) : Int) by rw [← Int.natCast_mul]; omega,
    show ((x : Int) / ((2 ^ (64 - n) : Nat) : Int)) = ((x / 2 ^ (64 - n) : Nat) : Int) by rw [← Int.natCast_ediv],
    bits_or_u64_nat _ _ (Nat.mod_lt _ (by decide)) (Nat.lt_of_le_of_lt (Nat.div_le_self _ _) hx)]
  rfl

theorem rot13 (x : Nat) (hx : x < 18446744073709551616) (w : World) :
    Calls Try.prog 24 #[.int .u64 x, .int .i64 13] w fun e w' => e = .returned (.int .u64 (rotN x 13 : Nat)) ∧ w = w' := by
  have hb : bits .and .u64 13 63 = 13 := by decide
  go_enter Try.func24, Try.ntmps24
  go_wp2
  go_ret
  exact ⟨ret_int (rot_eq x 13 51 _ _ (by decide) (by decide) rfl hx), rfl⟩

theorem turn13 (x : Nat) (hx : x < 18446744073709551616) (w : World) :
    Calls Try.prog 22 #[.int .u64 x, .int .u64 13] w fun e w' => e = .returned (.int .u64 (rotN x 13 : Nat)) ∧ w = w' := by
  go_enter Try.func22, Try.ntmps22
  go_wp2
  go_ret
  exact ⟨ret_int (rot_eq x 13 51 _ _ (by decide) (by decide) rfl hx), rfl⟩

theorem rot16 (x : Nat) (hx : x < 18446744073709551616) (w : World) :
    Calls Try.prog 24 #[.int .u64 x, .int .i64 16] w fun e w' => e = .returned (.int .u64 (rotN x 16 : Nat)) ∧ w = w' := by
  have hb : bits .and .u64 16 63 = 16 := by decide
  go_enter Try.func24, Try.ntmps24
  go_wp2
  go_ret
  exact ⟨ret_int (rot_eq x 16 48 _ _ (by decide) (by decide) rfl hx), rfl⟩

theorem turn16 (x : Nat) (hx : x < 18446744073709551616) (w : World) :
    Calls Try.prog 22 #[.int .u64 x, .int .u64 16] w fun e w' => e = .returned (.int .u64 (rotN x 16 : Nat)) ∧ w = w' := by
  go_enter Try.func22, Try.ntmps22
  go_wp2
  go_ret
  exact ⟨ret_int (rot_eq x 16 48 _ _ (by decide) (by decide) rfl hx), rfl⟩

theorem rot17 (x : Nat) (hx : x < 18446744073709551616) (w : World) :
    Calls Try.prog 24 #[.int .u64 x, .int .i64 17] w fun e w' => e = .returned (.int .u64 (rotN x 17 : Nat)) ∧ w = w' := by
  have hb : bits .and .u64 17 63 = 17 := by decide
  go_enter Try.func24, Try.ntmps24
  go_wp2
  go_ret
  exact ⟨ret_int (rot_eq x 17 47 _ _ (by decide) (by decide) rfl hx), rfl⟩

theorem turn17 (x : Nat) (hx : x < 18446744073709551616) (w : World) :
    Calls Try.prog 22 #[.int .u64 x, .int .u64 17] w fun e w' => e = .returned (.int .u64 (rotN x 17 : Nat)) ∧ w = w' := by
  go_enter Try.func22, Try.ntmps22
  go_wp2
  go_ret
  exact ⟨ret_int (rot_eq x 17 47 _ _ (by decide) (by decide) rfl hx), rfl⟩

theorem rot21 (x : Nat) (hx : x < 18446744073709551616) (w : World) :
    Calls Try.prog 24 #[.int .u64 x, .int .i64 21] w fun e w' => e = .returned (.int .u64 (rotN x 21 : Nat)) ∧ w = w' := by
  have hb : bits .and .u64 21 63 = 21 := by decide
  go_enter Try.func24, Try.ntmps24
  go_wp2
  go_ret
  exact ⟨ret_int (rot_eq x 21 43 _ _ (by decide) (by decide) rfl hx), rfl⟩

theorem turn21 (x : Nat) (hx : x < 18446744073709551616) (w : World) :
    Calls Try.prog 22 #[.int .u64 x, .int .u64 21] w fun e w' => e = .returned (.int .u64 (rotN x 21 : Nat)) ∧ w = w' := by
  go_enter Try.func22, Try.ntmps22
  go_wp2
  go_ret
  exact ⟨ret_int (rot_eq x 21 43 _ _ (by decide) (by decide) rfl hx), rfl⟩

theorem rot32 (x : Nat) (hx : x < 18446744073709551616) (w : World) :
    Calls Try.prog 24 #[.int .u64 x, .int .i64 32] w fun e w' => e = .returned (.int .u64 (rotN x 32 : Nat)) ∧ w = w' := by
  have hb : bits .and .u64 32 63 = 32 := by decide
  go_enter Try.func24, Try.ntmps24
  go_wp2
  go_ret
  exact ⟨ret_int (rot_eq x 32 32 _ _ (by decide) (by decide) rfl hx), rfl⟩

theorem turn32 (x : Nat) (hx : x < 18446744073709551616) (w : World) :
    Calls Try.prog 22 #[.int .u64 x, .int .u64 32] w fun e w' => e = .returned (.int .u64 (rotN x 32 : Nat)) ∧ w = w' := by
  go_enter Try.func22, Try.ntmps22
  go_wp2
  go_ret
  exact ⟨ret_int (rot_eq x 32 32 _ _ (by decide) (by decide) rfl hx), rfl⟩

end Go.Proofs.Ythaikobmelalgaa
