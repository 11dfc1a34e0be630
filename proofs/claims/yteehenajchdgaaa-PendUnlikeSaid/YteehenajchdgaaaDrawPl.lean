/- The draws of a tape, as plain numbers: what a seed is mixed to, and that unlike seeds are mixed unlike. -/
import Derived.WalkKit
namespace Go.Proofs.Yteehenajchdgaaa.D

/-- What mixed returns. -/
def mixN (x : Nat) : Nat :=
  let a := (x ^^^ x / 1073741824) * 13787848793156543929 % 18446744073709551616
  let b := (a ^^^ a / 134217728) * 10723151780598845931 % 18446744073709551616
  b ^^^ b / 2147483648

theorem mixN_lt (x : Nat) : mixN x < 18446744073709551616 := by
  unfold mixN
  have hb : ((x ^^^ x / 1073741824) * 13787848793156543929 % 18446744073709551616 ^^^ (x ^^^ x / 1073741824) * 13787848793156543929 % 18446744073709551616 / 134217728) * 10723151780598845931 % 18446744073709551616 < 2 ^ 64 := Nat.mod_lt _ (by decide)
  exact Nat.xor_lt_two_pow hb (Nat.lt_of_le_of_lt (Nat.div_le_self _ _) hb)

/-- The draw number n (from 0) of a seed and of numbers. -/
def drawN (seed : Nat) (l : List Nat) (n : Nat) : Nat :=
  if h : n < l.length then l[n] else mixN ((seed + (n - l.length + 1) * 11400714819323198485) % 18446744073709551616)

theorem drawN_lt (seed : Nat) (l : List Nat) (n : Nat) (hl : ∀ x ∈ l, x < 18446744073709551616) : drawN seed l n < 18446744073709551616 := by
  unfold drawN
  split
  · exact hl _ (List.getElem_mem _)
  · exact mixN_lt _

theorem xorshift_inj (k : Nat) (hk : 0 < k) (x y : BitVec 64) (h : x ^^^ (x >>> k) = y ^^^ (y >>> k)) : x = y := by
  have key : ∀ d i, 64 - i ≤ d → x.getLsbD i = y.getLsbD i := by
    intro d
    induction d with
    | zero =>
      intro i hi
      rw [BitVec.getLsbD_of_ge x i (by omega), BitVec.getLsbD_of_ge y i (by omega)]
    | succ d ih =>
      intro i hi
      by_cases hi64 : 64 ≤ i
      · rw [BitVec.getLsbD_of_ge x i (by omega), BitVec.getLsbD_of_ge y i (by omega)]
      · have hb := congrArg (fun z => z.getLsbD i) h
        simp only [BitVec.getLsbD_xor, BitVec.getLsbD_ushiftRight] at hb
        have := ih (k + i) (by omega)
        rw [this] at hb
        revert hb
        cases x.getLsbD i <;> cases y.getLsbD i <;> cases y.getLsbD (k + i) <;> simp
  exact BitVec.eq_of_getLsbD_eq fun i _ => key 64 i (by omega)

theorem mul_inj (c d : BitVec 64) (hcd : c * d = 1) (x y : BitVec 64) (h : x * c = y * c) : x = y := by
  have := congrArg (· * d) h
  simpa [BitVec.mul_assoc, hcd] using this

theorem step_eq (b : BitVec 64) (x k c : Nat) (hb : b.toNat = x) :
    ((b ^^^ (b >>> k)) * BitVec.ofNat 64 c).toNat = (x ^^^ x / 2 ^ k) * c % 2 ^ 64 := by
  rw [BitVec.toNat_mul, BitVec.toNat_xor, BitVec.toNat_ushiftRight, hb, Nat.shiftRight_eq_div_pow, BitVec.toNat_ofNat]
  exact Nat.mul_mod_mod _ _ _

def mixB (x : BitVec 64) : BitVec 64 :=
  let a := (x ^^^ (x >>> 30)) * BitVec.ofNat 64 13787848793156543929
  let b := (a ^^^ (a >>> 27)) * BitVec.ofNat 64 10723151780598845931
  b ^^^ (b >>> 31)

theorem mixB_inj (x y : BitVec 64) (h : mixB x = mixB y) : x = y := by
  unfold mixB at h
  have h1 := xorshift_inj 31 (by decide) _ _ h
  have h2 := mul_inj (BitVec.ofNat 64 10723151780598845931) (BitVec.ofNat 64 3573116690164977347) (by decide) _ _ h1
  have h3 := xorshift_inj 27 (by decide) _ _ h2
  have h4 := mul_inj (BitVec.ofNat 64 13787848793156543929) (BitVec.ofNat 64 10871156337175269513) (by decide) _ _ h3
  exact xorshift_inj 30 (by decide) _ _ h4

theorem mixN_eq (x : Nat) (hx : x < 18446744073709551616) : mixN x = (mixB (BitVec.ofNat 64 x)).toNat := by
  have h0 : (BitVec.ofNat 64 x).toNat = x := by rw [BitVec.toNat_ofNat]; exact Nat.mod_eq_of_lt hx
  unfold mixN mixB
  dsimp only
  rw [BitVec.toNat_xor, BitVec.toNat_ushiftRight, step_eq _ _ _ _ (step_eq _ _ _ _ h0), Nat.shiftRight_eq_div_pow]

theorem mixN_inj (x y : Nat) (hx : x < 18446744073709551616) (hy : y < 18446744073709551616) (h : mixN x = mixN y) : x = y := by
  rw [mixN_eq x hx, mixN_eq y hy] at h
  have := mixB_inj _ _ (BitVec.eq_of_toNat_eq h)
  have := congrArg BitVec.toNat this
  rw [BitVec.toNat_ofNat, BitVec.toNat_ofNat, Nat.mod_eq_of_lt hx, Nat.mod_eq_of_lt hy] at this
  exact this

theorem drawN_nil_inj (a b n : Nat) (ha : a < 18446744073709551616) (hb : b < 18446744073709551616) : drawN a [] n = drawN b [] n ↔ a = b := by
  constructor
  · intro h
    unfold drawN at h
    simp only [List.length_nil, Nat.not_lt_zero, dif_neg, not_false_eq_true] at h
    have := mixN_inj _ _ (Nat.mod_lt _ (by decide)) (Nat.mod_lt _ (by decide)) h
    omega
  · rintro rfl; rfl

end Go.Proofs.Yteehenajchdgaaa.D
