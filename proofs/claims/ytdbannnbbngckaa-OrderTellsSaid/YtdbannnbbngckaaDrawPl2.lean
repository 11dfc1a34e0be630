/- The shuffle, as plain lists: what it is, and that its row fills from the left. -/
import Derived.WalkKit
namespace Go.Proofs.Ytdbannnbbngckaa.D

/-- The elements at i and j change places. -/
def swapL (l : List Nat) (i j : Nat) : List Nat := (l.set i (l.getD j 0)).set j (l.getD i 0)
theorem swapL_length (l : List Nat) (i j : Nat) : (swapL l i j).length = l.length := by simp [swapL]

theorem swapL_eq (l : List Nat) (i j : Nat) (hi : i < l.length) (hj : j < l.length) : swapL l i j = (l.set i l[j]).set j l[i] := by
  simp [swapL, hi, hj]

/-- From place i down to 1, by the draws d k, d (k + 1), .. -/
def shufD (d : Nat → Nat) : Nat → Nat → List Nat → List Nat
  | 0, _, l => l
  | i + 1, k, l => shufD d i (k + 1) (swapL l (i + 1) (d k % (i + 2)))
theorem shufD_length (d : Nat → Nat) : ∀ i k l, (shufD d i k l).length = l.length
  | 0, _, _ => rfl
  | i + 1, k, l => by rw [shufD, shufD_length d i, swapL_length]

theorem shufD_pos (d : Nat → Nat) (i k : Nat) (l : List Nat) (hi : 0 < i) : shufD d i k l = shufD d (i - 1) (k + 1) (swapL l i (d k % (i + 1))) := by
  cases i with
  | zero => omega
  | succ i => rfl

/-- What Shuffle (n) returns, by the draws from k on. -/
def shufN (d : Nat → Nat) (k n : Nat) : List Nat := shufD d (n - 1) k (List.range n)
theorem shufN_length (d : Nat → Nat) (k n : Nat) : (shufN d k n).length = n := by simp [shufN, shufD_length]

/-- The first k places are filled. -/
def fillN (n k : Nat) : List Nat := List.range k ++ List.replicate (n - k) 0
theorem fillN_zero (n : Nat) : fillN n 0 = List.replicate n 0 := by simp [fillN]
theorem fillN_all (n : Nat) : fillN n n = List.range n := by simp [fillN]
theorem fillN_length (n k : Nat) (h : k ≤ n) : (fillN n k).length = n := by simp [fillN]; omega
theorem fillN_succ (n k : Nat) (h : k < n) : (fillN n k).set k k = fillN n (k + 1) := by
  unfold fillN
  rw [List.range_succ, List.append_assoc, List.set_append_right _ _ (by simp)]
  congr 1
  simp only [List.length_range, Nat.sub_self]
  obtain ⟨m, hm⟩ : ∃ m, n - k = m + 1 := ⟨n - k - 1, by omega⟩
  rw [hm, List.replicate_succ, show n - (k + 1) = m by omega]
  rfl

end Go.Proofs.Ytdbannnbbngckaa.D
