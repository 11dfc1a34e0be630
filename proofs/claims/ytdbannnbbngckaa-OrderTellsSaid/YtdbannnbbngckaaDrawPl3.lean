/- The shuffle, as plain lists: each number once; by draws that are each its place the row stays; by draws that are all 0 it goes round by one. -/
import Derived.Test.YtdbannnbbngckaaDrawPl
import Derived.Test.YtdbannnbbngckaaDrawPl2
namespace Go.Proofs.Ytdbannnbbngckaa.D

theorem swapL_perm (l : List Nat) (i j : Nat) (hi : i < l.length) (hj : j < l.length) : (swapL l i j).Perm l := by
  rw [swapL_eq l i j hi hj]
  exact List.set_set_perm hi hj

theorem shufD_perm (d : Nat → Nat) : ∀ i k l, i < l.length → (shufD d i k l).Perm l
  | 0, _, _, _ => List.Perm.refl _
  | i + 1, k, l, h => by
    rw [shufD]
    have hj : d k % (i + 2) < l.length := Nat.lt_of_lt_of_le (Nat.mod_lt _ (by omega)) (by omega)
    exact (shufD_perm d i (k + 1) _ (by rw [swapL_length]; omega)).trans (swapL_perm l _ _ h hj)

theorem shufN_perm (d : Nat → Nat) (k n : Nat) (hn : 1 ≤ n) : (shufN d k n).Perm (List.range n) :=
  shufD_perm d _ _ _ (by simp; omega)
theorem shufN_nodup (d : Nat → Nat) (k n : Nat) (hn : 1 ≤ n) : (shufN d k n).Nodup := (shufN_perm d k n hn).nodup_iff.2 List.nodup_range
theorem shufN_lt (d : Nat → Nat) (k n : Nat) (hn : 1 ≤ n) (x : Nat) (hx : x ∈ shufN d k n) : x < n := by
  have := (shufN_perm d k n hn).mem_iff.1 hx
  simpa using this

theorem swapL_self (l : List Nat) (i : Nat) (h : i < l.length) : swapL l i i = l := by
  rw [swapL_eq l i i h h]; simp

theorem shufD_stays (d : Nat → Nat) : ∀ i k l, i < l.length → (∀ j, j < i → d (k + j) = i - j) → shufD d i k l = l
  | 0, _, _, _, _ => rfl
  | i + 1, k, l, h, hd => by
    rw [shufD]
    have e : d k % (i + 2) = i + 1 := by
      have := hd 0 (by omega)
      simp at this
      rw [this]; exact Nat.mod_eq_of_lt (by omega)
    rw [e, swapL_self l _ h]
    exact shufD_stays d i (k + 1) l (by omega) fun j hj => by
      have := hd (j + 1) (by omega)
      rw [show k + 1 + j = k + (j + 1) by omega, this]; omega

/-- The places n - 1, n - 2, .., 1, of which the first k are told. -/
def placesN (n k : Nat) : List Nat := (List.range k).map fun j => n - 1 - j
theorem placesN_length (n k : Nat) : (placesN n k).length = k := by simp [placesN]
theorem placesN_succ (n k : Nat) : placesN n (k + 1) = placesN n k ++ [n - 1 - k] := by simp [placesN, List.range_succ]

theorem shufN_stays (s n : Nat) (hn : 1 ≤ n) : shufN (drawN s (placesN n (n - 1))) 0 n = List.range n := by
  unfold shufN
  refine shufD_stays _ _ _ _ (by simp; omega) fun j hj => ?_
  unfold drawN
  rw [dif_pos (by rw [placesN_length]; omega)]
  simp [placesN]

/-- Behind the draws for the places from n - 1 down to i, all 0. -/
def roundN (n i : Nat) : List Nat := (List.range n).map fun j => if j = 0 then i % n else if j < i then j else (j + 1) % n
theorem roundN_length (n i : Nat) : (roundN n i).length = n := by simp [roundN]
theorem roundN_get (n i j : Nat) (h : j < n) : (roundN n i)[j]'(by rw [roundN_length]; exact h) = if j = 0 then i % n else if j < i then j else (j + 1) % n := by
  simp [roundN]

theorem roundN_step (n i : Nat) (h0 : 1 ≤ i) (hi : i < n) : swapL (roundN n (i + 1)) i 0 = roundN n i := by
  apply List.ext_getElem
  · simp [swapL_length, roundN_length]
  · intro j h1 h2
    rw [roundN_length] at h2
    rw [roundN_get n i j h2]
    have hl : (roundN n (i + 1)).length = n := roundN_length _ _
    have e := swapL_eq (roundN n (i + 1)) i 0 (by omega) (by omega)
    have g0 := roundN_get n (i + 1) 0 (by omega)
    have gi := roundN_get n (i + 1) i hi
    have gj := roundN_get n (i + 1) j h2
    simp only [e]
    rw [List.getElem_set, List.getElem_set]
    generalize (roundN n (i + 1))[0]'(by omega) = x0 at *
    generalize (roundN n (i + 1))[i]'(by omega) = xi at *
    generalize (roundN n (i + 1))[j]'(by omega) = xj at *
    subst g0 gi gj
    by_cases hj0 : j = 0
    · subst hj0
      simp
      rw [if_neg (by omega)]
      exact (Nat.mod_eq_of_lt hi).symm
    · rw [if_neg (by omega), if_neg hj0, if_neg hj0]
      by_cases hji : j = i
      · subst hji
        simp
      · rw [if_neg (by omega)]
        by_cases hlt : j < i
        · rw [if_pos (by omega), if_pos hlt]
        · rw [if_neg (by omega), if_neg hlt]

theorem shufD_round (d : Nat → Nat) (n : Nat) : ∀ i k, i < n → (∀ j, j < i → d (k + j) = 0) → shufD d i k (roundN n (i + 1)) = roundN n 1
  | 0, _, _, _ => rfl
  | i + 1, k, h, hd => by
    rw [shufD]
    have e : d k % (i + 2) = 0 := by
      have := hd 0 (by omega)
      simp at this
      rw [this]; exact Nat.zero_mod _
    rw [e, roundN_step n (i + 1) (by omega) h]
    exact shufD_round d n i (k + 1) (by omega) fun j hj => by
      have := hd (j + 1) (by omega)
      rw [show k + 1 + j = k + (j + 1) by omega, this]

theorem roundN_start (n : Nat) (hn : 1 ≤ n) : roundN n n = List.range n := by
  apply List.ext_getElem
  · simp [roundN]
  · intro j h1 h2
    simp at h2
    rw [roundN_get n n j h2]
    simp
    split
    · omega
    · rfl

theorem shufN_round (s n : Nat) (hn : 1 ≤ n) : shufN (drawN s (List.replicate n 0)) 0 n = roundN n 1 := by
  unfold shufN
  rw [← roundN_start n hn]
  have := shufD_round (drawN s (List.replicate n 0)) n (n - 1) 0 (by omega) fun j hj => by
    unfold drawN
    rw [dif_pos (by simp; omega)]
    simp
  rwa [show n - 1 + 1 = n by omega] at this

theorem roundN_one (n j : Nat) (h : j < n) : (roundN n 1)[j]'(by rw [roundN_length]; exact h) = (j + 1) % n := by
  rw [roundN_get n 1 j h]
  split
  · subst_vars; rfl
  · rw [if_neg (by omega)]

end Go.Proofs.Ytdbannnbbngckaa.D
