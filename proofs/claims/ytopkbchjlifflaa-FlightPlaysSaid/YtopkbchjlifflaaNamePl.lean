/- Names, as plain data: what may be one; folded. -/
import Derived.WalkKit
namespace Go.Proofs.Ytopkbchjlifflaa

/-- Behind 'at' the bytes go on as labels, and end with the root's at the last one. -/
def mayF (s : List UInt8) : Nat → Nat → Bool
  | 0, _ => false
  | f + 1, i => if h : i < s.length then (if s[i].toNat = 0 then decide (i + 1 = s.length) else if 63 < s[i].toNat then false else mayF s f (i + 1 + s[i].toNat)) else false
def mayB (s : List UInt8) : Bool := decide (0 < s.length ∧ s.length ≤ 255) && mayF s (s.length + 1) 0
def lowC (c : UInt8) : UInt8 := if 65 ≤ c.toNat ∧ c.toNat ≤ 90 then c + 32 else c
def lowL (s : List UInt8) : List UInt8 := s.map lowC
def foldL (s : List UInt8) : List UInt8 := if mayB s then lowL s else []
theorem lowL_len (s : List UInt8) : (lowL s).length = s.length := by simp [lowL]
theorem mayF_more (s : List UInt8) : ∀ f i, s.length < f + i → mayF s (f + 1) i = mayF s f i
  | 0, i, h => by
    unfold mayF
    rw [dif_neg (by omega)]
  | f + 1, i, h => by
    rw [mayF]
    rw [mayF]
    by_cases hi : i < s.length
    · rw [dif_pos hi, dif_pos hi]
      by_cases h0 : s[i].toNat = 0
      · rw [if_pos h0, if_pos h0]
      · rw [if_neg h0, if_neg h0]
        by_cases h1 : 63 < s[i].toNat
        · rw [if_pos h1, if_pos h1]
        · rw [if_neg h1, if_neg h1]
          exact mayF_more s f _ (by omega)
    · rw [dif_neg hi, dif_neg hi]
theorem lowC_small {c : UInt8} (h : c.toNat ≤ 63) : lowC c = c := by
  unfold lowC
  rw [if_neg (by omega)]
theorem lowC_big {c : UInt8} (h : 63 < c.toNat) : 63 < (lowC c).toNat := by
  unfold lowC
  split
  · rename_i hc
    have : (c + 32).toNat = c.toNat + 32 := by
      rw [UInt8.toNat_add]
      have : (32 : UInt8).toNat = 32 := rfl
      rw [this]
      omega
    omega
  · exact h
theorem lowC_again (c : UInt8) : lowC (lowC c) = lowC c := by
  by_cases h : 65 ≤ c.toNat ∧ c.toNat ≤ 90
  · have e : lowC c = c + 32 := by unfold lowC; rw [if_pos h]
    have : (c + 32).toNat = c.toNat + 32 := by
      rw [UInt8.toNat_add]
      have : (32 : UInt8).toNat = 32 := rfl
      rw [this]
      omega
    rw [e]
    unfold lowC
    rw [if_neg (by omega)]
  · have e : lowC c = c := by unfold lowC; rw [if_neg h]
    rw [e, e]
theorem lowL_again (s : List UInt8) : lowL (lowL s) = lowL s := by
  unfold lowL
  rw [List.map_map]
  apply List.map_congr_left
  intro c _
  exact lowC_again c
theorem mayF_low (s : List UInt8) : ∀ f i, mayF (lowL s) f i = mayF s f i
  | 0, i => rfl
  | f + 1, i => by
    rw [mayF, mayF]
    by_cases hi : i < s.length
    · have hi' : i < (lowL s).length := by rw [lowL_len]; exact hi
      rw [dif_pos hi, dif_pos hi']
      have e : (lowL s)[i] = lowC s[i] := by simp [lowL]
      rw [e, lowL_len]
      by_cases h1 : 63 < s[i].toNat
      · have h2 := lowC_big h1
        have a1 : ¬ (lowC s[i]).toNat = 0 := by omega
        have a2 : ¬ s[i].toNat = 0 := by omega
        rw [if_neg a1, if_pos h2, if_neg a2, if_pos h1]
      · rw [lowC_small (by omega), mayF_low s f]
    · have hi' : ¬ i < (lowL s).length := by rw [lowL_len]; exact hi
      rw [dif_neg hi, dif_neg hi']
theorem mayB_low (s : List UInt8) : mayB (lowL s) = mayB s := by
  unfold mayB
  rw [lowL_len, mayF_low]
theorem mayB_fold {s : List UInt8} (h : mayB s = true) : mayB (foldL s) = true := by
  unfold foldL
  rw [if_pos h, mayB_low]
  exact h
theorem foldL_again (s : List UInt8) : foldL (foldL s) = foldL s := by
  by_cases h : mayB s = true
  · have e : foldL s = lowL s := by unfold foldL; rw [if_pos h]
    rw [e]
    unfold foldL
    rw [mayB_low, if_pos h, lowL_again]
  · have e : foldL s = [] := by unfold foldL; rw [if_neg h]
    rw [e]
    rfl
theorem mayB_len {s : List UInt8} (h : mayB s = true) : 0 < s.length ∧ s.length ≤ 255 := by
  unfold mayB at h
  rw [Bool.and_eq_true, decide_eq_true_eq] at h
  exact h.1
theorem foldL_len (s : List UInt8) : (foldL s).length ≤ 255 := by
  unfold foldL
  split
  · rename_i h; rw [lowL_len]; exact (mayB_len h).2
  · simp

end Go.Proofs.Ytopkbchjlifflaa
