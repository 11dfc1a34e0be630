/- Letters made great. -/
import Derived.Test.YtgdnfempcjlipaaCacW
namespace Go.Proofs.Ytgdnfempcjlipaa
open Go.RowKit

def upC (c : UInt8) : UInt8 := if 97 ≤ c.toNat ∧ c.toNat ≤ 122 then c - 32 else c
def upL (s : List UInt8) : List UInt8 := s.map upC
def upS (s : ByteArray) : ByteArray := ⟨(upL s.data.toList).toArray⟩
theorem upL_len (s : List UInt8) : (upL s).length = s.length := by simp [upL]
theorem upC_val {c : UInt8} (h : 97 ≤ c.toNat ∧ c.toNat ≤ 122) : (upC c).toNat = c.toNat - 32 := by
  unfold upC
  rw [if_pos h, UInt8.toNat_sub_of_le _ _ (by
    rw [UInt8.le_iff_toNat_le]
    have : (32 : UInt8).toNat = 32 := rfl
    omega)]
  rfl
theorem lowC_up (c : UInt8) : lowC (upC c) = lowC c := by
  by_cases h : 97 ≤ c.toNat ∧ c.toNat ≤ 122
  · have hv := upC_val h
    have e1 : lowC c = c := by unfold lowC; rw [if_neg (by omega)]
    rw [e1]
    unfold lowC
    rw [if_pos (by omega)]
    unfold upC
    rw [if_pos h]
    exact UInt8.sub_add_cancel c 32
  · unfold upC
    rw [if_neg h]
theorem lowL_up (s : List UInt8) : lowL (upL s) = lowL s := by
  unfold lowL upL
  rw [List.map_map]
  apply List.map_congr_left
  intro c _
  exact lowC_up c
theorem mayB_up (s : List UInt8) : mayB (upL s) = mayB s := by rw [← mayB_low, lowL_up, mayB_low]
theorem foldL_up (s : List UInt8) : foldL (upL s) = foldL s := by unfold foldL; rw [mayB_up, lowL_up]
theorem upS_list (s : ByteArray) : (upS s).data.toList = upL s.data.toList := by simp [upS]
theorem foldS_up (s : ByteArray) : foldS (upS s) = foldS s := by unfold foldS; rw [upS_list, foldL_up]
theorem mayQ_up (s : ByteArray) (t c t' c' : Nat) : mayQ ⟨upS s, t, c⟩ = mayQ ⟨s, t', c'⟩ := by unfold mayQ; simp only; rw [upS_list, mayB_up]
theorem upS_size (s : ByteArray) : (upS s).size = s.size := by
  show (upL s.data.toList).toArray.size = s.size
  rw [List.size_toArray, upL_len, size_list]
/-- The block B holds the bytes of l, of which the first j are upper. -/
def UpAt (l : List UInt8) (B j : Nat) (wr : World) : Prop :=
  ∃ C n, wr.heap[B]? = some (.cells C 5 (n, n + 1)) ∧ C.size = n ∧ l.length ≤ n ∧ ∀ i (h : i < l.length), C[i]? = some (.int .u8 (((if i < j then upC l[i] else l[i]).toNat : Nat) : Int))
theorem UpAt.cell {l : List UInt8} {B j : Nat} {wr : World} (h : UpAt l B j wr) {i : Nat} (hi : i < l.length) : wr.cell? ⟨B, i, none⟩ = some (.int .u8 (((if i < j then upC l[i] else l[i]).toNat : Nat) : Int)) := by
  obtain ⟨C, n, h1, _, _, h4⟩ := h
  rw [cell_of h1]
  exact h4 i hi
theorem UpAt.free {l : List UInt8} {B j : Nat} {wr : World} (h : UpAt l B j wr) {i : Nat} (hi : i < l.length) : wr.frozen? ⟨B, i, none⟩ = false := by
  obtain ⟨C, n, h1, _, h3, _⟩ := h
  simp [World.frozen?, h1]
  omega
theorem UpAt.set {l : List UInt8} {B j : Nat} {wr : World} (h : UpAt l B j wr) (hj : j < l.length) : UpAt l B (j + 1) (wr.setCell ⟨B, j, none⟩ (.int .u8 (((upC l[j]).toNat : Nat) : Int))) := by
  obtain ⟨C, n, h1, h2, h3, h4⟩ := h
  refine ⟨_, n, heap_set h1 _, by rw [Array.size_setIfInBounds]; exact h2, h3, ?_⟩
  intro i hi
  by_cases e : i = j
  · subst e
    rw [Array.getElem?_setIfInBounds_self_of_lt (by omega), if_pos (by omega)]
  · rw [Array.getElem?_setIfInBounds_ne (fun h => e h.symm), h4 i hi]
    by_cases hij : i < j
    · rw [if_pos hij, if_pos (by omega)]
    · rw [if_neg hij, if_neg (by omega)]
theorem UpAt.skip {l : List UInt8} {B j : Nat} {wr : World} (h : UpAt l B j wr) (hj : j < l.length) (hc : upC l[j] = l[j]) : UpAt l B (j + 1) wr := by
  obtain ⟨C, n, h1, h2, h3, h4⟩ := h
  refine ⟨C, n, h1, h2, h3, ?_⟩
  intro i hi
  rw [h4 i hi]
  by_cases e : i = j
  · subst e
    rw [if_neg (by omega), if_pos (by omega), hc]
  · by_cases hij : i < j
    · rw [if_pos hij, if_pos (by omega)]
    · rw [if_neg hij, if_neg (by omega)]
theorem upAt_new (s : ByteArray) (w : World) (cap : Nat) : UpAt s.data.toList w.heap.size 0 (w.drew.alloc (.cells (bytesRow s cap) 5 ((bytesRow s cap).size, (bytesRow s cap).size + 1))) := by
  have hsz : s.data.toList.length ≤ (bytesRow s cap).size := by
    rw [size_list]
    unfold bytesRow
    rw [Array.size_append, Array.size_map]
    exact Nat.le_add_right _ _
  refine ⟨_, _, heap_new _ _, rfl, hsz, ?_⟩
  intro i hi
  have hi' : i < s.data.size := by simpa using hi
  rw [if_neg (by omega)]
  unfold bytesRow
  rw [Array.getElem?_append_left (by rw [Array.size_map]; exact hi'), Array.getElem?_map, Array.getElem?_eq_getElem hi']
  rfl
def UpR (l : List UInt8) (B : Nat) (w : World) (v : Value) (wr : World) : Prop := ∃ j : Nat, j ≤ l.length ∧ v = .int .i64 (j : Nat) ∧ UpAt l B j wr ∧ Chg [] w wr

end Go.Proofs.Ytgdnfempcjlipaa
