/- The walks of names: lower, Fold. -/
import Derived.Test.YtopkbchjlifflaaNameA
namespace Go.Proofs.Ytopkbchjlifflaa
open Go.RowKit

def lowS (s : ByteArray) : ByteArray := ⟨(lowL s.data.toList).toArray⟩
def foldS (s : ByteArray) : ByteArray := ⟨(foldL s.data.toList).toArray⟩
/-- The block B holds the bytes of l, of which the first j are folded. -/
def LowAt (l : List UInt8) (B j : Nat) (wr : World) : Prop :=
  ∃ C n, wr.heap[B]? = some (.cells C 5 (n, n + 1)) ∧ C.size = n ∧ l.length ≤ n ∧ ∀ i (h : i < l.length), C[i]? = some (.int .u8 (((if i < j then lowC l[i] else l[i]).toNat : Nat) : Int))
theorem LowAt.cell {l : List UInt8} {B j : Nat} {wr : World} (h : LowAt l B j wr) {i : Nat} (hi : i < l.length) : wr.cell? ⟨B, i, none⟩ = some (.int .u8 (((if i < j then lowC l[i] else l[i]).toNat : Nat) : Int)) := by
  obtain ⟨C, n, h1, _, _, h4⟩ := h
  rw [cell_of h1]
  exact h4 i hi
theorem LowAt.free {l : List UInt8} {B j : Nat} {wr : World} (h : LowAt l B j wr) {i : Nat} (hi : i < l.length) : wr.frozen? ⟨B, i, none⟩ = false := by
  obtain ⟨C, n, h1, _, h3, _⟩ := h
  simp [World.frozen?, h1]
  omega
theorem LowAt.set {l : List UInt8} {B j : Nat} {wr : World} (h : LowAt l B j wr) (hj : j < l.length) : LowAt l B (j + 1) (wr.setCell ⟨B, j, none⟩ (.int .u8 (((lowC l[j]).toNat : Nat) : Int))) := by
  obtain ⟨C, n, h1, h2, h3, h4⟩ := h
  refine ⟨_, n, heap_set h1 _, by rw [Array.size_setIfInBounds]; exact h2, h3, ?_⟩
  intro i hi
  by_cases e : i = j
  · subst e
    rw [Array.getElem?_setIfInBounds_self_of_lt (by omega), if_pos (by omega)]
  · rw [Array.getElem?_setIfInBounds_ne (fun h => e h.symm), h4 i hi]
    by_cases hij : i < j
    · rw [if_pos hij, if_pos (by omega)]
    · rw [if_neg hij, if_neg (by omega)]
theorem LowAt.skip {l : List UInt8} {B j : Nat} {wr : World} (h : LowAt l B j wr) (hj : j < l.length) (hc : lowC l[j] = l[j]) : LowAt l B (j + 1) wr := by
  obtain ⟨C, n, h1, h2, h3, h4⟩ := h
  refine ⟨C, n, h1, h2, h3, ?_⟩
  intro i hi
  rw [h4 i hi]
  by_cases e : i = j
  · subst e
    rw [if_neg (by omega), if_pos (by omega), hc]
  · by_cases hij : i < j
    · rw [if_pos hij, if_pos (by omega)]
    · rw [if_neg hij, if_neg (by omega)]
theorem lowAt_new (s : ByteArray) (w : World) (cap : Nat) : LowAt s.data.toList w.heap.size 0 (w.drew.alloc (.cells (bytesRow s cap) 5 ((bytesRow s cap).size, (bytesRow s cap).size + 1))) := by
  have hsz : s.data.toList.length ≤ (bytesRow s cap).size := by
    rw [size_list]
    unfold bytesRow
    rw [Array.size_append, Array.size_map]
    exact Nat.le_add_right _ _
  refine ⟨_, _, heap_new _ _, rfl, hsz, ?_⟩
  intro i hi
  have hi' : i < s.data.size := by simpa using hi
  rw [if_neg (by omega)]
  unfold bytesRow
  rw [Array.getElem?_append_left (by rw [Array.size_map]; exact hi'), Array.getElem?_map, Array.getElem?_eq_getElem hi']
  rfl
def LowR (l : List UInt8) (B : Nat) (w : World) (v : Value) (wr : World) : Prop := ∃ j : Nat, j ≤ l.length ∧ v = .int .i64 (j : Nat) ∧ LowAt l B j wr ∧ Chg [] w wr
theorem lowC_val {c : UInt8} (h : 65 ≤ c.toNat ∧ c.toNat ≤ 90) : (lowC c).toNat = c.toNat + 32 := by
  unfold lowC
  rw [if_pos h, UInt8.toNat_add]
  have : (32 : UInt8).toNat = 32 := rfl
  rw [this]
  omega

theorem lower_any (s : ByteArray) (w : World) (hs : s.size ≤ 255) :
    Calls Try.prog 50 #[.string s] w fun e w' => e = .returned (.string (lowS s)) ∧ Chg [] w w' := by
  have hcv := run_bytes_of_string (P := Try.prog) w 9 105 5 s Try.underlying9 Try.underlying105 Try.underlying5
  have hsl := size_list s
  obtain ⟨cap, hcap⟩ : ∃ cap, cap = grownCap w s.size 0 5 := ⟨_, rfl⟩
  rw [← hcap] at hcv
  have hnew := lowAt_new s w cap
  have hC := ((Chg.refl [] w).drew).alloc (.cells (bytesRow s cap) 5 ((bytesRow s cap).size, (bytesRow s cap).size + 1))
  obtain ⟨w1, hw1⟩ : ∃ w1, w1 = w.drew.alloc (.cells (bytesRow s cap) 5 ((bytesRow s cap).size, (bytesRow s cap).size + 1)) := ⟨_, rfl⟩
  rw [← hw1] at hcv hnew hC
  obtain ⟨B, hB⟩ : ∃ B, B = w.heap.size := ⟨_, rfl⟩
  have hBw : w.heap.size ≤ B := by omega
  rw [← hB] at hcv hnew
  have HNEW := Lib.hid hnew
  have HSL := Lib.hid hsl
  clear hcap hnew hw1 hB hsl
  go_enter Try.func50, Try.ntmps50
  go_wp2_with fail
  go_loopw [10] (LowR s.data.toList B w) (fun v _ => s.size - (intOf v).toNat)
  case atStart => exact ⟨0, Nat.zero_le _, rfl, HNEW.out, hC⟩
  case round =>
    clear HNEW hC
    obtain ⟨j, hj, rfl, hL, hck⟩ := hrel
    rw [HSL.out] at hj
    by_cases hlt : j < s.size
    · have hjl : j < s.data.toList.length := by rw [HSL.out]; exact hlt
      have k1 := hL.cell hjl
      have f1 := hL.free hjl
      rw [if_neg (by omega)] at k1
      obtain ⟨c, hc⟩ : ∃ c, c = s.data.toList[j] := ⟨_, rfl⟩
      have hset := hL.set hjl
      have hskip := hL.skip hjl
      rw [← hc] at k1 hset hskip
      have hc8 : c.toNat ≤ 255 := by have := UInt8.toNat_lt c; omega
      have HSET := Lib.hid hset
      have HSKIP := Lib.hid hskip
      clear hc hset hskip hL hjl
      by_cases hup : 65 ≤ c.toNat ∧ c.toNat ≤ 90
      · have hv := lowC_val hup
        have t1 : decide (65 ≤ c.toNat) = true := by simp; omega
        have t2 : decide (c.toNat ≤ 90) = true := by simp; omega
        have t1I : decide ((65 : Int) ≤ (c.toNat : Int)) = true := by simp; omega
        have t2I : decide ((c.toNat : Int) ≤ 90) = true := by simp; omega
        have hb1 : c.toNat ≤ 90 := hup.2
        have HV := Lib.hid hv
        clear hup hv
        go_wp2
        go_roundw
        case rel =>
          refine ⟨j + 1, by rw [HSL.out]; omega, by go_num, ?_, hck.setCell (.inr hBw) _⟩
          have := HSET.out
          rw [HV.out] at this
          exact this
        case measure => simp [intOf] <;> omega
      · have hno : lowC c = c := by unfold lowC; rw [if_neg hup]
        have HNO := Lib.hid hno
        by_cases h65 : 65 ≤ c.toNat
        case' pos =>
          have t1 : decide (65 ≤ c.toNat) = true := by simpa using h65
          have t1I : decide ((65 : Int) ≤ (c.toNat : Int)) = true := by simp; omega
          have t2 : decide (c.toNat ≤ 90) = false := by simp; omega
          have t2I : decide ((c.toNat : Int) ≤ 90) = false := by simp; omega
        case' neg =>
          have t1 : decide (65 ≤ c.toNat) = false := by simpa using h65
          have t1I : decide ((65 : Int) ≤ (c.toNat : Int)) = false := by simp; omega
        all_goals
          clear hup hno h65
          go_wp2
          go_roundw
          case rel => exact ⟨j + 1, by rw [HSL.out]; omega, by go_num, HSKIP.out HNO.out, hck⟩
          case measure => simp [intOf] <;> omega
    · obtain rfl : j = s.size := by omega
      have hback := run_convert_bytes_back (P := Try.prog) wr 105 9 5 ⟨B, 0, none⟩ cap (lowL s.data.toList) Try.underlying105 Try.underlying5 Try.underlying9 (by
        intro i hi
        rw [lowL_len] at hi
        have ea : (⟨B, 0, none⟩ : Addr).add i = ⟨B, i, none⟩ := by unfold Addr.add; split <;> simp_all
        rw [ea, hL.cell hi, if_pos (by rw [← HSL.out]; exact hi)]
        simp [lowL])
      rw [lowL_len, HSL.out] at hback
      clear hL
      go_wp2
      go_ret
      exact ⟨rfl, hck⟩
theorem fold_any (s t : ByteArray) (w : World) (hs : s.size ≤ maxLen) (ht : Hid (t = foldS s)) :
    Calls Try.prog 33 #[.string s] w fun e w' => e = .returned (.string t) ∧ Chg [] w w' := by
  by_cases hm : mayB s.data.toList = true
  · have hl := (mayB_len hm).2
    rw [size_list] at hl
    have e : t = lowS s := by rw [ht.out]; unfold foldS foldL lowS; rw [if_pos hm]
    subst e
    clear ht
    go_enter Try.func33, Try.ntmps33
    go_wp2_with fail
    refine (may_any s true w hs (Lib.hid hm.symm)).mono ?_
    rintro e w1 ⟨rfl, rfl⟩
    go_wp2_with fail
    refine (lower_any s w hl).mono ?_
    rintro e w1 ⟨rfl, hc⟩
    go_wp2
    go_ret
    exact ⟨rfl, hc⟩
  · have hm' : mayB s.data.toList = false := by simpa using hm
    have e : t = ⟨#[]⟩ := by rw [ht.out]; unfold foldS foldL; rw [if_neg hm]
    subst e
    clear ht hm
    go_enter Try.func33, Try.ntmps33
    go_wp2_with fail
    refine (may_any s false w hs (Lib.hid hm'.symm)).mono ?_
    rintro e w1 ⟨rfl, rfl⟩
    go_wp2
    go_ret
    exact ⟨rfl, Chg.refl _ _⟩

end Go.Proofs.Ytopkbchjlifflaa
