/- Names, as plain data: what may be one; folded. The walks of names: May, lower, Fold. The walks of names: lower, Fold. The document's names: Labels, May, Low, Bytes, Fold, Same. The document's names: Low, Bytes, Fold, Same. The document's names: Fold, Same. -/
import Derived.WalkKit
import Derived.Test.YtgdnfempcjlipaaChecked
import Derived.Test.YtgdnfempcjlipaaBaseZ
import Derived.WalkLawsBesides
import Derived.WalkSpells
import Derived.Outline
import Derived.Laws.IdiomStrings
import Derived.IntWalk
import Derived.Deep.AppendLies
import Derived.Deep.RegionWith

namespace Go.Proofs.Ytgdnfempcjlipaa

/-- Behind 'at' the bytes go on as labels, and end with the root's at the last one. -/
def mayF (s : List UInt8) : Nat → Nat → Bool
  | 0, _ => false
  | f + 1, i => if h : i < s.length then (if s[i].toNat = 0 then decide (i + 1 = s.length) else if 63 < s[i].toNat then false else mayF s f (i + 1 + s[i].toNat)) else false
def mayB (s : List UInt8) : Bool := decide (0 < s.length ∧ s.length ≤ 255) && mayF s (s.length + 1) 0
def lowC (c : UInt8) : UInt8 := if 65 ≤ c.toNat ∧ c.toNat ≤ 90 then c + 32 else c
def lowL (s : List UInt8) : List UInt8 := s.map lowC
def foldL (s : List UInt8) : List UInt8 := if mayB s then lowL s else []
set_option maxRecDepth 100000 in
theorem lowL_len (s : List UInt8) : (lowL s).length = s.length := by simp [lowL]
set_option maxRecDepth 100000 in
theorem mayF_more (s : List UInt8) : ∀ f i, s.length < f + i → mayF s (f + 1) i = mayF s f i
  | 0, i, h => by
    unfold mayF
    rw [dif_neg (by omega)]
  | f + 1, i, h => by
    rw [mayF]
    rw [mayF]
    by_cases hi : i < s.length
    · rw [dif_pos hi, dif_pos hi]
      by_cases h0 : s[i].toNat = 0
      · rw [if_pos h0, if_pos h0]
      · rw [if_neg h0, if_neg h0]
        by_cases h1 : 63 < s[i].toNat
        · rw [if_pos h1, if_pos h1]
        · rw [if_neg h1, if_neg h1]
          exact mayF_more s f _ (by omega)
    · rw [dif_neg hi, dif_neg hi]
set_option maxRecDepth 100000 in
theorem lowC_small {c : UInt8} (h : c.toNat ≤ 63) : lowC c = c := by
  unfold lowC
  rw [if_neg (by omega)]
set_option maxRecDepth 100000 in
theorem lowC_big {c : UInt8} (h : 63 < c.toNat) : 63 < (lowC c).toNat := by
  unfold lowC
  split
  · rename_i hc
    have : (c + 32).toNat = c.toNat + 32 := by
      rw [UInt8.toNat_add]
      have : (32 : UInt8).toNat = 32 := rfl
      rw [this]
      omega
    omega
  · exact h
set_option maxRecDepth 100000 in
theorem lowC_again (c : UInt8) : lowC (lowC c) = lowC c := by
  by_cases h : 65 ≤ c.toNat ∧ c.toNat ≤ 90
  · have e : lowC c = c + 32 := by unfold lowC; rw [if_pos h]
    have : (c + 32).toNat = c.toNat + 32 := by
      rw [UInt8.toNat_add]
      have : (32 : UInt8).toNat = 32 := rfl
      rw [this]
      omega
    rw [e]
    unfold lowC
    rw [if_neg (by omega)]
  · have e : lowC c = c := by unfold lowC; rw [if_neg h]
    rw [e, e]
set_option maxRecDepth 100000 in
theorem lowL_again (s : List UInt8) : lowL (lowL s) = lowL s := by
  unfold lowL
  rw [List.map_map]
  apply List.map_congr_left
  intro c _
  exact lowC_again c
set_option maxRecDepth 100000 in
theorem mayF_low (s : List UInt8) : ∀ f i, mayF (lowL s) f i = mayF s f i
  | 0, i => rfl
  | f + 1, i => by
    rw [mayF, mayF]
    by_cases hi : i < s.length
    · have hi' : i < (lowL s).length := by rw [lowL_len]; exact hi
      rw [dif_pos hi, dif_pos hi']
      have e : (lowL s)[i] = lowC s[i] := by simp [lowL]
      rw [e, lowL_len]
      by_cases h1 : 63 < s[i].toNat
      · have h2 := lowC_big h1
        have a1 : ¬ (lowC s[i]).toNat = 0 := by omega
        have a2 : ¬ s[i].toNat = 0 := by omega
        rw [if_neg a1, if_pos h2, if_neg a2, if_pos h1]
      · rw [lowC_small (by omega), mayF_low s f]
    · have hi' : ¬ i < (lowL s).length := by rw [lowL_len]; exact hi
      rw [dif_neg hi, dif_neg hi']
set_option maxRecDepth 100000 in
theorem mayB_low (s : List UInt8) : mayB (lowL s) = mayB s := by
  unfold mayB
  rw [lowL_len, mayF_low]
set_option maxRecDepth 100000 in
theorem mayB_fold {s : List UInt8} (h : mayB s = true) : mayB (foldL s) = true := by
  unfold foldL
  rw [if_pos h, mayB_low]
  exact h
set_option maxRecDepth 100000 in
theorem foldL_again (s : List UInt8) : foldL (foldL s) = foldL s := by
  by_cases h : mayB s = true
  · have e : foldL s = lowL s := by unfold foldL; rw [if_pos h]
    rw [e]
    unfold foldL
    rw [mayB_low, if_pos h, lowL_again]
  · have e : foldL s = [] := by unfold foldL; rw [if_neg h]
    rw [e]
    rfl
set_option maxRecDepth 100000 in
theorem mayB_len {s : List UInt8} (h : mayB s = true) : 0 < s.length ∧ s.length ≤ 255 := by
  unfold mayB at h
  rw [Bool.and_eq_true, decide_eq_true_eq] at h
  exact h.1
set_option maxRecDepth 100000 in
theorem foldL_len (s : List UInt8) : (foldL s).length ≤ 255 := by
  unfold foldL
  split
  · rename_i h; rw [lowL_len]; exact (mayB_len h).2
  · simp

end Go.Proofs.Ytgdnfempcjlipaa

namespace Go.Proofs.Ytgdnfempcjlipaa
open Go.RowKit

set_option maxRecDepth 100000 in
theorem size_list (s : ByteArray) : s.data.toList.length = s.size := Array.length_toList
def MayR (l : List UInt8) (b : Bool) (v : Value) : Prop := ∃ i f : Nat, v = .int .i64 (i : Nat) ∧ i ≤ 400 ∧ Hid (mayF l f i = b) ∧ l.length < f + i
set_option maxRecDepth 100000 in
theorem may_any (s : ByteArray) (b : Bool) (w : World) (hs : s.size ≤ maxLen) (hb : Hid (b = mayB s.data.toList)) :
    Calls Try.prog 8 #[.string s] w fun e w' => e = .returned (.bool b) ∧ w = w' := by
  unfold maxLen at hs
  have hsl := size_list s
  by_cases h0 : s.size = 0
  · have eb : b = false := by rw [hb.out]; unfold mayB; rw [hsl, h0]; rfl
    subst eb
    have t0 : ((s.size : Int) == 0) = true := by rw [h0]; rfl
    clear hb hsl
    go_enter Try.func8, Try.ntmps8
    go_wp2
    go_ret
    exact ⟨rfl, rfl⟩
  have t0 : ((s.size : Int) == 0) = false := beq_eq_false_iff_ne.2 (by omega)
  by_cases h1 : 255 < s.size
  · have eb : b = false := by
      rw [hb.out]; unfold mayB; rw [hsl]
      have : decide (0 < s.size ∧ s.size ≤ 255) = false := by simp; omega
      rw [this]; rfl
    subst eb
    have t1 : decide (255 < s.size) = true := by simpa using h1
    have t1I : decide ((255 : Int) < (s.size : Int)) = true := by simp; omega
    clear hb hsl
    go_enter Try.func8, Try.ntmps8
    go_wp2
    go_ret
    exact ⟨rfl, rfl⟩
  have t1 : decide (255 < s.size) = false := by simpa using h1
  have t1I : decide ((255 : Int) < (s.size : Int)) = false := by simp; omega
  have hle : s.size ≤ 255 := by omega
  have hm : mayF s.data.toList (s.size + 1) 0 = b := by
    rw [hb.out]; unfold mayB; rw [hsl]
    have : decide (0 < s.size ∧ s.size ≤ 255) = true := by simp; omega
    rw [this, Bool.true_and]
  have HM := Lib.hid hm
  have HSL := Lib.hid hsl
  clear hb hm hsl h1
  go_enter Try.func8, Try.ntmps8
  go_wp2_with fail
  go_loop [3] (MayR s.data.toList b) (fun v => 401 - (intOf v).toNat)
  case atStart => exact ⟨0, s.size + 1, rfl, by omega, HM, by rw [HSL.out]; omega⟩
  case round =>
    clear HM
    obtain ⟨i, f, rfl, hi, hf, hfl⟩ := hrel
    rw [HSL.out] at hfl
    by_cases hlt : i < s.size
    · obtain ⟨f', rfl⟩ : ∃ f', f = f' + 1 := ⟨f - 1, by omega⟩
      have e := hf.out
      rw [mayF, dif_pos (by rw [HSL.out]; exact hlt)] at e
      have hc : s.data.toList[i]'(by rw [HSL.out]; exact hlt) = s[i] := rfl
      rw [hc, HSL.out] at e
      obtain ⟨c, hcc⟩ : ∃ c : Nat, c = s[i].toNat := ⟨_, rfl⟩
      have hc8 : c < 256 := by rw [hcc]; exact UInt8.toNat_lt _
      rw [← hcc] at e
      have HE := Lib.hid e
      have HCC := Lib.hid hcc
      clear e hc hf
      by_cases hc0 : c = 0
      · have tb : b = decide (i + 1 = s.size) := by have := HE.out; rw [if_pos hc0] at this; exact this.symm
        have tc : s[i].toNat = 0 := by rw [← HCC.out]; exact hc0
        clear HE hcc hc0 HCC
        by_cases hend : i + 1 = s.size
        · have tb' : b = true := by rw [tb]; simpa using hend
          subst tb'
          have te : ((i : Int) == (s.size : Int) - 1) = true := beq_iff_eq.2 (by omega)
          clear tb
          go_wp2
          go_ret
          exact ⟨rfl, rfl⟩
        · have tb' : b = false := by rw [tb]; simpa using hend
          subst tb'
          have te : ((i : Int) == (s.size : Int) - 1) = false := beq_eq_false_iff_ne.2 (by omega)
          clear tb
          go_wp2
          go_ret
          exact ⟨rfl, rfl⟩
      · have tc0 : ((s[i].toNat : Int) == 0) = false := by rw [← HCC.out]; simp; omega
        by_cases hc1 : 63 < c
        · have tb : b = false := by have := HE.out; rw [if_neg hc0, if_pos hc1] at this; exact this.symm
          subst tb
          have hcb : s[i].toNat ≤ 255 := by rw [← HCC.out]; omega
          have tc1 : decide (63 < s[i].toNat) = true := by rw [← HCC.out]; simpa using hc1
          have tc1I : decide ((63 : Int) < (s[i].toNat : Int)) = true := by rw [← HCC.out]; simp; omega
          clear HE hcc hc0 HCC
          go_wp2
          go_ret
          exact ⟨rfl, rfl⟩
        · have hnew : mayF s.data.toList f' (i + 1 + c) = b := by have := HE.out; rw [if_neg hc0, if_neg hc1] at this; exact this
          have HNEW := Lib.hid hnew
          have tc1 : decide (63 < s[i].toNat) = false := by rw [← HCC.out]; simpa using hc1
          have tc1I : decide ((63 : Int) < (s[i].toNat : Int)) = false := by rw [← HCC.out]; simp; omega
          have hcb : s[i].toNat ≤ 63 := by rw [← HCC.out]; omega
          clear HE hcc hc0 hnew
          go_wp2
          go_round
          case rel => exact ⟨i + 1 + c, f', by rw [HCC.out]; go_num, by omega, HNEW, by rw [HSL.out]; omega⟩
          case measure => have := HCC.out; simp [intOf] <;> omega
    · have tb : b = false := by
        have e := hf.out
        cases f with
        | zero => exact e.symm
        | succ f =>
          rw [mayF, dif_neg (by rw [HSL.out]; exact hlt)] at e
          exact e.symm
      subst tb
      clear hf
      go_wp2
      go_ret
      exact ⟨rfl, rfl⟩

end Go.Proofs.Ytgdnfempcjlipaa

namespace Go.Proofs.Ytgdnfempcjlipaa
open Go.RowKit

def lowS (s : ByteArray) : ByteArray := ⟨(lowL s.data.toList).toArray⟩
def foldS (s : ByteArray) : ByteArray := ⟨(foldL s.data.toList).toArray⟩
/-- The block B holds the bytes of l, of which the first j are folded. -/
def LowAt (l : List UInt8) (B j : Nat) (wr : World) : Prop :=
  ∃ C n, wr.heap[B]? = some (.cells C 5 (n, n + 1)) ∧ C.size = n ∧ l.length ≤ n ∧ ∀ i (h : i < l.length), C[i]? = some (.int .u8 (((if i < j then lowC l[i] else l[i]).toNat : Nat) : Int))
set_option maxRecDepth 100000 in
theorem LowAt.cell {l : List UInt8} {B j : Nat} {wr : World} (h : LowAt l B j wr) {i : Nat} (hi : i < l.length) : wr.cell? ⟨B, i, none⟩ = some (.int .u8 (((if i < j then lowC l[i] else l[i]).toNat : Nat) : Int)) := by
  obtain ⟨C, n, h1, _, _, h4⟩ := h
  rw [cell_of h1]
  exact h4 i hi
set_option maxRecDepth 100000 in
theorem LowAt.free {l : List UInt8} {B j : Nat} {wr : World} (h : LowAt l B j wr) {i : Nat} (hi : i < l.length) : wr.frozen? ⟨B, i, none⟩ = false := by
  obtain ⟨C, n, h1, _, h3, _⟩ := h
  simp [World.frozen?, h1]
  omega
set_option maxRecDepth 100000 in
theorem LowAt.set {l : List UInt8} {B j : Nat} {wr : World} (h : LowAt l B j wr) (hj : j < l.length) : LowAt l B (j + 1) (wr.setCell ⟨B, j, none⟩ (.int .u8 (((lowC l[j]).toNat : Nat) : Int))) := by
  obtain ⟨C, n, h1, h2, h3, h4⟩ := h
  refine ⟨_, n, heap_set h1 _, by rw [Array.size_setIfInBounds]; exact h2, h3, ?_⟩
  intro i hi
  by_cases e : i = j
  · subst e
    rw [Array.getElem?_setIfInBounds_self_of_lt (by omega), if_pos (by omega)]
  · rw [Array.getElem?_setIfInBounds_ne (fun h => e h.symm), h4 i hi]
    by_cases hij : i < j
    · rw [if_pos hij, if_pos (by omega)]
    · rw [if_neg hij, if_neg (by omega)]
set_option maxRecDepth 100000 in
theorem LowAt.skip {l : List UInt8} {B j : Nat} {wr : World} (h : LowAt l B j wr) (hj : j < l.length) (hc : lowC l[j] = l[j]) : LowAt l B (j + 1) wr := by
  obtain ⟨C, n, h1, h2, h3, h4⟩ := h
  refine ⟨C, n, h1, h2, h3, ?_⟩
  intro i hi
  rw [h4 i hi]
  by_cases e : i = j
  · subst e
    rw [if_neg (by omega), if_pos (by omega), hc]
  · by_cases hij : i < j
    · rw [if_pos hij, if_pos (by omega)]
    · rw [if_neg hij, if_neg (by omega)]
set_option maxRecDepth 100000 in
theorem lowAt_new (s : ByteArray) (w : World) (cap : Nat) : LowAt s.data.toList w.heap.size 0 (w.drew.alloc (.cells (bytesRow s cap) 5 ((bytesRow s cap).size, (bytesRow s cap).size + 1))) := by
  have hsz : s.data.toList.length ≤ (bytesRow s cap).size := by
    rw [size_list]
    unfold bytesRow
    rw [Array.size_append, Array.size_map]
    exact Nat.le_add_right _ _
  refine ⟨_, _, heap_new _ _, rfl, hsz, ?_⟩
  intro i hi
  have hi' : i < s.data.size := by simpa using hi
  rw [if_neg (by omega)]
  unfold bytesRow
  rw [Array.getElem?_append_left (by rw [Array.size_map]; exact hi'), Array.getElem?_map, Array.getElem?_eq_getElem hi']
  rfl
def LowR (l : List UInt8) (B : Nat) (w : World) (v : Value) (wr : World) : Prop := ∃ j : Nat, j ≤ l.length ∧ v = .int .i64 (j : Nat) ∧ LowAt l B j wr ∧ Chg [] w wr
set_option maxRecDepth 100000 in
theorem lowC_val {c : UInt8} (h : 65 ≤ c.toNat ∧ c.toNat ≤ 90) : (lowC c).toNat = c.toNat + 32 := by
  unfold lowC
  rw [if_pos h, UInt8.toNat_add]
  have : (32 : UInt8).toNat = 32 := rfl
  rw [this]
  omega

set_option maxRecDepth 100000 in
theorem lower_any (s : ByteArray) (w : World) (hs : s.size ≤ 255) :
    Calls Try.prog 40 #[.string s] w fun e w' => e = .returned (.string (lowS s)) ∧ Chg [] w w' := by
  have hcv := run_bytes_of_string (P := Try.prog) w 9 36 5 s Try.underlying9 Try.underlying36 Try.underlying5
  have hsl := size_list s
  obtain ⟨cap, hcap⟩ : ∃ cap, cap = grownCap w s.size 0 5 := ⟨_, rfl⟩
  rw [← hcap] at hcv
  have hnew := lowAt_new s w cap
  have hC := ((Chg.refl [] w).drew).alloc (.cells (bytesRow s cap) 5 ((bytesRow s cap).size, (bytesRow s cap).size + 1))
  obtain ⟨w1, hw1⟩ : ∃ w1, w1 = w.drew.alloc (.cells (bytesRow s cap) 5 ((bytesRow s cap).size, (bytesRow s cap).size + 1)) := ⟨_, rfl⟩
  rw [← hw1] at hcv hnew hC
  obtain ⟨B, hB⟩ : ∃ B, B = w.heap.size := ⟨_, rfl⟩
  have hBw : w.heap.size ≤ B := by omega
  rw [← hB] at hcv hnew
  have HNEW := Lib.hid hnew
  have HSL := Lib.hid hsl
  clear hcap hnew hw1 hB hsl
  go_enter Try.func40, Try.ntmps40
  go_wp2_with fail
  go_loopw [10] (LowR s.data.toList B w) (fun v _ => s.size - (intOf v).toNat)
  case atStart => exact ⟨0, Nat.zero_le _, rfl, HNEW.out, hC⟩
  case round =>
    clear HNEW hC
    obtain ⟨j, hj, rfl, hL, hck⟩ := hrel
    rw [HSL.out] at hj
    by_cases hlt : j < s.size
    · have hjl : j < s.data.toList.length := by rw [HSL.out]; exact hlt
      have k1 := hL.cell hjl
      have f1 := hL.free hjl
      rw [if_neg (by omega)] at k1
      obtain ⟨c, hc⟩ : ∃ c, c = s.data.toList[j] := ⟨_, rfl⟩
      have hset := hL.set hjl
      have hskip := hL.skip hjl
      rw [← hc] at k1 hset hskip
      have hc8 : c.toNat ≤ 255 := by have := UInt8.toNat_lt c; omega
      have HSET := Lib.hid hset
      have HSKIP := Lib.hid hskip
      clear hc hset hskip hL hjl
      by_cases hup : 65 ≤ c.toNat ∧ c.toNat ≤ 90
      · have hv := lowC_val hup
        have t1 : decide (65 ≤ c.toNat) = true := by simp; omega
        have t2 : decide (c.toNat ≤ 90) = true := by simp; omega
        have t1I : decide ((65 : Int) ≤ (c.toNat : Int)) = true := by simp; omega
        have t2I : decide ((c.toNat : Int) ≤ 90) = true := by simp; omega
        have hb1 : c.toNat ≤ 90 := hup.2
        have HV := Lib.hid hv
        clear hup hv
        go_wp2
        go_roundw
        case rel =>
          refine ⟨j + 1, by rw [HSL.out]; omega, by go_num, ?_, hck.setCell (.inr hBw) _⟩
          have := HSET.out
          rw [HV.out] at this
          exact this
        case measure => simp [intOf] <;> omega
      · have hno : lowC c = c := by unfold lowC; rw [if_neg hup]
        have HNO := Lib.hid hno
        by_cases h65 : 65 ≤ c.toNat
        case' pos =>
          have t1 : decide (65 ≤ c.toNat) = true := by simpa using h65
          have t1I : decide ((65 : Int) ≤ (c.toNat : Int)) = true := by simp; omega
          have t2 : decide (c.toNat ≤ 90) = false := by simp; omega
          have t2I : decide ((c.toNat : Int) ≤ 90) = false := by simp; omega
        case' neg =>
          have t1 : decide (65 ≤ c.toNat) = false := by simpa using h65
          have t1I : decide ((65 : Int) ≤ (c.toNat : Int)) = false := by simp; omega
        all_goals
          clear hup hno h65
          go_wp2
          go_roundw
          case rel => exact ⟨j + 1, by rw [HSL.out]; omega, by go_num, HSKIP.out HNO.out, hck⟩
          case measure => simp [intOf] <;> omega
    · obtain rfl : j = s.size := by omega
      have hback := run_convert_bytes_back (P := Try.prog) wr 36 9 5 ⟨B, 0, none⟩ cap (lowL s.data.toList) Try.underlying36 Try.underlying5 Try.underlying9 (by
        intro i hi
        rw [lowL_len] at hi
        have ea : (⟨B, 0, none⟩ : Addr).add i = ⟨B, i, none⟩ := by unfold Addr.add; split <;> simp_all
        rw [ea, hL.cell hi, if_pos (by rw [← HSL.out]; exact hi)]
        simp [lowL])
      rw [lowL_len, HSL.out] at hback
      clear hL
      go_wp2
      go_ret
      exact ⟨rfl, hck⟩
set_option maxRecDepth 100000 in
theorem fold_any (s t : ByteArray) (w : World) (hs : s.size ≤ maxLen) (ht : Hid (t = foldS s)) :
    Calls Try.prog 22 #[.string s] w fun e w' => e = .returned (.string t) ∧ Chg [] w w' := by
  by_cases hm : mayB s.data.toList = true
  · have hl := (mayB_len hm).2
    rw [size_list] at hl
    have e : t = lowS s := by rw [ht.out]; unfold foldS foldL lowS; rw [if_pos hm]
    subst e
    clear ht
    go_enter Try.func22, Try.ntmps22
    go_wp2_with fail
    refine (may_any s true w hs (Lib.hid hm.symm)).mono ?_
    rintro e w1 ⟨rfl, rfl⟩
    go_wp2_with fail
    refine (lower_any s w hl).mono ?_
    rintro e w1 ⟨rfl, hc⟩
    go_wp2
    go_ret
    exact ⟨rfl, hc⟩
  · have hm' : mayB s.data.toList = false := by simpa using hm
    have e : t = ⟨#[]⟩ := by rw [ht.out]; unfold foldS foldL; rw [if_neg hm]
    subst e
    clear ht hm
    go_enter Try.func22, Try.ntmps22
    go_wp2_with fail
    refine (may_any s false w hs (Lib.hid hm'.symm)).mono ?_
    rintro e w1 ⟨rfl, rfl⟩
    go_wp2
    go_ret
    exact ⟨rfl, Chg.refl _ _⟩

end Go.Proofs.Ytgdnfempcjlipaa

namespace Go.Proofs.Ytgdnfempcjlipaa
open Go.RowKit

/-- The labels behind i. -/
def labA (s : ByteArray) : Nat → Nat → List ByteArray
  | 0, _ => []
  | f + 1, i => if h : i < s.size then (if s[i].toNat = 0 then [] else s.extract (i + 1) (i + 1 + s[i].toNat) :: labA s f (i + 1 + s[i].toNat)) else []
def tV (x : ByteArray) : List Value := [.string x]
set_option maxRecDepth 100000 in
theorem tV_len (x : ByteArray) : (tV x).length = 1 := rfl
set_option maxRecDepth 100000 in
theorem Try.elemStrN : (Try.prog.info? 9).map (fun i => (i.zero, i.size, i.bytes)) = some (some (.string ⟨#[]⟩), 1, 16) := by kernel_rfl
set_option maxRecDepth 100000 in
theorem slice_str (s : ByteArray) (i c : Nat) (W : World) (h : i + 1 + c ≤ s.size) :
    (Instr.slice 9 (.string s) (some (.int .i64 ((i : Int) + 1))) (some (.int .i64 ((i : Int) + 1 + (c : Int)))) none).run Try.prog W = .ok (.string (s.extract (i + 1) (i + 1 + c))) W := by
  have := run_slice_string (P := Try.prog) (w := W) 9 s .i64 .i64 ((i : Int) + 1) ((i : Int) + 1 + (c : Int)) Try.underlying9 (by omega) (by omega) (by omega)
  rw [this]
  have e1 : ((i : Int) + 1).toNat = i + 1 := by omega
  have e2 : ((i : Int) + 1 + (c : Int)).toNat = i + 1 + c := by omega
  rw [e1, e2]
def LabR (s : ByteArray) (m : Bool) (L : List ByteArray) (w : World) (v i : Value) (wr : World) : Prop :=
  ∃ (j f : Nat) (pre : List ByteArray), i = .int .i64 (j : Nat) ∧ j ≤ s.size ∧ R.OwnR 9 1 tV w.heap.size wr v pre ∧ pre.length ≤ j ∧ Hid (pre ++ labA s f j = L) ∧ Hid (mayF s.data.toList f j = m) ∧ s.size < f + j ∧ Chg [] w wr
set_option maxRecDepth 100000 in
theorem mayF_out (l : List UInt8) (f i : Nat) (h : l.length ≤ i) : mayF l f i = false := by
  cases f with
  | zero => rfl
  | succ f => rw [mayF, dif_neg (by omega)]
set_option maxRecDepth 100000 in
set_option maxHeartbeats 4000000 in
theorem rlabels_any (s : ByteArray) (b : Bool) (w : World) (hs : s.size ≤ 100000) (hb : Hid (b = mayB s.data.toList)) :
    Calls Try.prog 76 #[.string s] w fun e w' => Chg [] w w' ∧ ((b = false ∧ e = .returned (.tuple #[.slice none 0 0, .bool false])) ∨ (b = true ∧ ∃ v, e = .returned (.tuple #[v, .bool true]) ∧ R.OwnR 9 1 tV w.heap.size w' v (labA s (s.size + 1) 0))) := by
  have hsl := size_list s
  obtain ⟨m, hm⟩ : ∃ m, m = mayF s.data.toList (s.size + 1) 0 := ⟨_, rfl⟩
  obtain ⟨L, hL⟩ : ∃ L, L = labA s (s.size + 1) 0 := ⟨_, rfl⟩
  have hbm : b = (decide (0 < s.size ∧ s.size ≤ 255) && m) := by rw [hb.out]; unfold mayB; rw [hsl, hm]
  have HSL := Lib.hid hsl
  have HM : Hid (mayF s.data.toList (s.size + 1) 0 = m) := Lib.hid hm.symm
  have HL : Hid (([] : List ByteArray) ++ labA s (s.size + 1) 0 = L) := Lib.hid (by rw [hL]; rfl)
  have HBM := Lib.hid hbm
  obtain ⟨i0, hi0, hz0, hz1, hz2⟩ := info_parts Try.elemStrN
  rw [← hL]
  clear hsl hm hL hbm hb
  go_enter Try.func76, Try.ntmps76
  go_wp2_with fail
  go_loopw [4, 5] (LabR s m L w) (fun _ i _ => s.size + 1 - (intOf i).toNat)
  case atStart => exact ⟨0, s.size + 1, [], rfl, Nat.zero_le _, R.OwnR.nil _ _ _ _ _, Nat.le_refl _, HL, HM, by omega, Chg.refl _ _⟩
  case round =>
    clear HM HL
    obtain ⟨j, f, pre, rfl, hj, hO, hpl, HPL, HMF, hf, hC⟩ := hrel
    obtain ⟨va, vc, rfl⟩ := hO.len
    by_cases hlt : j < s.size
    · obtain ⟨f', rfl⟩ : ∃ f', f = f' + 1 := ⟨f - 1, by omega⟩
      have e := HMF.out
      rw [mayF, dif_pos (by rw [HSL.out]; exact hlt)] at e
      have hc : s.data.toList[j]'(by rw [HSL.out]; exact hlt) = s[j] := rfl
      rw [hc, HSL.out] at e
      have e2 := HPL.out
      rw [labA, dif_pos hlt] at e2
      obtain ⟨c, hcc⟩ : ∃ c : Nat, c = s[j].toNat := ⟨_, rfl⟩
      have hc8 : c < 256 := by rw [hcc]; exact UInt8.toNat_lt _
      rw [← hcc] at e e2
      have HE := Lib.hid e
      have HE2 := Lib.hid e2
      have HCC := Lib.hid hcc
      have HO := Lib.hid hO
      clear e e2 hc HMF HPL hO
      by_cases hc0 : c = 0
      · have tb : m = decide (j + 1 = s.size) := by have := HE.out; rw [if_pos hc0] at this; exact this.symm
        have eL : pre = L := by have := HE2.out; rw [if_pos hc0, List.append_nil] at this; exact this
        have tc : s[j].toNat = 0 := by rw [← hcc]; exact hc0
        subst eL
        clear HE HE2 hcc hc0 HCC
        by_cases hend : j + 1 = s.size
        · have te : ((j : Int) != (s.size : Int) - 1) = false := by simp; omega
          by_cases h255 : 255 < s.size
          · have t1 : decide (255 < s.size) = true := by simpa using h255
            have t1I : decide ((255 : Int) < (s.size : Int)) = true := by simp; omega
            have hbf : b = false := by rw [HBM.out]; simp; intros; omega
            clear tb hend h255
            go_wp2
            go_ret2
            exact ⟨hC, .inl ⟨hbf, rfl⟩⟩
          · have t1 : decide (255 < s.size) = false := by simpa using h255
            have t1I : decide ((255 : Int) < (s.size : Int)) = false := by simp; omega
            have hbt : b = true := by rw [HBM.out, tb]; simp; omega
            clear tb hend h255
            go_wp2
            go_ret2
            exact ⟨hC, .inr ⟨hbt, _, rfl, HO.out⟩⟩
        · have te : ((j : Int) != (s.size : Int) - 1) = true := by simp; omega
          have hbf : b = false := by rw [HBM.out, tb]; simp [hend]
          clear tb hend
          go_wp2
          go_ret2
          exact ⟨hC, .inl ⟨hbf, rfl⟩⟩
      · have tc0 : ((s[j].toNat : Int) != 0) = true := by rw [← hcc]; simp; omega
        by_cases hc1 : 63 < c
        · have hbf : b = false := by have := HE.out; rw [if_neg hc0, if_pos hc1] at this; rw [HBM.out, ← this]; simp
          have hcb : s[j].toNat ≤ 255 := by rw [← hcc]; omega
          have tc1 : decide (63 < s[j].toNat) = true := by rw [← hcc]; simpa using hc1
          have tc1I : decide ((63 : Int) < (s[j].toNat : Int)) = true := by rw [← hcc]; simp; omega
          clear HE HE2 hcc hc0 HCC hc1 hc8
          go_wp2
          go_ret2
          exact ⟨hC, .inl ⟨hbf, rfl⟩⟩
        · have hnew : mayF s.data.toList f' (j + 1 + c) = m := by have := HE.out; rw [if_neg hc0, if_neg hc1] at this; exact this
          have hnew2 : pre ++ s.extract (j + 1) (j + 1 + c) :: labA s f' (j + 1 + c) = L := by have := HE2.out; rw [if_neg hc0] at this; exact this
          have tc1 : decide (63 < s[j].toNat) = false := by rw [← hcc]; simpa using hc1
          have tc1I : decide ((63 : Int) < (s[j].toNat : Int)) = false := by rw [← hcc]; simp; omega
          have hcb : s[j].toNat ≤ 63 := by rw [← hcc]; omega
          clear HE HE2
          by_cases hout : s.size < j + 1 + c
          · have t2 : decide (s.size < j + 1 + s[j].toNat) = true := by rw [← hcc]; simpa using hout
            have t2I : decide ((s.size : Int) < (j : Int) + 1 + (s[j].toNat : Int)) = true := by rw [← hcc]; simp; omega
            have hbf : b = false := by
              rw [mayF_out _ _ _ (by rw [HSL.out]; omega)] at hnew
              rw [HBM.out, ← hnew]; simp
            clear hcc hc0 HCC hc1 hc8 hnew hnew2 hout
            go_wp2
            go_ret2
            exact ⟨hC, .inl ⟨hbf, rfl⟩⟩
          · have t2 : decide (s.size < j + 1 + s[j].toNat) = false := by rw [← hcc]; simpa using hout
            have t2I : decide ((s.size : Int) < (j : Int) + 1 + (s[j].toNat : Int)) = false := by rw [← hcc]; simp; omega
            obtain ⟨x, hx⟩ : ∃ x, x = s.extract (j + 1) (j + 1 + c) := ⟨_, rfl⟩
            rw [← hx] at hnew2
            have hsli : ∀ W, (Instr.slice 9 (.string s) (some (.int .i64 ((j : Int) + 1))) (some (.int .i64 ((j : Int) + 1 + (s[j].toNat : Int)))) none).run Try.prog W = .ok (.string x) W := fun W => by
              rw [← hcc, hx]; exact slice_str s j c W (by omega)
            have HNEW := Lib.hid hnew
            have HNEW2 := Lib.hid hnew2
            have HC := Lib.hid hC
            have hjc : j + 1 + c ≤ s.size := by omega
            have hown : (wr.alloc (.cells #[.string x] 9)).ownsRow w.heap.size 9 1 (.slice va pre.length vc) pre.length (pre.flatMap tV) := (HO.out.same ((Chg.refl [] wr).alloc (.cells #[.string x] 9)))
            have hsz : w.heap.size ≤ (wr.alloc (.cells #[.string x] 9)).heap.size := (hC.alloc (.cells #[.string x] 9)).size
            have HOWN := Lib.hid hown
            have HSZ := Lib.hid hsz
            have HCC := Lib.hid hcc
            clear hc0 hc1 hnew hnew2 hout hx hown hsz hC hcc
            go_wp2_with (first
              | (at_builtin; go_must (refine wpList_append_lies _ rfl _ _ 81 rfl w.heap.size 9 i0 (.string ⟨#[]⟩) 1 16 Try.underlying81 hi0 hz0 hz1 hz2 rfl (by omega) _ _ _ rfl HOWN.out ⟨_, 0, none⟩ 1 1 [.string x] rfl rfl ?_ ?_ (by omega) (by unfold maxLen; omega) (by omega) HSZ.out _ rfl ?_))
              | fail)
            · exact fun j u hu => World.news_of_block (heap_new _ _) j u (by simpa using hu)
            · intro u hu
              simp at hu
              subst hu
              rfl
            · intro g7 c7 w7 ho7 hg7 _ _
              have ho : R.OwnR 9 1 tV w.heap.size w7 (.slice (some ⟨g7, 0, none⟩) (pre.length + 1) c7) (pre ++ [x]) := R.OwnR.snoc ho7
              have hc : Chg [] w w7 := R.chg_grown (HC.out.alloc _) hg7 (fun g hg => (HO.out.blk g hg).1)
              have HO7 := Lib.hid ho
              have HC7 := Lib.hid hc
              clear ho hc ho7 hg7 hsli
              go_wp2
              go_roundw
              case rel => exact ⟨j + 1 + c, f', pre ++ [x], by rw [HCC.out]; go_num, hjc, HO7.out, by simp; omega, Lib.hid (by rw [List.append_assoc]; exact HNEW2.out), HNEW, by omega, HC7.out⟩
              case measure => have := HCC.out; simp [intOf] <;> omega
    · have hje : j = s.size := by omega
      have hbf : b = false := by
        have := HMF.out
        rw [mayF_out _ _ _ (by rw [HSL.out]; omega)] at this
        rw [HBM.out, ← this]; simp
      have te : ((j : Int) != (s.size : Int) - 1) = true := by simp; omega
      clear HPL HMF hO
      go_wp2
      go_ret2
      exact ⟨hC, .inl ⟨hbf, rfl⟩⟩
set_option maxRecDepth 100000 in
theorem rmay_any (s : ByteArray) (b : Bool) (w : World) (hs : s.size ≤ 100000) (hb : Hid (b = mayB s.data.toList)) :
    Calls Try.prog 60 #[.string s] w fun e w' => e = .returned (.bool b) ∧ Chg [] w w' := by
  go_enter Try.func60, Try.ntmps60
  go_wp2_with fail
  refine (rlabels_any s b w hs hb).mono ?_
  rintro e w1 ⟨hc, h⟩
  rcases h with ⟨rfl, rfl⟩ | ⟨rfl, v, rfl, ho⟩
  · go_wp2
    go_ret
    exact ⟨rfl, hc⟩
  · clear ho
    go_wp2
    go_ret
    exact ⟨rfl, hc⟩

end Go.Proofs.Ytgdnfempcjlipaa

namespace Go.Proofs.Ytgdnfempcjlipaa
open Go.RowKit

def oneB (m : Nat) : ByteArray := ⟨[UInt8.ofNat m].toArray⟩
set_option maxRecDepth 100000 in
theorem oneB_size (m : Nat) : (oneB m).size = 1 := rfl
set_option maxRecDepth 100000 in
theorem conv_byte (w : World) (m : Nat) (hm : m < 256) :
    (convert 36 9 (.slice (some ⟨w.heap.size, 0, none⟩) 1 1)).run Try.prog (w.alloc (.cells #[.int .u8 m] 5)) = .ok (.string (oneB m)) (w.alloc (.cells #[.int .u8 m] 5)) := by
  have hm' : (UInt8.ofNat m).toNat = m := by simp; omega
  exact run_convert_bytes_back _ 36 9 5 ⟨w.heap.size, 0, none⟩ 1 [UInt8.ofNat m] Try.underlying36 Try.underlying5 Try.underlying9 (by
    intro j hj
    have : j = 0 := by simp at hj; omega
    subst this
    simp only [List.getElem_cons_zero, hm']
    exact (cell_of (heap_new w _)).trans rfl)
set_option maxRecDepth 100000 in
theorem cat_list (a b : ByteArray) : (a ++ b).data.toList = a.data.toList ++ b.data.toList := by
  rw [ByteArray.data_append, Array.toList_append]
set_option maxRecDepth 100000 in
theorem ba_ext {a b : ByteArray} (h : a.data.toList = b.data.toList) : a = b := by
  cases a; cases b
  simp only at h
  congr 1
  exact Array.ext' h
set_option maxRecDepth 100000 in
theorem lowS_list (s : ByteArray) : (lowS s).data.toList = lowL s.data.toList := by unfold lowS; simp
set_option maxRecDepth 100000 in
theorem lowS_size (s : ByteArray) : (lowS s).size = s.size := by
  rw [← size_list, ← size_list, lowS_list, lowL_len]
def LowR2 (s : ByteArray) (w : World) (v i : Value) (wr : World) : Prop := ∃ (j : Nat) (T : ByteArray), j ≤ s.size ∧ i = .int .i64 (j : Nat) ∧ v = .string T ∧ Hid (T.data.toList = (lowL s.data.toList).take j) ∧ Hid (T.size = j) ∧ Chg [] w wr
set_option maxRecDepth 100000 in
theorem low_step {s T : ByteArray} {j : Nat} (hj : j < s.size) (h : T.data.toList = (lowL s.data.toList).take j) : (T ++ oneB (lowC s[j]).toNat).data.toList = (lowL s.data.toList).take (j + 1) := by
  have hl : j < (lowL s.data.toList).length := by rw [lowL_len, size_list]; exact hj
  rw [cat_list, h, List.take_succ_eq_append_getElem hl]
  congr 1
  show [UInt8.ofNat (lowC s[j]).toNat] = _
  rw [UInt8.ofNat_toNat]
  simp [lowL]
  rfl
set_option maxRecDepth 100000 in
theorem rlow_any (s : ByteArray) (w : World) (hs : s.size ≤ 100000) :
    Calls Try.prog 77 #[.string s] w fun e w' => e = .returned (.string (lowS s)) ∧ Chg [] w w' := by
  go_enter Try.func77, Try.ntmps77
  go_wp2_with fail
  go_loopw [3, 4] (LowR2 s w) (fun _ i _ => s.size - (intOf i).toNat)
  case atStart => exact ⟨0, ⟨#[]⟩, Nat.zero_le _, rfl, rfl, Lib.hid (by simp), Lib.hid rfl, Chg.refl _ _⟩
  case round =>
    obtain ⟨j, T, hj, rfl, rfl, HT, hTs, hC⟩ := hrel
    by_cases hlt : j < s.size
    · have hst := low_step hlt HT.out
      have hsz : (T ++ oneB (lowC s[j]).toNat).size = j + 1 := by rw [ByteArray.size_append, oneB_size, hTs.out]
      have hc8 : s[j].toNat ≤ 255 := by have := UInt8.toNat_lt s[j]; omega
      by_cases hup : 65 ≤ s[j].toNat ∧ s[j].toNat ≤ 90
      · have hv := lowC_val hup
        have t1 : decide (65 ≤ s[j].toNat) = true := by simp; omega
        have t2 : decide (s[j].toNat ≤ 90) = true := by simp; omega
        have t1I : decide ((65 : Int) ≤ (s[j].toNat : Int)) = true := by simp; omega
        have t2I : decide ((s[j].toNat : Int) ≤ 90) = true := by simp; omega
        have hb1 : s[j].toNat ≤ 90 := hup.2
        have hcv := conv_byte wr (s[j].toNat + 32) (by omega)
        have ec : ((s[j].toNat + 32 : Nat) : Int) = (s[j].toNat : Int) + 32 := by omega
        rw [ec] at hcv
        rw [hv] at hst hsz
        obtain ⟨x, hx⟩ : ∃ x, x = oneB (s[j].toNat + 32) := ⟨_, rfl⟩
        rw [← hx] at hst hsz hcv
        have hx1 : x.size = 1 := by rw [hx]; rfl
        have hmx : ¬9223372036854775807 < T.size + x.size := by have := hTs.out; omega
        clear hx1
        have HST := Lib.hid hst
        have HSZ := Lib.hid hsz
        have HC := Lib.hid hC
        clear hup hv hst hsz hx ec hC HT
        go_wp2
        go_roundw
        case rel => exact ⟨j + 1, _, by omega, by go_num, rfl, HST, HSZ, HC.out.alloc _⟩
        case measure => simp [intOf] <;> omega
      · have hno : lowC s[j] = s[j] := by unfold lowC; rw [if_neg hup]
        have hcv := conv_byte wr s[j].toNat (by omega)
        rw [hno] at hst hsz
        obtain ⟨x, hx⟩ : ∃ x, x = oneB s[j].toNat := ⟨_, rfl⟩
        rw [← hx] at hst hsz hcv
        have hx1 : x.size = 1 := by rw [hx]; rfl
        have hmx : ¬9223372036854775807 < T.size + x.size := by have := hTs.out; omega
        clear hx1
        have HST := Lib.hid hst
        have HSZ := Lib.hid hsz
        have HC := Lib.hid hC
        by_cases h65 : 65 ≤ s[j].toNat
        case' pos =>
          have t1 : decide (65 ≤ s[j].toNat) = true := by simpa using h65
          have t1I : decide ((65 : Int) ≤ (s[j].toNat : Int)) = true := by simp; omega
          have t2 : decide (s[j].toNat ≤ 90) = false := by simp; omega
          have t2I : decide ((s[j].toNat : Int) ≤ 90) = false := by simp; omega
        case' neg =>
          have t1 : decide (65 ≤ s[j].toNat) = false := by simpa using h65
          have t1I : decide ((65 : Int) ≤ (s[j].toNat : Int)) = false := by simp; omega
        all_goals
          clear hup hno h65 hst hsz hx hC HT
          go_wp2
          go_roundw
          case rel => exact ⟨j + 1, _, by omega, by go_num, rfl, HST, HSZ, HC.out.alloc _⟩
          case measure => simp [intOf] <;> omega
    · obtain rfl : j = s.size := by omega
      have e : T = lowS s := by
        refine ba_ext ?_
        rw [HT.out, lowS_list, List.take_of_length_le (by rw [lowL_len, size_list]; exact Nat.le_refl _)]
      subst e
      clear HT
      go_wp2
      go_ret
      exact ⟨rfl, hC⟩

/-- All orders of a region, in one. -/
def OneEndN (A : Act) (W : World) : Exit → Act → World → Prop
  | .normal, a, w => a = A ∧ w = W
  | _, _, _ => False
set_option maxRecDepth 100000 in
theorem wp_oneN {P : Program} {c : Code} {Q : Exit → Act → World → Prop} {a : Act} {w : World} (A : Act) (W : World) (h : c.wp P (OneEndN A W) a w) (k : Q .normal A W) : c.wp P Q a w :=
  Code.wp_mono (fun e a w hq => by
    cases e with
    | normal => obtain ⟨rfl, rfl⟩ := hq; exact k
    | _ => exact hq.elim) h
/-- Labels, each behind its length. -/
def catP (l : List ByteArray) : List UInt8 := l.flatMap fun x => UInt8.ofNat x.size :: x.data.toList
set_option maxRecDepth 100000 in
theorem catP_snoc (l : List ByteArray) (x : ByteArray) : catP (l ++ [x]) = catP l ++ (UInt8.ofNat x.size :: x.data.toList) := by simp [catP]
def BytR (l : List ByteArray) (w : World) (v i : Value) (wr : World) : Prop := ∃ (j : Nat) (T : ByteArray), j ≤ l.length ∧ i = .int .i64 (j : Nat) ∧ v = .string T ∧ Hid (T.data.toList = catP (l.take j)) ∧ T.size ≤ j * 256 ∧ Chg [] w wr
set_option maxRecDepth 100000 in
set_option maxHeartbeats 2000000 in
theorem rbytes_any (base : Nat) (v : Value) (l : List ByteArray) (t : ByteArray) (w : World) (h : R.OwnR 9 1 tV base w v l) (hl : l.length ≤ 1000) (hx : ∀ x ∈ l, x.size ≤ 255) (ht : Hid (t.data.toList = catP l ++ [0])) :
    Calls Try.prog 78 #[v] w fun e w' => e = .returned (.string t) ∧ Chg [] w w' := by
  obtain ⟨va, vc, rfl⟩ := h.len
  have H := Lib.hid h
  have HX := Lib.hid hx
  clear h hx
  go_enter Try.func78, Try.ntmps78
  go_wp2_with fail
  go_loopw [3, 4] (BytR l w) (fun _ i _ => l.length - (intOf i).toNat)
  case atStart => exact ⟨0, ⟨#[]⟩, Nat.zero_le _, rfl, rfl, Lib.hid rfl, Nat.zero_le _, Chg.refl _ _⟩
  case round =>
    obtain ⟨j, T, hj, rfl, rfl, HT, hTs, hC⟩ := hrel
    by_cases hlt : j < l.length
    · obtain ⟨g, c, hv, _, _, hcl⟩ := H.out.cells tV_len (by omega)
      have hv1 := (Value.slice.inj hv).1
      clear hv
      subst hv1
      obtain ⟨x, hxx⟩ : ∃ x, x = l[j] := ⟨_, rfl⟩
      have d0 := hC.cell (hcl j hlt 0 (.string x) (by rw [← hxx]; rfl)) (by simp)
      rw [Nat.mul_one, Nat.add_zero] at d0
      have hxs : x.size ≤ 255 := by rw [hxx]; exact HX.out _ (List.getElem_mem hlt)
      have htk : l.take (j + 1) = l.take j ++ [x] := by rw [List.take_succ_eq_append_getElem hlt, ← hxx]
      have ew : IntKind.u8.wrap (x.size : Int) = (x.size : Int) := by rw [IntKind.wrap_u8]; omega
      have hcv : (convert 36 9 (.slice (some ⟨wr.heap.size, 0, none⟩) 1 1)).run Try.prog ((wr.alloc (.cells #[.int .u8 (x.size : Int)] 5)).drew) = .ok (.string (oneB x.size)) ((wr.alloc (.cells #[.int .u8 (x.size : Int)] 5)).drew) := conv_byte wr.drew x.size (by omega)
      have hnew : ((T ++ oneB x.size) ++ x).data.toList = catP (l.take (j + 1)) := by
        rw [htk, catP_snoc, cat_list, cat_list, HT.out, List.append_assoc]
        rfl
      have hns : ((T ++ oneB x.size) ++ x).size ≤ (j + 1) * 256 := by
        rw [ByteArray.size_append, ByteArray.size_append, oneB_size]; omega
      obtain ⟨o, ho⟩ : ∃ o, o = oneB x.size := ⟨_, rfl⟩
      have hos : o.size = 1 := by rw [ho, oneB_size]
      rw [← ho] at hnew hns hcv
      have HNEW := Lib.hid hnew
      have hm1 : ¬9223372036854775807 < T.size + o.size := by omega
      have hm2 : ¬9223372036854775807 < (T ++ o).size + x.size := by rw [ByteArray.size_append]; omega
      have hm3 : ¬9223372036854775807 < T.size + o.size + x.size := by omega
      have HNS := Lib.hid hns
      have HC := Lib.hid hC
      clear hcl hxx htk hnew hns ho hC HT H
      go_wp2_with fail
      have n0 : wr.heap.size ≠ g := Nat.ne_of_gt (World.block_lt_of_cell? wr _ d0)
      have a0 : (wr.alloc (.cells #[.int .u8 (x.size : Int)] 5)).drew.cell? ⟨g, j, none⟩ = some (.string x) := ((Chg.refl [] wr).alloc _).drew.cell d0 (by simp)
      apply wp_oneN
      case h =>
        go_region_with (fail)
        all_goals exact ⟨rfl, rfl⟩
      case k =>
        clear d0 n0 a0 hcv
        go_wp2
        go_roundw
        case rel => exact ⟨j + 1, _, by omega, by go_num, rfl, HNEW, HNS.out, (HC.out.drew).alloc _⟩
        case measure => simp [intOf] <;> omega
    · obtain rfl : j = l.length := by omega
      have hm1 : ¬9223372036854775807 < T.size + (⟨#[0]⟩ : ByteArray).size := by have : (⟨#[0]⟩ : ByteArray).size = 1 := rfl; omega
      have hm2 : ¬9223372036854775807 < T.size + 1 := by omega
      have e : T ++ ⟨#[0]⟩ = t := by
        refine ba_ext ?_
        rw [cat_list, HT.out, ht.out, List.take_of_length_le (Nat.le_refl _)]
      subst e
      clear HT ht
      go_wp2
      go_ret
      exact ⟨rfl, hC⟩

end Go.Proofs.Ytgdnfempcjlipaa

namespace Go.Proofs.Ytgdnfempcjlipaa
open Go.RowKit

set_option maxRecDepth 100000 in
theorem mayF_in {l : List UInt8} {f i : Nat} (h : mayF l f i = true) : i < l.length := by
  rcases Nat.lt_or_ge i l.length with hh | hh
  · exact hh
  · rw [mayF_out l f i hh] at h; cases h
set_option maxRecDepth 100000 in
theorem extract_list (s : ByteArray) (i j : Nat) : (s.extract i j).data.toList = (s.data.toList.drop i).take (j - i) := by
  rw [ByteArray.data_extract, Array.toList_extract, List.extract_eq_take_drop]
set_option maxRecDepth 100000 in
theorem lab_cat (s : ByteArray) : ∀ f i, mayF s.data.toList f i = true → catP ((labA s f i).map lowS) ++ [0] = lowL (s.data.toList.drop i) ∧ ∀ x ∈ labA s f i, x.size ≤ 63
  | 0, i, h => by simp [mayF] at h
  | f + 1, i, h => by
    have hi := mayF_in h
    have his : i < s.size := by rw [← size_list]; exact hi
    rw [mayF, dif_pos hi] at h
    rw [labA, dif_pos his]
    have hc : s.data.toList[i] = s[i] := rfl
    rw [hc] at h
    have hdr : s.data.toList.drop i = s[i] :: s.data.toList.drop (i + 1) := by rw [List.drop_eq_getElem_cons hi, hc]
    by_cases h0 : s[i].toNat = 0
    · rw [if_pos h0] at h
      rw [if_pos h0]
      have hend : i + 1 = s.data.toList.length := by simpa using h
      have e0 : s[i] = 0 := by apply UInt8.toNat_inj.1; rw [h0]; rfl
      refine ⟨?_, by simp⟩
      rw [hdr, List.drop_of_length_le (by omega), e0]
      rfl
    · rw [if_neg h0] at h
      rw [if_neg h0]
      by_cases h1 : 63 < s[i].toNat
      · rw [if_pos h1] at h; cases h
      · rw [if_neg h1] at h
        obtain ⟨ih1, ih2⟩ := lab_cat s f _ h
        have hin := mayF_in h
        have hxl : (s.extract (i + 1) (i + 1 + s[i].toNat)).data.toList = (s.data.toList.drop (i + 1)).take s[i].toNat := by
          rw [extract_list]; congr 1; omega
        have hxs : (s.extract (i + 1) (i + 1 + s[i].toNat)).size = s[i].toNat := by
          rw [← size_list, hxl, List.length_take, List.length_drop]; omega
        refine ⟨?_, fun x hx => ?_⟩
        · rw [List.map_cons]
          have e1 : catP (lowS (s.extract (i + 1) (i + 1 + s[i].toNat)) :: (labA s f (i + 1 + s[i].toNat)).map lowS) = (UInt8.ofNat (lowS (s.extract (i + 1) (i + 1 + s[i].toNat))).size :: (lowS (s.extract (i + 1) (i + 1 + s[i].toNat))).data.toList) ++ catP ((labA s f (i + 1 + s[i].toNat)).map lowS) := by simp [catP]
          rw [e1, List.append_assoc, ih1, lowS_size, lowS_list, hxs, hxl, hdr, UInt8.ofNat_toNat]
          have e2 : lowL (s[i] :: s.data.toList.drop (i + 1)) = s[i] :: lowL (s.data.toList.drop (i + 1)) := by
            unfold lowL
            rw [List.map_cons, lowC_small (by omega)]
          have e3 : lowL (s.data.toList.drop (i + 1)) = lowL ((s.data.toList.drop (i + 1)).take s[i].toNat) ++ lowL (s.data.toList.drop (i + 1 + s[i].toNat)) := by
            unfold lowL
            rw [← List.map_append]
            congr 1
            have e4 : s.data.toList.drop (i + 1 + s[i].toNat) = (s.data.toList.drop (i + 1)).drop s[i].toNat := by rw [List.drop_drop]
            rw [e4, List.take_append_drop]
          rw [e2, e3]
          rfl
        · rcases List.mem_cons.1 hx with rfl | hx
          · rw [hxs]; omega
          · exact ih2 x hx
set_option maxRecDepth 100000 in
theorem labA_len (s : ByteArray) : ∀ f i, (labA s f i).length ≤ s.size - i
  | 0, i => by simp [labA]
  | f + 1, i => by
    rw [labA]
    split
    · split
      · simp
      · have := labA_len s f (i + 1 + s[i].toNat)
        simp only [List.length_cons]
        omega
    · simp
def FolR (L : List ByteArray) (w : World) (v i : Value) (wr : World) : Prop := ∃ j : Nat, j ≤ L.length ∧ i = .int .i64 (j : Nat) ∧ R.OwnR 9 1 tV w.heap.size wr v ((L.take j).map lowS) ∧ Chg [] w wr
set_option maxRecDepth 100000 in
set_option maxHeartbeats 2000000 in
theorem rfold_any (s t : ByteArray) (w : World) (hs : s.size ≤ 100000) (ht : Hid (t = foldS s)) :
    Calls Try.prog 61 #[.string s] w fun e w' => e = .returned (.string t) ∧ Chg [] w w' := by
  obtain ⟨b, hb⟩ : ∃ b, b = mayB s.data.toList := ⟨_, rfl⟩
  go_enter Try.func61, Try.ntmps61
  go_wp2_with fail
  refine (rlabels_any s b w hs (Lib.hid hb)).mono ?_
  rintro e w1 ⟨hc1, h⟩
  rcases h with ⟨rfl, rfl⟩ | ⟨rfl, v, rfl, ho⟩
  · have e : t = ⟨#[]⟩ := by rw [ht.out]; unfold foldS foldL; rw [← hb]; rfl
    subst e
    clear ht hb
    go_wp2
    go_ret
    exact ⟨rfl, hc1⟩
  · have hml := mayB_len hb.symm
    rw [size_list] at hml
    have hmf : mayF s.data.toList (s.size + 1) 0 = true := by
      have := hb
      unfold mayB at this
      rw [size_list] at this
      simp at this
      exact this.2
    obtain ⟨hcat, hsz⟩ := lab_cat s _ _ hmf
    have ht2 : t.data.toList = catP ((labA s (s.size + 1) 0).map lowS) ++ [0] := by
      rw [hcat, ht.out]; unfold foldS foldL; rw [← hb]; simp
    obtain ⟨L, hL⟩ : ∃ L, L = labA s (s.size + 1) 0 := ⟨_, rfl⟩
    have hLl : L.length ≤ 1000 := by rw [hL]; have := labA_len s (s.size + 1) 0; omega
    rw [← hL] at ho hsz ht2
    have HSZ := Lib.hid hsz
    have HT := Lib.hid ht2
    have HO := Lib.hid ho
    obtain ⟨la, lc, rfl⟩ := ho.len
    obtain ⟨i0, hi0, hz0, hz1, hz2⟩ := info_parts Try.elemStrN
    clear ho hsz ht2 hcat hmf ht hb hL hml
    go_wp2_with fail
    go_loopw [5, 6] (FolR L w1) (fun _ i _ => L.length - (intOf i).toNat)
    case atStart => exact ⟨0, Nat.zero_le _, rfl, R.OwnR.nil _ _ _ _ _, Chg.refl _ _⟩
    case round =>
      obtain ⟨j, hj, rfl, hown, hC⟩ := hrel
      have hlj : ((L.take j).map lowS).length = j := by simp; omega
      obtain ⟨va, vc, rfl⟩ := hown.len
      rw [hlj]
      by_cases hlt : j < L.length
      · obtain ⟨g, c, hv, _, _, hcl⟩ := HO.out.cells tV_len (by omega)
        have hv1 := (Value.slice.inj hv).1
        clear hv
        subst hv1
        obtain ⟨x, hxx⟩ : ∃ x, x = L[j] := ⟨_, rfl⟩
        have d0 := hC.cell (hcl j hlt 0 (.string x) (by rw [← hxx]; rfl)) (by simp)
        rw [Nat.mul_one, Nat.add_zero] at d0
        have hxs : x.size ≤ 63 := by rw [hxx]; exact HSZ.out _ (List.getElem_mem hlt)
        have htk : (L.take (j + 1)).map lowS = (L.take j).map lowS ++ [lowS x] := by rw [List.take_succ_eq_append_getElem hlt, ← hxx, List.map_append]; rfl
        have HTK := Lib.hid htk
        have HOWN := Lib.hid hown
        have HLJ := Lib.hid hlj
        have HC := Lib.hid hC
        clear hcl hxx htk hown hlj hC
        go_wp2_with fail
        refine (rlow_any x wr (by omega)).mono ?_
        rintro e w2 ⟨rfl, hc2⟩
        obtain ⟨y, hy⟩ : ∃ y, y = lowS x := ⟨_, rfl⟩
        rw [← hy]
        have hO2 := HOWN.out.same (hc2.trans ((Chg.refl [] w2).alloc (.cells #[.string y] 9)))
        have hown2 : (w2.alloc (.cells #[.string y] 9)).ownsRow w1.heap.size 9 1 (.slice va j vc) j (((L.take j).map lowS).flatMap tV) := by
          unfold R.OwnR at hO2
          rw [HLJ.out] at hO2
          exact hO2
        have hcw := HC.out.trans (hc2.trans ((Chg.refl [] w2).alloc (.cells #[.string y] 9)))
        have HOWN2 := Lib.hid hown2
        have HLO := Lib.hid (fun g hg => (HOWN.out.blk g hg).1)
        have HCW := Lib.hid hcw
        have HSZW := Lib.hid hcw.size
        have HY := Lib.hid hy
        rw [HLJ.out] at HLO
        clear hO2 hown2 hc2 hcw hy d0
        go_wp2_with (first
          | (at_builtin; go_must (refine wpList_append_lies _ rfl _ _ 81 rfl w1.heap.size 9 i0 (.string ⟨#[]⟩) 1 16 Try.underlying81 hi0 hz0 hz1 hz2 rfl (by omega) _ _ _ rfl HOWN2.out ⟨_, 0, none⟩ 1 1 [.string y] rfl rfl ?_ ?_ (by omega) (by unfold maxLen; omega) (by omega) HSZW.out _ rfl ?_))
          | fail)
        · exact fun j u hu => World.news_of_block (heap_new _ _) j u (by simpa using hu)
        · intro u hu
          simp at hu
          subst hu
          rfl
        · intro g7 c7 w7 ho7 hg7 _ _
          have ho : R.OwnR 9 1 tV w1.heap.size w7 (.slice (some ⟨g7, 0, none⟩) (j + 1) c7) ((L.take (j + 1)).map lowS) := by
            rw [HTK.out, ← HY.out]
            refine R.OwnR.snoc ?_
            rw [HLJ.out]
            try rw [← List.map_take] at ho7
            exact ho7
          have hc : Chg [] w1 w7 := R.chg_grown HCW.out hg7 HLO.out
          have HO7 := Lib.hid ho
          have HC7 := Lib.hid hc
          clear ho hc ho7 hg7
          go_wp2
          go_roundw
          case rel => exact ⟨j + 1, by omega, by go_num, HO7.out, HC7.out⟩
          case measure => simp [intOf] <;> omega
      · obtain rfl : j = L.length := by omega
        rw [List.take_of_length_le (Nat.le_refl _)] at hown
        have hl2 : (L.map lowS).length = L.length := by simp
        rw [hl2] at hown
        have HOWN := Lib.hid hown
        clear hown hlj hl2
        go_wp2_with fail
        refine (rbytes_any w1.heap.size _ (L.map lowS) t wr ?_ (by simp; omega) ?_ HT).mono ?_
        · exact HOWN.out
        · intro x hx
          obtain ⟨y, hy, rfl⟩ := List.mem_map.1 hx
          rw [lowS_size]
          have := HSZ.out y hy
          omega
        rintro e w3 ⟨rfl, hc3⟩
        go_wp2
        go_ret
        exact ⟨rfl, (hc1.trans hC).trans hc3⟩
set_option maxRecDepth 100000 in
theorem rsame_any (s t : ByteArray) (b : Bool) (w : World) (hs : s.size ≤ 100000) (ht : t.size ≤ 100000) (hb : Hid (b = (mayB s.data.toList && mayB t.data.toList && decide (foldS s = foldS t)))) :
    Calls Try.prog 37 #[.string s, .string t] w fun e w' => e = .returned (.bool b) ∧ Chg [] w w' := by
  obtain ⟨b1, h1⟩ : ∃ b1, b1 = mayB s.data.toList := ⟨_, rfl⟩
  obtain ⟨b2, h2⟩ : ∃ b2, b2 = mayB t.data.toList := ⟨_, rfl⟩
  have h3 := hb.out
  rw [← h1, ← h2] at h3
  have H1 := Lib.hid h1
  have H2 := Lib.hid h2
  clear hb h1 h2
  go_enter Try.func37, Try.ntmps37
  go_wp2_with fail
  refine (rmay_any s b1 w hs H1).mono ?_
  rintro e w1 ⟨rfl, hc1⟩
  cases b1 with
  | false =>
    have : b = false := by rw [h3]; rfl
    subst this
    clear h3
    go_wp2
    go_ret
    exact ⟨rfl, hc1⟩
  | true =>
    go_wp2_with fail
    refine (rmay_any t b2 w1 ht H2).mono ?_
    rintro e w2 ⟨rfl, hc2⟩
    cases b2 with
    | false =>
      have : b = false := by rw [h3]; rfl
      subst this
      clear h3
      go_wp2
      go_ret
      exact ⟨rfl, hc1.trans hc2⟩
    | true =>
      have hbe : b = decide (foldS s = foldS t) := by rw [h3]; rfl
      obtain ⟨x, hx⟩ : ∃ x, x = foldS s := ⟨_, rfl⟩
      obtain ⟨y, hy⟩ : ∃ y, y = foldS t := ⟨_, rfl⟩
      rw [← hx, ← hy] at hbe
      have HX := Lib.hid hx
      have HY := Lib.hid hy
      clear h3 hx hy
      go_wp2_with fail
      refine (rfold_any s x w2 hs HX).mono ?_
      rintro e w3 ⟨rfl, hc3⟩
      go_wp2_with fail
      refine (rfold_any t y w3 ht HY).mono ?_
      rintro e w4 ⟨rfl, hc4⟩
      have hc := ((hc1.trans hc2).trans hc3).trans hc4
      have hd : (x.toList == y.toList) = b := by
        rw [ByteArray.toList_eq, ByteArray.toList_eq, hbe]
        by_cases e : x = y
        · subst e; simp
        · have h1 : (x.data.toList == y.data.toList) = false := beq_eq_false_iff_ne.2 fun h => e (ba_ext h)
          rw [h1, decide_eq_false e]
      clear hbe hc1 hc2 hc3 hc4
      go_wp2
      go_ret
      exact ⟨rfl, hc⟩

end Go.Proofs.Ytgdnfempcjlipaa
