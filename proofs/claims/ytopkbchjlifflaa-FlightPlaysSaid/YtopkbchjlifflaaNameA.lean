/- The walks of names: May, lower, Fold. -/
import Derived.Test.YtopkbchjlifflaaChecked
import Derived.Test.YtopkbchjlifflaaMem
import Derived.Test.YtopkbchjlifflaaNamePl
import Derived.WalkLawsBesides
import Derived.WalkSpells
import Derived.Outline
import Derived.Laws.IdiomStrings
import Derived.IntWalk
namespace Go.Proofs.Ytopkbchjlifflaa
open Go.RowKit

theorem size_list (s : ByteArray) : s.data.toList.length = s.size := Array.length_toList
def MayR (l : List UInt8) (b : Bool) (v : Value) : Prop := ∃ i f : Nat, v = .int .i64 (i : Nat) ∧ i ≤ 400 ∧ Hid (mayF l f i = b) ∧ l.length < f + i
theorem may_any (s : ByteArray) (b : Bool) (w : World) (hs : s.size ≤ maxLen) (hb : Hid (b = mayB s.data.toList)) :
    Calls Try.prog 34 #[.string s] w fun e w' => e = .returned (.bool b) ∧ w = w' := by
  unfold maxLen at hs
  have hsl := size_list s
  by_cases h0 : s.size = 0
  · have eb : b = false := by rw [hb.out]; unfold mayB; rw [hsl, h0]; rfl
    subst eb
    have t0 : ((s.size : Int) == 0) = true := by rw [h0]; rfl
    clear hb hsl
    go_enter Try.func34, Try.ntmps34
    go_wp2
    go_ret
    exact ⟨rfl, rfl⟩
  have t0 : ((s.size : Int) == 0) = false := beq_eq_false_iff_ne.2 (by omega)
  by_cases h1 : 255 < s.size
  · have eb : b = false := by
      rw [hb.out]; unfold mayB; rw [hsl]
      have : decide (0 < s.size ∧ s.size ≤ 255) = false := by simp; omega
      rw [this]; rfl
    subst eb
    have t1 : decide (255 < s.size) = true := by simpa using h1
    have t1I : decide ((255 : Int) < (s.size : Int)) = true := by simp; omega
    clear hb hsl
    go_enter Try.func34, Try.ntmps34
    go_wp2
    go_ret
    exact ⟨rfl, rfl⟩
  have t1 : decide (255 < s.size) = false := by simpa using h1
  have t1I : decide ((255 : Int) < (s.size : Int)) = false := by simp; omega
  have hle : s.size ≤ 255 := by omega
  have hm : mayF s.data.toList (s.size + 1) 0 = b := by
    rw [hb.out]; unfold mayB; rw [hsl]
    have : decide (0 < s.size ∧ s.size ≤ 255) = true := by simp; omega
    rw [this, Bool.true_and]
  have HM := Lib.hid hm
  have HSL := Lib.hid hsl
  clear hb hm hsl h1
  go_enter Try.func34, Try.ntmps34
  go_wp2_with fail
  go_loop [3] (MayR s.data.toList b) (fun v => 401 - (intOf v).toNat)
  case atStart => exact ⟨0, s.size + 1, rfl, by omega, HM, by rw [HSL.out]; omega⟩
  case round =>
    clear HM
    obtain ⟨i, f, rfl, hi, hf, hfl⟩ := hrel
    rw [HSL.out] at hfl
    by_cases hlt : i < s.size
    · obtain ⟨f', rfl⟩ : ∃ f', f = f' + 1 := ⟨f - 1, by omega⟩
      have e := hf.out
      rw [mayF, dif_pos (by rw [HSL.out]; exact hlt)] at e
      have hc : s.data.toList[i]'(by rw [HSL.out]; exact hlt) = s[i] := rfl
      rw [hc, HSL.out] at e
      obtain ⟨c, hcc⟩ : ∃ c : Nat, c = s[i].toNat := ⟨_, rfl⟩
      have hc8 : c < 256 := by rw [hcc]; exact UInt8.toNat_lt _
      rw [← hcc] at e
      have HE := Lib.hid e
      have HCC := Lib.hid hcc
      clear e hc hf
      by_cases hc0 : c = 0
      · have tb : b = decide (i + 1 = s.size) := by have := HE.out; rw [if_pos hc0] at this; exact this.symm
        have tc : s[i].toNat = 0 := by rw [← HCC.out]; exact hc0
        clear HE hcc hc0 HCC
        by_cases hend : i + 1 = s.size
        · have tb' : b = true := by rw [tb]; simpa using hend
          subst tb'
          have te : ((i : Int) == (s.size : Int) - 1) = true := beq_iff_eq.2 (by omega)
          clear tb
          go_wp2
          go_ret
          exact ⟨rfl, rfl⟩
        · have tb' : b = false := by rw [tb]; simpa using hend
          subst tb'
          have te : ((i : Int) == (s.size : Int) - 1) = false := beq_eq_false_iff_ne.2 (by omega)
          clear tb
          go_wp2
          go_ret
          exact ⟨rfl, rfl⟩
      · have tc0 : ((s[i].toNat : Int) == 0) = false := by rw [← HCC.out]; simp; omega
        by_cases hc1 : 63 < c
        · have tb : b = false := by have := HE.out; rw [if_neg hc0, if_pos hc1] at this; exact this.symm
          subst tb
          have hcb : s[i].toNat ≤ 255 := by rw [← HCC.out]; omega
          have tc1 : decide (63 < s[i].toNat) = true := by rw [← HCC.out]; simpa using hc1
          have tc1I : decide ((63 : Int) < (s[i].toNat : Int)) = true := by rw [← HCC.out]; simp; omega
          clear HE hcc hc0 HCC
          go_wp2
          go_ret
          exact ⟨rfl, rfl⟩
        · have hnew : mayF s.data.toList f' (i + 1 + c) = b := by have := HE.out; rw [if_neg hc0, if_neg hc1] at this; exact this
          have HNEW := Lib.hid hnew
          have tc1 : decide (63 < s[i].toNat) = false := by rw [← HCC.out]; simpa using hc1
          have tc1I : decide ((63 : Int) < (s[i].toNat : Int)) = false := by rw [← HCC.out]; simp; omega
          have hcb : s[i].toNat ≤ 63 := by rw [← HCC.out]; omega
          clear HE hcc hc0 hnew
          go_wp2
          go_round
          case rel => exact ⟨i + 1 + c, f', by rw [HCC.out]; go_num, by omega, HNEW, by rw [HSL.out]; omega⟩
          case measure => have := HCC.out; simp [intOf] <;> omega
    · have tb : b = false := by
        have e := hf.out
        cases f with
        | zero => exact e.symm
        | succ f =>
          rw [mayF, dif_neg (by rw [HSL.out]; exact hlt)] at e
          exact e.symm
      subst tb
      clear hf
      go_wp2
      go_ret
      exact ⟨rfl, rfl⟩

end Go.Proofs.Ytopkbchjlifflaa
