/- The document's names: Labels, May, Low, Bytes, Fold, Same. -/
import Derived.Test.YtopkbchjlifflaaNameB
import Derived.Test.YtopkbchjlifflaaRecRow
import Derived.Laws.IdiomStrings
import Derived.Deep.AppendLies
namespace Go.Proofs.Ytopkbchjlifflaa
open Go.RowKit

/-- The labels behind i. -/
def labA (s : ByteArray) : Nat → Nat → List ByteArray
  | 0, _ => []
  | f + 1, i => if h : i < s.size then (if s[i].toNat = 0 then [] else s.extract (i + 1) (i + 1 + s[i].toNat) :: labA s f (i + 1 + s[i].toNat)) else []
def tV (x : ByteArray) : List Value := [.string x]
theorem tV_len (x : ByteArray) : (tV x).length = 1 := rfl
theorem Try.elemStrN : (Try.prog.info? 9).map (fun i => (i.zero, i.size, i.bytes)) = some (some (.string ⟨#[]⟩), 1, 16) := by kernel_rfl
theorem slice_str (s : ByteArray) (i c : Nat) (W : World) (h : i + 1 + c ≤ s.size) :
    (Instr.slice 9 (.string s) (some (.int .i64 ((i : Int) + 1))) (some (.int .i64 ((i : Int) + 1 + (c : Int)))) none).run Try.prog W = .ok (.string (s.extract (i + 1) (i + 1 + c))) W := by
  have := run_slice_string (P := Try.prog) (w := W) 9 s .i64 .i64 ((i : Int) + 1) ((i : Int) + 1 + (c : Int)) Try.underlying9 (by omega) (by omega) (by omega)
  rw [this]
  have e1 : ((i : Int) + 1).toNat = i + 1 := by omega
  have e2 : ((i : Int) + 1 + (c : Int)).toNat = i + 1 + c := by omega
  rw [e1, e2]
def LabR (s : ByteArray) (m : Bool) (L : List ByteArray) (w : World) (v i : Value) (wr : World) : Prop :=
  ∃ (j f : Nat) (pre : List ByteArray), i = .int .i64 (j : Nat) ∧ j ≤ s.size ∧ R.OwnR 9 1 tV w.heap.size wr v pre ∧ pre.length ≤ j ∧ Hid (pre ++ labA s f j = L) ∧ Hid (mayF s.data.toList f j = m) ∧ s.size < f + j ∧ Chg [] w wr
theorem mayF_out (l : List UInt8) (f i : Nat) (h : l.length ≤ i) : mayF l f i = false := by
  cases f with
  | zero => rfl
  | succ f => rw [mayF, dif_neg (by omega)]
set_option maxRecDepth 100000 in
set_option maxHeartbeats 4000000 in
theorem rlabels_any (s : ByteArray) (b : Bool) (w : World) (hs : s.size ≤ 100000) (hb : Hid (b = mayB s.data.toList)) :
    Calls Try.prog 52 #[.string s] w fun e w' => Chg [] w w' ∧ ((b = false ∧ e = .returned (.tuple #[.slice none 0 0, .bool false])) ∨ (b = true ∧ ∃ v, e = .returned (.tuple #[v, .bool true]) ∧ R.OwnR 9 1 tV w.heap.size w' v (labA s (s.size + 1) 0))) := by
  have hsl := size_list s
  obtain ⟨m, hm⟩ : ∃ m, m = mayF s.data.toList (s.size + 1) 0 := ⟨_, rfl⟩
  obtain ⟨L, hL⟩ : ∃ L, L = labA s (s.size + 1) 0 := ⟨_, rfl⟩
  have hbm : b = (decide (0 < s.size ∧ s.size ≤ 255) && m) := by rw [hb.out]; unfold mayB; rw [hsl, hm]
  have HSL := Lib.hid hsl
  have HM : Hid (mayF s.data.toList (s.size + 1) 0 = m) := Lib.hid hm.symm
  have HL : Hid (([] : List ByteArray) ++ labA s (s.size + 1) 0 = L) := Lib.hid (by rw [hL]; rfl)
  have HBM := Lib.hid hbm
  obtain ⟨i0, hi0, hz0, hz1, hz2⟩ := info_parts Try.elemStrN
  rw [← hL]
  clear hsl hm hL hbm hb
  go_enter Try.func52, Try.ntmps52
  go_wp2_with fail
  go_loopw [4, 5] (LabR s m L w) (fun _ i _ => s.size + 1 - (intOf i).toNat)
  case atStart => exact ⟨0, s.size + 1, [], rfl, Nat.zero_le _, R.OwnR.nil _ _ _ _ _, Nat.le_refl _, HL, HM, by omega, Chg.refl _ _⟩
  case round =>
    clear HM HL
    obtain ⟨j, f, pre, rfl, hj, hO, hpl, HPL, HMF, hf, hC⟩ := hrel
    obtain ⟨va, vc, rfl⟩ := hO.len
    by_cases hlt : j < s.size
    · obtain ⟨f', rfl⟩ : ∃ f', f = f' + 1 := ⟨f - 1, by omega⟩
      have e := HMF.out
      rw [mayF, dif_pos (by rw [HSL.out]; exact hlt)] at e
      have hc : s.data.toList[j]'(by rw [HSL.out]; exact hlt) = s[j] := rfl
      rw [hc, HSL.out] at e
      have e2 := HPL.out
      rw [labA, dif_pos hlt] at e2
      obtain ⟨c, hcc⟩ : ∃ c : Nat, c = s[j].toNat := ⟨_, rfl⟩
      have hc8 : c < 256 := by rw [hcc]; exact UInt8.toNat_lt _
      rw [← hcc] at e e2
      have HE := Lib.hid e
      have HE2 := Lib.hid e2
      have HCC := Lib.hid hcc
      have HO := Lib.hid hO
      clear e e2 hc HMF HPL hO
      by_cases hc0 : c = 0
      · have tb : m = decide (j + 1 = s.size) := by have := HE.out; rw [if_pos hc0] at this; exact this.symm
        have eL : pre = L := by have := HE2.out; rw [if_pos hc0, List.append_nil] at this; exact this
        have tc : s[j].toNat = 0 := by rw [← hcc]; exact hc0
        subst eL
        clear HE HE2 hcc hc0 HCC
        by_cases hend : j + 1 = s.size
        · have te : ((j : Int) != (s.size : Int) - 1) = false := by simp; omega
          by_cases h255 : 255 < s.size
          · have t1 : decide (255 < s.size) = true := by simpa using h255
            have t1I : decide ((255 : Int) < (s.size : Int)) = true := by simp; omega
            have hbf : b = false := by rw [HBM.out]; simp; intros; omega
            clear tb hend h255
            go_wp2
            go_ret2
            exact ⟨hC, .inl ⟨hbf, rfl⟩⟩
          · have t1 : decide (255 < s.size) = false := by simpa using h255
            have t1I : decide ((255 : Int) < (s.size : Int)) = false := by simp; omega
            have hbt : b = true := by rw [HBM.out, tb]; simp; omega
            clear tb hend h255
            go_wp2
            go_ret2
            exact ⟨hC, .inr ⟨hbt, _, rfl, HO.out⟩⟩
        · have te : ((j : Int) != (s.size : Int) - 1) = true := by simp; omega
          have hbf : b = false := by rw [HBM.out, tb]; simp [hend]
          clear tb hend
          go_wp2
          go_ret2
          exact ⟨hC, .inl ⟨hbf, rfl⟩⟩
      · have tc0 : ((s[j].toNat : Int) != 0) = true := by rw [← hcc]; simp; omega
        by_cases hc1 : 63 < c
        · have hbf : b = false := by have := HE.out; rw [if_neg hc0, if_pos hc1] at this; rw [HBM.out, ← this]; simp
          have hcb : s[j].toNat ≤ 255 := by rw [← hcc]; omega
          have tc1 : decide (63 < s[j].toNat) = true := by rw [← hcc]; simpa using hc1
          have tc1I : decide ((63 : Int) < (s[j].toNat : Int)) = true := by rw [← hcc]; simp; omega
          clear HE HE2 hcc hc0 HCC hc1 hc8
          go_wp2
          go_ret2
          exact ⟨hC, .inl ⟨hbf, rfl⟩⟩
        · have hnew : mayF s.data.toList f' (j + 1 + c) = m := by have := HE.out; rw [if_neg hc0, if_neg hc1] at this; exact this
          have hnew2 : pre ++ s.extract (j + 1) (j + 1 + c) :: labA s f' (j + 1 + c) = L := by have := HE2.out; rw [if_neg hc0] at this; exact this
          have tc1 : decide (63 < s[j].toNat) = false := by rw [← hcc]; simpa using hc1
          have tc1I : decide ((63 : Int) < (s[j].toNat : Int)) = false := by rw [← hcc]; simp; omega
          have hcb : s[j].toNat ≤ 63 := by rw [← hcc]; omega
          clear HE HE2
          by_cases hout : s.size < j + 1 + c
          · have t2 : decide (s.size < j + 1 + s[j].toNat) = true := by rw [← hcc]; simpa using hout
            have t2I : decide ((s.size : Int) < (j : Int) + 1 + (s[j].toNat : Int)) = true := by rw [← hcc]; simp; omega
            have hbf : b = false := by
              rw [mayF_out _ _ _ (by rw [HSL.out]; omega)] at hnew
              rw [HBM.out, ← hnew]; simp
            clear hcc hc0 HCC hc1 hc8 hnew hnew2 hout
            go_wp2
            go_ret2
            exact ⟨hC, .inl ⟨hbf, rfl⟩⟩
          · have t2 : decide (s.size < j + 1 + s[j].toNat) = false := by rw [← hcc]; simpa using hout
            have t2I : decide ((s.size : Int) < (j : Int) + 1 + (s[j].toNat : Int)) = false := by rw [← hcc]; simp; omega
            obtain ⟨x, hx⟩ : ∃ x, x = s.extract (j + 1) (j + 1 + c) := ⟨_, rfl⟩
            rw [← hx] at hnew2
            have hsli : ∀ W, (Instr.slice 9 (.string s) (some (.int .i64 ((j : Int) + 1))) (some (.int .i64 ((j : Int) + 1 + (s[j].toNat : Int)))) none).run Try.prog W = .ok (.string x) W := fun W => by
              rw [← hcc, hx]; exact slice_str s j c W (by omega)
            have HNEW := Lib.hid hnew
            have HNEW2 := Lib.hid hnew2
            have HC := Lib.hid hC
            have hjc : j + 1 + c ≤ s.size := by omega
            have hown : (wr.alloc (.cells #[.string x] 9)).ownsRow w.heap.size 9 1 (.slice va pre.length vc) pre.length (pre.flatMap tV) := (HO.out.same ((Chg.refl [] wr).alloc (.cells #[.string x] 9)))
            have hsz : w.heap.size ≤ (wr.alloc (.cells #[.string x] 9)).heap.size := (hC.alloc (.cells #[.string x] 9)).size
            have HOWN := Lib.hid hown
            have HSZ := Lib.hid hsz
            have HCC := Lib.hid hcc
            clear hc0 hc1 hnew hnew2 hout hx hown hsz hC hcc
            go_wp2_with (first
              | (at_builtin; go_must (refine wpList_append_lies _ rfl _ _ 100 rfl w.heap.size 9 i0 (.string ⟨#[]⟩) 1 16 Try.underlying100 hi0 hz0 hz1 hz2 rfl (by omega) _ _ _ rfl HOWN.out ⟨_, 0, none⟩ 1 1 [.string x] rfl rfl ?_ ?_ (by omega) (by unfold maxLen; omega) (by omega) HSZ.out _ rfl ?_))
              | fail)
            · exact fun j u hu => World.news_of_block (heap_new _ _) j u (by simpa using hu)
            · intro u hu
              simp at hu
              subst hu
              rfl
            · intro g7 c7 w7 ho7 hg7 _ _
              have ho : R.OwnR 9 1 tV w.heap.size w7 (.slice (some ⟨g7, 0, none⟩) (pre.length + 1) c7) (pre ++ [x]) := R.OwnR.snoc ho7
              have hc : Chg [] w w7 := R.chg_grown (HC.out.alloc _) hg7 (fun g hg => (HO.out.blk g hg).1)
              have HO7 := Lib.hid ho
              have HC7 := Lib.hid hc
              clear ho hc ho7 hg7 hsli
              go_wp2
              go_roundw
              case rel => exact ⟨j + 1 + c, f', pre ++ [x], by rw [HCC.out]; go_num, hjc, HO7.out, by simp; omega, Lib.hid (by rw [List.append_assoc]; exact HNEW2.out), HNEW, by omega, HC7.out⟩
              case measure => have := HCC.out; simp [intOf] <;> omega
    · have hje : j = s.size := by omega
      have hbf : b = false := by
        have := HMF.out
        rw [mayF_out _ _ _ (by rw [HSL.out]; omega)] at this
        rw [HBM.out, ← this]; simp
      have te : ((j : Int) != (s.size : Int) - 1) = true := by simp; omega
      clear HPL HMF hO
      go_wp2
      go_ret2
      exact ⟨hC, .inl ⟨hbf, rfl⟩⟩
theorem rmay_any (s : ByteArray) (b : Bool) (w : World) (hs : s.size ≤ 100000) (hb : Hid (b = mayB s.data.toList)) :
    Calls Try.prog 43 #[.string s] w fun e w' => e = .returned (.bool b) ∧ Chg [] w w' := by
  go_enter Try.func43, Try.ntmps43
  go_wp2_with fail
  refine (rlabels_any s b w hs hb).mono ?_
  rintro e w1 ⟨hc, h⟩
  rcases h with ⟨rfl, rfl⟩ | ⟨rfl, v, rfl, ho⟩
  · go_wp2
    go_ret
    exact ⟨rfl, hc⟩
  · clear ho
    go_wp2
    go_ret
    exact ⟨rfl, hc⟩

end Go.Proofs.Ytopkbchjlifflaa
