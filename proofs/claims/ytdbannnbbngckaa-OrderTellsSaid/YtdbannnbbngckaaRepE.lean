/- The walks of package repute: New, May, Due, Back, Copy. -/
import Derived.Test.YtdbannnbbngckaaRepD
import Derived.Test.YtdbannnbbngckaaOwn
namespace Go.Proofs.Ytdbannnbbngckaa
open Go.RowKit

theorem may_nil (w : World) :
    Calls Try.prog 21 #[.pointer none] w fun e w' => e = .returned (.slice none 0 0) ∧ w = w' := by
  go_enter Try.func21, Try.ntmps21
  go_wp2
  go_ret
  exact ⟨rfl, rfl⟩
theorem back_nil (n : Int) (w : World) :
    Calls Try.prog 16 #[.pointer none, .int .i64 n] w fun e w' => e = .returned (.slice none 0 0) ∧ w = w' := by
  go_enter Try.func16, Try.ntmps16
  go_wp2
  go_ret
  exact ⟨rfl, rfl⟩
theorem len_nil (w : World) :
    Calls Try.prog 29 #[.pointer none] w fun e w' => e = .returned (.int .i64 0) ∧ w = w' := by
  go_enter Try.func29, Try.ntmps29
  go_wp2
  go_ret
  exact ⟨rfl, rfl⟩
theorem copy_nil (w : World) :
    Calls Try.prog 28 #[.pointer none] w fun e w' => e = .returned (.pointer none) ∧ w = w' := by
  go_enter Try.func28, Try.ntmps28
  go_wp2
  go_ret
  exact ⟨rfl, rfl⟩

theorem idx_step (f : Up → Bool) (us : List Up) (k : Nat) (h : k < us.length) : idxN f 0 (us.take (k + 1)) = idxN f 0 (us.take k) ++ (if f us[k] then [k] else []) := by
  rw [List.take_succ_eq_append_getElem h, idxN_snoc]
  have : (us.take k).length = k := by simp; omega
  rw [this, Nat.zero_add]
theorem idx_le (f : Up → Bool) (us : List Up) (k : Nat) : (idxN f 0 (us.take k)).length ≤ k := Nat.le_trans (idxN_len f _ 0) (List.length_take_le _ _)

def MayR (us : List Up) (w : World) (v i : Value) (wr : World) : Prop :=
  ∃ k : Nat, k ≤ us.length ∧ i = .int .i64 k ∧ OwnI w.heap.size wr v (idxN free 0 (us.take k)) ∧ Chg [] w wr

set_option maxRecDepth 100000 in
set_option maxHeartbeats 1000000 in
theorem may_any (b r L R : Nat) (us : List Up) (w : World) (h : Book w b r L R us) :
    Calls Try.prog 21 #[.pointer (some ⟨b, 0, none⟩)] w fun e w' => ∃ v, e = .returned v ∧ OwnI w.heap.size w' v (mayN us) ∧ Chg [] w w' := by
  obtain ⟨cap, hcap, c2⟩ := h.c2
  have hlen := h.len
  obtain ⟨i0, hi0, hz0, hz1, hz2⟩ := info_parts Try.elemInt
  go_enter Try.func21, Try.ntmps21
  go_wp2
  go_loopw [3, 13] (MayR us w) (fun _ i _ => us.length - (intOf i).toNat)
  case atStart => exact ⟨0, Nat.zero_le _, rfl, ⟨rfl, .inl ⟨rfl, rfl⟩⟩, Chg.refl _ _⟩
  case round =>
    obtain ⟨k, hk, rfl, hown, hC⟩ := hrel
    have hle := idx_le free us k
    by_cases hlt : k < us.length
    · have hst := idx_step free us k hlt
      obtain ⟨l, hl⟩ : ∃ l, l = idxN free 0 (us.take k) := ⟨_, rfl⟩
      rw [← hl] at hst hown hle
      obtain ⟨av, cv, hv⟩ := owns_len hown
      have hni : (k : Int) < (us.length : Int) := by omega
      obtain ⟨o0, o1, o2, o3, o4, o5, o6⟩ := (h.chg hC (by simp) (by simp)).row.one k hlt
      obtain ⟨p, hp⟩ : ∃ p, p = us[k] := ⟨_, rfl⟩
      rw [← hp] at o0 o1 o2 o3 o4 o5 o6 hst
      have HST := Lib.hid hst
      have HOWN := Lib.hid hown
      clear hst hl hp c2 hown
      rw [hv] at HOWN ⊢
      clear hv
      by_cases hr : p.rests = true
      · have HRR : Hid (free p = false) := Lib.hid (by simp [free, hr])
        go_wp2
        go_roundw
        case rel =>
          refine ⟨k + 1, hlt, by go_num, ?_, hC.alloc _⟩
          rw [HST.out, HRR.out, if_neg (by decide), List.append_nil]
          exact HOWN.out.alloc _
        case measure => simp [intOf] <;> omega
      · have hr' : p.rests = false := by simpa using hr
        have HRR : Hid (free p = true) := Lib.hid (by simp [free, hr'])
        clear hr
        go_wp2_with (at_builtin; go_must (refine wpList_append_own _ rfl _ _ 32 rfl w.heap.size 3 i0 (.int .i64 0) 1 8 Try.underlying32 hi0 hz0 hz1 hz2 rfl (by decide) _ l.length _ rfl ((HOWN.out.alloc _).alloc _) ⟨wr.heap.size + 1, 0, none⟩ 1 1 [.int .i64 (k : Nat)] rfl rfl ?_ (by simp [Value.oneCell']) (by unfold maxLen; omega) (by omega) (by have := hC.size; simp; omega) ?_; (intro j u hj; match j, hj with | 0, hj => (simp at hj; subst hj; exact (cell_of (heap_new' _ _ _ (by simp))).trans rfl) | j + 1, hj => (simp at hj))); go_must (intro v1 w1 hown1 hg1 _; have hc1 := ((hC.alloc (.cells #[.int .i64 p.score, .int .i64 p.agree, .int .i64 p.dissent, .int .i64 p.silent, .bool false, .bool p.trial, .int .i64 p.til] 63)).alloc (.cells #[.int .i64 (k : Nat)] 3)).grown hg1 (owns_block HOWN.out)))
        go_roundw
        case rel =>
          refine ⟨k + 1, hlt, by go_num, ?_, hc1⟩
          rw [HST.out, HRR.out, if_pos rfl]
          exact OwnI.snoc hown1
        case measure => simp [intOf] <;> omega
    · obtain rfl : k = us.length := by omega
      rw [List.take_of_length_le (Nat.le_refl _)] at hown
      obtain ⟨l, hl⟩ : ∃ l, l = idxN free 0 us := ⟨_, rfl⟩
      rw [← hl] at hown
      have HL : Hid (mayN us = l) := Lib.hid (by rw [hl]; rfl)
      clear hl
      obtain ⟨av, cv, rfl⟩ := owns_len hown
      have HOWN := Lib.hid hown
      clear hown
      go_wp2
      go_ret
      rw [HL.out]
      exact ⟨_, rfl, HOWN.out, hC⟩

end Go.Proofs.Ytdbannnbbngckaa
