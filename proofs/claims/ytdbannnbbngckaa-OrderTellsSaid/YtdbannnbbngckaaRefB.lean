/- The document's book: May, Due. -/
import Derived.Test.YtdbannnbbngckaaRefA
namespace Go.Proofs.Ytdbannnbbngckaa
open Go.RowKit

set_option maxRecDepth 100000 in
set_option maxHeartbeats 1000000 in
theorem rmay_any (b r L R : Nat) (us : List Up) (w : World) (h : RBook w b r L R us) (l : List Nat) (hl : Hid (mayN us = l)) :
    Calls Try.prog 44 #[.pointer (some ⟨b, 0, none⟩)] w (MayPost l w) := by
  have hlen := h.len
  obtain ⟨i0, hi0, hz0, hz1, hz2⟩ := info_parts Try.elemInt
  go_enter Try.func44, Try.ntmps44
  go_wp2
  go_loopw [3, 4] (MayR us w) (fun _ i _ => us.length - (intOf i).toNat)
  case atStart => exact ⟨0, Nat.zero_le _, rfl, ⟨rfl, .inl ⟨rfl, rfl⟩⟩, Chg.refl _ _⟩
  case round =>
    obtain ⟨k, hk, rfl, hown, hC⟩ := hrel
    have hle := idx_le free us k
    have h1 := h.chg hC (by simp) (by simp)
    obtain ⟨cap, hcap, c2⟩ := h1.c2
    by_cases hlt : k < us.length
    · have hst := idx_step free us k hlt
      obtain ⟨m, hm⟩ : ∃ l, l = idxN free 0 (us.take k) := ⟨_, rfl⟩
      rw [← hm] at hst hown hle
      obtain ⟨av, cv, hv⟩ := owns_len hown
      have hni : (k : Int) < (us.length : Int) := by omega
      have o4 := (h1.row.one k hlt).c4
      obtain ⟨p, hp⟩ : ∃ p, p = us[k] := ⟨_, rfl⟩
      rw [← hp] at o4 hst
      have HST := Lib.hid hst
      have HOWN := Lib.hid hown
      clear hst hm hp hown
      rw [hv] at HOWN ⊢
      clear hv
      by_cases hr : p.rests = true
      · have HRR : Hid (free p = false) := Lib.hid (by simp [free, hr])
        go_wp2
        go_roundw
        case rel =>
          refine ⟨k + 1, hlt, by go_num, ?_, hC⟩
          rw [HST.out, HRR.out, if_neg (by decide), List.append_nil]
          exact HOWN.out
        case measure => simp [intOf] <;> omega
      · have hr' : p.rests = false := by simpa using hr
        have HRR : Hid (free p = true) := Lib.hid (by simp [free, hr'])
        clear hr
        go_wp2_with (at_builtin; go_must (refine wpList_append_own _ rfl _ _ 32 rfl w.heap.size 3 i0 (.int .i64 0) 1 8 Try.underlying32 hi0 hz0 hz1 hz2 rfl (by decide) _ m.length _ rfl (HOWN.out.alloc _) ⟨wr.heap.size, 0, none⟩ 1 1 [.int .i64 (k : Nat)] rfl rfl (cell_one_new _ _ _) (by simp [Value.oneCell']) (by unfold maxLen; omega) (by omega) (by have := hC.size; simp; omega) ?_); go_must (intro v1 w1 hown1 hg1 _; have hc1 := (hC.alloc (.cells #[.int .i64 (k : Nat)] 3)).grown hg1 (owns_block HOWN.out)))
        go_roundw
        case rel =>
          refine ⟨k + 1, hlt, by go_num, ?_, hc1⟩
          rw [HST.out, HRR.out, if_pos rfl]
          exact OwnI.snoc hown1
        case measure => simp [intOf] <;> omega
    · obtain rfl : k = us.length := by omega
      rw [List.take_of_length_le (Nat.le_refl _), show idxN free 0 us = l from hl.out] at hown
      obtain ⟨av, cv, rfl⟩ := owns_len hown
      have HOWN := Lib.hid hown
      clear hown
      go_wp2
      go_ret
      exact ⟨_, _, rfl, HOWN.out, hC⟩

end Go.Proofs.Ytdbannnbbngckaa
