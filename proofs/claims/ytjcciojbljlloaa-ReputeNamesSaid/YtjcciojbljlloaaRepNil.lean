/- nil, and a book that nobody made. -/
import Derived.Test.YtjcciojbljlloaaRepI
import Derived.Test.YtjcciojbljlloaaRepPl3
namespace Go.Proofs.Ytjcciojbljlloaa
open Go.RowKit

theorem score_nil (u : Int) (w : World) :
    Calls Try.prog 18 #[.pointer none, .int .i64 u] w fun e w' => e = .returned (.int .i64 0) ∧ w = w' := by
  go_enter Try.func18, Try.ntmps18
  go_wp2_with (go_at_call 35; refine (has_nil u _).mono ?_; rintro e w' ⟨rfl, rfl⟩)
  go_ret
  exact ⟨rfl, rfl⟩
theorem rests_nil (u : Int) (w : World) :
    Calls Try.prog 14 #[.pointer none, .int .i64 u] w fun e w' => e = .returned (.bool false) ∧ w = w' := by
  go_enter Try.func14, Try.ntmps14
  go_wp2_with (go_at_call 35; refine (has_nil u _).mono ?_; rintro e w' ⟨rfl, rfl⟩)
  go_ret
  exact ⟨rfl, rfl⟩
theorem trial_nil (u : Int) (w : World) :
    Calls Try.prog 21 #[.pointer none, .int .i64 u] w fun e w' => e = .returned (.bool false) ∧ w = w' := by
  go_enter Try.func21, Try.ntmps21
  go_wp2_with (go_at_call 35; refine (has_nil u _).mono ?_; rintro e w' ⟨rfl, rfl⟩)
  go_ret
  exact ⟨rfl, rfl⟩
theorem counts_nil (u : Int) (w : World) :
    Calls Try.prog 26 #[.pointer none, .int .i64 u] w fun e w' => e = .returned (.tuple #[.int .i64 0, .int .i64 0, .int .i64 0]) ∧ w = w' := by
  go_enter Try.func26, Try.ntmps26
  go_wp2_with (go_at_call 35; refine (has_nil u _).mono ?_; rintro e w' ⟨rfl, rfl⟩)
  go_ret3
  exact ⟨rfl, rfl⟩

set_option maxRecDepth 100000 in
theorem of_nil (u : Int) (w : World) :
    Calls Try.prog 16 #[.pointer none, .int .i64 u] w fun e w' => e = .returned (.agg (upA noUp)) ∧ Chg [] w w' := by
  go_enter Try.func16, Try.ntmps16
  go_wp2_with (first | (go_at_call 26; refine (counts_nil u _).mono ?_; rintro e w' ⟨rfl, rfl⟩) | (go_at_call 18; refine (score_nil u _).mono ?_; rintro e w' ⟨rfl, rfl⟩) | (go_at_call 14; refine (rests_nil u _).mono ?_; rintro e w' ⟨rfl, rfl⟩) | (go_at_call 21; refine (trial_nil u _).mono ?_; rintro e w' ⟨rfl, rfl⟩))
  refine bodyPost_ret (v := .agg (upA noUp)) (by simp [results, Try.results16, go_sem, upA, noUp]) rfl ⟨rfl, (Chg.refl _ _).alloc _⟩

/-- The block holds a book that nobody made. -/
def FreshAt (w : World) (b : Nat) : Prop := w.heap[b]? = some (.cells #[.int .i64 0, .int .i64 0, .slice none 0 0] 59 (0, 0))
theorem agree_fresh (b : Nat) (u : Int) (w : World) (h : FreshAt w b) :
    Calls Try.prog 25 #[.pointer (some ⟨b, 0, none⟩), .int .i64 u] w fun e w' => e = .returned (.int .i64 1) ∧ w = w' := by
  have c2 : w.cell? ⟨b, 2, none⟩ = some (.slice none 0 0) := (cell_of h).trans rfl
  have HB : Hid (false = decide (0 ≤ u ∧ u < ((0 : Nat) : Int))) := Lib.hid (by symm; apply decide_eq_false; omega)
  go_enter Try.func25, Try.ntmps25
  go_wp2_with (go_at_call 35; refine (has_slice b none 0 0 u _ c2 false HB).mono ?_; rintro e w' ⟨rfl, rfl⟩)
  go_ret
  exact ⟨rfl, rfl⟩
theorem len_fresh (b : Nat) (w : World) (h : FreshAt w b) :
    Calls Try.prog 27 #[.pointer (some ⟨b, 0, none⟩)] w fun e w' => e = .returned (.int .i64 0) ∧ w = w' := by
  have c2 : w.cell? ⟨b, 2, none⟩ = some (.slice none 0 0) := (cell_of h).trans rfl
  go_enter Try.func27, Try.ntmps27
  go_wp2
  go_ret
  exact ⟨rfl, rfl⟩
theorem may_fresh (b : Nat) (w : World) (h : FreshAt w b) :
    Calls Try.prog 13 #[.pointer (some ⟨b, 0, none⟩)] w fun e w' => e = .returned (.slice none 0 0) ∧ w = w' := by
  have c2 : w.cell? ⟨b, 2, none⟩ = some (.slice none 0 0) := (cell_of h).trans rfl
  go_enter Try.func13, Try.ntmps13
  go_wp2
  go_loop [3, 13] (fun v i => v = .slice none 0 0 ∧ i = .int .i64 0) (fun _ _ => 0)
  case atStart => exact ⟨rfl, rfl⟩
  case round =>
    obtain ⟨rfl, rfl⟩ := hrel
    go_wp2
    go_ret
    exact ⟨rfl, rfl⟩

/-- The one upstream behind j more silences. -/
def silJ (j : Nat) : List Up := [⟨89 - 2 * j, 1, 1, min (1 + j) 65535, false, false, 0⟩]
theorem silJ_step (j : Nat) : silentI (silJ j) 0 = silJ (j + 1) := by
  have h : hasB (silJ j) 0 = true := by simp [silJ, hasB]
  unfold silentI
  rw [h, if_pos rfl]
  simp only [silJ, silentB, Int.toNat_zero, List.modify_zero_cons, Up.silentS, cnt]
  congr 2
  all_goals omega
theorem silJ_has (j : Nat) : hasB (silJ j) 0 = true := by simp [silJ, hasB]
def gJ : Nat → List Up
  | 0 => newB 3
  | j + 1 => disI 50 1 (gJ j) 1 0
def hJ : Nat → List Up
  | 0 => gJ 6
  | j + 1 => agreeI 50 (hJ j) 1

end Go.Proofs.Ytjcciojbljlloaa
