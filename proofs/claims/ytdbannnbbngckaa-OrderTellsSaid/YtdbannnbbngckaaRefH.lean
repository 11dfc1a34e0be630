/- The document's book: New, of numbers that may not be. -/
import Derived.Test.YtdbannnbbngckaaRefG
namespace Go.Proofs.Ytdbannnbbngckaa
open Go.RowKit

theorem rnewOut_any (n L R : Int) (w : World) (h : n < 1 ∨ 9 < n ∨ n % 2 = 0 ∨ L < 1 ∨ 100 < L ∨ R < 1 ∨ 100000 < R) :
    Calls Try.prog 36 #[.int .i64 n, .int .i64 L, .int .i64 R] w fun e w' => e = .returned (.tuple #[.pointer none, .int .i64 1]) ∧ w = w' := by
  by_cases h1 : n < 1
  · go_enter Try.func36, Try.ntmps36
    go_wp2
    go_ret2
    exact ⟨rfl, rfl⟩
  have d1 : decide (n < 1) = false := by simpa using h1
  by_cases h2 : 9 < n
  · go_enter Try.func36, Try.ntmps36
    go_wp2
    go_ret2
    exact ⟨rfl, rfl⟩
  have d2 : decide (9 < n) = false := by simpa using h2
  have b1 : 1 ≤ n := by omega
  have b2 : n ≤ 9 := by omega
  by_cases h3 : n % 2 = 0
  · have d3 : (n % 2 != 1) = true := by simp [h3]
    clear h3
    go_enter Try.func36, Try.ntmps36
    go_wp2
    go_ret2
    exact ⟨rfl, rfl⟩
  have d3 : (n % 2 != 1) = false := by simp; omega
  by_cases h4 : L < 1
  · clear h3
    go_enter Try.func36, Try.ntmps36
    go_wp2
    go_ret2
    exact ⟨rfl, rfl⟩
  have d4 : decide (L < 1) = false := by simpa using h4
  by_cases h5 : 100 < L
  · clear h3
    go_enter Try.func36, Try.ntmps36
    go_wp2
    go_ret2
    exact ⟨rfl, rfl⟩
  have d5 : decide (100 < L) = false := by simpa using h5
  by_cases h6 : R < 1
  · clear h3
    go_enter Try.func36, Try.ntmps36
    go_wp2
    go_ret2
    exact ⟨rfl, rfl⟩
  have d6 : decide (R < 1) = false := by simpa using h6
  have h7 : 100000 < R := by omega
  clear h3 h
  go_enter Try.func36, Try.ntmps36
  go_wp2
  go_ret2
  exact ⟨rfl, rfl⟩

end Go.Proofs.Ytdbannnbbngckaa
