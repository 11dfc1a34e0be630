/- The walk of last. -/
import Derived.Test.YtlkhaookdmgbnaaTimerByW
import Derived.Test.YtlkhaookdmgbnaaTimPl4
namespace Go.Proofs.Ytlkhaookdmgbnaa
open Go.RowKit

theorem getD_in {l : List (Int × Int)} {i : Nat} (h : i < l.length) : l.getD i (0, 0) = l[i] := by simp [h]
theorem IsSets.at2 {w : World} {a : Option Addr} {l : List (Int × Int)} (h : IsSets w a l) {i j : Nat} (hi : i < l.length) (hj : j < l.length) : ∃ b o, a = some ⟨b, o, none⟩ ∧ w.cell? ⟨b, o + i * 2, none⟩ = some (.int .i64 (l.getD i (0, 0)).1) ∧ w.cell? ⟨b, o + i * 2 + 1, none⟩ = some (.int .i64 (l.getD i (0, 0)).2) ∧ w.cell? ⟨b, o + j * 2, none⟩ = some (.int .i64 (l.getD j (0, 0)).1) ∧ w.cell? ⟨b, o + j * 2 + 1, none⟩ = some (.int .i64 (l.getD j (0, 0)).2) := by
  obtain ⟨b, o, h1, _, h3, h4, _⟩ := h.2 i hi
  obtain ⟨b2, o2, k1, _, k3, k4, _⟩ := h.2 j hj
  rw [h1] at k1
  injection k1 with k1
  injection k1 with e1 e2
  subst e1; subst e2
  rw [getD_in hi, getD_in hj]
  exact ⟨b, o, h1, h3, h4, k3, k4⟩

set_option maxRecDepth 100000 in
set_option maxHeartbeats 4000000 in
theorem last_any (a : Option Addr) (cap i : Nat) (l : List (Int × Int)) (w : World) (h : IsSets w a l) (hl : l.length ≤ 1000) (hi : i < l.length) (B : Bool) (hB : Hid (B = lastB l l.length i)) :
    Calls Try.prog 13 #[.slice a l.length cap, .int .i64 i] w fun e w' => e = .returned (.bool B) ∧ ∃ n, w' = w.drewN n := by
  have HS := Lib.hid h
  clear h
  go_enter Try.func13, Try.ntmps13
  go_wp2_with fail
  go_loopw [5] (fun v wr => ∃ k q : Nat, i < k ∧ k ≤ l.length ∧ v = .int .i64 k ∧ wr = w.drewN q ∧ ∀ j, j < k → i < j → (l.getD j (0, 0)).1 ≠ (l.getD i (0, 0)).1) (fun v _ => l.length - (intOf v).toNat)
  case atStart => exact ⟨i + 1, 0, by omega, by omega, by go_num, rfl, fun j h1 h2 => by omega⟩
  case round =>
    obtain ⟨k, q, hik, hk, rfl, rfl, hno⟩ := hrel
    have HNO := Lib.hid hno
    clear hno
    by_cases hlt : k < l.length
    · obtain ⟨b, o, rfl, c0, c1, c2, c3⟩ := HS.out.at2 hi hlt
      have b1 : (k : Int) < (l.length : Int) := by omega
      have b2 : (i : Int) < (l.length : Int) := by omega
      obtain ⟨x, hx⟩ : ∃ x, x = (l.getD i (0, 0)).1 := ⟨_, rfl⟩
      obtain ⟨y, hy⟩ : ∃ y, y = (l.getD k (0, 0)).1 := ⟨_, rfl⟩
      rw [← hx] at c0
      rw [← hy] at c2
      have HX := Lib.hid (And.intro hx hy)
      clear hx hy c1 c3
      by_cases e : y = x
      · have t1 : (y == x) = true := by simpa using e
        have HB0 : Hid (B = false) := Lib.hid (by
          rw [hB.out]
          by_cases hb : lastB l l.length i = true
          · have := lastB_iff.1 hb k hlt hik
            rw [← HX.out.1, ← HX.out.2] at this
            exact absurd e this
          · simpa using hb)
        clear e
        go_wp2_with fail
        go_quiet (fail)
        go_wp2
        go_ret
        exact ⟨by rw [HB0.out]; rfl, _, by first | rfl | exact drew2 _ _ _⟩
      · have t1 : (y == x) = false := by simpa using e
        have HE := Lib.hid e
        clear e
        go_wp2_with fail
        go_quiet (fail)
        go_wp2
        go_roundw
        case rel =>
          refine ⟨k + 1, _, by omega, by omega, by go_num, rfl, fun j h1 h2 => ?_⟩
          by_cases e2 : j = k
          · rw [e2, ← HX.out.1, ← HX.out.2]
            exact HE.out
          · exact HNO.out j (by omega) h2
        case measure => simp [intOf]; omega
    · obtain rfl : k = l.length := by omega
      have HB1 : Hid (B = true) := Lib.hid (by rw [hB.out]; exact lastB_iff.2 HNO.out)
      go_wp2
      go_ret
      exact ⟨by rw [HB1.out]; rfl, _, rfl⟩

end Go.Proofs.Ytlkhaookdmgbnaa
