/- The document's book: Dissent, at any number. -/
import Derived.Test.YtdbannnbbngckaaRefD
namespace Go.Proofs.Ytdbannnbbngckaa
open Go.RowKit

set_option maxRecDepth 100000 in
set_option maxHeartbeats 1000000 in
theorem rdissent_any (b r L R : Nat) (us : List Up) (u n : Int) (w : World) (h : RBook w b r L R us) (hodd : us.length % 2 = 1) :
    Calls Try.prog 39 #[.pointer (some ⟨b, 0, none⟩), .int .i64 u, .int .i64 n] w fun e w' => e = .returned (.int .i64 (errB (hasB us u && nowB n) : Nat)) ∧ RBook w' b r L R (disI L R us u n) ∧ Chg [r] w w' := by
  by_cases hh : hasB us u = true
  · have HB : Hid (true = hasB us u) := Lib.hid hh.symm
    by_cases hnow : 0 ≤ n ∧ n ≤ 1099511627776
    · obtain ⟨u, rfl, hu⟩ := nat_of_has hh
      obtain ⟨m, rfl⟩ : ∃ m : Nat, n = m := ⟨n.toNat, by omega⟩
      have hm : m ≤ 1099511627776 := by omega
      have HN : nowB m = true := decide_eq_true hnow
      have HF : disI L R us u m = disB L R us u m := by unfold disI; rw [hh, HN]; simp
      have HE : errB (hasB us u && nowB m) = 0 := by rw [hh, HN]; rfl
      rw [HF, HE]
      exact rdissent_in b r L R u m us w h hu hm hodd
    · have HN : Hid (nowB n = false) := Lib.hid (decide_eq_false hnow)
      have HF : Hid (disI L R us u n = us) := Lib.hid (by unfold disI; rw [HN.out]; simp)
      have HE : Hid (errB (hasB us u && nowB n) = 1) := Lib.hid (by rw [HN.out]; simp [errB])
      rw [HF.out, HE.out]
      clear hh hodd
      by_cases h0 : n < 0
      · go_enter Try.func39, Try.ntmps39
        go_wp2_with (go_at_call 54; refine (ris_any b r L R us _ _ h true HB).mono ?_; rintro e w' ⟨rfl, rfl⟩)
        go_ret
        exact ⟨rfl, h, Chg.refl _ _⟩
      · have d1 : decide (n < 0) = false := by simpa using h0
        have d2 : 1099511627776 < n := by omega
        clear hnow
        go_enter Try.func39, Try.ntmps39
        go_wp2_with (go_at_call 54; refine (ris_any b r L R us _ _ h true HB).mono ?_; rintro e w' ⟨rfl, rfl⟩)
        go_ret
        exact ⟨rfl, h, Chg.refl _ _⟩
  · have HB : Hid (false = hasB us u) := Lib.hid (by simpa using Ne.symm hh)
    have HF : Hid (disI L R us u n = us) := Lib.hid (by unfold disI; rw [← HB.out]; rfl)
    have HE : Hid (errB (hasB us u && nowB n) = 1) := Lib.hid (by rw [← HB.out]; rfl)
    rw [HF.out, HE.out]
    clear hh hodd
    go_enter Try.func39, Try.ntmps39
    go_wp2_with (go_at_call 54; refine (ris_any b r L R us _ _ h false HB).mono ?_; rintro e w' ⟨rfl, rfl⟩)
    go_ret
    exact ⟨rfl, h, Chg.refl _ _⟩

end Go.Proofs.Ytdbannnbbngckaa
