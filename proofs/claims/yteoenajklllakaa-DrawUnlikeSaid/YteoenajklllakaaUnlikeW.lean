/- The walk of DrawUnlike. -/
import Derived.Test.YteoenajklllakaaAwake12
import Derived.Test.YteoenajklllakaaWf
namespace Go.Proofs.Yteoenajklllakaa
open Go.RowKit

def UnlikeRel (x y b c : Nat) (w : World) (i : Value) (wr : World) : Prop :=
  ∃ k : Nat, k ≤ 30 ∧ i = .int .i64 k ∧ TapeAt wr b x [] k ∧ TapeAt wr c y [] k ∧ Chg [] w wr

theorem drawUnlike_walk (a0 a1 : Int) (w : World) (w0 : (Lit.int .u64 a0).wf = true) (w1 : (Lit.int .u64 a1).wf = true) :
    Calls Try.prog 3 #[.int .u64 a0, .int .u64 a1] w fun e w' => e = .returned (.bool true) ∧ Below w.heap.size w w' := by
  obtain ⟨x, rfl, hx⟩ := nat_of_u64 w0
  obtain ⟨y, rfl, hy⟩ := nat_of_u64 w1
  clear w0 w1
  go_enter Try.func3, Try.ntmps3
  go_wp2_with fail
  refine (new_any x _ [] _ (by decide) (by simp) reads_nil).mono ?_
  rintro e w1 ⟨b, rfl, hb, ht1, hc1⟩
  go_wp2_with fail
  refine (new_any y _ [] _ (by decide) (by simp) reads_nil).mono ?_
  rintro e w2 ⟨c, rfl, hc, hu2, hc2⟩
  have ht2 : TapeAt w2 b x [] 0 := ht1.chg hc2 (by simp) (by simp)
  have hne : b ≠ c := by have := ht1.lt; omega
  have hC : Chg [] w w2 := hc1.trans hc2
  have hwc : w.heap.size ≤ c := by have := hc1.size; omega
  clear hc1 hc2 ht1 hc
  go_wp2_with fail
  go_loopw [7] (UnlikeRel x y b c w) (fun i _ => 30 - (intOf i).toNat)
  case atStart => exact ⟨0, by decide, rfl, ht2, hu2, hC⟩
  case round =>
    obtain ⟨k, hk, rfl, htk, huk, hCk⟩ := hrel
    by_cases hlt : k < 30
    · go_wp2_with fail
      refine (next_any b x [] k _ htk (by omega)).mono ?_
      rintro e w3 ⟨rfl, ht3, hc3⟩
      have hu3 := huk.other htk hc3 (Ne.symm hne)
      go_wp2_with fail
      refine (next_any c y [] k _ hu3 (by omega)).mono ?_
      rintro e w4 ⟨rfl, hu4, hc4⟩
      have ht4 := ht3.other hu3 hc4 hne
      have hC4 : Chg [] w w4 := (hCk.trans_new hc3 (by simp; omega)).trans_new hc4 (by simp; omega)
      have hiff := drawN_nil_inj x y k hx hy
      by_cases hxy : x = y
      · have e1 : ((drawN x [] k : Int) == (drawN y [] k : Int)) = true := by simp [hiff.2 hxy]
        have e2 : ((x : Int) == (y : Int)) = true := by simp [hxy]
        clear hiff hxy
        go_wp2
        go_roundw
        case rel => exact ⟨k + 1, by omega, by go_num, ht4, hu4, hC4⟩
        case measure => simp [intOf]; omega
      · have e1 : ((drawN x [] k : Int) == (drawN y [] k : Int)) = false := by
          have : drawN x [] k ≠ drawN y [] k := fun h => hxy (hiff.1 h)
          simp; omega
        have e2 : ((x : Int) == (y : Int)) = false := by simp; omega
        clear hiff hxy
        go_wp2
        go_roundw
        case rel => exact ⟨k + 1, by omega, by go_num, ht4, hu4, hC4⟩
        case measure => simp [intOf]; omega
    · obtain rfl : k = 30 := by omega
      go_wp2_with fail
      refine (awake_any _).mono ?_
      rintro e w5 ⟨rfl, hc5⟩
      go_wp2
      go_ret
      exact ⟨rfl, (hCk.trans hc5).below (Nat.le_refl _) (by simp)⟩

end Go.Proofs.Yteoenajklllakaa
