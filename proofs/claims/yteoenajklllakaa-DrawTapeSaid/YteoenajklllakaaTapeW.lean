/- The walk of DrawTape. -/
import Derived.Test.YteoenajklllakaaArgs
import Derived.Deep.RegionHeld3
namespace Go.Proofs.Yteoenajklllakaa
open Go.RowKit

def TapeRel1 (s : Nat) (l : List Nat) (b c : Nat) (w : World) (i : Value) (wr : World) : Prop :=
  ∃ k : Nat, k ≤ l.length ∧ i = .int .i64 k ∧ TapeAt wr b s l k ∧ TapeAt wr c s [] 0 ∧ Chg [] w wr
def TapeRel2 (s : Nat) (l : List Nat) (b c : Nat) (w : World) (i : Value) (wr : World) : Prop :=
  ∃ k : Nat, k ≤ 20 ∧ i = .int .i64 k ∧ TapeAt wr b s l (l.length + k) ∧ TapeAt wr c s [] k ∧ Chg [] w wr

theorem drawN_in (s : Nat) (l : List Nat) (k : Nat) (h : k < l.length) : drawN s l k = l[k] := by unfold drawN; rw [dif_pos h]
theorem drawN_behind (s : Nat) (l : List Nat) (k : Nat) : drawN s l (l.length + k) = drawN s [] k := by
  unfold drawN
  rw [dif_neg (by omega), dif_neg (by simp)]
  simp

set_option maxHeartbeats 1000000 in
theorem drawTape_walk (a0 : Int) (a1 : Option Addr) (len1 cap1 : Nat) (z1 : List Int) (w : World) (w0 : (Lit.int .u64 a0).wf = true) (w1 : IsRow .u64 w a1 len1 cap1 z1) :
    Calls Try.prog 4 #[.int .u64 a0, .slice a1 len1 cap1] w fun e w' => e = .returned (.bool true) ∧ Below w.heap.size w w' := by
  obtain ⟨s, rfl, hs⟩ := nat_of_u64 w0
  obtain ⟨l, hlen, hb, hrd, hrow, hmax⟩ := arg_u64 w1
  clear w0 w1
  subst hlen
  unfold maxLen at hmax
  by_cases hbig : 2000 < l.length
  · clear hrd hrow hb
    go_enter Try.func4, Try.ntmps4
    go_wp2_with fail
    refine (awake_any _).mono ?_
    rintro e w1 ⟨rfl, hc1⟩
    go_wp2
    go_ret
    exact ⟨rfl, hc1.below (Nat.le_refl _) (by simp)⟩
  · have HB := Lib.hid hb
    have HROW := Lib.hid hrow
    have HRD := Lib.hid hrd
    clear hb hrow hrd
    go_enter Try.func4, Try.ntmps4
    go_wp2_with fail
    refine (awake_any _).mono ?_
    rintro e w1 ⟨rfl, hc1⟩
    go_wp2_with fail
    refine (new_any s _ l _ (by omega) HB.out ?_).mono ?_
    · exact HRD.out.chg hc1 (by simp)
    rintro e w2 ⟨b, rfl, hb2, ht2, hc2⟩
    go_wp2_with fail
    refine (new_any s _ [] _ (by decide) (by simp) reads_nil).mono ?_
    rintro e w3 ⟨c, rfl, hb3, hu3, hc3⟩
    have ht3 : TapeAt w3 b s l 0 := ht2.chg hc3 (by simp) (by simp)
    have hne : b ≠ c := by have := ht2.lt; omega
    have hC : Chg [] w w3 := (hc1.trans hc2).trans hc3
    have hwb : w.heap.size ≤ b := by have := hc1.size; omega
    have hwc : w.heap.size ≤ c := by have := (hc1.trans hc2).size; omega
    clear hc1 hc2 hc3 ht2 hb2 hb3
    go_wp2_with fail
    go_loopw [7] (TapeRel1 s l b c w) (fun i _ => l.length - (intOf i).toNat)
    case atStart => exact ⟨0, Nat.zero_le _, rfl, ht3, hu3, hC⟩
    case round =>
      obtain ⟨k, hk, rfl, htk, huk, hCk⟩ := hrel
      by_cases hlt : k < l.length
      · obtain ⟨r, o, ha, hr, hcell⟩ := HROW.out k hlt
        have hcell2 : wr.cell? ⟨r, o + k, none⟩ = some (.int .u64 (l[k] : Nat)) := by
          rw [World.cell?_of_block (w := w) (hCk.block r hr (by simp))]; exact hcell
        subst ha
        have hrb : r ≠ b := by omega
        clear hcell
        have hblt : (k : Int) < (l.length : Int) := by omega
        go_wp2_with fail
        go_region_held3 (fun w' => w'.cell? ⟨r, o + k, none⟩ = some (.int .u64 (l[k] : Nat))) (first | exact hcell2 | assumption) (first | (go_at_call 11; refine (next_any b s l k _ ?_ ?_).mono ?_; exact htk; omega; rintro e w4 ⟨rfl, ht4, hc4⟩; have hcell4 : w4.cell? ⟨r, o + k, none⟩ = some (.int .u64 (l[k] : Nat)) := hc4.cell hcell2 (by simpa using hrb); rw [drawN_in s l k hlt]))
        have hC4 : Chg [] w w4 := hCk.drew.trans_new hc4 (by simp; omega)
        have hu4 := huk.drew.other htk.drew hc4 (Ne.symm hne)
        go_wp2
        go_roundw
        case rel => exact ⟨k + 1, by omega, by go_num, ht4, hu4, hC4⟩
        case measure => simp [intOf]; omega
      · obtain rfl : k = l.length := by omega
        go_wp2_with fail
        go_loopw [8] (TapeRel2 s l b c w) (fun i _ => 20 - (intOf i).toNat)
        case atStart => exact ⟨0, by decide, rfl, htk, huk, hCk⟩
        case round =>
          obtain ⟨k, hk, rfl, htk, huk, hCk⟩ := hrel
          by_cases hlt : k < 20
          · go_wp2_with fail
            refine (next_any b s l _ _ htk (by omega)).mono ?_
            rintro e w4 ⟨rfl, ht4, hc4⟩
            rw [drawN_behind]
            have hu4 := huk.other htk hc4 (Ne.symm hne)
            go_wp2_with fail
            refine (next_any c s [] _ _ hu4 (by omega)).mono ?_
            rintro e w5 ⟨rfl, hu5, hc5⟩
            have ht5 := ht4.other hu4 hc5 hne
            have hC5 : Chg [] w w5 := (hCk.trans_new hc4 (by simp; omega)).trans_new hc5 (by simp; omega)
            go_wp2
            go_roundw
            case rel => exact ⟨k + 1, by omega, by go_num, ht5, hu5, hC5⟩
            case measure => simp [intOf]; omega
          · obtain rfl : k = 20 := by omega
            go_wp2_with fail
            refine (used_any b s l _ _ htk).mono ?_
            rintro e w4 ⟨rfl, rfl⟩
            go_wp2_with fail
            refine (used_any c s [] _ _ huk).mono ?_
            rintro e w4 ⟨rfl, rfl⟩
            go_wp2
            go_ret
            exact ⟨rfl, hCk.below (Nat.le_refl _) (by simp)⟩

end Go.Proofs.Yteoenajklllakaa
