/- The walk of DrawBelow. -/
import Derived.Test.YteoenajklllakaaArgs
import Derived.Deep.RegionHeld3
namespace Go.Proofs.Yteoenajklllakaa
open Go.RowKit

def BelowRel (s : Nat) (l : List Nat) (m b : Nat) (w : World) (i : Value) (wr : World) : Prop :=
  ∃ k u : Nat, k ≤ m ∧ i = .int .i64 k ∧ u ≤ k ∧ TapeAt wr b s l u ∧ Chg [] w wr

set_option maxHeartbeats 2000000 in
theorem drawBelow_walk (a0 : Int) (a1 : Option Addr) (len1 cap1 : Nat) (z1 : List Int) (a2 : Option Addr) (len2 cap2 : Nat) (z2 : List Int) (w : World) (w0 : (Lit.int .u64 a0).wf = true) (w1 : IsRow .u64 w a1 len1 cap1 z1) (w2 : IsRow .i64 w a2 len2 cap2 z2) :
    Calls Try.prog 8 #[.int .u64 a0, .slice a1 len1 cap1, .slice a2 len2 cap2] w fun e w' => e = .returned (.bool true) ∧ Below w.heap.size w w' := by
  obtain ⟨s, rfl, hs⟩ := nat_of_u64 w0
  obtain ⟨l, hlen, hb, hrd, hrow, hmax⟩ := arg_u64 w1
  obtain ⟨m, hlen2, hb2, hrow2, hmax2⟩ := arg_ints w2
  clear w0 w1 w2
  subst hlen
  subst hlen2
  unfold maxLen at hmax hmax2
  have HB := Lib.hid hb
  have HB2 := Lib.hid hb2
  have HROW2 := Lib.hid hrow2
  have HRD := Lib.hid hrd
  clear hb hrow hrd hb2 hrow2
  by_cases hbig : 2000 < l.length
  · go_enter Try.func8, Try.ntmps8
    go_wp2_with fail
    refine (awake_any _).mono ?_
    rintro e w1 ⟨rfl, hc1⟩
    go_wp2
    go_ret
    exact ⟨rfl, hc1.below (Nat.le_refl _) (by simp)⟩
  by_cases hbig2 : 500 < m.length
  · have hd1 : decide ((2000 : Int) < (l.length : Int)) = false := by simp; omega
    go_enter Try.func8, Try.ntmps8
    go_wp2_with fail
    refine (awake_any _).mono ?_
    rintro e w1 ⟨rfl, hc1⟩
    go_wp2
    go_ret
    exact ⟨rfl, hc1.below (Nat.le_refl _) (by simp)⟩
  · have hd1 : decide (2000 < l.length) = false := by simp; omega
    have hd2 : decide (500 < m.length) = false := by simp; omega
    go_enter Try.func8, Try.ntmps8
    go_wp2_with fail
    refine (awake_any _).mono ?_
    rintro e w1 ⟨rfl, hc1⟩
    go_wp2_with fail
    refine (new_any s _ l _ (by omega) HB.out (HRD.out.chg hc1 (by simp))).mono ?_
    rintro e w2 ⟨b, rfl, hb2, ht2, hc2⟩
    have hC : Chg [] w w2 := hc1.trans hc2
    have hwb : w.heap.size ≤ b := by have := hc1.size; omega
    clear hc1 hc2 hb2
    go_wp2_with fail
    go_loopw [8] (BelowRel s l m.length b w) (fun i _ => m.length - (intOf i).toNat)
    case atStart => exact ⟨0, 0, Nat.zero_le _, rfl, Nat.le_refl _, ht2, hC⟩
    case round =>
      obtain ⟨k, u, hk, rfl, hu, htk, hCk⟩ := hrel
      by_cases hlt : k < m.length
      · obtain ⟨r, o, ha, hr, hcell⟩ := HROW2.out k hlt
        obtain ⟨z, hz⟩ : ∃ z, z = m[k] := ⟨_, rfl⟩
        have hzb := bounds_i64' (HB2.out m[k] (List.getElem_mem hlt))
        rw [← hz] at hzb hcell
        clear hz
        have hcell2 : wr.cell? ⟨r, o + k, none⟩ = some (.int .i64 z) := hCk.cell hcell (by simp)
        subst ha
        have hrb : r ≠ b := by omega
        clear hcell
        have hblt : (k : Int) < (m.length : Int) := by omega
        go_wp2_with fail
        refine (copy_any b s l u _ htk).mono ?_
        rintro e w3 ⟨rfl, huk, ht3, hc3⟩
        have hcell3 : w3.cell? ⟨r, o + k, none⟩ = some (.int .i64 z) := hc3.cell hcell2 (by simp)
        obtain ⟨c, hceq⟩ : ∃ c, c = wr.heap.size := ⟨_, rfl⟩
        rw [← hceq] at huk ⊢
        have hbc : b ≠ c := by have := htk.lt; omega
        have hrc : r ≠ c := by have := hCk.size; omega
        have hwc : w.heap.size ≤ c := by have := hCk.size; omega
        have hC3 : Chg [] w w3 := hCk.trans hc3
        clear hceq hcell2
        by_cases hz1 : z < 1
        · go_wp2_with fail
          refine (below_less _ z _ hz1).mono ?_
          rintro e w4 ⟨rfl, rfl⟩
          go_wp2_with fail
          refine (used_any b s l _ _ ht3).mono ?_
          rintro e w4 ⟨rfl, rfl⟩
          go_wp2_with fail
          refine (used_any c s l _ _ huk).mono ?_
          rintro e w4 ⟨rfl, rfl⟩
          go_wp2
          go_roundw
          case rel => exact ⟨k + 1, u, by omega, by go_num, by omega, ht3, hC3⟩
          case measure => simp [intOf]; omega
        · obtain ⟨zn, rfl⟩ : ∃ zn : Nat, z = zn := ⟨z.toNat, by omega⟩
          obtain ⟨q, hq⟩ : ∃ q, q = drawN s l u % zn := ⟨_, rfl⟩
          have hqlt : q < zn := by rw [hq]; exact Nat.mod_lt _ (by omega)
          have HQ := Lib.hid hq
          clear hq
          go_wp2_with fail
          refine (below_at b s l u zn q _ _ ht3 (by omega) rfl HQ.out (by omega) (by omega)).mono ?_
          rintro e w4 ⟨rfl, ht4, hc4⟩
          have hu4 := huk.other ht3 hc4 (Ne.symm hbc)
          have hcell4 : w4.cell? ⟨r, o + k, none⟩ = some (.int .i64 zn) := hc4.cell hcell3 (by simpa using hrb)
          have hC4 : Chg [] w w4 := hC3.trans_new hc4 (by simp; omega)
          clear hcell3 hc4 hc3 ht3 huk hC3
          go_wp2_with fail
          have t1 : decide ((q : Int) < 0) = false := by simp
          have t2 : decide (zn ≤ q) = false := by simp; omega
          have t4 : ¬ zn = 0 := by omega
          have t8 : (zn == 0) = false := by simp; omega
          have t5 : ((zn : Int) == 0) = false := by simp; omega
          have t3 : ((drawN s l u : Nat) : Int).tmod (zn : Int) = (q : Int) := by
            have := HQ.out
            rw [Int.tmod_eq_emod_of_nonneg (by omega)]; omega
          have t6 : IntKind.u64.wrap (q : Int) = q := by rw [IntKind.wrap_u64]; omega
          have t7 : IntKind.u64.wrap (zn : Int) = zn := by rw [IntKind.wrap_u64]; omega
          go_region_held3 (fun w' => w'.cell? ⟨r, o + k, none⟩ = some (.int .i64 zn)) (first | exact hcell4 | assumption) (first | (go_at_call 11; refine (next_any c s l u _ ?_ ?_).mono ?_; exact hu4; omega; rintro e w5 ⟨rfl, hu5, hc5⟩; replace hc5 := hc5.undrew; have ht5 := ht4.other hu4 hc5 hbc; have hcell5 : w5.cell? ⟨r, o + k, none⟩ = some (.int .i64 zn) := hc5.cell hcell4 (by simpa using hrc)) | (go_at_call_of 13 (Value.pointer (some { block := b, off := 0 })); refine (used_any b s l (u + 1) _ ?_).mono ?_; exact ht5; rintro e w6 ⟨rfl, rfl⟩) | (go_at_call_of 13 (Value.pointer (some { block := c, off := 0 })); refine (used_any c s l (u + 1) _ ?_).mono ?_; exact hu5; rintro e w6 ⟨rfl, rfl⟩))
          clear t1 t2 t3 t4 t5 t6 t7 t8
          have hC5 : Chg [] w w5 := hC4.trans_new hc5 (by simp; omega)
          go_wp2
          go_roundw
          case rel => exact ⟨k + 1, u + 1, by omega, by go_num, by omega, ht5, hC5⟩
          case measure => simp [intOf]; omega
      · obtain rfl : k = m.length := by omega
        go_wp2
        go_ret
        exact ⟨rfl, hCk.below (Nat.le_refl _) (by simp)⟩

end Go.Proofs.Yteoenajklllakaa
