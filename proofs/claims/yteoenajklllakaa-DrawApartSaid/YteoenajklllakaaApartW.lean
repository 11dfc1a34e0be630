/- The walk of DrawApart. -/
import Derived.Test.YteoenajklllakaaArgs
namespace Go.Proofs.Yteoenajklllakaa
open Go.RowKit

def ApartRel1 (s : Nat) (l : List Nat) (b c q : Nat) (w : World) (i : Value) (wr : World) : Prop :=
  ∃ k : Nat, k ≤ q ∧ i = .int .i64 k ∧ TapeAt wr b s l k ∧ TapeAt wr c s l k ∧ Chg [] w wr
def ApartRel2 (s : Nat) (l : List Nat) (b c d q n : Nat) (w : World) (i : Value) (wr : World) : Prop :=
  ∃ k : Nat, k ≤ q ∧ i = .int .i64 k ∧ TapeAt wr b s l n ∧ TapeAt wr c s l n ∧ TapeAt wr d s l (n + k) ∧ Chg [] w wr
def ApartRel3 (s : Nat) (l : List Nat) (b c d n : Nat) (w : World) (i : Value) (wr : World) : Prop :=
  ∃ k : Nat, k ≤ 20 ∧ i = .int .i64 k ∧ TapeAt wr b s l (n + k) ∧ TapeAt wr c s l (n + k) ∧ TapeAt wr d s l (n + k) ∧ Chg [] w wr

set_option maxHeartbeats 2000000 in
theorem drawApart_walk (a0 : Int) (a1 : Option Addr) (len1 cap1 : Nat) (z1 : List Int) (a2 a3 : Int) (w : World) (w0 : (Lit.int .u64 a0).wf = true) (w1 : IsRow .u64 w a1 len1 cap1 z1) (w2 : (Lit.int .i64 a2).wf = true) (w3 : (Lit.int .i64 a3).wf = true) :
    Calls Try.prog 9 #[.int .u64 a0, .slice a1 len1 cap1, .int .i64 a2, .int .i64 a3] w fun e w' => e = .returned (.bool true) ∧ Below w.heap.size w w' := by
  obtain ⟨s, rfl, hs⟩ := nat_of_u64 w0
  obtain ⟨l, hlen, hb, hrd, hrow, hmax⟩ := arg_u64 w1
  clear w0 w1 w2 w3
  subst hlen
  unfold maxLen at hmax
  have HB := Lib.hid hb
  have HRD := Lib.hid hrd
  clear hb hrow hrd
  by_cases hbig : 2000 < l.length
  · go_enter Try.func9, Try.ntmps9
    go_wp2_with fail
    refine (awake_any _).mono ?_
    rintro e w1 ⟨rfl, hc1⟩
    go_wp2
    go_ret
    exact ⟨rfl, hc1.below (Nat.le_refl _) (by simp)⟩
  · obtain ⟨n1, hn1⟩ : ∃ n : Nat, IntKind.u64.wrap a2 = n := ⟨(IntKind.u64.wrap a2).toNat, by rw [IntKind.wrap_u64]; omega⟩
    obtain ⟨m1, hm1⟩ : ∃ n : Nat, IntKind.u64.wrap a3 = n := ⟨(IntKind.u64.wrap a3).toNat, by rw [IntKind.wrap_u64]; omega⟩
    go_enter Try.func9, Try.ntmps9
    go_wp2_with fail
    refine (awake_any _).mono ?_
    rintro e w1 ⟨rfl, hc1⟩
    go_wp2_with fail
    refine (new_any s _ l _ (by omega) HB.out (HRD.out.chg hc1 (by simp))).mono ?_
    rintro e w2 ⟨b, rfl, hb2, ht2, hc2⟩
    go_wp2_with fail
    refine (new_any s _ l _ (by omega) HB.out (HRD.out.chg (hc1.trans hc2) (by simp))).mono ?_
    rintro e w3 ⟨c, rfl, hb3, hu3, hc3⟩
    have ht3 : TapeAt w3 b s l 0 := ht2.chg hc3 (by simp) (by simp)
    have hne : b ≠ c := by have := ht2.lt; omega
    have hC : Chg [] w w3 := (hc1.trans hc2).trans hc3
    have hwb : w.heap.size ≤ b := by have := hc1.size; omega
    have hwc : w.heap.size ≤ c := by have := (hc1.trans hc2).size; omega
    clear hc1 hc2 hc3 ht2 hb2 hb3
    go_wp2_with fail
    go_loopw [11] (ApartRel1 s l b c (n1 % 50) w) (fun i _ => n1 % 50 - (intOf i).toNat)
    case atStart => exact ⟨0, Nat.zero_le _, rfl, ht3, hu3, hC⟩
    case round =>
      obtain ⟨k, hk, rfl, htk, huk, hCk⟩ := hrel
      by_cases hlt : k < n1 % 50
      · go_wp2_with fail
        refine (next_any b s l _ _ htk (by omega)).mono ?_
        rintro e w4 ⟨rfl, ht4, hc4⟩
        have hu4 := huk.other htk hc4 (Ne.symm hne)
        go_wp2_with fail
        refine (next_any c s l _ _ hu4 (by omega)).mono ?_
        rintro e w5 ⟨rfl, hu5, hc5⟩
        have ht5 := ht4.other hu4 hc5 hne
        have hC5 : Chg [] w w5 := (hCk.trans_new hc4 (by simp; omega)).trans_new hc5 (by simp; omega)
        go_wp2
        go_roundw
        case rel => exact ⟨k + 1, by omega, by go_num, ht5, hu5, hC5⟩
        case measure => simp [intOf]; omega
      · have hkn : k ≤ 50 := by omega
        go_wp2_with fail
        refine (copy_any b s l k _ htk).mono ?_
        rintro e w4 ⟨rfl, hd4, ht4, hc4⟩
        have hu4 : TapeAt w4 c s l k := huk.chg hc4 (by simp) (by simp)
        obtain ⟨d, hdeq⟩ : ∃ d, d = wr.heap.size := ⟨_, rfl⟩
        rw [← hdeq] at hd4 ⊢
        have hbd : b ≠ d := by have := htk.lt; omega
        have hcd : c ≠ d := by have := huk.lt; omega
        have hwd : w.heap.size ≤ d := by have := hCk.size; omega
        have hC4 : Chg [] w w4 := hCk.trans hc4
        clear hdeq hc4 hCk htk huk
        go_wp2_with fail
        go_loopw [13] (ApartRel2 s l b c d (m1 % 50) k w) (fun i _ => m1 % 50 - (intOf i).toNat)
        case atStart => exact ⟨0, Nat.zero_le _, rfl, ht4, hu4, hd4, hC4⟩
        case round =>
          obtain ⟨j, hj, rfl, htk, huk, hdk, hCk⟩ := hrel
          by_cases hlt : j < m1 % 50
          · go_wp2_with fail
            refine (next_any d s l _ _ hdk (by omega)).mono ?_
            rintro e w5 ⟨rfl, hd5, hc5⟩
            have hu5 := huk.other hdk hc5 hcd
            have ht5 := htk.other hdk hc5 hbd
            have hC5 : Chg [] w w5 := hCk.trans_new hc5 (by simp; omega)
            go_wp2
            go_roundw
            case rel => exact ⟨j + 1, by omega, by go_num, ht5, hu5, hd5, hC5⟩
            case measure => simp [intOf]; omega
          · go_wp2_with fail
            refine (shuffle_any d s l _ 7 _ hdk (by omega) (by decide) (by decide)).mono ?_
            rintro e w5 ⟨rfl, _, hd5, hc5⟩
            have hu5 := huk.other hdk hc5 hcd
            have ht5 := htk.other hdk hc5 hbd
            have hC5 : Chg [] w w5 := hCk.trans_new hc5 (by simp; omega)
            clear hd5 hc5 htk huk hdk hCk
            go_wp2_with fail
            refine (copy_any b s l k _ ht5).mono ?_
            rintro e w6 ⟨rfl, hf6, ht6, hc6⟩
            have hu6 : TapeAt w6 c s l k := hu5.chg hc6 (by simp) (by simp)
            obtain ⟨f, hfeq⟩ : ∃ f, f = w5.heap.size := ⟨_, rfl⟩
            rw [← hfeq] at hf6 ⊢
            have hbf : b ≠ f := by have := ht5.lt; omega
            have hcf : c ≠ f := by have := hu5.lt; omega
            have hwf : w.heap.size ≤ f := by have := hC5.size; omega
            have hC6 : Chg [] w w6 := hC5.trans hc6
            clear hfeq hc6 hC5 ht5 hu5
            go_wp2_with fail
            go_loopw [15] (ApartRel3 s l b c f k w) (fun i _ => 20 - (intOf i).toNat)
            case atStart => exact ⟨0, Nat.zero_le _, rfl, ht6, hu6, hf6, hC6⟩
            case round =>
              obtain ⟨i, hi, rfl, htk, huk, hfk, hCk⟩ := hrel
              by_cases hlt : i < 20
              · go_wp2_with fail
                refine (next_any b s l _ _ htk (by omega)).mono ?_
                rintro e w7 ⟨rfl, ht7, hc7⟩
                have hu7 := huk.other htk hc7 (Ne.symm hne)
                have hf7 := hfk.other htk hc7 (Ne.symm hbf)
                go_wp2_with fail
                refine (next_any c s l _ _ hu7 (by omega)).mono ?_
                rintro e w8 ⟨rfl, hu8, hc8⟩
                have ht8 := ht7.other hu7 hc8 hne
                have hf8 := hf7.other hu7 hc8 (Ne.symm hcf)
                go_wp2_with fail
                refine (next_any f s l _ _ hf8 (by omega)).mono ?_
                rintro e w9 ⟨rfl, hf9, hc9⟩
                have ht9 := ht8.other hf8 hc9 hbf
                have hu9 := hu8.other hf8 hc9 hcf
                have hC9 : Chg [] w w9 := ((hCk.trans_new hc7 (by simp; omega)).trans_new hc8 (by simp; omega)).trans_new hc9 (by simp; omega)
                go_wp2
                go_roundw
                case rel => exact ⟨i + 1, by omega, by go_num, ht9, hu9, hf9, hC9⟩
                case measure => simp [intOf]; omega
              · go_wp2_with fail
                refine (used_any b s l _ _ htk).mono ?_
                rintro e w7 ⟨rfl, rfl⟩
                go_wp2_with fail
                refine (used_any c s l _ _ huk).mono ?_
                rintro e w7 ⟨rfl, rfl⟩
                go_wp2_with fail
                refine (used_any f s l _ _ hfk).mono ?_
                rintro e w7 ⟨rfl, rfl⟩
                go_wp2_with fail
                refine (used_any b s l _ _ htk).mono ?_
                rintro e w7 ⟨rfl, rfl⟩
                go_wp2
                go_ret
                exact ⟨rfl, hCk.below (Nat.le_refl _) (by simp)⟩

end Go.Proofs.Yteoenajklllakaa
