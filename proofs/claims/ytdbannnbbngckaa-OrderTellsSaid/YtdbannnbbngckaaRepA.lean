/- The walks of package repute: has, count, bound, others, and what is asked of one upstream. -/
import Derived.Test.YtdbannnbbngckaaChecked
import Derived.Test.YtdbannnbbngckaaRepMem
import Derived.WalkLawsBesides
import Derived.WalkSpells
import Derived.LoopTactic
import Derived.Outline
import Derived.RegionTactic
import Derived.BigRegion
import Derived.Deep.QuietTactic
import Derived.BigQuiet
import Derived.StillTailTactics
import Derived.Deep.RegionHeld3
import Derived.Deep.Cut
import Derived.Deep.DeepMust
namespace Go.Proofs.Ytdbannnbbngckaa
open Go.RowKit

abbrev Book := BookAt 37 63

theorem has_nil (u : Int) (w : World) :
    Calls Try.prog 34 #[.pointer none, .int .i64 u] w fun e w' => e = .returned (.bool false) ∧ w = w' := by
  go_enter Try.func34, Try.ntmps34
  go_wp2
  go_ret
  exact ⟨rfl, rfl⟩

theorem has_slice (b : Nat) (a : Option Addr) (n c : Nat) (u : Int) (w : World) (h : w.cell? ⟨b, 2, none⟩ = some (.slice a n c)) (B : Bool) (hB : Hid (B = decide (0 ≤ u ∧ u < n))) :
    Calls Try.prog 34 #[.pointer (some ⟨b, 0, none⟩), .int .i64 u] w fun e w' => e = .returned (.bool B) ∧ w = w' := by
  by_cases h0 : 0 ≤ u
  · by_cases h1 : u < n
    · have hb : B = true := by rw [hB.out]; simp [h0, h1]
      subst hb
      clear hB
      go_enter Try.func34, Try.ntmps34
      go_wp2
      go_ret
      exact ⟨rfl, rfl⟩
    · have hb : B = false := by rw [hB.out]; simp [h1]
      subst hb
      clear hB
      have d1 : decide (u < (n : Int)) = false := by simpa using h1
      go_enter Try.func34, Try.ntmps34
      go_wp2
      go_ret
      exact ⟨rfl, rfl⟩
  · have hb : B = false := by rw [hB.out]; simp [h0]
    subst hb
    clear hB
    have d0 : decide (0 ≤ u) = false := by simpa using h0
    go_enter Try.func34, Try.ntmps34
    go_wp2
    go_ret
    exact ⟨rfl, rfl⟩

theorem has_any (b r L R : Nat) (us : List Up) (u : Int) (w : World) (h : Book w b r L R us) (B : Bool) (hB : Hid (B = hasB us u)) :
    Calls Try.prog 34 #[.pointer (some ⟨b, 0, none⟩), .int .i64 u] w fun e w' => e = .returned (.bool B) ∧ w = w' := by
  obtain ⟨cap, _, c2⟩ := h.c2
  exact has_slice b _ us.length cap u w c2 B (Lib.hid hB.out)

theorem ret_int {k : IntKind} {a b : Int} (h : a = b) : Ending.returned (.int k a) = .returned (.int k b) := by rw [h]

theorem count_any (n : Nat) (hn : n ≤ 65535) (w : World) :
    Calls Try.prog 52 #[.int .i64 n] w fun e w' => e = .returned (.int .i64 (cnt n : Nat)) ∧ w = w' := by
  go_enter Try.func52, Try.ntmps52
  go_wp2
  all_goals
    go_ret
    exact ⟨ret_int (by unfold cnt; omega), rfl⟩

theorem bound_any (b r L R : Nat) (us : List Up) (w : World) (h : Book w b r L R us) :
    Calls Try.prog 51 #[.pointer (some ⟨b, 0, none⟩)] w fun e w' => e = .returned (.int .i64 (bnd L : Nat)) ∧ w = w' := by
  have c0 := h.c0
  have hL := h.hL
  go_enter Try.func51, Try.ntmps51
  go_wp2
  all_goals
    go_ret
    exact ⟨ret_int (by unfold bnd; omega), rfl⟩

/-- What is known of an upstream, whatever its number. -/
def noUp : Up := ⟨0, 0, 0, 0, false, false, 0⟩
def getB (us : List Up) (u : Int) : Up := if hasB us u then us.getD u.toNat noUp else noUp
theorem getB_in {us : List Up} {u : Nat} (h : u < us.length) : getB us (u : Int) = us[u] := by
  unfold getB
  rw [if_pos (hasB_iff.2 ⟨by omega, by omega⟩)]
  simp [h]
theorem getB_out {us : List Up} {u : Int} (h : hasB us u = false) : getB us u = noUp := by unfold getB; rw [h]; rfl

theorem nat_of_has {us : List Up} {u : Int} (h : hasB us u = true) : ∃ n : Nat, u = n ∧ n < us.length := by
  have := hasB_iff.1 h
  exact ⟨u.toNat, by omega, by omega⟩

theorem len_any (b r L R : Nat) (us : List Up) (w : World) (h : Book w b r L R us) :
    Calls Try.prog 29 #[.pointer (some ⟨b, 0, none⟩)] w fun e w' => e = .returned (.int .i64 us.length) ∧ w = w' := by
  obtain ⟨cap, _, c2⟩ := h.c2
  go_enter Try.func29, Try.ntmps29
  go_wp2
  go_ret
  exact ⟨rfl, rfl⟩

theorem score_any (b r L R : Nat) (us : List Up) (u : Int) (w : World) (h : Book w b r L R us) :
    Calls Try.prog 18 #[.pointer (some ⟨b, 0, none⟩), .int .i64 u] w fun e w' => e = .returned (.int .i64 (getB us u).score) ∧ w = w' := by
  by_cases hh : hasB us u = true
  · obtain ⟨n, rfl, hn⟩ := nat_of_has hh
    rw [getB_in hn]
    obtain ⟨cap, hcap, c2⟩ := h.c2
    have o := (h.row.one n hn).c0
    have hni : (n : Int) < (us.length : Int) := by omega
    have HB : Hid (true = hasB us n) := Lib.hid hh.symm
    clear hh
    go_enter Try.func18, Try.ntmps18
    go_wp2_with (go_at_call 34; refine (has_any b r L R us _ _ h true HB).mono ?_; rintro e w' ⟨rfl, rfl⟩)
    go_ret
    exact ⟨rfl, rfl⟩
  · have HB : Hid (false = hasB us u) := Lib.hid (by simpa using Ne.symm hh)
    rw [getB_out HB.out.symm]
    clear hh
    go_enter Try.func18, Try.ntmps18
    go_wp2_with (go_at_call 34; refine (has_any b r L R us _ _ h false HB).mono ?_; rintro e w' ⟨rfl, rfl⟩)
    go_ret
    exact ⟨rfl, rfl⟩

theorem rests_any (b r L R : Nat) (us : List Up) (u : Int) (w : World) (h : Book w b r L R us) :
    Calls Try.prog 15 #[.pointer (some ⟨b, 0, none⟩), .int .i64 u] w fun e w' => e = .returned (.bool (getB us u).rests) ∧ w = w' := by
  by_cases hh : hasB us u = true
  · obtain ⟨n, rfl, hn⟩ := nat_of_has hh
    rw [getB_in hn]
    obtain ⟨cap, hcap, c2⟩ := h.c2
    have o := (h.row.one n hn).c4
    have hni : (n : Int) < (us.length : Int) := by omega
    have HB : Hid (true = hasB us n) := Lib.hid hh.symm
    clear hh
    go_enter Try.func15, Try.ntmps15
    go_wp2_with (go_at_call 34; refine (has_any b r L R us _ _ h true HB).mono ?_; rintro e w' ⟨rfl, rfl⟩)
    go_ret
    exact ⟨rfl, rfl⟩
  · have HB : Hid (false = hasB us u) := Lib.hid (by simpa using Ne.symm hh)
    rw [getB_out HB.out.symm]
    clear hh
    go_enter Try.func15, Try.ntmps15
    go_wp2_with (go_at_call 34; refine (has_any b r L R us _ _ h false HB).mono ?_; rintro e w' ⟨rfl, rfl⟩)
    go_ret
    exact ⟨rfl, rfl⟩

theorem trial_any (b r L R : Nat) (us : List Up) (u : Int) (w : World) (h : Book w b r L R us) :
    Calls Try.prog 17 #[.pointer (some ⟨b, 0, none⟩), .int .i64 u] w fun e w' => e = .returned (.bool (getB us u).trial) ∧ w = w' := by
  by_cases hh : hasB us u = true
  · obtain ⟨n, rfl, hn⟩ := nat_of_has hh
    rw [getB_in hn]
    obtain ⟨cap, hcap, c2⟩ := h.c2
    have o := (h.row.one n hn).c5
    have hni : (n : Int) < (us.length : Int) := by omega
    have HB : Hid (true = hasB us n) := Lib.hid hh.symm
    clear hh
    go_enter Try.func17, Try.ntmps17
    go_wp2_with (go_at_call 34; refine (has_any b r L R us _ _ h true HB).mono ?_; rintro e w' ⟨rfl, rfl⟩)
    go_ret
    exact ⟨rfl, rfl⟩
  · have HB : Hid (false = hasB us u) := Lib.hid (by simpa using Ne.symm hh)
    rw [getB_out HB.out.symm]
    clear hh
    go_enter Try.func17, Try.ntmps17
    go_wp2_with (go_at_call 34; refine (has_any b r L R us _ _ h false HB).mono ?_; rintro e w' ⟨rfl, rfl⟩)
    go_ret
    exact ⟨rfl, rfl⟩

def OthR (u : Nat) (us : List Up) (w : World) (n i : Value) (wr : World) : Prop :=
  ∃ k : Nat, k ≤ us.length ∧ i = .int .i64 k ∧ n = .int .i64 (othN u 0 (us.take k) : Nat) ∧ Chg [] w wr

theorem oth_step (u : Nat) (us : List Up) (k : Nat) (h : k < us.length) : othN u 0 (us.take (k + 1)) = othN u 0 (us.take k) + (if k ≠ u ∧ us[k].rests = false then 1 else 0) := by
  rw [List.take_succ_eq_append_getElem h, othN_snoc]
  have : (us.take k).length = k := by simp; omega
  rw [this, Nat.zero_add]

set_option maxHeartbeats 1000000 in
theorem others_any (b r L R u : Nat) (us : List Up) (w : World) (h : Book w b r L R us) :
    Calls Try.prog 53 #[.pointer (some ⟨b, 0, none⟩), .int .i64 u] w fun e w' => e = .returned (.int .i64 (othN u 0 us : Nat)) ∧ Chg [] w w' := by
  obtain ⟨cap, hcap, c2⟩ := h.c2
  have hlen := h.len
  go_enter Try.func53, Try.ntmps53
  go_wp2
  go_loopw [5, 13] (OthR u us w) (fun _ i _ => us.length - (intOf i).toNat)
  case atStart => exact ⟨0, Nat.zero_le _, rfl, rfl, Chg.refl _ _⟩
  case round =>
    obtain ⟨k, hk, rfl, rfl, hC⟩ := hrel
    have hNle : othN u 0 (us.take k) ≤ k := Nat.le_trans (othN_le u _ 0) (List.length_take_le _ _)
    obtain ⟨N, hN⟩ : ∃ N, N = othN u 0 (us.take k) := ⟨_, rfl⟩
    rw [← hN] at hNle ⊢
    by_cases hlt : k < us.length
    · have hst := oth_step u us k hlt
      rw [← hN] at hst
      have hni : (k : Int) < (us.length : Int) := by omega
      obtain ⟨o0, o1, o2, o3, o4, o5, o6⟩ := (h.chg hC (by simp) (by simp)).row.one k hlt
      obtain ⟨p, hp⟩ : ∃ p, p = us[k] := ⟨_, rfl⟩
      rw [← hp] at o0 o1 o2 o3 o4 o5 o6 hst
      have HST := Lib.hid hst
      clear hst hN hp c2
      by_cases hku : k = u
      · have e1 : ((k : Int) != (u : Int)) = false := by simp; omega
        have HE : Hid (k = u) := Lib.hid hku
        clear hku
        go_wp2
        go_roundw
        case rel => exact ⟨k + 1, hlt, by go_num, by rw [HST.out, if_neg (fun hh => hh.1 HE.out)]; go_num, hC.alloc _⟩
        case measure => simp [intOf] <;> omega
      · have e1 : ((k : Int) != (u : Int)) = true := by simp; omega
        by_cases hr : p.rests = true
        · have HRR := Lib.hid hr
          go_wp2
          go_roundw
          case rel => exact ⟨k + 1, hlt, by go_num, by rw [HST.out, if_neg (fun hh => by rw [HRR.out] at hh; exact absurd hh.2 (by decide))]; go_num, hC.alloc _⟩
          case measure => simp [intOf] <;> omega
        · have hr' : p.rests = false := by simpa using hr
          have HRR := Lib.hid hr'
          clear hr
          go_wp2
          go_roundw
          case rel => exact ⟨k + 1, hlt, by go_num, by rw [HST.out, if_pos ⟨hku, HRR.out⟩]; go_num, hC.alloc _⟩
          case measure => simp [intOf] <;> omega
    · obtain rfl : k = us.length := by omega
      rw [List.take_of_length_le (Nat.le_refl _)] at hN
      have HN := Lib.hid hN
      clear hN
      go_wp2
      go_ret
      exact ⟨by rw [← HN.out]; rfl, hC⟩

end Go.Proofs.Ytdbannnbbngckaa
