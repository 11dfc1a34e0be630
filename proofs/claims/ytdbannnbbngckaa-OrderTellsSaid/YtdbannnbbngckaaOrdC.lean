/- The walks of the library's stable sort over entries, and of Order. -/
import Derived.Test.YtdbannnbbngckaaOrdB
import Derived.Test.YtdbannnbbngckaaRef12b
namespace Go.Proofs.Ytdbannnbbngckaa
open Go.RowKit

theorem insert_none (a : Option Addr) (c : Nat) (w : World) :
    Calls Try.prog 57 #[.slice a 0 c, .int .i64 0, .int .i64 0, cmpF] w fun e w' => e = .returned (.tuple #[]) ∧ w = w' := by
  unfold cmpF
  go_enter Try.func57, Try.ntmps57
  go_wp2_with fail
  go_loop [8] (fun i => i = .int .i64 1) (fun _ => 0)
  case atStart => rfl
  case round =>
    subst hrel
    go_wp2
    go_end0
    exact ⟨rfl, rfl⟩

set_option maxRecDepth 100000 in
set_option maxHeartbeats 2000000 in
theorem stable_any (sc : Nat → Nat) (tr : Nat → Bool) (hsc : ∀ u, sc u ≤ 100) (g cap : Nat) (l : List Nat) (w : World) (h : EntsAt sc tr w g l) (hpos : 1 ≤ l.length) (hlen : l.length ≤ 19) :
    Calls Try.prog 49 #[.slice (some ⟨g, 0, none⟩) l.length cap, .int .i64 l.length, cmpF] w fun e w' => e = .returned (.tuple #[]) ∧ EntsAt sc tr w' g (ordK (keyE sc tr) l) ∧ Chg [g] w w' := by
  have HSC := Lib.hid hsc
  have d1 : decide ((20 : Int) ≤ (l.length : Int)) = false := by simp; omega
  have d2 : decide ((20 : Int) < (l.length : Int)) = false := by simp; omega
  have d3 : decide (20 ≤ l.length) = false := by simp; omega
  have d4 : decide (20 < l.length) = false := by simp; omega
  clear hsc
  have hcf : cmpF = .func (.func 33) #[] #[] := rfl
  rw [hcf]
  go_enter Try.func49, Try.ntmps49
  go_wp2_with fail
  go_loop [7, 8] (fun a b => a = .int .i64 0 ∧ b = .int .i64 20) (fun _ _ => 0)
  case atStart => exact ⟨rfl, rfl⟩
  case round =>
    obtain ⟨rfl, rfl⟩ := hrel
    go_wp2_with fail
    rw [← hcf]
    refine (insert_any sc tr HSC.out g cap l _ h hpos (by omega)).mono ?_
    rintro e w1 ⟨rfl, h1, hc1⟩
    rw [hcf]
    go_wp2_with fail
    go_loop [6] (fun a => a = .int .i64 20) (fun _ => 0)
    case atStart => rfl
    case round =>
      subst hrel
      go_wp2
      go_end0
      exact ⟨rfl, h1, hc1⟩

theorem stable_none (a : Option Addr) (c : Nat) (w : World) :
    Calls Try.prog 49 #[.slice a 0 c, .int .i64 0, cmpF] w fun e w' => e = .returned (.tuple #[]) ∧ w = w' := by
  have hcf : cmpF = .func (.func 33) #[] #[] := rfl
  rw [hcf]
  go_enter Try.func49, Try.ntmps49
  go_wp2_with fail
  go_loop [7, 8] (fun a b => a = .int .i64 0 ∧ b = .int .i64 20) (fun _ _ => 0)
  case atStart => exact ⟨rfl, rfl⟩
  case round =>
    obtain ⟨rfl, rfl⟩ := hrel
    go_wp2_with fail
    rw [← hcf]
    refine (insert_none a c _).mono ?_
    rintro e w1 ⟨rfl, rfl⟩
    rw [hcf]
    go_wp2_with fail
    go_loop [6] (fun a => a = .int .i64 20) (fun _ => 0)
    case atStart => rfl
    case round =>
      subst hrel
      go_wp2
      go_end0
      exact ⟨rfl, rfl⟩

theorem sort_any (sc : Nat → Nat) (tr : Nat → Bool) (hsc : ∀ u, sc u ≤ 100) (g cap : Nat) (l : List Nat) (w : World) (h : EntsAt sc tr w g l) (hpos : 1 ≤ l.length) (hlen : l.length ≤ 19) :
    Calls Try.prog 32 #[.slice (some ⟨g, 0, none⟩) l.length cap, cmpF] w fun e w' => e = .returned (.tuple #[]) ∧ EntsAt sc tr w' g (ordK (keyE sc tr) l) ∧ Chg [g] w w' := by
  have HSC := Lib.hid hsc
  clear hsc
  have hcf : cmpF = .func (.func 33) #[] #[] := rfl
  rw [hcf]
  go_enter Try.func32, Try.ntmps32
  go_wp2_with fail
  rw [← hcf]
  refine (stable_any sc tr HSC.out g cap l _ h hpos hlen).mono ?_
  rintro e w1 ⟨rfl, h1, hc1⟩
  rw [hcf]
  go_wp2
  go_end0
  exact ⟨rfl, h1, hc1⟩
theorem sort_none (a : Option Addr) (c : Nat) (w : World) :
    Calls Try.prog 32 #[.slice a 0 c, cmpF] w fun e w' => e = .returned (.tuple #[]) ∧ w = w' := by
  have hcf : cmpF = .func (.func 33) #[] #[] := rfl
  rw [hcf]
  go_enter Try.func32, Try.ntmps32
  go_wp2_with fail
  rw [← hcf]
  refine (stable_none a c _).mono ?_
  rintro e w1 ⟨rfl, rfl⟩
  rw [hcf]
  go_wp2
  go_end0
  exact ⟨rfl, rfl⟩

end Go.Proofs.Ytdbannnbbngckaa
