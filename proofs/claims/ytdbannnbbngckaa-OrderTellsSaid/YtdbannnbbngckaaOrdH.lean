/- The document's order: Ahead, Order. -/
import Derived.Test.YtdbannnbbngckaaOrdF
import Derived.Deep.QuietTactic
import Derived.BigQuiet
import Derived.Deep.RegionLaw
import Derived.Maps.AppendAt
namespace Go.Proofs.Ytdbannnbbngckaa
open Go.RowKit

set_option maxRecDepth 100000 in
set_option maxHeartbeats 2000000 in
theorem ahead_any (q s L R u v : Nat) (us : List Up) (w : World) (h : RBook w q s L R us) (hu : u < us.length) (hv : v < us.length) (B : Bool) (hB : Hid (B = decide (keyE (scU us) (trU us) u < keyE (scU us) (trU us) v))) :
    Calls Try.prog 46 #[.pointer (some ⟨q, 0, none⟩), .int .i64 u, .int .i64 v] w fun e w' => e = .returned (.bool B) ∧ Chg [] w w' := by
  obtain ⟨cap, hcap, c2⟩ := h.c2
  obtain ⟨o0, o1, o2, o3, o4, o5, o6⟩ := h.row.one u hu
  obtain ⟨r0, r1, r2, r3, r4, r5, r6⟩ := h.row.one v hv
  have hsu : us[u].score ≤ 100 := (h.ok _ (List.getElem_mem hu)).score
  have hsv : us[v].score ≤ 100 := (h.ok _ (List.getElem_mem hv)).score
  have hB' : B = decide ((if us[u].trial then 1000 else 0) + (100 - us[u].score) < (if us[v].trial then 1000 else 0) + (100 - us[v].score)) := by
    rw [hB.out]; unfold keyE scU trU; rw [getB_in hu, getB_in hv]
  obtain ⟨su, hsu'⟩ : ∃ su, us[u].score = su := ⟨_, rfl⟩
  obtain ⟨sv, hsv'⟩ : ∃ sv, us[v].score = sv := ⟨_, rfl⟩
  obtain ⟨tu, htu⟩ : ∃ tu, us[u].trial = tu := ⟨_, rfl⟩
  obtain ⟨tv, htv⟩ : ∃ tv, us[v].trial = tv := ⟨_, rfl⟩
  rw [hsu'] at hsu o0 hB'
  rw [hsv'] at hsv r0 hB'
  rw [htu] at o5 hB'
  rw [htv] at r5 hB'
  have hui : (u : Int) < (us.length : Int) := by omega
  have hvi : (v : Int) < (us.length : Int) := by omega
  clear o1 o2 o3 o4 o6 r1 r2 r3 r4 r6 hsu' hsv' htu htv hB
  cases tu <;> cases tv
  · by_cases hlt : sv < su
    · obtain rfl : B = true := by rw [hB']; simp; omega
      have hI : (sv : Int) < (su : Int) := by omega
      clear hB'
      go_enter Try.func46, Try.ntmps46
      go_wp2_with fail
      go_quiet (fail)
      go_wp2_with fail
      go_quiet (fail)
      go_wp2
      go_ret
      first | exact ⟨rfl, (Chg.refl _ _).drewN _⟩ | exact ⟨rfl, ((Chg.refl _ _).drewN _).drewN _⟩
    · obtain rfl : B = false := by rw [hB']; simp; omega
      have d1 : decide (sv < su) = false := by simpa using hlt
      have d2 : decide ((sv : Int) < (su : Int)) = false := by simp; omega
      clear hB'
      go_enter Try.func46, Try.ntmps46
      go_wp2_with fail
      go_quiet (fail)
      go_wp2_with fail
      go_quiet (fail)
      go_wp2
      go_ret
      first | exact ⟨rfl, (Chg.refl _ _).drewN _⟩ | exact ⟨rfl, ((Chg.refl _ _).drewN _).drewN _⟩
  · obtain rfl : B = true := by rw [hB']; simp; omega
    clear hB'
    go_enter Try.func46, Try.ntmps46
    go_wp2_with fail
    go_quiet (fail)
    go_wp2
    go_ret
    first | exact ⟨rfl, (Chg.refl _ _).drewN _⟩ | exact ⟨rfl, ((Chg.refl _ _).drewN _).drewN _⟩
  · obtain rfl : B = false := by rw [hB']; simp; omega
    clear hB'
    go_enter Try.func46, Try.ntmps46
    go_wp2_with fail
    go_quiet (fail)
    go_wp2
    go_ret
    first | exact ⟨rfl, (Chg.refl _ _).drewN _⟩ | exact ⟨rfl, ((Chg.refl _ _).drewN _).drewN _⟩
  · by_cases hlt : sv < su
    · obtain rfl : B = true := by rw [hB']; simp; omega
      have hI : (sv : Int) < (su : Int) := by omega
      clear hB'
      go_enter Try.func46, Try.ntmps46
      go_wp2_with fail
      go_quiet (fail)
      go_wp2_with fail
      go_quiet (fail)
      go_wp2
      go_ret
      first | exact ⟨rfl, (Chg.refl _ _).drewN _⟩ | exact ⟨rfl, ((Chg.refl _ _).drewN _).drewN _⟩
    · obtain rfl : B = false := by rw [hB']; simp; omega
      have d1 : decide (sv < su) = false := by simpa using hlt
      have d2 : decide ((sv : Int) < (su : Int)) = false := by simp; omega
      clear hB'
      go_enter Try.func46, Try.ntmps46
      go_wp2_with fail
      go_quiet (fail)
      go_wp2_with fail
      go_quiet (fail)
      go_wp2
      go_ret
      first | exact ⟨rfl, (Chg.refl _ _).drewN _⟩ | exact ⟨rfl, ((Chg.refl _ _).drewN _).drewN _⟩

end Go.Proofs.Ytdbannnbbngckaa
