/- Entries of the order in memory; the walks of compare and of the library's insertion. -/
import Derived.Test.YtdbannnbbngckaaRepI20
import Derived.Test.YtdbannnbbngckaaOrdPl
import Derived.Test.YtdbannnbbngckaaOver
import Derived.Deep.RegionHeld3
import Derived.RegionTactic
import Derived.BigRegion
namespace Go.Proofs.Ytdbannnbbngckaa
open Go.RowKit

/-- The key of an upstream: who is on trial stands behind, then the greater score ahead. -/
def keyE (sc : Nat → Nat) (tr : Nat → Bool) (u : Nat) : Nat := (if tr u then 1000 else 0) + (100 - sc u)
def entV (sc : Nat → Nat) (tr : Nat → Bool) (u : Nat) : List Value := [.int .i64 u, .int .i64 (sc u), .bool (tr u)]
def entsV (sc : Nat → Nat) (tr : Nat → Bool) : List Nat → List Value
  | [] => []
  | u :: l => entV sc tr u ++ entsV sc tr l
section
variable {sc : Nat → Nat} {tr : Nat → Bool}
theorem entsV_len : ∀ l : List Nat, (entsV sc tr l).length = l.length * 3
  | [] => rfl
  | p :: l => by simp only [entsV, List.length_append, entsV_len l, List.length_cons, entV, List.length_nil]; omega
theorem entsV_append : ∀ (l m : List Nat), entsV sc tr (l ++ m) = entsV sc tr l ++ entsV sc tr m
  | [], m => rfl
  | p :: l, m => by simp only [List.cons_append, entsV, entsV_append l m, List.append_assoc]
theorem entsV_get : ∀ (l : List Nat) (i j : Nat) (h : i < l.length), j < 3 → (entsV sc tr l)[i * 3 + j]? = (entV sc tr l[i])[j]?
  | p :: l, 0, j, _, hj => by
    simp only [entsV, List.getElem_cons_zero]
    rw [List.getElem?_append_left (by simp [entV]; omega)]
    congr 1
    omega
  | p :: l, i + 1, j, h, hj => by
    simp only [entsV, List.getElem_cons_succ]
    rw [List.getElem?_append_right (by simp [entV]; omega)]
    have : (i + 1) * 3 + j - (entV sc tr p).length = i * 3 + j := by simp [entV]; omega
    rw [this]
    exact entsV_get l i j (by simpa using h) hj
theorem entV_one (u : Nat) : ∀ v ∈ entV sc tr u, v.oneCell' = true := by
  intro v hv
  simp only [entV, List.mem_cons, List.not_mem_nil, or_false] at hv
  rcases hv with rfl | rfl | rfl <;> rfl
/-- Three cells written over: another entry at that place. -/
theorem entsV_set3 (y : Nat) : ∀ (l : List Nat) (i : Nat), i < l.length → (((entsV sc tr l).set (i * 3) (.int .i64 y)).set (i * 3 + 1) (.int .i64 (sc y))).set (i * 3 + 2) (.bool (tr y)) = entsV sc tr (l.set i y)
  | p :: l, 0, _ => rfl
  | p :: l, i + 1, h => by
    have ih := entsV_set3 y l i (by simpa using h)
    simp only [entsV, List.set_cons_succ]
    rw [← ih]
    have e0 : (i + 1) * 3 = (i * 3) + 3 := by omega
    have e1 : (i + 1) * 3 + 1 = (i * 3 + 1) + 3 := by omega
    have e2 : (i + 1) * 3 + 2 = (i * 3 + 2) + 3 := by omega
    rw [e2, e1, e0]
    rfl

/-- The block g holds the entries of the row l, from its head on. -/
def EntsAt (sc : Nat → Nat) (tr : Nat → Bool) (w : World) (g : Nat) (l : List Nat) : Prop := ∃ rest, w.heap[g]? = some (.cells (entsV sc tr l ++ rest).toArray 71 (0, 0))
theorem EntsAt.lt {w : World} {g : Nat} {l : List Nat} (h : EntsAt sc tr w g l) : g < w.heap.size := by obtain ⟨_, h⟩ := h; exact lt_of_block h
theorem EntsAt.chg {w w' : World} {g : Nat} {l : List Nat} {S : List Nat} (h : EntsAt sc tr w g l) (hc : Chg S w w') (hr : g ∉ S) : EntsAt sc tr w' g l := by
  obtain ⟨rest, h⟩ := h; exact ⟨rest, hc.keep h hr⟩
theorem EntsAt.fr {w : World} {g : Nat} {l : List Nat} (h : EntsAt sc tr w g l) (i : Nat) : w.frozen? ⟨g, i, none⟩ = false := by obtain ⟨_, h⟩ := h; exact free_of h
theorem EntsAt.get {w : World} {g : Nat} {l : List Nat} (h : EntsAt sc tr w g l) (i j : Nat) (hi : i < l.length) (hj : j < 3) : w.cell? ⟨g, i * 3 + j, none⟩ = (entV sc tr l[i])[j]? := by
  obtain ⟨rest, h⟩ := h
  rw [cell_of h, List.getElem?_toArray, List.getElem?_append_left (by rw [entsV_len]; omega), entsV_get l i j hi hj]
theorem EntsAt.set3 {w : World} {g : Nat} {l : List Nat} (h : EntsAt sc tr w g l) (i y : Nat) (hi : i < l.length) :
    EntsAt sc tr (((w.setCell ⟨g, i * 3, none⟩ (.int .i64 y)).setCell ⟨g, i * 3 + 1, none⟩ (.int .i64 (sc y))).setCell ⟨g, i * 3 + 2, none⟩ (.bool (tr y))) g (l.set i y) := by
  obtain ⟨rest, h⟩ := h
  refine ⟨rest, ?_⟩
  rw [heap_set (heap_set (heap_set h _) _), List.setIfInBounds_toArray, List.setIfInBounds_toArray, List.setIfInBounds_toArray]
  have hl := entsV_len (sc := sc) (tr := tr) l
  rw [List.set_append_left _ _ (by omega), List.set_append_left _ _ (by simp; omega), List.set_append_left _ _ (by simp; omega), entsV_set3 y l i hi]

/-- An entry, cell by cell. -/
structure EntAt (sc : Nat → Nat) (tr : Nat → Bool) (w : World) (g i u : Nat) : Prop where
  c0 : w.cell? ⟨g, i * 3, none⟩ = some (.int .i64 u)
  c1 : w.cell? ⟨g, i * 3 + 1, none⟩ = some (.int .i64 (sc u))
  c2 : w.cell? ⟨g, i * 3 + 2, none⟩ = some (.bool (tr u))
theorem EntsAt.one {w : World} {g : Nat} {l : List Nat} (h : EntsAt sc tr w g l) (i : Nat) (hi : i < l.length) : EntAt sc tr w g i l[i] :=
  ⟨h.get i 0 hi (by decide), h.get i 1 hi (by decide), h.get i 2 hi (by decide)⟩
end

theorem nan_any (x : Int) (w : World) : Calls Try.prog 59 #[.int .i64 x] w fun e w' => e = .returned (.bool false) ∧ w = w' := by
  go_enter Try.func59, Try.ntmps59
  go_wp2
  go_ret
  exact ⟨rfl, rfl⟩
theorem compare_less (x y : Int) (w : World) (h : x < y) : Calls Try.prog 50 #[.int .i64 x, .int .i64 y] w fun e w' => e = .returned (.int .i64 (-1)) ∧ w = w' := by
  go_enter Try.func50, Try.ntmps50
  go_wp2_with (go_at_call 59; refine (nan_any _ _).mono ?_; rintro e w' ⟨rfl, rfl⟩)
  go_ret
  exact ⟨rfl, rfl⟩
/-- A number that is not below 0. -/
def NotBelow (w : World) (e : Ending) (w' : World) : Prop := ∃ c : Nat, c ≤ 1 ∧ e = .returned (.int .i64 c) ∧ Chg [] w w'
theorem compare_more (x y : Int) (w : World) (h : ¬ x < y) : Calls Try.prog 50 #[.int .i64 x, .int .i64 y] w (NotBelow w) := by
  have d0 : decide (x < y) = false := by simpa using h
  by_cases h2 : y < x
  · go_enter Try.func50, Try.ntmps50
    go_wp2_with (go_at_call 59; refine (nan_any _ _).mono ?_; rintro e w' ⟨rfl, rfl⟩)
    go_ret
    exact ⟨1, by decide, rfl, Chg.refl _ _⟩
  · have d1 : decide (y < x) = false := by simpa using h2
    go_enter Try.func50, Try.ntmps50
    go_wp2_with (go_at_call 59; refine (nan_any _ _).mono ?_; rintro e w' ⟨rfl, rfl⟩)
    go_ret
    exact ⟨0, by decide, rfl, Chg.refl _ _⟩

theorem ent_less (u v s t : Nat) (p q : Bool) (w : World) (hs : s ≤ 100) (ht : t ≤ 100) (h : (if p then 1000 else 0) + (100 - s) < (if q then 1000 else 0) + (100 - t)) :
    Calls Try.prog 33 #[.agg #[.int .i64 u, .int .i64 s, .bool p], .agg #[.int .i64 v, .int .i64 t, .bool q]] w fun e w' => e = .returned (.int .i64 (-1)) ∧ Chg [] w w' := by
  cases p <;> cases q
  · have h2 : (t : Int) < (s : Int) := by simp at h; omega
    clear h
    go_enter Try.func33, Try.ntmps33
    go_wp2_with (go_at_call 50; refine (compare_less _ _ _ h2).mono ?_; rintro e w' ⟨rfl, rfl⟩)
    go_ret
    exact ⟨rfl, ((Chg.refl _ _).alloc _).alloc _⟩
  · clear h
    go_enter Try.func33, Try.ntmps33
    go_wp2
    go_ret
    exact ⟨rfl, ((Chg.refl _ _).alloc _).alloc _⟩
  · simp at h; omega
  · have h2 : (t : Int) < (s : Int) := by simp at h; omega
    clear h
    go_enter Try.func33, Try.ntmps33
    go_wp2_with (go_at_call 50; refine (compare_less _ _ _ h2).mono ?_; rintro e w' ⟨rfl, rfl⟩)
    go_ret
    exact ⟨rfl, ((Chg.refl _ _).alloc _).alloc _⟩
theorem ent_more (u v s t : Nat) (p q : Bool) (w : World) (hs : s ≤ 100) (ht : t ≤ 100) (h : ¬ (if p then 1000 else 0) + (100 - s) < (if q then 1000 else 0) + (100 - t)) :
    Calls Try.prog 33 #[.agg #[.int .i64 u, .int .i64 s, .bool p], .agg #[.int .i64 v, .int .i64 t, .bool q]] w (NotBelow w) := by
  cases p <;> cases q
  · have h2 : ¬ (t : Int) < (s : Int) := by simp at h; omega
    clear h
    go_enter Try.func33, Try.ntmps33
    go_wp2_with (go_at_call 50; refine (compare_more _ _ _ h2).mono ?_; rintro e w1 ⟨c, hc1, rfl, hc⟩)
    go_ret
    exact ⟨c, hc1, rfl, (((Chg.refl _ _).alloc _).alloc _).trans hc⟩
  · simp at h; omega
  · clear h
    go_enter Try.func33, Try.ntmps33
    go_wp2
    go_ret
    exact ⟨1, by decide, rfl, ((Chg.refl _ _).alloc _).alloc _⟩
  · have h2 : ¬ (t : Int) < (s : Int) := by simp at h; omega
    clear h
    go_enter Try.func33, Try.ntmps33
    go_wp2_with (go_at_call 50; refine (compare_more _ _ _ h2).mono ?_; rintro e w1 ⟨c, hc1, rfl, hc⟩)
    go_ret
    exact ⟨c, hc1, rfl, (((Chg.refl _ _).alloc _).alloc _).trans hc⟩

end Go.Proofs.Ytdbannnbbngckaa
