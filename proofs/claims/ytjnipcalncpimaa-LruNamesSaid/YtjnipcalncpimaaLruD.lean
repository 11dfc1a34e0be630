/- The walks of package lru: New, Copy, Oldest, Newest, Has. -/
import Derived.Test.YtjnipcalncpimaaLruC
import Derived.Deep.WholeRow
namespace Go.Proofs.Ytjnipcalncpimaa
open Go.RowKit

def zerosL : List Nat := List.replicate 257 0
theorem zerosL_length : zerosL.length = 257 := by unfold zerosL; exact List.length_replicate
theorem lru_zero (w : World) : (zeroValue 50).run Try.prog w = .ok (.agg (lruCells 0 zerosL zerosL)) w := by kernel_rfl
theorem lru_size : (Try.prog.info? 50).map (·.size) = some 515 := by kernel_rfl
theorem lruCells_size (n : Nat) (nx la : List Nat) (h1 : nx.length = 257) (h2 : la.length = 257) : (lruCells n nx la).size = 515 := by simp [lruCells, h1, h2]
theorem lruCells_one (n : Nat) (nx la : List Nat) : (lruCells n nx la).all (·.oneCell') = true := by
  simp only [lruCells, Array.all_eq_true]
  intro i hi
  simp only [List.getElem_toArray]
  cases i with
  | zero => rfl
  | succ i => simp only [List.getElem_cons_succ, List.getElem_map]; rfl

theorem copy_nil (w : World) :
    Calls Try.prog 13 #[.pointer none] w fun e w' => e = .returned (.pointer none) ∧ w = w' := by
  go_enter Try.func13, Try.ntmps13
  go_wp2
  go_ret
  exact ⟨rfl, rfl⟩

theorem copy_any (b n : Nat) (row : List Nat) (w : World) (h : LruAt w b n row) :
    Calls Try.prog 13 #[.pointer (some ⟨b, 0, none⟩)] w fun e w' => e = .returned (.pointer (some ⟨w.heap.size, 0, none⟩)) ∧ LruAt w' w.heap.size n row ∧ LruAt w' b n row ∧ Chg [] w w' := by
  have h0 := h
  obtain ⟨hn, hlt, nx, la, hr, hring⟩ := h
  have hz := lru_zero
  have hst := run_storeCells_new (P := Try.prog) w 50 (lruCells 0 zerosL zerosL) (lruCells n nx la) (by rw [lru_size, lruCells_size _ _ _ hr.1 hr.2.1]) (by rw [lruCells_size _ _ _ hr.1 hr.2.1, lruCells_size _ _ _ zerosL_length zerosL_length]) (lruCells_one _ _ _)
  have hsz := lruCells_size n nx la hr.1 hr.2.1
  have HR := Lib.hid hr
  have HSZ := Lib.hid (show (Try.prog.info? 50).map (·.size) = some (lruCells n nx la).size by rw [lru_size, lruCells_size _ _ _ hr.1 hr.2.1])
  have HRING := Lib.hid hring
  have HLT := Lib.hid hlt
  have H0 := Lib.hid h0
  clear hr hring hlt h0
  go_enter Try.func13, Try.ntmps13
  go_wp2_with (refine wpList_load_row rfl 50 _ rfl b rfl 50 _ (0, 0) _ HR.out.2.2 Try.underlying50 rfl HSZ.out ?_)
  go_ret
  exact ⟨rfl, ⟨hn, HLT.out, nx, la, ⟨HR.out.1, HR.out.2.1, heap_new _ _⟩, HRING.out⟩, H0.out.chg (S := []) ((Chg.refl _ _).alloc _) (by simp), (Chg.refl _ _).alloc _⟩

theorem lru_set_n (m n : Nat) (nx la : List Nat) : (lruCells m nx la).setIfInBounds 0 (.int .i64 (n : Nat)) = lruCells n nx la := by
  unfold lruCells
  rw [List.setIfInBounds_toArray, List.set_cons_zero]

theorem ring_zero : Ring (fnOf zerosL) (fnOf zerosL) [] := by
  have : fnOf zerosL = fun _ => 0 := fnOf_zero 257
  rw [this]; exact ring_empty

theorem new_out (n : Int) (w : World) (hn : n < 0 ∨ 256 < n) :
    Calls Try.prog 20 #[.int .i64 n] w fun e w' => e = .returned (.tuple #[.pointer none, .int .i64 1]) ∧ w = w' := by
  rcases hn with hn | hn
  · go_enter Try.func20, Try.ntmps20
    go_wp2
    go_ret2
    exact ⟨rfl, rfl⟩
  · have h1 : ¬ n < 0 := by omega
    go_enter Try.func20, Try.ntmps20
    go_wp2
    go_ret2
    exact ⟨rfl, rfl⟩

theorem new_in (n : Nat) (w : World) (hn : n ≤ 256) :
    Calls Try.prog 20 #[.int .i64 n] w fun e w' => e = .returned (.tuple #[.pointer (some ⟨w.heap.size, 0, none⟩), .int .i64 0]) ∧ LruAt w' w.heap.size n [] ∧ Chg [] w w' := by
  have hz := lru_zero
  have hd : decide ((n : Int) < 0) = false := by simp
  go_enter Try.func20, Try.ntmps20
  go_wp2
  go_ret2
  rw [lru_set_n]
  exact ⟨rfl, ⟨hn, by simp, zerosL, zerosL, ⟨zerosL_length, zerosL_length, heap_new _ _⟩, ring_zero⟩, (Chg.refl _ _).alloc _⟩

theorem oldest_nil (w : World) :
    Calls Try.prog 18 #[.pointer none] w fun e w' => e = .returned (.tuple #[.int .i64 0, .bool false]) ∧ w = w' := by
  go_enter Try.func18, Try.ntmps18
  go_wp2
  go_ret2
  exact ⟨rfl, rfl⟩
theorem newest_nil (w : World) :
    Calls Try.prog 19 #[.pointer none] w fun e w' => e = .returned (.tuple #[.int .i64 0, .bool false]) ∧ w = w' := by
  go_enter Try.func19, Try.ntmps19
  go_wp2
  go_ret2
  exact ⟨rfl, rfl⟩

/-- The first of a row, or 0; is there one? -/
def firstOf (row : List Nat) : Nat := row.headD 0
def lastOf (row : List Nat) : Nat := row.getLastD 0

theorem oldest_any (b n x : Nat) (r : Bool) (row : List Nat) (w : World) (h : LruAt w b n row) (hx : x = firstOf row) (hr : r = !row.isEmpty) :
    Calls Try.prog 18 #[.pointer (some ⟨b, 0, none⟩)] w fun e w' => e = .returned (.tuple #[.int .i64 x, .bool r]) ∧ w = w' := by
  have hle := h.1
  obtain ⟨hn, hlt, nx, la, hraw, hring⟩ := h
  have c1 := hraw.next 0 (by decide)
  rw [ring_first hring] at c1
  cases row with
  | nil =>
    subst hx; subst hr
    simp only [List.map_nil, List.headD_nil] at c1
    clear hraw hring
    go_enter Try.func18, Try.ntmps18
    go_wp2
    go_ret2
    exact ⟨rfl, rfl⟩
  | cons y l =>
    have hyn : y < n := hlt y (by simp)
    have hxy : x = y := hx
    have hrt : r = true := hr
    subst hxy; subst hrt
    simp only [List.map_cons, List.headD_cons] at c1
    have t1 : (((x + 1 : Nat) : Int) == 0) = false := by simp; omega
    have t2 : (((x + 1 : Nat) : Int) - 1) = (x : Int) := by omega
    clear hraw hring hlt hx hr
    go_enter Try.func18, Try.ntmps18
    go_wp2
    go_ret2
    exact ⟨by congr 2, rfl⟩

theorem getLastD_map_succ (y : Nat) (l : List Nat) : ((y :: l).map (· + 1)).getLastD 0 = (y :: l).getLastD 0 + 1 := by
  rw [List.getLastD_eq_getLast?, List.getLastD_eq_getLast?, List.getLast?_map]
  cases h : (y :: l).getLast? with
  | none => simp at h
  | some z => rfl
theorem getLastD_mem (y : Nat) (l : List Nat) : (y :: l).getLastD 0 ∈ y :: l := by
  rw [List.getLastD_eq_getLast?]
  cases h : (y :: l).getLast? with
  | none => simp at h
  | some z => exact List.mem_of_getLast? h

theorem newest_any (b n x : Nat) (r : Bool) (row : List Nat) (w : World) (h : LruAt w b n row) (hx : x = lastOf row) (hr : r = !row.isEmpty) :
    Calls Try.prog 19 #[.pointer (some ⟨b, 0, none⟩)] w fun e w' => e = .returned (.tuple #[.int .i64 x, .bool r]) ∧ w = w' := by
  have hle := h.1
  obtain ⟨hn, hlt, nx, la, hraw, hring⟩ := h
  have c1 := hraw.last 0 (by decide)
  rw [ring_last hring] at c1
  cases row with
  | nil =>
    subst hx; subst hr
    simp only [List.map_nil, List.getLastD_nil] at c1
    clear hraw hring
    go_enter Try.func19, Try.ntmps19
    go_wp2
    go_ret2
    exact ⟨rfl, rfl⟩
  | cons y l =>
    rw [getLastD_map_succ] at c1
    have hxn : x < n := by rw [hx]; exact hlt _ (getLastD_mem y l)
    have hrt : r = true := hr
    subst hrt
    unfold lastOf at hx
    rw [← hx] at c1
    have t1 : (((x + 1 : Nat) : Int) == 0) = false := by simp; omega
    clear hraw hring hlt hx hr
    go_enter Try.func19, Try.ntmps19
    go_wp2
    go_ret2
    exact ⟨by congr 2, rfl⟩

theorem has_nil (at_ : Int) (w : World) :
    Calls Try.prog 12 #[.pointer none, .int .i64 at_] w fun e w' => e = .returned (.bool false) ∧ w = w' := by
  go_enter Try.func12, Try.ntmps12
  go_wp2_with (go_at_call 27; refine (slot_nil at_ _).mono ?_; rintro e w' ⟨rfl, rfl⟩)
  go_ret
  exact ⟨rfl, rfl⟩
theorem has_out (b n : Nat) (at_ : Int) (row : List Nat) (w : World) (h : LruAt w b n row) (hat : at_ < 0 ∨ (n : Int) ≤ at_) :
    Calls Try.prog 12 #[.pointer (some ⟨b, 0, none⟩), .int .i64 at_] w fun e w' => e = .returned (.bool false) ∧ w = w' := by
  have HS := Lib.hid hat
  clear hat
  go_enter Try.func12, Try.ntmps12
  go_wp2_with (go_at_call 27; refine (slot_out b n at_ row _ h HS.out).mono ?_; rintro e w' ⟨rfl, rfl⟩)
  go_ret
  exact ⟨rfl, rfl⟩

theorem in_at (b n p : Nat) (pv : Int) (nx la : List Nat) (ps : List Nat) (w : World) (h : RawL w b n nx la) (hring : Ring (fnOf nx) (fnOf la) ps) (hp0 : p ≠ 0) (hp : p < 257) (hpv : pv = p) (r : Bool) (hr : r = decide (p ∈ ps)) :
    Calls Try.prog 28 #[.pointer (some ⟨b, 1, none⟩), .int .i64 pv] w fun e w' => e = .returned (.bool r) ∧ w = w' := by
  subst hpv
  have hiff := ring_in hring p hp0
  by_cases hm : p ∈ ps
  · rw [hr, decide_eq_true hm]
    exact in_yes b n p nx la w h hp (hiff.2 hm)
  · rw [hr, decide_eq_false hm]
    have hno : ¬ (fnOf la p ≠ 0 ∨ fnOf nx 0 = p) := fun hh => hm (hiff.1 hh)
    exact in_no b n p nx la w h hp (Classical.byContradiction fun hh => hno (.inl hh)) (fun hh => hno (.inr hh))

theorem has_in (b n x : Nat) (r : Bool) (row : List Nat) (w : World) (h : LruAt w b n row) (hx : x < n) (hr : r = decide (x ∈ row)) :
    Calls Try.prog 12 #[.pointer (some ⟨b, 0, none⟩), .int .i64 x] w fun e w' => e = .returned (.bool r) ∧ w = w' := by
  have h0 := h
  obtain ⟨hn, hlt, nx, la, hraw, hring⟩ := h
  have hr2 : r = decide (x + 1 ∈ row.map (· + 1)) := by rw [hr]; congr 1; rw [mem_succ]
  have HR := Lib.hid hr2
  clear hr hr2 hlt
  go_enter Try.func12, Try.ntmps12
  go_wp2_with fail
  refine (slot_in b n x row _ h0 hx).mono ?_
  rintro e w' ⟨rfl, rfl⟩
  go_wp2_with fail
  refine (in_at b n (x + 1) _ nx la _ _ hraw hring (by omega) (by omega) (by omega) r HR.out).mono ?_
  rintro e w' ⟨rfl, rfl⟩
  go_wp2
  go_ret
  exact ⟨rfl, rfl⟩

end Go.Proofs.Ytjnipcalncpimaa
