/- The walks of package lru: Row, Len, Drop. -/
import Derived.Test.YtjnipcalncpimaaLruD
import Derived.Deep.DeepMust
import Derived.WalkSpells
namespace Go.Proofs.Ytjnipcalncpimaa
open Go.RowKit

theorem Try.elemInt : (Try.prog.info? 3).map (fun i => (i.zero, i.size, i.bytes)) = some (some (.int .i64 0), 1, 8) := by kernel_rfl

def lenOf : Value → Nat | .slice _ n _ => n | _ => 0
theorem owns_len {w : World} {base : Nat} {t : TypeId} {sz : Nat} {v : Value} {n : Nat} {xs : List Value} (h : w.ownsRow base t sz v n xs) : ∃ a c, v = .slice a n c := by
  obtain ⟨_, h⟩ := h
  rcases h with ⟨rfl, rfl⟩ | ⟨g, cap, cur, rfl, _⟩
  · exact ⟨none, 0, rfl⟩
  · exact ⟨_, _, rfl⟩
theorem owns_block {w : World} {base : Nat} {t : TypeId} {sz : Nat} {v : Value} {n : Nat} {xs : List Value} (h : w.ownsRow base t sz v n xs) : ∀ k, v.ownBlock = some k → k ∈ ([] : List Nat) ∨ base ≤ k := by
  intro k hk
  obtain ⟨_, h⟩ := h
  rcases h with ⟨rfl, _⟩ | ⟨g, cap, cur, rfl, hg, _⟩
  · simp [Value.ownBlock] at hk
  · simp [Value.ownBlock] at hk; exact .inr (by omega)

/-- The slice v is a row of the call's own that reads as l. -/
abbrev OwnI (base : Nat) (w : World) (v : Value) (l : List Nat) : Prop := w.ownsRow base 3 1 v l.length (l.map fun (x : Nat) => Value.int .i64 x)

/-- The place of the first of a row, or 0. -/
def headP (m : List Nat) : Nat := (m.map (· + 1)).headD 0

def RowRel (row : List Nat) (w : World) (v p : Value) (wr : World) : Prop :=
  ∃ l m : List Nat, row = l ++ m ∧ p = .int .i64 (headP m : Nat) ∧ OwnI w.heap.size wr v l ∧ Chg [] w wr

set_option maxRecDepth 100000 in
set_option maxHeartbeats 1000000 in
theorem row_any (b n : Nat) (row : List Nat) (w : World) (h : LruAt w b n row) :
    Calls Try.prog 11 #[.pointer (some ⟨b, 0, none⟩)] w fun e w' => ∃ v, e = .returned v ∧ OwnI w.heap.size w' v row ∧ Chg [] w w' := by
  have hlen := h.len
  obtain ⟨hn, hlt, nx, la, hraw, hring⟩ := h
  obtain ⟨i0, hi0, hz0, hz1, hz2⟩ := info_parts Try.elemInt
  have c1 := hraw.next 0 (by decide)
  rw [ring_first hring, show (row.map (· + 1)).headD 0 = headP row from rfl] at c1
  have HLT := Lib.hid hlt
  clear hlt
  go_enter Try.func11, Try.ntmps11
  go_wp2
  go_loopw [3, 4] (RowRel row w) (fun v _ _ => 300 - lenOf v)
  case atStart => exact ⟨[], row, rfl, rfl, ⟨rfl, .inl ⟨rfl, rfl⟩⟩, Chg.refl _ _⟩
  case round =>
    clear c1
    obtain ⟨l, m, hrow, rfl, hown, hc⟩ := hrel
    obtain ⟨av, cv, hv⟩ := owns_len hown
    cases m with
    | nil =>
      have hrl : row = l := by simpa using hrow
      subst hrl
      clear hrow
      rw [show headP [] = 0 from rfl]
      go_wp2
      go_ret
      exact ⟨_, rfl, hown, hc⟩
    | cons y m =>
      have hyn : y < n := HLT.out y (by rw [hrow]; simp)
      have hll : l.length < 256 := by
        have : row.length = l.length + (m.length + 1) := by rw [hrow]; simp
        omega
      have hnx := hraw.next (y + 1) (by omega)
      have hr2 : Ring (fnOf nx) (fnOf la) (l.map (· + 1) ++ (y + 1) :: m.map (· + 1)) := by
        have e : row.map (· + 1) = l.map (· + 1) ++ (y + 1) :: m.map (· + 1) := by rw [hrow]; simp
        rw [← e]; exact hring
      rw [ring_next hr2, show (m.map (· + 1)).headD 0 = headP m from rfl] at hnx
      obtain ⟨z, hz⟩ : ∃ z, z = headP m := ⟨_, rfl⟩
      rw [← hz] at hnx
      have HZ := Lib.hid hz
      have HROW := Lib.hid hrow
      have HOWN := Lib.hid hown
      have HNX := Lib.hid hnx
      have hi : ((y : Int) + 1) < 257 := by omega
      have t1 : (((y + 1 : Nat) : Int) != 0) = true := by simp; omega
      rw [show headP (y :: m) = y + 1 from rfl]
      clear hz hrow hown hr2 hnx
      rw [hv] at HOWN ⊢
      have hlv : lenOf (.slice av l.length cv) = l.length := rfl
      clear hv
      go_wp2_with (at_builtin; go_must (refine wpList_append_own _ rfl _ _ 27 rfl w.heap.size 3 i0 (.int .i64 0) 1 8 Try.underlying27 hi0 hz0 hz1 hz2 rfl (by decide) _ l.length _ rfl (HOWN.out.alloc _) ⟨wr.heap.size, 0, none⟩ 1 1 [.int .i64 (y : Nat)] rfl rfl (cell_one_new _ _ _) (by simp [Value.oneCell']) (by unfold maxLen; omega) (by omega) (by have := hc.size; simp; omega) ?_); go_must (intro v1 w1 hown1 hg1 _; have hc1 := (hc.alloc (.cells #[.int .i64 (y : Nat)] 3)).grown hg1 (owns_block HOWN.out); have hnx1 := hc1.cell HNX.out (by simp)))
      go_roundw
      case rel =>
        refine ⟨l ++ [y], m, by rw [HROW.out]; simp, by rw [← HZ.out], ?_, hc1⟩
        have e : (l ++ [y]).map (fun (x : Nat) => Value.int .i64 x) = l.map (fun (x : Nat) => Value.int .i64 x) ++ [.int .i64 (y : Nat)] := by simp
        unfold OwnI
        rw [e, List.length_append]
        exact hown1
      case measure =>
        obtain ⟨a1, c1, rfl⟩ := owns_len hown1
        simp [lenOf]; omega

theorem row_nil (w : World) :
    Calls Try.prog 11 #[.pointer none] w fun e w' => e = .returned (.slice none 0 0) ∧ w = w' := by
  go_enter Try.func11, Try.ntmps11
  go_wp2
  go_ret
  exact ⟨rfl, rfl⟩

theorem len_nil (w : World) :
    Calls Try.prog 17 #[.pointer none] w fun e w' => e = .returned (.int .i64 0) ∧ w = w' := by
  go_enter Try.func17, Try.ntmps17
  go_wp2_with (go_at_call 11; refine (row_nil _).mono ?_; rintro e w' ⟨rfl, rfl⟩)
  go_ret
  exact ⟨rfl, rfl⟩

theorem len_any (b n : Nat) (row : List Nat) (w : World) (h : LruAt w b n row) :
    Calls Try.prog 17 #[.pointer (some ⟨b, 0, none⟩)] w fun e w' => e = .returned (.int .i64 row.length) ∧ Chg [] w w' := by
  have hlen := h.len
  go_enter Try.func17, Try.ntmps17
  go_wp2_with fail
  refine (row_any b n row _ h).mono ?_
  rintro e w1 ⟨v, rfl, hown, hc⟩
  obtain ⟨a1, c1, rfl⟩ := owns_len hown
  go_wp2
  go_ret
  exact ⟨rfl, hc⟩

theorem drop_nil (at_ : Int) (w : World) :
    Calls Try.prog 14 #[.pointer none, .int .i64 at_] w fun e w' => e = .returned (.bool false) ∧ w = w' := by
  go_enter Try.func14, Try.ntmps14
  go_wp2_with (go_at_call 27; refine (slot_nil at_ _).mono ?_; rintro e w' ⟨rfl, rfl⟩)
  go_ret
  exact ⟨rfl, rfl⟩
theorem drop_out (b n : Nat) (at_ : Int) (row : List Nat) (w : World) (h : LruAt w b n row) (hat : at_ < 0 ∨ (n : Int) ≤ at_) :
    Calls Try.prog 14 #[.pointer (some ⟨b, 0, none⟩), .int .i64 at_] w fun e w' => e = .returned (.bool false) ∧ w = w' := by
  have HS := Lib.hid hat
  clear hat
  go_enter Try.func14, Try.ntmps14
  go_wp2_with (go_at_call 27; refine (slot_out b n at_ row _ h HS.out).mono ?_; rintro e w' ⟨rfl, rfl⟩)
  go_ret
  exact ⟨rfl, rfl⟩

/-- The cells of a ring. -/
def ringCells (nx la : List Nat) : Array Value := ((nx ++ la).map fun (x : Nat) => Value.int .i64 x).toArray
theorem ring_zeroV (w : World) : (zeroValue 48).run Try.prog w = .ok (.agg (ringCells zerosL zerosL)) w := by kernel_rfl
theorem ring_size : (Try.prog.info? 48).map (·.size) = some 514 := by kernel_rfl
theorem ringCells_size (nx la : List Nat) (h1 : nx.length = 257) (h2 : la.length = 257) : (ringCells nx la).size = 514 := by simp [ringCells, h1, h2]
theorem ringCells_one (nx la : List Nat) : (ringCells nx la).all (·.oneCell') = true := by
  simp only [ringCells, Array.all_eq_true]
  intro i hi
  simp only [List.getElem_toArray, List.getElem_map]
  rfl
theorem ring_get_next (nx la : List Nat) (p : Nat) (h : p < nx.length) : (ringCells nx la)[p]? = some (.int .i64 (nx[p] : Nat)) := by
  unfold ringCells
  rw [List.getElem?_toArray, List.map_append, List.getElem?_append_left (by simpa using h)]
  simp [h]
theorem ring_get_last (nx la : List Nat) (p : Nat) (hx : nx.length = 257) (h : p < la.length) : (ringCells nx la)[257 + p]? = some (.int .i64 (la[p] : Nat)) := by
  unfold ringCells
  rw [List.getElem?_toArray, List.map_append, List.getElem?_append_right (by simp; omega)]
  simp [hx, h]

theorem arr_size : (Try.prog.info? 46).map (·.size) = some 257 := by kernel_rfl
theorem rowI_list (k : IntKind) (l : List Nat) : (l.map fun (x : Nat) => Value.int k x).toArray = rowI k l := rfl

theorem lru_next_row {w : World} {b n : Nat} {nx la : List Nat} (h : RawL w b n nx la) : (Instr.loadAt 46 (.pointer (some ⟨b, 1, none⟩))).run Try.prog w = .ok (.agg (rowI .i64 nx)) w := by
  rw [← rowI_list]
  refine run_load_part (P := Try.prog) 46 b 1 _ _ Try.underlying46 rfl (by rw [arr_size]; simp [h.1]) fun j v hv => ?_
  have hj : j < nx.length := by
    rcases Nat.lt_or_ge j nx.length with hh | hh
    · exact hh
    · rw [List.getElem?_eq_none (by simpa using hh)] at hv; cases hv
  rw [h.next j (by have := h.1; omega), fnOf_get nx j hj]
  simp [hj] at hv
  rw [hv]
theorem lru_last_row {w : World} {b n : Nat} {nx la : List Nat} (h : RawL w b n nx la) : (Instr.loadAt 46 (.pointer (some ⟨b, 258, none⟩))).run Try.prog w = .ok (.agg (rowI .i64 la)) w := by
  rw [← rowI_list]
  refine run_load_part (P := Try.prog) 46 b 258 _ _ Try.underlying46 rfl (by rw [arr_size]; simp [h.2.1]) fun j v hv => ?_
  have hj : j < la.length := by
    rcases Nat.lt_or_ge j la.length with hh | hh
    · exact hh
    · rw [List.getElem?_eq_none (by simpa using hh)] at hv; cases hv
  rw [h.last j (by have := h.2.1; omega), fnOf_get la j hj]
  simp [hj] at hv
  rw [hv]
theorem ring_next_row {w : World} {q : Nat} {nx la : List Nat} {t : TypeId} (h1 : nx.length = 257) (h : w.heap[q]? = some (.cells (ringCells nx la) t (0, 0))) : (Instr.loadAt 46 (.pointer (some ⟨q, 0, none⟩))).run Try.prog w = .ok (.agg (rowI .i64 nx)) w := by
  rw [← rowI_list]
  refine run_load_part (P := Try.prog) 46 q 0 _ _ Try.underlying46 rfl (by rw [arr_size]; simp [h1]) fun j v hv => ?_
  have hj : j < nx.length := by
    rcases Nat.lt_or_ge j nx.length with hh | hh
    · exact hh
    · rw [List.getElem?_eq_none (by simpa using hh)] at hv; cases hv
  rw [Nat.zero_add, cell_of h, ring_get_next nx la j hj]
  simp [hj] at hv
  rw [hv]
theorem ring_last_row {w : World} {q : Nat} {nx la : List Nat} {t : TypeId} (h1 : nx.length = 257) (h2 : la.length = 257) (h : w.heap[q]? = some (.cells (ringCells nx la) t (0, 0))) : (Instr.loadAt 46 (.pointer (some ⟨q, 257, none⟩))).run Try.prog w = .ok (.agg (rowI .i64 la)) w := by
  rw [← rowI_list]
  refine run_load_part (P := Try.prog) 46 q 257 _ _ Try.underlying46 rfl (by rw [arr_size]; simp [h2]) fun j v hv => ?_
  have hj : j < la.length := by
    rcases Nat.lt_or_ge j la.length with hh | hh
    · exact hh
    · rw [List.getElem?_eq_none (by simpa using hh)] at hv; cases hv
  rw [cell_of h, ring_get_last nx la j h1 hj]
  simp [hj] at hv
  rw [hv]
/-- The whole ring of a list, loaded. -/
theorem lru_ring_load {w : World} {b n : Nat} {nx la : List Nat} (h : RawL w b n nx la) : (Instr.loadAt 48 (.pointer (some ⟨b, 1, none⟩))).run Try.prog w = .ok (.agg (ringCells nx la)) w := by
  refine run_load_part (P := Try.prog) (w := w) 48 b 1 _ _ Try.underlying48 rfl (by rw [ring_size]; simp [h.1, h.2.1]) fun j v hv => ?_
  rw [cell_of h.2.2]
  unfold lruCells
  rw [List.getElem?_toArray, Nat.add_comm, List.getElem?_cons_succ]
  exact hv

end Go.Proofs.Ytjnipcalncpimaa
