/- The walks of a table of IDs: New, Copy, Draw. -/
import Derived.Test.YteehenajchdgaaaPendB
import Derived.Shelf.SlMaps.Clone
import Derived.WalkSmall
import Derived.Deep.RegionHeld3
namespace Go.Proofs.Yteehenajchdgaaa
open Go.RowKit Go.Maps

theorem clone_map (m : Nat) (es : Array MapEntry) (clock : Nat) (w : World) (hb : w.heap[m]? = some (.map es clock)) :
    Calls Try.prog 31 #[.map (some m)] w fun e w' => e = .returned (.map (some w.heap.size)) ∧ w' = w.alloc (.map es clock) := by
  have hq := fun w => run_eql_map_nil_sl (P := Try.prog) w 69 _ _ (some m) Try.underlying69
  go_enter Try.func31, Try.ntmps31
  go_wp2
  rw [run_callFunc_extern Try.func38 (by kernel_rfl) (by kernel_rfl) (by kernel_rfl) (e := Extern.MapsClone.clone) (by kernel_rfl), run_maps_clone_sl w 69 hb]
  simp only [Result.andThen]
  rw [Oper.upon_value]
  go_wp2
  rw [run_typeAssert_map_sl _ 69 20 _ _ _ Try.underlying69]
  simp only [Result.andThen]
  rw [Oper.upon_value]
  go_wp2
  go_ret
  exact ⟨rfl, rfl⟩
theorem clone_any (m : Nat) (M : List (Nat × Int)) (w : World) (h : MapU w m M) :
    Calls Try.prog 31 #[.map (some m)] w fun e w' => ∃ m', e = .returned (.map (some m')) ∧ w.heap.size ≤ m' ∧ MapU w' m' M ∧ Chg [] w w' := by
  obtain ⟨D, ⟨es, clock, hb, hr⟩, hD⟩ := h
  refine (clone_map m es clock w hb).mono ?_
  rintro e w' ⟨rfl, rfl⟩
  exact ⟨w.heap.size, rfl, Nat.le_refl _, ⟨D, ⟨es, clock, heap_new _ _, hr⟩, hD⟩, (Chg.refl _ _).alloc _⟩

theorem Try.elemMap : (Try.prog.info? 69).map (fun i => (i.zero, i.size, i.bytes)) = some (some (.map none), 1, 8) := by kernel_rfl
/-- A row of n maps, of which some are laid. -/
def rowP (n : Nat) (ms : List Nat) : Array Value := (ms.map (fun m => Value.map (some m)) ++ List.replicate (n - ms.length) (Value.map none)).toArray
theorem rowP_none (n : Nat) (ms : List Nat) (i : Nat) (h1 : ms.length ≤ i) (h2 : i < n) : (rowP n ms)[i]? = some (.map none) := by
  unfold rowP
  rw [List.getElem?_toArray, List.getElem?_append_right (by simpa using h1)]
  simp [List.getElem?_replicate]
  omega
theorem rowP_set (n : Nat) (ms : List Nat) (m : Nat) (h : ms.length < n) : (rowP n ms).setIfInBounds ms.length (.map (some m)) = rowP n (ms ++ [m]) := by
  unfold rowP
  rw [List.setIfInBounds_toArray]
  congr 1
  obtain ⟨k, hk⟩ : ∃ k, n - ms.length = k + 1 := ⟨n - ms.length - 1, by omega⟩
  rw [hk, List.set_append_right _ _ (by simp), List.length_map, Nat.sub_self, List.replicate_succ, List.set_cons_zero]
  rw [List.map_append, List.length_append]
  rw [show n - (ms.length + [m].length) = k by simp; omega]
  simp
theorem rowP_all (n : Nat) (ms : List Nat) (h : ms.length = n) : rowP n ms = mapRow ms := by
  unfold rowP mapRow
  rw [h, Nat.sub_self]
  simp
theorem run_make_maps (w : World) (n : Nat) (hn : n ≤ 9) :
    (Instr.makeSlice 53 (.int .i64 (n : Int)) (.int .i64 (n : Int))).run Try.prog w = .ok (.slice (some ⟨w.heap.size, 0, none⟩) n n) (w.alloc (.cells (rowP n []) 69)) := by
  obtain ⟨i0, hi, hz0, hz1, hz2⟩ := info_parts Try.elemMap
  have hr := run_make (P := Try.prog) w 53 69 i0 _ Try.underlying53 hi hz0 .i64 .i64 n n (by omega) (by omega) (by rw [hz2]; omega) (by omega)
  rw [hr, hz1]
  have e1 : madeCells (Value.map none).cells ((n : Int).toNat * 1) = rowP n [] := by
    apply Array.ext
    · simp [madeCells, rowP]
    · intro i h1 h2
      simp [madeCells, rowP, Value.cells, Nat.mod_one]
  rw [e1]
  simp

/-- A table of which the first maps are laid. -/
structure Half (w : World) (tb g n : Nat) (ms : List Nat) (N : Nat → List (Nat × Int)) (lo : Nat) : Prop where
  head : w.heap[tb]? = some (.cells #[.slice (some ⟨g, 0, none⟩) n n] 55 (0, 0))
  row : w.heap[g]? = some (.cells (rowP n ms) 69 (0, 0))
  nd : ms.Nodup
  maps : ∀ i (h : i < ms.length), MapU w ms[i] (N i)
  lo : ∀ m ∈ ms, lo ≤ m
theorem Half.lt {w : World} {tb g n : Nat} {ms : List Nat} {N : Nat → List (Nat × Int)} {lo : Nat} (h : Half w tb g n ms N lo) : ∀ m ∈ ms, m < w.heap.size := by
  intro m hm
  obtain ⟨i, hi, rfl⟩ := List.getElem_of_mem hm
  exact (h.maps i hi).lt
theorem Half.same {w w' : World} {tb g n : Nat} {ms : List Nat} {N : Nat → List (Nat × Int)} {lo : Nat} (h : Half w tb g n ms N lo) (hc : Chg [] w w') : Half w' tb g n ms N lo :=
  ⟨hc.keep h.head (by simp), hc.keep h.row (by simp), h.nd, fun i hi => (h.maps i hi).chg hc (by simp), h.lo⟩
/-- One map more is laid. -/
theorem Half.step {w w1 : World} {tb g n : Nat} {ms : List Nat} {N : Nat → List (Nat × Int)} {lo m : Nat} (h : Half w tb g n ms N lo) (hc : Chg [] w w1) (hm : MapU w1 m (N ms.length)) (hlo : lo ≤ m) (hw : w.heap.size ≤ m) (hn : ms.length < n) :
    Half (w1.setCell ⟨g, ms.length, none⟩ (.map (some m))) tb g n (ms ++ [m]) N lo := by
  have h1 := h.same hc
  have hgt : tb ≠ g := by
    intro e
    have h2 := h.head
    rw [e, h.row] at h2
    injection h2 with h2
    injection h2 with _ h3 _
    exact absurd h3 (by decide)
  have hset := Chg.set1 w1 g ms.length (.map (some m))
  have notg : ∀ (k : Nat) (M : List (Nat × Int)), MapU w1 k M → k ∉ [g] := by
    intro k M hk e
    simp at e
    subst e
    obtain ⟨es, clock, hb⟩ := hk.map
    rw [h1.row] at hb
    cases hb
  refine ⟨hset.keep h1.head (by simpa using hgt), by rw [heap_set h1.row, rowP_set n ms m hn], ?_, ?_, ?_⟩
  · rw [List.nodup_append]
    refine ⟨h.nd, by simp, ?_⟩
    intro a ha b hb e
    simp at hb
    have := h.lt a ha
    omega
  · intro i hi
    rw [List.length_append, List.length_singleton] at hi
    by_cases e : i < ms.length
    · rw [List.getElem_append_left e]
      exact (h1.maps i e).chg hset (notg _ _ (h1.maps i e))
    · obtain rfl : i = ms.length := by omega
      have e2 : (ms ++ [m])[ms.length] = m := by simp
      rw [e2]
      exact hm.chg hset (notg _ _ hm)
  · intro x hx
    rcases List.mem_append.1 hx with e | e
    · exact h.lo x e
    · simp at e; subst e; exact hlo
theorem Half.all {w : World} {tb g n : Nat} {ms : List Nat} {L : List Ou} {lo : Nat} (h : Half w tb g n ms (fun i => outsP L (i : Int)) lo) (hl : ms.length = n) (hok : OkO n L) (h1 : 1 ≤ n) (h9 : n ≤ 9) : PTab w tb ms n L :=
  ⟨⟨g, h.head, by rw [← rowP_all n ms hl]; exact h.row⟩, hl, h.nd, h.maps, hok, h1, h9⟩

theorem new_out (u : Int) (w : World) (hu : u < 1 ∨ 9 < u) :
    Calls Try.prog 19 #[.int .i64 u] w fun e w' => e = .returned (.tuple #[.pointer none, .int .i64 1]) ∧ w = w' := by
  by_cases h0 : u < 1
  · clear hu
    go_enter Try.func19, Try.ntmps19
    go_wp2
    go_ret2
    exact ⟨rfl, rfl⟩
  · have h9 : 9 < u := by omega
    clear hu
    go_enter Try.func19, Try.ntmps19
    go_wp2
    go_ret2
    exact ⟨rfl, rfl⟩
def NewRel (n tb g : Nat) (w : World) (i : Value) (wr : World) : Prop :=
  ∃ ms : List Nat, ms.length ≤ n ∧ i = .int .i64 (ms.length : Nat) ∧ Half wr tb g n ms (fun i => outsP [] (i : Int)) w.heap.size ∧ Chg [] w wr
theorem new_in (n : Nat) (w : World) (h1 : 1 ≤ n) (h9 : n ≤ 9) :
    Calls Try.prog 19 #[.int .i64 (n : Nat)] w fun e w' => ∃ tb ms, e = .returned (.tuple #[.pointer (some ⟨tb, 0, none⟩), .int .i64 0]) ∧ PTab w' tb ms n [] ∧ w.heap.size ≤ tb ∧ (∀ m ∈ ms, w.heap.size ≤ m) ∧ Chg [] w w' := by
  have hmk := run_make_maps w n h9
  have hmm := @run_makeMap Try.prog
  go_enter Try.func19, Try.ntmps19
  go_wp2
  have hH : Half ((w.alloc (.cells (rowP n []) 69)).alloc (.cells #[.slice (some ⟨w.heap.size, 0, none⟩) n n] 55)) (w.heap.size + 1) w.heap.size n [] (fun i => outsP [] (i : Int)) w.heap.size :=
    ⟨heap_new' _ _ _ (by simp), heap_old (heap_new _ _), by simp, fun i hi => by simp at hi, by simp⟩
  have hC : Chg [] w ((w.alloc (.cells (rowP n []) 69)).alloc (.cells #[.slice (some ⟨w.heap.size, 0, none⟩) n n] 55)) := ((Chg.refl _ _).alloc _).alloc _
  obtain ⟨tb, htb⟩ : ∃ tb, tb = w.heap.size + 1 := ⟨_, rfl⟩
  obtain ⟨g, hg⟩ : ∃ g, g = w.heap.size := ⟨_, rfl⟩
  have hle : w.heap.size ≤ tb := by omega
  have hgle : w.heap.size ≤ g := by omega
  rw [← htb, ← hg] at hH
  rw [← htb]
  rw [← hg] at hC ⊢
  have HH := Lib.hid hH
  have HC := Lib.hid hC
  clear htb hH hC hmk
  go_loopw [21] (NewRel n tb g w) (fun i _ => n - (intOf i).toNat)
  case atStart => exact ⟨[], Nat.zero_le _, rfl, by rw [hg] at *; exact HH.out, by rw [hg] at *; exact HC.out⟩
  case round =>
    clear HH HC hg
    obtain ⟨ms, hj, rfl, hH, hck⟩ := hrel
    have c0 : wr.cell? ⟨tb, 0, none⟩ = some (.slice (some ⟨g, 0, none⟩) n n) := cell_of hH.head
    by_cases hlt : ms.length < n
    · have c1 : wr.cell? ⟨g, ms.length, none⟩ = some (.map none) := by rw [cell_of hH.row]; exact rowP_none n ms _ (Nat.le_refl _) hlt
      have f1 : wr.frozen? ⟨g, ms.length, none⟩ = false := free_of hH.row
      have c2 : (wr.alloc (.map #[] 0)).cell? ⟨g, ms.length, none⟩ = some (.map none) := by rw [cell_of (heap_old hH.row)]; exact rowP_none n ms _ (Nat.le_refl _) hlt
      have f2 : (wr.alloc (.map #[] 0)).frozen? ⟨g, ms.length, none⟩ = false := free_of (heap_old hH.row)
      have hnew := hH.step (m := wr.heap.size) ((Chg.refl [] wr).alloc (.map #[] 0)) (mapU_new wr) hck.size (Nat.le_refl _) hlt
      have HNEW := Lib.hid hnew
      clear hH hnew
      obtain ⟨j, hjj⟩ : ∃ j, j = ms.length := ⟨_, rfl⟩
      rw [← hjj] at c1 f1 c2 f2 hlt ⊢
      have HJJ := Lib.hid hjj
      clear hjj hj
      go_wp2
      go_roundw
      case rel =>
        refine ⟨ms ++ [wr.heap.size], by rw [List.length_append, ← HJJ.out]; simp; omega, by rw [List.length_append, ← HJJ.out]; go_num, ?_, (hck.alloc _).setCell (.inr hgle) _⟩
        have := HNEW.out
        rw [← HJJ.out] at this
        exact this
      case measure => simp [intOf] <;> omega
    · have hl : ms.length = n := by omega
      have hP := hH.all hl (okO_nil n) h1 h9
      have hlo := hH.lo
      have HP := Lib.hid hP
      have HLO := Lib.hid hlo
      clear hP hlo hH
      rw [hl]
      clear hl
      go_wp2
      go_ret2
      exact ⟨tb, ms, rfl, HP.out, hle, HLO.out, hck⟩

end Go.Proofs.Yteehenajchdgaaa
