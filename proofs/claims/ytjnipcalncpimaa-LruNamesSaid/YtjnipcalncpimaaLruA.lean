/- The list of package lru in memory: its ring as two rows of numbers, and the rows' readings and writings. -/
import Derived.Test.YtjnipcalncpimaaMem
import Derived.Test.YtjnipcalncpimaaLruPl
namespace Go.Proofs.Ytjnipcalncpimaa
open Go.RowKit

/-- The cells of a list: its slots, the next ones, the last ones. -/
def lruCells (n : Nat) (nx la : List Nat) : Array Value := (Value.int .i64 n :: (nx ++ la).map fun (x : Nat) => Value.int .i64 x).toArray

theorem lru_get_n (n : Nat) (nx la : List Nat) : (lruCells n nx la)[0]? = some (.int .i64 n) := by simp [lruCells]
theorem lru_get_next (n : Nat) (nx la : List Nat) (p : Nat) (h : p < nx.length) : (lruCells n nx la)[1 + p]? = some (.int .i64 (nx[p] : Nat)) := by
  unfold lruCells
  rw [List.getElem?_toArray, Nat.add_comm, List.getElem?_cons_succ, List.map_append, List.getElem?_append_left (by simpa using h)]
  simp [h]
theorem lru_get_last (n : Nat) (nx la : List Nat) (p : Nat) (hx : nx.length = 257) (h : p < la.length) : (lruCells n nx la)[258 + p]? = some (.int .i64 (la[p] : Nat)) := by
  unfold lruCells
  rw [List.getElem?_toArray, show 258 + p = 257 + p + 1 by omega, List.getElem?_cons_succ, List.map_append, List.getElem?_append_right (by simp; omega)]
  simp [hx, h]
theorem lru_set_next (n : Nat) (nx la : List Nat) (p v : Nat) (h : p < nx.length) : (lruCells n nx la).setIfInBounds (1 + p) (.int .i64 (v : Nat)) = lruCells n (nx.set p v) la := by
  unfold lruCells
  rw [List.setIfInBounds_toArray, Nat.add_comm, List.set_cons_succ, List.map_append, List.set_append_left _ _ (by simpa using h), List.map_append, List.map_set]
theorem lru_set_last (n : Nat) (nx la : List Nat) (p v : Nat) (hx : nx.length = 257) : (lruCells n nx la).setIfInBounds (258 + p) (.int .i64 (v : Nat)) = lruCells n nx (la.set p v) := by
  unfold lruCells
  rw [List.setIfInBounds_toArray, show 258 + p = 257 + p + 1 by omega, List.set_cons_succ, List.map_append, List.set_append_right _ _ (by simp; omega), List.map_append, List.map_set]
  simp [hx]

/-- A row of numbers, as a function. -/
def fnOf (l : List Nat) : Nat → Nat := fun p => l.getD p 0
theorem fnOf_get (l : List Nat) (p : Nat) (h : p < l.length) : fnOf l p = l[p] := by simp [fnOf, h]
theorem fnOf_set (l : List Nat) (p v : Nat) (h : p < l.length) : fnOf (l.set p v) = upd (fnOf l) p v := by
  funext q
  unfold fnOf upd
  by_cases e : q = p
  · subst e; simp [h]
  · simp [e, List.getElem?_set, Ne.symm e]
theorem fnOf_zero (n : Nat) : fnOf (List.replicate n 0) = fun _ => 0 := by
  funext q
  simp only [fnOf, List.getD_eq_getElem?_getD, List.getElem?_replicate]
  split <;> rfl
theorem fnOf_inj {l m : List Nat} (hl : l.length = m.length) (h : fnOf l = fnOf m) : l = m := by
  apply List.ext_getElem hl
  intro i h1 h2
  have := congrFun h i
  rwa [fnOf_get l i h1, fnOf_get m i h2] at this

end Go.Proofs.Ytjnipcalncpimaa
