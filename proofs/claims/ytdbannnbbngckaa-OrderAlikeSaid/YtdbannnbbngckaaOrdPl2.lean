/- The order of a book, as plain lists: each that may be asked is there once; it rises by its keys. -/
import Derived.Test.YtdbannnbbngckaaOrdF
namespace Go.Proofs.Ytdbannnbbngckaa
open Go.RowKit

theorem map_getD_range : ∀ (l : List Nat), (List.range l.length).map (fun i => l.getD i 0) = l := by
  intro l
  apply List.ext_getElem
  · simp
  · intro i h1 h2
    simp [h2]
theorem rowN_perm (us : List Up) (d : Nat → Nat) (used : Nat) : (rowN us d used).Perm (mayN us) := by
  unfold rowN
  by_cases h : (mayN us).length = 0
  · rw [List.length_eq_zero_iff.1 h]
    exact List.Perm.refl _
  · have := (D.shufN_perm d used (mayN us).length (by omega)).map (fun i => (mayN us).getD i 0)
    rw [map_getD_range] at this
    exact this
theorem ordN_perm (us : List Up) (d : Nat → Nat) (used : Nat) : (ordN us d used).Perm (mayN us) := (ordK_perm _ _).trans (rowN_perm us d used)
theorem mayN_nodup (us : List Up) : (mayN us).Nodup := (idxN_sorted free us 0).imp (fun h => Nat.ne_of_lt h)
theorem ordN_nodup (us : List Up) (d : Nat → Nat) (used : Nat) : (ordN us d used).Nodup := (ordN_perm us d used).nodup_iff.2 (mayN_nodup us)
theorem rowN_nodup (us : List Up) (d : Nat → Nat) (used : Nat) : (rowN us d used).Nodup := (rowN_perm us d used).nodup_iff.2 (mayN_nodup us)
theorem mayN_mem {us : List Up} {x : Nat} (h : x ∈ mayN us) : x < us.length ∧ (getB us (x : Int)).rests = false := by
  obtain ⟨_, h2, h3⟩ := (idxN_mem free x us 0).1 h
  have hx : x < us.length := by simpa using h2
  refine ⟨hx, ?_⟩
  rw [getB_in hx]
  simpa [free] using h3
theorem ordN_mem {us : List Up} {d : Nat → Nat} {used x : Nat} (h : x ∈ ordN us d used) : x < us.length ∧ (getB us (x : Int)).rests = false := mayN_mem ((ordN_perm us d used).mem_iff.1 h)
theorem ordN_rises (us : List Up) (d : Nat → Nat) (used : Nat) : RisesK (keyE (scU us) (trU us)) (ordN us d used) := ordK_rises _ _

/-- Which of nine there were. -/
def seenV (l : List Nat) : List Value := (List.range 9).map fun u => Value.bool (decide (u ∈ l))
theorem seenV_get (l : List Nat) (u : Nat) (h : u < 9) : (seenV l)[u]? = some (.bool (decide (u ∈ l))) := by simp [seenV, h]
theorem seenV_set (l : List Nat) (x : Nat) (h : x < 9) : (seenV l).set x (.bool true) = seenV (l ++ [x]) := by
  apply List.ext_getElem?
  intro i
  rw [List.getElem?_set]
  by_cases hi : i < 9
  · rw [seenV_get _ i hi, seenV_get _ i hi]
    by_cases e : x = i
    · subst e
      rw [if_pos rfl, if_pos (by simp [seenV]; exact hi)]
      simp
    · rw [if_neg e]
      simp only [List.mem_append, List.mem_singleton]
      congr 2
      simp [Ne.symm e]
  · have h1 : (seenV l)[i]? = none := List.getElem?_eq_none (by simp [seenV]; omega)
    have h2 : (seenV (l ++ [x]))[i]? = none := List.getElem?_eq_none (by simp [seenV]; omega)
    rw [h1, h2, if_neg (by omega)]
def SeenAt (w : World) (g : Nat) (l : List Nat) : Prop := w.heap[g]? = some (.cells (seenV l).toArray 61 (0, 0))

/-- Of two neighbours in the order. -/
theorem key_pair {us : List Up} {x y : Nat} (hx : scU us x ≤ 100) (hy : scU us y ≤ 100) (h : keyE (scU us) (trU us) y ≤ keyE (scU us) (trU us) x) : ¬ (trU us y = true ∧ trU us x = false) ∧ (trU us y = trU us x → ¬ scU us y < scU us x) := by
  unfold keyE at h
  constructor
  · rintro ⟨h1, h2⟩
    rw [h1, h2] at h
    simp at h
    omega
  · intro e
    rw [e] at h
    omega

end Go.Proofs.Ytdbannnbbngckaa
