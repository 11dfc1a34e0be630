/- What is alike stands as the shuffle left it; places in a row. -/
import Derived.Test.YtdbannnbbngckaaOrdPl2
namespace Go.Proofs.Ytdbannnbbngckaa
open Go.RowKit

/-- The place of a number in a row, where it has been told. -/
def atL (ord : List Nat) (k : Nat) : List Nat := (List.range 9).map fun u => if u ∈ ord.take k then ord.idxOf u else 0
theorem atL_len (ord : List Nat) (k : Nat) : (atL ord k).length = 9 := by simp [atL]
theorem atL_zero (ord : List Nat) : atL ord 0 = List.replicate 9 0 := by simp [atL]; rfl
theorem idxOf_get {ord : List Nat} (hn : ord.Nodup) {k : Nat} (hk : k < ord.length) : ord.idxOf ord[k] = k := by
  have hm : ord.idxOf ord[k] < ord.length := List.idxOf_lt_length_of_mem (List.getElem_mem hk)
  have he : ord[ord.idxOf ord[k]] = ord[k] := List.getElem_idxOf hm
  refine Classical.byContradiction fun hne => ?_
  rcases Nat.lt_or_gt_of_ne hne with h | h
  · exact List.pairwise_iff_getElem.1 hn _ _ hm hk h he
  · exact List.pairwise_iff_getElem.1 hn _ _ hk hm h he.symm
theorem atL_set {ord : List Nat} (hn : ord.Nodup) {k : Nat} (hk : k < ord.length) (h9 : ord[k] < 9) : (atL ord k).set ord[k] k = atL ord (k + 1) := by
  apply List.ext_getElem
  · simp [atL]
  · intro i h1 h2
    have hi : i < 9 := by simpa [atL] using h2
    rw [List.getElem_set]
    simp only [atL, List.getElem_map, List.getElem_range]
    rw [List.take_succ_eq_append_getElem hk]
    simp only [List.mem_append, List.mem_singleton]
    by_cases e : ord[k] = i
    · rw [if_pos e, if_pos (.inr e.symm), ← e, idxOf_get hn hk]
    · rw [if_neg e]
      by_cases hm : i ∈ ord.take k
      · rw [if_pos hm, if_pos (.inl hm)]
      · rw [if_neg hm, if_neg (by rintro (h | h); exact hm h; exact e h.symm)]
theorem atL_all {ord : List Nat} {u : Nat} (hu : u ∈ ord) (h9 : u < 9) (h : u < (atL ord ord.length).length) : (atL ord ord.length)[u] = ord.idxOf u := by
  simp [atL, hu]

/-- Of two that stand one behind the other in a row without repeats. -/
theorem sub_of_lt {l : List Nat} {i k : Nat} (hk : k < l.length) (h : i < k) : [l[i]'(by omega), l[k]].Sublist l := by
  have h1 : [l[i]'(by omega)].Sublist (l.take k) := List.singleton_sublist.2 (by rw [List.mem_take_iff_getElem]; exact ⟨i, by omega, rfl⟩)
  have h2 : [l[k]].Sublist (l.drop k) := List.singleton_sublist.2 (by rw [List.drop_eq_getElem_cons hk]; exact List.mem_cons_self ..)
  have := h1.append h2
  rw [List.take_append_drop] at this
  exact this
theorem idx_of_sub {l : List Nat} (hn : l.Nodup) {u v : Nat} (h : [u, v].Sublist l) : l.idxOf u < l.idxOf v := by
  induction l with
  | nil => cases h
  | cons x t ih =>
    cases h with
    | cons _ h =>
      have hux : u ∈ t := h.subset (by simp)
      have hvx : v ∈ t := h.subset (by simp)
      have hxt := (List.nodup_cons.1 hn).1
      have hu : u ≠ x := fun e => hxt (e ▸ hux)
      have hv : v ≠ x := fun e => hxt (e ▸ hvx)
      have := ih (List.nodup_cons.1 hn).2 h
      simp only [List.idxOf_cons, beq_eq_false_iff_ne.2 (Ne.symm hu), beq_eq_false_iff_ne.2 (Ne.symm hv), cond_false]
      omega
    | cons_cons _ h =>
      have hv : v ∈ t := h.subset (by simp)
      have hne : v ≠ u := fun e => (List.nodup_cons.1 hn).1 (e ▸ hv)
      simp only [List.idxOf_cons, beq_self_eq_true, cond_true, beq_eq_false_iff_ne.2 (Ne.symm hne), cond_false]
      omega
theorem alike_idx (us : List Up) (d : Nat → Nat) (used : Nat) {i k : Nat} (hk : k < (rowN us d used).length) (h : i < k) (he : keyE (scU us) (trU us) ((rowN us d used)[i]'(by omega)) = keyE (scU us) (trU us) (rowN us d used)[k]) :
    (ordN us d used).idxOf ((rowN us d used)[i]'(by omega)) < (ordN us d used).idxOf (rowN us d used)[k] :=
  idx_of_sub (ordN_nodup us d used) (alike_pairs (ordK_alike _ _) he (sub_of_lt hk h))

/-- Where no two are alike, the order does not hang on the draws. -/
theorem ordN_apart (us : List Up) (d d' : Nat → Nat) (used used' : Nat) (h : ∀ i k (hk : k < (rowN us d used).length) (hi : i < k), keyE (scU us) (trU us) ((rowN us d used)[i]'(by omega)) ≠ keyE (scU us) (trU us) (rowN us d used)[k]) : ordN us d used = ordN us d' used' := by
  unfold ordN
  refine ordK_apart _ _ _ ((rowN_perm us d used).trans (rowN_perm us d' used').symm) ?_ (rowN_nodup us d used)
  intro x hx y hy e
  obtain ⟨i, hi, rfl⟩ := List.mem_iff_getElem.1 hx
  obtain ⟨k, hk, rfl⟩ := List.mem_iff_getElem.1 hy
  rcases Nat.lt_trichotomy i k with hh | hh | hh
  · exact absurd e (h i k hk hh)
  · subst hh; rfl
  · exact absurd e.symm (h k i hi hh)

theorem key_eq {us : List Up} {x y : Nat} (hx : scU us x ≤ 100) (hy : scU us y ≤ 100) : keyE (scU us) (trU us) x = keyE (scU us) (trU us) y ↔ trU us x = trU us y ∧ scU us x = scU us y := by
  unfold keyE
  cases h1 : trU us x <;> cases h2 : trU us y <;> simp <;> omega

end Go.Proofs.Ytdbannnbbngckaa
