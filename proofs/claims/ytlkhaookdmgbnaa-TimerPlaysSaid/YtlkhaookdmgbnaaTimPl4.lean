/- Timers, as plain data: which of those that were put is the last one of its number. -/
import Derived.Test.YtlkhaookdmgbnaaTimPl3
namespace Go.Proofs.Ytlkhaookdmgbnaa

def mkI (l : List (Int × Int)) (i : Nat) : It := ⟨(l.getD i (0, 0)).1, (l.getD i (0, 0)).2, i + 1⟩
/-- Is that the last one of its number, of the first k? -/
def lastB (l : List (Int × Int)) (k i : Nat) : Bool := decide (∀ j, j < k → i < j → (l.getD j (0, 0)).1 ≠ (l.getD i (0, 0)).1)
theorem lastB_iff {l : List (Int × Int)} {k i : Nat} : lastB l k i = true ↔ ∀ j, j < k → i < j → (l.getD j (0, 0)).1 ≠ (l.getD i (0, 0)).1 := by simp [lastB]
theorem putsT_eq (l : List (Int × Int)) : ∀ k, putsT l k = ((List.range k).filter (lastB l k)).map (mkI l)
  | 0 => rfl
  | k + 1 => by
    rw [putsT, putL, putsT_eq l k, List.range_succ, List.filter_append, List.map_append]
    have e1 : ([k].filter (lastB l (k + 1))) = [k] := by
      have : lastB l (k + 1) k = true := lastB_iff.2 fun j h1 h2 => by omega
      simp [this]
    rw [e1]
    congr 1
    unfold delL
    rw [List.filter_map]
    congr 1
    rw [List.filter_filter]
    apply List.filter_congr
    intro i hi
    have hik : i < k := List.mem_range.1 hi
    rw [Bool.eq_iff_iff]
    simp only [Bool.and_eq_true, lastB_iff, Function.comp, decide_eq_true_eq, mkI]
    constructor
    · rintro ⟨h1, h2⟩ j hj hij
      by_cases e : j = k
      · rw [e]; exact Ne.symm (of_decide_eq_true h1)
      · exact h2 j (by omega) hij
    · intro h
      exact ⟨decide_eq_true (Ne.symm (h k (by omega) hik)), fun j hj hij => h j (by omega) hij⟩
theorem putsT_mem {l : List (Int × Int)} {k : Nat} {x : It} (h : x ∈ putsT l k) : ∃ i, i < k ∧ lastB l k i = true ∧ x = mkI l i := by
  rw [putsT_eq] at h
  obtain ⟨i, hi, rfl⟩ := List.mem_map.1 h
  rw [List.mem_filter] at hi
  exact ⟨i, List.mem_range.1 hi.1, hi.2, rfl⟩
theorem last_one {l : List (Int × Int)} {k i j : Nat} (hi : i < k) (hj : j < k) (h1 : lastB l k i = true) (h2 : lastB l k j = true) (e : (l.getD i (0, 0)).1 = (l.getD j (0, 0)).1) : i = j := by
  rcases Nat.lt_trichotomy i j with h | h | h
  · exact absurd e.symm (lastB_iff.1 h1 j hj h)
  · exact h
  · exact absurd e (lastB_iff.1 h2 i hi h)
/-- How many of the first m are last ones. -/
def cntL (l : List (Int × Int)) (m : Nat) : Nat := ((List.range m).filter (lastB l l.length)).length
theorem cntL_succ (l : List (Int × Int)) (m : Nat) : cntL l (m + 1) = cntL l m + (if lastB l l.length m then 1 else 0) := by
  unfold cntL
  rw [List.range_succ, List.filter_append, List.length_append]
  by_cases h : lastB l l.length m = true
  · simp [h]
  · simp [h]
theorem cntL_all (l : List (Int × Int)) : cntL l l.length = (putsT l l.length).length := by
  unfold cntL
  rw [putsT_eq, List.length_map]
theorem cntL_le (l : List (Int × Int)) (m : Nat) : cntL l m ≤ m := by
  unfold cntL
  exact Nat.le_trans (List.length_filter_le _ _) (by simp)

/-- All are told, in the row. -/
theorem due_all {L : List It} (h : ∀ x ∈ L, InI x.due) : dueL L 9223372036854775807 = (sortL L).map It.id ∧ restL L 9223372036854775807 = [] := by
  constructor
  · unfold dueL
    rw [List.filter_eq_self.2]
    intro x hx
    have := (h x ((sortL_perm L).mem_iff.1 hx)).2
    simpa using this
  · unfold restL
    rw [List.filter_eq_nil_iff]
    intro x hx
    have := (h x hx).2
    simp; omega
theorem sorted_strict {L : List It} (h : L.Pairwise fun x y => x.put < y.put) {i j : Nat} (hi : i < (sortL L).length) (hj : j < (sortL L).length) (hij : i < j) : (sortL L)[i].due < (sortL L)[j].due ∨ ((sortL L)[i].due = (sortL L)[j].due ∧ (sortL L)[i].put < (sortL L)[j].put) := by
  have h1 := List.pairwise_iff_getElem.1 (sortL_sorted L) i j hi hj hij
  rw [leI_iff] at h1
  have hn : ((sortL L).map It.put).Nodup := by
    have : (L.map It.put).Nodup := by
      rw [List.nodup_iff_pairwise_ne, List.pairwise_map]
      exact h.imp fun hxy => by omega
    exact (((sortL_perm L).map It.put).nodup_iff).2 this
  have h2 := List.pairwise_iff_getElem.1 hn i j (by simpa using hi) (by simpa using hj) hij
  rw [List.getElem_map, List.getElem_map] at h2
  omega
/-- Those that are due come first. -/
theorem due_prefix {L : List It} {now : Int} {i : Nat} (hi : i < (sortL L).length) : (sortL L)[i].due ≤ now ↔ i < (dueL L now).length := by
  have hs := rise_split (sortL L) (sortL_sorted L) now
  obtain ⟨A, hA⟩ : ∃ A, A = (sortL L).filter fun x => decide (x.due ≤ now) := ⟨_, rfl⟩
  obtain ⟨B, hB⟩ : ∃ B, B = (sortL L).filter fun x => decide (now < x.due) := ⟨_, rfl⟩
  have hl : (dueL L now).length = A.length := by unfold dueL; rw [List.length_map, hA]
  rw [← hA, ← hB] at hs
  have hA1 : ∀ x ∈ A, x.due ≤ now := fun x hx => by rw [hA, List.mem_filter] at hx; simpa using hx.2
  have hB1 : ∀ x ∈ B, now < x.due := fun x hx => by rw [hB, List.mem_filter] at hx; simpa using hx.2
  rw [hl]
  have he : (sortL L)[i] = (A ++ B)[i]'(by rw [hs]; exact hi) := by simp only [hs]
  rw [he]
  by_cases e : i < A.length
  · rw [List.getElem_append_left e]
    exact ⟨fun _ => e, fun _ => hA1 _ (List.getElem_mem e)⟩
  · rw [List.getElem_append_right (by omega)]
    constructor
    · intro hx
      have hlen : i < (A ++ B).length := by rw [hs]; exact hi
      rw [List.length_append] at hlen
      have := hB1 _ (List.getElem_mem (l := B) (n := i - A.length) (by omega))
      omega
    · intro hx; exact absurd hx e

end Go.Proofs.Ytlkhaookdmgbnaa
