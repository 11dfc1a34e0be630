/- Timers, as plain data: what is due reading by reading. -/
import Derived.Test.YtlkhaookdmgbnaaTimPl2
namespace Go.Proofs.Ytlkhaookdmgbnaa

/-- Timers of these things, put one by one: the first k of them. -/
def putsT (l : List (Int × Int)) : Nat → List It
  | 0 => []
  | k + 1 => putL (putsT l k) (l.getD k (0, 0)).1 (l.getD k (0, 0)).2 (k + 1)
theorem putsT_ok {l : List (Int × Int)} (h : ∀ x ∈ l, InI x.1 ∧ InI x.2) : ∀ k, k ≤ l.length → OkL (putsT l k) k
  | 0, _ => ok_nil
  | k + 1, hk => by
    have hm : l.getD k (0, 0) ∈ l := by
      have : k < l.length := by omega
      simp [this]
    exact (putsT_ok h k (by omega)).put (h _ hm).1 (h _ hm).2

theorem sortL_filter {L : List It} (h : L.Pairwise fun x y => x.put < y.put) (q : It → Bool) : sortL (L.filter q) = (sortL L).filter q := by
  refine sorted_eq (L := L.filter q) (h.sublist List.filter_sublist) (sortL_sorted _) ((sortL_sorted L).sublist List.filter_sublist) (sortL_perm _) ((sortL_perm L).filter q)
/-- A row that rises: those up to a reading, then those behind it. -/
theorem rise_split (l : List It) (h : l.Pairwise leI) (now : Int) : (l.filter fun x => decide (x.due ≤ now)) ++ (l.filter fun x => decide (now < x.due)) = l := by
  induction l with
  | nil => rfl
  | cons x l ih =>
    rw [List.pairwise_cons] at h
    by_cases e : x.due ≤ now
    · rw [List.filter_cons, if_pos (by simpa using e), List.filter_cons, if_neg (by simp; omega), List.cons_append, ih h.2]
    · have hall : ∀ y ∈ l, now < y.due := fun y hy => by
        have := h.1 y hy
        rw [leI_iff] at this
        omega
      have e1 : (l.filter fun x => decide (x.due ≤ now)) = [] := List.filter_eq_nil_iff.2 fun y hy => by have := hall y hy; simp; omega
      rw [List.filter_cons, if_neg (by simpa using e), List.filter_cons, if_pos (by simp; omega), e1, List.nil_append]
      congr 1
      exact List.filter_eq_self.2 fun y hy => by simpa using hall y hy
theorem due_split {L : List It} (h : L.Pairwise fun x y => x.put < y.put) {a b : Int} (hab : a ≤ b) : dueL L a ++ dueL (restL L a) b = dueL L b := by
  unfold dueL restL
  rw [sortL_filter h, ← List.map_append]
  congr 1
  have hs := sortL_sorted L
  have := rise_split ((sortL L).filter fun x => decide (x.due ≤ b)) (hs.sublist List.filter_sublist) a
  rw [List.filter_filter, List.filter_filter] at this
  conv => rhs; rw [← this]
  congr 1
  · apply List.filter_congr
    intro x _
    by_cases e : x.due ≤ a
    · have : x.due ≤ b := by omega
      simp [e, this]
    · simp [e]
  · rw [List.filter_filter]
    apply List.filter_congr
    intro x _
    rw [Bool.and_comm]
theorem rest_split (L : List It) {a b : Int} (hab : a ≤ b) : restL (restL L a) b = restL L b := by
  unfold restL
  rw [List.filter_filter]
  apply List.filter_congr
  intro x _
  by_cases e : b < x.due
  · have : a < x.due := by omega
    simp [e, this]
  · simp [e]
theorem rest_rise {L : List It} (h : L.Pairwise fun x y => x.put < y.put) (a : Int) : (restL L a).Pairwise fun x y => x.put < y.put := h.sublist List.filter_sublist
theorem dueL_len_le (L : List It) (now : Int) : (dueL L now).length ≤ L.length := by
  unfold dueL
  rw [List.length_map]
  exact Nat.le_trans (List.length_filter_le _ _) (Nat.le_of_eq (sortL_perm L).length_eq)

end Go.Proofs.Ytlkhaookdmgbnaa
