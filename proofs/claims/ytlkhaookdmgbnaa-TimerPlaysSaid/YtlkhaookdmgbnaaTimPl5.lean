/- Timers, as plain data: what is put again at its own reading. -/
import Derived.Test.YtlkhaookdmgbnaaTimPl4
namespace Go.Proofs.Ytlkhaookdmgbnaa

theorem sort_again {L : List It} {p : Nat} (h : OkL L p) {x : It} (hx : x ∈ L) : (sortL (putL L x.id x.due (p + 1))).filter (fun y => decide (y.due ≤ x.due)) = ((sortL L).filter fun y => decide (y.id ≠ x.id)).filter (fun y => decide (y.due ≤ x.due)) ++ [⟨x.id, x.due, p + 1⟩] := by
  have hok := h.put (h.idI x hx) (h.dueI x hx)
  have hd : sortL (delL L x.id) = (sortL L).filter fun y => decide (y.id ≠ x.id) := sortL_filter h.rise _
  rw [← hd, ← sortL_filter hok.rise]
  have e1 : (putL L x.id x.due (p + 1)).filter (fun y => decide (y.due ≤ x.due)) = (delL L x.id).filter (fun y => decide (y.due ≤ x.due)) ++ [⟨x.id, x.due, p + 1⟩] := by
    unfold putL
    rw [List.filter_append]
    congr 1
    simp
  rw [e1]
  refine sorted_eq (L := (delL L x.id).filter (fun y => decide (y.due ≤ x.due)) ++ [⟨x.id, x.due, p + 1⟩]) ?_ (sortL_sorted _) ?_ (sortL_perm _) ?_
  · rw [← e1]; exact hok.rise.sublist List.filter_sublist
  · rw [List.pairwise_append]
    refine ⟨(sortL_sorted _).sublist List.filter_sublist, by simp, ?_⟩
    intro a ha b hb
    simp at hb
    rw [List.mem_filter] at ha
    have h1 : a.due ≤ x.due := by simpa using ha.2
    have h2 : a.put ≤ p := h.top a (mem_delL.1 ((sortL_perm _).mem_iff.1 ha.1)).1
    rw [hb, leI_iff]
    show a.due < x.due ∨ (a.due = x.due ∧ a.put ≤ p + 1)
    omega
  · exact ((sortL_perm _).filter _).append_right _
theorem due_again {L : List It} {p : Nat} (h : OkL L p) {x : It} (hx : x ∈ L) : dueL (putL L x.id x.due (p + 1)) x.due = (dueL L x.due).filter (fun i => decide (i ≠ x.id)) ++ [x.id] := by
  unfold dueL
  rw [sort_again h hx, List.map_append, List.filter_map]
  congr 1
  rw [List.filter_filter, List.filter_filter]
  congr 1
  apply List.filter_congr
  intro y _
  rw [Bool.and_comm]
  rfl
theorem rest_again (L : List It) {p : Nat} {x : It} : restL (putL L x.id x.due (p + 1)) x.due = restL (delL L x.id) x.due := by
  unfold restL putL
  rw [List.filter_append]
  simp
theorem rest_del {L : List It} {p : Nat} (h : OkL L p) {x : It} (hx : x ∈ L) : restL (delL L x.id) x.due = restL L x.due := by
  unfold restL delL
  rw [List.filter_filter]
  apply List.filter_congr
  intro y hy
  by_cases e : y.id = x.id
  · have : y = x := by
      obtain ⟨i, hi, rfl⟩ := List.getElem_of_mem hy
      obtain ⟨j, hj, rfl⟩ := List.getElem_of_mem hx
      rcases Nat.lt_trichotomy i j with hh | hh | hh
      · exact absurd (by rw [List.getElem_map, List.getElem_map]; exact e) (List.pairwise_iff_getElem.1 h.ids i j (by simpa using hi) (by simpa using hj) hh)
      · subst hh; rfl
      · exact absurd (by rw [List.getElem_map, List.getElem_map]; exact e.symm) (List.pairwise_iff_getElem.1 h.ids j i (by simpa using hj) (by simpa using hi) hh)
    subst this
    simp
  · simp [e]
theorem put_drop {L : List It} {id due : Int} {p : Nat} (h : ∀ x ∈ L, x.id ≠ id) : delL (putL L id due p) id = L := by
  unfold putL
  rw [delL_absent h]
  unfold delL
  rw [List.filter_append]
  have := delL_absent h
  unfold delL at this
  rw [this]
  simp

end Go.Proofs.Ytlkhaookdmgbnaa
