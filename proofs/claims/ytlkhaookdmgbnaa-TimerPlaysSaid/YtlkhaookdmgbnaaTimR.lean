/- Copies of timers: what is appended. -/
import Derived.Test.YtlkhaookdmgbnaaTimQ
namespace Go.Proofs.Ytlkhaookdmgbnaa
open Go.RowKit

theorem push_post2 {w w2 : World} {tb g n c p qb cap : Nat} {mv v' : Value} {a : Option Addr} {x : It} {Q : List (It × Nat)} {F : List Nat} (h : QS w a n c Q F) (hh : HeadAt w tb mv (.slice a n c) p) (hi : ItemAt w g x n) (htF : tb ∉ F) (hgF : g ∉ F) (htg : tb ≠ g)
    (hown : w2.ownsRow 0 64 1 v' (n + 1) (ptrsQ Q ++ [.pointer (some ⟨g, 0, none⟩)]))
    (hg : (w.alloc (.cells #[.pointer (some ⟨g, 0, none⟩)] 64)).grownBy w2 (Value.slice a n c).ownBlock)
    (hv : v' = .slice (some ⟨qb, 0, none⟩) (n + 1) cap) (hw : (Value.slice a n c).ownBlock = some qb ∨ (w.heap.size + 1) ≤ qb) : PushPost w tb g n p mv x Q F (w2.setCell ⟨tb, 1, none⟩ v') := by
  have hlt := hh.lt
  have hglt := hi.lt
  have hsz : (w.alloc (.cells #[.pointer (some ⟨g, 0, none⟩)] 64)).heap.size = w.heap.size + 1 := by simp
  have hC0 : Chg (g :: F) w (w.alloc (.cells #[.pointer (some ⟨g, 0, none⟩)] 64)) := (Chg.refl _ w).alloc _
  have hC1 : Chg (g :: F) w w2 := hC0.grown hg fun y hy => .inl (List.mem_cons_of_mem _ (h.own_in hy).1)
  have hh2 : HeadAt w2 tb mv (.slice a n c) p := hh.chg hC1 (by simp [htg, htF])
  have htq : qb ≠ tb := by
    rcases hw with e | e
    · intro e2; subst e2; exact htF (h.own_in e).1
    · omega
  have hn := h.1
  rcases hown.2 with ⟨e, _⟩ | ⟨g2, cap2, cur, e, _, hblk, hnc, hcm, hcs, htake⟩
  · rw [hv] at e; cases e
  · rw [hv] at e
    injection e with e1 e2 e3
    injection e1 with e1
    injection e1 with e1
    subst e1; subst e3
    have hit : ItemAt w2 g x n := by
      have h1 : ItemAt (w.alloc (.cells #[.pointer (some ⟨g, 0, none⟩)] 64)) g x n := by
        unfold ItemAt
        exact heap_old hi
      unfold ItemAt at h1 ⊢
      rw [hg.block g (by rw [hsz]; omega) (fun e => hgF (h.own_in e.symm).1)]
      exact h1
    refine ⟨qb, cap, ?_, hnc, hcm, ⟨⟨cur.toList.drop (n + 1), ?_, ?_⟩, ?_, ?_⟩, ?_, ?_⟩
    · rw [hv]; exact hh2.set1 _
    · simp; omega
    · rw [heap_set_other _ htq, hblk]
      have e4 : (Q ++ [(x, g)]).map (fun x => Value.pointer (some ⟨x.2, 0, none⟩)) = cur.toList.take (n + 1) := by
        rw [show cur.toList.take (n + 1) = cur.toList.take ((n + 1) * 1) by simp, htake]
        simp [ptrsQ]
      rw [e4, List.take_append_drop]
    · intro i hil
      rw [List.length_append] at hil
      by_cases e : i < Q.length
      · rw [List.getElem_append_left e]
        have h0 := h.item e
        have hm : Q[i].2 ∈ F := h.inF (List.getElem_mem e)
        have n1 : Q[i].2 ≠ tb := fun e => htF (e ▸ hm)
        have n2 : Q[i].2 ≠ g := fun e => hgF (e ▸ hm)
        have h1 : ItemAt (w.alloc (.cells #[.pointer (some ⟨g, 0, none⟩)] 64)) Q[i].2 Q[i].1 i := by
          unfold ItemAt at h0 ⊢
          exact heap_old h0
        have h2 := h1.lt
        unfold ItemAt at h1 ⊢
        rw [heap_set_other _ n1, hg.block _ h2 (fun e => (h.own_in e.symm).2.2 _ (List.getElem_mem _) rfl)]
        exact h1
      · have e5 : i = Q.length := by simp at hil; omega
        subst e5
        rw [List.getElem_append_right (Nat.le_refl _)]
        simp only [Nat.sub_self, List.getElem_cons_zero]
        rw [← hn]
        unfold ItemAt at hit ⊢
        rw [heap_set_other _ (Ne.symm htg)]
        exact hit
    · rw [List.map_append, List.nodup_append]
      refine ⟨h.nodup, by simp, ?_⟩
      intro y hy z hz
      simp at hz
      rw [hz]
      intro e
      rw [e] at hy
      obtain ⟨q, hq, hq2⟩ := List.mem_map.1 hy
      exact hgF (hq2 ▸ h.inF hq)
    · intro y hy
      simp only [blksQ, List.map_append, List.mem_cons, List.mem_append, List.map_cons, List.map_nil, List.mem_nil_iff, or_false] at hy
      rcases hy with e | e | e
      · rw [e]
        rcases hw with e | e
        · exact .inl (List.mem_cons_of_mem _ (h.own_in e).1)
        · right; omega
      · obtain ⟨q, hq, hq2⟩ := List.mem_map.1 e
        exact .inl (List.mem_cons_of_mem _ (hq2 ▸ h.inF hq))
      · left; rw [e]; simp
    · exact (hC1.mono fun y hy => List.mem_cons_of_mem _ hy).setCell (.inl (by simp)) _

theorem mk_map_hint (k : IntKind) (n : Int) (w : World) : (Instr.makeMap 57 (some (.int k n))).run Try.prog w = .ok (.map (some w.heap.size)) (w.alloc (.map #[] 0)) := by
  simp [Instr.makeMap, run_underlying Try.underlying57, asInt]
  rfl

end Go.Proofs.Ytlkhaookdmgbnaa
