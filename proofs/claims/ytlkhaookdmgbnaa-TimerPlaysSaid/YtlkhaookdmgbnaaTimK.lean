/- The queue's Push and Pop; the library's Push and Remove. -/
import Derived.Test.YtlkhaookdmgbnaaTimE
namespace Go.Proofs.Ytlkhaookdmgbnaa
open Go.RowKit

theorem m_push (a : Addr) (w : World) : (method 201 69 (.pointer (some a)) "Push").run Try.prog w = .ok (56, .pointer (some a)) w := by kernel_rfl
theorem m_pop (a : Addr) (w : World) : (method 201 69 (.pointer (some a)) "Pop").run Try.prog w = .ok (55, .pointer (some a)) w := by kernel_rfl

/-- The head of timers: its map, its queue, how many were put. -/
def HeadAt (w : World) (tb : Nat) (mv qv : Value) (p : Nat) : Prop := w.heap[tb]? = some (.cells #[mv, qv, .int .u64 p] 62 (0, 0))
theorem HeadAt.c0 {w : World} {tb p : Nat} {mv qv : Value} (h : HeadAt w tb mv qv p) : w.cell? ⟨tb, 0, none⟩ = some mv := (cell_of h).trans rfl
theorem HeadAt.c1 {w : World} {tb p : Nat} {mv qv : Value} (h : HeadAt w tb mv qv p) : w.cell? ⟨tb, 1, none⟩ = some qv := (cell_of h).trans rfl
theorem HeadAt.c2 {w : World} {tb p : Nat} {mv qv : Value} (h : HeadAt w tb mv qv p) : w.cell? ⟨tb, 2, none⟩ = some (.int .u64 p) := (cell_of h).trans rfl
theorem HeadAt.fr {w : World} {tb p : Nat} {mv qv : Value} (h : HeadAt w tb mv qv p) (i : Nat) : w.frozen? ⟨tb, i, none⟩ = false := free_of h
theorem HeadAt.lt {w : World} {tb p : Nat} {mv qv : Value} (h : HeadAt w tb mv qv p) : tb < w.heap.size := lt_of_block h
theorem HeadAt.chg {w w' : World} {S : List Nat} {tb p : Nat} {mv qv : Value} (h : HeadAt w tb mv qv p) (hc : Chg S w w') (hg : tb ∉ S) : HeadAt w' tb mv qv p := hc.keep h hg
theorem HeadAt.set1 {w : World} {tb p : Nat} {mv qv : Value} (h : HeadAt w tb mv qv p) (v : Value) : HeadAt (w.setCell ⟨tb, 1, none⟩ v) tb mv v p := by
  unfold HeadAt; rw [heap_set h]; rfl
theorem HeadAt.set0 {w : World} {tb p : Nat} {mv qv : Value} (h : HeadAt w tb mv qv p) (v : Value) : HeadAt (w.setCell ⟨tb, 0, none⟩ v) tb v qv p := by
  unfold HeadAt; rw [heap_set h]; rfl
theorem HeadAt.set2 {w : World} {tb p : Nat} {mv qv : Value} (h : HeadAt w tb mv qv p) (q : Nat) : HeadAt (w.setCell ⟨tb, 2, none⟩ (.int .u64 q)) tb mv qv q := by
  unfold HeadAt; rw [heap_set h]; rfl

theorem QAt.pop {w : World} {tb qb cap n m : Nat} {Q : List (It × Nat)} (h : QAt w qb cap Q) (hn : n = Q.length) (hm : n = m + 1) (hne : tb ∉ blksQ qb Q) (v : Value) : QAt ((w.setCell ⟨qb, m, none⟩ (.pointer none)).setCell ⟨tb, 1, none⟩ v) qb cap (Q.take m) := by
  have hqt : qb ≠ tb := fun e => hne (by simp [blksQ, e])
  obtain ⟨rest, hr, hrow⟩ := h.row
  refine ⟨⟨.pointer none :: rest, by simp; omega, ?_⟩, ?_, ?_⟩
  · rw [heap_set_other _ hqt, heap_set hrow]
    have e1 : Q.map (fun x => Value.pointer (some ⟨x.2, 0, none⟩)) ++ rest = (Q.take m).map (fun x => Value.pointer (some ⟨x.2, 0, none⟩)) ++ (.pointer (some ⟨(Q[m]'(by omega)).2, 0, none⟩) :: rest) := by
      have : Q = Q.take m ++ [Q[m]'(by omega)] := by rw [List.take_append_getElem (by omega)]; rw [List.take_of_length_le (by omega)]
      conv => lhs; rw [this]
      rw [List.map_append, List.append_assoc]
      rfl
    rw [List.setIfInBounds_toArray, e1, List.set_append_right _ _ (by simp; omega)]
    have e2 : m - ((Q.take m).map fun x => Value.pointer (some ⟨x.2, 0, none⟩)).length = 0 := by simp; omega
    rw [e2]
    rfl
  · intro i hi
    have hi' : i < m := by simp at hi; omega
    rw [List.getElem_take]
    have h0 := h.items i (by omega)
    have n1 := h.ne i (by omega)
    have n2 : (Q[i]'(by omega)).2 ≠ tb := fun e => hne (by simp only [blksQ, List.mem_cons, List.mem_map]; exact .inr ⟨Q[i]'(by omega), List.getElem_mem _, e⟩)
    unfold ItemAt at h0 ⊢
    rw [heap_set_other _ n2, heap_set_other _ n1]
    exact h0
  · rw [List.map_take]
    exact h.nodup.sublist (List.take_sublist _ _)

set_option maxHeartbeats 2000000 in
theorem pop_any (tb qb cap n m p : Nat) (mv : Value) (Q : List (It × Nat)) (w : World) (h : QAt w qb cap Q) (hne : tb ∉ blksQ qb Q) (hh : HeadAt w tb mv (.slice (some ⟨qb, 0, none⟩) n cap) p) (hn : Hid (n = Q.length)) (hm : n = m + 1) (hcap : n ≤ cap) (hlen : n ≤ 1000000000) :
    Calls Try.prog 55 #[.pointer (some ⟨tb, 1, none⟩)] w fun e w' => (∃ v, e = .returned v) ∧ HeadAt w' tb mv (.slice (some ⟨qb, 0, none⟩) m cap) p ∧ QAt w' qb cap (Q.take m) ∧ Chg (tb :: blksQ qb Q) w w' := by
  have HP := Lib.hid (h.pop hn.out hm hne (.slice (some ⟨qb, 0, none⟩) m cap))
  have hqt : qb ≠ tb := fun e => hne (by simp [blksQ, e])
  have hqt2 : tb ≠ qb := fun e => hqt e.symm
  have HH : Hid (HeadAt ((w.setCell ⟨qb, m, none⟩ (.pointer none)).setCell ⟨tb, 1, none⟩ (.slice (some ⟨qb, 0, none⟩) m cap)) tb mv (.slice (some ⟨qb, 0, none⟩) m cap) p) := Lib.hid (HeadAt.set1 (by unfold HeadAt; rw [heap_set_other _ hqt2]; exact hh) _)
  have HC : Hid (Chg (tb :: blksQ qb Q) w ((w.setCell ⟨qb, m, none⟩ (.pointer none)).setCell ⟨tb, 1, none⟩ (.slice (some ⟨qb, 0, none⟩) m cap))) := Lib.hid (((Chg.refl _ w).setCell (.inl (by simp [blksQ])) _).setCell (.inl (by simp)) _)
  have c1 := hh.c1
  have f1 := hh.fr 1
  have hmQ : m < Q.length := by have := hn.out; omega
  have c2 := h.get m hmQ
  have f2 := h.fr m
  obtain ⟨g, hg⟩ : ∃ g, g = Q[m].2 := ⟨_, rfl⟩
  rw [← hg] at c2
  have e1 : (n : Int) - 1 = (m : Int) := by omega
  have i1 : (m : Int) < (n : Int) := by omega
  have i2 : (m : Int) ≤ (cap : Int) := by omega
  have i3 : m < n := by omega
  have i4 : m ≤ cap := by omega
  clear hg h hh hm hne hmQ
  go_enter Try.func55, Try.ntmps55
  go_wp2
  go_ret
  exact ⟨⟨_, rfl⟩, HH.out, HP.out, HC.out⟩

/-- A queue's row: nil, or a row of its own; its blocks lie in F. -/
def QS (w : World) (a : Option Addr) (n c : Nat) (Q : List (It × Nat)) (F : List Nat) : Prop :=
  n = Q.length ∧ n ≤ c ∧ ((a = none ∧ n = 0 ∧ c = 0) ∨ ∃ qb, a = some ⟨qb, 0, none⟩ ∧ c ≤ maxLen ∧ QAt w qb c Q ∧ ∀ x ∈ blksQ qb Q, x ∈ F)
def ptrsQ (Q : List (It × Nat)) : List Value := Q.map fun x => Value.pointer (some ⟨x.2, 0, none⟩)
theorem QS.owns {w : World} {a : Option Addr} {n c : Nat} {Q : List (It × Nat)} {F : List Nat} (h : QS w a n c Q F) : w.ownsRow 0 64 1 (.slice a n c) n (ptrsQ Q) := by
  obtain ⟨hn, hnc, h⟩ := h
  refine ⟨by simp [ptrsQ, hn], ?_⟩
  rcases h with ⟨rfl, rfl, rfl⟩ | ⟨qb, rfl, hc, hq, _⟩
  · exact .inl ⟨rfl, rfl⟩
  · obtain ⟨rest, hr, hrow⟩ := hq.row
    refine .inr ⟨qb, c, _, rfl, by omega, hrow, hnc, hc, by simp; omega, ?_⟩
    rw [List.toList_toArray, List.take_append_of_le_length (by simp; omega), List.take_of_length_le (by simp; omega)]
    rfl
theorem QS.chg {w w' : World} {a : Option Addr} {n c : Nat} {Q : List (It × Nat)} {F S : List Nat} (h : QS w a n c Q F) (hc : Chg S w w') (hS : ∀ x ∈ F, x ∉ S) : QS w' a n c Q F := by
  obtain ⟨hn, hnc, h⟩ := h
  refine ⟨hn, hnc, ?_⟩
  rcases h with h | ⟨qb, h1, h2, h3, h4⟩
  · exact .inl h
  · exact .inr ⟨qb, h1, h2, h3.chg hc fun x hx => hS x (h4 x hx), h4⟩
theorem QS.inF {w : World} {a : Option Addr} {n c : Nat} {Q : List (It × Nat)} {F : List Nat} (h : QS w a n c Q F) {x : It × Nat} (hx : x ∈ Q) : x.2 ∈ F := by
  obtain ⟨hn, hnc, h⟩ := h
  rcases h with ⟨rfl, rfl, rfl⟩ | ⟨qb, rfl, hc, hq, hF⟩
  · have : Q = [] := List.eq_nil_of_length_eq_zero hn.symm
    subst this
    simp at hx
  · exact hF _ (by simp only [blksQ, List.mem_cons, List.mem_map]; exact .inr ⟨x, hx, rfl⟩)
theorem QS.item {w : World} {a : Option Addr} {n c : Nat} {Q : List (It × Nat)} {F : List Nat} (h : QS w a n c Q F) {i : Nat} (hi : i < Q.length) : ItemAt w Q[i].2 Q[i].1 i := by
  obtain ⟨hn, hnc, h⟩ := h
  rcases h with ⟨rfl, rfl, rfl⟩ | ⟨qb, rfl, hc, hq, hF⟩
  · omega
  · exact hq.items i hi
theorem QS.nodup {w : World} {a : Option Addr} {n c : Nat} {Q : List (It × Nat)} {F : List Nat} (h : QS w a n c Q F) : (Q.map (·.2)).Nodup := by
  obtain ⟨hn, hnc, h⟩ := h
  rcases h with ⟨rfl, rfl, rfl⟩ | ⟨qb, rfl, hc, hq, hF⟩
  · have : Q = [] := List.eq_nil_of_length_eq_zero hn.symm
    subst this
    simp
  · exact hq.nodup
theorem QS.own_in {w : World} {a : Option Addr} {n c : Nat} {Q : List (It × Nat)} {F : List Nat} (h : QS w a n c Q F) {k : Nat} (hk : (Value.slice a n c).ownBlock = some k) : k ∈ F ∧ k < w.heap.size ∧ ∀ x ∈ Q, x.2 ≠ k := by
  obtain ⟨hn, hnc, h⟩ := h
  rcases h with ⟨rfl, rfl, rfl⟩ | ⟨qb, rfl, hc, hq, hF⟩
  · simp [Value.ownBlock] at hk
  · simp [Value.ownBlock] at hk
    subst hk
    refine ⟨hF _ (by simp [blksQ]), hq.lt, fun x hx => ?_⟩
    obtain ⟨i, hi, rfl⟩ := List.getElem_of_mem hx
    exact hq.ne i hi

/-- What 'Push' leaves behind. -/
def PushPost (w : World) (tb g n p : Nat) (mv : Value) (x : It) (Q : List (It × Nat)) (F : List Nat) (w' : World) : Prop :=
  ∃ qb cap, HeadAt w' tb mv (.slice (some ⟨qb, 0, none⟩) (n + 1) cap) p ∧ n + 1 ≤ cap ∧ cap ≤ maxLen ∧ QAt w' qb cap (Q ++ [(x, g)]) ∧ (∀ y ∈ blksQ qb (Q ++ [(x, g)]), y ∈ g :: F ∨ w.heap.size ≤ y) ∧ Chg (tb :: g :: F) w w'
theorem push_post {w w2 : World} {tb g n c p k qb cap : Nat} {mv v' : Value} {a : Option Addr} {x : It} {Q : List (It × Nat)} {F : List Nat} (h : QS w a n c Q F) (hh : HeadAt w tb mv (.slice a n c) p) (hi : ItemAt w g x k) (htF : tb ∉ F) (hgF : g ∉ F) (htg : tb ≠ g)
    (hown : w2.ownsRow 0 64 1 v' (n + 1) (ptrsQ Q ++ [.pointer (some ⟨g, 0, none⟩)]))
    (hg : ((w.setCell ⟨g, 3, none⟩ (.int .i64 n)).alloc (.cells #[.pointer (some ⟨g, 0, none⟩)] 64)).grownBy w2 (Value.slice a n c).ownBlock)
    (hv : v' = .slice (some ⟨qb, 0, none⟩) (n + 1) cap) (hw : (Value.slice a n c).ownBlock = some qb ∨ (w.heap.size + 1) ≤ qb) : PushPost w tb g n p mv x Q F (w2.setCell ⟨tb, 1, none⟩ v') := by
  have hlt := hh.lt
  have hglt := hi.lt
  have hsz : ((w.setCell ⟨g, 3, none⟩ (.int .i64 n)).alloc (.cells #[.pointer (some ⟨g, 0, none⟩)] 64)).heap.size = w.heap.size + 1 := by simp
  have hC0 : Chg (g :: F) w ((w.setCell ⟨g, 3, none⟩ (.int .i64 n)).alloc (.cells #[.pointer (some ⟨g, 0, none⟩)] 64)) := ((Chg.refl _ w).setCell (.inl (by simp)) _).alloc _
  have hC1 : Chg (g :: F) w w2 := hC0.grown hg fun y hy => .inl (List.mem_cons_of_mem _ (h.own_in hy).1)
  have hh2 : HeadAt w2 tb mv (.slice a n c) p := hh.chg hC1 (by simp [htg, htF])
  have htq : qb ≠ tb := by
    rcases hw with e | e
    · intro e2; subst e2; exact htF (h.own_in e).1
    · omega
  have hn := h.1
  rcases hown.2 with ⟨e, _⟩ | ⟨g2, cap2, cur, e, _, hblk, hnc, hcm, hcs, htake⟩
  · rw [hv] at e; cases e
  · rw [hv] at e
    injection e with e1 e2 e3
    injection e1 with e1
    injection e1 with e1
    subst e1; subst e3
    have hit : ItemAt w2 g x n := by
      have h1 : ItemAt ((w.setCell ⟨g, 3, none⟩ (.int .i64 n)).alloc (.cells #[.pointer (some ⟨g, 0, none⟩)] 64)) g x n := by
        unfold ItemAt
        exact heap_old (hi.move n)
      unfold ItemAt at h1 ⊢
      rw [hg.block g (by rw [hsz]; omega) (fun e => hgF (h.own_in e.symm).1)]
      exact h1
    refine ⟨qb, cap, ?_, hnc, hcm, ⟨⟨cur.toList.drop (n + 1), ?_, ?_⟩, ?_, ?_⟩, ?_, ?_⟩
    · rw [hv]; exact hh2.set1 _
    · simp; omega
    · rw [heap_set_other _ htq, hblk]
      have e4 : (Q ++ [(x, g)]).map (fun x => Value.pointer (some ⟨x.2, 0, none⟩)) = cur.toList.take (n + 1) := by
        rw [show cur.toList.take (n + 1) = cur.toList.take ((n + 1) * 1) by simp, htake]
        simp [ptrsQ]
      rw [e4, List.take_append_drop]
    · intro i hil
      rw [List.length_append] at hil
      by_cases e : i < Q.length
      · rw [List.getElem_append_left e]
        have h0 := h.item e
        have hm : Q[i].2 ∈ F := h.inF (List.getElem_mem e)
        have n1 : Q[i].2 ≠ tb := fun e => htF (e ▸ hm)
        have n2 : Q[i].2 ≠ g := fun e => hgF (e ▸ hm)
        have h1 : ItemAt ((w.setCell ⟨g, 3, none⟩ (.int .i64 n)).alloc (.cells #[.pointer (some ⟨g, 0, none⟩)] 64)) Q[i].2 Q[i].1 i := by
          unfold ItemAt at h0 ⊢
          exact heap_old (by rw [heap_set_other _ n2]; exact h0)
        have h2 := h1.lt
        unfold ItemAt at h1 ⊢
        rw [heap_set_other _ n1, hg.block _ h2 (fun e => (h.own_in e.symm).2.2 _ (List.getElem_mem _) rfl)]
        exact h1
      · have e5 : i = Q.length := by simp at hil; omega
        subst e5
        rw [List.getElem_append_right (Nat.le_refl _)]
        simp only [Nat.sub_self, List.getElem_cons_zero]
        rw [← hn]
        unfold ItemAt at hit ⊢
        rw [heap_set_other _ (Ne.symm htg)]
        exact hit
    · rw [List.map_append, List.nodup_append]
      refine ⟨h.nodup, by simp, ?_⟩
      intro y hy z hz
      simp at hz
      rw [hz]
      intro e
      rw [e] at hy
      obtain ⟨q, hq, hq2⟩ := List.mem_map.1 hy
      exact hgF (hq2 ▸ h.inF hq)
    · intro y hy
      simp only [blksQ, List.map_append, List.mem_cons, List.mem_append, List.map_cons, List.map_nil, List.mem_nil_iff, or_false] at hy
      rcases hy with e | e | e
      · rw [e]
        rcases hw with e | e
        · exact .inl (List.mem_cons_of_mem _ (h.own_in e).1)
        · right; omega
      · obtain ⟨q, hq, hq2⟩ := List.mem_map.1 e
        exact .inl (List.mem_cons_of_mem _ (hq2 ▸ h.inF hq))
      · left; rw [e]; simp
    · exact (hC1.mono fun y hy => List.mem_cons_of_mem _ hy).setCell (.inl (by simp)) _

end Go.Proofs.Ytlkhaookdmgbnaa
