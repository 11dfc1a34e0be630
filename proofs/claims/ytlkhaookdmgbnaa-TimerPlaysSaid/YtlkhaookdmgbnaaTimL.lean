/- The queue's Push; the library's Push and Remove. -/
import Derived.Test.YtlkhaookdmgbnaaTimK
namespace Go.Proofs.Ytlkhaookdmgbnaa
open Go.RowKit

theorem wpList_push_own {P : Program} {w : World} {ops : Array Oper} {rest : List Oper} {o : Oper} {a : Act} {Q : Exit → Act → World → Prop} (hgd : o.guard = none) (s x : Operand) (t : TypeId)
    (ho : o.op = .call { callee := .builtin .append, args := #[s, x], argTypes := #[t, t] })
    (e : TypeId) (i : TypeInfo) (z : Value) (bytes : Nat) (ht : P.underlying t = some (.slice e)) (hi : P.info? e = some i) (hz : i.zero = some z)
    (hsize : i.size = 1) (hby : i.bytes = bytes) (hzs : z.cells.size = 1)
    (v : Value) (n : Nat) (xs : List Value) (hs : a.eval s = v) (hown : w.ownsRow 0 e 1 v n xs)
    (ad : Addr) (c : Nat) (u : Value) (hx : a.eval x = .slice (some ad) 1 c) (hnews : w.cell? (ad.add 0) = some u) (h1 : u.oneCell' = true)
    (h63 : n + 1 ≤ maxLen) (hbytes : (n + 1) * bytes ≤ 140737488355328)
    (h : ∀ v' w' g cap, w'.ownsRow 0 e 1 v' (n + 1) (xs ++ [u]) → w.grownBy w' v.ownBlock → v' = .slice (some ⟨g, 0, none⟩) (n + 1) cap → (v.ownBlock = some g ∨ w.heap.size ≤ g) → wpList P ops Q rest (a.put o.dst v') w') : wpList P ops Q (o :: rest) a w := by
  refine wpList_plain hgd fun _ hK => ?_
  obtain ⟨v', w', g, cap, hr, h2, h3, h4, h5⟩ := run_push_own (P := P) w t o.type e i z bytes ht hi hz hsize hby hzs v n xs hown ad c u hnews h1 h63 hbytes
  unfold Oper.wp execOp
  simp only [ho, resolve, invoke, builtin, Sem.run_bind, Sem.run_pure, Result.andThen_ok, List.map_toArray, List.map_cons, List.map_nil, hs, hx, hr]
  exact hK _ _ (h v' w' g cap h2 h3 h4 h5)

theorem cell_new1 (w : World) (u : Value) (e : TypeId) (s : Nat) (hs : s = w.heap.size) : (w.alloc (.cells #[u] e)).cell? ((⟨s, 0, none⟩ : Addr).add 0) = some u := by
  subst hs
  have h := heap_new w (.cells #[u] e)
  have e1 : (⟨w.heap.size, 0, none⟩ : Addr).add 0 = ⟨w.heap.size, 0, none⟩ := by simp [Addr.add]
  rw [e1, cell_of h]
  rfl
theorem run_isItem (a : Addr) (t0 : TypeId) (w : World) : (Instr.typeAssert (.iface 64 (.pointer (some a))) t0 64 true).run Try.prog w = .ok (.tuple #[.pointer (some a), .bool true]) w := by kernel_rfl

set_option maxRecDepth 100000 in
set_option maxHeartbeats 2000000 in
theorem qpush_any (tb g n c p k : Nat) (mv : Value) (a : Option Addr) (x : It) (Q : List (It × Nat)) (F : List Nat) (w : World) (h : QS w a n c Q F) (hh : HeadAt w tb mv (.slice a n c) p) (hi : ItemAt w g x k) (htF : tb ∉ F) (hgF : g ∉ F) (htg : tb ≠ g) (hlen : n ≤ 1000000000) :
    Calls Try.prog 56 #[.pointer (some ⟨tb, 1, none⟩), .iface 64 (.pointer (some ⟨g, 0, none⟩))] w fun e w' => e = .returned (.tuple #[]) ∧ PushPost w tb g n p mv x Q F w' := by
  have HPP : Hid (∀ (w2 : World) (qb cap : Nat) (v' : Value), w2.ownsRow 0 64 1 v' (n + 1) (ptrsQ Q ++ [.pointer (some ⟨g, 0, none⟩)]) → ((w.setCell ⟨g, 3, none⟩ (.int .i64 n)).alloc (.cells #[.pointer (some ⟨g, 0, none⟩)] 64)).grownBy w2 (Value.slice a n c).ownBlock →
    v' = .slice (some ⟨qb, 0, none⟩) (n + 1) cap → ((Value.slice a n c).ownBlock = some qb ∨ (w.heap.size + 1) ≤ qb) → PushPost w tb g n p mv x Q F (w2.setCell ⟨tb, 1, none⟩ v') ∧ w2.cell? ⟨tb, 1, none⟩ = some (.slice a n c) ∧ w2.frozen? ⟨tb, 1, none⟩ = false) := Lib.hid (fun w2 qb cap v' k1 k2 k3 k4 => by
      refine ⟨push_post h hh hi htF hgF htg k1 k2 k3 k4, ?_⟩
      have hC0 : Chg (g :: F) w ((w.setCell ⟨g, 3, none⟩ (.int .i64 n)).alloc (.cells #[.pointer (some ⟨g, 0, none⟩)] 64)) := ((Chg.refl _ w).setCell (.inl (by simp)) _).alloc _
      have hC1 : Chg (g :: F) w w2 := hC0.grown k2 fun y hy => .inl (List.mem_cons_of_mem _ (h.own_in hy).1)
      have hh2 : HeadAt w2 tb mv (.slice a n c) p := hh.chg hC1 (by simp [htg, htF])
      exact ⟨hh2.c1, hh2.fr 1⟩)
  have HO : Hid ((w.setCell ⟨g, 3, none⟩ (.int .i64 n)).ownsRow 0 64 1 (.slice a n c) n (ptrsQ Q)) := Lib.hid (QS.owns (h.chg (Chg.set1 w g 3 _) fun y hy => by simp; intro e; exact hgF (e ▸ hy)))
  have c1 := hh.c1
  have f1 := hh.fr 1
  have c3 := hi.c3
  have f3 := hi.fr 3
  obtain ⟨i0, hi0, hz0, hz1, hz2⟩ := info_parts (P := Try.prog) (e := 64) (z := .pointer none) (size := 1) (bytes := 8) (by kernel_rfl)
  have hta := fun t0 => run_isItem ⟨g, 0, none⟩ t0 w
  clear h hh hi htF hgF
  go_enter Try.func56, Try.ntmps56
  go_wp2_with (at_builtin; go_must (refine wpList_push_own rfl _ _ 59 rfl 64 i0 (.pointer none) 8 Try.underlying59 hi0 hz0 hz1 hz2 rfl (.slice a n c) n _ rfl (HO.out.alloc _) ⟨w.heap.size, 0, none⟩ 1 (.pointer (some ⟨g, 0, none⟩)) rfl (cell_new1 _ _ _ _ (by simp)) rfl (by unfold maxLen; omega) (by omega) ?_); go_must (intro v1 w1 qb cap hown1 hg1 hv1 hw1; obtain ⟨HP1, c11, f11⟩ := HPP.out w1 qb cap v1 hown1 hg1 hv1 (by simpa using hw1); have HP2 := Lib.hid HP1; clear HP1 hown1 hg1 hw1; subst hv1))
  go_end0
  exact ⟨rfl, HP2.out⟩

end Go.Proofs.Ytlkhaookdmgbnaa
