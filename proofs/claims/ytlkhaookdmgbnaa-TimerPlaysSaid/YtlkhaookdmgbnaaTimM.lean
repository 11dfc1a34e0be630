/- A map from numbers to pointers, by what it holds at each number. -/
import Derived.Test.YtlkhaookdmgbnaaTimA
import Derived.Test.YtlkhaookdmgbnaaTimPl2
import Derived.Maps.OwnSet
import Derived.Maps.OwnOps
namespace Go.Proofs.Ytlkhaookdmgbnaa
open Go.RowKit Go.Maps

/-- How a pointer to a block reads. -/
def ptrE : Value → Option (DataW Unit × List MemPlace)
  | .pointer none => some (.nil, [])
  | .pointer (some ⟨b, 0, none⟩) => some (.lit (.int .i64 (b : Int)), [])
  | _ => none
theorem ptrE_some (b : Nat) : ptrE (.pointer (some ⟨b, 0, none⟩)) = some (.lit (.int .i64 (b : Int)), []) := rfl
theorem ptrE_inv {v : Value} {b : Nat} {ps : List MemPlace} (h : ptrE v = some (.lit (.int .i64 (b : Int)), ps)) : v = .pointer (some ⟨b, 0, none⟩) := by
  unfold ptrE at h
  split at h
  · simp at h
  · rename_i c
    simp only [Option.some.injEq, Prod.mk.injEq, DataW.lit.injEq, Lit.int.injEq, true_and] at h
    have : c = b := by omega
    rw [this]
  · cases h
theorem ptrE_nil {v : Value} {ps : List MemPlace} (h : ptrE v = some (.nil, ps)) : v = .pointer none := by
  unfold ptrE at h
  split at h
  · rfl
  · simp at h
  · cases h
theorem lawI : Keyed Try.prog 3 := int_keyed Try.underlying3
theorem zeroP (w : World) : (zeroValue 64).run Try.prog w = .ok (.pointer none) w := by kernel_rfl
theorem key_i64 {k : Int} (h : -9223372036854775808 ≤ k ∧ k ≤ 9223372036854775807) : keyOf Try.prog 3 (.int .i64 k) = some (.int .i64 k) := keyOf_int_mk Try.underlying3 (WalkArith.wf_i64 h)

/-- The block mb is a map of at most n entries; at k it holds what f says. -/
def MapAt (w : World) (mb n : Nat) (f : Int → Option Nat) : Prop :=
  ∃ D : DataW Unit, w.ownsMap Try.prog 3 ptrE mb n D ∧ (∀ k, has D (.int .i64 k) = (f k).isSome) ∧ ∀ k b, f k = some b → ∀ z, D.atKey (.int .i64 k) z = .lit (.int .i64 (b : Int))
theorem MapAt.lt {w : World} {mb n : Nat} {f : Int → Option Nat} (h : MapAt w mb n f) : mb < w.heap.size := by obtain ⟨D, h, _⟩ := h; exact h.lt
theorem MapAt.chg {w w' : World} {S : List Nat} {mb n : Nat} {f : Int → Option Nat} (h : MapAt w mb n f) (hc : Chg S w w') (hm : mb ∉ S) : MapAt w' mb n f := by
  obtain ⟨D, ⟨es, clock, hb, hr⟩, h1, h2⟩ := h
  exact ⟨D, ⟨es, clock, hc.keep hb hm, hr⟩, h1, h2⟩
theorem MapAt.mono {w : World} {mb n m : Nat} {f : Int → Option Nat} (h : MapAt w mb n f) (hn : n ≤ m) : MapAt w mb m f := by
  obtain ⟨D, h0, h1, h2⟩ := h
  exact ⟨D, h0.mono hn, h1, h2⟩
theorem MapAt.not_cells {w : World} {mb n : Nat} {f : Int → Option Nat} (h : MapAt w mb n f) (c : Array Value) (t : TypeId) (fz : Nat × Nat) : w.heap[mb]? ≠ some (.cells c t fz) := by
  obtain ⟨D, ⟨es, clock, hb, _⟩, _⟩ := h
  rw [hb]
  intro e
  cases e
theorem map_new (w : World) : MapAt (w.alloc (.map #[] 0)) w.heap.size 0 (fun _ => none) := by
  refine ⟨.map [], World.ownsMap_made _ _ _ _, fun k => rfl, fun k b h => by cases h⟩

section
variable {w : World} {mb n : Nat} {f : Int → Option Nat}
theorem MapAt.look (h : MapAt w mb n f) {k : Int} (hk : InI k) {b : Nat} (hb : f k = some b) : (Instr.lookup 57 (.map (some mb)) (.int .i64 k) true).run Try.prog w = .ok (.tuple #[.pointer (some ⟨b, 0, none⟩), .bool true]) w := by
  obtain ⟨D, h0, h1, h2⟩ := h
  obtain ⟨v, ps, hrun, hv⟩ := h0.look_ok lawI Try.underlying57 (zeroP w) (zd := .nil) (zp := []) rfl (key_i64 hk)
  rw [h2 k b hb] at hv
  rw [hrun, h1, hb, ptrE_inv hv]
  rfl
theorem MapAt.look_none (h : MapAt w mb n f) {k : Int} (hk : InI k) (hb : f k = none) : (Instr.lookup 57 (.map (some mb)) (.int .i64 k) true).run Try.prog w = .ok (.tuple #[.pointer none, .bool false]) w := by
  obtain ⟨D, h0, h1, h2⟩ := h
  obtain ⟨v, ps, hrun, hv⟩ := h0.look_ok lawI Try.underlying57 (zeroP w) (zd := .nil) (zp := []) rfl (key_i64 hk)
  have hno : has D (.int .i64 k) = false := by rw [h1, hb]; rfl
  rw [atKey_of_not_has hno] at hv
  rw [hrun, hno, ptrE_nil hv]
end
theorem look_nilmap (w : World) {k : Int} (hk : InI k) : (Instr.lookup 57 (.map none) (.int .i64 k) true).run Try.prog w = .ok (.tuple #[.pointer none, .bool false]) w := by
  have := Maps.look_nil (w := w) true lawI Try.underlying57 (zeroP w) (key_i64 hk)
  simpa using this

theorem isKeyI (k : Int) : WideAt.IsKeyLit (.int .i64 k) := trivial
theorem lit_ne {a b : Int} (h : a ≠ b) : (Lit.int .i64 a) ≠ .int .i64 b := by intro e; injection e with _ e; exact h e
theorem chg_turned {w w' : World} {b : Nat} (h : w.mapTurned w' b) : Chg [b] w w' := by
  have hg := h.grown
  exact ⟨hg.os, hg.tape, hg.output, hg.size, fun k hk hs => hg.block k hk (by simp at hs; simpa using hs)⟩
/-- A store into the map. -/
theorem MapAt.put {w : World} {mb n : Nat} {f : Int → Option Nat} (h : MapAt w mb n f) {k : Int} (hk : InI k) (b : Nat) (hn : n < 1000000000) : ∃ w', (Instr.mapUpdate 57 (.map (some mb)) (.int .i64 k) (.pointer (some ⟨b, 0, none⟩))).run Try.prog w = .ok () w' ∧ MapAt w' mb (n + 1) (fun x => if x = k then some b else f x) ∧ Chg [mb] w w' := by
  obtain ⟨D, h0, h1, h2⟩ := h
  obtain ⟨w', hrun, h3, h4⟩ := h0.store lawI Try.underlying57 (by unfold maxLen; omega) (key_i64 hk) (ptrE_some b)
  refine ⟨w', hrun, ⟨_, h3, fun x => ?_, fun x c hx z => ?_⟩, chg_turned h4⟩
  · by_cases e : x = k
    · subst e; rw [has_put_same h0.isMap (isKeyI _)]; simp only [if_true, Option.isSome_some]
    · rw [has_put_other (lit_ne e)]; dsimp only; rw [if_neg e, h1]
  · by_cases e : x = k
    · subst e
      dsimp only at hx
      rw [if_pos rfl] at hx
      cases hx
      exact atKey_put_same h0.isMap (isKeyI _) _ _
    · dsimp only at hx
      rw [if_neg e] at hx
      rw [atKey_put_other (lit_ne e)]
      exact h2 x c hx z
theorem wpList_put {w : World} {ops : Array Oper} {rest : List Oper} {o : Oper} {a : Act} {Q : Exit → Act → World → Prop} (hg : o.guard = none) (m x v : Operand) (hop : o.op = Op.mapUpdate 57 m x v)
    {mb n : Nat} {f : Int → Option Nat} (h : MapAt w mb n f) (k : Int) (hk : InI k) (b : Nat) (hn : n < 1000000000) (hm : a.eval m = .map (some mb)) (hx : a.eval x = .int .i64 k) (hv : a.eval v = .pointer (some ⟨b, 0, none⟩))
    (hK : ∀ w', MapAt w' mb (n + 1) (fun x => if x = k then some b else f x) → Chg [mb] w w' → wpList Try.prog ops Q rest (a.put o.dst undef) w') : wpList Try.prog ops Q (o :: rest) a w := by
  refine wpList_plain hg fun K' hK' => ?_
  obtain ⟨w', hrun, r1, r2⟩ := h.put hk b hn
  unfold Oper.wp
  simp [execOp, hop, hm, hx, hv, hrun, Result.andThen]
  exact hK' _ _ (hK w' r1 r2)
/-- A number goes out of the map. -/
theorem wpList_del {w : World} {ops : Array Oper} {rest : List Oper} {o : Oper} {a : Act} {Q : Exit → Act → World → Prop} (hg : o.guard = none) (m x : Operand) (hop : o.op = Op.call { callee := Callee.builtin Builtin.delete, args := #[m, x], argTypes := #[57, 3] })
    {mb n : Nat} {f : Int → Option Nat} (h : MapAt w mb n f) (k : Int) (hk : InI k) (hm : a.eval m = .map (some mb)) (hx : a.eval x = .int .i64 k)
    (hK : ∀ w', MapAt w' mb n (fun x => if x = k then none else f x) → Chg [mb] w w' → wpList Try.prog ops Q rest (a.put o.dst (.tuple #[])) w') : wpList Try.prog ops Q (o :: rest) a w := by
  obtain ⟨D, h0, h1, h2⟩ := h
  refine wpList_delete_own w hg m x 57 3 hop 64 lawI Try.underlying57 ptrE mb n D hm h0 _ _ hx (key_i64 hk) fun w' h3 h4 => ?_
  refine hK w' ⟨_, h3, fun x => ?_, fun x c hx z => ?_⟩ (chg_turned h4)
  · by_cases e : x = k
    · subst e; rw [has_del_same]; simp only [if_true, Option.isSome_none]
    · rw [has_del_other (lit_ne e)]; dsimp only; rw [if_neg e, h1]
  · by_cases e : x = k
    · subst e
      dsimp only at hx
      rw [if_pos rfl] at hx
      cases hx
    · dsimp only at hx
      rw [if_neg e] at hx
      rw [atKey_del_other (lit_ne e)]
      exact h2 x c hx z

end Go.Proofs.Ytlkhaookdmgbnaa
