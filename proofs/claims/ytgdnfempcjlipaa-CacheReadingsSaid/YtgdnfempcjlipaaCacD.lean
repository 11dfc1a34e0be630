/- A map from hashes to rows, by what it holds at each hash; rows of entries. -/
import Derived.Test.YtgdnfempcjlipaaCacC
import Derived.Test.YtgdnfempcjlipaaLruZ
import Derived.Test.YtgdnfempcjlipaaTimZ
import Derived.Maps.OwnSet
import Derived.Maps.OwnOps
namespace Go.Proofs.Ytgdnfempcjlipaa
open Go.RowKit Go.Maps

/-- How a slice reads in the map: as itself. -/
def rawE (v : Value) : Option (DataW Value × List MemPlace) := some (.held v, [])
theorem rawE_inv {v u : Value} {ps : List MemPlace} (h : rawE v = some (.held u, ps)) : v = u := by
  unfold rawE at h
  injection h with h
  injection h with h _
  injection h
theorem lawH : Keyed Try.prog 29 := int_keyed Try.underlying29
theorem zeroRow (w : World) : (zeroValue 75).run Try.prog w = .ok (.slice none 0 0) w := by kernel_rfl
theorem key_u64 {k : Nat} (h : k < 18446744073709551616) : keyOf Try.prog 29 (.int .u64 (k : Int)) = some (.int .u64 (k : Int)) := keyOf_int_mk Try.underlying29 (by
  simp [Lit.wf, IntKind.min, IntKind.max, IntKind.signed, IntKind.bits]
  omega)
theorem isKeyH (k : Int) : WideAt.IsKeyLit (.int .u64 k) := trivial
theorem litH_ne {a b : Nat} (h : a ≠ b) : (Lit.int .u64 (a : Int)) ≠ .int .u64 (b : Int) := by intro e; injection e with _ e; omega
theorem chg_turnedH {w w' : World} {b : Nat} (h : w.mapTurned w' b) : Chg [b] w w' := by
  have hg := h.grown
  exact ⟨hg.os, hg.tape, hg.output, hg.size, fun k hk hs => hg.block k hk (by simp at hs; simpa using hs)⟩

/-- The block mb is a map of at most m entries; at k it holds what f says. -/
def MapH (w : World) (mb m : Nat) (f : Nat → Option Value) : Prop :=
  ∃ D : DataW Value, w.ownsMap Try.prog 29 rawE mb (Maps.size D) D ∧ Maps.size D ≤ m ∧ (∀ k : Nat, has D (.int .u64 (k : Int)) = (f k).isSome) ∧ ∀ (k : Nat) v, f k = some v → ∀ z, D.atKey (.int .u64 (k : Int)) z = .held v
theorem owns_tightH {w : World} {m n : Nat} {D : DataW Value} (h : w.ownsMap Try.prog 29 rawE m n D) : w.ownsMap Try.prog 29 rawE m (Maps.size D) D := by
  obtain ⟨es, clock, hb, F, hs, rfl⟩ := h
  refine ⟨es, clock, hb, F, ?_, rfl⟩
  simp [Maps.size, length_sorted]
section
variable {w w' : World} {mb m : Nat} {f : Nat → Option Value}
theorem MapH.lt (h : MapH w mb m f) : mb < w.heap.size := by obtain ⟨D, h, _⟩ := h; exact h.lt
theorem MapH.chg {S : List Nat} (h : MapH w mb m f) (hc : Chg S w w') (hm : mb ∉ S) : MapH w' mb m f := by
  obtain ⟨D, ⟨es, clock, hb, hr⟩, h1, h2⟩ := h
  exact ⟨D, ⟨es, clock, hc.keep hb hm, hr⟩, h1, h2⟩
theorem MapH.mono {n : Nat} (h : MapH w mb m f) (hn : m ≤ n) : MapH w mb n f := by
  obtain ⟨D, h0, h1, h2⟩ := h
  exact ⟨D, h0, by omega, h2⟩
theorem MapH.isMap (h : MapH w mb m f) : ∃ es clock, w.heap[mb]? = some (.map es clock) := by
  obtain ⟨D, ⟨es, clock, hb, _⟩, _⟩ := h
  exact ⟨es, clock, hb⟩
theorem MapH.not_cells (h : MapH w mb m f) (c : Array Value) (t : TypeId) (fz : Nat × Nat) : w.heap[mb]? ≠ some (.cells c t fz) := by
  obtain ⟨es, clock, hb⟩ := h.isMap
  rw [hb]
  intro e
  cases e
theorem mapH_new (w : World) : MapH (w.alloc (.map #[] 0)) w.heap.size 0 (fun _ => none) :=
  ⟨.map [], World.ownsMap_made _ _ _ _, Nat.le_refl _, fun k => rfl, fun k b h => by cases h⟩
/-- What is looked up at k. -/
def rowAt (f : Nat → Option Value) (k : Nat) : Value := (f k).getD (.slice none 0 0)
theorem MapH.look (h : MapH w mb m f) {k : Nat} (hk : k < 18446744073709551616) : (Instr.lookup 66 (.map (some mb)) (.int .u64 (k : Int)) false).run Try.prog w = .ok (rowAt f k) w := by
  obtain ⟨D, h0, _, h1, h2⟩ := h
  obtain ⟨v, ps, hrun, hv⟩ := h0.lookup lawH Try.underlying66 (zeroRow w) (zd := .held (.slice none 0 0)) (zp := []) rfl (key_u64 hk)
  rw [hrun]
  unfold rowAt
  cases hf : f k with
  | some u =>
    rw [h2 k u hf] at hv
    rw [rawE_inv hv]
    rfl
  | none =>
    have hno : has D (.int .u64 (k : Int)) = false := by rw [h1, hf]; rfl
    rw [atKey_of_not_has hno] at hv
    rw [rawE_inv hv]
    rfl
/-- A store into the map. -/
theorem MapH.put (h : MapH w mb m f) {k : Nat} (hk : k < 18446744073709551616) (v : Value) (hm : m < 1000000000) : ∃ w', (Instr.mapUpdate 66 (.map (some mb)) (.int .u64 (k : Int)) v).run Try.prog w = .ok () w' ∧ MapH w' mb (if (f k).isSome then m else m + 1) (fun x => if x = k then some v else f x) ∧ Chg [mb] w w' := by
  obtain ⟨D, h0, hsz, h1, h2⟩ := h
  have ht := h0.tidy lawH
  obtain ⟨w', hrun, h3, h4⟩ := h0.store lawH Try.underlying66 (by unfold maxLen; omega) (key_u64 hk) (show rawE v = some (.held v, []) from rfl)
  refine ⟨w', hrun, ⟨_, owns_tightH h3, ?_, fun x => ?_, fun x c hx z => ?_⟩, chg_turnedH h4⟩
  · rw [size_put ht, h1]
    split <;> omega
  · by_cases e : x = k
    · subst e; rw [has_put_same h0.isMap (isKeyH _)]; simp only [if_true, Option.isSome_some]
    · rw [has_put_other (litH_ne e)]; dsimp only; rw [if_neg e, h1]
  · by_cases e : x = k
    · subst e
      dsimp only at hx
      rw [if_pos rfl] at hx
      cases hx
      exact atKey_put_same h0.isMap (isKeyH _) _ _
    · dsimp only at hx
      rw [if_neg e] at hx
      rw [atKey_put_other (litH_ne e)]
      exact h2 x c hx z
end
theorem wpList_putH {w : World} {ops : Array Oper} {rest : List Oper} {o : Oper} {a : Act} {Q : Exit → Act → World → Prop} (hg : o.guard = none) (m x v : Operand) (hop : o.op = Op.mapUpdate 66 m x v)
    {mb n : Nat} {f : Nat → Option Value} (h : MapH w mb n f) (k : Nat) (hk : k < 18446744073709551616) (u : Value) (hn : n < 1000000000) (hm : a.eval m = .map (some mb)) (hx : a.eval x = .int .u64 (k : Int)) (hv : a.eval v = u)
    (hK : ∀ w', MapH w' mb (if (f k).isSome then n else n + 1) (fun x => if x = k then some u else f x) → Chg [mb] w w' → wpList Try.prog ops Q rest (a.put o.dst undef) w') : wpList Try.prog ops Q (o :: rest) a w := by
  refine wpList_plain hg fun K' hK' => ?_
  obtain ⟨w', hrun, r1, r2⟩ := h.put hk u hn
  unfold Oper.wp
  simp [execOp, hop, hm, hx, hv, hrun, Result.andThen]
  exact hK' _ _ (hK w' r1 r2)
/-- A hash goes out of the map. -/
theorem wpList_delH {w : World} {ops : Array Oper} {rest : List Oper} {o : Oper} {a : Act} {Q : Exit → Act → World → Prop} (hg : o.guard = none) (m x : Operand) (hop : o.op = Op.call { callee := Callee.builtin Builtin.delete, args := #[m, x], argTypes := #[66, 29] })
    {mb n : Nat} {f : Nat → Option Value} (h : MapH w mb n f) (k : Nat) (hk : k < 18446744073709551616) (hm : a.eval m = .map (some mb)) (hx : a.eval x = .int .u64 (k : Int))
    (hK : ∀ w', MapH w' mb n (fun x => if x = k then none else f x) → Chg [mb] w w' → wpList Try.prog ops Q rest (a.put o.dst (.tuple #[])) w') : wpList Try.prog ops Q (o :: rest) a w := by
  obtain ⟨D, h0, hsz, h1, h2⟩ := h
  have ht := h0.tidy lawH
  refine wpList_delete_own w hg m x 66 29 hop 75 lawH Try.underlying66 rawE mb (Maps.size D) D hm h0 _ _ hx (key_u64 hk) fun w' h3 h4 => ?_
  refine hK w' ⟨_, owns_tightH h3, ?_, fun x => ?_, fun x c hx z => ?_⟩ (chg_turnedH h4)
  · have := size_del (k := .int .u64 (k : Int)) ht
    omega
  · by_cases e : x = k
    · subst e; rw [has_del_same]; simp only [if_true, Option.isSome_none]
    · rw [has_del_other (litH_ne e)]; dsimp only; rw [if_neg e, h1]
  · by_cases e : x = k
    · subst e
      dsimp only at hx
      rw [if_pos rfl] at hx
      cases hx
    · dsimp only at hx
      rw [if_neg e] at hx
      rw [atKey_del_other (litH_ne e)]
      exact h2 x c hx z

/-- A slot's seven cells. -/
structure EnV where
  q : Qn
  code : Int
  sv : Value
  ov : Value
  til : Int
def eV (e : EnV) : List Value := [.string e.q.nm, .int .u16 (e.q.ty : Nat), .int .u16 (e.q.cl : Nat), .int .u8 e.code, e.sv, e.ov, .int .i64 e.til]
theorem eV_len (e : EnV) : (eV e).length = 7 := rfl
def e0 : EnV := ⟨⟨⟨#[]⟩, 0, 0⟩, 0, .slice none 0 0, .slice none 0 0, 0⟩
def eRow (es : List EnV) (tl : List Value) : Array Value := (es.flatMap eV ++ tl).toArray
theorem eRow_get {es : List EnV} {tl : List Value} {s : Nat} (h : s < es.length) {j : Nat} {u : Value} (hu : (eV es[s])[j]? = some u) : (eRow es tl)[s * 7 + j]? = some u := by
  have hj : j < 7 := by
    rcases Nat.lt_or_ge j 7 with hh | hh
    · exact hh
    · rw [List.getElem?_eq_none (by rw [eV_len]; exact hh)] at hu; cases hu
  unfold eRow
  have hl : s * 7 + j < (es.flatMap eV).length := by rw [R.flat_len eV 7 eV_len]; omega
  rw [List.getElem?_toArray, List.getElem?_append_left hl, R.flat_get eV 7 eV_len es s h j hj]
  exact hu
theorem eRow_set {es : List EnV} {tl : List Value} {s : Nat} (h : s < es.length) {j : Nat} (hj : j < 7) {u : Value} {e : EnV} (he : (eV es[s]).set j u = eV e) : (eRow es tl).setIfInBounds (s * 7 + j) u = eRow (es.set s e) tl := by
  unfold eRow
  have hl : s * 7 + j < (es.flatMap eV).length := by rw [R.flat_len eV 7 eV_len]; omega
  rw [List.setIfInBounds_toArray, List.set_append_left _ _ hl, flat_set eV 7 eV_len e j u hj es s h he]
/-- A slot is written whole. -/
def wset7 (w : World) (eb i : Nat) (e : EnV) : World :=
  ((((((w.setCell ⟨eb, i, none⟩ (.string e.q.nm)).setCell ⟨eb, i + 1, none⟩ (.int .u16 (e.q.ty : Nat))).setCell ⟨eb, i + 2, none⟩ (.int .u16 (e.q.cl : Nat))).setCell ⟨eb, i + 3, none⟩ (.int .u8 e.code)).setCell ⟨eb, i + 4, none⟩ e.sv).setCell ⟨eb, i + 5, none⟩ e.ov).setCell ⟨eb, i + 6, none⟩ (.int .i64 e.til)
theorem wset7_chg (w : World) (eb i : Nat) (e : EnV) : Chg [eb] w (wset7 w eb i e) := by
  unfold wset7
  exact (((((((Chg.refl _ w).setCell (.inl (by simp)) _).setCell (.inl (by simp)) _).setCell (.inl (by simp)) _).setCell (.inl (by simp)) _).setCell (.inl (by simp)) _).setCell (.inl (by simp)) _).setCell (.inl (by simp)) _
theorem wset7_heap {w : World} {eb s : Nat} {es : List EnV} {tl : List Value} {t : TypeId} (h : w.heap[eb]? = some (.cells (eRow es tl) t (0, 0))) (hs : s < es.length) (e : EnV) : (wset7 w eb (s * 7) e).heap[eb]? = some (.cells (eRow (es.set s e) tl) t (0, 0)) := by
  unfold wset7
  rw [heap_set (heap_set (heap_set (heap_set (heap_set (heap_set (heap_set h _) _) _) _) _) _) _]
  obtain ⟨x, hx⟩ : ∃ x, x = es[s] := ⟨_, rfl⟩
  have e1 : (eRow es tl).setIfInBounds (s * 7) (.string e.q.nm) = eRow (es.set s ⟨⟨e.q.nm, x.q.ty, x.q.cl⟩, x.code, x.sv, x.ov, x.til⟩) tl := eRow_set (j := 0) hs (by omega) (by rw [← hx]; rfl)
  rw [e1]
  have key : ∀ (x y : EnV) (j : Nat) (u : Value), j < 7 → (eV x).set j u = eV y → (eRow (es.set s x) tl).setIfInBounds (s * 7 + j) u = eRow (es.set s y) tl := by
    intro x y j u h2 h3
    rw [eRow_set (by simpa using hs) h2 (e := y) (by rw [List.getElem_set_self]; exact h3), List.set_set]
  rw [key ⟨⟨e.q.nm, x.q.ty, x.q.cl⟩, x.code, x.sv, x.ov, x.til⟩ ⟨⟨e.q.nm, e.q.ty, x.q.cl⟩, x.code, x.sv, x.ov, x.til⟩ 1 (.int .u16 (e.q.ty : Nat)) (by omega) rfl,
    key ⟨⟨e.q.nm, e.q.ty, x.q.cl⟩, x.code, x.sv, x.ov, x.til⟩ ⟨⟨e.q.nm, e.q.ty, e.q.cl⟩, x.code, x.sv, x.ov, x.til⟩ 2 (.int .u16 (e.q.cl : Nat)) (by omega) rfl,
    key ⟨⟨e.q.nm, e.q.ty, e.q.cl⟩, x.code, x.sv, x.ov, x.til⟩ ⟨⟨e.q.nm, e.q.ty, e.q.cl⟩, e.code, x.sv, x.ov, x.til⟩ 3 (.int .u8 e.code) (by omega) rfl,
    key ⟨⟨e.q.nm, e.q.ty, e.q.cl⟩, e.code, x.sv, x.ov, x.til⟩ ⟨⟨e.q.nm, e.q.ty, e.q.cl⟩, e.code, e.sv, x.ov, x.til⟩ 4 e.sv (by omega) rfl,
    key ⟨⟨e.q.nm, e.q.ty, e.q.cl⟩, e.code, e.sv, x.ov, x.til⟩ ⟨⟨e.q.nm, e.q.ty, e.q.cl⟩, e.code, e.sv, e.ov, x.til⟩ 5 e.ov (by omega) rfl,
    key ⟨⟨e.q.nm, e.q.ty, e.q.cl⟩, e.code, e.sv, e.ov, x.til⟩ e 6 (.int .i64 e.til) (by omega) rfl]

theorem ne_of_type {w : World} {a b : Nat} {c c' : Array Value} {t t' : TypeId} {f f' : Nat × Nat} (h : w.heap[a]? = some (.cells c t f)) (h' : w.heap[b]? = some (.cells c' t' f')) (ht : t ≠ t') : a ≠ b := by
  rintro rfl
  rw [h] at h'
  injection h' with h'
  injection h' with _ h'
  exact ht h'

end Go.Proofs.Ytgdnfempcjlipaa
