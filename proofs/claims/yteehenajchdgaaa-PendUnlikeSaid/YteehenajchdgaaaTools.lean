/- Tools for walks: the world under a name; a part of a block loaded whole; two rows of numbers held against each other. -/
import Derived.Test.YteehenajchdgaaaMem
import Derived.Laws.Rows
import Derived.Laws.StructEq
import Derived.ChangeKeysEq
import Derived.Laws.Tables
import Derived.Deep.Quiet
import Derived.BigFrame
namespace Go.Proofs.Yteehenajchdgaaa
open Go.RowKit

theorem wp_abs {P : Program} {c : Code} {Q : Exit → Act → World → Prop} {a : Act} {w : World} (h : ∀ w', w' = w → c.wp P Q a w') : c.wp P Q a w := h w rfl
theorem calls_abs {P : Program} {f : FuncId} {args : Array Value} {w : World} {R : Ending → World → Prop} (h : ∀ w', w' = w → Calls P f args w' R) : Calls P f args w R := h w rfl

theorem cell_set_some' {w : World} {p q : Addr} {x v : Value} (h : w.cell? q = some v) : ∃ v', (w.setCell p x).cell? q = some v' := by
  by_cases e : p = q
  · subst e; exact ⟨x, World.cell?_setCell_same w p x h⟩
  · exact ⟨v, (World.cell?_setCell_other w p q x e).trans h⟩

theorem owns_none (w : World) (t : TypeId) : (w.alloc (.cells #[] t)).ownsRow w.heap.size t 1 (.slice (some ⟨w.heap.size, 0, none⟩) 0 0) 0 [] :=
  ⟨rfl, .inr ⟨w.heap.size, 0, #[], rfl, Nat.le_refl _, heap_new _ _, Nat.le_refl _, Nat.zero_le _, rfl, rfl⟩⟩
/-- A row of the call's own is nil only if it is written so. -/
theorem owns_nil {w : World} {base : Nat} {t : TypeId} {sz : Nat} {a : Option Addr} {n c : Nat} {xs : List Value} (h : w.ownsRow base t sz (.slice a n c) n xs) : (a = none → c = 0) ∧ (n ≠ 0 → a ≠ none) := by
  obtain ⟨_, h⟩ := h
  rcases h with ⟨hv, hn⟩ | ⟨g, cap, cur, hv, _⟩
  · cases hv; exact ⟨fun _ => rfl, fun hh => absurd hn hh⟩
  · cases hv
    exact ⟨(fun hh => by simp at hh), (fun _ hh => by simp at hh)⟩

/-- append onto a row of the call's own, behind a guard that lets it come up. -/
theorem wpList_append_want {P : Program} {w : World} {ops : Array Oper} {rest : List Oper} {o : Oper} {a : Act} {Q : Exit → Act → World → Prop} (hw : Region.wanted o (yielded ops a.tmps) = true) (s x : Operand) (t : TypeId)
    (ho : o.op = .call { callee := .builtin .append, args := #[s, x], argTypes := #[t, t] })
    (base : Nat) (e : TypeId) (i : TypeInfo) (z : Value) (size bytes : Nat) (ht : P.underlying t = some (.slice e)) (hi : P.info? e = some i) (hz : i.zero = some z)
    (hsize : i.size = size) (hby : i.bytes = bytes) (hzs : z.cells.size = size) (hsz : 0 < size)
    (v : Value) (n : Nat) (xs : List Value) (hs : a.eval s = v) (hown : w.ownsRow base e size v n xs)
    (ad : Option Addr) (m c : Nat) (news : List Value) (hx : a.eval x = .slice ad m c) (hnone : ad = none → c = 0) (hsome : news ≠ [] → ad ≠ none) (hl : news.length = m * size)
    (hnews : ∀ p, ad = some p → ∀ j u, news[j]? = some u → w.cell? (p.add j) = some u) (h1 : ∀ u ∈ news, u.oneCell' = true)
    (h63 : n + m ≤ maxLen) (hbytes : (n + m) * bytes ≤ 140737488355328) (hbase : base ≤ w.heap.size)
    (h : ∀ v' w', w'.ownsRow base e size v' (n + m) (xs ++ news) → w.grownBy w' v.ownBlock → (v ≠ .slice none 0 0 → v' ≠ .slice none 0 0) → wpList P ops Q rest (a.put o.dst v') w') : wpList P ops Q (o :: rest) a w := by
  refine BigFrame.wpList_want hw fun K hK => ?_
  cases ad with
  | none =>
    have hne : news = [] := Classical.byContradiction fun hh => hsome hh rfl
    have hc : c = 0 := hnone rfl
    subst hne; subst hc
    have hm : m = 0 := by
      rw [List.length_nil] at hl
      rcases Nat.mul_eq_zero.1 hl.symm with h | h
      · exact h
      · omega
    subst hm
    have hrun := run_append_owned_none (P := P) (w := w) base t o.type e i size ht hi v n xs hown
    unfold Oper.wp
    simp [execOp, ho, resolve, invoke, builtin, hs, hx, hrun, Result.andThen]
    exact hK _ _ (h v w (by simpa using hown) ⟨rfl, rfl, rfl, Nat.le_refl _, fun _ _ _ => rfl⟩ fun hh => hh)
  | some p =>
    exact wp_append_own _ s x t ho base e i z size bytes ht hi hz hsize hby hzs hsz v n xs hs hown p m c news hx hl (hnews p rfl) h1 h63 hbytes hbase fun v' w' ho hg hiff => hK _ _ (h v' w' ho hg fun hh h' => hh (hiff.1 h').1)

/-- append onto a row of the call's own, as one step of a region that draws. -/
theorem step_append_src {P : Program} {w : World} {ops : Array Oper} {o : Oper} {a : Act} {K : Act → World → Prop} {Q : Exit → Act → World → Prop} {E : Prop} (hgd : o.guard = none) (s x : Operand) (t : TypeId)
    (ho : o.op = .call { callee := .builtin .append, args := #[s, x], argTypes := #[t, t] })
    (base : Nat) (e : TypeId) (i : TypeInfo) (z : Value) (size bytes : Nat) (ht : P.underlying t = some (.slice e)) (hi : P.info? e = some i) (hz : i.zero = some z)
    (hsize : i.size = size) (hby : i.bytes = bytes) (hzs : z.cells.size = size) (hsz : 0 < size)
    (v : Value) (n : Nat) (xs : List Value) (hs : a.eval s = v) (hown : w.ownsRow base e size v n xs)
    (ad : Option Addr) (m c : Nat) (news : List Value) (hx : a.eval x = .slice ad m c) (hnone : ad = none → c = 0) (hsome : news ≠ [] → ad ≠ none) (hl : news.length = m * size)
    (hnews : ∀ p, ad = some p → ∀ j u, news[j]? = some u → w.cell? (p.add j) = some u) (h1 : ∀ u ∈ news, u.oneCell' = true)
    (h63 : n + m ≤ maxLen) (hbytes : (n + m) * bytes ≤ 140737488355328) (hbase : base ≤ w.heap.size)
    (h : ∀ v' w', w'.ownsRow base e size v' (n + m) (xs ++ news) → w.grownBy w' v.ownBlock → (v ≠ .slice none 0 0 → v' ≠ .slice none 0 0) → K (a.put o.dst v') w') :
    if Region.wanted o (yielded ops a.tmps) = true then Oper.wp P o a w K Q else E := by
  have hw : Region.wanted o (yielded ops a.tmps) = true := by simp [Region.wanted, hgd]
  rw [if_pos hw]
  cases ad with
  | none =>
    have hne : news = [] := Classical.byContradiction fun hh => hsome hh rfl
    have hc : c = 0 := hnone rfl
    subst hne; subst hc
    have hm : m = 0 := by
      rw [List.length_nil] at hl
      rcases Nat.mul_eq_zero.1 hl.symm with h | h
      · exact h
      · omega
    subst hm
    have hrun := run_append_owned_none (P := P) (w := w) base t o.type e i size ht hi v n xs hown
    unfold Oper.wp
    simp [execOp, ho, resolve, invoke, builtin, hs, hx, hrun, Result.andThen]
    exact h v w (by simpa using hown) ⟨rfl, rfl, rfl, Nat.le_refl _, fun _ _ _ => rfl⟩ fun hh => hh
  | some p =>
    exact wp_append_own _ s x t ho base e i z size bytes ht hi hz hsize hby hzs hsz v n xs hs hown p m c news hx hl (hnews p rfl) h1 h63 hbytes hbase fun v' w' ho hg hiff => h v' w' ho hg fun hh h' => hh (hiff.1 h').1

section
variable {P : Program} {w : World}

theorem add_at (g o j : Nat) : (⟨g, o, none⟩ : Addr).add j = ⟨g, o + j, none⟩ := by unfold Addr.add; split <;> simp_all

/-- An aggregate loaded out of the middle of a block. -/
theorem run_load_part (ty : TypeId) (g o : Nat) (vs : List Value) (d : TypeDesc) (hu : P.underlying ty = some d) (hd : (match d with | .struct _ | .array _ _ => true | _ => false) = true)
    (hi : (P.info? ty).map (·.size) = some vs.length) (hc : ∀ j v, vs[j]? = some v → w.cell? ⟨g, o + j, none⟩ = some v) :
    (Instr.loadAt ty (.pointer (some ⟨g, o, none⟩))).run P w = .ok (.agg vs.toArray) w := by
  have hl : (loadCells ⟨g, o, none⟩ vs.length).run P w = .ok vs.toArray w :=
    run_loadCells_list (P := P) w ⟨g, o, none⟩ vs fun j v hv => by rw [add_at]; exact hc j v hv
  cases hq : P.info? ty with
  | none => simp [hq] at hi
  | some i =>
    have hs : i.size = vs.length := by simpa [hq] using hi
    have hagg : (isAgg ty).run P w = .ok true w := by
      unfold isAgg
      rw [Sem.run_bind, run_underlying hu w]
      cases d <;> simp_all
    simp only [Instr.loadAt, Instr.sureAddr, Sem.run_bind, Sem.run_pure, Result.andThen_ok]
    simp [loadVar, Sem.run_bind, hagg, sizeOf, typeInfo, hq, hs, hl]

/-- Cells loaded out of the middle of a block. -/
theorem run_cells_part (g o n : Nat) (vs : List Value) (hn : vs.length = n) (hc : ∀ j v, vs[j]? = some v → w.cell? ⟨g, o + j, none⟩ = some v) :
    (loadCellsFrom ⟨g, o, none⟩ 0 n #[]).run P w = .ok vs.toArray w := by
  subst hn
  exact run_loadCells_list (P := P) w ⟨g, o, none⟩ vs fun j v hv => by rw [add_at]; exact hc j v hv

/-- A load whose answer is known. -/
theorem wpList_load_known {ops : Array Oper} {rest : List Oper} {o : Oper} {a : Act} {Q : Exit → Act → World → Prop} (hgd : o.guard = none) (ty : TypeId) (x : Operand) (ho : o.op = .load ty x)
    (p v : Value) (hx : a.eval x = p) (hrun : (Instr.loadAt ty p).run P w = .ok v w) (h : wpList P ops Q rest (a.put o.dst v) w) : wpList P ops Q (o :: rest) a w :=
  wpList_plain hgd fun _ hK => by
    unfold Oper.wp execOp
    simp only [ho, hx, Sem.run_bind, hrun, Result.andThen_ok, Sem.run_pure]
    exact hK _ _ h

/-- A load in a region that only reads, its answer known. -/
theorem quiet_load_known {o : Oper} {a : Act} {C : World → Prop} {K : Act → Prop} (ty : TypeId) (x : Operand) (ho : o.op = .load ty x) (p v : Value) (hx : a.eval x = p)
    (hrun : ∀ w, C w → (Instr.loadAt ty p).run P w = .ok v w) (hk : K (a.put o.dst v)) : o.quiet P a C K :=
  ⟨v, fun w hw => by
    unfold Oper.quietAt execOp
    simp only [ho, hx, Sem.run_bind, hrun w hw, Result.andThen_ok, Sem.run_pure]
    exact ⟨rfl, rfl⟩, hk⟩

/-- Two arrays of numbers: are they the same? -/
theorem run_equal_rows (d : Nat) (t e : TypeId) (n : Nat) (k : IntKind) (i : TypeInfo) (l m : List Nat) (hu : P.underlying t = some (.array n e)) (he : P.underlying e = some (.int k)) (hi : P.info? e = some i) (hs : i.size = 1)
    (hl : l.length = n) (hm : m.length = n) :
    (Op.equalIn (d + 2) t (.agg (rowI k l)) (.agg (rowI k m))).run P w = .ok (decide (l = m)) w := by
  rw [run_equalIn_array w (d + 1) _ _ hu hi]
  have hc : P.cellsOf e = 1 := by simp [Program.cellsOf, hi, hs]
  rw [hc]
  have key : ∀ (is : List Nat), (∀ j ∈ is, j < n) → (Op.eqItems (d + 1) e 1 (rowI k l) (rowI k m) is).run P w = .ok (is.all fun j => l.getD j 0 == m.getD j 0) w := by
    intro is
    induction is with
    | nil => intro _; simp [Op.eqItems]
    | cons j is ih =>
      intro hj
      have hjn : j < n := hj j (by simp)
      have pa : ∀ (l : List Nat), l.length = n → (part e (rowI k l) (j * 1)).run P w = .ok (.int k (l.getD j 0 : Nat)) w := by
        intro l hl
        have : (rowI k l)[j]? = some (.int k (l.getD j 0 : Nat)) := by
          rw [rowI_get k l j (by omega)]; simp [show j < l.length by omega]
        simp [part, isAgg, run_underlying he, this]
      simp only [Op.eqItems, Sem.run_bind, pa l hl, pa m hm, Result.andThen_ok, run_equalIn_int w d e k k _ _ he, List.all_cons]
      by_cases h : l.getD j 0 = m.getD j 0
      · have e1 : ((l.getD j 0 : Int) == (m.getD j 0 : Int)) = true := by rw [h]; simp
        rw [e1, h]
        simp only [Bool.not_true, Bool.false_eq_true, if_false, beq_self_eq_true, Bool.true_and]
        exact ih fun x hx => hj x (by simp [hx])
      · have e1 : ((l.getD j 0 : Int) == (m.getD j 0 : Int)) = false := by simp only [beq_eq_false_iff_ne]; omega
        rw [e1]
        have e2 : (l.getD j 0 == m.getD j 0) = false := by simpa using h
        rw [e2]
        simp
  rw [key (List.range n) (fun j hj => by simpa using hj)]
  congr 1
  rw [Bool.eq_iff_iff]
  simp only [List.all_eq_true, List.mem_range, beq_iff_eq, decide_eq_true_eq]
  constructor
  · intro h
    apply List.ext_getElem (by omega)
    intro j h1 h2
    have := h j (by omega)
    simpa [h1, h2] using this
  · rintro rfl j _; rfl
end

end Go.Proofs.Yteehenajchdgaaa
