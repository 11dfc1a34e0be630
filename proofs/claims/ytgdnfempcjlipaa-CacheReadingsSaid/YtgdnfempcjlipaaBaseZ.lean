/- Memory: which blocks a call may have changed (Chg), and slices of integers that lie in one block (Nums). Plain facts about worlds. Tools for walks: the world under a name; a part of a block loaded whole; two rows of numbers held against each other. Rows of numbers of the call's own. Rows of records of the call's own: what lies where, what append reads of them. No program in sight. A slice of structs that came in, field by field: each field of each element lies in a cell that reads as the field's type. A region that draws, whose last operation stores what the others read: what the others read may be taken first. -/
import Derived.WalkKit
import Derived.OneCell
import Derived.Deep.Draws
import Derived.Lib.Hide
import Derived.Laws.AppendOwnNone
import Derived.Laws.Rows
import Derived.Laws.StructEq
import Derived.ChangeKeysEq
import Derived.Laws.Tables
import Derived.Deep.Quiet
import Derived.BigFrame
import Derived.Test.YtgdnfempcjlipaaChecked
import Derived.WalkSpells
import Derived.WalkSmall
import Derived.Deep.Slices
import Derived.OpenShut
import Derived.Deep.RegionHeld3

namespace Go.Proofs.Ytgdnfempcjlipaa
open Go.RowKit

/-- Of the blocks that were there, only those of S may have changed. -/
structure Chg (S : List Nat) (w w' : World) : Prop where
  os : w'.os = w.os
  tape : w'.tape = w.tape
  output : w'.output = w.output
  size : w.heap.size ≤ w'.heap.size
  block : ∀ k, k < w.heap.size → k ∉ S → w'.heap[k]? = w.heap[k]?

set_option maxRecDepth 100000 in
theorem Chg.refl (S : List Nat) (w : World) : Chg S w w := ⟨rfl, rfl, rfl, Nat.le_refl _, fun _ _ _ => rfl⟩
set_option maxRecDepth 100000 in
theorem Chg.trans {S : List Nat} {a b c : World} (h : Chg S a b) (k : Chg S b c) : Chg S a c :=
  ⟨k.os.trans h.os, k.tape.trans h.tape, k.output.trans h.output, Nat.le_trans h.size k.size,
   fun i hi hs => (k.block i (Nat.lt_of_lt_of_le hi h.size) hs).trans (h.block i hi hs)⟩
set_option maxRecDepth 100000 in
theorem Chg.mono {S T : List Nat} {w w' : World} (h : Chg S w w') (hS : ∀ x ∈ S, x ∈ T) : Chg T w w' :=
  ⟨h.os, h.tape, h.output, h.size, fun k hk hs => h.block k hk fun hx => hs (hS k hx)⟩
set_option maxRecDepth 100000 in
/-- Changes of blocks that did not exist when the first world stood do not count. -/
theorem Chg.trans_new {S T : List Nat} {a b c : World} (h : Chg S a b) (k : Chg T b c) (hT : ∀ x ∈ T, x ∈ S ∨ a.heap.size ≤ x) : Chg S a c :=
  ⟨k.os.trans h.os, k.tape.trans h.tape, k.output.trans h.output, Nat.le_trans h.size k.size,
   fun i hi hs => (k.block i (Nat.lt_of_lt_of_le hi h.size) (fun hx => by rcases hT i hx with hh | hh; exact hs hh; omega)).trans (h.block i hi hs)⟩
set_option maxRecDepth 100000 in
theorem Chg.drew {S : List Nat} {a w : World} (h : Chg S a w) : Chg S a w.drew := ⟨h.os, h.tape, h.output, h.size, h.block⟩
set_option maxRecDepth 100000 in
theorem Chg.drewN {S : List Nat} {a w : World} (h : Chg S a w) (n : Nat) : Chg S a (w.drewN n) := ⟨h.os, h.tape, h.output, h.size, h.block⟩
set_option maxRecDepth 100000 in
theorem Chg.undrew {S : List Nat} {a w : World} (h : Chg S a.drew w) : Chg S a w := ⟨h.os, h.tape, h.output, h.size, h.block⟩
set_option maxRecDepth 100000 in
theorem Chg.undrewN {S : List Nat} {a w : World} {n : Nat} (h : Chg S (a.drewN n) w) : Chg S a w := ⟨h.os, h.tape, h.output, h.size, h.block⟩
set_option maxRecDepth 100000 in
theorem Chg.alloc {S : List Nat} {a w : World} (h : Chg S a w) (o : Obj) : Chg S a (w.alloc o) :=
  h.trans ⟨rfl, rfl, rfl, by simp, fun k hk _ => Below.heap_alloc _ _ _ (by omega)⟩
set_option maxRecDepth 100000 in
theorem Chg.setCell {S : List Nat} {a w : World} (h : Chg S a w) {p : Addr} (hp : p.block ∈ S ∨ a.heap.size ≤ p.block) (u : Value) : Chg S a (w.setCell p u) :=
  ⟨h.os, h.tape, h.output, by simpa using h.size, fun k hk hs => by
    rw [Below.heap_setCell _ _ _ _ (fun e => by subst e; rcases hp with hh | hh; exact hs hh; omega)]; exact h.block k hk hs⟩
set_option maxRecDepth 100000 in
theorem Chg.set1 (w : World) (b i : Nat) (v : Value) : Chg [b] w (w.setCell ⟨b, i, none⟩ v) := (Chg.refl [b] w).setCell (.inl (List.mem_singleton.2 rfl)) v
set_option maxRecDepth 100000 in
theorem Chg.below {S : List Nat} {w w' : World} (h : Chg S w w') {B : Nat} (hB : B ≤ w.heap.size) (hS : ∀ x ∈ S, B ≤ x) : Below B w w' :=
  ⟨h.os, h.tape, h.output, h.size, fun k hk => h.block k (by omega) fun hx => by have := hS k hx; omega⟩
set_option maxRecDepth 100000 in
theorem Chg.of_below {S : List Nat} {w w' : World} (h : Below w.heap.size w w') : Chg S w w' := ⟨h.os, h.tape, h.output, h.size, fun k hk _ => h.block k hk⟩
set_option maxRecDepth 100000 in
theorem Chg.keep {S : List Nat} {w w' : World} (h : Chg S w w') {k : Nat} {o : Obj} (ho : w.heap[k]? = some o) (hk : k ∉ S) : w'.heap[k]? = some o := by
  rw [h.block k (lt_of_block ho) hk]; exact ho
set_option maxRecDepth 100000 in
theorem Chg.grown {S : List Nat} {a w w' : World} {row : Option Nat} (h : Chg S a w) (hg : w.grownBy w' row) (hr : ∀ k, row = some k → k ∈ S ∨ a.heap.size ≤ k) : Chg S a w' :=
  ⟨hg.os.trans h.os, hg.tape.trans h.tape, hg.output.trans h.output, Nat.le_trans h.size hg.size, fun k hk hs => by
    rw [hg.block k (by have := h.size; omega) (fun e => by rcases hr k e.symm with hh | hh; exact hs hh; omega)]; exact h.block k hk hs⟩

set_option maxRecDepth 100000 in
theorem Chg.cell {S : List Nat} {w w' : World} (h : Chg S w w') {p : Addr} {v : Value} (hv : w.cell? p = some v) (hp : p.block ∉ S) : w'.cell? p = some v := by
  rw [World.cell?_of_block (w := w) (h.block _ (World.block_lt_of_cell? _ _ hv) hp)]; exact hv
set_option maxRecDepth 100000 in
theorem heap_new (w : World) (o : Obj) : (w.alloc o).heap[w.heap.size]? = some o := by
  show (w.heap.push o)[w.heap.size]? = _
  simp
set_option maxRecDepth 100000 in
theorem heap_new' (w : World) (o : Obj) (n : Nat) (h : n = w.heap.size) : (w.alloc o).heap[n]? = some o := by
  subst h; exact heap_new w o
set_option maxRecDepth 100000 in
theorem heap_old {w : World} {o p : Obj} {k : Nat} (h : w.heap[k]? = some p) : (w.alloc o).heap[k]? = some p := by
  rw [Below.heap_alloc _ _ _ (lt_of_block h)]; exact h
set_option maxRecDepth 100000 in
theorem heap_set {w : World} {b i : Nat} {c : Array Value} {t : TypeId} {f : Nat × Nat} (h : w.heap[b]? = some (.cells c t f)) (v : Value) :
    (w.setCell ⟨b, i, none⟩ v).heap[b]? = some (.cells (c.setIfInBounds i v) t f) := by
  have hlt := lt_of_block h
  have h' : w.heap[b] = .cells c t f := by simpa [Array.getElem?_eq_getElem hlt] using h
  show (w.heap.modify b _)[b]? = _
  rw [Array.getElem?_eq_getElem (by simpa using hlt), Array.getElem_modify_self, h']
  rfl
set_option maxRecDepth 100000 in
theorem heap_set_other {w : World} {b i k : Nat} (v : Value) (h : k ≠ b) : (w.setCell ⟨b, i, none⟩ v).heap[k]? = w.heap[k]? :=
  Below.heap_setCell _ _ _ _ h
set_option maxRecDepth 100000 in
theorem cell_of {w : World} {b i : Nat} {c : Array Value} {t : TypeId} {f : Nat × Nat} (h : w.heap[b]? = some (.cells c t f)) : w.cell? ⟨b, i, none⟩ = c[i]? := by simp [World.cell?, h]
set_option maxRecDepth 100000 in
theorem free_of {w : World} {b i : Nat} {c : Array Value} {t : TypeId} (h : w.heap[b]? = some (.cells c t (0, 0))) : w.frozen? ⟨b, i, none⟩ = false := by simp [World.frozen?, h]

/-- What is known of a slice of integers that came in: it is nil; or it leads to a row of 'cap' cells, the numbers 'zs', of which the first 'len' are its elements. -/
def IsRow (k : IntKind) (w : World) (a : Option Addr) (len cap : Nat) (zs : List Int) : Prop :=
  (a = none ∧ len = 0 ∧ cap = 0 ∧ zs = []) ∨
  ∃ x, a = some x ∧ len ≤ cap ∧ cap ≤ maxLen ∧ zs.length = cap ∧ (∀ i, i < zs.length → w.cell? (x.add i) = some (.int k (zs.getD i 0))) ∧ ∀ n ∈ zs, (Lit.int k n).wf = true

set_option maxRecDepth 100000 in
theorem drew2 (w : World) (m q : Nat) : (w.drewN m).drewN q = w.drewN (m + q) := by simp [World.drewN, Nat.add_assoc]

set_option maxRecDepth 100000 in
/-- append onto a row of the call's own, from whatever source: one that is nil, or one whose cells are known. -/
theorem wpList_append_src {P : Program} {w : World} {ops : Array Oper} {rest : List Oper} {o : Oper} {a : Act} {Q : Exit → Act → World → Prop} (hgd : o.guard = none) (s x : Operand) (t : TypeId)
    (ho : o.op = .call { callee := .builtin .append, args := #[s, x], argTypes := #[t, t] })
    (base : Nat) (e : TypeId) (i : TypeInfo) (z : Value) (size bytes : Nat) (ht : P.underlying t = some (.slice e)) (hi : P.info? e = some i) (hz : i.zero = some z)
    (hsize : i.size = size) (hby : i.bytes = bytes) (hzs : z.cells.size = size) (hsz : 0 < size)
    (v : Value) (n : Nat) (xs : List Value) (hs : a.eval s = v) (hown : w.ownsRow base e size v n xs)
    (ad : Option Addr) (m c : Nat) (news : List Value) (hx : a.eval x = .slice ad m c) (hnone : ad = none → c = 0) (hsome : news ≠ [] → ad ≠ none) (hl : news.length = m * size)
    (hnews : ∀ p, ad = some p → ∀ j u, news[j]? = some u → w.cell? (p.add j) = some u) (h1 : ∀ u ∈ news, u.oneCell' = true)
    (h63 : n + m ≤ maxLen) (hbytes : (n + m) * bytes ≤ 140737488355328) (hbase : base ≤ w.heap.size)
    (h : ∀ v' w', w'.ownsRow base e size v' (n + m) (xs ++ news) → w.grownBy w' v.ownBlock → (v ≠ .slice none 0 0 → v' ≠ .slice none 0 0) → wpList P ops Q rest (a.put o.dst v') w') : wpList P ops Q (o :: rest) a w := by
  cases ad with
  | none =>
    have hne : news = [] := Classical.byContradiction fun hh => hsome hh rfl
    have hc : c = 0 := hnone rfl
    subst hne; subst hc
    have hm : m = 0 := by
      rw [List.length_nil] at hl
      rcases Nat.mul_eq_zero.1 hl.symm with h | h
      · exact h
      · omega
    subst hm
    refine wpList_append_own_none hgd s x t ho base e i size ht hi v n xs hs hown hx (h v w (by simpa using hown) ⟨rfl, rfl, rfl, Nat.le_refl _, fun _ _ _ => rfl⟩ fun hh => hh)
  | some p =>
    exact wpList_append_own _ hgd s x t ho base e i z size bytes ht hi hz hsize hby hzs hsz v n xs hs hown p m c news hx hl (hnews p rfl) h1 h63 hbytes hbase fun v' w' ho hg hiff => h v' w' ho hg fun hh h' => hh (hiff.1 h').1

/-- The cells of a row of numbers. -/
def rowI (k : IntKind) (l : List Nat) : Array Value := (l.map fun (x : Nat) => Value.int k x).toArray
set_option maxRecDepth 100000 in
theorem rowI_get (k : IntKind) (l : List Nat) (i : Nat) (h : i < l.length) : (rowI k l)[i]? = some (.int k (l[i] : Nat)) := by simp [rowI, h]
set_option maxRecDepth 100000 in
theorem rowI_size (k : IntKind) (l : List Nat) : (rowI k l).size = l.length := by simp [rowI]
set_option maxRecDepth 100000 in
theorem rowI_set (k : IntKind) (l : List Nat) (i x : Nat) : (rowI k l).setIfInBounds i (.int k (x : Nat)) = rowI k (l.set i x) := by
  simp [rowI, List.map_set]
set_option maxRecDepth 100000 in
theorem run_make_ints {P : Program} (w : World) (t e : TypeId) (k : IntKind) (n : Nat) (by_ : Nat) (ht : P.underlying t = some (.slice e))
    (hi : (P.info? e).map (fun i => (i.zero, i.size, i.bytes)) = some (some (.int k 0), 1, by_)) (hn : by_ * n ≤ 1000000000) (hn2 : n ≤ 1000000000) :
    (Instr.makeSlice t (.int .i64 (n : Int)) (.int .i64 (n : Int))).run P w = .ok (.slice (some ⟨w.heap.size, 0, none⟩) n n) (w.alloc (.cells (rowI k (List.replicate n 0)) e)) := by
  obtain ⟨i0, hi, hz0, hz1, hz2⟩ := info_parts hi
  have hb : (i0.bytes : Int) * (n : Int) ≤ 281474976710656 := by
    rw [hz2]
    have : ((by_ * n : Nat) : Int) ≤ 281474976710656 := by omega
    rwa [Int.natCast_mul] at this
  have hr := run_make (P := P) w t e i0 _ ht hi hz0 .i64 .i64 n n (by omega) (by omega) hb (by omega)
  rw [hr, hz1]
  have e1 : madeCells (Value.int k 0).cells ((n : Int).toNat * 1) = rowI k (List.replicate n 0) := by
    apply Array.ext
    · simp [madeCells, rowI]
    · intro i h1 h2
      simp [madeCells, rowI, Value.cells, Nat.mod_one]
  rw [e1]
  simp

end Go.Proofs.Ytgdnfempcjlipaa

namespace Go.Proofs.Ytgdnfempcjlipaa
open Go.RowKit

set_option maxRecDepth 100000 in
theorem wp_abs {P : Program} {c : Code} {Q : Exit → Act → World → Prop} {a : Act} {w : World} (h : ∀ w', w' = w → c.wp P Q a w') : c.wp P Q a w := h w rfl
set_option maxRecDepth 100000 in
theorem calls_abs {P : Program} {f : FuncId} {args : Array Value} {w : World} {R : Ending → World → Prop} (h : ∀ w', w' = w → Calls P f args w' R) : Calls P f args w R := h w rfl

set_option maxRecDepth 100000 in
theorem cell_set_some' {w : World} {p q : Addr} {x v : Value} (h : w.cell? q = some v) : ∃ v', (w.setCell p x).cell? q = some v' := by
  by_cases e : p = q
  · subst e; exact ⟨x, World.cell?_setCell_same w p x h⟩
  · exact ⟨v, (World.cell?_setCell_other w p q x e).trans h⟩

set_option maxRecDepth 100000 in
theorem owns_none (w : World) (t : TypeId) : (w.alloc (.cells #[] t)).ownsRow w.heap.size t 1 (.slice (some ⟨w.heap.size, 0, none⟩) 0 0) 0 [] :=
  ⟨rfl, .inr ⟨w.heap.size, 0, #[], rfl, Nat.le_refl _, heap_new _ _, Nat.le_refl _, Nat.zero_le _, rfl, rfl⟩⟩
set_option maxRecDepth 100000 in
/-- A row of the call's own is nil only if it is written so. -/
theorem owns_nil {w : World} {base : Nat} {t : TypeId} {sz : Nat} {a : Option Addr} {n c : Nat} {xs : List Value} (h : w.ownsRow base t sz (.slice a n c) n xs) : (a = none → c = 0) ∧ (n ≠ 0 → a ≠ none) := by
  obtain ⟨_, h⟩ := h
  rcases h with ⟨hv, hn⟩ | ⟨g, cap, cur, hv, _⟩
  · cases hv; exact ⟨fun _ => rfl, fun hh => absurd hn hh⟩
  · cases hv
    exact ⟨(fun hh => by simp at hh), (fun _ hh => by simp at hh)⟩

set_option maxRecDepth 100000 in
/-- append onto a row of the call's own, behind a guard that lets it come up. -/
theorem wpList_append_want {P : Program} {w : World} {ops : Array Oper} {rest : List Oper} {o : Oper} {a : Act} {Q : Exit → Act → World → Prop} (hw : Region.wanted o (yielded ops a.tmps) = true) (s x : Operand) (t : TypeId)
    (ho : o.op = .call { callee := .builtin .append, args := #[s, x], argTypes := #[t, t] })
    (base : Nat) (e : TypeId) (i : TypeInfo) (z : Value) (size bytes : Nat) (ht : P.underlying t = some (.slice e)) (hi : P.info? e = some i) (hz : i.zero = some z)
    (hsize : i.size = size) (hby : i.bytes = bytes) (hzs : z.cells.size = size) (hsz : 0 < size)
    (v : Value) (n : Nat) (xs : List Value) (hs : a.eval s = v) (hown : w.ownsRow base e size v n xs)
    (ad : Option Addr) (m c : Nat) (news : List Value) (hx : a.eval x = .slice ad m c) (hnone : ad = none → c = 0) (hsome : news ≠ [] → ad ≠ none) (hl : news.length = m * size)
    (hnews : ∀ p, ad = some p → ∀ j u, news[j]? = some u → w.cell? (p.add j) = some u) (h1 : ∀ u ∈ news, u.oneCell' = true)
    (h63 : n + m ≤ maxLen) (hbytes : (n + m) * bytes ≤ 140737488355328) (hbase : base ≤ w.heap.size)
    (h : ∀ v' w', w'.ownsRow base e size v' (n + m) (xs ++ news) → w.grownBy w' v.ownBlock → (v ≠ .slice none 0 0 → v' ≠ .slice none 0 0) → wpList P ops Q rest (a.put o.dst v') w') : wpList P ops Q (o :: rest) a w := by
  refine BigFrame.wpList_want hw fun K hK => ?_
  cases ad with
  | none =>
    have hne : news = [] := Classical.byContradiction fun hh => hsome hh rfl
    have hc : c = 0 := hnone rfl
    subst hne; subst hc
    have hm : m = 0 := by
      rw [List.length_nil] at hl
      rcases Nat.mul_eq_zero.1 hl.symm with h | h
      · exact h
      · omega
    subst hm
    have hrun := run_append_owned_none (P := P) (w := w) base t o.type e i size ht hi v n xs hown
    unfold Oper.wp
    simp [execOp, ho, resolve, invoke, builtin, hs, hx, hrun, Result.andThen]
    exact hK _ _ (h v w (by simpa using hown) ⟨rfl, rfl, rfl, Nat.le_refl _, fun _ _ _ => rfl⟩ fun hh => hh)
  | some p =>
    exact wp_append_own _ s x t ho base e i z size bytes ht hi hz hsize hby hzs hsz v n xs hs hown p m c news hx hl (hnews p rfl) h1 h63 hbytes hbase fun v' w' ho hg hiff => hK _ _ (h v' w' ho hg fun hh h' => hh (hiff.1 h').1)

set_option maxRecDepth 100000 in
/-- append onto a row of the call's own, as one step of a region that draws. -/
theorem step_append_src {P : Program} {w : World} {ops : Array Oper} {o : Oper} {a : Act} {K : Act → World → Prop} {Q : Exit → Act → World → Prop} {E : Prop} (hgd : o.guard = none) (s x : Operand) (t : TypeId)
    (ho : o.op = .call { callee := .builtin .append, args := #[s, x], argTypes := #[t, t] })
    (base : Nat) (e : TypeId) (i : TypeInfo) (z : Value) (size bytes : Nat) (ht : P.underlying t = some (.slice e)) (hi : P.info? e = some i) (hz : i.zero = some z)
    (hsize : i.size = size) (hby : i.bytes = bytes) (hzs : z.cells.size = size) (hsz : 0 < size)
    (v : Value) (n : Nat) (xs : List Value) (hs : a.eval s = v) (hown : w.ownsRow base e size v n xs)
    (ad : Option Addr) (m c : Nat) (news : List Value) (hx : a.eval x = .slice ad m c) (hnone : ad = none → c = 0) (hsome : news ≠ [] → ad ≠ none) (hl : news.length = m * size)
    (hnews : ∀ p, ad = some p → ∀ j u, news[j]? = some u → w.cell? (p.add j) = some u) (h1 : ∀ u ∈ news, u.oneCell' = true)
    (h63 : n + m ≤ maxLen) (hbytes : (n + m) * bytes ≤ 140737488355328) (hbase : base ≤ w.heap.size)
    (h : ∀ v' w', w'.ownsRow base e size v' (n + m) (xs ++ news) → w.grownBy w' v.ownBlock → (v ≠ .slice none 0 0 → v' ≠ .slice none 0 0) → K (a.put o.dst v') w') :
    if Region.wanted o (yielded ops a.tmps) = true then Oper.wp P o a w K Q else E := by
  have hw : Region.wanted o (yielded ops a.tmps) = true := by simp [Region.wanted, hgd]
  rw [if_pos hw]
  cases ad with
  | none =>
    have hne : news = [] := Classical.byContradiction fun hh => hsome hh rfl
    have hc : c = 0 := hnone rfl
    subst hne; subst hc
    have hm : m = 0 := by
      rw [List.length_nil] at hl
      rcases Nat.mul_eq_zero.1 hl.symm with h | h
      · exact h
      · omega
    subst hm
    have hrun := run_append_owned_none (P := P) (w := w) base t o.type e i size ht hi v n xs hown
    unfold Oper.wp
    simp [execOp, ho, resolve, invoke, builtin, hs, hx, hrun, Result.andThen]
    exact h v w (by simpa using hown) ⟨rfl, rfl, rfl, Nat.le_refl _, fun _ _ _ => rfl⟩ fun hh => hh
  | some p =>
    exact wp_append_own _ s x t ho base e i z size bytes ht hi hz hsize hby hzs hsz v n xs hs hown p m c news hx hl (hnews p rfl) h1 h63 hbytes hbase fun v' w' ho hg hiff => h v' w' ho hg fun hh h' => hh (hiff.1 h').1

section
variable {P : Program} {w : World}

set_option maxRecDepth 100000 in
theorem add_at (g o j : Nat) : (⟨g, o, none⟩ : Addr).add j = ⟨g, o + j, none⟩ := by unfold Addr.add; split <;> simp_all

set_option maxRecDepth 100000 in
/-- An aggregate loaded out of the middle of a block. -/
theorem run_load_part (ty : TypeId) (g o : Nat) (vs : List Value) (d : TypeDesc) (hu : P.underlying ty = some d) (hd : (match d with | .struct _ | .array _ _ => true | _ => false) = true)
    (hi : (P.info? ty).map (·.size) = some vs.length) (hc : ∀ j v, vs[j]? = some v → w.cell? ⟨g, o + j, none⟩ = some v) :
    (Instr.loadAt ty (.pointer (some ⟨g, o, none⟩))).run P w = .ok (.agg vs.toArray) w := by
  have hl : (loadCells ⟨g, o, none⟩ vs.length).run P w = .ok vs.toArray w :=
    run_loadCells_list (P := P) w ⟨g, o, none⟩ vs fun j v hv => by rw [add_at]; exact hc j v hv
  cases hq : P.info? ty with
  | none => simp [hq] at hi
  | some i =>
    have hs : i.size = vs.length := by simpa [hq] using hi
    have hagg : (isAgg ty).run P w = .ok true w := by
      unfold isAgg
      rw [Sem.run_bind, run_underlying hu w]
      cases d <;> simp_all
    simp only [Instr.loadAt, Instr.sureAddr, Sem.run_bind, Sem.run_pure, Result.andThen_ok]
    simp [loadVar, Sem.run_bind, hagg, sizeOf, typeInfo, hq, hs, hl]

set_option maxRecDepth 100000 in
/-- Cells loaded out of the middle of a block. -/
theorem run_cells_part (g o n : Nat) (vs : List Value) (hn : vs.length = n) (hc : ∀ j v, vs[j]? = some v → w.cell? ⟨g, o + j, none⟩ = some v) :
    (loadCellsFrom ⟨g, o, none⟩ 0 n #[]).run P w = .ok vs.toArray w := by
  subst hn
  exact run_loadCells_list (P := P) w ⟨g, o, none⟩ vs fun j v hv => by rw [add_at]; exact hc j v hv

set_option maxRecDepth 100000 in
/-- A load whose answer is known. -/
theorem wpList_load_known {ops : Array Oper} {rest : List Oper} {o : Oper} {a : Act} {Q : Exit → Act → World → Prop} (hgd : o.guard = none) (ty : TypeId) (x : Operand) (ho : o.op = .load ty x)
    (p v : Value) (hx : a.eval x = p) (hrun : (Instr.loadAt ty p).run P w = .ok v w) (h : wpList P ops Q rest (a.put o.dst v) w) : wpList P ops Q (o :: rest) a w :=
  wpList_plain hgd fun _ hK => by
    unfold Oper.wp execOp
    simp only [ho, hx, Sem.run_bind, hrun, Result.andThen_ok, Sem.run_pure]
    exact hK _ _ h

set_option maxRecDepth 100000 in
/-- A load in a region that only reads, its answer known. -/
theorem quiet_load_known {o : Oper} {a : Act} {C : World → Prop} {K : Act → Prop} (ty : TypeId) (x : Operand) (ho : o.op = .load ty x) (p v : Value) (hx : a.eval x = p)
    (hrun : ∀ w, C w → (Instr.loadAt ty p).run P w = .ok v w) (hk : K (a.put o.dst v)) : o.quiet P a C K :=
  ⟨v, fun w hw => by
    unfold Oper.quietAt execOp
    simp only [ho, hx, Sem.run_bind, hrun w hw, Result.andThen_ok, Sem.run_pure]
    exact ⟨rfl, rfl⟩, hk⟩

set_option maxRecDepth 100000 in
/-- Two arrays of numbers: are they the same? -/
theorem run_equal_rows (d : Nat) (t e : TypeId) (n : Nat) (k : IntKind) (i : TypeInfo) (l m : List Nat) (hu : P.underlying t = some (.array n e)) (he : P.underlying e = some (.int k)) (hi : P.info? e = some i) (hs : i.size = 1)
    (hl : l.length = n) (hm : m.length = n) :
    (Op.equalIn (d + 2) t (.agg (rowI k l)) (.agg (rowI k m))).run P w = .ok (decide (l = m)) w := by
  rw [run_equalIn_array w (d + 1) _ _ hu hi]
  have hc : P.cellsOf e = 1 := by simp [Program.cellsOf, hi, hs]
  rw [hc]
  have key : ∀ (is : List Nat), (∀ j ∈ is, j < n) → (Op.eqItems (d + 1) e 1 (rowI k l) (rowI k m) is).run P w = .ok (is.all fun j => l.getD j 0 == m.getD j 0) w := by
    intro is
    induction is with
    | nil => intro _; simp [Op.eqItems]
    | cons j is ih =>
      intro hj
      have hjn : j < n := hj j (by simp)
      have pa : ∀ (l : List Nat), l.length = n → (part e (rowI k l) (j * 1)).run P w = .ok (.int k (l.getD j 0 : Nat)) w := by
        intro l hl
        have : (rowI k l)[j]? = some (.int k (l.getD j 0 : Nat)) := by
          rw [rowI_get k l j (by omega)]; simp [show j < l.length by omega]
        simp [part, isAgg, run_underlying he, this]
      simp only [Op.eqItems, Sem.run_bind, pa l hl, pa m hm, Result.andThen_ok, run_equalIn_int w d e k k _ _ he, List.all_cons]
      by_cases h : l.getD j 0 = m.getD j 0
      · have e1 : ((l.getD j 0 : Int) == (m.getD j 0 : Int)) = true := by rw [h]; simp
        rw [e1, h]
        simp only [Bool.not_true, Bool.false_eq_true, if_false, beq_self_eq_true, Bool.true_and]
        exact ih fun x hx => hj x (by simp [hx])
      · have e1 : ((l.getD j 0 : Int) == (m.getD j 0 : Int)) = false := by simp only [beq_eq_false_iff_ne]; omega
        rw [e1]
        have e2 : (l.getD j 0 == m.getD j 0) = false := by simpa using h
        rw [e2]
        simp
  rw [key (List.range n) (fun j hj => by simpa using hj)]
  congr 1
  rw [Bool.eq_iff_iff]
  simp only [List.all_eq_true, List.mem_range, beq_iff_eq, decide_eq_true_eq]
  constructor
  · intro h
    apply List.ext_getElem (by omega)
    intro j h1 h2
    have := h j (by omega)
    simpa [h1, h2] using this
  · rintro rfl j _; rfl
end

end Go.Proofs.Ytgdnfempcjlipaa

namespace Go.Proofs.Ytgdnfempcjlipaa
open Go.RowKit

set_option maxRecDepth 100000 in
theorem Try.elemInt : (Try.prog.info? 3).map (fun i => (i.zero, i.size, i.bytes)) = some (some (.int .i64 0), 1, 8) := by kernel_rfl

def lenOf : Value → Nat | .slice _ n _ => n | _ => 0
set_option maxRecDepth 100000 in
theorem owns_len {w : World} {base : Nat} {t : TypeId} {sz : Nat} {v : Value} {n : Nat} {xs : List Value} (h : w.ownsRow base t sz v n xs) : ∃ a c, v = .slice a n c := by
  obtain ⟨_, h⟩ := h
  rcases h with ⟨rfl, rfl⟩ | ⟨g, cap, cur, rfl, _⟩
  · exact ⟨none, 0, rfl⟩
  · exact ⟨_, _, rfl⟩
set_option maxRecDepth 100000 in
theorem owns_block {w : World} {base : Nat} {t : TypeId} {sz : Nat} {v : Value} {n : Nat} {xs : List Value} (h : w.ownsRow base t sz v n xs) : ∀ k, v.ownBlock = some k → k ∈ ([] : List Nat) ∨ base ≤ k := by
  intro k hk
  obtain ⟨_, h⟩ := h
  rcases h with ⟨rfl, _⟩ | ⟨g, cap, cur, rfl, hg, _⟩
  · simp [Value.ownBlock] at hk
  · simp [Value.ownBlock] at hk; exact .inr (by omega)
set_option maxRecDepth 100000 in
theorem owns_blockS {S : List Nat} {w : World} {base B : Nat} {t : TypeId} {sz : Nat} {v : Value} {n : Nat} {xs : List Value} (h : w.ownsRow base t sz v n xs) (hB : B ≤ base) : ∀ k, v.ownBlock = some k → k ∈ S ∨ B ≤ k := by
  intro k hk
  rcases owns_block h k hk with hh | hh
  · simp at hh
  · exact .inr (by omega)

/-- The slice v is a row of the call's own that reads as l. -/
abbrev OwnI (base : Nat) (w : World) (v : Value) (l : List Nat) : Prop := w.ownsRow base 3 1 v l.length (l.map fun (x : Nat) => Value.int .i64 x)

set_option maxRecDepth 100000 in
/-- A row of the call's own, where only other blocks changed. -/
theorem owns_chg {S : List Nat} {w w' : World} {base : Nat} {t : TypeId} {sz : Nat} {v : Value} {n : Nat} {xs : List Value} (h : w.ownsRow base t sz v n xs) (hc : Chg S w w') (hS : ∀ x ∈ S, x < base) : w'.ownsRow base t sz v n xs := by
  obtain ⟨h0, h⟩ := h
  refine ⟨h0, ?_⟩
  rcases h with hh | ⟨g, cap, cur, hv, hg, hb, h1, h2, h3, h4⟩
  · exact .inl hh
  · exact .inr ⟨g, cap, cur, hv, hg, hc.keep hb (fun hx => by have := hS g hx; omega), h1, h2, h3, h4⟩

set_option maxRecDepth 100000 in
theorem OwnI.snoc {base : Nat} {w : World} {v : Value} {l : List Nat} {y : Nat} (h : w.ownsRow base 3 1 v (l.length + 1) (l.map (fun (x : Nat) => Value.int .i64 x) ++ [.int .i64 (y : Nat)])) : OwnI base w v (l ++ [y]) := by
  have e : (l ++ [y]).map (fun (x : Nat) => Value.int .i64 x) = l.map (fun (x : Nat) => Value.int .i64 x) ++ [.int .i64 (y : Nat)] := by simp
  unfold OwnI
  rw [e, List.length_append]
  exact h

end Go.Proofs.Ytgdnfempcjlipaa

namespace Go.Proofs.Ytgdnfempcjlipaa.R
open Go.RowKit

set_option maxRecDepth 100000 in
theorem flat_len {α : Type} (f : α → List Value) (sz : Nat) (hf : ∀ x, (f x).length = sz) (l : List α) : (l.flatMap f).length = l.length * sz := by
  induction l with
  | nil => simp
  | cons x l ih => rw [List.flatMap_cons, List.length_append, ih, hf, List.length_cons, Nat.add_mul]; omega
set_option maxRecDepth 100000 in
theorem flat_get {α : Type} (f : α → List Value) (sz : Nat) (hf : ∀ x, (f x).length = sz) (l : List α) : ∀ i (h : i < l.length) j, j < sz → (l.flatMap f)[i * sz + j]? = (f l[i])[j]? := by
  induction l with
  | nil => intro i h; simp at h
  | cons x l ih =>
    intro i h j hj
    rw [List.flatMap_cons]
    cases i with
    | zero =>
      rw [Nat.zero_mul, Nat.zero_add, List.getElem?_append_left (by rw [hf]; exact hj)]
      rfl
    | succ i =>
      rw [Nat.add_mul, Nat.one_mul, List.getElem?_append_right (by rw [hf]; omega), hf, show i * sz + sz + j - sz = i * sz + j by omega]
      exact ih i (by simpa using h) j hj

/-- The slice v is a row of the call's own, of records as f lays them. -/
def OwnR {α : Type} (t : TypeId) (sz : Nat) (f : α → List Value) (base : Nat) (w : World) (v : Value) (l : List α) : Prop := w.ownsRow base t sz v l.length (l.flatMap f)
section
variable {α : Type} {t : TypeId} {sz : Nat} {f : α → List Value} {base : Nat} {w w' : World} {v : Value} {l : List α}

set_option maxRecDepth 100000 in
theorem OwnR.nil (t : TypeId) (sz : Nat) (f : α → List Value) (base : Nat) (w : World) : OwnR t sz f base w (.slice none 0 0) [] := ⟨by simp, .inl ⟨rfl, rfl⟩⟩
set_option maxRecDepth 100000 in
theorem OwnR.made (t : TypeId) (sz : Nat) (f : α → List Value) (w : World) : OwnR t sz f w.heap.size (w.alloc (.cells #[] t)) (.slice (some ⟨w.heap.size, 0, none⟩) 0 0) [] :=
  ⟨by simp, .inr ⟨w.heap.size, 0, #[], rfl, Nat.le_refl _, heap_new _ _, Nat.le_refl _, by simp, by simp, by simp⟩⟩
set_option maxRecDepth 100000 in
theorem OwnR.len (h : OwnR t sz f base w v l) : ∃ a c, v = .slice a l.length c := by
  obtain ⟨_, h⟩ := h
  rcases h with ⟨rfl, h0⟩ | ⟨g, cap, cur, rfl, _⟩
  · exact ⟨none, 0, by rw [h0]⟩
  · exact ⟨_, _, rfl⟩
set_option maxRecDepth 100000 in
theorem OwnR.cells (h : OwnR t sz f base w v l) (hf : ∀ x, (f x).length = sz) (h0 : 0 < l.length) : ∃ g c, v = .slice (some ⟨g, 0, none⟩) l.length c ∧ base ≤ g ∧ g < w.heap.size ∧ ∀ i (hi : i < l.length) j u, (f l[i])[j]? = some u → w.cell? ⟨g, i * sz + j, none⟩ = some u := by
  obtain ⟨hl, h⟩ := h
  rcases h with ⟨rfl, hn⟩ | ⟨g, cap, cur, rfl, hg, hb, h1, h2, h3, h4⟩
  · omega
  · refine ⟨g, cap, rfl, hg, lt_of_block hb, ?_⟩
    intro i hi j u hu
    have hj : j < sz := by
      rcases Nat.lt_or_ge j sz with hh | hh
      · exact hh
      · rw [List.getElem?_eq_none (by rw [hf]; exact hh)] at hu; cases hu
    rw [cell_of hb]
    have hlt : i * sz + j < l.length * sz := by
      have : (i + 1) * sz ≤ l.length * sz := Nat.mul_le_mul_right _ hi
      rw [Nat.add_mul] at this
      omega
    have e : cur.toList[i * sz + j]? = (cur.toList.take (l.length * sz))[i * sz + j]? := by rw [List.getElem?_take_of_lt hlt]
    rw [← Array.getElem?_toList, e, h4, flat_get f sz hf l i hi j hj]
    exact hu
set_option maxRecDepth 100000 in
theorem OwnR.keep (h : OwnR t sz f base w v l) (hb : ∀ g, v.ownBlock = some g → w'.heap[g]? = w.heap[g]?) : OwnR t sz f base w' v l := by
  obtain ⟨h1, h2⟩ := h
  refine ⟨h1, ?_⟩
  rcases h2 with h2 | ⟨g, cap, cur, rfl, hg, hh, r⟩
  · exact .inl h2
  · exact .inr ⟨g, cap, cur, rfl, hg, by rw [hb g rfl]; exact hh, r⟩
set_option maxRecDepth 100000 in
theorem OwnR.low {B : Nat} (h : OwnR t sz f base w v l) (hB : B ≤ base) : OwnR t sz f B w v l := by
  obtain ⟨h1, h2⟩ := h
  refine ⟨h1, ?_⟩
  rcases h2 with h2 | ⟨g, cap, cur, rfl, hg, r⟩
  · exact .inl h2
  · exact .inr ⟨g, cap, cur, rfl, by omega, r⟩
set_option maxRecDepth 100000 in
theorem OwnR.blk (h : OwnR t sz f base w v l) : ∀ g, v.ownBlock = some g → base ≤ g ∧ g < w.heap.size ∧ ∃ c, w.heap[g]? = some (.cells c t (0, 0)) := by
  intro g hg
  obtain ⟨h1, h2⟩ := h
  rcases h2 with ⟨rfl, _⟩ | ⟨g', cap, cur, rfl, hg', hh, r⟩
  · simp [Value.ownBlock] at hg
  · simp [Value.ownBlock] at hg
    subst hg
    exact ⟨hg', lt_of_block hh, cur, hh⟩
set_option maxRecDepth 100000 in
theorem OwnR.chg {S : List Nat} (h : OwnR t sz f base w v l) (hc : Chg S w w') (hS : ∀ g, v.ownBlock = some g → g ∉ S) : OwnR t sz f base w' v l :=
  h.keep fun g hg => hc.block g (h.blk g hg).2.1 (hS g hg)
set_option maxRecDepth 100000 in
theorem OwnR.same (h : OwnR t sz f base w v l) (hc : Chg [] w w') : OwnR t sz f base w' v l := h.chg hc (by simp)
set_option maxRecDepth 100000 in
/-- What append reads of it. -/
theorem OwnR.src {a : Option Addr} {c : Nat} (h : OwnR t sz f base w (.slice a l.length c) l) : (a = none → c = 0) ∧ (l.flatMap f ≠ [] → a ≠ none) ∧ ∀ p, a = some p → ∀ j u, (l.flatMap f)[j]? = some u → w.cell? (p.add j) = some u := by
  obtain ⟨hl, h⟩ := h
  rcases h with ⟨hv, hn⟩ | ⟨g, cap, cur, hv, hg, hb, h1, h2, h3, h4⟩
  · injection hv with e1 e2 e3
    subst e1; subst e3
    have : l = [] := List.length_eq_zero_iff.1 hn
    subst this
    exact ⟨fun _ => rfl, fun h => absurd rfl h, fun p hp => by cases hp⟩
  · injection hv with e1 e2 e3
    subst e1; subst e3
    refine ⟨(fun h => by cases h), (fun _ h => by cases h), ?_⟩
    intro p hp j u hu
    cases hp
    have ea : (⟨g, 0, none⟩ : Addr).add j = ⟨g, j, none⟩ := by unfold Addr.add; split <;> simp_all
    rw [ea, cell_of hb]
    have hj : j < l.length * sz := by
      rcases Nat.lt_or_ge j (l.length * sz) with hh | hh
      · exact hh
      · rw [List.getElem?_eq_none (by rw [hl]; exact hh)] at hu; cases hu
    have e : cur.toList[j]? = (cur.toList.take (l.length * sz))[j]? := by rw [List.getElem?_take_of_lt hj]
    rw [← Array.getElem?_toList, e, h4]
    exact hu
set_option maxRecDepth 100000 in
theorem OwnR.snoc {x : α} (h : w.ownsRow base t sz v (l.length + 1) (l.flatMap f ++ f x)) : OwnR t sz f base w v (l ++ [x]) := by
  unfold OwnR
  rw [List.length_append, List.flatMap_append]
  simpa using h
end
set_option maxRecDepth 100000 in
theorem chg_grown {S : List Nat} {a w w' : World} {v : Value} (h : Chg S a w) (hg : w.grownBy w' v.ownBlock) (hr : ∀ k, v.ownBlock = some k → a.heap.size ≤ k) : Chg S a w' := h.grown hg fun k hk => .inr (hr k hk)
set_option maxRecDepth 100000 in
theorem grown_at {w0 w1 : World} {row : Option Nat} {k : Nat} {o : Obj} (hg : w0.grownBy w1 row) (h : w0.heap[k]? = some o) (hk : row ≠ some k) : w1.heap[k]? = some o :=
  (hg.block k (lt_of_block h) (fun e => hk e.symm)).trans h

end Go.Proofs.Ytgdnfempcjlipaa.R

namespace Go.Proofs.Ytgdnfempcjlipaa
open Go.ChangeShapes Go.WideShapes Go.Deep Go.RowKit

set_option maxRecDepth 100000 in
theorem add_flat (b o i : Nat) : (⟨b, o, none⟩ : Addr).add i = ⟨b, o + i, none⟩ := by unfold Addr.add; split <;> simp_all
set_option maxRecDepth 100000 in
theorem block_add (p : Addr) (i : Nat) : (p.add i).block = p.block := by unfold Addr.add; split <;> rfl
set_option maxRecDepth 100000 in
theorem no_spot {w : World} {x : Addr} {v : Value} (h : w.cell? x = some v) : x.spot = none := by
  obtain ⟨b, o, s⟩ := x
  cases s with
  | none => rfl
  | some s =>
    exfalso
    unfold World.cell? at h
    split at h <;> simp at h

section
variable {H : Type} {enc : TypeId × Value → H} {P : Program} {w : World} {base : Nat} {spare : Nat → Bool} {held : Bool}

set_option maxRecDepth 100000 in
theorem recs_trod {t e : TypeId} {fs : Array Field} {v : Value} {d : DataW H} {p : List MemPlace} (ht : P.underlying t = some (.slice e)) (he : P.underlying e = some (.struct fs))
    (hone : ∀ (j : Nat) (f : Field), fs[j]? = some f → f.offset = j ∧ P.cellsOf f.type = 1) (hC : P.cellsOf e = fs.size) (hpos : 0 < fs.size)
    (hv : ∃ a len cap, v = .slice a len cap) (h : DataW.Trod enc P w base spare held t v d p) :
    ∃ a len cap, v = .slice a len cap ∧ len ≤ maxLen ∧ (a = none → cap = 0) ∧
      ∀ i, i < len → ∃ b o, a = some ⟨b, o, none⟩ ∧ b < w.heap.size ∧
        ∀ (j : Nat) (f : Field), fs[j]? = some f → ∃ u n y, w.cell? ⟨b, o + (i * fs.size + j), none⟩ = some u ∧ DataW.trod enc P w base spare held n f.type [u] = some y := by
  obtain ⟨a, len, cap, rfl⟩ := hv
  obtain ⟨fuel, hf⟩ := h
  refine ⟨a, len, cap, rfl, ?_⟩
  rcases open_slice ht hf with ⟨hcs, _⟩ | ⟨x, len', cap', m, n, D, Pl, hcs, _, hl, hm, hmm, _, hx⟩
  · simp [Value.cells] at hcs
    obtain ⟨rfl, rfl, rfl⟩ := hcs
    exact ⟨Nat.zero_le _, fun _ => rfl, fun i hi => absurd hi (by simp)⟩
  · simp [Value.cells] at hcs
    obtain ⟨rfl, rfl, rfl⟩ := hcs
    refine ⟨Nat.le_trans hl hm, fun h => by simp at h, fun i hi => ?_⟩
    have him : i < m := by rw [hmm]; split <;> omega
    have key : ∀ i, i < m → ∀ (j : Nat) (f : Field), fs[j]? = some f → ∃ u n y, w.cell? (x.add (i * fs.size + j)) = some u ∧ DataW.trod enc P w base spare held n f.type [u] = some y := by
      intro i hi j f hj
      obtain ⟨cs, hc, htr⟩ := hx i hi
      rw [hC] at hc
      obtain ⟨ys, n', _, _, hlen, _, hg⟩ := DataW.trod_struct he htr
      obtain ⟨_, hcl, hat⟩ := World.cells?_some hc
      obtain ⟨ho, hk⟩ := hone j f hj
      have hjl : j < fs.size := (Array.getElem?_eq_some_iff.1 hj).1
      have hjc : j < cs.length := by omega
      have h1 := hg j f hj
      have h2 := hat j hjl
      rw [ho, hk, List.drop_eq_getElem_cons hjc, List.take_succ_cons, List.take_zero] at h1
      rw [List.getElem?_eq_getElem hjc, Go.Deep.add_add] at h2
      have hjy : j < ys.length := by omega
      rw [List.getElem?_eq_getElem hjy] at h1
      exact ⟨_, _, _, h2, h1⟩
    obtain ⟨f0, hf0⟩ : ∃ f0, fs[0]? = some f0 := ⟨fs[0], by simp [hpos]⟩
    obtain ⟨u0, n0, y0, hc0, _⟩ := key i him 0 f0 hf0
    have hsp : x.spot = none := by
      have him0 : 0 < m := by omega
      obtain ⟨u1, n1, y1, hc1, _⟩ := key 0 him0 0 f0 hf0
      have := no_spot hc1
      simpa [Addr.add] using this
    have hxe : x = ⟨x.block, x.off, none⟩ := by rw [← hsp]
    refine ⟨x.block, x.off, by rw [← hxe], ?_, fun j f hj => ?_⟩
    · have := World.block_lt_of_cell? _ _ hc0
      rwa [block_add] at this
    · obtain ⟨u, n, y, hc, hy⟩ := key i him j f hj
      refine ⟨u, n, y, ?_, hy⟩
      have e2 := add_flat x.block x.off (i * fs.size + j)
      rw [← hxe] at e2
      rw [← e2]; exact hc
set_option maxRecDepth 100000 in
theorem recs_open {r : Reach} {b0 : Nat} {t e : TypeId} {fs : Array Field} {v : Value} {d : DataW H} {p : List MemPlace} (ht : P.underlying t = some (.slice e)) (he : P.underlying e = some (.struct fs))
    (hone : ∀ (j : Nat) (f : Field), fs[j]? = some f → f.offset = j ∧ P.cellsOf f.type = 1) (hC : P.cellsOf e = fs.size) (hpos : 0 < fs.size)
    (hv : Value.okWide P w r b0 t v) (h : DataW.Trod enc P w base spare held t v d p) :
    ∃ a len cap, v = .slice a len cap ∧ len ≤ maxLen ∧ (a = none → cap = 0) ∧
      ∀ i, i < len → ∃ b o, a = some ⟨b, o, none⟩ ∧ b < w.heap.size ∧
        ∀ (j : Nat) (f : Field), fs[j]? = some f → ∃ u n y, w.cell? ⟨b, o + (i * fs.size + j), none⟩ = some u ∧ DataW.trod enc P w base spare held n f.type [u] = some y :=
  recs_trod ht he hone hC hpos (okWide_slice ht hv) h
end

def blkOf : Option Addr → Nat | some x => x.block | none => 0
def offOf : Option Addr → Nat | some x => x.off | none => 0

/-- The number in a cell. -/
def numAt (w : World) (b o : Nat) : Int := match w.cell? ⟨b, o, none⟩ with | some (.int _ n) => n | _ => 0
set_option maxRecDepth 100000 in
theorem numAt_of {w : World} {b o : Nat} {k : IntKind} {n : Int} (h : w.cell? ⟨b, o, none⟩ = some (.int k n)) : numAt w b o = n := by
  unfold numAt; rw [h]

end Go.Proofs.Ytgdnfempcjlipaa

namespace Go.Proofs.Ytgdnfempcjlipaa
open Go Go.RowKit

section
variable {P : Program} {md : Region.Mode} {ops : Array Oper} {Q : Exit → Act → World → Prop} {S : World → Prop} {x : Nat}
/-- Whatever order is picked from here on; S holds behind every operation but number x. -/
def wpL (P : Program) (md : Region.Mode) (ops : Array Oper) (Q : Exit → Act → World → Prop) (S : World → Prop) (x : Nat) : Nat → Array Bool → Act → World → Prop
  | 0, listed, a, w => Region.ready md ops listed = [] ∧ Q .normal a w
  | fuel + 1, listed, a, w =>
    (Region.ready md ops listed = [] → Q .normal a w) ∧
    ∀ i ∈ Region.ready md ops listed, wpOp P ops Q i (fun a' w' => (i ≠ x → S w') ∧ wpL P md ops Q S x fuel (listed.setIfInBounds i true) a' w') a w
theorem wpL_any : ∀ (fuel : Nat) (listed : Array Bool) (a : Act) (w : World), wpL P md ops Q S x fuel listed a w → wpAny P md ops Q fuel listed a w
  | 0, _, _, _, h => h
  | fuel + 1, _, _, _, h => ⟨h.1, fun i hi => wpOp_mono (fun a' w' k => wpL_any fuel _ a' w' k.2) (h.2 i hi)⟩
/-- Does number x wait for number i? -/
def waitsFor (md : Region.Mode) (ops : Array Oper) (x i : Nat) : Bool := ((ops[x]?).map fun o => o.after.any fun e => Region.binds md e && e.on == i).getD false
theorem waits_out {i j : Nat} {listed : Array Bool} (h : waitsFor md ops x i = true) (hj : j ∈ Region.ready md ops listed) (hi : listed.getD i true = false) : j ≠ x := by
  rintro rfl
  obtain ⟨_, o, ho, hall⟩ := mem_ready.1 hj
  unfold waitsFor at h
  rw [ho] at h
  have h' : (o.after.any fun e => Region.binds md e && e.on == i) = true := h
  obtain ⟨e, he, hb⟩ := Array.any_eq_true'.1 h'
  rw [Bool.and_eq_true, beq_iff_eq] at hb
  have h1 := hall e he hb.1
  rw [hb.2] at h1
  rcases Nat.lt_or_ge i listed.size with k | k
  · simp [k] at h1 hi
    rw [hi] at h1; cases h1
  · simp [Array.getElem?_eq_none k] at h1
theorem wpL_first {i : Nat} {oi : Oper} {v : Value} (hi : ops[i]? = some oi) (hx : waitsFor md ops x i = true) (hsel : ∀ (j : Nat) (o : Oper) cs b, ops[j]? = some o → o.op ≠ .select cs b)
    (hQ : ∀ c a w, Q (.panic c) (a.put oi.dst v) w → Q (.panic c) a w) :
    ∀ (fuel : Nat) (listed : Array Bool) (a : Act) (w : World),
      (∀ j oj, ops[j]? = some oj → j ≠ i → listed.getD j true = false → (∀ e ∈ oj.after, Region.binds md e = true → e.on ≠ i) → oi.apart ops oj = true) →
      i ∈ Region.ready md ops listed → YieldsIf P ops S oi v a → S w →
      wpL P md ops Q S x fuel (listed.setIfInBounds i true) (a.put oi.dst v) w → wpL P md ops Q S x (fuel + 1) listed a w := by
  intro fuel
  induction fuel with
  | zero =>
    intro listed a w _ hr hy hS H
    refine ⟨fun h => (by rw [h] at hr; cases hr), fun j hj => ?_⟩
    by_cases e : j = i
    · subst e
      exact hy.wpOp hi hS ⟨fun _ => hS, H⟩
    · have := ready_mono hj e
      rw [H.1] at this
      cases this
  | succ fuel ih =>
    intro listed a w hf hr hy hS H
    refine ⟨fun h => (by rw [h] at hr; cases hr), fun j hj => ?_⟩
    by_cases e : j = i
    · subst e
      exact hy.wpOp hi hS ⟨fun _ => hS, H⟩
    · have hun := (mem_ready.1 hr).1
      have hjx := waits_out hx hj hun
      obtain ⟨hju, oj, hoj, hall⟩ := mem_ready.1 hj
      have hno : ∀ d ∈ oj.after, Region.binds md d = true → d.on ≠ i := by
        intro d hd hb e2
        have h1 := hall d hd hb
        rw [e2] at h1
        rcases Nat.lt_or_ge i listed.size with k | k
        · simp [k] at h1 hun
          rw [hun] at h1; cases h1
        · simp [Array.getElem?_eq_none k] at h1
      have h2 := wpOp_putIf hoj (hf j oj hoj e hju hno) (fun cs b => hsel i oi cs b hi) (fun cs b => hsel j oj cs b hoj) hQ hy (H.2 j (ready_mono hj e))
      refine wpOp_mono (fun a' w' h3 => ⟨fun _ => h3.2.1 hjx, ih (listed.setIfInBounds j true) a' w' (fun k ok hk hki hku hkn => ?_) (ready_mono hr (Ne.symm e)) h3.1 (h3.2.1 hjx) ?_⟩) h2
      · refine hf k ok hk hki ?_ hkn
        by_cases ejk : j = k
        · subst ejk; exact hju
        · rw [getD_set_ne true ejk] at hku; exact hku
      · rw [Array.setIfInBounds_comm _ _ e]
        exact h3.2.2
/-- Number i may come up, yields v in every world that meets S; number x waits for it. -/
theorem wpL_take {i : Nat} {oi : Oper} {v : Value} {fuel : Nat} {listed : Array Bool} {a : Act} {w : World} (hi : ops[i]? = some oi) (hx : waitsFor md ops x i = true)
    (hs : Region.noSelect ops = true) (hf : Region.free md ops listed i = true) (hr : (Region.ready md ops listed).contains i = true)
    (hQ : ∀ c a w, Q (.panic c) (a.put oi.dst v) w → Q (.panic c) a w) (hy : YieldsIf P ops S oi v a) (hS : S w)
    (h : wpL P md ops Q S x fuel (listed.setIfInBounds i true) (a.put oi.dst v) w) : wpL P md ops Q S x (fuel + 1) listed a w :=
  wpL_first hi hx (Region.noSelect_spec hs) hQ fuel listed a w (Region.free_spec hi hf) (by simpa using hr) hy hS h
theorem wpL_one {i : Nat} {o : Oper} {fuel : Nat} {listed : Array Bool} {a : Act} {w : World} (hr : Region.ready md ops listed = [i]) (ho : ops[i]? = some o)
    (h : ∀ K : Act → World → Prop, Hid (∀ a w, (i ≠ x → S w) → wpL P md ops Q S x fuel (listed.setIfInBounds i true) a w → K a w) → if Region.wanted o (yielded ops a.tmps) = true then Oper.wp P o a w K Q else K (a.put o.dst undef) w) :
    wpL P md ops Q S x (fuel + 1) listed a w := by
  refine ⟨fun h0 => (by rw [hr] at h0; cases h0), fun j hj => ?_⟩
  rw [hr] at hj
  simp at hj
  subst hj
  exact wpOp_step ho fun K hK => h K (Lib.hid fun a w h1 h2 => hK a w ⟨h1, h2⟩)
theorem wpL_two {i k : Nat} {o p : Oper} {fuel : Nat} {listed : Array Bool} {a : Act} {w : World} (hr : Region.ready md ops listed = [i, k]) (ho : ops[i]? = some o) (hp : ops[k]? = some p)
    (h : ∀ K : Act → World → Prop, Hid (∀ a w, (i ≠ x → S w) → wpL P md ops Q S x fuel (listed.setIfInBounds i true) a w → K a w) → if Region.wanted o (yielded ops a.tmps) = true then Oper.wp P o a w K Q else K (a.put o.dst undef) w)
    (h2 : ∀ K : Act → World → Prop, Hid (∀ a w, (k ≠ x → S w) → wpL P md ops Q S x fuel (listed.setIfInBounds k true) a w → K a w) → if Region.wanted p (yielded ops a.tmps) = true then Oper.wp P p a w K Q else K (a.put p.dst undef) w) :
    wpL P md ops Q S x (fuel + 1) listed a w := by
  refine ⟨fun h0 => (by rw [hr] at h0; cases h0), fun j hj => ?_⟩
  rw [hr] at hj
  simp at hj
  rcases hj with rfl | rfl
  · exact wpOp_step ho fun K hK => h K (Lib.hid fun a w h1 h2 => hK a w ⟨h1, h2⟩)
  · exact wpOp_step hp fun K hK => h2 K (Lib.hid fun a w h1 h2 => hK a w ⟨h1, h2⟩)
theorem wpL_done {listed : Array Bool} {a : Act} {w : World} (hr : Region.ready md ops listed = []) (h : Q .normal a w) : ∀ fuel, wpL P md ops Q S x fuel listed a w
  | 0 => ⟨hr, h⟩
  | _ + 1 => ⟨fun _ => h, by rw [hr]; simp⟩
theorem wp_region_L {id : Nat} {a : Act} {w : World} (hm : P.follows .mixedOrders = true) (h : wpL P .any ops Q S x ops.size (Array.replicate ops.size false) a w.drew) : (Code.region id ops true).wp P Q a w :=
  wp_region_any hm (wpL_any _ _ _ _ h)
end

end Go.Proofs.Ytgdnfempcjlipaa
