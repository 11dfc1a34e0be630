/- Rows of records of the call's own: what lies where, what append reads of them. No program in sight. -/
import Derived.Test.YteehenajchdgaaaMem
import Derived.WalkSpells
import Derived.WalkSmall
namespace Go.Proofs.Yteehenajchdgaaa.R
open Go.RowKit

theorem flat_len {α : Type} (f : α → List Value) (sz : Nat) (hf : ∀ x, (f x).length = sz) (l : List α) : (l.flatMap f).length = l.length * sz := by
  induction l with
  | nil => simp
  | cons x l ih => rw [List.flatMap_cons, List.length_append, ih, hf, List.length_cons, Nat.add_mul]; omega
theorem flat_get {α : Type} (f : α → List Value) (sz : Nat) (hf : ∀ x, (f x).length = sz) (l : List α) : ∀ i (h : i < l.length) j, j < sz → (l.flatMap f)[i * sz + j]? = (f l[i])[j]? := by
  induction l with
  | nil => intro i h; simp at h
  | cons x l ih =>
    intro i h j hj
    rw [List.flatMap_cons]
    cases i with
    | zero =>
      rw [Nat.zero_mul, Nat.zero_add, List.getElem?_append_left (by rw [hf]; exact hj)]
      rfl
    | succ i =>
      rw [Nat.add_mul, Nat.one_mul, List.getElem?_append_right (by rw [hf]; omega), hf, show i * sz + sz + j - sz = i * sz + j by omega]
      exact ih i (by simpa using h) j hj

/-- The slice v is a row of the call's own, of records as f lays them. -/
def OwnR {α : Type} (t : TypeId) (sz : Nat) (f : α → List Value) (base : Nat) (w : World) (v : Value) (l : List α) : Prop := w.ownsRow base t sz v l.length (l.flatMap f)
section
variable {α : Type} {t : TypeId} {sz : Nat} {f : α → List Value} {base : Nat} {w w' : World} {v : Value} {l : List α}

theorem OwnR.nil (t : TypeId) (sz : Nat) (f : α → List Value) (base : Nat) (w : World) : OwnR t sz f base w (.slice none 0 0) [] := ⟨by simp, .inl ⟨rfl, rfl⟩⟩
theorem OwnR.made (t : TypeId) (sz : Nat) (f : α → List Value) (w : World) : OwnR t sz f w.heap.size (w.alloc (.cells #[] t)) (.slice (some ⟨w.heap.size, 0, none⟩) 0 0) [] :=
  ⟨by simp, .inr ⟨w.heap.size, 0, #[], rfl, Nat.le_refl _, heap_new _ _, Nat.le_refl _, by simp, by simp, by simp⟩⟩
theorem OwnR.len (h : OwnR t sz f base w v l) : ∃ a c, v = .slice a l.length c := by
  obtain ⟨_, h⟩ := h
  rcases h with ⟨rfl, h0⟩ | ⟨g, cap, cur, rfl, _⟩
  · exact ⟨none, 0, by rw [h0]⟩
  · exact ⟨_, _, rfl⟩
theorem OwnR.cells (h : OwnR t sz f base w v l) (hf : ∀ x, (f x).length = sz) (h0 : 0 < l.length) : ∃ g c, v = .slice (some ⟨g, 0, none⟩) l.length c ∧ base ≤ g ∧ g < w.heap.size ∧ ∀ i (hi : i < l.length) j u, (f l[i])[j]? = some u → w.cell? ⟨g, i * sz + j, none⟩ = some u := by
  obtain ⟨hl, h⟩ := h
  rcases h with ⟨rfl, hn⟩ | ⟨g, cap, cur, rfl, hg, hb, h1, h2, h3, h4⟩
  · omega
  · refine ⟨g, cap, rfl, hg, lt_of_block hb, ?_⟩
    intro i hi j u hu
    have hj : j < sz := by
      rcases Nat.lt_or_ge j sz with hh | hh
      · exact hh
      · rw [List.getElem?_eq_none (by rw [hf]; exact hh)] at hu; cases hu
    rw [cell_of hb]
    have hlt : i * sz + j < l.length * sz := by
      have : (i + 1) * sz ≤ l.length * sz := Nat.mul_le_mul_right _ hi
      rw [Nat.add_mul] at this
      omega
    have e : cur.toList[i * sz + j]? = (cur.toList.take (l.length * sz))[i * sz + j]? := by rw [List.getElem?_take_of_lt hlt]
    rw [← Array.getElem?_toList, e, h4, flat_get f sz hf l i hi j hj]
    exact hu
theorem OwnR.keep (h : OwnR t sz f base w v l) (hb : ∀ g, v.ownBlock = some g → w'.heap[g]? = w.heap[g]?) : OwnR t sz f base w' v l := by
  obtain ⟨h1, h2⟩ := h
  refine ⟨h1, ?_⟩
  rcases h2 with h2 | ⟨g, cap, cur, rfl, hg, hh, r⟩
  · exact .inl h2
  · exact .inr ⟨g, cap, cur, rfl, hg, by rw [hb g rfl]; exact hh, r⟩
theorem OwnR.low {B : Nat} (h : OwnR t sz f base w v l) (hB : B ≤ base) : OwnR t sz f B w v l := by
  obtain ⟨h1, h2⟩ := h
  refine ⟨h1, ?_⟩
  rcases h2 with h2 | ⟨g, cap, cur, rfl, hg, r⟩
  · exact .inl h2
  · exact .inr ⟨g, cap, cur, rfl, by omega, r⟩
theorem OwnR.blk (h : OwnR t sz f base w v l) : ∀ g, v.ownBlock = some g → base ≤ g ∧ g < w.heap.size ∧ ∃ c, w.heap[g]? = some (.cells c t (0, 0)) := by
  intro g hg
  obtain ⟨h1, h2⟩ := h
  rcases h2 with ⟨rfl, _⟩ | ⟨g', cap, cur, rfl, hg', hh, r⟩
  · simp [Value.ownBlock] at hg
  · simp [Value.ownBlock] at hg
    subst hg
    exact ⟨hg', lt_of_block hh, cur, hh⟩
theorem OwnR.chg {S : List Nat} (h : OwnR t sz f base w v l) (hc : Chg S w w') (hS : ∀ g, v.ownBlock = some g → g ∉ S) : OwnR t sz f base w' v l :=
  h.keep fun g hg => hc.block g (h.blk g hg).2.1 (hS g hg)
theorem OwnR.same (h : OwnR t sz f base w v l) (hc : Chg [] w w') : OwnR t sz f base w' v l := h.chg hc (by simp)
/-- What append reads of it. -/
theorem OwnR.src {a : Option Addr} {c : Nat} (h : OwnR t sz f base w (.slice a l.length c) l) : (a = none → c = 0) ∧ (l.flatMap f ≠ [] → a ≠ none) ∧ ∀ p, a = some p → ∀ j u, (l.flatMap f)[j]? = some u → w.cell? (p.add j) = some u := by
  obtain ⟨hl, h⟩ := h
  rcases h with ⟨hv, hn⟩ | ⟨g, cap, cur, hv, hg, hb, h1, h2, h3, h4⟩
  · injection hv with e1 e2 e3
    subst e1; subst e3
    have : l = [] := List.length_eq_zero_iff.1 hn
    subst this
    exact ⟨fun _ => rfl, fun h => absurd rfl h, fun p hp => by cases hp⟩
  · injection hv with e1 e2 e3
    subst e1; subst e3
    refine ⟨(fun h => by cases h), (fun _ h => by cases h), ?_⟩
    intro p hp j u hu
    cases hp
    have ea : (⟨g, 0, none⟩ : Addr).add j = ⟨g, j, none⟩ := by unfold Addr.add; split <;> simp_all
    rw [ea, cell_of hb]
    have hj : j < l.length * sz := by
      rcases Nat.lt_or_ge j (l.length * sz) with hh | hh
      · exact hh
      · rw [List.getElem?_eq_none (by rw [hl]; exact hh)] at hu; cases hu
    have e : cur.toList[j]? = (cur.toList.take (l.length * sz))[j]? := by rw [List.getElem?_take_of_lt hj]
    rw [← Array.getElem?_toList, e, h4]
    exact hu
theorem OwnR.snoc {x : α} (h : w.ownsRow base t sz v (l.length + 1) (l.flatMap f ++ f x)) : OwnR t sz f base w v (l ++ [x]) := by
  unfold OwnR
  rw [List.length_append, List.flatMap_append]
  simpa using h
end
theorem chg_grown {S : List Nat} {a w w' : World} {v : Value} (h : Chg S a w) (hg : w.grownBy w' v.ownBlock) (hr : ∀ k, v.ownBlock = some k → a.heap.size ≤ k) : Chg S a w' := h.grown hg fun k hk => .inr (hr k hk)
theorem grown_at {w0 w1 : World} {row : Option Nat} {k : Nat} {o : Obj} (hg : w0.grownBy w1 row) (h : w0.heap[k]? = some o) (hk : row ≠ some k) : w1.heap[k]? = some o :=
  (hg.block k (lt_of_block h) (fun e => hk e.symm)).trans h

end Go.Proofs.Yteehenajchdgaaa.R
