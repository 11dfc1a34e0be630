/- Questions under way, as plain data: in the row in which they began. -/
import Derived.Test.YtopkbchjlifflaaNamePl
namespace Go.Proofs.Ytopkbchjlifflaa

structure Qs where
  name : List UInt8
  ty : Nat
  cl : Nat
deriving DecidableEq
structure Wt where
  who : Int
  data : List UInt8
deriving DecidableEq
/-- One that is under way: its slot, its question, who waits. -/
structure Fl where
  slot : Nat
  q : Qs
  ws : List Wt
def foldQ (q : Qs) : Qs := ⟨foldL q.name, q.ty, q.cl⟩
theorem foldQ_again (q : Qs) : foldQ (foldQ q) = foldQ q := by unfold foldQ; rw [foldL_again]
def slotsF (L : List Fl) : List Nat := L.map Fl.slot
def usedF (L : List Fl) (s : Nat) : Bool := L.any fun f => decide (f.slot = s)
def getF (L : List Fl) (s : Nat) : Option Fl := L.find? fun f => decide (f.slot = s)
def wsF (L : List Fl) (s : Nat) : List Wt := ((getF L s).map Fl.ws).getD []
def findF (L : List Fl) (q : Qs) : Option Nat := (L.find? fun f => decide (f.q = q)).map Fl.slot
/-- The least slot from s on, below n, that is free. -/
def freeF (L : List Fl) (n : Nat) : Nat → Nat → Option Nat
  | 0, _ => none
  | k + 1, s => if s < n then (if usedF L s then freeF L n k (s + 1) else some s) else none
theorem nodupF_le (n : Nat) : ∀ (l : List Nat), l.Nodup → (∀ x ∈ l, x < n) → l.length ≤ n := by
  induction n with
  | zero =>
    intro l _ hlt
    cases l with
    | nil => simp
    | cons x l => exact absurd (hlt x (by simp)) (by simp)
  | succ n ih =>
    intro l hnd hlt
    have h1 := ih (l.erase n) (hnd.erase n) (fun x hx => by
      have h2 := (hnd.mem_erase_iff).1 hx
      have := hlt x h2.2
      omega)
    have h2 : l.length - 1 ≤ (l.erase n).length := by
      rw [List.length_erase]; split <;> omega
    omega
structure OkF (n m : Nat) (L : List Fl) : Prop where
  slots : (slotsF L).Nodup
  low : ∀ f ∈ L, f.slot < n
  qs : (L.map Fl.q).Nodup
  name : ∀ f ∈ L, mayB f.q.name = true ∧ foldL f.q.name = f.q.name
  num : ∀ f ∈ L, f.q.ty < 65536 ∧ f.q.cl < 65536
  wait : ∀ f ∈ L, f.ws.length ≤ m
theorem okF_nil (n m : Nat) : OkF n m [] := ⟨by simp [slotsF], by simp, by simp, by simp, by simp, by simp⟩
theorem OkF.sub {n m : Nat} {L M : List Fl} (h : OkF n m L) (hs : M.Sublist L) : OkF n m M :=
  ⟨h.slots.sublist (hs.map _), fun f hf => h.low f (hs.subset hf), h.qs.sublist (hs.map _), fun f hf => h.name f (hs.subset hf), fun f hf => h.num f (hs.subset hf), fun f hf => h.wait f (hs.subset hf)⟩
theorem usedF_iff {L : List Fl} {s : Nat} : usedF L s = true ↔ ∃ f ∈ L, f.slot = s := by
  unfold usedF
  rw [List.any_eq_true]
  constructor
  · rintro ⟨f, hf, e⟩; exact ⟨f, hf, by simpa using e⟩
  · rintro ⟨f, hf, e⟩; exact ⟨f, hf, by simpa using e⟩
theorem getF_of {L : List Fl} (hn : (slotsF L).Nodup) {f : Fl} (hf : f ∈ L) : getF L f.slot = some f := by
  unfold getF
  induction L with
  | nil => simp at hf
  | cons g L ih =>
    unfold slotsF at hn
    rw [List.map_cons, List.nodup_cons] at hn
    rw [List.find?_cons]
    rcases List.mem_cons.1 hf with e | e
    · subst e; simp
    · have : decide (g.slot = f.slot) = false := by
        simp
        intro e2
        exact hn.1 (by rw [e2]; exact List.mem_map.2 ⟨f, e, rfl⟩)
      rw [this]
      exact ih hn.2 e
theorem getF_none {L : List Fl} {s : Nat} (h : usedF L s = false) : getF L s = none := by
  unfold getF
  rw [List.find?_eq_none]
  intro f hf
  unfold usedF at h
  rw [List.any_eq_false] at h
  exact h f hf
theorem getF_some {L : List Fl} {s : Nat} {f : Fl} (h : getF L s = some f) : f ∈ L ∧ f.slot = s := by
  unfold getF at h
  have h1 := List.mem_of_find?_eq_some h
  have h2 := List.find?_some h
  exact ⟨h1, by simpa using h2⟩
theorem findF_of {L : List Fl} (hn : (L.map Fl.q).Nodup) {f : Fl} (hf : f ∈ L) : findF L f.q = some f.slot := by
  unfold findF
  induction L with
  | nil => simp at hf
  | cons g L ih =>
    rw [List.map_cons, List.nodup_cons] at hn
    rw [List.find?_cons]
    rcases List.mem_cons.1 hf with e | e
    · subst e; simp
    · have : decide (g.q = f.q) = false := by
        simp
        intro e2
        exact hn.1 (by rw [e2]; exact List.mem_map.2 ⟨f, e, rfl⟩)
      rw [this]
      exact ih hn.2 e
theorem findF_none {L : List Fl} {q : Qs} (h : ∀ f ∈ L, f.q ≠ q) : findF L q = none := by
  unfold findF
  rw [List.find?_eq_none.2 (fun f hf => by simpa using h f hf)]
  rfl
theorem findF_some {L : List Fl} {q : Qs} {s : Nat} (h : findF L q = some s) : ∃ f ∈ L, f.q = q ∧ f.slot = s := by
  unfold findF at h
  obtain ⟨f, hf, e⟩ := Option.map_eq_some_iff.1 h
  exact ⟨f, List.mem_of_find?_eq_some hf, by simpa using List.find?_some hf, e⟩
theorem freeF_spec (L : List Fl) (n : Nat) : ∀ k s, n ≤ s + k → (freeF L n k s = none ∧ ∀ i, s ≤ i → i < n → usedF L i = true) ∨ ∃ i, freeF L n k s = some i ∧ s ≤ i ∧ i < n ∧ usedF L i = false ∧ ∀ j, s ≤ j → j < i → usedF L j = true
  | 0, s, h => .inl ⟨rfl, fun i h1 h2 => by omega⟩
  | k + 1, s, h => by
    rw [freeF]
    by_cases hs : s < n
    · rw [if_pos hs]
      cases hu : usedF L s with
      | true =>
        rw [if_pos rfl]
        rcases freeF_spec L n k (s + 1) (by omega) with ⟨h1, h2⟩ | ⟨i, h1, h2, h3, h4, h5⟩
        · refine .inl ⟨h1, fun i a b => ?_⟩
          by_cases e : i = s
          · rw [e]; exact hu
          · exact h2 i (by omega) b
        · refine .inr ⟨i, h1, by omega, h3, h4, fun j a b => ?_⟩
          by_cases e : j = s
          · rw [e]; exact hu
          · exact h5 j (by omega) b
      | false =>
        rw [if_neg (by simp)]
        exact .inr ⟨s, rfl, Nat.le_refl _, hs, hu, fun j a b => by omega⟩
    · rw [if_neg hs]
      exact .inl ⟨rfl, fun i a b => by omega⟩
/-- Begin, Join, End. -/
def beginF (L : List Fl) (n : Nat) (q : Qs) : List Fl × Nat × Nat :=
  if mayB q.name then (if (findF L (foldQ q)).isSome then (L, 0, 7) else match freeF L n n 0 with | some s => (L ++ [⟨s, foldQ q, []⟩], s, 0) | none => (L, 0, 9)) else (L, 0, 1)
def setW (L : List Fl) (s : Nat) (ws : List Wt) : List Fl := L.map fun f => if f.slot = s then ⟨f.slot, f.q, ws⟩ else f
def endF (L : List Fl) (s : Nat) : List Fl := L.filter fun f => !decide (f.slot = s)

end Go.Proofs.Ytopkbchjlifflaa
