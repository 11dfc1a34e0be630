/- A table of questions under way, in memory; frames. -/
import Derived.Test.YtopkbchjlifflaaFlA
import Derived.Test.YtopkbchjlifflaaRecRow
import Derived.Test.YtopkbchjlifflaaTools
namespace Go.Proofs.Ytopkbchjlifflaa
open Go.RowKit Go.Maps

/-- A slot's five cells. -/
structure Ent where
  used : Bool
  q : Qs
  v : Value
def eV (e : Ent) : List Value := [.bool e.used, .string (bytesV e.q.name), .int .u16 (e.q.ty : Nat), .int .u16 (e.q.cl : Nat), e.v]
theorem eV_len (e : Ent) : (eV e).length = 5 := rfl
def wV (x : Wt) : List Value := [.int .i64 x.who, .string (bytesV x.data)]
theorem wV_len (x : Wt) : (wV x).length = 2 := rfl
def sV (s : Nat) : List Value := [.int .i64 (s : Nat)]
theorem sV_len (s : Nat) : (sV s).length = 1 := rfl
theorem flat_set {α : Type} (f : α → List Value) (sz : Nat) (hf : ∀ x, (f x).length = sz) (y : α) (j : Nat) (u : Value) (hj : j < sz) : ∀ (l : List α) (i : Nat) (h : i < l.length), (f l[i]).set j u = f y → (l.flatMap f).set (i * sz + j) u = (l.set i y).flatMap f := by
  intro l
  induction l with
  | nil => intro i h; simp at h
  | cons x l ih =>
    intro i h he
    cases i with
    | zero =>
      simp only [List.getElem_cons_zero] at he
      rw [Nat.zero_mul, Nat.zero_add, List.flatMap_cons, List.set_append_left _ _ (by rw [hf]; exact hj), he]
      rfl
    | succ i =>
      simp only [List.getElem_cons_succ] at he
      rw [Nat.add_mul, Nat.one_mul, List.flatMap_cons, List.set_append_right _ _ (by rw [hf]; omega), hf, show i * sz + sz + j - sz = i * sz + j by omega, ih i (by simpa using h) he]
      rfl
def eRow (es : List Ent) (tl : List Value) : Array Value := (es.flatMap eV ++ tl).toArray
theorem eRow_get {es : List Ent} {tl : List Value} {s : Nat} (h : s < es.length) {j : Nat} {u : Value} (hu : (eV es[s])[j]? = some u) : (eRow es tl)[s * 5 + j]? = some u := by
  have hj : j < 5 := by
    rcases Nat.lt_or_ge j 5 with hh | hh
    · exact hh
    · rw [List.getElem?_eq_none (by rw [eV_len]; exact hh)] at hu; cases hu
  unfold eRow
  have hl : s * 5 + j < (es.flatMap eV).length := by rw [R.flat_len eV 5 eV_len]; omega
  rw [List.getElem?_toArray, List.getElem?_append_left hl, R.flat_get eV 5 eV_len es s h j hj]
  exact hu
theorem eRow_set {es : List Ent} {tl : List Value} {s : Nat} (h : s < es.length) {j : Nat} (hj : j < 5) {u : Value} {e : Ent} (he : (eV es[s]).set j u = eV e) : (eRow es tl).setIfInBounds (s * 5 + j) u = eRow (es.set s e) tl := by
  unfold eRow
  have hl : s * 5 + j < (es.flatMap eV).length := by rw [R.flat_len eV 5 eV_len]; omega
  rw [List.setIfInBounds_toArray, List.set_append_left _ _ hl, flat_set eV 5 eV_len e j u hj es s h he]

def q0 : Qs := ⟨[], 0, 0⟩
/-- What the slot s holds. -/
def qsF (L : List Fl) (s : Nat) : Qs := ((getF L s).map Fl.q).getD q0
structure EntOk (w : World) (L : List Fl) (s : Nat) (e : Ent) : Prop where
  used : e.used = usedF L s
  q : e.q = qsF L s
  ws : R.OwnR 38 2 wV 0 w e.v (wsF L s)

/-- The block tb is a table of n slots, at each of which at most m may wait; its blocks lie in F. -/
structure FTc (F : List Nat) (w : World) (tb n m : Nat) (L : List Fl) (sb mb : Nat) (rv : Value) (es : List Ent) (cp : Nat) (tl : List Value) : Prop where
  head : w.heap[tb]? = some (.cells #[.int .i64 (m : Nat), .slice (some ⟨sb, 0, none⟩) n cp, rv, .map (some mb)] 68 (0, 0))
  ents : w.heap[sb]? = some (.cells (eRow es tl) 85 (0, 0))
  elen : es.length = n
  eok : ∀ s (h : s < es.length), EntOk w L s es[s]
  nd : ∀ s (h : s < es.length) t (h' : t < es.length), s ≠ t → ∀ g, es[s].v.ownBlock = some g → es[t].v.ownBlock ≠ some g
  row : R.OwnR 3 1 sV 0 w rv (slotsF L)
  map : MapQ w mb L
  ok : OkF n m L
  n1 : 1 ≤ n
  n32 : n ≤ 32
  m1 : 1 ≤ m
  m16 : m ≤ 16
  ftb : tb ∈ F
  fsb : sb ∈ F
  fmb : mb ∈ F
  frv : ∀ g, rv.ownBlock = some g → g ∈ F
  fes : ∀ s (h : s < es.length) g, es[s].v.ownBlock = some g → g ∈ F
  flt : ∀ y ∈ F, y < w.heap.size
def FT (F : List Nat) (w : World) (tb n m : Nat) (L : List Fl) : Prop := ∃ sb mb rv es cp tl, FTc F w tb n m L sb mb rv es cp tl

section
variable {F S : List Nat} {w w' : World} {tb n m sb mb : Nat} {rv : Value} {L : List Fl} {es : List Ent} {cp : Nat} {tl : List Value}
theorem EntOk.chg {s : Nat} {e : Ent} (h : EntOk w L s e) (hc : Chg S w w') (hS : ∀ g, e.v.ownBlock = some g → g ∉ S) : EntOk w' L s e := ⟨h.used, h.q, h.ws.chg hc hS⟩
theorem FTc.chg (h : FTc F w tb n m L sb mb rv es cp tl) (hc : Chg S w w') (hS : ∀ y ∈ F, y ∉ S) : FTc F w' tb n m L sb mb rv es cp tl :=
  ⟨hc.keep h.head (hS _ h.ftb), hc.keep h.ents (hS _ h.fsb), h.elen, fun s hs => (h.eok s hs).chg hc (fun g hg => hS g (h.fes s hs g hg)), h.nd, h.row.chg hc (fun g hg => hS g (h.frv g hg)), h.map.chg hc (hS _ h.fmb), h.ok, h.n1, h.n32, h.m1, h.m16, h.ftb, h.fsb, h.fmb, h.frv, h.fes,
   fun y hy => Nat.lt_of_lt_of_le (h.flt y hy) hc.size⟩
theorem FTc.same (h : FTc F w tb n m L sb mb rv es cp tl) (hc : Chg [] w w') : FTc F w' tb n m L sb mb rv es cp tl := h.chg hc (by simp)
theorem FT.chg (h : FT F w tb n m L) (hc : Chg S w w') (hS : ∀ y ∈ F, y ∉ S) : FT F w' tb n m L := by
  obtain ⟨sb, mb, rv, es, cp, tl, h⟩ := h
  exact ⟨sb, mb, rv, es, cp, tl, h.chg hc hS⟩
theorem FT.same (h : FT F w tb n m L) (hc : Chg [] w w') : FT F w' tb n m L := h.chg hc (by simp)
theorem FT.lt (h : FT F w tb n m L) : ∀ y ∈ F, y < w.heap.size := by obtain ⟨_, _, _, _, _, _, h⟩ := h; exact h.flt
theorem FT.ok (h : FT F w tb n m L) : OkF n m L := by obtain ⟨_, _, _, _, _, _, h⟩ := h; exact h.ok
theorem FT.n1 (h : FT F w tb n m L) : 1 ≤ n := by obtain ⟨_, _, _, _, _, _, h⟩ := h; exact h.n1
theorem FT.n32 (h : FT F w tb n m L) : n ≤ 32 := by obtain ⟨_, _, _, _, _, _, h⟩ := h; exact h.n32
theorem FT.m1 (h : FT F w tb n m L) : 1 ≤ m := by obtain ⟨_, _, _, _, _, _, h⟩ := h; exact h.m1
theorem FT.m16 (h : FT F w tb n m L) : m ≤ 16 := by obtain ⟨_, _, _, _, _, _, h⟩ := h; exact h.m16

theorem FTc.cell (h : FTc F w tb n m L sb mb rv es cp tl) {s : Nat} (hs : s < es.length) {j : Nat} {u : Value} (hu : (eV es[s])[j]? = some u) : w.cell? ⟨sb, s * 5 + j, none⟩ = some u := by
  rw [cell_of h.ents]; exact eRow_get hs hu
/-- The cells of the slot s. -/
theorem FTc.cells (h : FTc F w tb n m L sb mb rv es cp tl) {s : Nat} (hs : s < n) : ∃ v, (w.cell? ⟨sb, s * 5, none⟩ = some (.bool (usedF L s))) ∧ w.cell? ⟨sb, s * 5 + 1, none⟩ = some (.string (bytesV (qsF L s).name)) ∧ w.cell? ⟨sb, s * 5 + 2, none⟩ = some (.int .u16 ((qsF L s).ty : Nat))
    ∧ w.cell? ⟨sb, s * 5 + 3, none⟩ = some (.int .u16 ((qsF L s).cl : Nat)) ∧ w.cell? ⟨sb, s * 5 + 4, none⟩ = some v ∧ R.OwnR 38 2 wV 0 w v (wsF L s) := by
  have hl : s < es.length := by rw [h.elen]; exact hs
  obtain ⟨e1, e2, e3⟩ := h.eok s hl
  refine ⟨es[s].v, ?_, ?_, ?_, ?_, ?_, e3⟩
  · have := h.cell hl (j := 0) (u := .bool es[s].used) rfl
    rw [e1] at this
    exact this
  · have := h.cell hl (j := 1) (u := .string (bytesV es[s].q.name)) rfl
    rw [e2] at this
    exact this
  · have := h.cell hl (j := 2) (u := .int .u16 (es[s].q.ty : Nat)) rfl
    rw [e2] at this
    exact this
  · have := h.cell hl (j := 3) (u := .int .u16 (es[s].q.cl : Nat)) rfl
    rw [e2] at this
    exact this
  · exact h.cell hl (j := 4) rfl
end
theorem OkF.okQ {n m : Nat} {L : List Fl} (h : OkF n m L) : ∀ f ∈ L, OkQ f.q := by
  intro f hf
  obtain ⟨h1, h2⟩ := h.name f hf
  have h3 := foldL_len f.q.name
  rw [h2] at h3
  exact ⟨by unfold maxLen; omega, (h.num f hf).1, (h.num f hf).2⟩
theorem OkF.len {n m : Nat} {L : List Fl} (h : OkF n m L) : L.length ≤ n := by
  have := nodupF_le n (slotsF L) h.slots (by intro x hx; obtain ⟨f, hf, rfl⟩ := List.mem_map.1 hx; exact h.low f hf)
  simpa [slotsF] using this

section
variable (F : List Nat) (tb n m : Nat) (L : List Fl) (w : World)
theorem has_nil (s : Int) : Calls Try.prog 36 #[.pointer none, .int .i64 s] w fun e w' => e = .returned (.bool false) ∧ w = w' := by
  go_enter Try.func36, Try.ntmps36
  go_wp2
  go_ret
  exact ⟨rfl, rfl⟩
/-- Is a slot in use? A slot that is none: no. -/
def useF (L : List Fl) (s : Int) : Bool := decide (0 ≤ s) && usedF L s.toNat
theorem has_any (s : Int) (b : Bool) (h : FT F w tb n m L) (hb : Hid (b = useF L s)) :
    Calls Try.prog 36 #[.pointer (some ⟨tb, 0, none⟩), .int .i64 s] w fun e w' => e = .returned (.bool b) ∧ w = w' := by
  obtain ⟨sb, mb, rv, es, cp, tl, h⟩ := h
  have c1 : w.cell? ⟨tb, 1, none⟩ = some (.slice (some ⟨sb, 0, none⟩) n cp) := cell_of h.head
  have hn := h.n32
  by_cases h0 : s < 0
  · have t1 : decide (0 ≤ s) = false := by simp; omega
    have eb : b = false := by rw [hb.out]; unfold useF; rw [t1]; rfl
    subst eb
    clear hb h
    go_enter Try.func36, Try.ntmps36
    go_wp2
    go_ret
    exact ⟨rfl, rfl⟩
  · obtain ⟨k, rfl⟩ : ∃ k : Nat, s = k := ⟨s.toNat, by omega⟩
    have t1 : decide (0 ≤ (k : Int)) = true := by simp
    have eb : b = usedF L k := by rw [hb.out]; unfold useF; rw [t1]; rfl
    by_cases hk : k < n
    · obtain ⟨v, d0, _⟩ := h.cells hk
      rw [← eb] at d0
      have t2 : decide (k < n) = true := by simpa using hk
      have t2I : decide ((k : Int) < (n : Int)) = true := by simp; omega
      clear h hb eb h0
      go_enter Try.func36, Try.ntmps36
      go_wp2
      go_ret
      exact ⟨rfl, rfl⟩
    · have eb' : b = false := by
        rw [eb]
        cases hu : usedF L k with
        | false => rfl
        | true =>
          obtain ⟨f, hf, e⟩ := usedF_iff.1 hu
          have := h.ok.low f hf
          omega
      subst eb'
      have t2 : decide (k < n) = false := by simpa using hk
      have t2I : decide ((k : Int) < (n : Int)) = false := by simp; omega
      clear h hb eb h0
      go_enter Try.func36, Try.ntmps36
      go_wp2
      go_ret
      exact ⟨rfl, rfl⟩
end

end Go.Proofs.Ytopkbchjlifflaa
