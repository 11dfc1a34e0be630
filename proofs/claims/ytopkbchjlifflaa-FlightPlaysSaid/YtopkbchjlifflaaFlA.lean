/- Questions under way, in memory: a question as a value and as a key; the map of questions, by what it holds. -/
import Derived.Test.YtopkbchjlifflaaFlPl
import Derived.Test.YtopkbchjlifflaaNameB
import Derived.DeepKeys5
import Derived.Maps.OwnSet
import Derived.Maps.OwnOps
namespace Go.Proofs.Ytopkbchjlifflaa
open Go.RowKit Go.Maps

theorem Try.laidF : laidOutB Try.prog = true := by kernel_rfl
theorem lawQ : Keyed Try.prog 25 := Keyed.of_law (deep_law_laid Try.laidF (m := 3) (by omega) (of_decide_eq_true (by kernel_rfl)) (by kernel_rfl) (by kernel_rfl))
theorem zeroI (w : World) : (zeroValue 3).run Try.prog w = .ok (.int .i64 0) w := by kernel_rfl

def bytesV (l : List UInt8) : ByteArray := ⟨l.toArray⟩
theorem bytesV_size (l : List UInt8) : (bytesV l).size = l.length := rfl
theorem bytesV_list (l : List UInt8) : (bytesV l).data.toList = l := rfl
theorem bytesV_inj {a b : List UInt8} (h : bytesV a = bytesV b) : a = b := by
  have := congrArg (fun s : ByteArray => s.data.toList) h
  exact this
/-- A question's value, and its key. -/
def qA (q : Qs) : Value := .agg #[.string (bytesV q.name), .int .u16 (q.ty : Nat), .int .u16 (q.cl : Nat)]
def keyQ (q : Qs) : Lit := .string (keyBytes [.string q.name, .int .u16 (q.ty : Nat), .int .u16 (q.cl : Nat)])
structure OkQ (q : Qs) : Prop where
  name : q.name.length ≤ maxLen
  ty : q.ty < 65536
  cl : q.cl < 65536
theorem wf_q16 {x : Nat} (h : x < 65536) : (Lit.int .u16 (x : Int)).wf = true := by
  simp [Lit.wf, IntKind.min, IntKind.max, IntKind.signed, IntKind.bits]
  omega
theorem key_q {q : Qs} (h : OkQ q) : keyOf Try.prog 25 (qA q) = some (keyQ q) := by
  have k1 : Try.prog.keyType 25 = true := by kernel_rfl
  have c1 : Try.prog.cellsOf 25 = 3 := by kernel_rfl
  have c2 : Try.prog.cellsOf 9 = 1 := by kernel_rfl
  have c3 : Try.prog.cellsOf 23 = 1 := by kernel_rfl
  obtain ⟨n, hn⟩ : ∃ n, n + 2 = Try.prog.types.size + 1 := ⟨Try.prog.types.size - 1, by kernel_rfl⟩
  have e1 : (qA q).formed Try.prog 25 = true := by
    simp [Value.formed, Try.underlying25, c1, qA]
  unfold keyOf
  rw [Try.underlying25]
  simp only [k1, e1, Bool.and_self, if_true]
  rw [← hn]
  have hs : (bytesV q.name).size ≤ maxLen := h.name
  have w1 := wf_q16 h.ty
  have w2 := wf_q16 h.cl
  simp [Program.keyLits, Try.underlying25, Try.underlying9, Try.underlying23, c1, c2, c3, qA, Value.cells, hs, w1, w2, keyQ, bytesV_list]
theorem keyQ_inj {a b : Qs} (ha : OkQ a) (hb : OkQ b) (h : keyQ a = keyQ b) : a = b := by
  have e := lawQ.inj (key_q ha) (h ▸ key_q hb)
  unfold qA at e
  injection e with e
  injection e with e
  injection e with e1 e
  injection e with e2 e
  injection e with e3 e
  injection e1 with e1
  injection e2 with _ e2
  injection e3 with _ e3
  obtain ⟨n1, t1, c1⟩ := a
  obtain ⟨n2, t2, c2⟩ := b
  simp only at e1 e2 e3
  have := bytesV_inj e1
  subst this
  congr 1 <;> omega
theorem keyQ_lit (q : Qs) : WideAt.IsKeyLit (keyQ q) := trivial
theorem keyQ_ne {a b : Qs} (ha : OkQ a) (hb : OkQ b) (h : a ≠ b) : keyQ a ≠ keyQ b := fun e => h (keyQ_inj ha hb e)

/-- What the map of questions holds. -/
structure MapG (D : DataW Unit) (L : List Fl) : Prop where
  has : ∀ q, OkQ q → Maps.has D (keyQ q) = (findF L q).isSome
  val : ∀ f ∈ L, ∀ z, D.atKey (keyQ f.q) z = .lit (.int .i64 (f.slot : Nat))
  size : Maps.size D = L.length
/-- The block mb is a map that holds just that. -/
def MapQ (w : World) (mb : Nat) (L : List Fl) : Prop := ∃ D : DataW Unit, w.ownsMap Try.prog 25 (plainElem (H := Unit) Try.prog 3) mb L.length D ∧ MapG D L
theorem ownsQ_tight {w : World} {m n : Nat} {D : DataW Unit} (h : w.ownsMap Try.prog 25 (plainElem (H := Unit) Try.prog 3) m n D) : w.ownsMap Try.prog 25 (plainElem (H := Unit) Try.prog 3) m (Maps.size D) D := by
  obtain ⟨es, clock, hb, F, hs, rfl⟩ := h
  refine ⟨es, clock, hb, F, ?_, rfl⟩
  simp [Maps.size, length_sorted]
theorem MapQ.mk {w : World} {m n : Nat} {D : DataW Unit} {L : List Fl} (h : w.ownsMap Try.prog 25 (plainElem (H := Unit) Try.prog 3) m n D) (hD : MapG D L) : MapQ w m L := ⟨D, by rw [← hD.size]; exact ownsQ_tight h, hD⟩
theorem MapQ.lt {w : World} {m : Nat} {L : List Fl} (h : MapQ w m L) : m < w.heap.size := by obtain ⟨D, h, _⟩ := h; exact h.lt
theorem MapQ.map {w : World} {m : Nat} {L : List Fl} (h : MapQ w m L) : ∃ es clock, w.heap[m]? = some (.map es clock) := by
  obtain ⟨D, ⟨es, clock, hb, _⟩, _⟩ := h
  exact ⟨es, clock, hb⟩
theorem MapQ.keep {w w' : World} {m : Nat} {L : List Fl} (h : MapQ w m L) (hb : w'.heap[m]? = w.heap[m]?) : MapQ w' m L := by
  obtain ⟨D, ⟨es, clock, h1, hr⟩, h2⟩ := h
  exact ⟨D, ⟨es, clock, hb.trans h1, hr⟩, h2⟩
theorem MapQ.chg {w w' : World} {S : List Nat} {m : Nat} {L : List Fl} (h : MapQ w m L) (hc : Chg S w w') (hm : m ∉ S) : MapQ w' m L := h.keep (hc.block m h.lt hm)
theorem mapQ_new (w : World) : MapQ (w.alloc (.map #[] 0)) w.heap.size [] :=
  ⟨.map [], World.ownsMap_made _ _ _ _, ⟨fun x _ => rfl, by simp, rfl⟩⟩
/-- Only what the map holds of slots and questions counts. -/
theorem MapQ.same {w : World} {m : Nat} {L L' : List Fl} (h : MapQ w m L) (e : L'.map (fun f => (f.q, f.slot)) = L.map (fun f => (f.q, f.slot))) : MapQ w m L' := by
  obtain ⟨D, h1, h2⟩ := h
  have hl : L'.length = L.length := by have := congrArg List.length e; simpa using this
  have hf : ∀ q, findF L' q = findF L q := by
    intro q
    have go : ∀ l : List Fl, findF l q = ((l.map (fun f => (f.q, f.slot))).find? fun p => decide (p.1 = q)).map Prod.snd := by
      intro l
      unfold findF
      induction l with
      | nil => rfl
      | cons f l ih =>
        rw [List.map_cons, List.find?_cons, List.find?_cons]
        by_cases hq : f.q = q
        · simp [hq]
        · simp only [hq, decide_false]
          exact ih
    rw [go, go, e]
  refine ⟨D, by rw [hl]; exact h1, ⟨fun q hq => by rw [hf]; exact h2.has q hq, fun f hf' z => ?_, by rw [hl]; exact h2.size⟩⟩
  have : (f.q, f.slot) ∈ L.map (fun f => (f.q, f.slot)) := by rw [← e]; exact List.mem_map.2 ⟨f, hf', rfl⟩
  obtain ⟨g, hg, e2⟩ := List.mem_map.1 this
  injection e2 with e3 e4
  rw [← e3, ← e4]
  exact h2.val g hg z
theorem pair_lit {x : DataW Unit} {ps : List MemPlace} {c s : Int} (h : (x, ps) = (DataW.lit (.int .i64 c), [])) (e : x = .lit (.int .i64 s)) : c = s := by
  have h := congrArg Prod.fst h
  simp only at h
  rw [e] at h
  injection h with h
  injection h with _ h
  exact h.symm
theorem MapQ.look {w : World} {m : Nat} {L : List Fl} (h : MapQ w m L) {q : Qs} (hq : OkQ q) : (Instr.lookup 66 (.map (some m)) (qA q) true).run Try.prog w = .ok (.tuple #[.int .i64 (((findF L q).getD 0 : Nat) : Int), .bool (findF L q).isSome]) w := by
  obtain ⟨D, h0, h1⟩ := h
  obtain ⟨v, ps, hrun, hv⟩ := h0.look_ok lawQ Try.underlying66 (zeroI w) (zd := .lit (.int .i64 0)) (zp := []) (plainElem_int Try.underlying3 (by decide)) (key_q hq)
  rw [hrun, h1.has q hq]
  obtain ⟨c, rfl, hz, _⟩ := plainElem_int_inv Try.underlying3 hv
  cases hh : findF L q with
  | some s =>
    obtain ⟨f, hf, e1, e2⟩ := findF_some hh
    have h3 := h1.val f hf (.lit (.int .i64 0))
    rw [e1] at h3
    have h4 := pair_lit hz h3
    rw [h4, e2]
    rfl
  | none =>
    have hno : Maps.has D (keyQ q) = false := by rw [h1.has q hq, hh]; rfl
    have h4 := pair_lit hz (atKey_of_not_has hno _)
    rw [h4]
    rfl
theorem look_nilQ (w : World) {q : Qs} (hq : OkQ q) : (Instr.lookup 66 (.map none) (qA q) true).run Try.prog w = .ok (.tuple #[.int .i64 0, .bool false]) w := by
  have := Maps.look_nil (w := w) true lawQ Try.underlying66 (zeroI w) (key_q hq)
  simpa using this

theorem findF_append (L : List Fl) (f : Fl) (q : Qs) : findF (L ++ [f]) q = (findF L q).or (if f.q = q then some f.slot else none) := by
  unfold findF
  rw [List.find?_append]
  cases L.find? fun g => decide (g.q = q) with
  | some x => rfl
  | none =>
    by_cases e : f.q = q
    · simp [e]
    · simp [e]
theorem findF_end {L : List Fl} (hs : (slotsF L).Nodup) (hq : (L.map Fl.q).Nodup) {f : Fl} (hf : f ∈ L) {q : Qs} (hne : q ≠ f.q) : findF (endF L f.slot) q = findF L q := by
  cases h : findF L q with
  | some s =>
    obtain ⟨g, hg, e1, e2⟩ := findF_some h
    subst e1; subst e2
    have hgs : g.slot ≠ f.slot := by
      intro e
      have h1 := getF_of hs hg
      have h2 := getF_of hs hf
      rw [e, h2] at h1
      injection h1 with h1
      exact hne (by rw [h1])
    have hg' : g ∈ endF L f.slot := List.mem_filter.2 ⟨hg, by simpa using hgs⟩
    exact findF_of (hq.sublist ((List.filter_sublist).map _)) hg'
  | none =>
    refine findF_none fun g hg e => ?_
    have hg := (List.mem_filter.1 hg).1
    have := findF_of hq hg
    rw [e, h] at this
    cases this

/-- One more. -/
theorem MapG.put {D : DataW Unit} {L : List Fl} (h : MapG D L) (ht : Tidy D) (hL : ∀ f ∈ L, OkQ f.q) {f : Fl} (hq : OkQ f.q) (hn : findF L f.q = none) : MapG (D.put (keyQ f.q) (.lit (.int .i64 (f.slot : Nat)))) (L ++ [f]) := by
  refine ⟨fun q hq' => ?_, fun g hg z => ?_, ?_⟩
  · rw [findF_append]
    by_cases e : q = f.q
    · subst e
      rw [has_put_same ht.isMap (keyQ_lit _), if_pos rfl, hn]
      rfl
    · rw [has_put_other (keyQ_ne hq' hq e), h.has q hq', if_neg (fun h => e h.symm)]
      cases findF L q <;> rfl
  · rcases List.mem_append.1 hg with e | e
    · have hne : g.q ≠ f.q := by
        intro e2
        cases hh : findF L g.q with
        | some s => rw [e2, hn] at hh; cases hh
        | none =>
          unfold findF at hh
          rw [Option.map_eq_none_iff, List.find?_eq_none] at hh
          exact hh g e (by simp)
      rw [atKey_put_other (keyQ_ne (hL g e) hq hne)]
      exact h.val g e z
    · simp at e
      subst e
      exact atKey_put_same ht.isMap (keyQ_lit _) _ _
  · rw [size_put ht, h.has f.q hq, hn, h.size]
    simp
/-- One less. -/
theorem endF_len {L : List Fl} (hs : (slotsF L).Nodup) {f : Fl} (hf : f ∈ L) : (endF L f.slot).length + 1 = L.length := by
  induction L with
  | nil => simp at hf
  | cons g L ih =>
    unfold slotsF at hs
    rw [List.map_cons, List.nodup_cons] at hs
    unfold endF
    rw [List.filter_cons]
    rcases List.mem_cons.1 hf with e | e
    · subst e
      have : L.filter (fun g => !decide (g.slot = f.slot)) = L := by
        rw [List.filter_eq_self]
        intro g hg
        simp
        intro e2
        exact hs.1 (by rw [← e2]; exact List.mem_map.2 ⟨g, hg, rfl⟩)
      simp [this]
    · have hne : ¬ g.slot = f.slot := by
        intro e2
        exact hs.1 (by rw [e2]; exact List.mem_map.2 ⟨f, e, rfl⟩)
      have := ih hs.2 e
      unfold endF at this
      simp [hne]
      omega
theorem MapG.del {D : DataW Unit} {L : List Fl} (h : MapG D L) (ht : Tidy D) (hL : ∀ f ∈ L, OkQ f.q) (hs : (slotsF L).Nodup) (hqs : (L.map Fl.q).Nodup) {f : Fl} (hf : f ∈ L) : MapG (D.del (keyQ f.q)) (endF L f.slot) := by
  refine ⟨fun q hq' => ?_, fun g hg z => ?_, ?_⟩
  · by_cases e : q = f.q
    · subst e
      rw [has_del_same]
      have : findF (endF L f.slot) f.q = none := by
        refine findF_none fun g hg e => ?_
        have h1 := List.mem_filter.1 hg
        have h2 := findF_of hqs h1.1
        rw [e, findF_of hqs hf] at h2
        injection h2 with h2
        have h3 := h1.2
        simp [h2] at h3
      rw [this]
      rfl
    · rw [has_del_other (keyQ_ne hq' (hL f hf) e), h.has q hq', findF_end hs hqs hf e]
  · have h1 := List.mem_filter.1 hg
    have hne : g.q ≠ f.q := by
      intro e
      have h2 := findF_of hqs h1.1
      rw [e, findF_of hqs hf] at h2
      injection h2 with h2
      have h3 := h1.2
      simp [h2] at h3
    rw [atKey_del_other (keyQ_ne (hL g h1.1) (hL f hf) hne)]
    exact h.val g h1.1 z
  · have h1 := size_del (k := keyQ f.q) ht
    have h2 : Maps.has D (keyQ f.q) = true := by rw [h.has f.q (hL f hf), findF_of hqs hf]; rfl
    rw [h2, if_pos rfl, h.size] at h1
    have := endF_len hs hf
    omega

end Go.Proofs.Ytopkbchjlifflaa
