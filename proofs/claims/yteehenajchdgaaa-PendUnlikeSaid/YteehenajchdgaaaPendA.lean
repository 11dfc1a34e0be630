/- A table of IDs that are out, in memory: a map for each upstream, by what it holds; the walks of at, Find, Len. -/
import Derived.Test.YteehenajchdgaaaPendPl
import Derived.Test.YteehenajchdgaaaRef12
import Derived.Test.YteehenajchdgaaaOwn
import Derived.Maps.OwnSet
import Derived.Maps.OwnOps
import Derived.Maps.RangeWalk
namespace Go.Proofs.Yteehenajchdgaaa
open Go.RowKit Go.Maps

theorem lawU : Keyed Try.prog 34 := int_keyed Try.underlying34
theorem zeroI (w : World) : (zeroValue 3).run Try.prog w = .ok (.int .i64 0) w := by kernel_rfl
theorem wf_u16 {x : Nat} (h : x < 65536) : (Lit.int .u16 (x : Int)).wf = true := by
  simp [Lit.wf, IntKind.min, IntKind.max, IntKind.signed, IntKind.bits]
  omega
theorem key_u16 {x : Nat} (h : x < 65536) : keyOf Try.prog 34 (.int .u16 (x : Int)) = some (.int .u16 (x : Int)) := keyOf_int_mk Try.underlying34 (wf_u16 h)
theorem isKeyU (k : Int) : WideAt.IsKeyLit (.int .u16 k) := trivial
theorem litU_ne {a b : Nat} (h : a ≠ b) : (Lit.int .u16 (a : Int)) ≠ .int .u16 (b : Int) := by intro e; injection e with _ e; omega


/-- What a map of numbers holds. -/
structure MapD (D : DataW Unit) (M : List (Nat × Int)) : Prop where
  has : ∀ x : Nat, Maps.has D (.int .u16 (x : Int)) = hasP M x
  val : ∀ p ∈ M, ∀ z, D.atKey (.int .u16 (p.1 : Int)) z = .lit (.int .i64 p.2)
  size : Maps.size D = M.length
  keys : (keysP M).Nodup
  low : ∀ p ∈ M, p.1 < 65536
  slot : ∀ p ∈ M, 0 ≤ p.2 ∧ p.2 < 32
/-- The block m is a map that holds just that. -/
def MapU (w : World) (m : Nat) (M : List (Nat × Int)) : Prop := ∃ D : DataW Unit, w.ownsMap Try.prog 34 (plainElem (H := Unit) Try.prog 3) m M.length D ∧ MapD D M

theorem owns_tight {w : World} {m n : Nat} {D : DataW Unit} (h : w.ownsMap Try.prog 34 (plainElem (H := Unit) Try.prog 3) m n D) : w.ownsMap Try.prog 34 (plainElem (H := Unit) Try.prog 3) m (Maps.size D) D := by
  obtain ⟨es, clock, hb, F, hs, rfl⟩ := h
  refine ⟨es, clock, hb, F, ?_, rfl⟩
  simp [Maps.size, length_sorted]
theorem MapU.mk {w : World} {m n : Nat} {D : DataW Unit} {M : List (Nat × Int)} (h : w.ownsMap Try.prog 34 (plainElem (H := Unit) Try.prog 3) m n D) (hD : MapD D M) : MapU w m M := ⟨D, by rw [← hD.size]; exact owns_tight h, hD⟩
theorem MapU.lt {w : World} {m : Nat} {M : List (Nat × Int)} (h : MapU w m M) : m < w.heap.size := by obtain ⟨D, h, _⟩ := h; exact h.lt
theorem MapU.map {w : World} {m : Nat} {M : List (Nat × Int)} (h : MapU w m M) : ∃ es clock, w.heap[m]? = some (.map es clock) := by
  obtain ⟨D, ⟨es, clock, hb, _⟩, _⟩ := h
  exact ⟨es, clock, hb⟩
theorem MapU.keep {w w' : World} {m : Nat} {M : List (Nat × Int)} (h : MapU w m M) (hb : w'.heap[m]? = w.heap[m]?) : MapU w' m M := by
  obtain ⟨D, ⟨es, clock, h1, hr⟩, h2⟩ := h
  exact ⟨D, ⟨es, clock, hb.trans h1, hr⟩, h2⟩
theorem MapU.chg {w w' : World} {S : List Nat} {m : Nat} {M : List (Nat × Int)} (h : MapU w m M) (hc : Chg S w w') (hm : m ∉ S) : MapU w' m M := h.keep (hc.block m h.lt hm)
theorem mapU_new (w : World) : MapU (w.alloc (.map #[] 0)) w.heap.size [] :=
  ⟨.map [], World.ownsMap_made _ _ _ _, ⟨fun x => rfl, by simp, rfl, by simp [keysP], by simp, by simp⟩⟩

theorem MapU.look {w : World} {m : Nat} {M : List (Nat × Int)} (h : MapU w m M) {x : Nat} (hx : x < 65536) : (Instr.lookup 69 (.map (some m)) (.int .u16 (x : Int)) true).run Try.prog w = .ok (.tuple #[.int .i64 (atP M x), .bool (hasP M x)]) w := by
  obtain ⟨D, h0, h1⟩ := h
  obtain ⟨v, ps, hrun, hv⟩ := h0.look_ok lawU Try.underlying69 (zeroI w) (zd := .lit (.int .i64 0)) (zp := []) (plainElem_int Try.underlying3 (by decide)) (key_u16 hx)
  rw [hrun, h1.has]
  obtain ⟨c, rfl, hz, _⟩ := plainElem_int_inv Try.underlying3 hv
  cases hh : hasP M x with
  | true =>
    obtain ⟨p, hp, e⟩ := List.mem_map.1 (hasP_mem.1 hh)
    subst e
    rw [h1.val p hp] at hz
    injection hz with hz _
    injection hz with hz
    injection hz with _ hz
    rw [atP_of h1.keys hp, hz]
  | false =>
    have hno : Maps.has D (.int .u16 (x : Int)) = false := by rw [h1.has]; exact hh
    rw [atKey_of_not_has hno] at hz
    injection hz with hz _
    injection hz with hz
    injection hz with _ hz
    rw [atP_not hh, ← hz]
theorem look_nilU (w : World) {x : Nat} (hx : x < 65536) : (Instr.lookup 69 (.map none) (.int .u16 (x : Int)) true).run Try.prog w = .ok (.tuple #[.int .i64 0, .bool false]) w := by
  have := Maps.look_nil (w := w) true lawU Try.underlying69 (zeroI w) (key_u16 hx)
  simpa using this
theorem MapU.len {w : World} {m : Nat} {M : List (Nat × Int)} (h : MapU w m M) (ty : TypeId) : (Builtin.len_ #[69] ty #[.map (some m)]).run Try.prog w = .ok (.int .i64 (M.length : Nat)) w := by
  obtain ⟨D, h0, h1⟩ := h
  rw [h0.len Try.underlying69 ty, h1.size]
theorem len_nilU (w : World) (ty : TypeId) : (Builtin.len_ #[69] ty #[.map none]).run Try.prog w = .ok (.int .i64 0) w := Maps.len_nil Try.underlying69 ty

/-- The cells of a row of maps. -/
def mapRow (ms : List Nat) : Array Value := (ms.map fun m => Value.map (some m)).toArray
theorem mapRow_get (ms : List Nat) (i : Nat) (h : i < ms.length) : (mapRow ms)[i]? = some (.map (some ms[i])) := by simp [mapRow, h]

/-- The block tb is a table of n upstreams; ms are its maps; L is what is out. -/
structure PTab (w : World) (tb : Nat) (ms : List Nat) (n : Nat) (L : List Ou) : Prop where
  head : ∃ g, w.heap[tb]? = some (.cells #[.slice (some ⟨g, 0, none⟩) n n] 55 (0, 0)) ∧ w.heap[g]? = some (.cells (mapRow ms) 69 (0, 0))
  len : ms.length = n
  nd : ms.Nodup
  maps : ∀ i (h : i < ms.length), MapU w ms[i] (outsP L (i : Int))
  ok : OkO n L
  n1 : 1 ≤ n
  n9 : n ≤ 9
theorem PTab.lt {w : World} {tb : Nat} {ms : List Nat} {n : Nat} {L : List Ou} (h : PTab w tb ms n L) : tb < w.heap.size := by
  obtain ⟨g, h1, _⟩ := h.head; exact lt_of_block h1
theorem PTab.mlt {w : World} {tb : Nat} {ms : List Nat} {n : Nat} {L : List Ou} (h : PTab w tb ms n L) : ∀ m ∈ ms, m < w.heap.size := by
  intro m hm
  obtain ⟨i, hi, rfl⟩ := List.getElem_of_mem hm
  exact (h.maps i hi).lt
/-- Blocks that may change beside a table: maps that are not its own, tapes, and the document's. -/
def Odd (S : List Nat) (w : World) : Prop := ∀ k ∈ S, ∀ c t f, w.heap[k]? = some (.cells c t f) → t = 76 ∨ t = 63 ∨ t = 79
theorem odd_nil (w : World) : Odd [] w := fun k hk => by cases hk
theorem odd_one {w : World} {b : Nat} {c : Array Value} {t : TypeId} {f : Nat × Nat} (h : w.heap[b]? = some (.cells c t f)) (ht : t = 76 ∨ t = 63 ∨ t = 79) : Odd [b] w := by
  intro k hk c' t' f' e
  simp at hk
  subst hk
  rw [h] at e
  cases e
  exact ht
theorem Odd.app {S T : List Nat} {w : World} (h : Odd S w) (h' : Odd T w) : Odd (S ++ T) w := fun k hk => by
  rcases List.mem_append.1 hk with e | e
  · exact h k e
  · exact h' k e
theorem PTab.odd {w : World} {tb : Nat} {ms : List Nat} {n : Nat} {L : List Ou} (h : PTab w tb ms n L) : Odd ms w := by
  intro m hm c t f e
  obtain ⟨i, hi, rfl⟩ := List.getElem_of_mem hm
  obtain ⟨es, clock, hb⟩ := (h.maps i hi).map
  rw [hb] at e
  cases e
theorem PTab.chg {w w' : World} {S : List Nat} {tb : Nat} {ms : List Nat} {n : Nat} {L : List Ou} (h : PTab w tb ms n L) (hc : Chg S w w') (ho : Odd S w) (hm : ∀ m ∈ ms, m ∉ S) : PTab w' tb ms n L := by
  obtain ⟨g, h1, h2⟩ := h.head
  refine ⟨⟨g, hc.keep h1 ?_, hc.keep h2 ?_⟩, h.len, h.nd, fun i hi => (h.maps i hi).chg hc (hm _ (List.getElem_mem hi)), h.ok, h.n1, h.n9⟩
  · intro hk; rcases ho _ hk _ _ _ h1 with e | e | e <;> exact absurd e (by decide)
  · intro hk; rcases ho _ hk _ _ _ h2 with e | e | e <;> exact absurd e (by decide)
theorem PTab.same {w w' : World} {tb : Nat} {ms : List Nat} {n : Nat} {L : List Ou} (h : PTab w tb ms n L) (hc : Chg [] w w') : PTab w' tb ms n L := h.chg hc (odd_nil w) (by simp)
theorem tape_chg {S : List Nat} {w w' : World} {b seed : Nat} {l : List Nat} {n : Nat} (h : D.TapeAt w b seed l n) (hc : Chg S w w') (ho : Odd S w) (hb : b ∉ S) : D.TapeAt w' b seed l n := by
  obtain ⟨nb, sb, v, h1, h2, h3, h4⟩ := h
  refine ⟨nb, sb, v, hc.keep h1 hb, hc.keep h2 ?_, hc.keep h3 ?_, D.nums_chg h4 hc ?_⟩
  · intro hk; rcases ho _ hk _ _ _ h2 with e | e | e <;> exact absurd e (by decide)
  · intro hk; rcases ho _ hk _ _ _ h3 with e | e | e <;> exact absurd e (by decide)
  · intro k hk c f e; rcases ho _ hk _ _ _ e with e | e | e <;> exact absurd e (by decide)
theorem tape_odd {w : World} {b seed : Nat} {l : List Nat} {n : Nat} (h : D.TapeAt w b seed l n) : Odd [b] w := by
  obtain ⟨nb, sb, v, h1, _⟩ := h
  exact odd_one h1 (.inl rfl)
theorem PTab.not_tape {w : World} {tb : Nat} {ms : List Nat} {n : Nat} {L : List Ou} (h : PTab w tb ms n L) {b seed : Nat} {l : List Nat} {k : Nat} (ht : D.TapeAt w b seed l k) : ∀ m ∈ ms, m ≠ b := by
  intro m hm e
  obtain ⟨i, hi, rfl⟩ := List.getElem_of_mem hm
  obtain ⟨es, clock, hb⟩ := (h.maps i hi).map
  obtain ⟨nb, sb, v, h1, _⟩ := ht
  rw [e, h1] at hb
  cases hb

section
variable (tb : Nat) (ms : List Nat) (n : Nat) (L : List Ou) (w : World)
theorem at_in (i : Nat) (h : PTab w tb ms n L) (hi : i < ms.length) :
    Calls Try.prog 30 #[.pointer (some ⟨tb, 0, none⟩), .int .i64 (i : Nat)] w fun e w' => e = .returned (.map (some ms[i])) ∧ w = w' := by
  obtain ⟨g, h1, h2⟩ := h.head
  have hl := h.len
  have h9 := h.n9
  have c0 : w.cell? ⟨tb, 0, none⟩ = some (.slice (some ⟨g, 0, none⟩) n n) := cell_of h1
  have c1 : w.cell? ⟨g, i, none⟩ = some (.map (some ms[i])) := by rw [cell_of h2]; exact mapRow_get ms i hi
  obtain ⟨m, hm⟩ : ∃ m, m = ms[i] := ⟨_, rfl⟩
  rw [← hm] at c1 ⊢
  have hin : i < n := by omega
  have t1 : decide ((i : Int) < 0) = false := by simp
  have t2 : decide (n ≤ i) = false := by simp; omega
  clear hm h1 h2 h hl hi
  go_enter Try.func30, Try.ntmps30
  go_wp2
  go_ret
  exact ⟨rfl, rfl⟩
theorem at_out (u : Int) (h : PTab w tb ms n L) (hu : u < 0 ∨ (n : Int) ≤ u) :
    Calls Try.prog 30 #[.pointer (some ⟨tb, 0, none⟩), .int .i64 u] w fun e w' => e = .returned (.map none) ∧ w = w' := by
  obtain ⟨g, h1, h2⟩ := h.head
  have h9 := h.n9
  have c0 : w.cell? ⟨tb, 0, none⟩ = some (.slice (some ⟨g, 0, none⟩) n n) := cell_of h1
  clear h1 h2 h
  by_cases h0 : u < 0
  · have t1 : decide (u < 0) = true := by simpa using h0
    clear hu
    go_enter Try.func30, Try.ntmps30
    go_wp2
    go_ret
    exact ⟨rfl, rfl⟩
  · have t1 : decide (u < 0) = false := by simpa using h0
    have t2 : decide ((n : Int) ≤ u) = true := by simp; omega
    clear hu
    go_enter Try.func30, Try.ntmps30
    go_wp2
    go_ret
    exact ⟨rfl, rfl⟩
theorem at_nil (u : Int) : Calls Try.prog 30 #[.pointer none, .int .i64 u] w fun e w' => e = .returned (.map none) ∧ w = w' := by
  go_enter Try.func30, Try.ntmps30
  go_wp2
  go_ret
  exact ⟨rfl, rfl⟩
theorem find_none (p : Option Addr) (u : Int) (x : Nat) (hx : x < 65536) (hat : Calls Try.prog 30 #[.pointer p, .int .i64 u] w fun e w' => e = .returned (.map none) ∧ w = w') :
    Calls Try.prog 13 #[.pointer p, .int .i64 u, .int .u16 (x : Nat)] w fun e w' => e = .returned (.tuple #[.int .i64 0, .bool false]) ∧ w = w' := by
  have hk := look_nilU w hx
  go_enter Try.func13, Try.ntmps13
  go_wp2_with fail
  refine hat.mono ?_
  rintro e w1 ⟨rfl, rfl⟩
  go_wp2
  go_ret2
  exact ⟨rfl, rfl⟩
theorem find_any (u : Int) (x : Nat) (a : Int) (b : Bool) (h : PTab w tb ms n L) (hx : x < 65536) (ha : Hid (a = atO L u x)) (hb : Hid (b = hasO L u x)) :
    Calls Try.prog 13 #[.pointer (some ⟨tb, 0, none⟩), .int .i64 u, .int .u16 (x : Nat)] w fun e w' => e = .returned (.tuple #[.int .i64 a, .bool b]) ∧ w = w' := by
  rw [ha.out, hb.out]
  by_cases hu : u < 0 ∨ (n : Int) ≤ u
  · have e := outs_out h.ok hu
    have e1 : atO L u x = 0 := by unfold atO; rw [e]; rfl
    have e2 : hasO L u x = false := by unfold hasO; rw [e]; rfl
    rw [e1, e2]
    exact find_none w _ u x hx (at_out tb ms n L w u h hu)
  · obtain ⟨i, rfl⟩ : ∃ i : Nat, u = i := ⟨u.toNat, by omega⟩
    have hi : i < ms.length := by have := h.len; omega
    have hat := at_in tb ms n L w i h hi
    have hk := (h.maps i hi).look hx
    obtain ⟨m, hm⟩ : ∃ m, m = ms[i] := ⟨_, rfl⟩
    rw [← hm] at hat hk
    have e1 : atP (outsP L (i : Int)) x = atO L (i : Int) x := rfl
    have e2 : hasP (outsP L (i : Int)) x = hasO L (i : Int) x := rfl
    rw [e1, e2] at hk
    obtain ⟨a', ha'⟩ : ∃ a', a' = atO L (i : Int) x := ⟨_, rfl⟩
    obtain ⟨b', hb'⟩ : ∃ b', b' = hasO L (i : Int) x := ⟨_, rfl⟩
    rw [← ha', ← hb'] at hk ⊢
    clear hm h hi hu ha hb ha' hb' e1 e2
    go_enter Try.func13, Try.ntmps13
    go_wp2_with fail
    refine hat.mono ?_
    rintro e w1 ⟨rfl, rfl⟩
    go_wp2
    go_ret2
    exact ⟨rfl, rfl⟩
theorem len_none (p : Option Addr) (u : Int) (hat : Calls Try.prog 30 #[.pointer p, .int .i64 u] w fun e w' => e = .returned (.map none) ∧ w = w') :
    Calls Try.prog 14 #[.pointer p, .int .i64 u] w fun e w' => e = .returned (.int .i64 0) ∧ w = w' := by
  have hk := len_nilU w
  go_enter Try.func14, Try.ntmps14
  go_wp2_with fail
  refine hat.mono ?_
  rintro e w1 ⟨rfl, rfl⟩
  go_wp2
  go_ret
  exact ⟨rfl, rfl⟩
theorem len_any (u : Int) (k : Nat) (h : PTab w tb ms n L) (hk : Hid (k = lenO L u)) :
    Calls Try.prog 14 #[.pointer (some ⟨tb, 0, none⟩), .int .i64 u] w fun e w' => e = .returned (.int .i64 (k : Nat)) ∧ w = w' := by
  rw [hk.out]
  by_cases hu : u < 0 ∨ (n : Int) ≤ u
  · have e := outs_out h.ok hu
    have e1 : lenO L u = 0 := by unfold lenO; rw [e]; rfl
    rw [e1]
    exact len_none w _ u (at_out tb ms n L w u h hu)
  · obtain ⟨i, rfl⟩ : ∃ i : Nat, u = i := ⟨u.toNat, by omega⟩
    have hi : i < ms.length := by have := h.len; omega
    have hat := at_in tb ms n L w i h hi
    have hk' := fun ty => (h.maps i hi).len ty
    obtain ⟨m, hm⟩ : ∃ m, m = ms[i] := ⟨_, rfl⟩
    rw [← hm] at hat hk'
    have e1 : (outsP L (i : Int)).length = lenO L (i : Int) := rfl
    rw [e1] at hk'
    obtain ⟨a', ha'⟩ : ∃ a', a' = lenO L (i : Int) := ⟨_, rfl⟩
    rw [← ha'] at hk' ⊢
    clear hm h hi hu hk ha' e1
    go_enter Try.func14, Try.ntmps14
    go_wp2_with fail
    refine hat.mono ?_
    rintro e w1 ⟨rfl, rfl⟩
    go_wp2
    go_ret
    exact ⟨rfl, rfl⟩
end

end Go.Proofs.Yteehenajchdgaaa
