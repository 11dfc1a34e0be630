/- The walks of package draw: slices.Clone, from, New. -/
import Derived.Test.YteehenajchdgaaaDrawB
import Derived.WalkSpells
namespace Go.Proofs.Yteehenajchdgaaa.D
open Go.RowKit

/-- The slice v reads as the numbers l, wherever it lies. -/
def Reads (k : IntKind) (w : World) (v : Value) (l : List Nat) : Prop :=
  ∃ a c, v = .slice a l.length c ∧ (a = none → c = 0) ∧ (l ≠ [] → a ≠ none) ∧ ∀ p, a = some p → ∀ i (h : i < l.length), w.cell? (p.add i) = some (.int k l[i])

theorem Reads.chg {S : List Nat} {k : IntKind} {w w' : World} {v : Value} {l : List Nat} (h : Reads k w v l) (hc : Chg S w w') (hS : ∀ a n c, v = .slice (some a) n c → a.block ∉ S) : Reads k w' v l := by
  obtain ⟨a, c, hv, h1, h2, h3⟩ := h
  refine ⟨a, c, hv, h1, h2, fun p hp i hi => hc.cell (h3 p hp i hi) ?_⟩
  have : (p.add i).block = p.block := by unfold Addr.add; split <;> rfl
  rw [this]
  exact hS p _ _ (by rw [hv, hp])

theorem Try.elem64 : (Try.prog.info? 22).map (fun i => (i.zero, i.size, i.bytes)) = some (some (.int .u64 0), 1, 8) := by kernel_rfl

theorem clone_nil (w : World) :
    Calls Try.prog 33 #[.slice none 0 0] w fun e w' => e = .returned (.slice none 0 0) ∧ w = w' := by
  have hq := @Lib.run_eql_slice_nil
  go_enter Try.func33, Try.ntmps33
  go_wp2
  go_ret
  exact ⟨rfl, rfl⟩

theorem nums_of_owns {w : World} {base : Nat} {v : Value} {l : List Nat} (hl : l.length ≤ maxLen) (hb : ∀ x ∈ l, x < 18446744073709551616)
    (h : w.ownsRow base 22 1 v (0 + l.length) ([] ++ l.map fun (x : Nat) => Value.int .u64 x)) : Nums w v l := by
  simp only [Nat.zero_add, List.nil_append] at h
  refine ⟨hl, hb, ?_⟩
  obtain ⟨_, h⟩ := h
  rcases h with ⟨hv, hn⟩ | ⟨g, cap, cur, hv, _, hh, _, _, _, ht⟩
  · left; exact ⟨List.length_eq_zero_iff.1 hn, none, 0, hv.trans (by rw [])⟩
  · right
    refine ⟨g, cap, cur, _, hv, hh, fun i hi => ?_⟩
    have e1 : (cur.toList.take (l.length * 1))[i]? = some (.int .u64 l[i]) := by
      rw [ht]; simp [hi]
    rw [List.getElem?_take, if_pos (by omega)] at e1
    simpa using e1

theorem owns_empty (w : World) (t : TypeId) : (w.alloc (.cells #[] t)).ownsRow w.heap.size t 1 (.slice (some ⟨w.heap.size, 0, none⟩) 0 0) 0 [] :=
  ⟨rfl, .inr ⟨w.heap.size, 0, #[], rfl, Nat.le_refl _, heap_new _ _, Nat.le_refl _, Nat.zero_le _, rfl, rfl⟩⟩

theorem news_int {w : World} {p : Addr} {k : IntKind} {l : List Nat} (hc : ∀ i (h : i < l.length), w.cell? (p.add i) = some (.int k l[i])) :
    ∀ j u, (l.map fun (x : Nat) => Value.int k x)[j]? = some u → w.cell? (p.add j) = some u := by
  intro j u hu
  have hj : j < l.length := by
    rcases Nat.lt_or_ge j l.length with h | h
    · exact h
    · simp [List.getElem?_eq_none (by simpa using h)] at hu
  rw [hc j hj]
  simp [hj] at hu
  rw [hu]

theorem news_one {k : IntKind} {l : List Nat} : ∀ u ∈ (l.map fun (x : Nat) => Value.int k x), u.oneCell' = true := by
  intro u hu
  simp at hu
  obtain ⟨x, _, rfl⟩ := hu
  rfl

theorem add_block (p : Addr) (i : Nat) : (p.add i).block = p.block := by unfold Addr.add; split <;> rfl

/-- What the numbers of a row are does not hang on blocks below base. -/
def StableNums (base : Nat) (w : World) (v : Value) (l : List Nat) : Prop := ∀ S w', Chg S w w' → (∀ k ∈ S, k < base) → Nums w' v l

theorem owns_stable {w w' : World} {base : Nat} {t : TypeId} {sz : Nat} {v : Value} {n : Nat} {xs : List Value} {S : List Nat} (h : w.ownsRow base t sz v n xs) (hc : Chg S w w') (hS : ∀ k ∈ S, k < base) : w'.ownsRow base t sz v n xs := by
  obtain ⟨h1, h2⟩ := h
  refine ⟨h1, ?_⟩
  rcases h2 with h2 | ⟨g, cap, cur, hv, hg, hh, r⟩
  · exact .inl h2
  · exact .inr ⟨g, cap, cur, hv, hg, hc.keep hh fun hk => by have := hS g hk; omega, r⟩

theorem clone_some (p : Addr) (c : Nat) (l : List Nat) (w : World) (hl : l.length ≤ 1000000) (hb : ∀ x ∈ l, x < 18446744073709551616) (hlt : l ≠ [] → p.block < w.heap.size)
    (hc : ∀ i (h : i < l.length), w.cell? (p.add i) = some (.int .u64 l[i])) :
    Calls Try.prog 33 #[.slice (some p) l.length c] w fun e w' => ∃ v, e = .returned v ∧ Nums w' v l ∧ Chg [] w w' ∧ StableNums w.heap.size w' v l := by
  have hq := @Lib.run_eql_slice_nil
  obtain ⟨i0, hi, hz0, hz1, hz2⟩ := info_parts Try.elem64
  have hown := owns_empty w 22
  have hnews : ∀ j u, (l.map fun (x : Nat) => Value.int .u64 x)[j]? = some u → (w.alloc (.cells #[] 22)).cell? (p.add j) = some u := by
    refine news_int fun i h => ?_
    rw [World.cell?_alloc_lt _ _ _ (by rw [add_block]; exact hlt (by intro e; subst e; simp at h))]
    exact hc i h
  have HC := Lib.hid hc
  have HB := Lib.hid hb
  have HL := Lib.hid hlt
  clear hc hb hlt
  have hmax : Hid (0 + l.length ≤ maxLen) := by show _ ≤ _; unfold maxLen; omega
  go_enter Try.func33, Try.ntmps33
  go_wp2_with (at_builtin; refine wpList_append_own _ rfl _ _ 23 rfl w.heap.size 22 i0 (.int .u64 0) 1 8 Try.underlying23 hi hz0 hz1 hz2 rfl (by decide) _ 0 [] rfl hown p l.length c (l.map fun (x : Nat) => Value.int .u64 x) rfl (by simp) hnews news_one hmax.out (by omega) (by simp) ?_; intro v1 w1 hown1 hg1 _)
  go_ret
  refine ⟨_, rfl, nums_of_owns (by have := hmax.out; omega) HB.out hown1, ((Chg.refl [] w).alloc _).grown hg1 ?_, fun S w2 hc hS => nums_of_owns (by have := hmax.out; omega) HB.out (owns_stable hown1 hc hS)⟩
  intro k hk
  injection hk with hk
  subst hk
  exact .inr (Nat.le_refl _)

/-- from: what it returns, and the two boxes. -/
theorem from_any (seed : Nat) (a : Option Addr) (n c : Nat) (w : World) :
    Calls Try.prog 32 #[.int .u64 seed, .slice a n c] w fun e w' => e = .returned (srcOf (w.heap.size + 1) w.heap.size) ∧ w' = (w.alloc (.cells #[.int .u64 seed] 22)).alloc (.cells #[.slice a n c] 23) := by
  go_enter Try.func32, Try.ntmps32
  go_wp2
  go_ret
  exact ⟨rfl, rfl⟩

theorem Nums.slice {w : World} {v : Value} {l : List Nat} (h : Nums w v l) : ∃ a c, v = .slice a l.length c := by
  obtain ⟨_, _, h⟩ := h
  rcases h with ⟨rfl, a, c, rfl⟩ | ⟨r, c, cs, f, rfl, hr, hcs⟩
  · exact ⟨a, c, rfl⟩
  · exact ⟨_, _, rfl⟩

theorem clone_any (v : Value) (l : List Nat) (w : World) (hl : l.length ≤ 1000000) (hb : ∀ x ∈ l, x < 18446744073709551616) (hv : Reads .u64 w v l) :
    Calls Try.prog 33 #[v] w fun e w' => ∃ v, e = .returned v ∧ Nums w' v l ∧ Chg [] w w' ∧ StableNums w.heap.size w' v l := by
  obtain ⟨a, c, rfl, hn, hnn, hc⟩ := hv
  cases a with
  | none =>
    have hle : l = [] := Classical.byContradiction fun h => hnn h rfl
    have : c = 0 := hn rfl
    subst hle; subst this
    refine (clone_nil w).mono ?_
    rintro e w' ⟨rfl, rfl⟩
    exact ⟨_, rfl, ⟨Nat.zero_le _, by simp, .inl ⟨rfl, _, _, rfl⟩⟩, Chg.refl _ _, fun _ _ _ _ => ⟨Nat.zero_le _, by simp, .inl ⟨rfl, _, _, rfl⟩⟩⟩
  | some p =>
    refine clone_some p c l w hl hb ?_ (hc p rfl)
    intro hne
    have hpos : 0 < l.length := List.length_pos_iff.2 hne
    have := World.block_lt_of_cell? _ _ (hc p rfl 0 hpos)
    rwa [add_block] at this

/-- A new tape; it does not hang on what was there before it. -/
theorem new_fresh (seed : Nat) (v : Value) (l : List Nat) (w : World) (hl : l.length ≤ 1000000) (hb : ∀ x ∈ l, x < 18446744073709551616) (hv : Reads .u64 w v l) :
    Calls Try.prog 18 #[.int .u64 seed, v] w fun e w' => ∃ b, e = .returned (.pointer (some ⟨b, 0, none⟩)) ∧ w.heap.size ≤ b ∧ TapeAt w' b seed l 0 ∧ Chg [] w w' ∧
      ∀ S w2, Chg S w' w2 → (∀ k ∈ S, k < w.heap.size) → TapeAt w2 b seed l 0 := by
  have hcl := clone_any v l w hl hb hv
  obtain ⟨a, c, rfl, hn, hnn, hc⟩ := hv
  clear hn hnn hc hb
  go_enter Try.func18, Try.ntmps18
  go_wp2_with fail
  refine hcl.mono ?_
  rintro e w1 ⟨v1, rfl, hv1, hc1, hst⟩
  obtain ⟨a1, c1, hv2⟩ := hv1.slice
  rw [hv2] at hv1 hst ⊢
  clear hv2
  have HST := Lib.hid hst
  clear hst
  go_wp2_with fail
  refine (from_any seed a1 l.length c1 w1).mono ?_
  rintro e w2 ⟨rfl, rfl⟩
  unfold srcOf
  go_wp2
  go_ret
  have hsz := hc1.size
  have g1 := heap_new' ((w1.alloc (.cells #[.int .u64 seed] 22)).alloc (.cells #[.slice a1 l.length c1] 23)) (.cells #[srcOf (w1.heap.size + 1) w1.heap.size, .int .i64 (0 : Nat)] 76) (w1.heap.size + 1 + 1) (by simp)
  have g2 := heap_old (o := .cells #[srcOf (w1.heap.size + 1) w1.heap.size, .int .i64 (0 : Nat)] 76) (heap_new' (w1.alloc (.cells #[.int .u64 seed] 22)) (.cells #[.slice a1 l.length c1] 23) (w1.heap.size + 1) (by simp))
  have g3 := heap_old (o := .cells #[srcOf (w1.heap.size + 1) w1.heap.size, .int .i64 (0 : Nat)] 76) (heap_old (o := .cells #[.slice a1 l.length c1] 23) (heap_new w1 (.cells #[.int .u64 seed] 22)))
  refine ⟨_, rfl, ?_, ⟨w1.heap.size + 1, w1.heap.size, .slice a1 l.length c1, g1, g2, g3, ?_⟩, ?_, ?_⟩
  · omega
  · exact nums_chg (S := []) hv1 ((((Chg.refl _ _).alloc _).alloc _).alloc _) (by simp)
  · exact ((hc1.alloc _).alloc _).alloc _
  · intro S w3 hc3 hS
    have hno : ∀ k, w.heap.size ≤ k → k ∉ S := fun k hk hm => by have := hS k hm; omega
    refine ⟨w1.heap.size + 1, w1.heap.size, .slice a1 l.length c1, hc3.keep g1 (hno _ (by omega)), hc3.keep g2 (hno _ (by omega)), hc3.keep g3 (hno _ (by omega)), ?_⟩
    refine HST.out S w3 ?_ hS
    exact (((((Chg.refl S w1).alloc _).alloc _).alloc _).trans hc3)

theorem new_any (seed : Nat) (v : Value) (l : List Nat) (w : World) (hl : l.length ≤ 1000000) (hb : ∀ x ∈ l, x < 18446744073709551616) (hv : Reads .u64 w v l) :
    Calls Try.prog 18 #[.int .u64 seed, v] w fun e w' => ∃ b, e = .returned (.pointer (some ⟨b, 0, none⟩)) ∧ w.heap.size ≤ b ∧ TapeAt w' b seed l 0 ∧ Chg [] w w' :=
  (new_fresh seed v l w hl hb hv).mono fun _ _ ⟨b, h1, h2, h3, h4, _⟩ => ⟨b, h1, h2, h3, h4⟩

end Go.Proofs.Yteehenajchdgaaa.D
