/- The walk of Copy. -/
import Derived.Test.YtgdnfempcjlipaaCacQ
import Derived.Maps.RangeWalk
namespace Go.Proofs.Ytgdnfempcjlipaa
open Go.RowKit Go.Maps

theorem sameKeyH (a b : Nat) : (Lit.int .u64 (a : Int)).sameKey (.int .u64 (b : Int)) = decide (a = b) := by
  rw [Bool.eq_iff_iff]
  simp [Lit.sameKey]
  omega
theorem ranges_chg {w w' : World} {b r n cnt : Nat} {D : DataW Value} {left : Lit → Bool} {S : List Nat} (h : w.ranges Try.prog 29 rawE b r n D left cnt) (hc : Chg S w w') (hb : b ∉ S) (hr : r ∉ S) : w'.ranges Try.prog 29 rawE b r n D left cnt := by
  obtain ⟨es, clock, since, seen, c0, h1, F, hs, hD, h2, rest⟩ := h
  exact ⟨es, clock, since, seen, c0, hc.keep h1 hb, F, hs, hD, hc.keep h2 hr, rest⟩
theorem ranges_iter {w : World} {b r n cnt : Nat} {D : DataW Value} {left : Lit → Bool} (h : w.ranges Try.prog 29 rawE b r n D left cnt) {c : Array Value} {t : TypeId} {f : Nat × Nat} : w.heap[r]? ≠ some (.cells c t f) := by
  obtain ⟨es, clock, since, seen, c0, h1, F, hs, hD, h2, rest⟩ := h
  rw [h2]
  intro e
  cases e
set_option maxRecDepth 100000 in
/-- The step of a range over the map: a hash and its row come. -/
theorem wpList_nextH {w : World} {ops : Array Oper} {rest : List Oper} {o : Oper} {a : Act} {Q : Exit → Act → World → Prop} (hg : o.guard = none) (it : Operand) (hop : o.op = Op.next it false) {b r n cnt : Nat} {D : DataW Value} {left : Lit → Bool} {f : Nat → Option Value}
    (hf : (∀ k : Nat, has D (.int .u64 (k : Int)) = (f k).isSome) ∧ ∀ (k : Nat) v, f k = some v → ∀ z, D.atKey (.int .u64 (k : Int)) z = .held v)
    (hit : a.eval it = .pointer (some ⟨r, 0, none⟩)) (h : w.ranges Try.prog 29 rawE b r n D left cnt)
    (hDone : cnt = 0 → (∀ kl, left kl = false) → wpList Try.prog ops Q rest (a.put o.dst (.tuple #[.bool false])) w)
    (hMore : ∀ (k : Nat) (v : Value) (w' : World) (cnt' : Nat), k < 18446744073709551616 → left (.int .u64 (k : Int)) = true → f k = some v → w'.ranges Try.prog 29 rawE b r n D (fun z => left z && !z.sameKey (.int .u64 (k : Int))) cnt' → cnt' < cnt →
      w.grownBy w' (some r) → w'.heap.size = w.heap.size → (Instr.entry (.pointer (some ⟨r, 0, none⟩))).run Try.prog w' = .ok (.tuple #[.int .u64 (k : Int), v]) w' → wpList Try.prog ops Q rest (a.put o.dst (.tuple #[.bool true, .int .u64 (k : Int), v])) w') :
    wpList Try.prog ops Q (o :: rest) a w := by
  refine wpList_next_ranges w hg it hop 29 lawH rawE (Value.int .u64) (fun v => v) (fun key kl hkey => by obtain ⟨x, rfl, _⟩ := Maps.keyOf_int_inv Try.underlying29 hkey; exact ⟨x, rfl⟩) (fun v y hv => ⟨v, rfl⟩) b r n D left cnt hit h hDone ?_
  intro x c kl y w' cnt' hkey hlk hv hat hrg hlt hgr hsz hen
  obtain ⟨x', ex, rfl, hwx⟩ := Maps.keyOf_int_inv Try.underlying29 hkey
  cases ex
  have hx : 0 ≤ x ∧ x < 18446744073709551616 := by
    simp [Lit.wf, IntKind.min, IntKind.max, IntKind.signed, IntKind.bits] at hwx
    omega
  obtain ⟨k, rfl⟩ : ∃ k : Nat, x = (k : Int) := ⟨x.toNat, by omega⟩
  have hfk : f k = some c := by
    cases hh : f k with
    | none =>
      have hno : has D (.int .u64 (k : Int)) = false := by rw [hf.1, hh]; rfl
      have h1 := hat (.held (.bool true))
      have h2 := hat (.held (.bool false))
      rw [atKey_of_not_has hno] at h1 h2
      rw [← h2] at h1
      injection h1 with h1
      cases h1
    | some u =>
      have h1 := hf.2 k u hh (.held u)
      rw [hat] at h1
      unfold rawE at hv
      injection hv with hv
      rw [← hv] at h1
      injection h1 with h1
      rw [h1]
  exact hMore k c w' cnt' (by omega) hlk hfk hrg hlt hgr hsz hen

/-- What is copied of the rows while the range goes on. -/
structure CpM (wr : World) (B : Nat) (K : List (Nat × Nat)) (f f2 : Nat → Option Value) (left : Lit → Bool) : Prop where
  none1 : ∀ h, f h = none → f2 h = none
  none2 : ∀ h : Nat, left (.int .u64 (h : Int)) = true → f2 h = none
  some1 : ∀ (h : Nat) v, f h = some v → left (.int .u64 (h : Int)) = false → (f2 h).isSome = true
  own : ∀ h v, f2 h = some v → kh K h ≠ [] ∧ R.OwnR 3 1 intV B wr v (kh K h)
  apart : ∀ h h' v v' g, f2 h = some v → f2 h' = some v' → v.ownBlock = some g → v'.ownBlock = some g → h = h'
theorem CpM.chg {wr w' : World} {B : Nat} {K : List (Nat × Nat)} {f f2 : Nat → Option Value} {left : Lit → Bool} {S : List Nat} (h : CpM wr B K f f2 left) (hc : Chg S wr w') (hS : ∀ y ∈ S, ∀ c, wr.heap[y]? ≠ some (.cells c 3 (0, 0))) : CpM w' B K f f2 left :=
  ⟨h.none1, h.none2, h.some1, fun k v hv => ⟨(h.own k v hv).1, (h.own k v hv).2.chg hc fun g hg hs => by
    obtain ⟨_, _, c, hcc⟩ := (h.own k v hv).2.blk g hg
    exact hS g hs c hcc⟩, h.apart⟩
theorem CpM.start {w : World} {B : Nat} {K : List (Nat × Nat)} {f : Nat → Option Value} {D : DataW Value} (hf : ∀ k : Nat, has D (.int .u64 (k : Int)) = (f k).isSome) : CpM w B K f (fun _ => none) (fun kl => has D kl) :=
  ⟨fun _ _ => rfl, fun _ _ => rfl, (fun h v hv hl => by rw [hf, hv] at hl; cases hl), (fun _ _ h => by cases h), (fun _ _ _ _ _ h => by cases h)⟩
theorem CpM.step {wr w8 : World} {B k : Nat} {v v8 : Value} {K : List (Nat × Nat)} {f f2 : Nat → Option Value} {left : Lit → Bool} (h : CpM wr B K f f2 left) (hc : Chg [] wr w8) (hB : B ≤ wr.heap.size) (hf : f k = some v) (hk : kh K k ≠ []) (ho : R.OwnR 3 1 intV wr.heap.size w8 v8 (kh K k)) :
    CpM w8 B K f (fun x => if x = k then some v8 else f2 x) (fun z => left z && !z.sameKey (.int .u64 (k : Int))) := by
  have hold : ∀ x u g, f2 x = some u → u.ownBlock = some g → v8.ownBlock = some g → False := by
    intro x u g h1 h2 h3
    have e1 := ((h.own x u h1).2.blk g h2).2.1
    have e2 := (ho.blk g h3).1
    omega
  refine ⟨fun x hx => ?_, fun x hx => ?_, fun x u hx hl => ?_, fun x u hx => ?_, fun x x' u u' g h1 h2 h3 h4 => ?_⟩
  · have : x ≠ k := by rintro rfl; rw [hf] at hx; cases hx
    rw [if_neg this]
    exact h.none1 x hx
  · rw [Bool.and_eq_true, sameKeyH] at hx
    have : x ≠ k := by simpa using hx.2
    rw [if_neg this]
    exact h.none2 x hx.1
  · by_cases e : x = k
    · rw [if_pos e]; rfl
    · rw [if_neg e]
      refine h.some1 x u hx ?_
      rw [sameKeyH] at hl
      simpa [e] using hl
  · by_cases e : x = k
    · rw [if_pos e] at hx
      cases hx
      rw [e]
      exact ⟨hk, ho.low hB⟩
    · rw [if_neg e] at hx
      exact ⟨(h.own x u hx).1, (h.own x u hx).2.same hc⟩
  · by_cases e : x = k <;> by_cases e' : x' = k
    · rw [e, e']
    · rw [if_pos e] at h1
      rw [if_neg e'] at h2
      cases h1
      exact (hold x' u' g h2 h4 h3).elim
    · rw [if_neg e] at h1
      rw [if_pos e'] at h2
      cases h2
      exact (hold x u g h1 h3 h4).elim
    · rw [if_neg e] at h1
      rw [if_neg e'] at h2
      exact h.apart x x' u u' g h1 h2 h3 h4
theorem CpM.rows {w wr : World} {B : Nat} {K : List (Nat × Nat)} {f f2 : Nat → Option Value} {left : Lit → Bool} (h : CpM wr B K f f2 left) (hr : RowsH w f K) (hl : ∀ kl, left kl = false) : RowsH wr f2 K := by
  refine ⟨fun x hx => ?_, fun x v hx => ⟨(h.own x v hx).1, (h.own x v hx).2.low (Nat.zero_le _)⟩, h.apart⟩
  cases hf : f x with
  | none => exact hr.no x hf
  | some u =>
    have := h.some1 x u hf (hl _)
    rw [hx] at this
    cases this

theorem mk_map_hint (k : IntKind) (n : Int) (w : World) : (Instr.makeMap 66 (some (.int k n))).run Try.prog w = .ok (.map (some w.heap.size)) (w.alloc (.map #[] 0)) := by
  simp [Instr.makeMap, run_underlying Try.underlying66, asInt, asIntOf]
theorem CSc.ecells {w : World} {cb n k0 k1 : Nat} {now : Int} {row : List Nat} {L : List Sl} {K : List (Nat × Nat)} {T : List Ti.It} {p m eb mb lb tb cp : Nat} {tl : List Value} {FT : List Nat} {f : Nat → Option Value} {es : List EnV} (h : CSc w cb n k0 k1 now row L K T p m eb mb lb tb cp tl FT f es) : ∀ j u, (es.flatMap eV)[j]? = some u → w.cell? ((⟨eb, 0, none⟩ : Addr).add j) = some u := by
  intro j u hu
  rw [add_at, Nat.zero_add, cell_of h.ents]
  unfold eRow
  have hj : j < (es.flatMap eV).length := by
    rcases Nat.lt_or_ge j (es.flatMap eV).length with hh | hh
    · exact hh
    · rw [List.getElem?_eq_none hh] at hu; cases hu
  rw [List.getElem?_toArray, List.getElem?_append_left hj]
  exact hu
theorem cloneE_any {w : World} {cb n k0 k1 : Nat} {now : Int} {row : List Nat} {L : List Sl} {K : List (Nat × Nat)} {T : List Ti.It} {p m eb mb lb tb cp : Nat} {tl : List Value} {FT : List Nat} {f : Nat → Option Value} {es : List EnV} (h : CSc w cb n k0 k1 now row L K T p m eb mb lb tb cp tl FT f es) (h1 : 1 ≤ n) :
    Calls Try.prog 41 #[.slice (some ⟨eb, 0, none⟩) n cp] w fun e w' => ∃ g cp' tl', e = .returned (.slice (some ⟨g, 0, none⟩) n cp') ∧ w.heap.size ≤ g ∧ w'.heap[g]? = some (.cells (eRow es tl') 78 (0, 0)) ∧ Chg [] w w' := by
  have hn := h.elen
  have h32 := h.lru.1
  refine (clone_e eb n cp es w hn.symm (by omega) h.esl h.ecells).mono ?_
  rintro e w' ⟨v', rfl, ho, hc⟩
  obtain ⟨h2, h3⟩ := ho
  rcases h3 with ⟨_, e0⟩ | ⟨g, cap, cur, e1, hb, hg, hle, _, hs, ht⟩
  · omega
  · refine ⟨g, cap, cur.toList.drop (es.length * 7), by rw [e1, hn], hb, ?_, hc⟩
    rw [hg]
    unfold eRow
    rw [← ht, List.take_append_drop]

def CpyR (w : World) (d g5 m7 mb r n k0 k1 lb tb cp5 : Nat) (now : Int) (tl5 : List Value) (es : List EnV) (K : List (Nat × Nat)) (f : Nat → Option Value) (D : DataW Value) (wr : World) : Prop :=
  ∃ (left : Lit → Bool) (cnt : Nat) (f2 : Nat → Option Value), wr.ranges Try.prog 29 rawE mb r (Maps.size D) D left cnt ∧ cnt ≤ Maps.size D ∧ MapH wr m7 (Maps.size D - cnt) f2 ∧ CpM wr w.heap.size K f f2 left ∧
    wr.heap[d]? = some (.cells #[.int .i64 (n : Nat), .int .u64 (k0 : Nat), .int .u64 (k1 : Nat), .int .i64 now, .slice (some ⟨g5, 0, none⟩) n cp5, .map (some m7), .pointer (some ⟨lb, 0, none⟩), .pointer (some ⟨tb, 0, none⟩)] 70 (0, 0)) ∧ wr.heap[g5]? = some (.cells (eRow es tl5) 78 (0, 0)) ∧ Chg [] w wr

section
variable (F : List Nat) (cb n k0 k1 : Nat) (c : Cst) (P : Nat) (w : World)
set_option maxRecDepth 100000 in
set_option maxHeartbeats 8000000 in
theorem copy_any (h : CA F w cb n k0 k1 c P) (hn : 1 ≤ n) (hP : P ≤ 900000) :
    Calls Try.prog 24 #[.pointer (some ⟨cb, 0, none⟩)] w fun e w' => ∃ cb' F', e = .returned (.pointer (some ⟨cb', 0, none⟩)) ∧ CA F' w' cb' n k0 k1 c P ∧ (∀ y ∈ F', w.heap.size ≤ y) ∧ Chg [] w w' := by
  obtain ⟨L, p, m, ⟨K, T, ⟨eb, mb, lb, tb, cp, tl, FT, f, es, hC, hF⟩, hcon, hs⟩, h2, h3, h4, h5⟩ := h
  obtain ⟨D, hown, hsz, hf1, hf2⟩ := id hC.map
  have c0 : w.cell? ⟨cb, 0, none⟩ = some (.int .i64 (n : Nat)) := cell_of hC.head
  have c1 : w.cell? ⟨cb, 1, none⟩ = some (.int .u64 (k0 : Nat)) := cell_of hC.head
  have c2 : w.cell? ⟨cb, 2, none⟩ = some (.int .u64 (k1 : Nat)) := cell_of hC.head
  have c3 : w.cell? ⟨cb, 3, none⟩ = some (.int .i64 c.now) := cell_of hC.head
  have c4 : w.cell? ⟨cb, 4, none⟩ = some (.slice (some ⟨eb, 0, none⟩) n cp) := cell_of hC.head
  have c5 : w.cell? ⟨cb, 5, none⟩ = some (.map (some mb)) := cell_of hC.head
  have c6 : w.cell? ⟨cb, 6, none⟩ = some (.pointer (some ⟨lb, 0, none⟩)) := cell_of hC.head
  have c7 : w.cell? ⟨cb, 7, none⟩ = some (.pointer (some ⟨tb, 0, none⟩)) := cell_of hC.head
  have HC := Lib.hid hC
  have HCON := Lib.hid hcon
  have HS := Lib.hid hs
  have HE := Lib.hid (And.intro h2 h3)
  have HOWN := Lib.hid hown
  have HFD := Lib.hid (And.intro hf1 hf2)
  clear hC hF hcon hs h2 h3 hown hf1 hf2
  have hmm := mk_map_hint
  have k4 : (w.alloc (.cells #[.int .i64 (n : Nat), .int .u64 (k0 : Nat), .int .u64 (k1 : Nat), .int .i64 c.now, .slice (some ⟨eb, 0, none⟩) n cp, .map (some mb), .pointer (some ⟨lb, 0, none⟩), .pointer (some ⟨tb, 0, none⟩)] 70)).cell? ⟨cb, 4, none⟩ = some (.slice (some ⟨eb, 0, none⟩) n cp) := ((Chg.refl [] w).alloc _).cell c4 (by simp)
  go_enter Try.func24, Try.ntmps24
  go_wp2_with fail
  obtain ⟨d, hd⟩ : ∃ d, d = w.heap.size := ⟨_, rfl⟩
  rw [← hd]
  refine calls_abs ?_
  intro w0 hw0
  have hcv : Chg [] w w0 := by rw [hw0]; exact (Chg.refl _ _).alloc _
  have hd0 : w0.heap[d]? = some (.cells #[.int .i64 (n : Nat), .int .u64 (k0 : Nat), .int .u64 (k1 : Nat), .int .i64 c.now, .slice (some ⟨eb, 0, none⟩) n cp, .map (some mb), .pointer (some ⟨lb, 0, none⟩), .pointer (some ⟨tb, 0, none⟩)] 70 (0, 0)) := by rw [hw0, hd]; exact heap_new _ _
  have HD := Lib.hid hd
  have HD0 := Lib.hid hd0
  have HC0 := Lib.hid hcv
  clear k4 hw0 hcv hd0 hd c0 c1 c2 c3 c4
  refine (cloneE_any (HC.out.other HC0.out (by simp) (noSet_nil w)) hn).mono ?_
  rintro e9 w1 ⟨g5, cp5, tl5, rfl, hg5, hh5, hc1⟩
  have hd1 := hc1.keep HD0.out (by simp)
  have HD1 := Lib.hid hd1
  have HC1 := Lib.hid (HC0.out.trans hc1)
  have HH5 := Lib.hid hh5
  have hsz0 := HC0.out.size
  have hsz1 := hc1.size
  have hd0s := lt_of_block HD0.out
  have HLT : Hid (w.heap.size ≤ d ∧ w.heap.size ≤ g5 ∧ d < w1.heap.size ∧ g5 < w1.heap.size ∧ d ≠ g5 ∧ cb ≠ d ∧ mb ≠ d) := Lib.hid (by
    have e1 := HD.out
    have e2 := lt_of_block HC.out.head
    have e3 := HC.out.map.lt
    have e4 := lt_of_block hh5
    refine ⟨by omega, by omega, by omega, by omega, by omega, by omega, by omega⟩)
  have k5 : w1.cell? ⟨cb, 5, none⟩ = some (.map (some mb)) := HC1.out.cell c5 (by simp)
  have d4 : w1.cell? ⟨d, 4, none⟩ = some (.slice (some ⟨eb, 0, none⟩) n cp) := cell_of hd1
  have d5 : w1.cell? ⟨d, 5, none⟩ = some (.map (some mb)) := cell_of hd1
  have e4 : w1.frozen? ⟨d, 4, none⟩ = false := free_of hd1
  have e5 : w1.frozen? ⟨d, 5, none⟩ = false := free_of hd1
  have hneq := HLT.out.2.2.2.2.2.1
  have hown1 : w1.ownsMap Try.prog 29 rawE mb (Maps.size D) D := by
    obtain ⟨es', clock, hb, hr⟩ := HOWN.out
    exact ⟨es', clock, HC1.out.keep hb (by simp), hr⟩
  have hown2 : (w1.setCell ⟨d, 4, none⟩ (.slice (some ⟨g5, 0, none⟩) n cp5)).ownsMap Try.prog 29 rawE mb (Maps.size D) D := by
    obtain ⟨es', clock, hb, hr⟩ := hown1
    exact ⟨es', clock, (Chg.set1 w1 d 4 _).keep hb (by simp; exact HLT.out.2.2.2.2.2.2), hr⟩
  have HOWN2 := Lib.hid hown2
  have hcA : Chg [d] w1 (((w1.setCell ⟨d, 4, none⟩ (.slice (some ⟨g5, 0, none⟩) n cp5)).setCell ⟨d, 5, none⟩ (.map (some w1.heap.size))).alloc (.map #[] 0)) := (((Chg.refl _ w1).setCell (.inl (by simp)) _).setCell (.inl (by simp)) _).alloc _
  have hcB : Chg [d] w1 (((w1.setCell ⟨d, 4, none⟩ (.slice (some ⟨g5, 0, none⟩) n cp5)).alloc (.map #[] 0)).setCell ⟨d, 5, none⟩ (.map (some w1.heap.size))) := (((Chg.refl _ w1).setCell (.inl (by simp)) _).alloc _).setCell (.inl (by simp)) _
  have kA := hcA.cell k5 (by simp; exact hneq)
  have kB := hcB.cell k5 (by simp; exact hneq)
  have hdX : ((w1.setCell ⟨d, 4, none⟩ (.slice (some ⟨g5, 0, none⟩) n cp5)).alloc (.map #[] 0)).heap[d]? = some (.cells #[.int .i64 (n : Nat), .int .u64 (k0 : Nat), .int .u64 (k1 : Nat), .int .i64 c.now, .slice (some ⟨g5, 0, none⟩) n cp5, .map (some mb), .pointer (some ⟨lb, 0, none⟩), .pointer (some ⟨tb, 0, none⟩)] 70 (0, 0)) := heap_old (heap_set HD1.out _)
  have dX : ((w1.setCell ⟨d, 4, none⟩ (.slice (some ⟨g5, 0, none⟩) n cp5)).alloc (.map #[] 0)).cell? ⟨d, 5, none⟩ = some (.map (some mb)) := cell_of hdX
  have fX : ((w1.setCell ⟨d, 4, none⟩ (.slice (some ⟨g5, 0, none⟩) n cp5)).alloc (.map #[] 0)).frozen? ⟨d, 5, none⟩ = false := free_of hdX
  have hownA : (((w1.setCell ⟨d, 4, none⟩ (.slice (some ⟨g5, 0, none⟩) n cp5)).setCell ⟨d, 5, none⟩ (.map (some w1.heap.size))).alloc (.map #[] 0)).ownsMap Try.prog 29 rawE mb (Maps.size D) D := by
    obtain ⟨es', clock, hb, hr⟩ := hown1
    exact ⟨es', clock, hcA.keep hb (by simp; exact HLT.out.2.2.2.2.2.2), hr⟩
  have hownB : (((w1.setCell ⟨d, 4, none⟩ (.slice (some ⟨g5, 0, none⟩) n cp5)).alloc (.map #[] 0)).setCell ⟨d, 5, none⟩ (.map (some w1.heap.size))).ownsMap Try.prog 29 rawE mb (Maps.size D) D := by
    obtain ⟨es', clock, hb, hr⟩ := hown1
    exact ⟨es', clock, hcB.keep hb (by simp; exact HLT.out.2.2.2.2.2.2), hr⟩
  have HOWA := Lib.hid hownA
  have HOWB := Lib.hid hownB
  have HCA := Lib.hid hcA
  have HCB := Lib.hid hcB
  clear hown1 hown2 hd1 hc1 hh5 hg5 hsz0 hsz1 hd0s HD0 hcA hcB hdX hownA hownB
  go_wp2_with (first
    | (at_len; refine wpList_len_own _ rfl _ 66 rfl 29 75 Try.underlying66 rawE mb _ D rfl HOWN2.out ?_)
    | (at_range; refine wpList_range_own _ rfl _ 66 rfl 29 75 lawH Try.underlying66 rawE mb (Maps.size D) D rfl (by first | exact HOWA.out | exact HOWB.out) ?_; intro w2 hrg2 hg2 hs2)
    | go_in)
  go_frame
  obtain ⟨W2, hW2⟩ : ∃ W2, W2 = (((w1.setCell ⟨d, 4, none⟩ (.slice (some ⟨g5, 0, none⟩) n cp5)).alloc (.map #[] 0)).setCell ⟨d, 5, none⟩ (.map (some w1.heap.size))) := ⟨_, rfl⟩
  have hcw : Chg [d] w1 W2 := by rw [hW2]; exact HCB.out
  have hszW : W2.heap.size = w1.heap.size + 1 := by rw [hW2]; simp
  rw [← hW2] at hrg2 hg2 hs2 ⊢
  obtain ⟨m7, hm7⟩ : ∃ m7, m7 = w1.heap.size := ⟨_, rfl⟩
  have hmW : MapH W2 m7 0 (fun _ => none) := by
    have h0 := mapH_new (w1.setCell ⟨d, 4, none⟩ (.slice (some ⟨g5, 0, none⟩) n cp5))
    have e : (w1.setCell ⟨d, 4, none⟩ (.slice (some ⟨g5, 0, none⟩) n cp5)).heap.size = m7 := by rw [hm7]; simp
    rw [e] at h0
    rw [hW2]
    exact h0.chg (Chg.set1 _ d 5 _) (by simp; have := HLT.out; omega)
  have hdW : W2.heap[d]? = some (.cells #[.int .i64 (n : Nat), .int .u64 (k0 : Nat), .int .u64 (k1 : Nat), .int .i64 c.now, .slice (some ⟨g5, 0, none⟩) n cp5, .map (some m7), .pointer (some ⟨lb, 0, none⟩), .pointer (some ⟨tb, 0, none⟩)] 70 (0, 0)) := by
    have hdX : ((w1.setCell ⟨d, 4, none⟩ (.slice (some ⟨g5, 0, none⟩) n cp5)).alloc (.map #[] 0)).heap[d]? = some (.cells #[.int .i64 (n : Nat), .int .u64 (k0 : Nat), .int .u64 (k1 : Nat), .int .i64 c.now, .slice (some ⟨g5, 0, none⟩) n cp5, .map (some mb), .pointer (some ⟨lb, 0, none⟩), .pointer (some ⟨tb, 0, none⟩)] 70 (0, 0)) := heap_old (heap_set HD1.out _)
    rw [hW2, heap_set hdX, hm7]
    rfl
  have hcg : Chg [] W2 w2 := (Chg.refl [] W2).grown hg2 (fun k hk => by cases hk)
  obtain ⟨r, hr⟩ : ∃ r, r = W2.heap.size := ⟨_, rfl⟩
  rw [← hr] at hrg2 hs2 ⊢
  rw [← hm7]
  have hgW : W2.heap[g5]? = some (.cells (eRow es tl5) 78 (0, 0)) := hcw.keep HH5.out (by simp; exact fun e => HLT.out.2.2.2.2.1 e.symm)
  have hcw2 : Chg [] w w2 := (HC1.out.trans_new hcw (by intro y hy; simp at hy; rw [hy]; exact .inr HLT.out.1)).trans hcg
  have hstart : CpyR w d g5 m7 mb r n k0 k1 lb tb cp5 c.now tl5 es K f D w2 :=
    ⟨_, _, fun _ => none, hrg2, Nat.le_refl _, (hmW.chg hcg (by simp)).mono (by omega), CpM.start HFD.out.1, hcg.keep hdW (by simp), hcg.keep hgW (by simp), hcw2⟩
  have HSTART := Lib.hid hstart
  have HNE : Hid (w.heap.size ≤ m7 ∧ w.heap.size ≤ r ∧ m7 ≠ d ∧ r ≠ d ∧ r ≠ m7 ∧ g5 ≠ m7 ∧ g5 ≠ r ∧ mb ≠ m7 ∧ mb ≠ r) := Lib.hid (by
    have e1 := HLT.out
    have e2 := HC1.out.size
    have e3 := HC.out.map.lt
    refine ⟨by omega, by omega, by omega, by omega, by omega, by omega, by omega, by omega, by omega⟩)
  clear hstart hcw2 hgW hr hcg hdW hmW hszW hcw hW2 hs2 hg2 hrg2 HOWA HOWB HCA HCB HOWN2 kA kB dX fX d4 d5 e4 e5 k5 hm7 HD1 HH5 c5 c6 c7
  go_loopw [4, 5] (fun _ _ wr => CpyR w d g5 m7 mb r n k0 k1 lb tb cp5 c.now tl5 es K f D wr) (fun _ _ wr => wr.rangeLeft mb r)
  case atStart => exact HSTART.out
  case round =>
    clear HSTART
    obtain ⟨left, cnt, f2, hrg, hcs, hmp, hcp, hdr, hgr, hch⟩ := hrel
    go_wp2_with (first
      | (at_next; refine wpList_nextH rfl _ rfl HFD.out rfl hrg ?_ ?_)
      | go_in)
    · intro hc0 hl0
      subst hc0
      rw [Nat.sub_zero] at hmp
      have hrows := hcp.rows (HC.out.rows) hl0
      have hrblk : ∀ y, RowBlk f2 y → w.heap.size ≤ y := fun y hy => by
        obtain ⟨x, u, h1, h2⟩ := hy
        exact ((hcp.own x u h1).2.blk y h2).1
      have hCr := HC.out.other hch (by simp) (noSet_nil w)
      have c6 : wr.cell? ⟨cb, 6, none⟩ = some (.pointer (some ⟨lb, 0, none⟩)) := cell_of hCr.head
      have HROWS := Lib.hid hrows
      have HRB := Lib.hid hrblk
      have HCR := Lib.hid hCr
      have HMP := Lib.hid hmp
      have HDR := Lib.hid hdr
      have HGR := Lib.hid hgr
      have HCH := Lib.hid hch
      clear hrows hrblk hCr hmp hdr hgr hch hcp hrg hcs hl0
      go_wp2_with fail
      refine (Lr.copy_any lb n _ wr HCR.out.lru).mono ?_
      rintro e9 w3 ⟨rfl, hl3, _, hc3⟩
      obtain ⟨l3, hl3e⟩ : ∃ l3, l3 = wr.heap.size := ⟨_, rfl⟩
      rw [← hl3e] at hl3 ⊢
      have hd3 := hc3.keep HDR.out (by simp)
      have d6 : w3.cell? ⟨d, 6, none⟩ = some (.pointer (some ⟨lb, 0, none⟩)) := cell_of hd3
      have f6 : w3.frozen? ⟨d, 6, none⟩ = false := free_of hd3
      have hC3 := HCR.out.other hc3 (by simp) (noSet_nil wr)
      have c7 : (w3.setCell ⟨d, 6, none⟩ (.pointer (some ⟨l3, 0, none⟩))).cell? ⟨cb, 7, none⟩ = some (.pointer (some ⟨tb, 0, none⟩)) := (Chg.set1 w3 d 6 _).cell (cell_of hC3.head) (by simp; exact HLT.out.2.2.2.2.2.1)
      have HL3 := Lib.hid hl3
      have HL3E := Lib.hid hl3e
      have HD3 := Lib.hid hd3
      have HC3 := Lib.hid hc3
      have HCS3 := Lib.hid hC3
      clear hl3 hl3e hd3 hc3 hC3 c6
      go_wp2_with fail
      have hns6 : NoSet [d] w3 := noSet_of fun k hk => by simp at hk; rw [hk, ty_cells HD3.out]; exact ⟨by decide, by decide⟩
      have hdC : ∀ y, Part cb eb mb lb tb FT f y → y ≠ d := fun y hy => by
        have := HC.out.part_lt hy
        have := HLT.out.1
        omega
      have hC4 := HCS3.out.other (Chg.set1 w3 d 6 (.pointer (some ⟨l3, 0, none⟩))) (by intro y hy hp; simp at hy; exact hdC y hp hy) hns6
      refine (Ti.copy_any tb FT T p _ hC4.tim (by omega)).mono ?_
      rintro e9 w5 ⟨t3, rfl, FT2, ht2, hFT2, ht3, hc5⟩
      have hd5 := hc5.keep (heap_set HD3.out (i := 6) (v := .pointer (some ⟨l3, 0, none⟩))) (by simp)
      have d7 : w5.cell? ⟨d, 7, none⟩ = some (.pointer (some ⟨tb, 0, none⟩)) := cell_of hd5
      have f7 : w5.frozen? ⟨d, 7, none⟩ = false := free_of hd5
      have HT2 := Lib.hid ht2
      have HFT2 := Lib.hid hFT2
      have HT3 := Lib.hid ht3
      have HC5 := Lib.hid hc5
      have HD5 := Lib.hid hd5
      clear hns6 hdC hC4 ht2 hFT2 ht3 hc5 hd5 d6 f6 c7
      go_wp2_with fail
      refine post_abs ?_
      intro w6 hw6
      have hs7 : Chg [d] w5 w6 := by rw [hw6]; exact Chg.set1 _ _ _ _
      have hd6 : w6.heap[d]? = some (.cells #[.int .i64 (n : Nat), .int .u64 (k0 : Nat), .int .u64 (k1 : Nat), .int .i64 c.now, .slice (some ⟨g5, 0, none⟩) n cp5, .map (some m7), .pointer (some ⟨l3, 0, none⟩), .pointer (some ⟨t3, 0, none⟩)] 70 (0, 0)) := by
        rw [hw6, heap_set HD5.out]
        rfl
      have hs36 : Chg [d] w3 w6 := ((Chg.set1 w3 d 6 (.pointer (some ⟨l3, 0, none⟩))).trans (HC5.out.mono (by simp))).trans hs7
      have hsr6 : Chg [d] wr w6 := (HC3.out.mono (by simp)).trans hs36
      have hw6c : Chg [] w w6 := HCH.out.trans_new hsr6 (by intro y hy; simp at hy; rw [hy]; exact .inr HLT.out.1)
      have hsz : d < wr.heap.size ∧ m7 < wr.heap.size ∧ w.heap.size ≤ wr.heap.size ∧ wr.heap.size ≤ w3.heap.size := ⟨lt_of_block HDR.out, HMP.out.lt, HCH.out.size, HC3.out.size⟩
      have hsz4 : (w3.setCell ⟨d, 6, none⟩ (.pointer (some ⟨l3, 0, none⟩))).heap.size = w3.heap.size := by simp
      have hlb3 := HL3E.out
      have hF2 := HFT2.out
      have ht3 := HT3.out
      rw [hsz4] at hF2 ht3
      have htm6 := HT2.out.chg hs7 (by simp; omega) (by intro y hy; have := hF2 y hy; simp; omega)
      obtain ⟨FT3, htm, hsub, hty⟩ := tim_tight htm6
      have hC6 : CSc w6 d n k0 k1 c.now (rowS L) L K T p (Maps.size D) g5 m7 l3 t3 cp5 tl5 FT3 f2 es := by
        refine ⟨hd6, hsr6.keep HGR.out (by simp; exact fun e => HLT.out.2.2.2.2.1 e.symm), HC.out.elen, HC.out.esl, fun x hx => ⟨(HC.out.eok x hx).1, fun hh => ((HC.out.eok x hx).2 hh).chg hw6c (noSet_nil w)⟩, HL3.out.chg hs36 (by simp; omega), htm, hty, ?_, HMP.out.chg hsr6 (by simp; exact HNE.out.2.2.1), HROWS.out.chg hsr6 ?_, HC.out.l0, HC.out.l1⟩
        · intro hm
          have := hF2 _ (hsub _ hm)
          omega
        · intro y hy hs
          simp at hs
          have h1 := (HROWS.out.ty hy).1
          rw [hs, ty_cells HDR.out] at h1
          exact absurd h1 (by decide)
      have hclose := CS.close (F := []) (N := (List.range w6.heap.size).filter fun y => decide (w.heap.size ≤ y)) (w0 := w) hC6 (fun y hy => by
        right
        rw [List.mem_filter, List.mem_range, decide_eq_true_eq]
        refine ⟨hC6.part_lt hy, ?_⟩
        have e1 := HLT.out
        have e2 := HNE.out
        rcases hy with e | e | e | e | e | e | e
        · omega
        · omega
        · omega
        · omega
        · omega
        · have := hF2 y (hsub y e); omega
        · exact HRB.out y e) (fun y hy => by have := (List.mem_filter.1 hy).2; simpa using this) hw6c (by simp)
      obtain ⟨F', h1, h2, h3⟩ := hclose
      have hfin : CA F' w6 d n k0 k1 c P := ⟨L, p, Maps.size D, ⟨K, T, h1, HCON.out, HS.out⟩, HE.out.1, HE.out.2, h4, by omega⟩
      have hnew : ∀ y ∈ F', w.heap.size ≤ y := fun y hy => by
        rcases h2 y hy with e | e
        · cases e
        · exact e
      have HFIN := Lib.hid hfin
      have HNEW := Lib.hid hnew
      have HWC := Lib.hid hw6c
      clear hfin hnew hw6c h1 h2 h3 hC6 hty hsub htm htm6 hF2 ht3 hlb3 hsz4 hsz hsr6 hs36 hd6 hs7 hw6
      go_wp2
      go_ret
      exact ⟨d, F', rfl, HFIN.out, HNEW.out, HWC.out⟩
    · intro k v wa cnt1 hk hlk hfk hrg1 hlt hg1 hs1 hen
      obtain ⟨hkne, hrow⟩ := HC.out.rows.yes k v hfk
      obtain ⟨va, vc, rfl⟩ := hrow.len
      have hca : Chg [r] wr wa := (Chg.refl [r] wr).grown hg1 (fun y hy => by cases hy; exact .inl (by simp))
      have hchA : Chg [] w wa := hch.trans_new hca (by intro y hy; simp at hy; rw [hy]; exact .inr HNE.out.2.1)
      have hda := hca.keep hdr (by simp; exact fun e => HNE.out.2.2.2.1 e.symm)
      have hga := hca.keep hgr (by simp; exact HNE.out.2.2.2.2.2.2.1)
      have hma := hmp.chg hca (by simp; exact fun e => HNE.out.2.2.2.2.1 e.symm)
      have hcpa := hcp.chg hca (by intro y hy c hcc; simp at hy; rw [hy] at hcc; exact ranges_iter hrg hcc)
      have hf2k := hcp.none2 k hlk
      have hrowa := hrow.same hchA
      obtain ⟨kl, hkl⟩ : ∃ kl, kl = kh K k := ⟨_, rfl⟩
      have hkll : kl.length ≤ 1000 := by
        rw [hkl]
        unfold kh
        rw [List.length_map]
        have := HCON.out.klen
        exact Nat.le_trans (List.length_filter_le _ _) (by omega)
      rw [← hkl] at hrow hrowa hen hfk ⊢
      obtain ⟨ln, hln⟩ : ∃ ln, ln = kl.length := ⟨_, rfl⟩
      have hcl : ∀ W, Chg [] wa W → Calls Try.prog 42 #[.slice va kl.length vc] W fun e w' => ∃ a c, e = .returned (.slice a kl.length c) ∧ R.OwnR 3 1 intV wa.heap.size w' (.slice a kl.length c) kl ∧ Chg [] W w' := by
        intro W hcW
        refine (clone_s 0 _ kl W (hrowa.same hcW) hkll).mono ?_
        rintro e w' ⟨v', rfl, ho, hc⟩
        obtain ⟨a, c, rfl⟩ := ho.len
        exact ⟨a, c, rfl, ho.low hcW.size, hc⟩
      rw [← hln] at hcl hen hfk ⊢
      have s0 : wa.cell? ⟨d, 5, none⟩ = some (.map (some m7)) := cell_of hda
      have S0 := Lib.hid s0
      have HCL := Lib.hid hcl
      have HMA := Lib.hid hma
      have HDA := Lib.hid hda
      have HGA := Lib.hid hga
      have HCPA := Lib.hid hcpa
      have HCHA := Lib.hid hchA
      have HRG1 := Lib.hid hrg1
      have HFK := Lib.hid hfk
      have HKL := Lib.hid hkl
      have HKNE := Lib.hid hkne
      have HF2K := Lib.hid hf2k
      have HLN := Lib.hid hln
      have hszD : Maps.size D ≤ 1000000 := by omega
      clear hca hda hga hma hcpa hrow hrowa hcl hchA hrg1 hfk hkl hkne hf2k hln hch hdr hgr hmp hcp hg1 hs1 hkll hlk s0
      go_wp2_with fail
      go_region_held3 (fun W => W.cell? ⟨d, 5, none⟩ = some (.map (some m7))) (first | (with_reducible exact S9.out) | (with_reducible exact S8.out) | exact S0.out) (first | (go_at_call 42; refine (HCL.out wa.drew (Chg.refl [] wa).drew).mono ?_; rintro e9 w8 ⟨xa, xc, rfl, ho8, hc8⟩; replace hc8 := hc8.undrew; have S8 := Lib.hid (hc8.cell S0.out (by simp)); have HO8 := Lib.hid ho8; have HC8 := Lib.hid hc8; obtain ⟨w9, hup, hm9, hc9⟩ := (HMA.out.chg hc8 (by simp)).put hk (.slice xa ln xc) (by omega); have S9 := Lib.hid (hc9.cell S8.out (by simp; exact fun e => HNE.out.2.2.1 e.symm)); have HM9 := Lib.hid hm9; have HC9 := Lib.hid hc9; clear ho8 hc8 hm9 hc9))
      have hrgN := ranges_chg (ranges_chg HRG1.out HC8.out (by simp) (by simp)) HC9.out (by simp; exact HNE.out.2.2.2.2.2.2.2.1) (by simp; exact HNE.out.2.2.2.2.1)
      have hm9 := HM9.out
      rw [HF2K.out] at hm9
      have hrel : CpyR w d g5 m7 mb r n k0 k1 lb tb cp5 c.now tl5 es K f D w9 := by
        refine ⟨_, cnt1, _, hrgN, by omega, hm9.mono (by simp; omega), ?_, HC9.out.keep (HC8.out.keep HDA.out (by simp)) (by simp; exact fun e => HNE.out.2.2.1 e.symm), HC9.out.keep (HC8.out.keep HGA.out (by simp)) (by simp; exact HNE.out.2.2.2.2.2.1), (HCHA.out.trans HC8.out).trans_new HC9.out (by intro y hy; simp at hy; rw [hy]; exact .inr HNE.out.1)⟩
        refine (HCPA.out.step HC8.out HCHA.out.size HFK.out HKNE.out (by have h8 := HO8.out; rw [HKL.out] at h8; exact h8)).chg HC9.out ?_
        intro y hy c' hcc
        simp at hy
        rw [hy] at hcc
        exact (HMA.out.chg HC8.out (by simp)).not_cells _ _ _ hcc
      have HREL := Lib.hid hrel
      have HRGN := Lib.hid hrgN
      clear hrel hrgN hm9 hup
      go_wp2
      go_roundw
      case rel => exact HREL.out
      case measure => rw [HRGN.out.left_eq, hrg.left_eq]; exact hlt
end

end Go.Proofs.Ytgdnfempcjlipaa
