/- The walk of Begin. -/
import Derived.Test.YtopkbchjlifflaaFlD
import Derived.Deep.AppendLies
import Derived.Deep.QuietTactic
import Derived.Deep.DeepMust
namespace Go.Proofs.Ytopkbchjlifflaa
open Go.RowKit Go.Maps

/-- A region that ends in one way, whatever its order: walked once, the rest stands behind it once. -/
def OneEnd (A : Act) (W : World) : Exit → Act → World → Prop
  | .normal, a, w => a = A ∧ w = W
  | _, _, _ => False
theorem wp_one {P : Program} {c : Code} {Q : Exit → Act → World → Prop} {a : Act} {w : World} (A : Act) (W : World) (h : c.wp P (OneEnd A W) a w) (k : Q .normal A W) : c.wp P Q a w :=
  Code.wp_mono (fun e a w hq => by
    cases e with
    | normal => obtain ⟨rfl, rfl⟩ := hq; exact k
    | _ => exact hq.elim) h
/-- What an act on a table leaves: the table, of blocks that were its own or are new. -/
def FNext (F : List Nat) (w w' : World) (tb n m : Nat) (L' : List Fl) : Prop := ∃ F', FT F' w' tb n m L' ∧ Chg F w w' ∧ ∀ y ∈ F', y ∈ F ∨ w.heap.size ≤ y
theorem FNext.refl {F : List Nat} {w w' : World} {tb n m : Nat} {L : List Fl} (h : FT F w tb n m L) (hc : Chg [] w w') : FNext F w w' tb n m L :=
  ⟨F, h.same hc, hc.mono (by simp), fun y hy => .inl hy⟩
theorem FNext.trans {F : List Nat} {w w1 w2 : World} {tb n m : Nat} {L1 L2 : List Fl} (h1 : FNext F w w1 tb n m L1) (h2 : ∀ F1, FT F1 w1 tb n m L1 → FNext F1 w1 w2 tb n m L2) : FNext F w w2 tb n m L2 := by
  obtain ⟨F1, t1, c1, s1⟩ := h1
  obtain ⟨F2, t2, c2, s2⟩ := h2 F1 t1
  refine ⟨F2, t2, c1.trans_new c2 s1, fun y hy => ?_⟩
  rcases s2 y hy with e | e
  · exact s1 y e
  · exact .inr (Nat.le_trans c1.size e)
theorem begin_nil (w : World) (q : Qs) : Calls Try.prog 12 #[.pointer none, .agg #[.string (bytesV q.name), .int .u16 (q.ty : Nat), .int .u16 (q.cl : Nat)]] w fun e w' => e = .returned (.tuple #[.int .i64 0, .int .i64 2]) ∧ Chg [] w w' := by
  go_enter Try.func12, Try.ntmps12
  go_wp2
  go_ret2
  exact ⟨rfl, (Chg.refl _ _).alloc _⟩

theorem FNext.pre {F : List Nat} {w w1 w2 : World} {tb n m : Nat} {L : List Fl} (hc : Chg [] w w1) (h : FNext F w1 w2 tb n m L) : FNext F w w2 tb n m L := by
  obtain ⟨F2, t2, c2, s2⟩ := h
  refine ⟨F2, t2, (hc.mono (by simp)).trans c2, fun y hy => ?_⟩
  rcases s2 y hy with e | e
  · exact .inl e
  · exact .inr (Nat.le_trans hc.size e)
theorem blk_ne {w : World} {k k' : Nat} {c c' : Array Value} {t t' : TypeId} {f f' : Nat × Nat} (h : w.heap[k]? = some (.cells c t f)) (h' : w.heap[k']? = some (.cells c' t' f')) (ht : t ≠ t') : k ≠ k' := by
  intro e
  subst e
  rw [h] at h'
  injection h' with h'
  injection h' with _ h2 _
  exact ht h2
theorem map_ne {w : World} {k k' clock : Nat} {c : Array Value} {es : Array MapEntry} {t : TypeId} {f : Nat × Nat} (h : w.heap[k]? = some (.cells c t f)) (h' : w.heap[k']? = some (.map es clock)) : k ≠ k' := by
  intro e
  subst e
  rw [h] at h'
  cases h'
/-- The blocks of a table lie apart. -/
structure Apart5 (tb sb mb : Nat) (rv : Value) (es : List Ent) : Prop where
  ts : tb ≠ sb
  tm : tb ≠ mb
  sm : sb ≠ mb
  rt : ∀ g, rv.ownBlock = some g → g ≠ tb
  rs : ∀ g, rv.ownBlock = some g → g ≠ sb
  rm : ∀ g, rv.ownBlock = some g → g ≠ mb
  vt : ∀ s (h : s < es.length) g, es[s].v.ownBlock = some g → g ≠ tb
  vs : ∀ s (h : s < es.length) g, es[s].v.ownBlock = some g → g ≠ sb
  vm : ∀ s (h : s < es.length) g, es[s].v.ownBlock = some g → g ≠ mb
  vr : ∀ s (h : s < es.length) g, es[s].v.ownBlock = some g → rv.ownBlock ≠ some g
theorem FTc.apart {F : List Nat} {w : World} {tb n m sb mb : Nat} {rv : Value} {L : List Fl} {es : List Ent} {cp : Nat} {tl : List Value} (h : FTc F w tb n m L sb mb rv es cp tl) : Apart5 tb sb mb rv es := by
  obtain ⟨ms, clock, hm⟩ := h.map.map
  have r : ∀ g, rv.ownBlock = some g → ∃ c, w.heap[g]? = some (.cells c 3 (0, 0)) := fun g hg => (h.row.blk g hg).2.2
  have e : ∀ s (hs : s < es.length) g, es[s].v.ownBlock = some g → ∃ c, w.heap[g]? = some (.cells c 38 (0, 0)) := fun s hs g hg => ((h.eok s hs).ws.blk g hg).2.2
  refine ⟨blk_ne h.head h.ents (by decide), map_ne h.head hm, map_ne h.ents hm, fun g hg => ?_, fun g hg => ?_, fun g hg => ?_, fun s hs g hg => ?_, fun s hs g hg => ?_, fun s hs g hg => ?_, fun s hs g hg hr => ?_⟩
  · obtain ⟨c, hc⟩ := r g hg; exact blk_ne hc h.head (by decide)
  · obtain ⟨c, hc⟩ := r g hg; exact blk_ne hc h.ents (by decide)
  · obtain ⟨c, hc⟩ := r g hg; exact map_ne hc hm
  · obtain ⟨c, hc⟩ := e s hs g hg; exact blk_ne hc h.head (by decide)
  · obtain ⟨c, hc⟩ := e s hs g hg; exact blk_ne hc h.ents (by decide)
  · obtain ⟨c, hc⟩ := e s hs g hg; exact map_ne hc hm
  · obtain ⟨c, hc⟩ := e s hs g hg
    obtain ⟨c', hc'⟩ := r g hr
    exact blk_ne hc hc' (by decide) rfl
theorem news1 {W : World} {B : Nat} {x : Value} {t : TypeId} (h : W.heap[B]? = some (.cells #[x] t (0, 0))) : ∀ j u, [x][j]? = some u → W.cell? ((⟨B, 0, none⟩ : Addr).add j) = some u := fun j u hu => World.news_of_block h j u (by simpa using hu)
theorem begin_step {F : List Nat} {w4 w6 w7 w8 w9 : World} {tb n m sb mb j g cap : Nat} {rv : Value} {L : List Fl} {es : List Ent} {cp : Nat} {tl : List Value} {fq : Qs} (h : FTc F w4 tb n m L sb mb rv es cp tl) (hj : j < es.length) (hu : usedF L j = false) (hfn : findF L fq = none)
    (hmay : mayB fq.name = true ∧ foldL fq.name = fq.name) (hnum : fq.ty < 65536 ∧ fq.cl < 65536)
    (c46 : Chg [sb] w4 w6) (he6 : w6.heap[sb]? = some (.cells (eRow (es.set j ⟨true, fq, es[j].v⟩) tl) 85 (0, 0)))
    (c67 : Chg [mb] w6 w7) (hm7 : MapQ w7 mb (L ++ [⟨j, fq, []⟩]))
    (c78 : Chg [] w7 w8) (hg : w8.grownBy w9 rv.ownBlock) (ho : w9.ownsRow 0 3 1 (.slice (some ⟨g, 0, none⟩) ((slotsF L).length + 1) cap) ((slotsF L).length + 1) ((slotsF L).flatMap sV ++ sV j)) (ha : rv.ownBlock = some g ∨ g = w8.heap.size) (hl : g < w9.heap.size) :
    FNext F w4 (w9.setCell ⟨tb, 2, none⟩ (.slice (some ⟨g, 0, none⟩) ((slotsF L).length + 1) cap)) tb n m (L ++ [⟨j, fq, []⟩]) := by
  have ap := h.apart
  have s46 := c46.size
  have s67 := c67.size
  have s78 := c78.size
  have s89 := hg.size
  have hjn : j < n := by rw [← h.elen]; exact hj
  -- blocks of the table behind the append
  have keep : ∀ k, k < w4.heap.size → k ≠ sb → k ≠ mb → rv.ownBlock ≠ some k → w9.heap[k]? = w4.heap[k]? := by
    intro k hk h1 h2 h3
    rw [hg.block k (by omega) (fun e => h3 e.symm), c78.block k (by omega) (by simp), c67.block k (by omega) (by simpa using h2), c46.block k hk (by simpa using h1)]
  have gt : tb ≠ g := by
    rcases ha with e | e
    · exact fun h => ap.rt g e h.symm
    · have := h.flt tb h.ftb; omega
  have hgF : ∀ y ∈ g :: F, y < (w9.setCell ⟨tb, 2, none⟩ (.slice (some ⟨g, 0, none⟩) ((slotsF L).length + 1) cap)).heap.size := by
    intro y hy
    rw [World.size_setCell]
    rcases List.mem_cons.1 hy with e | e
    · omega
    · have := h.flt y e; omega
  have hset := Chg.set1 w9 tb 2 (.slice (some ⟨g, 0, none⟩) ((slotsF L).length + 1) cap)
  have hownOf : ∀ v : Value, ∀ a n c, v = .slice (some ⟨a, 0, none⟩) n c → ∀ k, v.ownBlock = some k → k = a := by
    intro v a n c e k hk
    subst e
    simp [Value.ownBlock] at hk
    exact hk.symm
  refine ⟨g :: F, ⟨sb, mb, .slice (some ⟨g, 0, none⟩) ((slotsF L).length + 1) cap, _, cp, tl, h.turn hj (s := j) (e' := ⟨true, fq, es[j].v⟩) ?_ ?_ ?_ ?_ ?_ ?_ ?_ ?_ ?_ ?_ ?_ ?_ hgF⟩, ?_, ?_⟩
  · rw [heap_set (by rw [keep tb (h.flt tb h.ftb) ap.ts ap.tm (fun e => ap.rt tb e rfl)]; exact h.head)]
    rfl
  · rw [heap_set_other _ (by exact fun e => ap.ts e.symm), hg.block sb (by have := h.flt sb h.fsb; omega) (fun e => ap.rs sb e.symm rfl), c78.block sb (by have := h.flt sb h.fsb; omega) (by simp), c67.block sb (by have := h.flt sb h.fsb; omega) (by simpa using ap.sm)]
    exact he6
  · intro t ht _ k hk
    rw [heap_set_other _ (ap.vt t ht k hk)]
    exact keep k (h.flt k (h.fes t ht k hk)) (ap.vs t ht k hk) (ap.vm t ht k hk) (ap.vr t ht k hk)
  · intro t ht
    refine ⟨by rw [usedF_append]; simp; intro e; exact absurd e.symm ht, ?_, ?_⟩
    · unfold qsF; rw [getF_other L _ ht]
    · unfold wsF; rw [getF_other L _ ht]
  · refine ⟨by rw [usedF_append]; simp, ?_, ?_⟩
    · unfold qsF; rw [getF_new (f := ⟨j, fq, []⟩) hu]; rfl
    · have e1 : wsF (L ++ [⟨j, fq, []⟩]) j = wsF L j := by rw [wsF_not hu]; unfold wsF; rw [getF_new (f := ⟨j, fq, []⟩) hu]; rfl
      rw [e1]
      refine (h.eok j hj).ws.keep fun k hk => ?_
      rw [heap_set_other _ (ap.vt j hj k hk)]
      exact keep k (h.flt k (h.fes j hj k hk)) (ap.vs j hj k hk) (ap.vm j hj k hk) (ap.vr j hj k hk)
  · exact fun k hk => .inl hk
  · rw [slotsF_append]
    refine (R.OwnR.snoc ho).chg hset fun k hk => ?_
    have := hownOf _ _ _ _ rfl k hk
    simp
    omega
  · refine hm7.keep ?_
    rw [heap_set_other _ (fun e => ap.tm e.symm), hg.block mb (by have := h.flt mb h.fmb; omega) (fun e => ap.rm mb e.symm rfl), c78.block mb (by have := h.flt mb h.fmb; omega) (by simp)]
  · exact h.ok.begin hu hfn hjn hmay.1 hmay.2 hnum (Nat.zero_le _)
  · exact fun y hy => List.mem_cons_of_mem _ hy
  · intro k hk
    rw [hownOf _ _ _ _ rfl k hk]
    exact List.mem_cons_self
  · exact fun k hk => List.mem_cons_of_mem _ (h.fes j hj k hk)
  · have k1 : Chg F w4 w7 := (c46.mono (by intro x hx; simp at hx; subst hx; exact h.fsb)).trans (c67.mono (by intro x hx; simp at hx; subst hx; exact h.fmb))
    have k2 : Chg F w4 w9 := (k1.trans (c78.mono (by simp))).grown hg (fun k hk => .inl (h.frv k hk))
    exact k2.setCell (.inl h.ftb) _
  · intro y hy
    rcases List.mem_cons.1 hy with e | e
    · subst e
      rcases ha with e | e
      · exact .inl (h.frv y e)
      · right; omega
    · exact .inl e
theorem ents_begin {w w5 w6 : World} {sb j : Nat} {es : List Ent} {tl : List Value} {fq : Qs} (h : w.heap[sb]? = some (.cells (eRow es tl) 85 (0, 0))) (hj : j < es.length)
    (h5 : w5 = w.setCell ⟨sb, j * 5, none⟩ (.bool true)) (h6 : w6 = (((w5.setCell ⟨sb, j * 5 + 1, none⟩ (.string (bytesV fq.name))).setCell ⟨sb, j * 5 + 1 + 1, none⟩ (.int .u16 (fq.ty : Nat))).setCell ⟨sb, j * 5 + 1 + 2, none⟩ (.int .u16 (fq.cl : Nat))).drew) :
    Chg [sb] w w6 ∧ w6.heap[sb]? = some (.cells (eRow (es.set j ⟨true, fq, es[j].v⟩) tl) 85 (0, 0)) := by
  have c5 : Chg [sb] w w5 := by rw [h5]; exact (Chg.refl _ _).setCell (.inl (by simp)) _
  have e5 : w5.heap[sb]? = some (.cells (eRow (es.set j ⟨true, es[j].q, es[j].v⟩) tl) 85 (0, 0)) := by
    rw [h5, heap_set h, ← eRow_set hj (j := 0) (u := .bool true) (e := ⟨true, es[j].q, es[j].v⟩) (by omega) rfl]
    rfl
  have hl1 : j < (es.set j ⟨true, es[j].q, es[j].v⟩).length := by rw [List.length_set]; exact hj
  refine ⟨?_, ?_⟩
  · rw [h6]
    exact (((c5.setCell (.inl (by simp)) _).setCell (.inl (by simp)) _).setCell (.inl (by simp)) _).drew
  · rw [h6]
    have k1 : (w5.setCell ⟨sb, j * 5 + 1, none⟩ (.string (bytesV fq.name))).heap[sb]? = some (.cells (eRow (es.set j ⟨true, ⟨fq.name, es[j].q.ty, es[j].q.cl⟩, es[j].v⟩) tl) 85 (0, 0)) := by
      rw [heap_set e5, eRow_set hl1 (j := 1) (e := ⟨true, ⟨fq.name, es[j].q.ty, es[j].q.cl⟩, es[j].v⟩) (by omega) (by rw [List.getElem_set_self]; rfl), List.set_set]
    have hl2 : j < (es.set j ⟨true, ⟨fq.name, es[j].q.ty, es[j].q.cl⟩, es[j].v⟩).length := by rw [List.length_set]; exact hj
    have k2 : ((w5.setCell ⟨sb, j * 5 + 1, none⟩ (.string (bytesV fq.name))).setCell ⟨sb, j * 5 + 2, none⟩ (.int .u16 (fq.ty : Nat))).heap[sb]? = some (.cells (eRow (es.set j ⟨true, ⟨fq.name, fq.ty, es[j].q.cl⟩, es[j].v⟩) tl) 85 (0, 0)) := by
      rw [heap_set k1, eRow_set hl2 (j := 2) (e := ⟨true, ⟨fq.name, fq.ty, es[j].q.cl⟩, es[j].v⟩) (by omega) (by rw [List.getElem_set_self]; rfl), List.set_set]
    have hl3 : j < (es.set j ⟨true, ⟨fq.name, fq.ty, es[j].q.cl⟩, es[j].v⟩).length := by rw [List.length_set]; exact hj
    show ((_ : World).setCell ⟨sb, j * 5 + 3, none⟩ _).heap[sb]? = _
    rw [heap_set k2, eRow_set hl3 (j := 3) (e := ⟨true, fq, es[j].v⟩) (by omega) (by rw [List.getElem_set_self]; rfl), List.set_set]

theorem chg_turned {w w' : World} {b : Nat} (h : w.mapTurned w' b) : Chg [b] w w' := by
  have hg := h.grown
  exact ⟨hg.os, hg.tape, hg.output, hg.size, fun k hk hs => hg.block k hk (by simp at hs; simpa using hs)⟩
theorem MapQ.begin {w : World} {mb : Nat} {L : List Fl} (h : MapQ w mb L) (hL : ∀ f ∈ L, OkQ f.q) (hlen : L.length ≤ 32) {f : Fl} (hq : OkQ f.q) (hs : f.slot < 32) (hn : findF L f.q = none) :
    ∃ w', (Instr.mapUpdate 66 (.map (some mb)) (qA f.q) (.int .i64 (f.slot : Nat))).run Try.prog w = .ok () w' ∧ MapQ w' mb (L ++ [f]) ∧ Chg [mb] w w' := by
  obtain ⟨D, h0, h1⟩ := h
  have htd := h0.tidy lawQ
  obtain ⟨w', hrun, h3, h4⟩ := h0.store lawQ Try.underlying66 (by unfold maxLen; omega) (key_q hq) (val := .int .i64 (f.slot : Nat)) (plainElem_int Try.underlying3 (WalkArith.wf_i64 (by omega)))
  exact ⟨w', hrun, MapQ.mk h3 (h1.put htd hL hq hn), chg_turned h4⟩
theorem MapQ.fin {w : World} {mb : Nat} {L : List Fl} (h : MapQ w mb L) (hL : ∀ f ∈ L, OkQ f.q) (hs : (slotsF L).Nodup) (hqs : (L.map Fl.q).Nodup) {f : Fl} (hf : f ∈ L) (ty : TypeId) :
    ∃ w', (Builtin.delete_ #[66, 25] ty #[.map (some mb), qA f.q]).run Try.prog w = .ok (.tuple #[]) w' ∧ MapQ w' mb (endF L f.slot) ∧ Chg [mb] w w' := by
  obtain ⟨D, h0, h1⟩ := h
  have htd := h0.tidy lawQ
  obtain ⟨w', hrun, h3, h4⟩ := h0.drop lawQ Try.underlying66 (key_q (hL f hf)) ty
  exact ⟨w', hrun, MapQ.mk h3 (h1.del htd hL hs hqs hf), chg_turned h4⟩

section
variable (F : List Nat) (tb n m : Nat) (L : List Fl) (w : World)
set_option maxRecDepth 100000 in
set_option maxHeartbeats 4000000 in
theorem begin_any (q : Qs) (r e : Nat) (L' : List Fl) (h : FT F w tb n m L) (hq : OkQ q) (hr : Hid (beginF L n q = (L', r, e))) :
    Calls Try.prog 12 #[.pointer (some ⟨tb, 0, none⟩), .agg #[.string (bytesV q.name), .int .u16 (q.ty : Nat), .int .u16 (q.cl : Nat)]] w fun x w' => x = .returned (.tuple #[.int .i64 (r : Nat), .int .i64 (e : Nat)]) ∧ FNext F w w' tb n m L' := by
  obtain ⟨y, hy⟩ : ∃ y, y = mayB q.name := ⟨_, rfl⟩
  have hs : (bytesV q.name).size ≤ maxLen := hq.name
  obtain ⟨sx, hsx⟩ : ∃ sx, sx = bytesV q.name := ⟨_, rfl⟩
  have hmay : ∀ w, Calls Try.prog 34 #[.string sx] w fun e w' => e = .returned (.bool y) ∧ w = w' := fun w => may_any sx y w (by rw [hsx]; exact hs) (Lib.hid (by rw [hy, hsx]; rfl))
  have hfo : ∀ W, Calls Try.prog 35 #[.agg #[.string sx, .int .u16 (q.ty : Nat), .int .u16 (q.cl : Nat)]] W fun e w' => e = .returned (.agg #[.string (bytesV (foldQ q).name), .int .u16 ((foldQ q).ty : Nat), .int .u16 ((foldQ q).cl : Nat)]) ∧ Chg [] W w' := fun W => by rw [hsx]; exact folded_any q (foldQ q) W hq.name (Lib.hid rfl)
  rw [← hsx]
  have H := Lib.hid h
  have HR := hr
  cases y with
  | false =>
    have e0 : beginF L n q = (L, 0, 1) := by unfold beginF; rw [← hy]; rfl
    have e1 := hr.out
    rw [e0] at e1
    injection e1 with e1 e2
    injection e2 with e2 e3
    subst e1; subst e2; subst e3
    clear e0 hr HR h hs hsx hy hfo
    go_enter Try.func12, Try.ntmps12
    go_wp2_with fail
    refine (hmay _).mono ?_
    rintro e w1 ⟨rfl, rfl⟩
    go_wp2
    go_ret2
    exact ⟨rfl, FNext.refl H.out ((Chg.refl _ _).alloc _)⟩
  | true =>
    obtain ⟨fq, hfq⟩ : ∃ fq, fq = foldQ q := ⟨_, rfl⟩
    have hokf : OkQ fq := by rw [hfq]; exact okQ_fold hq
    have e0 : beginF L n q = if (findF L fq).isSome then (L, 0, 7) else match freeF L n n 0 with | some s => (L ++ [⟨s, fq, []⟩], s, 0) | none => (L, 0, 9) := by unfold beginF; rw [← hy, hfq]; rfl
    rw [← hfq] at hfo
    have hmay1 : mayB fq.name = true ∧ foldL fq.name = fq.name := by
      rw [hfq]
      exact ⟨mayB_fold hy.symm, foldL_again q.name⟩
    have hnum : fq.ty < 65536 ∧ fq.cl < 65536 := ⟨hokf.ty, hokf.cl⟩
    obtain ⟨sb, mb, rv, es, cp, tl, hT⟩ := h
    have c3 : ∀ W, Chg [] w W → W.cell? ⟨tb, 3, none⟩ = some (.map (some mb)) := fun W hc => cell_of (hc.keep hT.head (by simp))
    have c1 : ∀ W, Chg [] w W → W.cell? ⟨tb, 1, none⟩ = some (.slice (some ⟨sb, 0, none⟩) n cp) := fun W hc => cell_of (hc.keep hT.head (by simp))
    have hlk : ∀ W, Chg [] w W → (Instr.lookup 66 (.map (some mb)) (qA fq) true).run Try.prog W = .ok (.tuple #[.int .i64 (((findF L fq).getD 0 : Nat) : Int), .bool (findF L fq).isSome]) W := fun W hc => (hT.map.chg hc (by simp)).look hokf
    unfold qA at hlk
    have HT := Lib.hid hT
    have hn32 := hT.n32
    have HE := Lib.hid e0
    have HMAY := Lib.hid hmay1
    have HNUM := Lib.hid hnum
    have HOKF := Lib.hid hokf
    clear hr e0 hT hsx hs hfq hy hmay1 hnum hokf hq
    obtain ⟨p0, hp0⟩ : ∃ p0, p0 = w.heap.size := ⟨_, rfl⟩
    go_enter Try.func12, Try.ntmps12
    go_wp2_with fail
    rw [← hp0]
    refine calls_abs ?_
    intro W hW
    have b0 : W.heap[p0]? = some (.cells #[.string sx, .int .u16 (q.ty : Nat), .int .u16 (q.cl : Nat)] 25 (0, 0)) := by rw [hW]; exact heap_new' _ _ _ hp0
    have hcW : Chg [] w W := by rw [hW]; exact (Chg.refl _ _).alloc _
    have l0 : W.cell? ⟨p0, 0, none⟩ = some (.string sx) := cell_of b0
    have l1 : W.cell? ⟨p0, 1, none⟩ = some (.int .u16 (q.ty : Nat)) := cell_of b0
    have l2 : W.cell? ⟨p0, 2, none⟩ = some (.int .u16 (q.cl : Nat)) := cell_of b0
    have f0 : ∀ i, W.frozen? ⟨p0, i, none⟩ = false := fun i => free_of b0
    have hl0 : w.heap.size ≤ p0 := by omega
    clear hW hp0
    refine (hmay _).mono ?_
    rintro e w1 ⟨rfl, rfl⟩
    clear hmay
    go_wp2_with fail
    refine (hfo _).mono ?_
    rintro e w2 ⟨rfl, hc2⟩
    have b2 := hc2.keep b0 (by simp)
    have m0 : w2.cell? ⟨p0, 0, none⟩ = some (.string sx) := cell_of b2
    have m1 : w2.cell? ⟨p0, 1, none⟩ = some (.int .u16 (q.ty : Nat)) := cell_of b2
    have m2 : w2.cell? ⟨p0, 2, none⟩ = some (.int .u16 (q.cl : Nat)) := cell_of b2
    have f2 : ∀ i, w2.frozen? ⟨p0, i, none⟩ = false := fun i => free_of b2
    have hC3 : Chg [] w (((w2.setCell ⟨p0, 0, none⟩ (.string (bytesV fq.name))).setCell ⟨p0, 1, none⟩ (.int .u16 (fq.ty : Nat))).setCell ⟨p0, 2, none⟩ (.int .u16 (fq.cl : Nat))) := (((hcW.trans hc2).setCell (.inr hl0) _).setCell (.inr hl0) _).setCell (.inr hl0) _
    have k3 := c3 _ hC3
    have k4 := hlk _ hC3
    have HM := Lib.hid (set3 (a := .string (bytesV fq.name)) (b := .int .u16 (fq.ty : Nat)) (c := .int .u16 (fq.cl : Nat)) m0 m1 m2)
    clear b0 b2 l0 l1 l2 f0 hcW hc2 hfo k3 k4
    go_wp2_with fail
    refine wp_abs ?_
    intro w3 hw3
    rw [← hw3] at HM hC3
    obtain ⟨n0, n1, n2⟩ := HM.out
    have k3 := c3 _ hC3
    have k4 := fun k => hlk (w3.drewN k) (hC3.drewN k)
    clear hw3 m0 m1 m2 f2 HM c3 hlk
    cases hfd : findF L fq with
    | some sl =>
      rw [hfd] at k4
      have e1 := HE.out.symm.trans HR.out
      rw [hfd] at e1
      injection e1 with e1 e2
      injection e2 with e2 e3
      subst e1; subst e2; subst e3
      go_quiet (fail)
      generalize hw4 : w3.drewN nq = w4
      have hC4 : Chg [] w w4 := by rw [← hw4]; exact hC3.drewN _
      clear hw4 hC3 n0 n1 n2 k3 k4 c1
      go_wp2
      go_ret2
      exact ⟨rfl, FNext.refl H.out hC4⟩
    | none =>
      rw [hfd] at k4
      go_quiet (fail)
      generalize hw4 : w3.drewN nq = w4
      have hC4 : Chg [] w w4 := by rw [← hw4]; exact hC3.drewN _
      have g0 : w4.cell? ⟨p0, 0, none⟩ = some (.string (bytesV fq.name)) := by rw [← hw4]; exact n0
      have g1 : w4.cell? ⟨p0, 1, none⟩ = some (.int .u16 (fq.ty : Nat)) := by rw [← hw4]; exact n1
      have g2 : w4.cell? ⟨p0, 2, none⟩ = some (.int .u16 (fq.cl : Nat)) := by rw [← hw4]; exact n2
      have g3 := c1 w4 hC4
      clear hw4 hC3 n0 n1 n2 k3 k4 c1
      go_wp2_with fail
      go_loop [32] (fun i => ∃ j : Nat, j ≤ n ∧ i = .int .i64 (j : Nat) ∧ ∀ t, t < j → usedF L t = true) (fun i => n - (intOf i).toNat)
      case atStart => exact ⟨0, Nat.zero_le _, rfl, fun t ht => absurd ht (Nat.not_lt_zero _)⟩
      case round =>
        obtain ⟨j, hj, rfl, hall⟩ := hrel
        have HALL := Lib.hid hall
        clear hall
        by_cases hlt : j < n
        · obtain ⟨v, d0, d1, d2, d3, d4, _⟩ := (HT.out.same hC4).cells hlt
          cases hu : usedF L j with
          | true =>
            rw [hu] at d0
            have HU := Lib.hid hu
            clear hu
            go_wp2
            go_round
            case rel => exact ⟨j + 1, by omega, by go_num, fun t ht => by
              rcases Nat.lt_or_ge t j with e | e
              · exact HALL.out t e
              · obtain rfl : t = j := by omega
                exact HU.out⟩
            case measure => simp [intOf] <;> omega
          | false =>
            rw [hu] at d0
            have HU := Lib.hid hu
            clear hu
            have hfree : freeF L n n 0 = some j := by
              rcases freeF_spec L n n 0 (by omega) with ⟨_, h2⟩ | ⟨i, h1, _, h3, h4, h5⟩
              · have := h2 j (Nat.zero_le _) hlt
                rw [HU.out] at this
                cases this
              · rcases Nat.lt_trichotomy i j with e | e | e
                · have := HALL.out i e
                  rw [h4] at this
                  cases this
                · rw [h1, e]
                · have := h5 j (Nat.zero_le _) e
                  rw [HU.out] at this
                  cases this
            have e1 := HE.out.symm.trans HR.out
            rw [hfd, hfree] at e1
            injection e1 with e1 e2
            injection e2 with e2 e3
            subst e1; subst e2; subst e3
            clear hfree
            have fz : ∀ i, w4.frozen? ⟨sb, i, none⟩ = false := fun i => free_of (hC4.keep HT.out.ents (by simp))
            have hjl : j < es.length := by rw [HT.out.elen]; exact hlt
            have hts : tb ≠ sb := HT.out.apart.ts
            have hps : p0 ≠ sb := by have := HT.out.flt sb HT.out.fsb; omega
            go_wp2_with fail
            refine wp_abs ?_
            intro w5 hw5
            have x1 : w5.cell? ⟨tb, 1, none⟩ = some (.slice (some ⟨sb, 0, none⟩) n cp) := by rw [hw5, World.cell?_setCell_other _ _ _ _ (by simp [Ne.symm hts])]; exact g3
            have x2 : w5.cell? ⟨p0, 0, none⟩ = some (.string (bytesV fq.name)) := by rw [hw5, World.cell?_setCell_other _ _ _ _ (by simp [Ne.symm hps])]; exact g0
            have x3 : w5.cell? ⟨p0, 1, none⟩ = some (.int .u16 (fq.ty : Nat)) := by rw [hw5, World.cell?_setCell_other _ _ _ _ (by simp [Ne.symm hps])]; exact g1
            have x4 : w5.cell? ⟨p0, 2, none⟩ = some (.int .u16 (fq.cl : Nat)) := by rw [hw5, World.cell?_setCell_other _ _ _ _ (by simp [Ne.symm hps])]; exact g2
            have y1 : w5.cell? ⟨sb, j * 5 + 1, none⟩ = some (.string (bytesV (qsF L j).name)) := by rw [hw5, World.cell?_setCell_other _ _ _ _ (by simp)]; exact d1
            have y2 : w5.cell? ⟨sb, j * 5 + 2, none⟩ = some (.int .u16 ((qsF L j).ty : Nat)) := by rw [hw5, World.cell?_setCell_other _ _ _ _ (by simp)]; exact d2
            have y3 : w5.cell? ⟨sb, j * 5 + 3, none⟩ = some (.int .u16 ((qsF L j).cl : Nat)) := by rw [hw5, World.cell?_setCell_other _ _ _ _ (by simp)]; exact d3
            have z1 : ∀ i, w5.frozen? ⟨sb, i, none⟩ = false := by intro i; rw [hw5]; simpa using fz i
            have HW5 := Lib.hid hw5
            clear hw5 g0 g1 g2 g3 d0 d1 d2 d3 d4 fz
            apply wp_one
            case h =>
              go_region_with (fail)
              all_goals exact ⟨rfl, rfl⟩
            case k =>
              go_wp2_with fail
              refine wp_abs ?_
              intro w6 hw6
              obtain ⟨c46, he6⟩ := ents_begin (hC4.keep HT.out.ents (by simp)) hjl HW5.out hw6
              have hap := HT.out.apart
              have hpm : p0 ≠ sb := hps
              have k1 : w6.cell? ⟨tb, 3, none⟩ = some (.map (some mb)) := by
                have := (hC4.mono (by simp : ∀ x ∈ ([] : List Nat), x ∈ [sb])).trans c46
                exact this.cell (cell_of HT.out.head) (by simp [hap.ts])
              have k2 : w6.cell? ⟨tb, 2, none⟩ = some rv := by
                have := (hC4.mono (by simp : ∀ x ∈ ([] : List Nat), x ∈ [sb])).trans c46
                exact this.cell (cell_of HT.out.head) (by simp [hap.ts])
              have o2 : w6.cell? ⟨p0, 0, none⟩ = some (.string (bytesV fq.name)) := by rw [hw6]; simpa [World.cell?_setCell_other, hps, Ne.symm hps] using x2
              have o3 : w6.cell? ⟨p0, 1, none⟩ = some (.int .u16 (fq.ty : Nat)) := by rw [hw6]; simpa [World.cell?_setCell_other, hps, Ne.symm hps] using x3
              have o4 : w6.cell? ⟨p0, 2, none⟩ = some (.int .u16 (fq.cl : Nat)) := by rw [hw6]; simpa [World.cell?_setCell_other, hps, Ne.symm hps] using x4
              obtain ⟨w7, hup, hm7, c67⟩ := MapQ.begin (w := w6.drew) (f := ⟨j, fq, []⟩) ((HT.out.map.chg hC4 (by simp)).chg c46.drew (by simp [Ne.symm hap.sm])) HT.out.ok.okQ (by have := HT.out.ok.len; omega) HOKF.out (by show j < 32; omega) hfd
              replace c67 : Chg [mb] w6 w7 := c67.undrew
              unfold qA at hup
              simp only at hup
              have k3 : w7.cell? ⟨tb, 2, none⟩ = some rv := c67.cell k2 (by simp [hap.tm])
              have k4 : w7.frozen? ⟨tb, 2, none⟩ = false := free_of (c67.keep (((hC4.mono (by simp : ∀ x ∈ ([] : List Nat), x ∈ [sb])).trans c46).keep HT.out.head (by simp [hap.ts])) (by simp [hap.tm]))
              clear hw6 x1 x2 x3 x4 y1 y2 y3 z1 k2
              apply wp_one
              case h =>
                go_region_with (fail)
                all_goals exact ⟨rfl, rfl⟩
              case k =>
                obtain ⟨ra, rc, hrv⟩ := HT.out.row.len
                obtain ⟨ln, hln⟩ : ∃ ln, ln = (slotsF L).length := ⟨_, rfl⟩
                have hln32 : ln ≤ 32 := by have := HT.out.ok.len; rw [hln]; simp [slotsF]; omega
                obtain ⟨sl, hsl⟩ : ∃ sl, sl = (slotsF L).flatMap sV := ⟨_, rfl⟩
                have hown : w7.ownsRow 0 3 1 (.slice ra ln rc) ln sl := by
                  have h1 : R.OwnR 3 1 sV 0 w7 rv (slotsF L) := (HT.out.row.chg hC4 (by simp)).keep fun k hk => by
                    have hk' := (HT.out.row.blk k hk).2.1
                    have hs4 := hC4.size
                    have hs6 := c46.size
                    rw [c67.block k (by omega) (by simpa using hap.rm k hk), c46.block k (by omega) (by simpa using hap.rs k hk)]
                  unfold R.OwnR at h1
                  rw [← hln, ← hsl, hrv, ← hln] at h1
                  exact h1
                rw [hrv, ← hln] at k3
                have HOWN := Lib.hid hown
                have HLN := Lib.hid hln
                have HSL := Lib.hid hsl
                have HRV := Lib.hid hrv
                have HC67 := Lib.hid c67
                have HC46 := Lib.hid c46
                have HE6 := Lib.hid he6
                have HM7 := Lib.hid hm7
                obtain ⟨i0, hi0, hz0, hz1, hz2⟩ := info_parts (show (Try.prog.info? 3).map (fun i => (i.zero, i.size, i.bytes)) = some (some (.int .i64 0), 1, 8) by kernel_rfl)
                obtain ⟨B, hB⟩ : ∃ B, B = w7.heap.size := ⟨_, rfl⟩
                have htB : tb < B := by have := (HC67.out.keep (((hC4.mono (by simp : ∀ x ∈ ([] : List Nat), x ∈ [sb])).trans HC46.out).keep HT.out.head (by simp [hap.ts])) (by simp [hap.tm])); rw [hB]; exact lt_of_block this
                have HB := Lib.hid hB
                clear hown hln hsl hrv c67 c46 he6 hm7 hup hB k1 o2 o3 o4
                go_wp2_with (first
                  | (at_builtin; go_must (refine wpList_append_lies _ rfl _ _ 48 rfl 0 3 i0 (.int .i64 0) 1 8 Try.underlying48 hi0 hz0 hz1 hz2 rfl (by omega) _ _ _ rfl (HOWN.out.alloc _) ⟨_, 0, none⟩ 1 1 (sV j) rfl ?_ ?_ ?_ (by omega) (by unfold maxLen; omega) (by omega) (Nat.zero_le _) _ rfl ?_))
                  | go_in)
                · rfl
                · exact news1 (heap_new' _ _ _ rfl)
                · intro u hu; simp [sV] at hu; subst hu; rfl
                · intro g cap w9 ho hg ha hl
                  have hbl : ∀ k, (Value.slice ra ln rc).ownBlock = some k → k ≠ tb := fun k hk => hap.rt k (by rw [HRV.out, ← HLN.out]; exact hk)
                  have q0 : (w7.alloc (.cells #[.int .i64 (j : Nat)] 3)).cell? ⟨tb, 2, none⟩ = some (.slice ra ln rc) := ((Chg.refl [] w7).alloc _).cell k3 (by simp)
                  have q3 : w9.cell? ⟨tb, 2, none⟩ = some (.slice ra ln rc) := hg.cell q0 (fun e => hbl tb e.symm rfl)
                  have q4 : w9.frozen? ⟨tb, 2, none⟩ = false := by
                    have hsz := ((Chg.refl [] w7).alloc (.cells #[.int .i64 (j : Nat)] 3)).size
                    have hB2 := HB.out
                    have h1 : (w7.alloc (.cells #[.int .i64 (j : Nat)] 3)).heap[tb]? = w7.heap[tb]? := Below.heap_alloc _ _ _ (by omega)
                    rw [World.frozen?_of_block (w := w7) ((hg.block tb (by omega) (fun e => hbl tb e.symm rfl)).trans h1)]
                    exact k4
                  have HG := Lib.hid hg
                  have HO := Lib.hid ho
                  have HA := Lib.hid ha
                  have HL := Lib.hid hl
                  clear hg ho ha hl hbl q0 k3 k4
                  go_wp2
                  go_ret2
                  refine ⟨rfl, FNext.pre hC4 ?_⟩
                  have h4 := HT.out.same hC4
                  have hrow : rv = .slice ra ln rc := by rw [HRV.out, ← HLN.out]
                  have k := begin_step h4 hjl HU.out hfd HMAY.out HNUM.out HC46.out HE6.out HC67.out HM7.out ((Chg.refl [] w7).alloc (.cells #[.int .i64 (j : Nat)] 3)) (w9 := w9) (g := g) (cap := cap) (by rw [hrow]; exact HG.out) (by rw [← HLN.out, ← HSL.out]; exact HO.out) (by rw [hrow]; rcases HA.out with e | e; exact .inl e; exact .inr (e.trans (by simp))) HL.out
                  rw [← HLN.out] at k
                  exact k
        · obtain rfl : j = n := by omega
          have hfree : freeF L j j 0 = none := by
            rcases freeF_spec L j j 0 (by omega) with ⟨h1, _⟩ | ⟨i, _, _, h3, h4, _⟩
            · exact h1
            · have := HALL.out i h3
              rw [h4] at this
              cases this
          have e1 := HE.out.symm.trans HR.out
          rw [hfd, hfree] at e1
          injection e1 with e1 e2
          injection e2 with e2 e3
          subst e1; subst e2; subst e3
          clear hfree
          go_wp2
          go_ret2
          exact ⟨rfl, FNext.refl H.out hC4⟩
end

end Go.Proofs.Ytopkbchjlifflaa
