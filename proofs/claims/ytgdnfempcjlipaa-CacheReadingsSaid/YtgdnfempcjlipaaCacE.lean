/- A cache in memory: its parts; what each change of a part leaves. -/
import Derived.Test.YtgdnfempcjlipaaCacD
namespace Go.Proofs.Ytgdnfempcjlipaa
open Go.RowKit Go.Maps

/-- The type of a block's cells. -/
def ty? (w : World) (y : Nat) : Option TypeId := match w.heap[y]? with | some (.cells _ t _) => some t | _ => none
theorem ty_cells {w : World} {y : Nat} {c : Array Value} {t : TypeId} {f : Nat × Nat} (h : w.heap[y]? = some (.cells c t f)) : ty? w y = some t := by unfold ty?; rw [h]
theorem ty_map {w : World} {y : Nat} {es : Array MapEntry} {c : Nat} (h : w.heap[y]? = some (.map es c)) : ty? w y = none := by unfold ty?; rw [h]
theorem noSet_of {S : List Nat} {w : World} (h : ∀ k ∈ S, ty? w k ≠ some 84 ∧ ty? w k ≠ some 9) : NoSet S w := by
  intro k hk c t f e
  have := h k hk
  rw [ty_cells e] at this
  exact ⟨fun e2 => this.1 (by rw [e2]), fun e2 => this.2 (by rw [e2])⟩

/-- Blocks of timers, tight. -/
def TimTy (w : World) (F : List Nat) : Prop := ∀ y ∈ F, ty? w y = none ∨ ty? w y = some 114 ∨ ty? w y = some 117
theorem tim_tight {w : World} {tb : Nat} {F : List Nat} {L : List Ti.It} {p : Nat} (h : Ti.TimersAt w tb F L p) : ∃ F', Ti.TimersAt w tb F' L p ∧ (∀ y ∈ F', y ∈ F) ∧ TimTy w F' := by
  obtain ⟨mv, a, n, c, Q, h⟩ := h
  obtain ⟨q1, q2, q3⟩ := h.qs
  have hmap := h.map
  obtain ⟨mB, hm1, hm2, hm3⟩ : ∃ mB : List Nat, Ti.MapQ w mv p mB Q ∧ (∀ y ∈ mB, y ∈ F) ∧ ∀ y ∈ mB, ty? w y = none := by
    rcases hmap with hmap | ⟨mb, k, f, e1, e2, e3, e4, e5⟩
    · exact ⟨[], .inl hmap, by simp, by simp⟩
    · refine ⟨[mb], .inr ⟨mb, k, f, e1, e2, e3, by simp, e5⟩, by simpa using e4, ?_⟩
      intro y hy
      simp at hy
      subst hy
      obtain ⟨D, ⟨es, clock, hb, _⟩, _⟩ := e2
      exact ty_map hb
  rcases q3 with q3 | ⟨qb, r1, r2, r3, r4⟩
  · refine ⟨mB, ⟨mv, a, n, c, Q, h.head, ⟨q1, q2, .inl q3⟩, h.heap, h.perm, hm1, fun hx => h.out (hm2 _ hx), fun y hy => h.low y (hm2 y hy), h.ok⟩, hm2, fun y hy => .inl (hm3 y hy)⟩
  · have hin : ∀ y ∈ mB ++ Ti.blksQ qb Q, y ∈ F := by
      intro y hy
      rcases List.mem_append.1 hy with hy | hy
      · exact hm2 y hy
      · exact r4 y hy
    refine ⟨mB ++ Ti.blksQ qb Q, ⟨mv, a, n, c, Q, h.head, ⟨q1, q2, .inr ⟨qb, r1, r2, r3, fun y hy => List.mem_append_right _ hy⟩⟩, h.heap, h.perm, ?_, fun hx => h.out (hin _ hx), fun y hy => h.low y (hin y hy), h.ok⟩, hin, ?_⟩
    · rcases hm1 with hm1 | ⟨mb, k, f, e1, e2, e3, e4, e5⟩
      · exact .inl hm1
      · exact .inr ⟨mb, k, f, e1, e2, e3, List.mem_append_left _ e4, e5⟩
    · intro y hy
      rcases List.mem_append.1 hy with hy | hy
      · exact .inl (hm3 y hy)
      · right
        unfold Ti.blksQ at hy
        rcases List.mem_cons.1 hy with e | e
        · obtain ⟨rest, _, hr⟩ := r3.row
          rw [e]
          exact .inl (ty_cells hr)
        · obtain ⟨x, hx, rfl⟩ := List.mem_map.1 e
          obtain ⟨i, hi, rfl⟩ := List.getElem_of_mem hx
          exact .inr (ty_cells (r3.items i hi))

/-- The slots that a hash has, in the row in which they came. -/
def kh (K : List (Nat × Nat)) (h : Nat) : List Nat := (K.filter fun y => decide (y.2 = h)).map (·.1)
def intV (s : Nat) : List Value := [.int .i64 (s : Nat)]
theorem intV_len (s : Nat) : (intV s).length = 1 := rfl
structure EntOk (w : World) (x : En) (e : EnV) : Prop where
  q : e.q = x.q
  til : e.til = x.til
  v : OwnV 0 w e.code e.sv e.ov x.v
theorem EntOk.chg {w w' : World} {x : En} {e : EnV} {S : List Nat} (h : EntOk w x e) (hc : Chg S w w') (hS : NoSet S w) : EntOk w' x e := ⟨h.q, h.til, h.v.chg hc hS⟩
structure RowsH (w : World) (f : Nat → Option Value) (K : List (Nat × Nat)) : Prop where
  no : ∀ h, f h = none → kh K h = []
  yes : ∀ h v, f h = some v → kh K h ≠ [] ∧ R.OwnR 3 1 intV 0 w v (kh K h)
  apart : ∀ h h' v v' g, f h = some v → f h' = some v' → v.ownBlock = some g → v'.ownBlock = some g → h = h'
def RowBlk (f : Nat → Option Value) (y : Nat) : Prop := ∃ h v, f h = some v ∧ v.ownBlock = some y
theorem RowsH.ty {w : World} {f : Nat → Option Value} {K : List (Nat × Nat)} (h : RowsH w f K) {y : Nat} (hy : RowBlk f y) : ty? w y = some 3 ∧ y < w.heap.size := by
  obtain ⟨k, v, h1, h2⟩ := hy
  obtain ⟨_, hl, c, hc⟩ := (h.yes k v h1).2.blk y h2
  exact ⟨ty_cells hc, hl⟩
theorem RowsH.chg {w w' : World} {f : Nat → Option Value} {K : List (Nat × Nat)} {S : List Nat} (h : RowsH w f K) (hc : Chg S w w') (hS : ∀ y, RowBlk f y → y ∉ S) : RowsH w' f K :=
  ⟨h.no, fun k v hv => ⟨(h.yes k v hv).1, (h.yes k v hv).2.chg hc fun g hg => hS g ⟨k, v, hv, hg⟩⟩, h.apart⟩
theorem RowsH.new (w : World) : RowsH w (fun _ => none) [] := ⟨fun _ _ => rfl, (fun _ _ h => by cases h), (fun _ _ _ _ _ h => by cases h)⟩

structure CSc (w : World) (cb n k0 k1 : Nat) (now : Int) (row : List Nat) (L : List Sl) (K : List (Nat × Nat)) (T : List Ti.It) (p m : Nat) (eb mb lb tb cp : Nat) (tl : List Value) (FT : List Nat) (f : Nat → Option Value) (es : List EnV) : Prop where
  head : w.heap[cb]? = some (.cells #[.int .i64 (n : Nat), .int .u64 (k0 : Nat), .int .u64 (k1 : Nat), .int .i64 now, .slice (some ⟨eb, 0, none⟩) n cp, .map (some mb), .pointer (some ⟨lb, 0, none⟩), .pointer (some ⟨tb, 0, none⟩)] 70 (0, 0))
  ents : w.heap[eb]? = some (.cells (eRow es tl) 78 (0, 0))
  elen : es.length = n
  esl : ∀ e ∈ es, sliceB e.sv = true ∧ sliceB e.ov = true
  eok : ∀ x ∈ L, x.s < es.length ∧ ∀ h : x.s < es.length, EntOk w x.e es[x.s]
  lru : Lr.LruAt w lb n row
  tim : Ti.TimersAt w tb FT T p
  ftt : TimTy w FT
  fmb : mb ∉ FT
  map : MapH w mb m f
  rows : RowsH w f K
  l0 : k0 < 18446744073709551616
  l1 : k1 < 18446744073709551616
/-- The blocks of a cache. -/
def Part (cb eb mb lb tb : Nat) (FT : List Nat) (f : Nat → Option Value) (y : Nat) : Prop := y = cb ∨ y = eb ∨ y = mb ∨ y = lb ∨ y = tb ∨ y ∈ FT ∨ RowBlk f y

section
variable {w w' : World} {cb n k0 k1 : Nat} {now : Int} {row : List Nat} {L : List Sl} {K : List (Nat × Nat)} {T : List Ti.It} {p m eb mb lb tb cp : Nat} {tl : List Value} {FT : List Nat} {f : Nat → Option Value} {es : List EnV}
theorem CSc.tcb (h : CSc w cb n k0 k1 now row L K T p m eb mb lb tb cp tl FT f es) : ty? w cb = some 70 := ty_cells h.head
theorem CSc.teb (h : CSc w cb n k0 k1 now row L K T p m eb mb lb tb cp tl FT f es) : ty? w eb = some 78 := ty_cells h.ents
theorem CSc.tmb (h : CSc w cb n k0 k1 now row L K T p m eb mb lb tb cp tl FT f es) : ty? w mb = none := by
  obtain ⟨es, c, hb⟩ := h.map.isMap
  exact ty_map hb
theorem CSc.tlb (h : CSc w cb n k0 k1 now row L K T p m eb mb lb tb cp tl FT f es) : ty? w lb = some 108 := by
  obtain ⟨_, _, nx, la, hr, _⟩ := h.lru
  exact ty_cells hr.2.2
theorem CSc.ttb (h : CSc w cb n k0 k1 now row L K T p m eb mb lb tb cp tl FT f es) : ty? w tb = some 113 := by
  obtain ⟨mv, a, n, c, Q, h⟩ := h.tim
  exact ty_cells h.head
theorem CSc.part_lt (h : CSc w cb n k0 k1 now row L K T p m eb mb lb tb cp tl FT f es) {y : Nat} (hy : Part cb eb mb lb tb FT f y) : y < w.heap.size := by
  rcases hy with e | e | e | e | e | e | e
  · rw [e]; exact lt_of_block h.head
  · rw [e]; exact lt_of_block h.ents
  · rw [e]; exact h.map.lt
  · rw [e]; exact h.lru.lt
  · rw [e]; exact h.tim.lt
  · exact h.tim.low y e
  · exact (h.rows.ty e).2
/-- The type of each part. -/
theorem CSc.part_ty (h : CSc w cb n k0 k1 now row L K T p m eb mb lb tb cp tl FT f es) {y : Nat} (hy : Part cb eb mb lb tb FT f y) : ty? w y ≠ some 84 ∧ ty? w y ≠ some 9 := by
  rcases hy with e | e | e | e | e | e | e
  · rw [e, h.tcb]; exact ⟨by decide, by decide⟩
  · rw [e, h.teb]; exact ⟨by decide, by decide⟩
  · rw [e, h.tmb]; exact ⟨by decide, by decide⟩
  · rw [e, h.tlb]; exact ⟨by decide, by decide⟩
  · rw [e, h.ttb]; exact ⟨by decide, by decide⟩
  · rcases h.ftt y e with e | e | e <;> rw [e] <;> exact ⟨by decide, by decide⟩
  · rw [(h.rows.ty e).1]; exact ⟨by decide, by decide⟩
/-- Changes elsewhere. -/
theorem CSc.other {S : List Nat} (h : CSc w cb n k0 k1 now row L K T p m eb mb lb tb cp tl FT f es) (hc : Chg S w w') (hS : ∀ y ∈ S, ¬ Part cb eb mb lb tb FT f y) (hN : NoSet S w) : CSc w' cb n k0 k1 now row L K T p m eb mb lb tb cp tl FT f es := by
  have no : ∀ y, Part cb eb mb lb tb FT f y → y ∉ S := fun y hy hs => hS y hs hy
  refine ⟨hc.keep h.head (no _ (.inl rfl)), hc.keep h.ents (no _ (.inr (.inl rfl))), h.elen, h.esl, fun x hx => ⟨(h.eok x hx).1, fun hh => ((h.eok x hx).2 hh).chg hc hN⟩, h.lru.chg hc (no _ (.inr (.inr (.inr (.inl rfl))))), h.tim.chg hc (no _ (.inr (.inr (.inr (.inr (.inl rfl)))))) fun y hy => no y (.inr (.inr (.inr (.inr (.inr (.inl hy)))))), ?_, h.fmb, h.map.chg hc (no _ (.inr (.inr (.inl rfl)))), h.rows.chg hc fun y hy => no y (.inr (.inr (.inr (.inr (.inr (.inr hy)))))), h.l0, h.l1⟩
  intro y hy
  have e : ty? w' y = ty? w y := by unfold ty?; rw [hc.block y (h.tim.low y hy) (no y (.inr (.inr (.inr (.inr (.inr (.inl hy)))))))]
  rw [e]
  exact h.ftt y hy
/-- The tick turns. -/
theorem CSc.tick (h : CSc w cb n k0 k1 now row L K T p m eb mb lb tb cp tl FT f es) (t : Int) : CSc (w.setCell ⟨cb, 3, none⟩ (.int .i64 t)) cb n k0 k1 t row L K T p m eb mb lb tb cp tl FT f es := by
  have hc : Chg [cb] w (w.setCell ⟨cb, 3, none⟩ (.int .i64 t)) := Chg.set1 _ _ _ _
  have ne : ∀ y, ty? w y ≠ some 70 → y ∉ [cb] := by
    intro y hy hs
    simp at hs
    rw [hs] at hy
    exact hy h.tcb
  have hN : NoSet [cb] w := noSet_of fun k hk => by simp at hk; rw [hk, h.tcb]; exact ⟨by decide, by decide⟩
  have hT : ∀ y ∈ FT, y ∉ [cb] := fun y hy => ne y (by rcases h.ftt y hy with e | e | e <;> rw [e] <;> decide)
  refine ⟨by rw [heap_set h.head]; rfl, hc.keep h.ents (ne _ (by rw [h.teb]; decide)), h.elen, h.esl, fun x hx => ⟨(h.eok x hx).1, fun hh => ((h.eok x hx).2 hh).chg hc hN⟩, h.lru.chg hc (ne _ (by rw [h.tlb]; decide)), h.tim.chg hc (ne _ (by rw [h.ttb]; decide)) hT, ?_, h.fmb, h.map.chg hc (ne _ (by rw [h.tmb]; decide)), h.rows.chg hc (fun y hy => ne y (by rw [(h.rows.ty hy).1]; decide)), h.l0, h.l1⟩
  intro y hy
  have e : ty? (w.setCell ⟨cb, 3, none⟩ (.int .i64 t)) y = ty? w y := by unfold ty?; rw [hc.block y (h.tim.low y hy) (hT y hy)]
  rw [e]
  exact h.ftt y hy
/-- The timers turn. -/
theorem CSc.timers {FT' : List Nat} {T' : List Ti.It} {p' : Nat} (h : CSc w cb n k0 k1 now row L K T p m eb mb lb tb cp tl FT f es) (hc : Chg (tb :: FT) w w') (hT : Ti.TimersAt w' tb FT' T' p') (hF : ∀ y ∈ FT', y ∈ FT ∨ w.heap.size ≤ y) (hty : TimTy w' FT') : CSc w' cb n k0 k1 now row L K T' p' m eb mb lb tb cp tl FT' f es := by
  have ne : ∀ y, ty? w y ≠ some 113 → ty? w y ≠ none → ty? w y ≠ some 114 → ty? w y ≠ some 117 → y ∉ tb :: FT := by
    intro y h1 h2 h3 h4 hs
    rcases List.mem_cons.1 hs with e | e
    · rw [e] at h1; exact h1 h.ttb
    · rcases h.ftt y e with e2 | e2 | e2
      · exact h2 e2
      · exact h3 e2
      · exact h4 e2
  have hmb : mb ∉ tb :: FT := by
    intro hs
    rcases List.mem_cons.1 hs with e | e
    · have := h.ttb; rw [← e, h.tmb] at this; cases this
    · exact h.fmb e
  have hN : NoSet (tb :: FT) w := noSet_of fun k hk => by
    rcases List.mem_cons.1 hk with e | e
    · rw [e, h.ttb]; exact ⟨by decide, by decide⟩
    · rcases h.ftt k e with e2 | e2 | e2 <;> rw [e2] <;> exact ⟨by decide, by decide⟩
  refine ⟨hc.keep h.head (ne _ (by rw [h.tcb]; decide) (by rw [h.tcb]; decide) (by rw [h.tcb]; decide) (by rw [h.tcb]; decide)), hc.keep h.ents (ne _ (by rw [h.teb]; decide) (by rw [h.teb]; decide) (by rw [h.teb]; decide) (by rw [h.teb]; decide)), h.elen, h.esl, fun x hx => ⟨(h.eok x hx).1, fun hh => ((h.eok x hx).2 hh).chg hc hN⟩, h.lru.chg hc (ne _ (by rw [h.tlb]; decide) (by rw [h.tlb]; decide) (by rw [h.tlb]; decide) (by rw [h.tlb]; decide)), hT, hty, ?_, h.map.chg hc hmb, h.rows.chg hc (fun y hy => ne y (by rw [(h.rows.ty hy).1]; decide) (by rw [(h.rows.ty hy).1]; decide) (by rw [(h.rows.ty hy).1]; decide) (by rw [(h.rows.ty hy).1]; decide)), h.l0, h.l1⟩
  intro hx
  rcases hF mb hx with e | e
  · exact h.fmb e
  · have := h.map.lt; omega
/-- The row turns. -/
theorem CSc.order {row' : List Nat} (h : CSc w cb n k0 k1 now row L K T p m eb mb lb tb cp tl FT f es) (hc : Chg [lb] w w') (hl : Lr.LruAt w' lb n row') : CSc w' cb n k0 k1 now row' L K T p m eb mb lb tb cp tl FT f es := by
  have ne : ∀ y, ty? w y ≠ some 108 → y ∉ [lb] := by
    intro y hy hs
    simp at hs
    rw [hs] at hy
    exact hy h.tlb
  have hN : NoSet [lb] w := noSet_of fun k hk => by simp at hk; rw [hk, h.tlb]; exact ⟨by decide, by decide⟩
  have hT : ∀ y ∈ FT, y ∉ [lb] := fun y hy => ne y (by rcases h.ftt y hy with e | e | e <;> rw [e] <;> decide)
  refine ⟨hc.keep h.head (ne _ (by rw [h.tcb]; decide)), hc.keep h.ents (ne _ (by rw [h.teb]; decide)), h.elen, h.esl, fun x hx => ⟨(h.eok x hx).1, fun hh => ((h.eok x hx).2 hh).chg hc hN⟩, hl, h.tim.chg hc (ne _ (by rw [h.ttb]; decide)) hT, ?_, h.fmb, h.map.chg hc (ne _ (by rw [h.tmb]; decide)), h.rows.chg hc (fun y hy => ne y (by rw [(h.rows.ty hy).1]; decide)), h.l0, h.l1⟩
  intro y hy
  have e : ty? w' y = ty? w y := by unfold ty?; rw [hc.block y (h.tim.low y hy) (hT y hy)]
  rw [e]
  exact h.ftt y hy
/-- A slot is written. -/
theorem CSc.entry {L' : List Sl} {s : Nat} {e : EnV} (h : CSc w cb n k0 k1 now row L K T p m eb mb lb tb cp tl FT f es) (hs : s < es.length) (he : sliceB e.sv = true ∧ sliceB e.ov = true)
    (hL : ∀ x ∈ L', (x ∈ L ∧ x.s ≠ s) ∨ (x.s = s ∧ EntOk w x.e e)) : CSc (wset7 w eb (s * 7) e) cb n k0 k1 now row L' K T p m eb mb lb tb cp tl FT f (es.set s e) := by
  have hc := wset7_chg w eb (s * 7) e
  have ne : ∀ y, ty? w y ≠ some 78 → y ∉ [eb] := by
    intro y hy hs
    simp at hs
    rw [hs] at hy
    exact hy h.teb
  have hN : NoSet [eb] w := noSet_of fun k hk => by simp at hk; rw [hk, h.teb]; exact ⟨by decide, by decide⟩
  have hT : ∀ y ∈ FT, y ∉ [eb] := fun y hy => ne y (by rcases h.ftt y hy with e | e | e <;> rw [e] <;> decide)
  refine ⟨hc.keep h.head (ne _ (by rw [h.tcb]; decide)), wset7_heap h.ents hs e, by simpa using h.elen, ?_, ?_, h.lru.chg hc (ne _ (by rw [h.tlb]; decide)), h.tim.chg hc (ne _ (by rw [h.ttb]; decide)) hT, ?_, h.fmb, h.map.chg hc (ne _ (by rw [h.tmb]; decide)), h.rows.chg hc (fun y hy => ne y (by rw [(h.rows.ty hy).1]; decide)), h.l0, h.l1⟩
  · intro x hx
    rcases List.mem_or_eq_of_mem_set hx with hx | hx
    · exact h.esl x hx
    · rw [hx]; exact he
  · intro x hx
    rcases hL x hx with ⟨h1, h2⟩ | ⟨h1, h2⟩
    · obtain ⟨k1, k2⟩ := h.eok x h1
      refine ⟨by simpa using k1, fun hh => ?_⟩
      rw [List.getElem_set_ne (fun e => h2 e.symm)]
      exact (k2 k1).chg hc hN
    · refine ⟨by simp; rw [h1]; exact hs, fun hh => ?_⟩
      have : (es.set s e)[x.s] = e := by simp [h1]
      rw [this]
      exact h2.chg hc hN
  · intro y hy
    have e : ty? (wset7 w eb (s * 7) e) y = ty? w y := by unfold ty?; rw [hc.block y (h.tim.low y hy) (hT y hy)]
    rw [e]
    exact h.ftt y hy
/-- The map turns, and the rows in it. -/
theorem CSc.maps {S : List Nat} {K' : List (Nat × Nat)} {m' : Nat} {f' : Nat → Option Value} (h : CSc w cb n k0 k1 now row L K T p m eb mb lb tb cp tl FT f es) (hc : Chg S w w') (hS : ∀ y ∈ S, y = mb ∨ RowBlk f y) (hm : MapH w' mb m' f') (hr : RowsH w' f' K') : CSc w' cb n k0 k1 now row L K' T p m' eb mb lb tb cp tl FT f' es := by
  have ne : ∀ y, y ≠ mb → ty? w y ≠ some 3 → y ∉ S := by
    intro y h1 h2 hs
    rcases hS y hs with e | e
    · exact h1 e
    · exact h2 (h.rows.ty e).1
  have nm : ∀ y, ty? w y ≠ none → y ≠ mb := fun y hy e => hy (by rw [e]; exact h.tmb)
  have hN : NoSet S w := noSet_of fun k hk => by
    rcases hS k hk with e | e
    · rw [e, h.tmb]; exact ⟨by decide, by decide⟩
    · rw [(h.rows.ty e).1]; exact ⟨by decide, by decide⟩
  have hT : ∀ y ∈ FT, y ∉ S := fun y hy => ne y (fun e => h.fmb (e ▸ hy)) (by rcases h.ftt y hy with e | e | e <;> rw [e] <;> decide)
  refine ⟨hc.keep h.head (ne _ (nm _ (by rw [h.tcb]; decide)) (by rw [h.tcb]; decide)), hc.keep h.ents (ne _ (nm _ (by rw [h.teb]; decide)) (by rw [h.teb]; decide)), h.elen, h.esl, fun x hx => ⟨(h.eok x hx).1, fun hh => ((h.eok x hx).2 hh).chg hc hN⟩, h.lru.chg hc (ne _ (nm _ (by rw [h.tlb]; decide)) (by rw [h.tlb]; decide)), h.tim.chg hc (ne _ (nm _ (by rw [h.ttb]; decide)) (by rw [h.ttb]; decide)) hT, ?_, h.fmb, hm, hr, h.l0, h.l1⟩
  intro y hy
  have e : ty? w' y = ty? w y := by unfold ty?; rw [hc.block y (h.tim.low y hy) (hT y hy)]
  rw [e]
  exact h.ftt y hy
end

/-- A cache whose blocks are those of F. -/
def CS (F : List Nat) (w : World) (cb n k0 k1 : Nat) (now : Int) (row : List Nat) (L : List Sl) (K : List (Nat × Nat)) (T : List Ti.It) (p m : Nat) : Prop :=
  ∃ eb mb lb tb cp tl FT f es, CSc w cb n k0 k1 now row L K T p m eb mb lb tb cp tl FT f es ∧ ∀ y, y ∈ F ↔ Part cb eb mb lb tb FT f y
theorem CS.low {F : List Nat} {w : World} {cb n k0 k1 : Nat} {now : Int} {row : List Nat} {L : List Sl} {K : List (Nat × Nat)} {T : List Ti.It} {p m : Nat} (h : CS F w cb n k0 k1 now row L K T p m) : ∀ y ∈ F, y < w.heap.size := by
  obtain ⟨eb, mb, lb, tb, cp, tl, FT, f, es, h, hF⟩ := h
  exact fun y hy => h.part_lt ((hF y).1 hy)
theorem CS.noSet {F : List Nat} {w : World} {cb n k0 k1 : Nat} {now : Int} {row : List Nat} {L : List Sl} {K : List (Nat × Nat)} {T : List Ti.It} {p m : Nat} (h : CS F w cb n k0 k1 now row L K T p m) : NoSet F w := by
  obtain ⟨eb, mb, lb, tb, cp, tl, FT, f, es, h, hF⟩ := h
  exact noSet_of fun y hy => h.part_ty ((hF y).1 hy)
theorem CS.other {F S : List Nat} {w w' : World} {cb n k0 k1 : Nat} {now : Int} {row : List Nat} {L : List Sl} {K : List (Nat × Nat)} {T : List Ti.It} {p m : Nat} (h : CS F w cb n k0 k1 now row L K T p m) (hc : Chg S w w') (hS : ∀ y ∈ S, y ∉ F) (hN : NoSet S w) : CS F w' cb n k0 k1 now row L K T p m := by
  obtain ⟨eb, mb, lb, tb, cp, tl, FT, f, es, h, hF⟩ := h
  exact ⟨eb, mb, lb, tb, cp, tl, FT, f, es, h.other hc (fun y hy hp => hS y hy ((hF y).2 hp)) hN, hF⟩
theorem CS.same {F : List Nat} {w w' : World} {cb n k0 k1 : Nat} {now : Int} {row : List Nat} {L : List Sl} {K : List (Nat × Nat)} {T : List Ti.It} {p m : Nat} (h : CS F w cb n k0 k1 now row L K T p m) (hc : Chg [] w w') : CS F w' cb n k0 k1 now row L K T p m := h.other hc (by simp) (noSet_nil w)
/-- What is left of the blocks F, and new ones. -/
def Aft (F : List Nat) (w w' : World) (P : List Nat → Prop) : Prop := ∃ F', P F' ∧ (∀ y ∈ F', y ∈ F ∨ w.heap.size ≤ y) ∧ Chg F w w'
theorem Aft.trans {F : List Nat} {w w1 w2 : World} {P Q : List Nat → Prop} (h : Aft F w w1 P) (hF : ∀ y ∈ F, y < w.heap.size) (k : ∀ F1, P F1 → Aft F1 w1 w2 Q) : Aft F w w2 Q := by
  obtain ⟨F1, hp, h1, h2⟩ := h
  obtain ⟨F2, hq, h3, h4⟩ := k F1 hp
  refine ⟨F2, hq, fun y hy => ?_, h2.trans_new h4 h1⟩
  rcases h3 y hy with e | e
  · exact h1 y e
  · right; have := h2.size; omega
theorem Aft.mono {F : List Nat} {w w' : World} {P Q : List Nat → Prop} (h : Aft F w w' P) (k : ∀ F1, P F1 → Q F1) : Aft F w w' Q := by
  obtain ⟨F1, hp, h1⟩ := h
  exact ⟨F1, k F1 hp, h1⟩
theorem CS.close {F N : List Nat} {w w0 : World} {S : List Nat} {cb n k0 k1 : Nat} {now : Int} {row : List Nat} {L : List Sl} {K : List (Nat × Nat)} {T : List Ti.It} {p m eb mb lb tb cp : Nat} {tl : List Value} {FT : List Nat} {f : Nat → Option Value} {es : List EnV} (h : CSc w cb n k0 k1 now row L K T p m eb mb lb tb cp tl FT f es)
    (hN : ∀ y, Part cb eb mb lb tb FT f y → y ∈ F ∨ y ∈ N) (hN2 : ∀ y ∈ N, w0.heap.size ≤ y) (hc : Chg S w0 w) (hS : ∀ y ∈ S, y ∈ F ∨ w0.heap.size ≤ y) : Aft F w0 w (fun F' => CS F' w cb n k0 k1 now row L K T p m) := by
  refine ⟨(F ++ N).filter fun y => @decide (Part cb eb mb lb tb FT f y) (Classical.propDecidable _), ⟨eb, mb, lb, tb, cp, tl, FT, f, es, h, fun y => ?_⟩, fun y hy => ?_, ?_⟩
  · rw [List.mem_filter]
    simp only [decide_eq_true_eq, List.mem_append]
    exact ⟨fun hh => hh.2, fun hh => ⟨hN y hh, hh⟩⟩
  · have := (List.mem_filter.1 hy).1
    rcases List.mem_append.1 this with e | e
    · exact .inl e
    · exact .inr (hN2 y e)
  · exact (Chg.refl F w0).trans_new hc hS

end Go.Proofs.Ytgdnfempcjlipaa
