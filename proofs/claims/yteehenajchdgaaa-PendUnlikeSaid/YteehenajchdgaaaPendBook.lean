/- A book of what is out, in three rows of the call's own; one line more in each. -/
import Derived.Test.YteehenajchdgaaaAwake29
import Derived.Test.YteehenajchdgaaaRecRow
import Derived.Deep.RegionHeld3
import Derived.Deep.AppendLies
namespace Go.Proofs.Yteehenajchdgaaa
open Go.RowKit Go.Maps

theorem Try.elemU16 : (Try.prog.info? 34).map (fun i => (i.zero, i.size, i.bytes)) = some (some (.int .u16 0), 1, 2) := by kernel_rfl
def uV (o : Ou) : List Value := [.int .i64 o.u]
def sV (o : Ou) : List Value := [.int .i64 o.slot]
def iV (o : Ou) : List Value := [.int .u16 (o.id : Nat)]
theorem uV_len (o : Ou) : (uV o).length = 1 := rfl
theorem sV_len (o : Ou) : (sV o).length = 1 := rfl
theorem iV_len (o : Ou) : (iV o).length = 1 := rfl
/-- Three rows: at whom, for which slot, the number. -/
structure Bk (base : Nat) (w : World) (v1 v2 v3 : Value) (L : List Ou) : Prop where
  a : R.OwnR 3 1 uV base w v1 L
  b : R.OwnR 3 1 sV base w v2 L
  c : R.OwnR 34 1 iV base w v3 L
  ab : ∀ g, v1.ownBlock = some g → v2.ownBlock ≠ some g
  ac : ∀ g, v1.ownBlock = some g → v3.ownBlock ≠ some g
  bc : ∀ g, v2.ownBlock = some g → v3.ownBlock ≠ some g
theorem Bk.nil (base : Nat) (w : World) : Bk base w (.slice none 0 0) (.slice none 0 0) (.slice none 0 0) [] :=
  ⟨R.OwnR.nil _ _ _ _ _, R.OwnR.nil _ _ _ _ _, R.OwnR.nil _ _ _ _ _, fun g hg => by simp [Value.ownBlock] at hg, fun g hg => by simp [Value.ownBlock] at hg, fun g hg => by simp [Value.ownBlock] at hg⟩
theorem Bk.chg {S : List Nat} {base : Nat} {w w' : World} {v1 v2 v3 : Value} {L : List Ou} (h : Bk base w v1 v2 v3 L) (hc : Chg S w w') (hS : ∀ y ∈ S, y < base) : Bk base w' v1 v2 v3 L :=
  ⟨h.a.chg hc (fun g hg hs => by have h1 := (h.a.blk g hg).1; have h2 := hS g hs; omega), h.b.chg hc (fun g hg hs => by have h1 := (h.b.blk g hg).1; have h2 := hS g hs; omega), h.c.chg hc (fun g hg hs => by have h1 := (h.c.blk g hg).1; have h2 := hS g hs; omega), h.ab, h.ac, h.bc⟩
theorem Bk.low {base B : Nat} {w : World} {v1 v2 v3 : Value} {L : List Ou} (h : Bk base w v1 v2 v3 L) (hB : B ≤ base) : Bk B w v1 v2 v3 L := ⟨h.a.low hB, h.b.low hB, h.c.low hB, h.ab, h.ac, h.bc⟩
theorem news1 {W : World} {B : Nat} {x : Value} {t : TypeId} (h : W.heap[B]? = some (.cells #[x] t (0, 0))) : ∀ j u, [x][j]? = some u → W.cell? ((⟨B, 0, none⟩ : Addr).add j) = some u := fun j u hu => World.news_of_block h j u (by simpa using hu)
/-- A row stays while another one grows. -/
theorem own_grow {α : Type} {t : TypeId} {sz : Nat} {f : α → List Value} {base : Nat} {w w' : World} {v : Value} {row : Option Nat} {l : List α} (h : R.OwnR t sz f base w v l) (hg : w.grownBy w' row) (hne : ∀ g, v.ownBlock = some g → row ≠ some g) : R.OwnR t sz f base w' v l :=
  h.keep fun g hgg => hg.block g (h.blk g hgg).2.1 (fun e => hne g hgg e.symm)
def blkL (v : Value) : List Nat := match v.ownBlock with | some g => [g] | none => []
theorem mem_blkL {v : Value} {k : Nat} : k ∈ blkL v ↔ v.ownBlock = some k := by
  unfold blkL
  split
  · rename_i g hg; rw [hg]; simp; exact eq_comm
  · rename_i hg; rw [hg]; simp
/-- What three appends, one behind the other, with new blocks between them, make of the book. -/
theorem bk_step {base : Nat} {w0 W1 w1 W2 w2 W3 w3 : World} {v1 v2 v3 : Value} {L : List Ou} {o : Ou} {g1 c1 g2 c2 g3 c3 : Nat} (h : Bk base w0 v1 v2 v3 L)
    (c01 : Chg [] w0 W1) (hg1 : W1.grownBy w1 v1.ownBlock) (ho1 : w1.ownsRow base 3 1 (.slice (some ⟨g1, 0, none⟩) (L.length + 1) c1) (L.length + 1) (L.flatMap uV ++ uV o)) (ha1 : v1.ownBlock = some g1 ∨ g1 = W1.heap.size) (hl1 : g1 < w1.heap.size)
    (c12 : Chg [] w1 W2) (hg2 : W2.grownBy w2 v2.ownBlock) (ho2 : w2.ownsRow base 3 1 (.slice (some ⟨g2, 0, none⟩) (L.length + 1) c2) (L.length + 1) (L.flatMap sV ++ sV o)) (ha2 : v2.ownBlock = some g2 ∨ g2 = W2.heap.size) (hl2 : g2 < w2.heap.size)
    (c23 : Chg [] w2 W3) (hg3 : W3.grownBy w3 v3.ownBlock) (ho3 : w3.ownsRow base 34 1 (.slice (some ⟨g3, 0, none⟩) (L.length + 1) c3) (L.length + 1) (L.flatMap iV ++ iV o)) (ha3 : v3.ownBlock = some g3 ∨ g3 = W3.heap.size) :
    Bk base w3 (.slice (some ⟨g1, 0, none⟩) (L.length + 1) c1) (.slice (some ⟨g2, 0, none⟩) (L.length + 1) c2) (.slice (some ⟨g3, 0, none⟩) (L.length + 1) c3) (L ++ [o]) ∧ Chg (blkL v1 ++ blkL v2 ++ blkL v3) w0 w3 := by
  have b1 := fun g hg => (h.a.blk g hg).2.1
  have b2 := fun g hg => (h.b.blk g hg).2.1
  have b3 := fun g hg => (h.c.blk g hg).2.1
  have s01 := c01.size
  have s1 := hg1.size
  have s12 := c12.size
  have s2 := hg2.size
  have s23 := c23.size
  have n12 : g1 ≠ g2 := by
    intro e
    subst e
    rcases ha1 with e1 | e1
    · rcases ha2 with e2 | e2
      · exact h.ab _ e1 e2
      · have := b1 _ e1; omega
    · rcases ha2 with e2 | e2
      · have := b2 _ e2; omega
      · omega
  have n13 : g1 ≠ g3 := by
    intro e
    subst e
    rcases ha1 with e1 | e1
    · rcases ha3 with e2 | e2
      · exact h.ac _ e1 e2
      · have := b1 _ e1; omega
    · rcases ha3 with e2 | e2
      · have := b3 _ e2; omega
      · omega
  have n23 : g2 ≠ g3 := by
    intro e
    subst e
    rcases ha2 with e1 | e1
    · rcases ha3 with e2 | e2
      · exact h.bc _ e1 e2
      · have := b2 _ e1; omega
    · rcases ha3 with e2 | e2
      · have := b3 _ e2; omega
      · omega
  have f12 : v2.ownBlock ≠ some g1 := by
    intro e
    rcases ha1 with e1 | e1
    · exact h.ab _ e1 e
    · have := b2 _ e; omega
  have f13 : v3.ownBlock ≠ some g1 := by
    intro e
    rcases ha1 with e1 | e1
    · exact h.ac _ e1 e
    · have := b3 _ e; omega
  have f23 : v3.ownBlock ≠ some g2 := by
    intro e
    rcases ha2 with e1 | e1
    · exact h.bc _ e1 e
    · have := b3 _ e; omega
  have O1 : R.OwnR 3 1 uV base w1 (.slice (some ⟨g1, 0, none⟩) (L.length + 1) c1) (L ++ [o]) := R.OwnR.snoc ho1
  have O2 : R.OwnR 3 1 sV base w2 (.slice (some ⟨g2, 0, none⟩) (L.length + 1) c2) (L ++ [o]) := R.OwnR.snoc ho2
  have O3 : R.OwnR 34 1 iV base w3 (.slice (some ⟨g3, 0, none⟩) (L.length + 1) c3) (L ++ [o]) := R.OwnR.snoc ho3
  have ob : ∀ (g n c : Nat) (k : Nat), (Value.slice (some ⟨g, 0, none⟩) n c).ownBlock = some k → k = g := fun g n c k hk => by simp [Value.ownBlock] at hk; exact hk.symm
  refine ⟨⟨?_, ?_, O3, ?_, ?_, ?_⟩, ?_⟩
  · refine own_grow (own_grow (O1.same c12) hg2 ?_ |>.same c23) hg3 ?_
    · intro g hg; rw [ob _ _ _ _ hg]; exact f12
    · intro g hg; rw [ob _ _ _ _ hg]; exact f13
  · refine own_grow (O2.same c23) hg3 ?_
    intro g hg; rw [ob _ _ _ _ hg]; exact f23
  · intro g hg hh; exact n12 ((ob _ _ _ _ hg).symm.trans (ob _ _ _ _ hh))
  · intro g hg hh; exact n13 ((ob _ _ _ _ hg).symm.trans (ob _ _ _ _ hh))
  · intro g hg hh; exact n23 ((ob _ _ _ _ hg).symm.trans (ob _ _ _ _ hh))
  · have k1 : Chg (blkL v1 ++ blkL v2 ++ blkL v3) w0 w1 := (c01.mono (by simp)).grown hg1 (fun k hk => .inl (by simp [mem_blkL, hk]))
    have k2 : Chg (blkL v1 ++ blkL v2 ++ blkL v3) w0 w2 := (k1.trans (c12.mono (by simp))).grown hg2 (fun k hk => .inl (by simp [mem_blkL, hk]))
    exact (k2.trans (c23.mono (by simp))).grown hg3 (fun k hk => .inl (by simp [mem_blkL, hk]))
/-- Tables and tapes stay while rows of numbers grow. -/
def Ev (S : List Nat) (w : World) : Prop := ∀ k ∈ S, ∃ c t, w.heap[k]? = some (.cells c t (0, 0)) ∧ (t = 3 ∨ t = 34)
theorem Bk.ev {base : Nat} {w : World} {v1 v2 v3 : Value} {L : List Ou} (h : Bk base w v1 v2 v3 L) : Ev (blkL v1 ++ blkL v2 ++ blkL v3) w := by
  intro k hk
  rw [List.mem_append, List.mem_append, mem_blkL, mem_blkL, mem_blkL] at hk
  rcases hk with (hk | hk) | hk
  · obtain ⟨_, _, c, hh⟩ := h.a.blk k hk; exact ⟨c, _, hh, .inl rfl⟩
  · obtain ⟨_, _, c, hh⟩ := h.b.blk k hk; exact ⟨c, _, hh, .inl rfl⟩
  · obtain ⟨_, _, c, hh⟩ := h.c.blk k hk; exact ⟨c, _, hh, .inr rfl⟩
theorem Ev.not {S : List Nat} {w : World} (h : Ev S w) {k : Nat} {o : Obj} (hk : w.heap[k]? = some o) (ho : ∀ c t, o = .cells c t (0, 0) → t ≠ 3 ∧ t ≠ 34) : k ∉ S := by
  intro hs
  obtain ⟨c, t, hh, ht⟩ := h k hs
  rw [hk] at hh
  injection hh with hh
  obtain ⟨e1, e2⟩ := ho c t hh
  rcases ht with e | e
  · exact e1 e
  · exact e2 e
theorem cells_ne {c : Array Value} {t : TypeId} {f : Nat × Nat} (h : t ≠ 3 ∧ t ≠ 34) : ∀ c' t', Obj.cells c t f = .cells c' t' (0, 0) → t' ≠ 3 ∧ t' ≠ 34 := by
  intro c' t' e
  injection e with _ e _
  rw [← e]; exact h
theorem TT.ev {S : List Nat} {w w' : World} {tb : Nat} {ms : List Nat} {n b seed : Nat} {l : List Nat} {st : PS} (h : TT w tb ms n b seed l st) (hc : Chg S w w') (he : Ev S w) : TT w' tb ms n b seed l st := by
  constructor
  · obtain ⟨g, h1, h2⟩ := h.tab.head
    refine ⟨⟨g, hc.keep h1 (he.not h1 (cells_ne (by decide))), hc.keep h2 (he.not h2 (cells_ne (by decide)))⟩, h.tab.len, h.tab.nd, fun i hi => ?_, h.tab.ok, h.tab.n1, h.tab.n9⟩
    obtain ⟨es, clock, hb⟩ := (h.tab.maps i hi).map
    exact (h.tab.maps i hi).chg hc (he.not hb (fun c t e => by cases e))
  · obtain ⟨nb, sb, v, h1, h2, h3, h4⟩ := h.tape
    refine ⟨nb, sb, v, hc.keep h1 (he.not h1 (cells_ne (by decide))), hc.keep h2 (he.not h2 (cells_ne (by decide))), hc.keep h3 (he.not h3 (cells_ne (by decide))), D.nums_chg h4 hc ?_⟩
    intro k hk c f e
    obtain ⟨c', t', hh, ht⟩ := he k hk
    rw [e] at hh
    cases hh
    rcases ht with e | e <;> exact absurd e (by decide)

end Go.Proofs.Yteehenajchdgaaa
