/- The walk of Order. -/
import Derived.Test.YtdbannnbbngckaaOrdC
import Derived.Test.YtdbannnbbngckaaDrawPl3
namespace Go.Proofs.Ytdbannnbbngckaa
open Go.RowKit

def scU (us : List Up) (u : Nat) : Nat := (getB us (u : Int)).score
def trU (us : List Up) (u : Nat) : Bool := (getB us (u : Int)).trial
/-- Who may be asked, as the shuffle left them. -/
def rowN (us : List Up) (d : Nat → Nat) (used : Nat) : List Nat := (D.shufN d used (mayN us).length).map fun i => (mayN us).getD i 0
/-- The order. -/
def ordN (us : List Up) (d : Nat → Nat) (used : Nat) : List Nat := ordK (keyE (scU us) (trU us)) (rowN us d used)
theorem rowN_len (us : List Up) (d : Nat → Nat) (used : Nat) : (rowN us d used).length = (mayN us).length := by simp [rowN, D.shufN_length]
theorem ordN_len (us : List Up) (d : Nat → Nat) (used : Nat) : (ordN us d used).length = (mayN us).length := by rw [ordN, ordK_length, rowN_len]
theorem scU_le {us : List Up} (h : AllOk us) (u : Nat) : scU us u ≤ 100 := by
  unfold scU getB
  split
  · rename_i hh
    have := hasB_iff.1 hh
    have hu : u < us.length := by omega
    simp [hu]
    exact (h _ (List.getElem_mem hu)).score
  · decide

theorem tape_book {w : World} {t seed : Nat} {l : List Nat} {n b r L R : Nat} {us : List Up} (ht : D.TapeAt w t seed l n) (h : Book w b r L R us) : b ≠ t ∧ r ≠ t := by
  obtain ⟨nb, sb, v, h1, _⟩ := ht
  obtain ⟨cap, _, h2⟩ := h.head
  obtain ⟨rest, h3⟩ := h.row
  constructor
  · intro e; subst e; rw [h1] at h2; injection h2 with h2; injection h2 with _ h2; exact absurd h2 (by decide)
  · intro e; subst e; rw [h1] at h3; injection h3 with h3; injection h3 with _ h3; exact absurd h3 (by decide)
theorem tape_ents {sc : Nat → Nat} {tr : Nat → Bool} {S : List Nat} {w w' : World} {t seed : Nat} {l : List Nat} {n g : Nat} (ht : D.TapeAt w t seed l n) (hc : Chg [g] w w') (hg : w.heap.size ≤ g ∨ (t ≠ g ∧ ∃ c f, w.heap[g]? = some (.cells c 71 f))) : D.TapeAt w' t seed l n := by
  rcases hg with hg | ⟨hne, c, f, hg⟩
  · have hl := ht.lt
    have hc2 : Chg [] w w' := ⟨hc.os, hc.tape, hc.output, hc.size, fun k hk _ => hc.block k hk (by simp; omega)⟩
    exact ht.chg hc2 (by simp) (by simp)
  · exact ht.chg hc (by simpa using hne) (by intro k hk; simp at hk; subst hk; exact ⟨c, f, _, hg, by decide, by decide⟩)

/-- The numbers of a row in a block. -/
def MayAt (w : World) (rb : Nat) (ml : List Nat) : Prop := ∀ i (_ : i < ml.length), w.cell? ⟨rb, i, none⟩ = some (.int .i64 (ml[i] : Nat))
theorem MayAt.chg {w w' : World} {S : List Nat} {rb : Nat} {ml : List Nat} (h : MayAt w rb ml) (hc : Chg S w w') (hr : rb ∉ S) : MayAt w' rb ml := fun i hi => hc.cell (h i hi) hr

/-- What stands at a round's head of Order's first loop. -/
structure Ord1 (w : World) (wr : World) (gE sb rb t b r L R seed u' m k : Nat) (l : List Nat) (us : List Up) (ml sh row : List Nat) : Prop where
  own : wr.ownsRow gE 71 3 (.slice (some ⟨gE, 0, none⟩) k m) k (entsV (scU us) (trU us) (row.take k))
  book : Book wr b r L R us
  tape : D.TapeAt wr t seed l u'
  may : MayAt wr rb ml
  shuf : wr.heap[sb]? = some (.cells (rowI .i64 sh) 3 (0, 0))
  chg : Chg [t] w wr
  blk : ∃ c, wr.heap[gE]? = some (.cells c 71 (0, 0))
def OrdR1 (w : World) (gE sb rb t b r L R seed u' m : Nat) (l : List Nat) (us : List Up) (ml sh row : List Nat) (v i : Value) (wr : World) : Prop :=
  ∃ k : Nat, k ≤ m ∧ i = .int .i64 k ∧ v = .slice (some ⟨gE, 0, none⟩) k m ∧ Ord1 w wr gE sb rb t b r L R seed u' m k l us ml sh row
def OrdR2 (w4 : World) (ord : List Nat) (v i : Value) (wr : World) : Prop :=
  ∃ k : Nat, k ≤ ord.length ∧ i = .int .i64 k ∧ OwnI w4.heap.size wr v (ord.take k) ∧ Chg [] w4 wr

theorem Try.elemEnt : (Try.prog.info? 71).map (fun i => (i.zero, i.size, i.bytes)) = some (some (.agg #[.int .i64 0, .int .i64 0, .bool false]), 3, 24) := by kernel_rfl

theorem new_ent (w : World) (T : TypeId) (u s : Nat) (p : Bool) : ∀ j v, ([.int .i64 u, .int .i64 s, .bool p] : List Value)[j]? = some v → (w.alloc (.cells #[.int .i64 u, .int .i64 s, .bool p] T)).cell? ((⟨w.heap.size, 0, none⟩ : Addr).add j) = some v := by
  intro j v hj
  rw [add_at, Nat.zero_add, cell_of (heap_new w _), ← hj, List.getElem?_toArray]

/-- What Order leaves. -/
def OrderPost (b r L R t seed used : Nat) (l : List Nat) (us : List Up) (ord : List Nat) (w : World) (e : Ending) (w' : World) : Prop :=
  ∃ a c, e = .returned (.slice a ord.length c) ∧ OwnI w.heap.size w' (.slice a ord.length c) ord ∧ Book w' b r L R us ∧ D.TapeAt w' t seed l (used + ((mayN us).length - 1)) ∧ Chg [t] w w'

set_option maxRecDepth 100000 in
set_option maxHeartbeats 2000000 in
theorem order_none (b r L R t seed used : Nat) (l : List Nat) (us : List Up) (w : World) (h : Book w b r L R us) (ht : D.TapeAt w t seed l used) (hml : mayN us = []) :
    Calls Try.prog 12 #[.pointer (some ⟨b, 0, none⟩), .pointer (some ⟨t, 0, none⟩)] w (OrderPost b r L R t seed used l us (ordN us (D.drawN seed l) used) w) := by
  have HML := Lib.hid hml
  have hord : ordN us (D.drawN seed l) used = [] := List.length_eq_zero_iff.1 (by rw [ordN_len, hml]; rfl)
  rw [hord]
  obtain ⟨i0, hi0, hz0, hz1, hz2⟩ := info_parts Try.elemEnt
  clear hml hord
  go_enter Try.func12, Try.ntmps12
  go_wp2_with fail
  refine (may_v b r L R us _ [] h HML).mono ?_
  rintro e w1 ⟨a1, c1, rfl, own1, hc1⟩
  have b1 := h.chg hc1 (by simp) (by simp)
  have t1 := ht.chg hc1 (by simp) (by simp)
  clear h ht own1
  go_wp2_with (at_make; refine wpList_make_own _ rfl _ _ 69 rfl w1.heap.size 71 i0 _ 3 Try.underlying69 hi0 hz0 hz1 .i64 .i64 _ 0 rfl rfl rfl (by omega) (by unfold maxLen; omega) (Nat.le_refl _) ?_; intro w2 own2 hg2)
  have hc2 : Chg [] w1 w2 := (Chg.refl _ _).grown hg2 (by simp)
  have b2 := b1.chg hc2 (by simp) (by simp)
  have t2 := t1.chg hc2 (by simp) (by simp)
  have hC2 := hc1.trans hc2
  clear b1 t1 own2 hg2 hc1 hc2
  refine (D.shuffle_out (some ⟨t, 0, none⟩) 0 _ (by omega)).mono ?_
  rintro e w3 ⟨rfl, rfl⟩
  go_wp2_with fail
  go_loop [6, 29] (fun v i => v = .slice (some ⟨w1.heap.size, 0, none⟩) 0 0 ∧ i = .int .i64 0) (fun _ _ => 0)
  case atStart => exact ⟨rfl, rfl⟩
  case round =>
    obtain ⟨rfl, rfl⟩ := hrel
    have hcf : cmpF = .func (.func 33) #[] #[] := rfl
    go_wp2_with fail
    rw [← hcf]
    refine (sort_none _ _ _).mono ?_
    rintro e w4 ⟨rfl, rfl⟩
    go_wp2_with fail
    go_loop [10, 53] (fun v i => v = .slice none 0 0 ∧ i = .int .i64 0) (fun _ _ => 0)
    case atStart => exact ⟨rfl, rfl⟩
    case round =>
      obtain ⟨rfl, rfl⟩ := hrel
      go_wp2
      go_ret
      exact ⟨none, 0, rfl, ⟨rfl, .inl ⟨rfl, rfl⟩⟩, b2, by rw [HML.out]; exact t2, hC2.mono (by simp)⟩

end Go.Proofs.Ytdbannnbbngckaa
