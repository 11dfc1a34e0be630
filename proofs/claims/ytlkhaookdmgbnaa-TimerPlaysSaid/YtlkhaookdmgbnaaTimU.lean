/- The program's timers and the document's, side by side: contracts in one form. -/
import Derived.Test.YtlkhaookdmgbnaaRefV
import Derived.Test.YtlkhaookdmgbnaaTimS
import Derived.Test.YtlkhaookdmgbnaaActs14
namespace Go.Proofs.Ytlkhaookdmgbnaa
open Go.RowKit

def lookA (L : List It) (id : Int) : Int := ((L.find? fun x => decide (x.id = id)).map It.due).getD 0
def lookB (L : List It) (id : Int) : Bool := L.any fun x => decide (x.id = id)
def hdI (L : List It) : Int := ((sortL L).head?.map It.id).getD 0
def hdD (L : List It) : Int := ((sortL L).head?.map It.due).getD 0
def hdB (L : List It) : Bool := (sortL L).head?.isSome
theorem look_in {L : List It} {x : It} (hn : (L.map It.id).Nodup) (hx : x ∈ L) : lookA L x.id = x.due ∧ lookB L x.id = true := by
  constructor
  · unfold lookA
    induction L with
    | nil => simp at hx
    | cons y L ih =>
      rw [List.map_cons, List.nodup_cons] at hn
      rw [List.find?_cons]
      rcases List.mem_cons.1 hx with e | e
      · subst e; simp
      · have : decide (y.id = x.id) = false := by
          simp
          intro e2
          exact hn.1 (by rw [e2]; exact List.mem_map.2 ⟨x, e, rfl⟩)
        rw [this]
        exact ih hn.2 e
  · unfold lookB
    rw [List.any_eq_true]
    exact ⟨x, hx, by simp⟩
theorem look_out {L : List It} {id : Int} (h : ∀ x ∈ L, x.id ≠ id) : lookA L id = 0 ∧ lookB L id = false := by
  constructor
  · unfold lookA
    rw [List.find?_eq_none.2 (fun x hx => by simpa using h x hx)]
    rfl
  · unfold lookB
    rw [List.any_eq_false]
    intro x hx
    simpa using h x hx
theorem drop_b {L : List It} (id : Int) : decide ((delL L id).length < L.length) = lookB L id := by
  rw [Bool.eq_iff_iff]
  unfold lookB
  rw [List.any_eq_true]
  simp only [decide_eq_true_eq]
  constructor
  · intro h
    refine Classical.byContradiction fun hn => ?_
    rw [delL_absent (fun x hx e => hn ⟨x, hx, e⟩)] at h
    omega
  · rintro ⟨x, hx, e⟩
    exact List.length_filter_lt_length_iff_exists.2 ⟨x, hx, by simp [e]⟩

section
variable (tb : Nat) (F : List Nat) (L : List It) (p : Nat) (w : World)
theorem at_v (id a : Int) (b : Bool) (h : TimersAt w tb F L p) (hi : InI id) (ha : Hid (a = lookA L id)) (hb : Hid (b = lookB L id)) :
    Calls Try.prog 16 #[.pointer (some ⟨tb, 0, none⟩), .int .i64 id] w fun e w' => e = .returned (.tuple #[.int .i64 a, .bool b]) ∧ w = w' := by
  rw [ha.out, hb.out]
  by_cases hx : ∃ x ∈ L, x.id = id
  · obtain ⟨x, hx, rfl⟩ := hx
    rw [(look_in h.ok.ids hx).1, (look_in h.ok.ids hx).2]
    exact at_some tb F L p x w h hx
  · have hx' : ∀ x ∈ L, x.id ≠ id := fun x hm e => hx ⟨x, hm, e⟩
    rw [(look_out hx').1, (look_out hx').2]
    exact at_none tb F L p id w h hi hx'
theorem drop_v (id : Int) (b : Bool) (h : TimersAt w tb F L p) (hi : InI id) (hp : p ≤ 1000000) (hb : Hid (b = lookB L id)) :
    Calls Try.prog 18 #[.pointer (some ⟨tb, 0, none⟩), .int .i64 id] w fun e w' => e = .returned (.bool b) ∧ TimersAt w' tb F (delL L id) p ∧ Chg (tb :: F) w w' := by
  rw [hb.out]
  by_cases hx : ∃ x ∈ L, x.id = id
  · obtain ⟨x, hx, rfl⟩ := hx
    rw [(look_in h.ok.ids hx).2]
    exact drop_some tb F L p x w h hx hp
  · have hx' : ∀ x ∈ L, x.id ≠ id := fun x hm e => hx ⟨x, hm, e⟩
    rw [(look_out hx').2, delL_absent hx']
    refine (drop_none tb F L p id w h hi hx').mono ?_
    rintro e w' ⟨rfl, rfl⟩
    exact ⟨rfl, h, Chg.refl _ _⟩
theorem next_v (a d : Int) (b : Bool) (h : TimersAt w tb F L p) (ha : Hid (a = hdI L)) (hd : Hid (d = hdD L)) (hb : Hid (b = hdB L)) :
    Calls Try.prog 25 #[.pointer (some ⟨tb, 0, none⟩)] w fun e w' => e = .returned (.tuple #[.int .i64 a, .int .i64 d, .bool b]) ∧ Chg [] w w' := by
  rw [ha.out, hd.out, hb.out]
  by_cases hL : 0 < L.length
  · obtain ⟨x, hx, hc⟩ := next_some tb F L p w h hL
    have e := min_head h.ok.rise hx h.ok.ids
    have e1 : (sortL L).head? = some x := by rw [e]; rfl
    unfold hdI hdD hdB
    rw [e1]
    refine hc.mono ?_
    rintro e w' ⟨rfl, n, rfl⟩
    exact ⟨rfl, (Chg.refl _ _).drewN n⟩
  · have hL' : L = [] := List.length_eq_zero_iff.1 (by omega)
    subst hL'
    refine (next_none tb F p w h).mono ?_
    rintro e w' ⟨rfl, n, rfl⟩
    exact ⟨rfl, (Chg.refl _ _).drewN n⟩
theorem rnext_v (q : Nat) (G : List Nat) (a d : Int) (b : Bool) (h : RefT w q G L) (hok : OkL L p) (ha : Hid (a = hdI L)) (hd : Hid (d = hdD L)) (hb : Hid (b = hdB L)) :
    Calls Try.prog 26 #[.pointer (some ⟨q, 0, none⟩)] w fun e w' => e = .returned (.tuple #[.int .i64 a, .int .i64 d, .bool b]) ∧ Chg [] w w' := by
  rw [ha.out, hd.out, hb.out]
  unfold hdI hdD hdB
  cases hx : (sortL L).head? with
  | some x => exact rnext_some q G L w p x h hok (Lib.hid hx)
  | none =>
    have hL' : L = [] := by
      have := (sortL_perm L).length_eq
      rw [List.head?_eq_none_iff.1 hx] at this
      exact List.length_eq_zero_iff.1 this.symm
    subst hL'
    exact rnext_none q G w h
end

/-- The two, lying apart; both made since w0. -/
structure TR (w0 w : World) (tb : Nat) (F : List Nat) (L : List It) (p q : Nat) (G : List Nat) (M : List It) : Prop where
  t : TimersAt w tb F L p
  x : RefT w q G M
  dis : ∀ y ∈ q :: G, y ∉ tb :: F
  low : ∀ y ∈ q :: G, y < w.heap.size
  lo : ∀ y ∈ tb :: F, w0.heap.size ≤ y
  loq : w0.heap.size ≤ q
  chg : Chg [] w0 w
theorem RefT.tight {w : World} {q : Nat} {G : List Nat} {l : List It} (h : RefT w q G l) : ∃ G0, RefT w q G0 l ∧ ∀ g ∈ G0, g ∈ G ∧ g < w.heap.size := by
  obtain ⟨h0, v, h1, h2, h3⟩ := h
  refine ⟨(match v.ownBlock with | some g => [g] | none => []), ⟨h0, v, h1, h2, ?_⟩, ?_⟩
  · intro g hg; rw [hg]; simp
  · intro g hg
    split at hg
    · rename_i g' hg'
      simp at hg
      subst hg
      exact ⟨h3 _ hg', (h2.blk _ hg').2.1⟩
    · simp at hg
section
variable {w0 w w' : World} {tb : Nat} {F : List Nat} {L : List It} {p q : Nat} {G : List Nat} {M : List It}
theorem TR.same (h : TR w0 w tb F L p q G M) (hc : Chg [] w w') : TR w0 w' tb F L p q G M :=
  ⟨h.t.same hc, h.x.same hc, h.dis, fun y hy => Nat.lt_of_lt_of_le (h.low y hy) hc.size, h.lo, h.loq, h.chg.trans hc⟩
theorem TR.tstep (h : TR w0 w tb F L p q G M) {F' : List Nat} {L' : List It} {p' : Nat} (k1 : TimersAt w' tb F' L' p') (k2 : ∀ y ∈ F', y ∈ F ∨ w.heap.size ≤ y) (k3 : Chg (tb :: F) w w') : TR w0 w' tb F' L' p' q G M := by
  refine ⟨k1, h.x.chg k3 h.dis, ?_, fun y hy => Nat.lt_of_lt_of_le (h.low y hy) k3.size, ?_, h.loq, h.chg.trans_new k3 (fun y hy => .inr (h.lo y hy))⟩
  · intro y hy hh
    rcases List.mem_cons.1 hh with e | e
    · exact h.dis y hy (by simp [e])
    · rcases k2 y e with e2 | e2
      · exact h.dis y hy (List.mem_cons_of_mem _ e2)
      · have := h.low y hy; omega
  · intro y hy
    rcases List.mem_cons.1 hy with e | e
    · exact h.lo y (by simp [e])
    · rcases k2 y e with e2 | e2
      · exact h.lo y (List.mem_cons_of_mem _ e2)
      · exact Nat.le_trans h.chg.size e2
theorem TR.xstep (h : TR w0 w tb F L p q G M) {G' : List Nat} {M' : List It} (k1 : RefT w' q G' M') (k2 : ∀ g ∈ G', g ∈ G ∨ w.heap.size ≤ g) (k3 : Chg [q] w w') : ∃ G0, TR w0 w' tb F L p q G0 M' := by
  obtain ⟨G0, k4, k5⟩ := k1.tight
  have hlt : ∀ y ∈ tb :: F, y < w.heap.size := by
    intro y hy
    rcases List.mem_cons.1 hy with e | e
    · rw [e]; exact h.t.lt
    · exact h.t.low y e
  have hq : ∀ y ∈ tb :: F, y ∉ [q] := fun y hy e => by simp at e; subst e; exact h.dis y (by simp) hy
  refine ⟨G0, h.t.chg k3 (hq tb (by simp)) (fun y hy => hq y (List.mem_cons_of_mem _ hy)), k4, ?_, ?_, h.lo, h.loq, h.chg.trans_new k3 (by intro y hy; simp at hy; subst hy; exact .inr h.loq)⟩
  · intro y hy hh
    rcases List.mem_cons.1 hy with e | e
    · exact h.dis y (by simp [e]) hh
    · rcases k2 y (k5 y e).1 with e2 | e2
      · exact h.dis y (List.mem_cons_of_mem _ e2) hh
      · have := hlt y hh; omega
  · intro y hy
    rcases List.mem_cons.1 hy with e | e
    · rw [e]; exact k4.lt
    · exact (k5 y e).2
/-- Both go on as their copies. -/
theorem TR.copies (h : TR w0 w tb F L p q G M) {w1 w2 : World} {cb q' : Nat} {F1 G' : List Nat} (k1 : TimersAt w1 cb F1 L p) (k2 : ∀ y ∈ cb :: F1, w.heap.size ≤ y) (kc : Chg [] w0 w1)
    (x1 : RefT w2 q' G' M) (x2 : w1.heap.size ≤ q') (x3 : ∀ g ∈ G', w1.heap.size ≤ g) (xc : Chg [] w1 w2) : ∃ G0, TR w0 w2 cb F1 L p q' G0 M := by
  obtain ⟨G0, k4, k5⟩ := x1.tight
  have hlt : ∀ y ∈ cb :: F1, y < w1.heap.size := by
    intro y hy
    rcases List.mem_cons.1 hy with e | e
    · rw [e]; exact k1.lt
    · exact k1.low y e
  refine ⟨G0, k1.same xc, k4, ?_, ?_, fun y hy => Nat.le_trans h.chg.size (k2 y hy), Nat.le_trans kc.size x2, kc.trans xc⟩
  · intro y hy hh
    have := hlt y hh
    rcases List.mem_cons.1 hy with e | e
    · omega
    · have := x3 y (k5 y e).1; omega
  · intro y hy
    rcases List.mem_cons.1 hy with e | e
    · rw [e]; exact k4.lt
    · exact (k5 y e).2
end

end Go.Proofs.Ytlkhaookdmgbnaa
