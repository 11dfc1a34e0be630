/- Two timers that lie apart, of which one is put to and dropped from: what each call leaves behind. -/
import Derived.Test.YtlkhaookdmgbnaaTimerApartW
import Derived.Test.YtlkhaookdmgbnaaTimPl5
namespace Go.Proofs.Ytlkhaookdmgbnaa
open Go.RowKit

/-- Two timers that lie apart, ahead of the bound B; they were made behind the world w. -/
def TU (w wr : World) (B : Nat) (px : Option Nat) (t u : Nat) (M L : List It) (q p : Nat) : Prop :=
  ∃ F1 F2, TimersAt wr t F1 M q ∧ TimersAt wr u F2 L p ∧ (∀ y ∈ t :: F1, y < B ∧ w.heap.size ≤ y ∧ px ≠ some y) ∧ (∀ y ∈ u :: F2, y < B ∧ w.heap.size ≤ y ∧ px ≠ some y) ∧ (∀ y ∈ t :: F1, y ∉ u :: F2) ∧ Chg [] w wr ∧ B ≤ wr.heap.size ∧ (∀ c, px = some c → c < wr.heap.size)
/-- A block that is not theirs is as it was. -/
def KeptX (px : Option Nat) (wr w' : World) : Prop := ∀ c, px = some c → ∀ o v, wr.cell? ⟨c, o, none⟩ = some v → w'.cell? ⟨c, o, none⟩ = some v
theorem keptX_of {px : Option Nat} {S : List Nat} {wr w' : World} (hc : Chg S wr w') (h : ∀ y ∈ S, px ≠ some y) : KeptX px wr w' := fun c hc' o v hv => hc.cell hv fun hm => h c hm hc'
section
variable {w wr w' : World} {B t u q p : Nat} {px : Option Nat} {M L : List It}
theorem TU.chg (h : TU w wr B px t u M L q p) : Chg [] w wr := by obtain ⟨_, _, _, _, _, _, _, h, _⟩ := h; exact h
theorem TU.size (h : TU w wr B px t u M L q p) : B ≤ wr.heap.size := by obtain ⟨_, _, _, _, _, _, _, _, h, _⟩ := h; exact h
theorem TU.ok (h : TU w wr B px t u M L q p) : OkL M q := by obtain ⟨_, _, h, _⟩ := h; exact h.ok
theorem TU.same (h : TU w wr B px t u M L q p) (hc : Chg [] wr w') : TU w w' B px t u M L q p := by
  obtain ⟨F1, F2, h1, h2, h3, h4, h5, h6, h7, h8⟩ := h
  exact ⟨F1, F2, h1.same hc, h2.same hc, h3, h4, h5, h6.trans hc, Nat.le_trans h7 hc.size, fun c e => Nat.lt_of_lt_of_le (h8 c e) hc.size⟩
theorem TU.mark (h : TU w wr B none t u M L q p) {c : Nat} (h1 : B ≤ c) (h2 : c < wr.heap.size) : TU w wr B (some c) t u M L q p := by
  obtain ⟨F1, F2, a1, a2, a3, a4, a5, a6, a7, _⟩ := h
  refine ⟨F1, F2, a1, a2, fun y hy => ⟨(a3 y hy).1, (a3 y hy).2.1, fun e => ?_⟩, fun y hy => ⟨(a4 y hy).1, (a4 y hy).2.1, fun e => ?_⟩, a5, a6, a7, fun d e => by cases e; exact h2⟩
  · have := (a3 y hy).1; injection e with e; omega
  · have := (a4 y hy).1; injection e with e; omega
theorem TU.made {w1 w2 w3 : World} (hc : Chg [] w w1) (h1 : TB w1 w2 t L p) (h2 : TB w2 w3 u L p) : TU w w3 w3.heap.size none t u L L p p := by
  obtain ⟨F1, F2, h⟩ := TT.made hc h1 h2
  exact ⟨F1, F2, h.one, h.two, fun y hy => ⟨h.low1 y hy, h.new1 y hy, by simp⟩, fun y hy => ⟨h.low2 y hy, h.new2 y hy, by simp⟩, h.apart, h.chg, Nat.le_refl _, by simp⟩
end
section
variable (w : World) (B : Nat) (px : Option Nat) (t u : Nat) (M L : List It) (q p : Nat) (wr : World) (h : TU w wr B px t u M L q p)
include h
theorem tu_len1 : Calls Try.prog 14 #[.pointer (some ⟨t, 0, none⟩)] wr fun e w' => e = .returned (.int .i64 M.length) ∧ wr = w' := by
  obtain ⟨F1, F2, h1, h2, _⟩ := h
  exact len_any t F1 M q wr h1
theorem tu_len2 : Calls Try.prog 14 #[.pointer (some ⟨u, 0, none⟩)] wr fun e w' => e = .returned (.int .i64 L.length) ∧ wr = w' := by
  obtain ⟨F1, F2, h1, h2, _⟩ := h
  exact len_any u F2 L p wr h2
theorem tu_at0 (id : Int) (hi : InI id) (hx : ∀ x ∈ M, x.id ≠ id) : Calls Try.prog 16 #[.pointer (some ⟨t, 0, none⟩), .int .i64 id] wr fun e w' => e = .returned (.tuple #[.int .i64 0, .bool false]) ∧ wr = w' := by
  obtain ⟨F1, F2, h1, h2, _⟩ := h
  exact at_none t F1 M q id wr h1 hi hx
theorem tu_at (x : It) (hx : x ∈ M) : Calls Try.prog 16 #[.pointer (some ⟨t, 0, none⟩), .int .i64 x.id] wr fun e w' => e = .returned (.tuple #[.int .i64 x.due, .bool true]) ∧ wr = w' := by
  obtain ⟨F1, F2, h1, h2, _⟩ := h
  exact at_some t F1 M q x wr h1 hx
theorem tu_drop0 (id : Int) (hi : InI id) (hx : ∀ x ∈ M, x.id ≠ id) : Calls Try.prog 18 #[.pointer (some ⟨t, 0, none⟩), .int .i64 id] wr fun e w' => e = .returned (.bool false) ∧ wr = w' := by
  obtain ⟨F1, F2, h1, h2, _⟩ := h
  exact drop_none t F1 M q id wr h1 hi hx
theorem tu_put (id due : Int) (hid : InI id) (hdue : InI due) (hq : q ≤ 1000000) : Calls Try.prog 17 #[.pointer (some ⟨t, 0, none⟩), .int .i64 id, .int .i64 due] wr fun e w' => e = .returned (.int .i64 0) ∧ TU w w' w'.heap.size px t u (putL M id due (q + 1)) L (q + 1) p ∧ KeptX px wr w' := by
  obtain ⟨F1, F2, h1, h2, h3, h4, h5, h6, h7, h8⟩ := h
  refine (put_any t F1 M q id due wr h1 hid hdue hq).mono ?_
  rintro e w' ⟨rfl, F', k1, k2, k3⟩
  have hs := k3.size
  have hs0 := h6.size
  have h2' : TimersAt w' u F2 L p := h2.chg k3 (fun hx => h5 _ hx (by simp)) (fun y hy hx => h5 _ hx (List.mem_cons_of_mem _ hy))
  refine ⟨rfl, ⟨F', F2, k1, h2', ?_, ?_, ?_, h6.trans_new k3 (fun y hy => .inr (h3 y hy).2.1), Nat.le_refl _, fun c e => Nat.lt_of_lt_of_le (h8 c e) hs⟩, keptX_of k3 fun y hy => (h3 y hy).2.2⟩
  · intro y hy
    have hlow : y < w'.heap.size := by
      rcases List.mem_cons.1 hy with e | e
      · rw [e]; exact k1.lt
      · exact k1.low y e
    refine ⟨hlow, ?_⟩
    rcases List.mem_cons.1 hy with e | e
    · exact (h3 y (by simp [e])).2
    · rcases k2 y e with e2 | e2
      · exact (h3 y (List.mem_cons_of_mem _ e2)).2
      · exact ⟨by omega, fun hc => by have := h8 y hc; omega⟩
  · intro y hy
    have := h4 y hy
    exact ⟨by omega, this.2⟩
  · intro y hy hx
    rcases List.mem_cons.1 hy with e | e
    · exact h5 y (by simp [e]) hx
    · rcases k2 y e with e2 | e2
      · exact h5 y (List.mem_cons_of_mem _ e2) hx
      · have := h4 y hx; omega
theorem tu_drop (x : It) (hx : x ∈ M) (hq : q ≤ 1000000) : Calls Try.prog 18 #[.pointer (some ⟨t, 0, none⟩), .int .i64 x.id] wr fun e w' => e = .returned (.bool true) ∧ TU w w' B px t u (delL M x.id) L q p := by
  obtain ⟨F1, F2, h1, h2, h3, h4, h5, h6, h7, h8⟩ := h
  refine (drop_some t F1 M q x wr h1 hx hq).mono ?_
  rintro e w' ⟨rfl, k1, k3⟩
  exact ⟨rfl, F1, F2, k1, h2.chg k3 (fun hx => h5 _ hx (by simp)) (fun y hy hx => h5 _ hx (List.mem_cons_of_mem _ hy)), h3, h4, h5, h6.trans_new k3 (fun y hy => .inr (h3 y hy).2.1), Nat.le_trans h7 k3.size, fun c e => Nat.lt_of_lt_of_le (h8 c e) k3.size⟩
theorem tu_due1 (now : Int) (hq : q ≤ 1000000) : Calls Try.prog 12 #[.pointer (some ⟨t, 0, none⟩), .int .i64 now] wr fun e w' => ∃ a c, e = .returned (.slice a (dueL M now).length c) ∧ OwnZ B w' (.slice a (dueL M now).length c) (dueL M now) ∧ TU w w' B px t u (restL M now) L q p ∧ (∀ v l, OwnZ B wr v l → OwnZ B w' v l) ∧ KeptX px wr w' := by
  obtain ⟨F1, F2, h1, h2, h3, h4, h5, h6, h7, h8⟩ := h
  refine (due_any t F1 M q now wr h1 hq).mono ?_
  rintro e w' ⟨v, rfl, k1, k2, k3⟩
  obtain ⟨a, c, rfl⟩ := owns_len k1
  refine ⟨a, c, rfl, ?_, ⟨F1, F2, k2, h2.chg k3 (fun hx => h5 _ hx (by simp)) (fun y hy hx => h5 _ hx (List.mem_cons_of_mem _ hy)), h3, h4, h5, h6.trans_new k3 (fun y hy => .inr (h3 y hy).2.1), Nat.le_trans h7 k3.size, fun c e => Nat.lt_of_lt_of_le (h8 c e) k3.size⟩, fun v l hv => hv.chg k3 fun y hy => (h3 y hy).1, keptX_of k3 fun y hy => (h3 y hy).2.2⟩
  obtain ⟨g1, g2⟩ := k1
  refine ⟨g1, ?_⟩
  rcases g2 with g2 | ⟨g, cap, cur, hv, hg, hh, r⟩
  · exact .inl g2
  · exact .inr ⟨g, cap, cur, hv, by omega, hh, r⟩
theorem tu_due2 (now : Int) (hq : p ≤ 1000000) : Calls Try.prog 12 #[.pointer (some ⟨u, 0, none⟩), .int .i64 now] wr fun e w' => ∃ a c, e = .returned (.slice a (dueL L now).length c) ∧ OwnZ B w' (.slice a (dueL L now).length c) (dueL L now) ∧ TU w w' B px t u M (restL L now) q p ∧ (∀ v l, OwnZ B wr v l → OwnZ B w' v l) ∧ KeptX px wr w' := by
  obtain ⟨F1, F2, h1, h2, h3, h4, h5, h6, h7, h8⟩ := h
  have sw : TU w wr B px u t L M p q := ⟨F2, F1, h2, h1, h4, h3, fun y hy hx => h5 y hx hy, h6, h7, h8⟩
  refine (tu_due1 w B px u t L M p q wr sw now hq).mono ?_
  rintro e w' ⟨a, c, rfl, k1, ⟨G2, G1, g1, g2, g3, g4, g5, g6⟩, k3⟩
  exact ⟨a, c, rfl, k1, ⟨G1, G2, g2, g1, g4, g3, fun y hy hx => g5 y hx hy, g6⟩, k3⟩
end
theorem due_len {L : List It} {p : Nat} (h : OkL L p) {x : It} (hx : x ∈ L) : ((dueL L x.due).filter fun i => decide (i ≠ x.id)).length + 1 = (dueL L x.due).length := by
  have hm : x ∈ (sortL L).filter fun y => decide (y.due ≤ x.due) := List.mem_filter.2 ⟨(sortL_perm L).mem_iff.2 hx, by simp⟩
  have hn : (((sortL L).filter fun y => decide (y.due ≤ x.due)).map It.id).Nodup := (((sortL_perm L).map It.id).nodup_iff.2 h.ids).sublist (List.filter_sublist.map _)
  have := delL_len hm hn
  unfold dueL
  rw [List.filter_map, List.length_map, List.length_map]
  exact this
theorem putsT_has (l : List (Int × Int)) (i : Nat) : ∀ k, i < k → k ≤ l.length → ∃ y ∈ putsT l k, y.id = (l.getD i (0, 0)).1
  | 0, h, _ => by omega
  | k + 1, h, hk => by
    unfold putsT putL
    by_cases e : (l.getD k (0, 0)).1 = (l.getD i (0, 0)).1
    · exact ⟨_, List.mem_append_right _ (List.mem_singleton.2 rfl), e⟩
    · have hik : i < k := by
        rcases Nat.lt_or_ge i k with h1 | h1
        · exact h1
        · have : i = k := by omega
          subst this
          exact absurd rfl e
      obtain ⟨y, hy, ey⟩ := putsT_has l i k hik (by omega)
      exact ⟨y, List.mem_append_left _ (mem_delL.2 ⟨hy, by rw [ey]; exact fun h => e h.symm⟩), ey⟩
theorem RowZ.cut {k : IntKind} {w : World} {a : Option Addr} {c : Nat} {l m : List Int} {x : Int} (h : RowZ k w (.slice a l.length c) l) (e : l = m ++ [x]) : RowZ k w (.slice a m.length c) m := by
  rcases h with ⟨e1, _⟩ | ⟨r, c', hv, hc⟩
  · rw [e] at e1; simp at e1
  · injection hv with h1 h2 h3
    subst h1; subst h3
    refine .inr ⟨r, _, rfl, fun i hi => ?_⟩
    have := hc i (by rw [e, List.length_append]; omega)
    simp only [e] at this
    rw [List.getElem_append_left hi] at this
    exact this
theorem RowZ.at {k : IntKind} {w : World} {a : Option Addr} {c : Nat} {l : List Int} (h : RowZ k w (.slice a l.length c) l) (hl : 0 < l.length) : ∃ g, a = some ⟨g, 0, none⟩ ∧ ∀ i (h : i < l.length), w.cell? ⟨g, i, none⟩ = some (.int k l[i]) := by
  rcases h with ⟨e1, _⟩ | ⟨r, c', hv, hc⟩
  · rw [e1] at hl; simp at hl
  · injection hv with h1 h2 h3
    exact ⟨r, h1, hc⟩

end Go.Proofs.Ytlkhaookdmgbnaa
