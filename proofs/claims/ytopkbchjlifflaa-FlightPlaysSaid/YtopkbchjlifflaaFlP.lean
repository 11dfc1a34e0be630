/- Several tables of the call's own, beside blocks that stay. -/
import Derived.Test.YtopkbchjlifflaaFlN
namespace Go.Proofs.Ytopkbchjlifflaa
open Go.RowKit Go.Maps

/-- Tables that lie apart, each of its own blocks, and blocks that stay (P). -/
structure TabsS (Fs : Nat → List Nat) (P : List (Nat × Obj)) (w wr : World) (n m : Nat) (T : List (Nat × List Fl)) : Prop where
  ft : ∀ i tb L, T[i]? = some (tb, L) → FT (Fs i) wr tb n m L
  lo : ∀ i, i < T.length → ∀ y ∈ Fs i, w.heap.size ≤ y
  dj : ∀ i j, i < T.length → j < T.length → i ≠ j → ∀ y ∈ Fs i, y ∉ Fs j
  pl : ∀ p ∈ P, wr.heap[p.1]? = some p.2
  pd : ∀ p ∈ P, ∀ i, i < T.length → p.1 ∉ Fs i
  chg : Chg [] w wr
def Tabs (P : List (Nat × Obj)) (w wr : World) (n m : Nat) (T : List (Nat × List Fl)) : Prop := ∃ Fs, TabsS Fs P w wr n m T
theorem getT {α : Type} {T : List α} {i : Nat} (h : i < T.length) : ∃ x, T[i]? = some x := ⟨T[i], by simp [h]⟩
theorem ltT {α : Type} {T : List α} {i : Nat} {x : α} (h : T[i]? = some x) : i < T.length := by
  rcases Nat.lt_or_ge i T.length with hh | hh
  · exact hh
  · rw [List.getElem?_eq_none hh] at h; cases h
section
variable {P P' : List (Nat × Obj)} {w wr w2 : World} {n m : Nat} {T : List (Nat × List Fl)} {Fs : Nat → List Nat}
theorem TabsS.ltw (h : TabsS Fs P w wr n m T) {i : Nat} (hi : i < T.length) : ∀ y ∈ Fs i, y < wr.heap.size := by
  obtain ⟨⟨tb, L⟩, hx⟩ := getT hi
  exact (h.ft i tb L hx).lt
theorem TabsS.step (h : TabsS Fs P w wr n m T) {i tb : Nat} {L L2 : List Fl} (hi : T[i]? = some (tb, L)) (k : FNext (Fs i) wr w2 tb n m L2) : Tabs P w w2 n m (T.set i (tb, L2)) := by
  obtain ⟨F2, k1, k2, k3⟩ := k
  have hil := ltT hi
  refine ⟨fun j => if j = i then F2 else Fs j, ?_, ?_, ?_, ?_, ?_, ?_⟩
  · intro j tb' L' hj
    by_cases e : j = i
    · subst e
      rw [List.getElem?_set_self hil] at hj
      injection hj with hj
      injection hj with e1 e2
      subst e1; subst e2
      simp only [if_true]
      exact k1
    · rw [List.getElem?_set_ne (fun hh => e hh.symm)] at hj
      simp only [if_neg e]
      exact (h.ft j tb' L' hj).chg k2 (fun y hy hh => h.dj j i (ltT hj) hil e y hy hh)
  · intro j hj y hy
    rw [List.length_set] at hj
    by_cases e : j = i
    · simp only [if_pos e] at hy
      rcases k3 y hy with hh | hh
      · exact h.lo i hil y hh
      · exact Nat.le_trans h.chg.size hh
    · simp only [if_neg e] at hy
      exact h.lo j hj y hy
  · intro j k hj hk hjk y hy
    rw [List.length_set] at hj hk
    by_cases e : j = i
    · simp only [if_pos e] at hy
      have e2 : k ≠ i := fun hh => hjk (by rw [e, hh])
      simp only [if_neg e2]
      rcases k3 y hy with hh | hh
      · exact h.dj i k hil hk (fun e3 => e2 e3.symm) y hh
      · intro hh2
        have := h.ltw hk y hh2
        omega
    · simp only [if_neg e] at hy
      by_cases e2 : k = i
      · simp only [if_pos e2]
        intro hh
        rcases k3 y hh with h3 | h3
        · exact h.dj j i hj hil e y hy h3
        · have := h.ltw hj y hy
          omega
      · simp only [if_neg e2]
        exact h.dj j k hj hk hjk y hy
  · exact fun p hp => k2.keep (h.pl p hp) (h.pd p hp i hil)
  · intro p hp j hj
    rw [List.length_set] at hj
    by_cases e : j = i
    · simp only [if_pos e]
      intro hh
      rcases k3 _ hh with h3 | h3
      · exact h.pd p hp i hil h3
      · have := lt_of_block (h.pl p hp)
        omega
    · simp only [if_neg e]
      exact h.pd p hp j hj
  · exact h.chg.trans_new k2 (fun y hy => .inr (h.lo i hil y hy))
theorem Tabs.chg (h : Tabs P w wr n m T) {S : List Nat} (hc : Chg S wr w2) (hS : ∀ y ∈ S, w.heap.size ≤ y ∧ ∃ p ∈ P, p.1 = y) (hP : ∀ p ∈ P', p ∈ P ∧ p.1 ∉ S) : Tabs P' w w2 n m T := by
  obtain ⟨Fs, h⟩ := h
  have no : ∀ i, i < T.length → ∀ y ∈ Fs i, y ∉ S := by
    intro i hi y hy hh
    obtain ⟨_, p, hp, e⟩ := hS y hh
    exact h.pd p hp i hi (by rw [e]; exact hy)
  exact ⟨Fs, fun i tb L hi => (h.ft i tb L hi).chg hc (no i (ltT hi)), h.lo, h.dj, fun p hp => hc.keep (h.pl p (hP p hp).1) (hP p hp).2, fun p hp => h.pd p (hP p hp).1, h.chg.trans_new hc (fun y hy => .inr (hS y hy).1)⟩
theorem Tabs.same (h : Tabs P w wr n m T) (hc : Chg [] wr w2) : Tabs P w w2 n m T := h.chg hc (by simp) (fun p hp => ⟨hp, by simp⟩)
theorem Tabs.drop (h : Tabs P w wr n m T) (hP : ∀ p ∈ P', p ∈ P) : Tabs P' w wr n m T := h.chg (Chg.refl [] wr) (by simp) (fun p hp => ⟨hP p hp, by simp⟩)
theorem Tabs.isChg (h : Tabs P w wr n m T) : Chg [] w wr := by obtain ⟨_, h⟩ := h; exact h.chg
theorem Tabs.at' (h : Tabs P w wr n m T) {p : Nat × Obj} (hp : p ∈ P) : wr.heap[p.1]? = some p.2 := by obtain ⟨_, h⟩ := h; exact h.pl p hp
theorem Tabs.ft (h : Tabs P w wr n m T) {i tb : Nat} {L : List Fl} (hi : T[i]? = some (tb, L)) : ∃ F, FT F wr tb n m L := by obtain ⟨Fs, h⟩ := h; exact ⟨Fs i, h.ft i tb L hi⟩
theorem Tabs.nil (hc : Chg [] w wr) : Tabs [] w wr n m [] := ⟨fun _ => [], by simp, by simp, by simp, by simp, by simp, hc⟩
theorem Tabs.push (h : Tabs P w wr n m T) (hc : Chg [] wr w2) {F : List Nat} {tb : Nat} {L : List Fl} (hF : FT F w2 tb n m L) (hge : ∀ y ∈ F, wr.heap.size ≤ y) : Tabs P w w2 n m (T ++ [(tb, L)]) := by
  obtain ⟨Fs, h⟩ := h
  refine ⟨fun j => if j = T.length then F else Fs j, ?_, ?_, ?_, ?_, ?_, h.chg.trans hc⟩
  · intro j tb' L' hj
    by_cases e : j = T.length
    · subst e
      rw [List.getElem?_append_right (Nat.le_refl _), Nat.sub_self] at hj
      simp only [List.getElem?_cons_zero, Option.some.injEq, Prod.mk.injEq] at hj
      obtain ⟨e1, e2⟩ := hj
      subst e1; subst e2
      simp only [if_true]
      exact hF
    · have hj2 := ltT hj
      rw [List.length_append, List.length_singleton] at hj2
      rw [List.getElem?_append_left (by omega)] at hj
      simp only [if_neg e]
      exact (h.ft j tb' L' hj).same hc
  · intro j hj y hy
    rw [List.length_append, List.length_singleton] at hj
    by_cases e : j = T.length
    · simp only [if_pos e] at hy
      exact Nat.le_trans h.chg.size (hge y hy)
    · simp only [if_neg e] at hy
      exact h.lo j (by omega) y hy
  · intro j k hj hk hjk y hy
    rw [List.length_append, List.length_singleton] at hj hk
    by_cases e : j = T.length
    · simp only [if_pos e] at hy
      rw [if_neg (by omega : k ≠ T.length)]
      intro hh
      have := h.ltw (by omega) y hh
      have := hge y hy
      omega
    · simp only [if_neg e] at hy
      by_cases e2 : k = T.length
      · simp only [if_pos e2]
        intro hh
        have := h.ltw (by omega) y hy
        have := hge y hh
        omega
      · simp only [if_neg e2]
        exact h.dj j k (by omega) (by omega) hjk y hy
  · exact fun p hp => hc.keep (h.pl p hp) (by simp)
  · intro p hp j hj
    rw [List.length_append, List.length_singleton] at hj
    by_cases e : j = T.length
    · simp only [if_pos e]
      intro hh
      have := lt_of_block (h.pl p hp)
      have := hge _ hh
      omega
    · simp only [if_neg e]
      exact h.pd p hp j (by omega)
/-- A block that came in the last step is kept from now on. -/
theorem Tabs.add (h : Tabs P w wr n m T) (hc : Chg [] wr w2) {b : Nat} {o : Obj} (hb : w2.heap[b]? = some o) (hge : wr.heap.size ≤ b) : Tabs ((b, o) :: P) w w2 n m T := by
  obtain ⟨Fs, h⟩ := h
  refine ⟨Fs, fun i tb L hi => (h.ft i tb L hi).same hc, h.lo, h.dj, ?_, ?_, h.chg.trans hc⟩
  · intro p hp
    rcases List.mem_cons.1 hp with rfl | hp
    · exact hb
    · exact hc.keep (h.pl p hp) (by simp)
  · intro p hp i hi
    rcases List.mem_cons.1 hp with rfl | hp
    · intro hh
      have := h.ltw hi _ hh
      show False
      simp only at this
      omega
    · exact h.pd p hp i hi
theorem Tabs.own (h : Tabs P w wr n m T) (hc : Chg [] wr w2) {α : Type} {t : TypeId} {sz : Nat} {f : α → List Value} {v : Value} {l : List α} (ho : R.OwnR t sz f wr.heap.size w2 v l) :
    ∃ o : List (Nat × Obj), Tabs (o ++ P) w w2 n m T ∧ (∀ g, v.ownBlock = some g → ∃ p ∈ o, p.1 = g) ∧ (∀ p ∈ o, v.ownBlock = some p.1) ∧ ∀ (w3 : World), (∀ p ∈ o, w3.heap[p.1]? = some p.2) → R.OwnR t sz f wr.heap.size w3 v l := by
  cases hv : v.ownBlock with
  | none => exact ⟨[], h.same hc, by simp, by simp, fun w3 _ => ho.keep fun g hg => by rw [hv] at hg; cases hg⟩
  | some g =>
    obtain ⟨h1, _, c, h2⟩ := ho.blk g hv
    refine ⟨[(g, .cells c t (0, 0))], h.add hc h2 h1, fun g' e => ⟨_, List.mem_singleton.2 rfl, by injection e⟩, fun p hp => by simp at hp; subst hp; rfl, fun w3 h3 => ho.keep fun g' hg => ?_⟩
    rw [hv] at hg
    cases hg
    rw [h2]
    exact h3 (g, .cells c t (0, 0)) (by simp)
end
section
variable {P : List (Nat × Obj)} {w wr : World} {n m : Nat} {T : List (Nat × List Fl)} (h : Tabs P w wr n m T) {i tb : Nat} {L : List Fl} (hi : T[i]? = some (tb, L))
include h hi
theorem does_t (A : ActT) (L' : List Fl) (hA : A.ok) (hL : L' = doF n m L A) :
    Calls Try.prog 14 #[.pointer (some ⟨tb, 0, none⟩), .agg #[.int .u8 (A.k : Nat), .string (bytesV A.q.name), .int .u16 (A.q.ty : Nat), .int .u16 (A.q.cl : Nat), .int .i64 A.s, .int .i64 A.x.who, .string (bytesV A.x.data)]] wr fun e w' => e = .returned (.tuple #[]) ∧ Tabs P w w' n m (T.set i (tb, L')) := by
  subst hL
  obtain ⟨Fs, h⟩ := h
  refine (does_any (Fs i) tb n m L wr A (h.ft i tb L hi) hA).mono ?_
  rintro e w' ⟨rfl, hN⟩
  exact ⟨rfl, h.step hi hN⟩
theorem begin_t (q : Qs) (r e : Nat) (L' : List Fl) (hq : OkQ q) (hr : beginF L n q = (L', r, e)) :
    Calls Try.prog 12 #[.pointer (some ⟨tb, 0, none⟩), .agg #[.string (bytesV q.name), .int .u16 (q.ty : Nat), .int .u16 (q.cl : Nat)]] wr fun x w' => x = .returned (.tuple #[.int .i64 (r : Nat), .int .i64 (e : Nat)]) ∧ Tabs P w w' n m (T.set i (tb, L')) := by
  obtain ⟨Fs, h⟩ := h
  refine (begin_any (Fs i) tb n m L wr q r e L' (h.ft i tb L hi) hq (Lib.hid hr)).mono ?_
  rintro x w' ⟨rfl, hN⟩
  exact ⟨rfl, h.step hi hN⟩
theorem join_t (s : Int) (x : Wt) (e : Nat) (L' : List Fl) (hr : joinF L m s x = (L', e)) :
    Calls Try.prog 13 #[.pointer (some ⟨tb, 0, none⟩), .int .i64 s, .agg #[.int .i64 x.who, .string (bytesV x.data)]] wr fun r w' => r = .returned (.int .i64 (e : Nat)) ∧ Tabs P w w' n m (T.set i (tb, L')) := by
  obtain ⟨Fs, h⟩ := h
  refine (join_any (Fs i) tb n m L wr s x e L' (h.ft i tb L hi) (Lib.hid hr)).mono ?_
  rintro x w' ⟨rfl, hN⟩
  exact ⟨rfl, h.step hi hN⟩
theorem end_t (s : Int) (e : Nat) (L' : List Fl) (ws : List Wt) (he : e = errE L s) (hL : L' = endA L s) (hws : ws = goneF L s) :
    Calls Try.prog 15 #[.pointer (some ⟨tb, 0, none⟩), .int .i64 s] wr fun r w' => ∃ a c, r = .returned (.tuple #[.slice a ws.length c, .int .i64 (e : Nat)]) ∧ R.OwnR 38 2 wV wr.heap.size w' (.slice a ws.length c) ws ∧ wr.heap.size ≤ w'.heap.size ∧
      ∃ o, Tabs (o ++ P) w w' n m (T.set i (tb, L')) ∧ (∀ g, (Value.slice a ws.length c).ownBlock = some g → ∃ p ∈ o, p.1 = g) ∧ (∀ p ∈ o, (Value.slice a ws.length c).ownBlock = some p.1) ∧ ∀ (w3 : World), (∀ p ∈ o, w3.heap[p.1]? = some p.2) → R.OwnR 38 2 wV wr.heap.size w3 (.slice a ws.length c) ws := by
  obtain ⟨Fs, h⟩ := h
  refine (end_any (Fs i) tb n m L wr s e L' ws (h.ft i tb L hi) (Lib.hid he) (Lib.hid hL) (Lib.hid hws)).mono ?_
  rintro r w' ⟨v, rfl, ho, k1, k2⟩
  obtain ⟨a, c, rfl⟩ := ho.len
  refine ⟨a, c, rfl, ho, k2.size, ?_⟩
  have hT := h.step hi (L2 := L') (w2 := w') ⟨Fs i, k1, k2, fun y hy => .inl hy⟩
  cases hv : (Value.slice a ws.length c).ownBlock with
  | none => exact ⟨[], hT, by simp, by simp, fun w3 _ => ho.keep fun g hg => by rw [hv] at hg; cases hg⟩
  | some g =>
    obtain ⟨h1, _, cc, h2⟩ := ho.blk g hv
    refine ⟨[(g, .cells cc 38 (0, 0))], ?_, fun g' e => ⟨_, List.mem_singleton.2 rfl, by injection e⟩, fun p hp => by simp at hp; subst hp; rfl, fun w3 h3 => ho.keep fun g' hg => ?_⟩
    · have hil := ltT hi
      refine ⟨Fs, ?_, ?_, ?_, ?_, ?_, ?_⟩
      · intro j tb' L2 hj
        by_cases e : j = i
        · subst e
          rw [List.getElem?_set_self hil] at hj
          injection hj with hj
          injection hj with e1 e2
          subst e1; subst e2
          exact k1
        · rw [List.getElem?_set_ne (fun hh => e hh.symm)] at hj
          exact (h.ft j tb' L2 hj).chg k2 (fun y hy hh => h.dj j i (ltT hj) hil e y hy hh)
      · exact fun j hj => h.lo j (by simpa using hj)
      · exact fun j k hj hk => h.dj j k (by simpa using hj) (by simpa using hk)
      · intro p hp
        rcases List.mem_cons.1 hp with rfl | hp
        · exact h2
        · exact k2.keep (h.pl p hp) (h.pd p hp i hil)
      · intro p hp j hj
        rw [List.length_set] at hj
        rcases List.mem_cons.1 hp with rfl | hp
        · intro hh
          have := h.ltw hj _ hh
          simp only at this
          omega
        · exact h.pd p hp j hj
      · exact h.chg.trans_new k2 (fun y hy => .inr (h.lo i hil y hy))
    · rw [hv] at hg
      cases hg
      rw [h2]
      exact h3 (g, .cells cc 38 (0, 0)) (by simp)
theorem copy_t :
    Calls Try.prog 23 #[.pointer (some ⟨tb, 0, none⟩)] wr fun e w' => ∃ tb', e = .returned (.pointer (some ⟨tb', 0, none⟩)) ∧ Tabs P w w' n m (T ++ [(tb', L)]) := by
  obtain ⟨F, hF⟩ := h.ft hi
  refine (copy_any F tb n m L wr hF).mono ?_
  rintro e w' ⟨tb', F', rfl, hF', hge, hc⟩
  exact ⟨tb', rfl, h.push hc hF' hge⟩
theorem row_t (l : List Nat) (hl : l = slotsF L) :
    Calls Try.prog 18 #[.pointer (some ⟨tb, 0, none⟩)] wr fun e w' => ∃ a c, e = .returned (.slice a l.length c) ∧ R.OwnR 3 1 sV wr.heap.size w' (.slice a l.length c) l ∧ Chg [] wr w' := by
  subst hl
  obtain ⟨F, hF⟩ := h.ft hi
  refine (row_any F tb n m L wr hF).mono ?_
  rintro e w' ⟨v, rfl, ho, hc⟩
  obtain ⟨a, c, rfl⟩ := ho.len
  exact ⟨a, c, rfl, ho, hc⟩
theorem waits_t (s : Int) (k : Nat) (hk : k = waitsF L s) :
    Calls Try.prog 20 #[.pointer (some ⟨tb, 0, none⟩), .int .i64 s] wr fun e w' => e = .returned (.int .i64 (k : Nat)) ∧ wr = w' := by
  obtain ⟨F, hF⟩ := h.ft hi
  exact waits_any F tb n m L wr s k hF (Lib.hid hk)
theorem len_t (k : Nat) (hk : k = L.length) :
    Calls Try.prog 26 #[.pointer (some ⟨tb, 0, none⟩)] wr fun e w' => e = .returned (.int .i64 (k : Nat)) ∧ wr = w' := by
  obtain ⟨F, hF⟩ := h.ft hi
  exact len_any F tb n m L wr k hF (Lib.hid hk)
theorem quest_t (s : Int) (q : Qs) (b : Bool) (hq : q = questF L s) (hb : b = useF L s) :
    Calls Try.prog 19 #[.pointer (some ⟨tb, 0, none⟩), .int .i64 s] wr fun e w' => e = .returned (.tuple #[.agg #[.string (bytesV q.name), .int .u16 (q.ty : Nat), .int .u16 (q.cl : Nat)], .bool b]) ∧ Chg [] wr w' := by
  obtain ⟨F, hF⟩ := h.ft hi
  exact quest_any F tb n m L wr s q b hF (Lib.hid hq) (Lib.hid hb)
theorem find_t (q : Qs) (a : Nat) (b : Bool) (hq : OkQ q) (ha : a = findAt L q) (hb : b = findIs L q) :
    Calls Try.prog 21 #[.pointer (some ⟨tb, 0, none⟩), .agg #[.string (bytesV q.name), .int .u16 (q.ty : Nat), .int .u16 (q.cl : Nat)]] wr fun e w' => e = .returned (.tuple #[.int .i64 (a : Nat), .bool b]) ∧ Chg [] wr w' := by
  obtain ⟨F, hF⟩ := h.ft hi
  exact find_any F tb n m L wr q a b hF hq (Lib.hid ha) (Lib.hid hb)
end

/-- All who wait are such as may be written. -/
def OkW (L : List Fl) : Prop := ∀ f ∈ L, ∀ x ∈ f.ws, OkX x
theorem okW_nil : OkW [] := fun f hf => by simp at hf
theorem OkW.sub {L M : List Fl} (h : OkW L) (hs : M.Sublist L) : OkW M := fun f hf => h f (hs.subset hf)
theorem OkW.ws {L : List Fl} (h : OkW L) (s : Nat) : ∀ x ∈ wsF L s, OkX x := by
  intro x hx
  unfold wsF at hx
  cases hg : getF L s with
  | none => rw [hg] at hx; simp at hx
  | some f =>
    rw [hg] at hx
    exact h f (getF_some hg).1 x hx
theorem OkW.gone {L : List Fl} (h : OkW L) (s : Int) : ∀ x ∈ goneF L s, OkX x := by
  intro x hx
  unfold goneF at hx
  split at hx
  · exact h.ws _ x hx
  · simp at hx
theorem OkW.endA {L : List Fl} (h : OkW L) (s : Int) : OkW (endA L s) := by
  unfold Go.Proofs.Ytopkbchjlifflaa.endA
  split
  · exact h.sub List.filter_sublist
  · exact h
theorem OkW.begin {L : List Fl} (h : OkW L) (n : Nat) (q : Qs) : OkW (beginF L n q).1 := by
  unfold beginF
  split
  · split
    · exact h
    · split
      · intro f hf
        rcases List.mem_append.1 hf with e | e
        · exact h f e
        · simp at e; subst e; simp
      · exact h
  · exact h
theorem OkW.join {L : List Fl} (h : OkW L) (m : Nat) (s : Int) {x : Wt} (hx : OkX x) : OkW (joinF L m s x).1 := by
  unfold joinF
  split
  · split
    · exact h
    · split
      · exact h
      · intro f hf y hy
        obtain ⟨g, hg, e⟩ := List.mem_map.1 hf
        subst e
        split at hy
        · simp only at hy
          rcases List.mem_append.1 hy with h1 | h1
          · exact h.ws _ y h1
          · simp at h1; subst h1; exact hx
        · exact h g hg y hy
  · exact h
theorem OkW.does {L : List Fl} (h : OkW L) (n m : Nat) {a : ActT} (ha : a.ok) : OkW (doF n m L a) := by
  unfold doF
  split
  · exact h.begin n a.q
  · split
    · exact h.join m a.s ha.x
    · split
      · exact h.endA a.s
      · exact h
theorem OkW.run {L : List Fl} (h : OkW L) (n m : Nat) : ∀ {acts : List ActT}, (∀ a ∈ acts, a.ok) → OkW (runF n m L acts) := by
  intro acts
  induction acts generalizing L with
  | nil => exact fun _ => h
  | cons a l ih => exact fun ha => ih (h.does n m (ha a (by simp))) (fun b hb => ha b (by simp [hb]))
theorem gone_le {n m : Nat} {L : List Fl} (h : OkF n m L) (s : Int) : (goneF L s).length ≤ m := by
  unfold goneF wsF
  split
  · cases hg : getF L s.toNat with
    | none => simp
    | some f => exact h.wait f (getF_some hg).1
  · simp
theorem quest_ok {n m : Nat} {L : List Fl} (h : OkF n m L) (s : Int) : OkQ (questF L s) := by
  have h0 : OkQ q0 := ⟨by simp [q0], by simp [q0], by simp [q0]⟩
  unfold questF qsF
  split
  · cases hg : getF L s.toNat with
    | none => exact h0
    | some f => exact h.okQ f (getF_some hg).1
  · exact h0

end Go.Proofs.Ytopkbchjlifflaa
