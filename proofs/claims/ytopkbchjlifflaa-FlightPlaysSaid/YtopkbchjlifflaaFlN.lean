/- A table of the call's own, beside blocks that stay. -/
import Derived.Test.YtopkbchjlifflaaFlM
namespace Go.Proofs.Ytopkbchjlifflaa
open Go.RowKit Go.Maps

/-- A table of the call's own, beside a list of blocks that stay. -/
def FInP (P : List (Nat × Obj)) (w wr : World) (tb n m : Nat) (L : List Fl) : Prop := ∃ F, FT F wr tb n m L ∧ (∀ y ∈ F, w.heap.size ≤ y ∧ ∀ p ∈ P, y ≠ p.1) ∧ (∀ p ∈ P, wr.heap[p.1]? = some p.2) ∧ Chg [] w wr
section
variable {P : List (Nat × Obj)} {w wr w2 : World} {tb n m : Nat} {L L2 : List Fl}
theorem FInP.next (h : FInP P w wr tb n m L) (k : ∀ F, FT F wr tb n m L → FNext F wr w2 tb n m L2) : FInP P w w2 tb n m L2 := by
  obtain ⟨F, h1, h2, h4, h3⟩ := h
  obtain ⟨F2, k1, k2, k3⟩ := k F h1
  refine ⟨F2, k1, fun y hy => ?_, fun p hp => k2.keep (h4 p hp) (fun hh => (h2 _ hh).2 p hp rfl), h3.trans_new k2 (fun y hy => .inr (h2 y hy).1)⟩
  rcases k3 y hy with e | e
  · exact h2 y e
  · refine ⟨Nat.le_trans h3.size e, fun p hp => ?_⟩
    have := lt_of_block (h4 p hp)
    omega
theorem FInP.same (h : FInP P w wr tb n m L) (hc : Chg [] wr w2) : FInP P w w2 tb n m L := h.next fun _ hF => FNext.refl hF hc
theorem FInP.chg (h : FInP P w wr tb n m L) : Chg [] w wr := by obtain ⟨_, _, _, _, h⟩ := h; exact h
theorem FInP.at' (h : FInP P w wr tb n m L) {p : Nat × Obj} (hp : p ∈ P) : wr.heap[p.1]? = some p.2 := by obtain ⟨_, _, _, h, _⟩ := h; exact h p hp
theorem FInP.drop {P2 : List (Nat × Obj)} (h : FInP P w wr tb n m L) (hs : ∀ p ∈ P2, p ∈ P) : FInP P2 w wr tb n m L := by
  obtain ⟨F, h1, h2, h4, h3⟩ := h
  exact ⟨F, h1, fun y hy => ⟨(h2 y hy).1, fun p hp => (h2 y hy).2 p (hs p hp)⟩, fun p hp => h4 p (hs p hp), h3⟩
/-- A block that came in the last step is kept from now on. -/
theorem FInP.add (h : FInP P w wr tb n m L) (hc : Chg [] wr w2) {b : Nat} {o : Obj} (hb : w2.heap[b]? = some o) (hge : wr.heap.size ≤ b) : FInP ((b, o) :: P) w w2 tb n m L := by
  obtain ⟨F, h1, h2, h4, h3⟩ := h
  have hl := h1.lt
  refine ⟨F, h1.same hc, fun y hy => ⟨(h2 y hy).1, fun p hp => ?_⟩, fun p hp => ?_, h3.trans hc⟩
  · rcases List.mem_cons.1 hp with rfl | hp
    · have := hl y hy
      show y ≠ b
      omega
    · exact (h2 y hy).2 p hp
  · rcases List.mem_cons.1 hp with rfl | hp
    · exact hb
    · exact hc.keep (h4 p hp) (by simp)
end
section
variable (P : List (Nat × Obj)) (w wr : World) (tb n m : Nat) (L : List Fl)
theorem begin_p (q : Qs) (r e : Nat) (L' : List Fl) (h : FInP P w wr tb n m L) (hq : OkQ q) (hr : beginF L n q = (L', r, e)) :
    Calls Try.prog 12 #[.pointer (some ⟨tb, 0, none⟩), .agg #[.string (bytesV q.name), .int .u16 (q.ty : Nat), .int .u16 (q.cl : Nat)]] wr fun x w' => x = .returned (.tuple #[.int .i64 (r : Nat), .int .i64 (e : Nat)]) ∧ FInP P w w' tb n m L' := by
  have h0 := h
  obtain ⟨F, hF, h2, h4, h3⟩ := h
  refine (begin_any F tb n m L wr q r e L' hF hq (Lib.hid hr)).mono ?_
  rintro x w' ⟨rfl, F2, k1, k2, k3⟩
  refine ⟨rfl, F2, k1, fun y hy => ?_, fun p hp => k2.keep (h4 p hp) (fun hh => (h2 _ hh).2 p hp rfl), h3.trans_new k2 (fun y hy => .inr (h2 y hy).1)⟩
  rcases k3 y hy with e | e
  · exact h2 y e
  · refine ⟨Nat.le_trans h3.size e, fun p hp => ?_⟩
    have := lt_of_block (h4 p hp)
    omega
theorem join_p (s : Int) (x : Wt) (e : Nat) (L' : List Fl) (h : FInP P w wr tb n m L) (hr : joinF L m s x = (L', e)) :
    Calls Try.prog 13 #[.pointer (some ⟨tb, 0, none⟩), .int .i64 s, .agg #[.int .i64 x.who, .string (bytesV x.data)]] wr fun r w' => r = .returned (.int .i64 (e : Nat)) ∧ FInP P w w' tb n m L' := by
  obtain ⟨F, hF, h2, h4, h3⟩ := h
  refine (join_any F tb n m L wr s x e L' hF (Lib.hid hr)).mono ?_
  rintro x w' ⟨rfl, F2, k1, k2, k3⟩
  refine ⟨rfl, F2, k1, fun y hy => ?_, fun p hp => k2.keep (h4 p hp) (fun hh => (h2 _ hh).2 p hp rfl), h3.trans_new k2 (fun y hy => .inr (h2 y hy).1)⟩
  rcases k3 y hy with e | e
  · exact h2 y e
  · refine ⟨Nat.le_trans h3.size e, fun p hp => ?_⟩
    have := lt_of_block (h4 p hp)
    omega
theorem end_p (s : Int) (e : Nat) (L' : List Fl) (ws : List Wt) (h : FInP P w wr tb n m L) (he : e = errE L s) (hL : L' = endA L s) (hws : ws = goneF L s) :
    Calls Try.prog 15 #[.pointer (some ⟨tb, 0, none⟩), .int .i64 s] wr fun r w' => ∃ a c, r = .returned (.tuple #[.slice a ws.length c, .int .i64 (e : Nat)]) ∧ FInP P w w' tb n m L' := by
  obtain ⟨F, hF, h2, h4, h3⟩ := h
  refine (end_any F tb n m L wr s e L' ws hF (Lib.hid he) (Lib.hid hL) (Lib.hid hws)).mono ?_
  rintro r w' ⟨v, rfl, ho, k1, k2⟩
  obtain ⟨a, c, rfl⟩ := ho.len
  exact ⟨a, c, rfl, F, k1, h2, fun p hp => k2.keep (h4 p hp) (fun hh => (h2 _ hh).2 p hp rfl), h3.trans_new k2 (fun y hy => .inr (h2 y hy).1)⟩
variable {P w wr tb n m L}
theorem row_p (h : FInP P w wr tb n m L) (l : List Nat) (hl : l = slotsF L) :
    Calls Try.prog 18 #[.pointer (some ⟨tb, 0, none⟩)] wr fun e w' => ∃ a c, e = .returned (.slice a l.length c) ∧ R.OwnR 3 1 sV wr.heap.size w' (.slice a l.length c) l ∧ Chg [] wr w' := by
  subst hl
  obtain ⟨F, hF, _⟩ := h
  refine (row_any F tb n m L wr hF).mono ?_
  rintro e w' ⟨v, rfl, ho, hc⟩
  obtain ⟨a, c, rfl⟩ := ho.len
  exact ⟨a, c, rfl, ho, hc⟩
theorem waits_p (h : FInP P w wr tb n m L) (s : Int) (k : Nat) (hk : k = waitsF L s) :
    Calls Try.prog 20 #[.pointer (some ⟨tb, 0, none⟩), .int .i64 s] wr fun e w' => e = .returned (.int .i64 (k : Nat)) ∧ wr = w' := by
  obtain ⟨F, hF, _⟩ := h
  exact waits_any F tb n m L wr s k hF (Lib.hid hk)
theorem quest_p (h : FInP P w wr tb n m L) (s : Int) (q : Qs) (b : Bool) (hq : q = questF L s) (hb : b = useF L s) :
    Calls Try.prog 19 #[.pointer (some ⟨tb, 0, none⟩), .int .i64 s] wr fun e w' => e = .returned (.tuple #[.agg #[.string (bytesV q.name), .int .u16 (q.ty : Nat), .int .u16 (q.cl : Nat)], .bool b]) ∧ Chg [] wr w' := by
  obtain ⟨F, hF, _⟩ := h
  exact quest_any F tb n m L wr s q b hF (Lib.hid hq) (Lib.hid hb)
theorem find_p (h : FInP P w wr tb n m L) (q : Qs) (a : Nat) (b : Bool) (hq : OkQ q) (ha : a = findAt L q) (hb : b = findIs L q) :
    Calls Try.prog 21 #[.pointer (some ⟨tb, 0, none⟩), .agg #[.string (bytesV q.name), .int .u16 (q.ty : Nat), .int .u16 (q.cl : Nat)]] wr fun e w' => e = .returned (.tuple #[.int .i64 (a : Nat), .bool b]) ∧ Chg [] wr w' := by
  obtain ⟨F, hF, _⟩ := h
  exact find_any F tb n m L wr q a b hF hq (Lib.hid ha) (Lib.hid hb)
end

end Go.Proofs.Ytopkbchjlifflaa
