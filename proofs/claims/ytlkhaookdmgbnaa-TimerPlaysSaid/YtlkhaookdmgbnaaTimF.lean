/- Timers in memory; the walks of New, Len, At, Next. -/
import Derived.Test.YtlkhaookdmgbnaaTimN
import Derived.Test.YtlkhaookdmgbnaaTimM
import Derived.Test.YtlkhaookdmgbnaaTimPl2
namespace Go.Proofs.Ytlkhaookdmgbnaa
open Go.RowKit

def FQ (f : Int → Option Nat) (Q : List (It × Nat)) : Prop := ∀ k b, f k = some b ↔ ∃ x ∈ Q, x.1.id = k ∧ x.2 = b
def MapQ (w : World) (mv : Value) (p : Nat) (F : List Nat) (Q : List (It × Nat)) : Prop :=
  (mv = .map none ∧ Q = []) ∨ ∃ mb k f, mv = .map (some mb) ∧ MapAt w mb k f ∧ k ≤ p ∧ mb ∈ F ∧ FQ f Q
theorem MapQ.chg {w w' : World} {S : List Nat} {mv : Value} {p : Nat} {F : List Nat} {Q : List (It × Nat)} (h : MapQ w mv p F Q) (hc : Chg S w w') (hS : ∀ mb k f, MapAt w mb k f → mb ∈ F → mb ∉ S) : MapQ w' mv p F Q := by
  rcases h with h | ⟨mb, k, f, h1, h2, h3, h4, h5⟩
  · exact .inl h
  · exact .inr ⟨mb, k, f, h1, h2.chg hc (hS mb k f h2 h4), h3, h4, h5⟩
theorem MapQ.mono {w : World} {mv : Value} {p q : Nat} {F : List Nat} {Q : List (It × Nat)} (h : MapQ w mv p F Q) (hq : p ≤ q) : MapQ w mv q F Q := by
  rcases h with h | ⟨mb, k, f, h1, h2, h3, h4, h5⟩
  · exact .inl h
  · exact .inr ⟨mb, k, f, h1, h2, by omega, h4, h5⟩
theorem MapQ.look {w : World} {mv : Value} {p : Nat} {F : List Nat} {Q : List (It × Nat)} (h : MapQ w mv p F Q) {id : Int} (hid : InI id) {x : It × Nat} (hx : x ∈ Q) (e : x.1.id = id) : (Instr.lookup 57 mv (.int .i64 id) true).run Try.prog w = .ok (.tuple #[.pointer (some ⟨x.2, 0, none⟩), .bool true]) w := by
  rcases h with ⟨_, h⟩ | ⟨mb, k, f, h1, h2, h3, h4, h5⟩
  · rw [h] at hx; simp at hx
  · rw [h1]
    exact h2.look hid ((h5 _ _).2 ⟨x, hx, e, rfl⟩)
theorem MapQ.look_none {w : World} {mv : Value} {p : Nat} {F : List Nat} {Q : List (It × Nat)} (h : MapQ w mv p F Q) {id : Int} (hid : InI id) (hx : ∀ x ∈ Q, x.1.id ≠ id) : (Instr.lookup 57 mv (.int .i64 id) true).run Try.prog w = .ok (.tuple #[.pointer none, .bool false]) w := by
  rcases h with ⟨h1, _⟩ | ⟨mb, k, f, h1, h2, h3, h4, h5⟩
  · rw [h1]; exact look_nilmap w hid
  · rw [h1]
    refine h2.look_none hid ?_
    cases hf : f id with
    | none => rfl
    | some b =>
      obtain ⟨x, hxq, e, _⟩ := (h5 _ _).1 hf
      exact absurd e (hx x hxq)

/-- Timers, with all that is inside. -/
structure TI (w : World) (tb : Nat) (F : List Nat) (L : List It) (p : Nat) (mv : Value) (a : Option Addr) (n c : Nat) (Q : List (It × Nat)) : Prop where
  head : HeadAt w tb mv (.slice a n c) p
  qs : QS w a n c Q F
  heap : HeapN (itsQ Q) n
  perm : (itsQ Q).Perm L
  map : MapQ w mv p F Q
  out : tb ∉ F
  low : ∀ y ∈ F, y < w.heap.size
  ok : OkL L p
/-- The block tb holds timers of these things, in the row in which they were put; the other blocks lie in F. -/
def TimersAt (w : World) (tb : Nat) (F : List Nat) (L : List It) (p : Nat) : Prop := ∃ mv a n c Q, TI w tb F L p mv a n c Q
theorem TI.len {w : World} {tb : Nat} {F : List Nat} {L : List It} {p : Nat} {mv : Value} {a : Option Addr} {n c : Nat} {Q : List (It × Nat)} (h : TI w tb F L p mv a n c Q) : n = L.length := by
  rw [h.qs.1, ← h.perm.length_eq]; simp [itsQ]
theorem TI.of_mem {w : World} {tb : Nat} {F : List Nat} {L : List It} {p : Nat} {mv : Value} {a : Option Addr} {n c : Nat} {Q : List (It × Nat)} (h : TI w tb F L p mv a n c Q) {x : It} (hx : x ∈ L) : ∃ (i : Nat) (hi : i < Q.length), Q[i].1 = x := by
  have := h.perm.mem_iff.2 hx
  obtain ⟨q, hq, rfl⟩ := List.mem_map.1 this
  obtain ⟨i, hi, rfl⟩ := List.getElem_of_mem hq
  exact ⟨i, hi, rfl⟩
theorem TI.mem {w : World} {tb : Nat} {F : List Nat} {L : List It} {p : Nat} {mv : Value} {a : Option Addr} {n c : Nat} {Q : List (It × Nat)} (h : TI w tb F L p mv a n c Q) {x : It × Nat} (hx : x ∈ Q) : x.1 ∈ L := h.perm.mem_iff.1 (List.mem_map.2 ⟨x, hx, rfl⟩)
theorem TimersAt.lt {w : World} {tb : Nat} {F : List Nat} {L : List It} {p : Nat} (h : TimersAt w tb F L p) : tb < w.heap.size := by
  obtain ⟨mv, a, n, c, Q, h⟩ := h; exact h.head.lt
theorem TimersAt.low {w : World} {tb : Nat} {F : List Nat} {L : List It} {p : Nat} (h : TimersAt w tb F L p) : ∀ y ∈ F, y < w.heap.size := by
  obtain ⟨mv, a, n, c, Q, h⟩ := h; exact h.low
theorem TimersAt.ok {w : World} {tb : Nat} {F : List Nat} {L : List It} {p : Nat} (h : TimersAt w tb F L p) : OkL L p := by
  obtain ⟨mv, a, n, c, Q, h⟩ := h; exact h.ok
theorem TI.chg {w w' : World} {S : List Nat} {tb : Nat} {F : List Nat} {L : List It} {p : Nat} {mv : Value} {a : Option Addr} {n c : Nat} {Q : List (It × Nat)} (h : TI w tb F L p mv a n c Q) (hc : Chg S w w') (ht : tb ∉ S) (hF : ∀ y ∈ F, y ∉ S) : TI w' tb F L p mv a n c Q :=
  ⟨h.head.chg hc ht, h.qs.chg hc hF, h.heap, h.perm, h.map.chg hc fun mb _ _ _ hm => hF mb hm, h.out, fun y hy => Nat.lt_of_lt_of_le (h.low y hy) hc.size, h.ok⟩
theorem TimersAt.chg {w w' : World} {S : List Nat} {tb : Nat} {F : List Nat} {L : List It} {p : Nat} (h : TimersAt w tb F L p) (hc : Chg S w w') (ht : tb ∉ S) (hF : ∀ y ∈ F, y ∉ S) : TimersAt w' tb F L p := by
  obtain ⟨mv, a, n, c, Q, h⟩ := h
  exact ⟨mv, a, n, c, Q, h.chg hc ht hF⟩
theorem TimersAt.same {w w' : World} {tb : Nat} {F : List Nat} {L : List It} {p : Nat} (h : TimersAt w tb F L p) (hc : Chg [] w w') : TimersAt w' tb F L p := h.chg hc (by simp) (by simp)
theorem TimersAt.drewN {w : World} {tb : Nat} {F : List Nat} {L : List It} {p : Nat} (h : TimersAt w tb F L p) (n : Nat) : TimersAt (w.drewN n) tb F L p := h.same ((Chg.refl [] w).drewN n)

theorem new_at (w : World) : TimersAt (w.alloc (.cells #[.map none, .slice none 0 0, .int .u64 0] 62)) w.heap.size [] [] 0 :=
  ⟨.map none, none, 0, 0, [], ⟨heap_new w _, ⟨rfl, Nat.le_refl _, .inl ⟨rfl, rfl, rfl⟩⟩, fun i _ h => by omega, List.Perm.refl _, .inl ⟨rfl, rfl⟩, by simp, by simp, ok_nil⟩⟩
theorem new_any (w : World) :
    Calls Try.prog 20 #[] w fun e w' => e = .returned (.pointer (some ⟨w.heap.size, 0, none⟩)) ∧ w' = w.alloc (.cells #[.map none, .slice none 0 0, .int .u64 0] 62) := by
  go_enter Try.func20, Try.ntmps20
  go_wp2
  go_ret
  exact ⟨rfl, rfl⟩

theorem len_any (tb : Nat) (F : List Nat) (L : List It) (p : Nat) (w : World) (h : TimersAt w tb F L p) :
    Calls Try.prog 14 #[.pointer (some ⟨tb, 0, none⟩)] w fun e w' => e = .returned (.int .i64 L.length) ∧ w = w' := by
  obtain ⟨mv, a, n, c, Q, h⟩ := h
  have c1 := h.head.c1
  rw [← h.len]
  go_enter Try.func14, Try.ntmps14
  go_wp2
  go_ret
  exact ⟨rfl, rfl⟩

theorem at_some (tb : Nat) (F : List Nat) (L : List It) (p : Nat) (x : It) (w : World) (h : TimersAt w tb F L p) (hx : x ∈ L) :
    Calls Try.prog 16 #[.pointer (some ⟨tb, 0, none⟩), .int .i64 x.id] w fun e w' => e = .returned (.tuple #[.int .i64 x.due, .bool true]) ∧ w = w' := by
  obtain ⟨mv, a, n, c, Q, h⟩ := h
  obtain ⟨i, hi, hQ⟩ := h.of_mem hx
  have c0 := h.head.c0
  have hl := h.map.look (h.ok.idI x hx) (List.getElem_mem hi) (by rw [hQ])
  have k1 := (h.qs.item hi).c1
  rw [hQ] at k1
  obtain ⟨g, hg⟩ : ∃ g, g = Q[i].2 := ⟨_, rfl⟩
  rw [← hg] at hl k1
  clear hg hQ h hx hi
  go_enter Try.func16, Try.ntmps16
  go_wp2
  go_ret2
  exact ⟨rfl, rfl⟩
theorem at_none (tb : Nat) (F : List Nat) (L : List It) (p : Nat) (id : Int) (w : World) (h : TimersAt w tb F L p) (hi : InI id) (hx : ∀ x ∈ L, x.id ≠ id) :
    Calls Try.prog 16 #[.pointer (some ⟨tb, 0, none⟩), .int .i64 id] w fun e w' => e = .returned (.tuple #[.int .i64 0, .bool false]) ∧ w = w' := by
  obtain ⟨mv, a, n, c, Q, h⟩ := h
  have c0 := h.head.c0
  have hl := h.map.look_none hi fun x hq => hx _ (h.mem hq)
  clear h hx hi
  go_enter Try.func16, Try.ntmps16
  go_wp2
  go_ret2
  exact ⟨rfl, rfl⟩

theorem next_none (tb : Nat) (F : List Nat) (p : Nat) (w : World) (h : TimersAt w tb F [] p) :
    Calls Try.prog 25 #[.pointer (some ⟨tb, 0, none⟩)] w fun e w' => e = .returned (.tuple #[.int .i64 0, .int .i64 0, .bool false]) ∧ ∃ n, w' = w.drewN n := by
  obtain ⟨mv, a, n, c, Q, h⟩ := h
  have c1 := h.head.c1
  have hn : n = 0 := h.len
  subst hn
  clear h
  go_enter Try.func25, Try.ntmps25
  go_wp2
  go_ret3
  exact ⟨rfl, 0, rfl⟩
theorem next_some (tb : Nat) (F : List Nat) (L : List It) (p : Nat) (w : World) (h : TimersAt w tb F L p) (hL : 0 < L.length) :
    ∃ x, isMin x L ∧ Calls Try.prog 25 #[.pointer (some ⟨tb, 0, none⟩)] w fun e w' => e = .returned (.tuple #[.int .i64 x.id, .int .i64 x.due, .bool true]) ∧ ∃ n, w' = w.drewN n := by
  obtain ⟨mv, a, n, c, Q, h⟩ := h
  have hn : n = L.length := h.len
  have hQ0 : 0 < Q.length := by rw [← h.qs.1]; omega
  refine ⟨Q[0].1, ⟨h.mem (List.getElem_mem hQ0), fun y hy => ?_⟩, ?_⟩
  · obtain ⟨i, hi, rfl⟩ := h.of_mem hy
    have hr := heap_root (l := itsQ Q) (fun k h0 hk => h.heap k h0 (by rw [h.qs.1]; simpa [itsQ] using hk)) i (by simpa [itsQ] using hi)
    rw [itsQ_get hQ0, itsQ_get hi] at hr
    exact hr
  · have c1 := h.head.c1
    have hit := h.qs.item hQ0
    have k0 := hit.c0
    have k1 := hit.c1
    obtain ⟨_, _, hq⟩ := h.qs
    rcases hq with ⟨_, e, _⟩ | ⟨qb, rfl, _, hq, _⟩
    · omega
    · have k2 := hq.get 0 hQ0
      obtain ⟨g, hg⟩ : ∃ g, g = Q[0].2 := ⟨_, rfl⟩
      obtain ⟨x, hx⟩ : ∃ x, x = Q[0].1 := ⟨_, rfl⟩
      rw [← hx] at k0 k1 ⊢
      rw [← hg] at k0 k1 k2
      have t1 : ((n : Int) == 0) = false := by simp; omega
      have t2 : (n == 0) = false := by simp; omega
      have t3 : (0 : Int) < (n : Int) := by omega
      have t4 : 0 < n := by omega
      clear hg hx h hq hit hQ0 hn hL
      go_enter Try.func25, Try.ntmps25
      go_wp2_with fail
      go_quiet (fail)
      go_wp2
      go_ret3
      exact ⟨rfl, _, rfl⟩

end Go.Proofs.Ytlkhaookdmgbnaa
