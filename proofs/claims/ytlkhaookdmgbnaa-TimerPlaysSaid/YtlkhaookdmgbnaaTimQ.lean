/- Timers that were made since: Put, Due, Next, At, Len, Drop, as one calls them; nobody's timers. -/
import Derived.Test.YtlkhaookdmgbnaaTimO
namespace Go.Proofs.Ytlkhaookdmgbnaa
open Go.RowKit

/-- Timers that were made behind the world w0, of which nothing has changed. -/
def TB (w0 wr : World) (tb : Nat) (L : List It) (p : Nat) : Prop := ∃ F, TimersAt wr tb F L p ∧ (∀ y ∈ F, w0.heap.size ≤ y) ∧ w0.heap.size ≤ tb ∧ Chg [] w0 wr
theorem TB.chg {w0 w : World} {tb p : Nat} {L : List It} (h : TB w0 w tb L p) : Chg [] w0 w := by obtain ⟨F, _, _, _, h⟩ := h; exact h
theorem TB.same {w0 w w' : World} {tb p : Nat} {L : List It} (h : TB w0 w tb L p) (hc : Chg [] w w') : TB w0 w' tb L p := by
  obtain ⟨F, h1, h2, h3, h4⟩ := h
  exact ⟨F, h1.same hc, h2, h3, h4.trans hc⟩
theorem TB.new {w0 w : World} (hc : Chg [] w0 w) : TB w0 (w.alloc (.cells #[.map none, .slice none 0 0, .int .u64 0] 62)) w.heap.size [] 0 :=
  ⟨[], new_at w, by simp, hc.size, hc.alloc _⟩
theorem new_t (w0 w : World) (hc : Chg [] w0 w) :
    Calls Try.prog 20 #[] w fun e w' => ∃ tb, e = .returned (.pointer (some ⟨tb, 0, none⟩)) ∧ TB w0 w' tb [] 0 := by
  refine (new_any w).mono ?_
  rintro e w' ⟨rfl, rfl⟩
  exact ⟨w.heap.size, rfl, TB.new hc⟩
theorem put_t (w0 : World) (tb : Nat) (L : List It) (p : Nat) (id due : Int) (w : World) (h : TB w0 w tb L p) (hid : InI id) (hdue : InI due) (hp : p ≤ 1000000) :
    Calls Try.prog 17 #[.pointer (some ⟨tb, 0, none⟩), .int .i64 id, .int .i64 due] w fun e w' => e = .returned (.int .i64 0) ∧ TB w0 w' tb (putL L id due (p + 1)) (p + 1) := by
  obtain ⟨F, h1, h2, h3, h4⟩ := h
  refine (put_any tb F L p id due w h1 hid hdue hp).mono ?_
  rintro e w' ⟨rfl, F', k1, k2, k3⟩
  refine ⟨rfl, F', k1, ?_, h3, ?_⟩
  · intro y hy
    rcases k2 y hy with e | e
    · exact h2 y e
    · have := h4.size; omega
  · refine h4.trans_new k3 ?_
    intro y hy
    rcases List.mem_cons.1 hy with e | e
    · right; omega
    · exact .inr (h2 y e)
theorem due_t (w0 : World) (tb : Nat) (L : List It) (p : Nat) (now : Int) (w : World) (h : TB w0 w tb L p) (hp : p ≤ 1000000) :
    Calls Try.prog 12 #[.pointer (some ⟨tb, 0, none⟩), .int .i64 now] w fun e w' => ∃ a c, e = .returned (.slice a (dueL L now).length c) ∧ RowZ .i64 w' (.slice a (dueL L now).length c) (dueL L now) ∧ TB w0 w' tb (restL L now) p := by
  obtain ⟨F, h1, h2, h3, h4⟩ := h
  refine (due_any tb F L p now w h1 hp).mono ?_
  rintro e w' ⟨v, rfl, k1, k2, k3⟩
  obtain ⟨a, c, rfl⟩ := owns_len k1
  refine ⟨a, c, rfl, k1.row, F, k2, h2, h3, ?_⟩
  refine h4.trans_new k3 ?_
  intro y hy
  rcases List.mem_cons.1 hy with e | e
  · right; omega
  · exact .inr (h2 y e)
theorem len_t (w0 : World) (tb : Nat) (L : List It) (p : Nat) (w : World) (h : TB w0 w tb L p) :
    Calls Try.prog 14 #[.pointer (some ⟨tb, 0, none⟩)] w fun e w' => e = .returned (.int .i64 L.length) ∧ w = w' := by
  obtain ⟨F, h1, _⟩ := h
  exact len_any tb F L p w h1
theorem next_t (w0 : World) (tb : Nat) (L : List It) (p : Nat) (x : It) (w : World) (h : TB w0 w tb L p) (hx : (sortL L).head? = some x) :
    Calls Try.prog 25 #[.pointer (some ⟨tb, 0, none⟩)] w fun e w' => e = .returned (.tuple #[.int .i64 x.id, .int .i64 x.due, .bool true]) ∧ Chg [] w w' := by
  obtain ⟨F, h1, _⟩ := h
  have hL : 0 < L.length := by
    cases L with
    | nil => simp [sortL] at hx
    | cons y l => simp
  obtain ⟨y, hy, hc⟩ := next_some tb F L p w h1 hL
  have e := min_head h1.ok.rise hy h1.ok.ids
  rw [e] at hx
  injection hx with hx
  subst hx
  refine hc.mono ?_
  rintro e w' ⟨rfl, n, rfl⟩
  exact ⟨rfl, (Chg.refl _ _).drewN n⟩
theorem next0_t (w0 : World) (tb p : Nat) (w : World) (h : TB w0 w tb [] p) :
    Calls Try.prog 25 #[.pointer (some ⟨tb, 0, none⟩)] w fun e w' => e = .returned (.tuple #[.int .i64 0, .int .i64 0, .bool false]) ∧ Chg [] w w' := by
  obtain ⟨F, h1, _⟩ := h
  refine (next_none tb F p w h1).mono ?_
  rintro e w' ⟨rfl, n, rfl⟩
  exact ⟨rfl, (Chg.refl _ _).drewN n⟩
theorem at0_t (w0 : World) (tb p : Nat) (L : List It) (id : Int) (w : World) (h : TB w0 w tb L p) (hi : InI id) (hx : ∀ x ∈ L, x.id ≠ id) :
    Calls Try.prog 16 #[.pointer (some ⟨tb, 0, none⟩), .int .i64 id] w fun e w' => e = .returned (.tuple #[.int .i64 0, .bool false]) ∧ w = w' := by
  obtain ⟨F, h1, _⟩ := h
  exact at_none tb F L p id w h1 hi hx
theorem drop0_t (w0 : World) (tb p : Nat) (L : List It) (id : Int) (w : World) (h : TB w0 w tb L p) (hi : InI id) (hx : ∀ x ∈ L, x.id ≠ id) :
    Calls Try.prog 18 #[.pointer (some ⟨tb, 0, none⟩), .int .i64 id] w fun e w' => e = .returned (.bool false) ∧ w = w' := by
  obtain ⟨F, h1, _⟩ := h
  exact drop_none tb F L p id w h1 hi hx
theorem intsz_c (v1 v2 : Value) (l1 l2 : List Int) (B : Bool) (hB : Hid (B = decide (l1 = l2))) (w : World) (h1 : RowZ .i64 w v1 l1) (h2 : RowZ .i64 w v2 l2) (hl : l1.length ≤ 1000000) (hl2 : l2.length ≤ 1000000) :
    Calls Try.prog 15 #[v1, v2] w fun e w' => e = .returned (.bool B) ∧ Chg [] w w' := by
  rw [hB.out]
  refine (intsz_any v1 v2 l1 l2 w h1 h2 hl hl2).mono ?_
  rintro e w' ⟨rfl, n, rfl⟩
  exact ⟨rfl, (Chg.refl _ _).drewN _⟩
theorem inI_of {k : Int} (h1 : -9223372036854775808 ≤ k) (h2 : k ≤ 9223372036854775807) : InI k := ⟨h1, h2⟩

theorem len_nil (w : World) : Calls Try.prog 14 #[.pointer none] w fun e w' => e = .returned (.int .i64 0) ∧ w = w' := by
  go_enter Try.func14, Try.ntmps14
  go_wp2
  go_ret
  exact ⟨rfl, rfl⟩
theorem next_nil (w : World) : Calls Try.prog 25 #[.pointer none] w fun e w' => e = .returned (.tuple #[.int .i64 0, .int .i64 0, .bool false]) ∧ w = w' := by
  go_enter Try.func25, Try.ntmps25
  go_wp2
  go_ret3
  exact ⟨rfl, rfl⟩
theorem at_nil (id : Int) (w : World) : Calls Try.prog 16 #[.pointer none, .int .i64 id] w fun e w' => e = .returned (.tuple #[.int .i64 0, .bool false]) ∧ w = w' := by
  go_enter Try.func16, Try.ntmps16
  go_wp2
  go_ret2
  exact ⟨rfl, rfl⟩
theorem drop_nil (id : Int) (w : World) : Calls Try.prog 18 #[.pointer none, .int .i64 id] w fun e w' => e = .returned (.bool false) ∧ w = w' := by
  go_enter Try.func18, Try.ntmps18
  go_wp2
  go_ret
  exact ⟨rfl, rfl⟩
theorem due_nil (now : Int) (w : World) : Calls Try.prog 12 #[.pointer none, .int .i64 now] w fun e w' => e = .returned (.slice none 0 0) ∧ w = w' := by
  go_enter Try.func12, Try.ntmps12
  go_wp2_with fail
  go_loopw [5] (fun v wr => v = .slice none 0 0 ∧ wr = w) (fun _ _ => 0)
  case atStart => exact ⟨rfl, rfl⟩
  case round =>
    obtain ⟨rfl, rfl⟩ := hrel
    go_wp2_with fail
    refine (next_nil _).mono ?_
    rintro e w1 ⟨rfl, rfl⟩
    go_wp2
    go_ret
    exact ⟨rfl, rfl⟩
theorem copy_nil (w : World) : Calls Try.prog 19 #[.pointer none] w fun e w' => e = .returned (.pointer none) ∧ w = w' := by
  go_enter Try.func19, Try.ntmps19
  go_wp2
  go_ret
  exact ⟨rfl, rfl⟩

end Go.Proofs.Ytlkhaookdmgbnaa
