/- The walk of the document's list: Copy. -/
import Derived.Test.YtjnipcalncpimaaRef15
namespace Go.Proofs.Ytjnipcalncpimaa
open Go.RowKit

/-- What append reads of a row of the call's own. -/
theorem own_src {base : Nat} {w : World} {a : Option Addr} {c : Nat} {l : List Nat} (h : OwnI base w (.slice a l.length c) l) :
    (a = none → c = 0) ∧ ((l.map fun (x : Nat) => Value.int .i64 x) ≠ [] → a ≠ none) ∧ ∀ p, a = some p → ∀ j u, (l.map fun (x : Nat) => Value.int .i64 x)[j]? = some u → w.cell? (p.add j) = some u := by
  have hnil := owns_nil h
  refine ⟨hnil.1, fun hh => hnil.2 (fun h0 => hh (by rw [List.length_eq_zero_iff.1 h0]; rfl)), fun p hp => ?_⟩
  intro j u hu
  have hj : j < l.length := by
    rcases Nat.lt_or_ge j l.length with h | h
    · exact h
    · simp [List.getElem?_eq_none (by simpa using h)] at hu
  rcases row_of_own h with ⟨he, _⟩ | ⟨r, c', hv, hx⟩
  · rw [he] at hj; simp at hj
  · injection hv with hv1 hv2 hv3
    rw [hp] at hv1
    cases hv1
    rw [add_at, Nat.zero_add, hx j hj]
    simp [hj] at hu
    rw [hu]
theorem one_ints {l : List Nat} : ∀ u ∈ (l.map fun (x : Nat) => Value.int .i64 x), u.oneCell' = true := by
  intro u hu
  simp at hu
  obtain ⟨x, _, rfl⟩ := hu
  rfl

set_option maxHeartbeats 2000000 in
theorem rcopy_any (base q n : Nat) (row : List Nat) (w : World) (h : RefL base w q n row) (hbase : base ≤ w.heap.size) :
    Calls Try.prog 24 #[.pointer (some ⟨q, 0, none⟩)] w fun e w' => ∃ q', e = .returned (.pointer (some ⟨q', 0, none⟩)) ∧ w.heap.size ≤ q' ∧ RefL base w' q' n row ∧ Chg [] w w' := by
  obtain ⟨hl, v, h1, hown⟩ := h
  obtain ⟨av, cv, rfl⟩ := owns_len hown
  have k0 : w.cell? ⟨q, 0, none⟩ = some (.int .i64 n) := cell_of h1
  have k1 : w.cell? ⟨q, 0 + 1, none⟩ = some (.slice av row.length cv) := cell_of h1
  have hq := lt_of_block h1
  obtain ⟨i0, hi0, hz0, hz1, hz2⟩ := info_parts Try.elemInt
  have hnew := owns_none w 3
  have hsrc := own_src (owns_keep hown ((Chg.refl [] w).alloc (.cells #[] 3)) (by simp))
  have HNEW := Lib.hid hnew
  have HSRC := Lib.hid hsrc
  clear h1 hown hnew hsrc
  have hm : row.length ≤ maxLen := by unfold maxLen; omega
  have HM := Lib.hid hm
  clear hm
  go_enter Try.func24, Try.ntmps24
  go_wp2
  go_region_law (refine step_append_src rfl (.tmp 7) (.tmp 11) 27 rfl w.heap.size 3 i0 (.int .i64 0) 1 8 Try.underlying27 hi0 hz0 hz1 hz2 rfl (by decide) (.slice (some ⟨w.heap.size, 0, none⟩) 0 0) 0 [] rfl HNEW.out av row.length cv (row.map fun (x : Nat) => Value.int .i64 x) rfl HSRC.out.1 HSRC.out.2.1 (by simp) HSRC.out.2.2 one_ints (by have := HM.out; omega) (by omega) (by simp) ?_; intro v1 w1 hown1 hg1 _; obtain ⟨a1, c1, rfl⟩ := owns_len hown1; have hc1 : Chg [] w w1 := (((Chg.refl [] w).alloc (.cells #[] 3)).drew).grown hg1 (fun k hk => by injection hk with hk; subst hk; exact .inr (Nat.le_refl _)); have k0' := hc1.cell k0 (by simp); have k1' := hc1.cell k1 (by simp))
  all_goals
    go_wp2
    go_ret
    have g : OwnI w.heap.size w1 (.slice a1 row.length c1) row := by simpa using hown1
    exact ⟨_, rfl, hc1.size, ⟨hl, _, heap_new _ _, owns_base (owns_keep g ((Chg.refl [] w1).alloc _) (by simp)) hbase⟩, hc1.alloc _⟩

end Go.Proofs.Ytjnipcalncpimaa
