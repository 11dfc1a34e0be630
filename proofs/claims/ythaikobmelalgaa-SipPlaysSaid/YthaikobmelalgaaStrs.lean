/- A slice of strings that came in; a weight of sizes that bounds their sum. -/
import Derived.Test.YthaikobmelalgaaChecked
import Derived.Test.YthaikobmelalgaaRecs
import Derived.SliceStrings
namespace Go.Proofs.Ythaikobmelalgaa
open Go.ChangeShapes Go.WideShapes Go.Deep Go.RowKit

/-- A slice of strings, as a list. -/
def IsStrs (w : World) (a : Option Addr) (ss : List ByteArray) : Prop :=
  ss.length ≤ maxLen ∧ ∀ i (h : i < ss.length), ∃ b o, a = some ⟨b, o, none⟩ ∧ b < w.heap.size ∧ w.cell? ⟨b, o + i, none⟩ = some (.string ss[i]) ∧ ss[i].size ≤ maxLen

theorem open_strs {H : Type} {enc : TypeId × Value → H} {w : World} {r : Reach} {b0 base : Nat} {spare : Nat → Bool} {held : Bool} {v : Value} {d : DataW H} {p : List MemPlace}
    (hv : Value.okWide Try.prog w r b0 26 v) (h : DataW.Trod enc Try.prog w base spare held 26 v d p) :
    ∃ a cap ss, v = .slice a ss.length cap ∧ IsStrs w a ss := by
  obtain ⟨a, len, cap, rfl⟩ := okWide_slice Try.underlying26 hv
  obtain ⟨fuel, hf⟩ := h
  rcases open_strings Try.underlying26 Try.underlying9 (by kernel_rfl) hf with ⟨hcs, _⟩ | ⟨x, l, c, ss, hcs, _, hl, hm, hz, _, hcell, hwz⟩
  · simp [Value.cells] at hcs
    obtain ⟨rfl, rfl, rfl⟩ := hcs
    exact ⟨none, 0, [], rfl, by simp, fun i hi => absurd hi (by simp)⟩
  · simp [Value.cells] at hcs
    obtain ⟨rfl, rfl, rfl⟩ := hcs
    have hlen : len ≤ ss.length := by rw [hz]; split <;> omega
    have hl2 : (ss.take len).length = len := by simp; omega
    refine ⟨some x, cap, ss.take len, by rw [hl2], by rw [hl2]; omega, ?_⟩
    intro i hi
    have hi1 : i < len := by omega
    have hi2 : i < ss.length := by omega
    have h0 := hcell 0 (by omega)
    have hsp : x.spot = none := by have := no_spot h0; simpa [Addr.add] using this
    have hxe : x = ⟨x.block, x.off, none⟩ := by rw [← hsp]
    refine ⟨x.block, x.off, by rw [← hxe], ?_, ?_, ?_⟩
    · have := World.block_lt_of_cell? _ _ h0
      rwa [block_add] at this
    · have hc := hcell i hi2
      have e2 := add_flat x.block x.off i
      rw [← hxe] at e2
      rw [← e2, hc]
      simp [hi2]
    · rw [List.getElem_take]
      exact hwz _ (List.getElem_mem hi2)

/-- The weight of sizes: of each c and the size, at most q. -/
def wtN (c q : Nat) (l : List Nat) : Nat := (l.map fun x => c + min q x).sum

theorem wtN_take (c q : Nat) (l : List Nat) (j : Nat) (h : j < l.length) : wtN c q (l.take (j + 1)) = wtN c q (l.take j) + (c + min q l[j]) := by
  unfold wtN
  rw [List.take_succ_eq_append_getElem h]
  simp only [List.map_append, List.sum_append, List.map_cons, List.map_nil, List.sum_cons, List.sum_nil, Nat.add_zero]
theorem wtN_sum (c q : Nat) : ∀ (l : List Nat), wtN c q l < q → l.sum ≤ wtN c q l
  | [], _ => by simp
  | x :: l, h => by
    have e : wtN c q (x :: l) = (c + min q x) + wtN c q l := by simp [wtN]
    rw [e] at h ⊢
    have := wtN_sum c q l (by omega)
    simp only [List.sum_cons]
    omega
theorem sum_take_succ (l : List Nat) (j : Nat) (h : j < l.length) : (l.take (j + 1)).sum = (l.take j).sum + l[j] := by
  rw [List.take_succ_eq_append_getElem h]
  simp only [List.sum_append, List.sum_cons, List.sum_nil, Nat.add_zero]
theorem sum_take_le (l : List Nat) (j : Nat) : (l.take j).sum ≤ l.sum := by
  have := congrArg List.sum (List.take_append_drop j l)
  rw [List.sum_append] at this
  omega

end Go.Proofs.Ythaikobmelalgaa
