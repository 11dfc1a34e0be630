/- A row of the call's own that is written over, whatever is in it. -/
import Derived.Test.YtdbannnbbngckaaOwn
namespace Go.Proofs.Ytdbannnbbngckaa
open Go.RowKit

/-- A slice of n numbers of the call's own, whatever they are. -/
def RowAny (base : Nat) (w : World) (v : Value) (n : Nat) : Prop :=
  (v = .slice none 0 0 ∧ n = 0) ∨ ∃ g cap cur, v = .slice (some ⟨g, 0, none⟩) n cap ∧ base ≤ g ∧ w.heap[g]? = some (.cells cur 3 (0, 0)) ∧ n ≤ cur.size
theorem rowAny_of {base : Nat} {w : World} {v : Value} {l : List Nat} (h : OwnI base w v l) : RowAny base w v l.length := by
  obtain ⟨_, h⟩ := h
  rcases h with hh | ⟨g, cap, cur, hv, hg, hb, h1, h2, h3, h4⟩
  · exact .inl hh
  · exact .inr ⟨g, cap, cur, hv, hg, hb, by omega⟩
theorem RowAny.at {base : Nat} {w : World} {a : Option Addr} {n c : Nat} (h : RowAny base w (.slice a n c) n) {j : Nat} (hj : j < n) :
    ∃ g y, a = some ⟨g, 0, none⟩ ∧ base ≤ g ∧ w.cell? ⟨g, j, none⟩ = some y ∧ w.frozen? ⟨g, j, none⟩ = false ∧ ∀ v, RowAny base (w.setCell ⟨g, j, none⟩ v) (.slice a n c) n := by
  rcases h with ⟨_, hn⟩ | ⟨g, cap, cur, hv, hg, hb, h1⟩
  · omega
  · injection hv with hv1 hv2 hv3
    subst hv1
    refine ⟨g, cur[j]'(by omega), rfl, hg, (cell_of hb).trans (by simp), free_of hb, fun v => .inr ⟨g, c, cur.setIfInBounds j v, rfl, hg, heap_set hb v, by simpa using h1⟩⟩
theorem RowAny.chg {base : Nat} {w w' : World} {v : Value} {n : Nat} {S : List Nat} (h : RowAny base w v n) (hc : Chg S w w') (hS : ∀ x ∈ S, x < base) : RowAny base w' v n := by
  rcases h with hh | ⟨g, cap, cur, hv, hg, hb, h1⟩
  · exact .inl hh
  · exact .inr ⟨g, cap, cur, hv, hg, hc.keep hb (fun hx => by have := hS g hx; omega), h1⟩

end Go.Proofs.Ytdbannnbbngckaa
