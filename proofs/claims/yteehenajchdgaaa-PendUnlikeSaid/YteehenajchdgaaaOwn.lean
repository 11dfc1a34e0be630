/- Rows of numbers of the call's own. -/
import Derived.Test.YteehenajchdgaaaChecked
import Derived.Test.YteehenajchdgaaaTools
namespace Go.Proofs.Yteehenajchdgaaa
open Go.RowKit

theorem Try.elemInt : (Try.prog.info? 3).map (fun i => (i.zero, i.size, i.bytes)) = some (some (.int .i64 0), 1, 8) := by kernel_rfl

def lenOf : Value → Nat | .slice _ n _ => n | _ => 0
theorem owns_len {w : World} {base : Nat} {t : TypeId} {sz : Nat} {v : Value} {n : Nat} {xs : List Value} (h : w.ownsRow base t sz v n xs) : ∃ a c, v = .slice a n c := by
  obtain ⟨_, h⟩ := h
  rcases h with ⟨rfl, rfl⟩ | ⟨g, cap, cur, rfl, _⟩
  · exact ⟨none, 0, rfl⟩
  · exact ⟨_, _, rfl⟩
theorem owns_block {w : World} {base : Nat} {t : TypeId} {sz : Nat} {v : Value} {n : Nat} {xs : List Value} (h : w.ownsRow base t sz v n xs) : ∀ k, v.ownBlock = some k → k ∈ ([] : List Nat) ∨ base ≤ k := by
  intro k hk
  obtain ⟨_, h⟩ := h
  rcases h with ⟨rfl, _⟩ | ⟨g, cap, cur, rfl, hg, _⟩
  · simp [Value.ownBlock] at hk
  · simp [Value.ownBlock] at hk; exact .inr (by omega)
theorem owns_blockS {S : List Nat} {w : World} {base B : Nat} {t : TypeId} {sz : Nat} {v : Value} {n : Nat} {xs : List Value} (h : w.ownsRow base t sz v n xs) (hB : B ≤ base) : ∀ k, v.ownBlock = some k → k ∈ S ∨ B ≤ k := by
  intro k hk
  rcases owns_block h k hk with hh | hh
  · simp at hh
  · exact .inr (by omega)

/-- The slice v is a row of the call's own that reads as l. -/
abbrev OwnI (base : Nat) (w : World) (v : Value) (l : List Nat) : Prop := w.ownsRow base 3 1 v l.length (l.map fun (x : Nat) => Value.int .i64 x)

/-- A row of the call's own, where only other blocks changed. -/
theorem owns_chg {S : List Nat} {w w' : World} {base : Nat} {t : TypeId} {sz : Nat} {v : Value} {n : Nat} {xs : List Value} (h : w.ownsRow base t sz v n xs) (hc : Chg S w w') (hS : ∀ x ∈ S, x < base) : w'.ownsRow base t sz v n xs := by
  obtain ⟨h0, h⟩ := h
  refine ⟨h0, ?_⟩
  rcases h with hh | ⟨g, cap, cur, hv, hg, hb, h1, h2, h3, h4⟩
  · exact .inl hh
  · exact .inr ⟨g, cap, cur, hv, hg, hc.keep hb (fun hx => by have := hS g hx; omega), h1, h2, h3, h4⟩

theorem OwnI.snoc {base : Nat} {w : World} {v : Value} {l : List Nat} {y : Nat} (h : w.ownsRow base 3 1 v (l.length + 1) (l.map (fun (x : Nat) => Value.int .i64 x) ++ [.int .i64 (y : Nat)])) : OwnI base w v (l ++ [y]) := by
  have e : (l ++ [y]).map (fun (x : Nat) => Value.int .i64 x) = l.map (fun (x : Nat) => Value.int .i64 x) ++ [.int .i64 (y : Nat)] := by simp
  unfold OwnI
  rw [e, List.length_append]
  exact h

end Go.Proofs.Yteehenajchdgaaa
