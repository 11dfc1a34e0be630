/- Slices of numbers that are read. -/
import Derived.Test.YteehenajchdgaaaDrawC
namespace Go.Proofs.Yteehenajchdgaaa.D
open Go.RowKit

theorem reads_row {k : IntKind} {w : World} {r c : Nat} {l : List Nat} (hc : ∀ i (h : i < l.length), w.cell? ⟨r, i, none⟩ = some (.int k (l[i] : Nat))) : Reads k w (.slice (some ⟨r, 0, none⟩) l.length c) l := by
  refine ⟨_, _, rfl, by simp, by simp, ?_⟩
  intro p hp i h
  cases hp
  have : (Addr.add ⟨r, 0, none⟩ i) = ⟨r, i, none⟩ := by unfold Addr.add; split <;> simp_all
  rw [this]; exact hc i h

theorem reads_nil {k : IntKind} {w : World} : Reads k w (.slice none 0 0) [] := ⟨none, 0, rfl, fun _ => rfl, fun h => absurd rfl h, fun p hp => by cases hp⟩

theorem reads_heap {k : IntKind} {w : World} {r c : Nat} {l : List Nat} {t : TypeId} {f : Nat × Nat} (h : w.heap[r]? = some (.cells (rowI k l) t f)) : Reads k w (.slice (some ⟨r, 0, none⟩) l.length c) l :=
  reads_row fun i hi => (cell_of h).trans (rowI_get k l i hi)

end Go.Proofs.Yteehenajchdgaaa.D
