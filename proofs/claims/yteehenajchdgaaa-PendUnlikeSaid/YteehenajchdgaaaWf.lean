/- Integers that came in, as natural numbers or with their bounds. -/
import Derived.OpenShut
namespace Go.Proofs.Yteehenajchdgaaa.D
open Go.RowKit

theorem nat_of_u64 {a : Int} (h : (Lit.int .u64 a).wf = true) : ∃ n : Nat, a = n ∧ n < 18446744073709551616 := by
  have := bounds_u64 h
  exact ⟨a.toNat, by omega, by omega⟩

end Go.Proofs.Yteehenajchdgaaa.D
