/-
  No cell of these rows narrows 'for every input' (looked for: loops, veiled, ifaces, maps, wideKeys, modest, calm, conditions, laid).
  DERIVED. THE GIVEN ROWS OF THIS SEAT. 5 by the template 'for every input the law returns true; each argument reads behind the call as it read before'; 0 by the template 'total and deterministic' (their statements: YtdbannnbbngckaaTotals.lean).
  GIVEN WITH THE SEED: the statements are not yours to turn. If you find one false, say at which input.
  Laid BY PROGRAM, IN A SANDBOX (cutbox-rows.mjs): the forced cells as the released guide's own fill.sh prints them over the translation 70e0cb6ea78d5af1… (all of the seat's roots in one cut). By AI agents, Wed Nov 11 2026. No macro, syntax, notation, axiom, sorry.
-/
import Derived.Test.YtdbannnbbngckaaChecked
import GoSem.Claim
import GoSem.ClaimJoined
import GoSem.ClaimMapViews
import Derived.JoinedTies
import Derived.KernelRfl
namespace Go.Proofs.Ytdbannnbbngckaa
/- THE CELL 'sum', in the pinned program and in every row, IS THE sha256 OF THE DUMP (.gsa) THAT YtdbannnbbngckaaProg.lean LOADS. Nothing in Lean hashes anything: it is a label: what it is worth is what the hold of that sum in a sandbox is worth. -/
noncomputable def Try.pinned : Pinned := { name := "ytdbannnbbngckaa", sum := "70e0cb6ea78d5af18108e0b52cbf4cfa8002c50d946d22df2b0b63becca79342", checked := Try.checked }
namespace Rows
def none {H : Type} : Left H := { results := [], args := [] }

/-- 'hustingslaw20.OrderNames': WHATEVER THE INPUT: true; the input reads as it did. -/
def orderNamesSpec : ChangeSpec := { name := "orderNames", fn := fun _ => fun
  | [] => { results := [.lit (.bool true)], args := [] }
  | _ => none }
def orderNamesRow : OpenClaim := { program := "ytdbannnbbngckaa", sum := "70e0cb6ea78d5af18108e0b52cbf4cfa8002c50d946d22df2b0b63becca79342", func := "hustings/hustingslaw20.OrderNames", spec := "orderNames", unfollowed := true, recurses := true, apart := false }
def OrderNamesSaid : Prop := orderNamesRow.holds Try.pinned (OpenSpec.ofChange orderNamesSpec)

/-- ITS FALSE NEIGHBOUR: 'it returns false'. Refute it at one input. -/
def orderNamesWrong : ChangeSpec := { name := "orderNames", fn := fun _ => fun
  | [] => { results := [.lit (.bool false)], args := [] }
  | _ => none }
def OrderNamesWrongFalsely : Prop := orderNamesRow.holds Try.pinned (OpenSpec.ofChange orderNamesWrong)

/-- 'hustingslaw20.OrderAlike': WHATEVER THE INPUT: true; the input reads as it did. -/
def orderAlikeSpec : ChangeSpec := { name := "orderAlike", fn := fun _ => fun
  | [d1, d2] => { results := [.lit (.bool true)], args := [d1, d2] }
  | _ => none }
def orderAlikeRow : OpenClaim := { program := "ytdbannnbbngckaa", sum := "70e0cb6ea78d5af18108e0b52cbf4cfa8002c50d946d22df2b0b63becca79342", func := "hustings/hustingslaw20.OrderAlike", spec := "orderAlike", unfollowed := true, recurses := true, apart := false }
def OrderAlikeSaid : Prop := orderAlikeRow.holds Try.pinned (OpenSpec.ofChange orderAlikeSpec)

/-- ITS FALSE NEIGHBOUR: 'it returns false'. Refute it at one input. -/
def orderAlikeWrong : ChangeSpec := { name := "orderAlike", fn := fun _ => fun
  | [d1, d2] => { results := [.lit (.bool false)], args := [d1, d2] }
  | _ => none }
def OrderAlikeWrongFalsely : Prop := orderAlikeRow.holds Try.pinned (OpenSpec.ofChange orderAlikeWrong)

/-- 'hustingslaw20.OrderTells': WHATEVER THE INPUT: true; the input reads as it did. -/
def orderTellsSpec : ChangeSpec := { name := "orderTells", fn := fun _ => fun
  | [d] => { results := [.lit (.bool true)], args := [d] }
  | _ => none }
def orderTellsRow : OpenClaim := { program := "ytdbannnbbngckaa", sum := "70e0cb6ea78d5af18108e0b52cbf4cfa8002c50d946d22df2b0b63becca79342", func := "hustings/hustingslaw20.OrderTells", spec := "orderTells", unfollowed := true, recurses := true, apart := false }
def OrderTellsSaid : Prop := orderTellsRow.holds Try.pinned (OpenSpec.ofChange orderTellsSpec)

/-- ITS FALSE NEIGHBOUR: 'it returns false'. Refute it at one input. -/
def orderTellsWrong : ChangeSpec := { name := "orderTells", fn := fun _ => fun
  | [d] => { results := [.lit (.bool false)], args := [d] }
  | _ => none }
def OrderTellsWrongFalsely : Prop := orderTellsRow.holds Try.pinned (OpenSpec.ofChange orderTellsWrong)

/-- 'hustingslaw20.OrderAgain': WHATEVER THE INPUT: true; the input reads as it did. -/
def orderAgainSpec : ChangeSpec := { name := "orderAgain", fn := fun _ => fun
  | [d] => { results := [.lit (.bool true)], args := [d] }
  | _ => none }
def orderAgainRow : OpenClaim := { program := "ytdbannnbbngckaa", sum := "70e0cb6ea78d5af18108e0b52cbf4cfa8002c50d946d22df2b0b63becca79342", func := "hustings/hustingslaw20.OrderAgain", spec := "orderAgain", unfollowed := true, recurses := true, apart := false }
def OrderAgainSaid : Prop := orderAgainRow.holds Try.pinned (OpenSpec.ofChange orderAgainSpec)

/-- ITS FALSE NEIGHBOUR: 'it returns false'. Refute it at one input. -/
def orderAgainWrong : ChangeSpec := { name := "orderAgain", fn := fun _ => fun
  | [d] => { results := [.lit (.bool false)], args := [d] }
  | _ => none }
def OrderAgainWrongFalsely : Prop := orderAgainRow.holds Try.pinned (OpenSpec.ofChange orderAgainWrong)

/-- 'hustingslaw20.OrderEach': WHATEVER THE INPUT: true; the input reads as it did. -/
def orderEachSpec : ChangeSpec := { name := "orderEach", fn := fun _ => fun
  | [d] => { results := [.lit (.bool true)], args := [d] }
  | _ => none }
def orderEachRow : OpenClaim := { program := "ytdbannnbbngckaa", sum := "70e0cb6ea78d5af18108e0b52cbf4cfa8002c50d946d22df2b0b63becca79342", func := "hustings/hustingslaw20.OrderEach", spec := "orderEach", unfollowed := true, recurses := true, apart := false }
def OrderEachSaid : Prop := orderEachRow.holds Try.pinned (OpenSpec.ofChange orderEachSpec)

/-- ITS FALSE NEIGHBOUR: 'it returns false'. Refute it at one input. -/
def orderEachWrong : ChangeSpec := { name := "orderEach", fn := fun _ => fun
  | [d] => { results := [.lit (.bool false)], args := [d] }
  | _ => none }
def OrderEachWrongFalsely : Prop := orderEachRow.holds Try.pinned (OpenSpec.ofChange orderEachWrong)

/- THE SECOND FORM. 'bulk': how many values and letters a reading holds, each counted each time it is reached (what is shared counts as often as it is met; a slice's spare places count too). A statement '..UptoSaid' is the law's where the arguments, and the package variables that the reading takes, are together of bulk at most 1048576: NARROWER than '..Said'. Prove '..Said' where nothing that the law and all that it calls make is longer than what came in: it says more and counts as full. Else prove '..UptoSaid'. A law counts once. -/
mutual
def uptoBulk {H : Type} : DataW H → Nat
  | .lit (.string bytes) => bytes.length + 1
  | .lit _ => 1
  | .nil => 1
  | .ptr d => uptoBulk d + 1
  | .slice elems spare => uptoBulkAll elems + uptoBulkAll spare + 1
  | .agg parts => uptoBulkAll parts + 1
  | .iface _ d => uptoBulk d + 1
  | .map entries => uptoBulkEntries entries + 1
  | .held _ => 1
def uptoBulkAll {H : Type} : List (DataW H) → Nat
  | [] => 0
  | d :: r => uptoBulk d + uptoBulkAll r
def uptoBulkEntries {H : Type} : List (Lit × DataW H) → Nat
  | [] => 0
  | x :: r => uptoBulkEntry x + uptoBulkEntries r
def uptoBulkEntry {H : Type} : Lit × DataW H → Nat
  | (.string bytes, d) => bytes.length + uptoBulk d + 1
  | (_, d) => uptoBulk d + 1
 end
def uptoSmall : (H : Type) → List (DataW H) → Bool := fun _ ds => decide (uptoBulkAll ds ≤ 1048576)
def OpenSpec.upto (s : _root_.Go.ChangeSpec) : _root_.Go.OpenSpec := { _root_.Go.OpenSpec.ofChange s with cond := some uptoSmall }

/-- 'hustingslaw20.OrderNames', WHERE WHAT IT READS IS OF BULK AT MOST 1048576: true; the input reads as it did. -/
def orderNamesUptoRow : OpenClaim := { program := "ytdbannnbbngckaa", sum := "70e0cb6ea78d5af18108e0b52cbf4cfa8002c50d946d22df2b0b63becca79342", func := "hustings/hustingslaw20.OrderNames", spec := "orderNames", unfollowed := true, recurses := true, apart := false, narrowed := true }
def OrderNamesUptoSaid : Prop := orderNamesUptoRow.holds Try.pinned (OpenSpec.upto orderNamesSpec)

/-- 'hustingslaw20.OrderAlike', WHERE WHAT IT READS IS OF BULK AT MOST 1048576: true; the input reads as it did. -/
def orderAlikeUptoRow : OpenClaim := { program := "ytdbannnbbngckaa", sum := "70e0cb6ea78d5af18108e0b52cbf4cfa8002c50d946d22df2b0b63becca79342", func := "hustings/hustingslaw20.OrderAlike", spec := "orderAlike", unfollowed := true, recurses := true, apart := false, narrowed := true }
def OrderAlikeUptoSaid : Prop := orderAlikeUptoRow.holds Try.pinned (OpenSpec.upto orderAlikeSpec)

/-- 'hustingslaw20.OrderTells', WHERE WHAT IT READS IS OF BULK AT MOST 1048576: true; the input reads as it did. -/
def orderTellsUptoRow : OpenClaim := { program := "ytdbannnbbngckaa", sum := "70e0cb6ea78d5af18108e0b52cbf4cfa8002c50d946d22df2b0b63becca79342", func := "hustings/hustingslaw20.OrderTells", spec := "orderTells", unfollowed := true, recurses := true, apart := false, narrowed := true }
def OrderTellsUptoSaid : Prop := orderTellsUptoRow.holds Try.pinned (OpenSpec.upto orderTellsSpec)

/-- 'hustingslaw20.OrderAgain', WHERE WHAT IT READS IS OF BULK AT MOST 1048576: true; the input reads as it did. -/
def orderAgainUptoRow : OpenClaim := { program := "ytdbannnbbngckaa", sum := "70e0cb6ea78d5af18108e0b52cbf4cfa8002c50d946d22df2b0b63becca79342", func := "hustings/hustingslaw20.OrderAgain", spec := "orderAgain", unfollowed := true, recurses := true, apart := false, narrowed := true }
def OrderAgainUptoSaid : Prop := orderAgainUptoRow.holds Try.pinned (OpenSpec.upto orderAgainSpec)

/-- 'hustingslaw20.OrderEach', WHERE WHAT IT READS IS OF BULK AT MOST 1048576: true; the input reads as it did. -/
def orderEachUptoRow : OpenClaim := { program := "ytdbannnbbngckaa", sum := "70e0cb6ea78d5af18108e0b52cbf4cfa8002c50d946d22df2b0b63becca79342", func := "hustings/hustingslaw20.OrderEach", spec := "orderEach", unfollowed := true, recurses := true, apart := false, narrowed := true }
def OrderEachUptoSaid : Prop := orderEachUptoRow.holds Try.pinned (OpenSpec.upto orderEachSpec)

end Rows
end Go.Proofs.Ytdbannnbbngckaa
