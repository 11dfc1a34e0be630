/-
  No cell of these rows narrows 'for every input' (looked for: loops, veiled, ifaces, maps, wideKeys, modest, calm, conditions, laid).
  DERIVED. THE GIVEN ROWS OF THIS SEAT. 6 by the template 'for every input the law returns true; each argument reads behind the call as it read before'; 0 by the template 'total and deterministic' (their statements: YtopkbchjlifflaaTotals.lean).
  GIVEN WITH THE SEED: the statements are not yours to turn. If you find one false, say at which input.
  Laid BY PROGRAM, IN A SANDBOX (cutbox-rows.mjs): the forced cells as the released guide's own fill.sh prints them over the translation 8312698eb6ca2daf… (all of the seat's roots in one cut). By AI agents, Wed Nov 11 2026. No macro, syntax, notation, axiom, sorry.
-/
import Derived.Test.YtopkbchjlifflaaChecked
import GoSem.Claim
import GoSem.ClaimJoined
import GoSem.ClaimMapViews
import Derived.JoinedTies
import Derived.KernelRfl
namespace Go.Proofs.Ytopkbchjlifflaa
/- THE CELL 'sum', in the pinned program and in every row, IS THE sha256 OF THE DUMP (.gsa) THAT YtopkbchjlifflaaProg.lean LOADS. Nothing in Lean hashes anything: it is a label: what it is worth is what the hold of that sum in a sandbox is worth. -/
noncomputable def Try.pinned : Pinned := { name := "ytopkbchjlifflaa", sum := "8312698eb6ca2dafa032f718b66a7b895d3a280278e417249d16079d3f6b81a0", checked := Try.checked }
namespace Rows
def none {H : Type} : Left H := { results := [], args := [] }

/-- 'hustingslaw27.FlightRow': WHATEVER THE INPUT: true; the input reads as it did. -/
def flightRowSpec : ChangeSpec := { name := "flightRow", fn := fun _ => fun
  | [d1, d2, d3, d4, d5, d6] => { results := [.lit (.bool true)], args := [d1, d2, d3, d4, d5, d6] }
  | _ => none }
def flightRowRow : OpenClaim := { program := "ytopkbchjlifflaa", sum := "8312698eb6ca2dafa032f718b66a7b895d3a280278e417249d16079d3f6b81a0", func := "hustings/hustingslaw27.FlightRow", spec := "flightRow", plainKeys := false, apart := false }
def FlightRowSaid : Prop := flightRowRow.holds Try.pinned (OpenSpec.ofChange flightRowSpec)

/-- ITS FALSE NEIGHBOUR: 'it returns false'. Refute it at one input. -/
def flightRowWrong : ChangeSpec := { name := "flightRow", fn := fun _ => fun
  | [d1, d2, d3, d4, d5, d6] => { results := [.lit (.bool false)], args := [d1, d2, d3, d4, d5, d6] }
  | _ => none }
def FlightRowWrongFalsely : Prop := flightRowRow.holds Try.pinned (OpenSpec.ofChange flightRowWrong)

/-- 'hustingslaw27.FlightAgain': WHATEVER THE INPUT: true; the input reads as it did. -/
def flightAgainSpec : ChangeSpec := { name := "flightAgain", fn := fun _ => fun
  | [d1, d2, d3, d4] => { results := [.lit (.bool true)], args := [d1, d2, d3, d4] }
  | _ => none }
def flightAgainRow : OpenClaim := { program := "ytopkbchjlifflaa", sum := "8312698eb6ca2dafa032f718b66a7b895d3a280278e417249d16079d3f6b81a0", func := "hustings/hustingslaw27.FlightAgain", spec := "flightAgain", plainKeys := false, apart := false }
def FlightAgainSaid : Prop := flightAgainRow.holds Try.pinned (OpenSpec.ofChange flightAgainSpec)

/-- ITS FALSE NEIGHBOUR: 'it returns false'. Refute it at one input. -/
def flightAgainWrong : ChangeSpec := { name := "flightAgain", fn := fun _ => fun
  | [d1, d2, d3, d4] => { results := [.lit (.bool false)], args := [d1, d2, d3, d4] }
  | _ => none }
def FlightAgainWrongFalsely : Prop := flightAgainRow.holds Try.pinned (OpenSpec.ofChange flightAgainWrong)

/-- 'hustingslaw27.FlightApart': WHATEVER THE INPUT: true; the input reads as it did. -/
def flightApartSpec : ChangeSpec := { name := "flightApart", fn := fun _ => fun
  | [d1, d2, d3, d4] => { results := [.lit (.bool true)], args := [d1, d2, d3, d4] }
  | _ => none }
def flightApartRow : OpenClaim := { program := "ytopkbchjlifflaa", sum := "8312698eb6ca2dafa032f718b66a7b895d3a280278e417249d16079d3f6b81a0", func := "hustings/hustingslaw27.FlightApart", spec := "flightApart", inPlace := ["maps.clone"], plainKeys := false, apart := false }
def FlightApartSaid : Prop := flightApartRow.holds Try.pinned (OpenSpec.ofChange flightApartSpec)

/-- ITS FALSE NEIGHBOUR: 'it returns false'. Refute it at one input. -/
def flightApartWrong : ChangeSpec := { name := "flightApart", fn := fun _ => fun
  | [d1, d2, d3, d4] => { results := [.lit (.bool false)], args := [d1, d2, d3, d4] }
  | _ => none }
def FlightApartWrongFalsely : Prop := flightApartRow.holds Try.pinned (OpenSpec.ofChange flightApartWrong)

/-- 'hustingslaw27.FlightNames': WHATEVER THE INPUT: true; the input reads as it did. -/
def flightNamesSpec : ChangeSpec := { name := "flightNames", fn := fun _ => fun
  | [] => { results := [.lit (.bool true)], args := [] }
  | _ => none }
def flightNamesRow : OpenClaim := { program := "ytopkbchjlifflaa", sum := "8312698eb6ca2dafa032f718b66a7b895d3a280278e417249d16079d3f6b81a0", func := "hustings/hustingslaw27.FlightNames", spec := "flightNames", inPlace := ["maps.clone"], plainKeys := false, apart := false }
def FlightNamesSaid : Prop := flightNamesRow.holds Try.pinned (OpenSpec.ofChange flightNamesSpec)

/-- ITS FALSE NEIGHBOUR: 'it returns false'. Refute it at one input. -/
def flightNamesWrong : ChangeSpec := { name := "flightNames", fn := fun _ => fun
  | [] => { results := [.lit (.bool false)], args := [] }
  | _ => none }
def FlightNamesWrongFalsely : Prop := flightNamesRow.holds Try.pinned (OpenSpec.ofChange flightNamesWrong)

/-- 'hustingslaw27.FlightPlays': WHATEVER THE INPUT: true; the input reads as it did. -/
def flightPlaysSpec : ChangeSpec := { name := "flightPlays", fn := fun _ => fun
  | [d1, d2, d3] => { results := [.lit (.bool true)], args := [d1, d2, d3] }
  | _ => none }
def flightPlaysRow : OpenClaim := { program := "ytopkbchjlifflaa", sum := "8312698eb6ca2dafa032f718b66a7b895d3a280278e417249d16079d3f6b81a0", func := "hustings/hustingslaw27.FlightPlays", spec := "flightPlays", inPlace := ["maps.clone"], plainKeys := false, apart := false }
def FlightPlaysSaid : Prop := flightPlaysRow.holds Try.pinned (OpenSpec.ofChange flightPlaysSpec)

/-- ITS FALSE NEIGHBOUR: 'it returns false'. Refute it at one input. -/
def flightPlaysWrong : ChangeSpec := { name := "flightPlays", fn := fun _ => fun
  | [d1, d2, d3] => { results := [.lit (.bool false)], args := [d1, d2, d3] }
  | _ => none }
def FlightPlaysWrongFalsely : Prop := flightPlaysRow.holds Try.pinned (OpenSpec.ofChange flightPlaysWrong)

/-- 'hustingslaw27.FlightOne': WHATEVER THE INPUT: true; the input reads as it did. -/
def flightOneSpec : ChangeSpec := { name := "flightOne", fn := fun _ => fun
  | [d1, d2, d3, d4] => { results := [.lit (.bool true)], args := [d1, d2, d3, d4] }
  | _ => none }
def flightOneRow : OpenClaim := { program := "ytopkbchjlifflaa", sum := "8312698eb6ca2dafa032f718b66a7b895d3a280278e417249d16079d3f6b81a0", func := "hustings/hustingslaw27.FlightOne", spec := "flightOne", inPlace := ["maps.clone"], plainKeys := false, apart := false }
def FlightOneSaid : Prop := flightOneRow.holds Try.pinned (OpenSpec.ofChange flightOneSpec)

/-- ITS FALSE NEIGHBOUR: 'it returns false'. Refute it at one input. -/
def flightOneWrong : ChangeSpec := { name := "flightOne", fn := fun _ => fun
  | [d1, d2, d3, d4] => { results := [.lit (.bool false)], args := [d1, d2, d3, d4] }
  | _ => none }
def FlightOneWrongFalsely : Prop := flightOneRow.holds Try.pinned (OpenSpec.ofChange flightOneWrong)

/- THE SECOND FORM. 'bulk': how many values and letters a reading holds, each counted each time it is reached (what is shared counts as often as it is met; a slice's spare places count too). A statement '..UptoSaid' is the law's where the arguments, and the package variables that the reading takes, are together of bulk at most 1048576: NARROWER than '..Said'. Prove '..Said' where nothing that the law and all that it calls make is longer than what came in: it says more and counts as full. Else prove '..UptoSaid'. A law counts once. -/
mutual
def uptoBulk {H : Type} : DataW H → Nat
  | .lit (.string bytes) => bytes.length + 1
  | .lit _ => 1
  | .nil => 1
  | .ptr d => uptoBulk d + 1
  | .slice elems spare => uptoBulkAll elems + uptoBulkAll spare + 1
  | .agg parts => uptoBulkAll parts + 1
  | .iface _ d => uptoBulk d + 1
  | .map entries => uptoBulkEntries entries + 1
  | .held _ => 1
def uptoBulkAll {H : Type} : List (DataW H) → Nat
  | [] => 0
  | d :: r => uptoBulk d + uptoBulkAll r
def uptoBulkEntries {H : Type} : List (Lit × DataW H) → Nat
  | [] => 0
  | x :: r => uptoBulkEntry x + uptoBulkEntries r
def uptoBulkEntry {H : Type} : Lit × DataW H → Nat
  | (.string bytes, d) => bytes.length + uptoBulk d + 1
  | (_, d) => uptoBulk d + 1
 end
def uptoSmall : (H : Type) → List (DataW H) → Bool := fun _ ds => decide (uptoBulkAll ds ≤ 1048576)
def OpenSpec.upto (s : _root_.Go.ChangeSpec) : _root_.Go.OpenSpec := { _root_.Go.OpenSpec.ofChange s with cond := some uptoSmall }

/-- 'hustingslaw27.FlightRow', WHERE WHAT IT READS IS OF BULK AT MOST 1048576: true; the input reads as it did. -/
def flightRowUptoRow : OpenClaim := { program := "ytopkbchjlifflaa", sum := "8312698eb6ca2dafa032f718b66a7b895d3a280278e417249d16079d3f6b81a0", func := "hustings/hustingslaw27.FlightRow", spec := "flightRow", plainKeys := false, apart := false, narrowed := true }
def FlightRowUptoSaid : Prop := flightRowUptoRow.holds Try.pinned (OpenSpec.upto flightRowSpec)

/-- 'hustingslaw27.FlightAgain', WHERE WHAT IT READS IS OF BULK AT MOST 1048576: true; the input reads as it did. -/
def flightAgainUptoRow : OpenClaim := { program := "ytopkbchjlifflaa", sum := "8312698eb6ca2dafa032f718b66a7b895d3a280278e417249d16079d3f6b81a0", func := "hustings/hustingslaw27.FlightAgain", spec := "flightAgain", plainKeys := false, apart := false, narrowed := true }
def FlightAgainUptoSaid : Prop := flightAgainUptoRow.holds Try.pinned (OpenSpec.upto flightAgainSpec)

/-- 'hustingslaw27.FlightApart', WHERE WHAT IT READS IS OF BULK AT MOST 1048576: true; the input reads as it did. -/
def flightApartUptoRow : OpenClaim := { program := "ytopkbchjlifflaa", sum := "8312698eb6ca2dafa032f718b66a7b895d3a280278e417249d16079d3f6b81a0", func := "hustings/hustingslaw27.FlightApart", spec := "flightApart", inPlace := ["maps.clone"], plainKeys := false, apart := false, narrowed := true }
def FlightApartUptoSaid : Prop := flightApartUptoRow.holds Try.pinned (OpenSpec.upto flightApartSpec)

/-- 'hustingslaw27.FlightNames', WHERE WHAT IT READS IS OF BULK AT MOST 1048576: true; the input reads as it did. -/
def flightNamesUptoRow : OpenClaim := { program := "ytopkbchjlifflaa", sum := "8312698eb6ca2dafa032f718b66a7b895d3a280278e417249d16079d3f6b81a0", func := "hustings/hustingslaw27.FlightNames", spec := "flightNames", inPlace := ["maps.clone"], plainKeys := false, apart := false, narrowed := true }
def FlightNamesUptoSaid : Prop := flightNamesUptoRow.holds Try.pinned (OpenSpec.upto flightNamesSpec)

/-- 'hustingslaw27.FlightPlays', WHERE WHAT IT READS IS OF BULK AT MOST 1048576: true; the input reads as it did. -/
def flightPlaysUptoRow : OpenClaim := { program := "ytopkbchjlifflaa", sum := "8312698eb6ca2dafa032f718b66a7b895d3a280278e417249d16079d3f6b81a0", func := "hustings/hustingslaw27.FlightPlays", spec := "flightPlays", inPlace := ["maps.clone"], plainKeys := false, apart := false, narrowed := true }
def FlightPlaysUptoSaid : Prop := flightPlaysUptoRow.holds Try.pinned (OpenSpec.upto flightPlaysSpec)

/-- 'hustingslaw27.FlightOne', WHERE WHAT IT READS IS OF BULK AT MOST 1048576: true; the input reads as it did. -/
def flightOneUptoRow : OpenClaim := { program := "ytopkbchjlifflaa", sum := "8312698eb6ca2dafa032f718b66a7b895d3a280278e417249d16079d3f6b81a0", func := "hustings/hustingslaw27.FlightOne", spec := "flightOne", inPlace := ["maps.clone"], plainKeys := false, apart := false, narrowed := true }
def FlightOneUptoSaid : Prop := flightOneUptoRow.holds Try.pinned (OpenSpec.upto flightOneSpec)

end Rows
end Go.Proofs.Ytopkbchjlifflaa
