/-
  No cell of these rows narrows 'for every input' (looked for: loops, veiled, ifaces, maps, wideKeys, modest, calm, conditions, laid).
  DERIVED. THE GIVEN ROWS OF THIS SEAT. 5 by the template 'for every input the law returns true; each argument reads behind the call as it read before'; 0 by the template 'total and deterministic' (their statements: YthaikobmelalgaaTotals.lean).
  GIVEN WITH THE SEED: the statements are not yours to turn. If you find one false, say at which input.
  Laid BY PROGRAM, IN A SANDBOX (cutbox-rows.mjs): the forced cells as the released guide's own fill.sh prints them over the translation c50aba34507c288b… (all of the seat's roots in one cut). By AI agents, Wed Nov 11 2026. No macro, syntax, notation, axiom, sorry.
-/
import Derived.Test.YthaikobmelalgaaChecked
import GoSem.Claim
import GoSem.ClaimJoined
import GoSem.ClaimMapViews
import Derived.JoinedTies
import Derived.KernelRfl
namespace Go.Proofs.Ythaikobmelalgaa
/- THE CELL 'sum', in the pinned program and in every row, IS THE sha256 OF THE DUMP (.gsa) THAT YthaikobmelalgaaProg.lean LOADS. Nothing in Lean hashes anything: it is a label: what it is worth is what the hold of that sum in a sandbox is worth. -/
noncomputable def Try.pinned : Pinned := { name := "ythaikobmelalgaa", sum := "c50aba34507c288be56df9470104b132bc73a5c31f09633ea2955aab79fa278b", checked := Try.checked }
namespace Rows
def none {H : Type} : Left H := { results := [], args := [] }

/-- 'hustingslaw13.SipTells': WHATEVER THE INPUT: true; the input reads as it did. -/
def sipTellsSpec : ChangeSpec := { name := "sipTells", fn := fun _ => fun
  | [d1, d2, d3] => { results := [.lit (.bool true)], args := [d1, d2, d3] }
  | _ => none }
def sipTellsRow : OpenClaim := { program := "ythaikobmelalgaa", sum := "c50aba34507c288be56df9470104b132bc73a5c31f09633ea2955aab79fa278b", func := "hustings/hustingslaw13.SipTells", spec := "sipTells", apart := false }
def SipTellsSaid : Prop := sipTellsRow.holds Try.pinned (OpenSpec.ofChange sipTellsSpec)

/-- ITS FALSE NEIGHBOUR: 'it returns false'. Refute it at one input. -/
def sipTellsWrong : ChangeSpec := { name := "sipTells", fn := fun _ => fun
  | [d1, d2, d3] => { results := [.lit (.bool false)], args := [d1, d2, d3] }
  | _ => none }
def SipTellsWrongFalsely : Prop := sipTellsRow.holds Try.pinned (OpenSpec.ofChange sipTellsWrong)

/-- 'hustingslaw13.SipParts': WHATEVER THE INPUT: true; the input reads as it did. -/
def sipPartsSpec : ChangeSpec := { name := "sipParts", fn := fun _ => fun
  | [d1, d2, d3] => { results := [.lit (.bool true)], args := [d1, d2, d3] }
  | _ => none }
def sipPartsRow : OpenClaim := { program := "ythaikobmelalgaa", sum := "c50aba34507c288be56df9470104b132bc73a5c31f09633ea2955aab79fa278b", func := "hustings/hustingslaw13.SipParts", spec := "sipParts", apart := false }
def SipPartsSaid : Prop := sipPartsRow.holds Try.pinned (OpenSpec.ofChange sipPartsSpec)

/-- ITS FALSE NEIGHBOUR: 'it returns false'. Refute it at one input. -/
def sipPartsWrong : ChangeSpec := { name := "sipParts", fn := fun _ => fun
  | [d1, d2, d3] => { results := [.lit (.bool false)], args := [d1, d2, d3] }
  | _ => none }
def SipPartsWrongFalsely : Prop := sipPartsRow.holds Try.pinned (OpenSpec.ofChange sipPartsWrong)

/-- 'hustingslaw13.SipNames': WHATEVER THE INPUT: true; the input reads as it did. -/
def sipNamesSpec : ChangeSpec := { name := "sipNames", fn := fun _ => fun
  | [] => { results := [.lit (.bool true)], args := [] }
  | _ => none }
def sipNamesRow : OpenClaim := { program := "ythaikobmelalgaa", sum := "c50aba34507c288be56df9470104b132bc73a5c31f09633ea2955aab79fa278b", func := "hustings/hustingslaw13.SipNames", spec := "sipNames", apart := false }
def SipNamesSaid : Prop := sipNamesRow.holds Try.pinned (OpenSpec.ofChange sipNamesSpec)

/-- ITS FALSE NEIGHBOUR: 'it returns false'. Refute it at one input. -/
def sipNamesWrong : ChangeSpec := { name := "sipNames", fn := fun _ => fun
  | [] => { results := [.lit (.bool false)], args := [] }
  | _ => none }
def SipNamesWrongFalsely : Prop := sipNamesRow.holds Try.pinned (OpenSpec.ofChange sipNamesWrong)

/-- 'hustingslaw13.SipPlays': WHATEVER THE INPUT: true; the input reads as it did. -/
def sipPlaysSpec : ChangeSpec := { name := "sipPlays", fn := fun _ => fun
  | [d1, d2, d3] => { results := [.lit (.bool true)], args := [d1, d2, d3] }
  | _ => none }
def sipPlaysRow : OpenClaim := { program := "ythaikobmelalgaa", sum := "c50aba34507c288be56df9470104b132bc73a5c31f09633ea2955aab79fa278b", func := "hustings/hustingslaw13.SipPlays", spec := "sipPlays", apart := false }
def SipPlaysSaid : Prop := sipPlaysRow.holds Try.pinned (OpenSpec.ofChange sipPlaysSpec)

/-- ITS FALSE NEIGHBOUR: 'it returns false'. Refute it at one input. -/
def sipPlaysWrong : ChangeSpec := { name := "sipPlays", fn := fun _ => fun
  | [d1, d2, d3] => { results := [.lit (.bool false)], args := [d1, d2, d3] }
  | _ => none }
def SipPlaysWrongFalsely : Prop := sipPlaysRow.holds Try.pinned (OpenSpec.ofChange sipPlaysWrong)

/-- 'hustingslaw13.SipOn': WHATEVER THE INPUT: true; the input reads as it did. -/
def sipOnSpec : ChangeSpec := { name := "sipOn", fn := fun _ => fun
  | [d1, d2, d3, d4] => { results := [.lit (.bool true)], args := [d1, d2, d3, d4] }
  | _ => none }
def sipOnRow : OpenClaim := { program := "ythaikobmelalgaa", sum := "c50aba34507c288be56df9470104b132bc73a5c31f09633ea2955aab79fa278b", func := "hustings/hustingslaw13.SipOn", spec := "sipOn", apart := false }
def SipOnSaid : Prop := sipOnRow.holds Try.pinned (OpenSpec.ofChange sipOnSpec)

/-- ITS FALSE NEIGHBOUR: 'it returns false'. Refute it at one input. -/
def sipOnWrong : ChangeSpec := { name := "sipOn", fn := fun _ => fun
  | [d1, d2, d3, d4] => { results := [.lit (.bool false)], args := [d1, d2, d3, d4] }
  | _ => none }
def SipOnWrongFalsely : Prop := sipOnRow.holds Try.pinned (OpenSpec.ofChange sipOnWrong)

/- THE SECOND FORM. 'bulk': how many values and letters a reading holds, each counted each time it is reached (what is shared counts as often as it is met; a slice's spare places count too). A statement '..UptoSaid' is the law's where the arguments, and the package variables that the reading takes, are together of bulk at most 1048576: NARROWER than '..Said'. Prove '..Said' where nothing that the law and all that it calls make is longer than what came in: it says more and counts as full. Else prove '..UptoSaid'. A law counts once. -/
mutual
def uptoBulk {H : Type} : DataW H → Nat
  | .lit (.string bytes) => bytes.length + 1
  | .lit _ => 1
  | .nil => 1
  | .ptr d => uptoBulk d + 1
  | .slice elems spare => uptoBulkAll elems + uptoBulkAll spare + 1
  | .agg parts => uptoBulkAll parts + 1
  | .iface _ d => uptoBulk d + 1
  | .map entries => uptoBulkEntries entries + 1
  | .held _ => 1
def uptoBulkAll {H : Type} : List (DataW H) → Nat
  | [] => 0
  | d :: r => uptoBulk d + uptoBulkAll r
def uptoBulkEntries {H : Type} : List (Lit × DataW H) → Nat
  | [] => 0
  | x :: r => uptoBulkEntry x + uptoBulkEntries r
def uptoBulkEntry {H : Type} : Lit × DataW H → Nat
  | (.string bytes, d) => bytes.length + uptoBulk d + 1
  | (_, d) => uptoBulk d + 1
 end
def uptoSmall : (H : Type) → List (DataW H) → Bool := fun _ ds => decide (uptoBulkAll ds ≤ 1048576)
def OpenSpec.upto (s : _root_.Go.ChangeSpec) : _root_.Go.OpenSpec := { _root_.Go.OpenSpec.ofChange s with cond := some uptoSmall }

/-- 'hustingslaw13.SipTells', WHERE WHAT IT READS IS OF BULK AT MOST 1048576: true; the input reads as it did. -/
def sipTellsUptoRow : OpenClaim := { program := "ythaikobmelalgaa", sum := "c50aba34507c288be56df9470104b132bc73a5c31f09633ea2955aab79fa278b", func := "hustings/hustingslaw13.SipTells", spec := "sipTells", apart := false, narrowed := true }
def SipTellsUptoSaid : Prop := sipTellsUptoRow.holds Try.pinned (OpenSpec.upto sipTellsSpec)

/-- 'hustingslaw13.SipParts', WHERE WHAT IT READS IS OF BULK AT MOST 1048576: true; the input reads as it did. -/
def sipPartsUptoRow : OpenClaim := { program := "ythaikobmelalgaa", sum := "c50aba34507c288be56df9470104b132bc73a5c31f09633ea2955aab79fa278b", func := "hustings/hustingslaw13.SipParts", spec := "sipParts", apart := false, narrowed := true }
def SipPartsUptoSaid : Prop := sipPartsUptoRow.holds Try.pinned (OpenSpec.upto sipPartsSpec)

/-- 'hustingslaw13.SipNames', WHERE WHAT IT READS IS OF BULK AT MOST 1048576: true; the input reads as it did. -/
def sipNamesUptoRow : OpenClaim := { program := "ythaikobmelalgaa", sum := "c50aba34507c288be56df9470104b132bc73a5c31f09633ea2955aab79fa278b", func := "hustings/hustingslaw13.SipNames", spec := "sipNames", apart := false, narrowed := true }
def SipNamesUptoSaid : Prop := sipNamesUptoRow.holds Try.pinned (OpenSpec.upto sipNamesSpec)

/-- 'hustingslaw13.SipPlays', WHERE WHAT IT READS IS OF BULK AT MOST 1048576: true; the input reads as it did. -/
def sipPlaysUptoRow : OpenClaim := { program := "ythaikobmelalgaa", sum := "c50aba34507c288be56df9470104b132bc73a5c31f09633ea2955aab79fa278b", func := "hustings/hustingslaw13.SipPlays", spec := "sipPlays", apart := false, narrowed := true }
def SipPlaysUptoSaid : Prop := sipPlaysUptoRow.holds Try.pinned (OpenSpec.upto sipPlaysSpec)

/-- 'hustingslaw13.SipOn', WHERE WHAT IT READS IS OF BULK AT MOST 1048576: true; the input reads as it did. -/
def sipOnUptoRow : OpenClaim := { program := "ythaikobmelalgaa", sum := "c50aba34507c288be56df9470104b132bc73a5c31f09633ea2955aab79fa278b", func := "hustings/hustingslaw13.SipOn", spec := "sipOn", apart := false, narrowed := true }
def SipOnUptoSaid : Prop := sipOnUptoRow.holds Try.pinned (OpenSpec.upto sipOnSpec)

end Rows
end Go.Proofs.Ythaikobmelalgaa
