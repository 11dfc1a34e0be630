/-
  No cell of these rows narrows 'for every input' (looked for: loops, veiled, ifaces, maps, wideKeys, modest, calm, conditions, laid).
  DERIVED. THE GIVEN ROWS OF THIS SEAT. 5 by the template 'for every input the law returns true; each argument reads behind the call as it read before'; 0 by the template 'total and deterministic' (their statements: YtgdnfempcjlipaaTotals.lean).
  GIVEN WITH THE SEED: the statements are not yours to turn. If you find one false, say at which input.
  Laid BY PROGRAM, IN A SANDBOX (cutbox-rows.mjs): the forced cells as the released guide's own fill.sh prints them over the translation 897831e86c24b254… (all of the seat's roots in one cut). By AI agents, Wed Nov 11 2026. No macro, syntax, notation, axiom, sorry.
-/
import Derived.Test.YtgdnfempcjlipaaChecked
import GoSem.Claim
import GoSem.ClaimJoined
import GoSem.ClaimMapViews
import Derived.JoinedTies
import Derived.KernelRfl
namespace Go.Proofs.Ytgdnfempcjlipaa
/- THE CELL 'sum', in the pinned program and in every row, IS THE sha256 OF THE DUMP (.gsa) THAT YtgdnfempcjlipaaProg.lean LOADS. Nothing in Lean hashes anything: it is a label: what it is worth is what the hold of that sum in a sandbox is worth. -/
noncomputable def Try.pinned : Pinned := { name := "ytgdnfempcjlipaa", sum := "897831e86c24b2542233d4b9b1e4bb126449abbbf76c624df42f474c7deef365", checked := Try.checked }
namespace Rows
def none {H : Type} : Left H := { results := [], args := [] }

/-- 'hustingslaw16.CacheSame': WHATEVER THE INPUT: true; the input reads as it did. -/
def cacheSameSpec : ChangeSpec := { name := "cacheSame", fn := fun _ => fun
  | [d1, d2, d3] => { results := [.lit (.bool true)], args := [d1, d2, d3] }
  | _ => none }
def cacheSameRow : OpenClaim := { program := "ytgdnfempcjlipaa", sum := "897831e86c24b2542233d4b9b1e4bb126449abbbf76c624df42f474c7deef365", func := "hustings/hustingslaw16.CacheSame", spec := "cacheSame", unfollowed := true, recurses := true, apart := false }
def CacheSameSaid : Prop := cacheSameRow.holds Try.pinned (OpenSpec.ofChange cacheSameSpec)

/-- ITS FALSE NEIGHBOUR: 'it returns false'. Refute it at one input. -/
def cacheSameWrong : ChangeSpec := { name := "cacheSame", fn := fun _ => fun
  | [d1, d2, d3] => { results := [.lit (.bool false)], args := [d1, d2, d3] }
  | _ => none }
def CacheSameWrongFalsely : Prop := cacheSameRow.holds Try.pinned (OpenSpec.ofChange cacheSameWrong)

/-- 'hustingslaw16.CacheLasts': WHATEVER THE INPUT: true; the input reads as it did. -/
def cacheLastsSpec : ChangeSpec := { name := "cacheLasts", fn := fun _ => fun
  | [d1, d2, d3, d4, d5, d6, d7] => { results := [.lit (.bool true)], args := [d1, d2, d3, d4, d5, d6, d7] }
  | _ => none }
def cacheLastsRow : OpenClaim := { program := "ytgdnfempcjlipaa", sum := "897831e86c24b2542233d4b9b1e4bb126449abbbf76c624df42f474c7deef365", func := "hustings/hustingslaw16.CacheLasts", spec := "cacheLasts", unfollowed := true, recurses := true, apart := false }
def CacheLastsSaid : Prop := cacheLastsRow.holds Try.pinned (OpenSpec.ofChange cacheLastsSpec)

/-- ITS FALSE NEIGHBOUR: 'it returns false'. Refute it at one input. -/
def cacheLastsWrong : ChangeSpec := { name := "cacheLasts", fn := fun _ => fun
  | [d1, d2, d3, d4, d5, d6, d7] => { results := [.lit (.bool false)], args := [d1, d2, d3, d4, d5, d6, d7] }
  | _ => none }
def CacheLastsWrongFalsely : Prop := cacheLastsRow.holds Try.pinned (OpenSpec.ofChange cacheLastsWrong)

/-- 'hustingslaw16.CacheOldest': WHATEVER THE INPUT: true; the input reads as it did. -/
def cacheOldestSpec : ChangeSpec := { name := "cacheOldest", fn := fun _ => fun
  | [d1, d2, d3] => { results := [.lit (.bool true)], args := [d1, d2, d3] }
  | _ => none }
def cacheOldestRow : OpenClaim := { program := "ytgdnfempcjlipaa", sum := "897831e86c24b2542233d4b9b1e4bb126449abbbf76c624df42f474c7deef365", func := "hustings/hustingslaw16.CacheOldest", spec := "cacheOldest", unfollowed := true, recurses := true, apart := false }
def CacheOldestSaid : Prop := cacheOldestRow.holds Try.pinned (OpenSpec.ofChange cacheOldestSpec)

/-- ITS FALSE NEIGHBOUR: 'it returns false'. Refute it at one input. -/
def cacheOldestWrong : ChangeSpec := { name := "cacheOldest", fn := fun _ => fun
  | [d1, d2, d3] => { results := [.lit (.bool false)], args := [d1, d2, d3] }
  | _ => none }
def CacheOldestWrongFalsely : Prop := cacheOldestRow.holds Try.pinned (OpenSpec.ofChange cacheOldestWrong)

/-- 'hustingslaw16.CacheReadings': WHATEVER THE INPUT: true; the input reads as it did. -/
def cacheReadingsSpec : ChangeSpec := { name := "cacheReadings", fn := fun _ => fun
  | [d1, d2, d3] => { results := [.lit (.bool true)], args := [d1, d2, d3] }
  | _ => none }
def cacheReadingsRow : OpenClaim := { program := "ytgdnfempcjlipaa", sum := "897831e86c24b2542233d4b9b1e4bb126449abbbf76c624df42f474c7deef365", func := "hustings/hustingslaw16.CacheReadings", spec := "cacheReadings", unfollowed := true, recurses := true, apart := false }
def CacheReadingsSaid : Prop := cacheReadingsRow.holds Try.pinned (OpenSpec.ofChange cacheReadingsSpec)

/-- ITS FALSE NEIGHBOUR: 'it returns false'. Refute it at one input. -/
def cacheReadingsWrong : ChangeSpec := { name := "cacheReadings", fn := fun _ => fun
  | [d1, d2, d3] => { results := [.lit (.bool false)], args := [d1, d2, d3] }
  | _ => none }
def CacheReadingsWrongFalsely : Prop := cacheReadingsRow.holds Try.pinned (OpenSpec.ofChange cacheReadingsWrong)

/-- 'hustingslaw16.CacheApart': WHATEVER THE INPUT: true; the input reads as it did. -/
def cacheApartSpec : ChangeSpec := { name := "cacheApart", fn := fun _ => fun
  | [d1, d2, d3, d4, d5] => { results := [.lit (.bool true)], args := [d1, d2, d3, d4, d5] }
  | _ => none }
def cacheApartRow : OpenClaim := { program := "ytgdnfempcjlipaa", sum := "897831e86c24b2542233d4b9b1e4bb126449abbbf76c624df42f474c7deef365", func := "hustings/hustingslaw16.CacheApart", spec := "cacheApart", unfollowed := true, recurses := true, apart := false }
def CacheApartSaid : Prop := cacheApartRow.holds Try.pinned (OpenSpec.ofChange cacheApartSpec)

/-- ITS FALSE NEIGHBOUR: 'it returns false'. Refute it at one input. -/
def cacheApartWrong : ChangeSpec := { name := "cacheApart", fn := fun _ => fun
  | [d1, d2, d3, d4, d5] => { results := [.lit (.bool false)], args := [d1, d2, d3, d4, d5] }
  | _ => none }
def CacheApartWrongFalsely : Prop := cacheApartRow.holds Try.pinned (OpenSpec.ofChange cacheApartWrong)

/- THE SECOND FORM. 'bulk': how many values and letters a reading holds, each counted each time it is reached (what is shared counts as often as it is met; a slice's spare places count too). A statement '..UptoSaid' is the law's where the arguments, and the package variables that the reading takes, are together of bulk at most 1048576: NARROWER than '..Said'. Prove '..Said' where nothing that the law and all that it calls make is longer than what came in: it says more and counts as full. Else prove '..UptoSaid'. A law counts once. -/
mutual
def uptoBulk {H : Type} : DataW H → Nat
  | .lit (.string bytes) => bytes.length + 1
  | .lit _ => 1
  | .nil => 1
  | .ptr d => uptoBulk d + 1
  | .slice elems spare => uptoBulkAll elems + uptoBulkAll spare + 1
  | .agg parts => uptoBulkAll parts + 1
  | .iface _ d => uptoBulk d + 1
  | .map entries => uptoBulkEntries entries + 1
  | .held _ => 1
def uptoBulkAll {H : Type} : List (DataW H) → Nat
  | [] => 0
  | d :: r => uptoBulk d + uptoBulkAll r
def uptoBulkEntries {H : Type} : List (Lit × DataW H) → Nat
  | [] => 0
  | x :: r => uptoBulkEntry x + uptoBulkEntries r
def uptoBulkEntry {H : Type} : Lit × DataW H → Nat
  | (.string bytes, d) => bytes.length + uptoBulk d + 1
  | (_, d) => uptoBulk d + 1
 end
def uptoSmall : (H : Type) → List (DataW H) → Bool := fun _ ds => decide (uptoBulkAll ds ≤ 1048576)
def OpenSpec.upto (s : _root_.Go.ChangeSpec) : _root_.Go.OpenSpec := { _root_.Go.OpenSpec.ofChange s with cond := some uptoSmall }

/-- 'hustingslaw16.CacheSame', WHERE WHAT IT READS IS OF BULK AT MOST 1048576: true; the input reads as it did. -/
def cacheSameUptoRow : OpenClaim := { program := "ytgdnfempcjlipaa", sum := "897831e86c24b2542233d4b9b1e4bb126449abbbf76c624df42f474c7deef365", func := "hustings/hustingslaw16.CacheSame", spec := "cacheSame", unfollowed := true, recurses := true, apart := false, narrowed := true }
def CacheSameUptoSaid : Prop := cacheSameUptoRow.holds Try.pinned (OpenSpec.upto cacheSameSpec)

/-- 'hustingslaw16.CacheLasts', WHERE WHAT IT READS IS OF BULK AT MOST 1048576: true; the input reads as it did. -/
def cacheLastsUptoRow : OpenClaim := { program := "ytgdnfempcjlipaa", sum := "897831e86c24b2542233d4b9b1e4bb126449abbbf76c624df42f474c7deef365", func := "hustings/hustingslaw16.CacheLasts", spec := "cacheLasts", unfollowed := true, recurses := true, apart := false, narrowed := true }
def CacheLastsUptoSaid : Prop := cacheLastsUptoRow.holds Try.pinned (OpenSpec.upto cacheLastsSpec)

/-- 'hustingslaw16.CacheOldest', WHERE WHAT IT READS IS OF BULK AT MOST 1048576: true; the input reads as it did. -/
def cacheOldestUptoRow : OpenClaim := { program := "ytgdnfempcjlipaa", sum := "897831e86c24b2542233d4b9b1e4bb126449abbbf76c624df42f474c7deef365", func := "hustings/hustingslaw16.CacheOldest", spec := "cacheOldest", unfollowed := true, recurses := true, apart := false, narrowed := true }
def CacheOldestUptoSaid : Prop := cacheOldestUptoRow.holds Try.pinned (OpenSpec.upto cacheOldestSpec)

/-- 'hustingslaw16.CacheReadings', WHERE WHAT IT READS IS OF BULK AT MOST 1048576: true; the input reads as it did. -/
def cacheReadingsUptoRow : OpenClaim := { program := "ytgdnfempcjlipaa", sum := "897831e86c24b2542233d4b9b1e4bb126449abbbf76c624df42f474c7deef365", func := "hustings/hustingslaw16.CacheReadings", spec := "cacheReadings", unfollowed := true, recurses := true, apart := false, narrowed := true }
def CacheReadingsUptoSaid : Prop := cacheReadingsUptoRow.holds Try.pinned (OpenSpec.upto cacheReadingsSpec)

/-- 'hustingslaw16.CacheApart', WHERE WHAT IT READS IS OF BULK AT MOST 1048576: true; the input reads as it did. -/
def cacheApartUptoRow : OpenClaim := { program := "ytgdnfempcjlipaa", sum := "897831e86c24b2542233d4b9b1e4bb126449abbbf76c624df42f474c7deef365", func := "hustings/hustingslaw16.CacheApart", spec := "cacheApart", unfollowed := true, recurses := true, apart := false, narrowed := true }
def CacheApartUptoSaid : Prop := cacheApartUptoRow.holds Try.pinned (OpenSpec.upto cacheApartSpec)

end Rows
end Go.Proofs.Ytgdnfempcjlipaa
