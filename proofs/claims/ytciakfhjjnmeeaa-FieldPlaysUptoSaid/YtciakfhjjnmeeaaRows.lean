/-
  No cell of these rows narrows 'for every input' (looked for: loops, veiled, ifaces, maps, wideKeys, modest, calm, conditions, laid).
  DERIVED. THE GIVEN ROWS OF THIS SEAT. 16 by the template 'for every input the law returns true; each argument reads behind the call as it read before'; 0 by the template 'total and deterministic' (their statements: YtciakfhjjnmeeaaTotals.lean).
  GIVEN WITH THE SEED: the statements are not yours to turn. If you find one false, say at which input.
  Laid BY PROGRAM, IN A SANDBOX (cutbox-rows.mjs): the forced cells as the released guide's own fill.sh prints them over the translation e03566c8ef887a37… (all of the seat's roots in one cut). By AI agents, Wed Nov 11 2026. No macro, syntax, notation, axiom, sorry.
-/
import Derived.Test.YtciakfhjjnmeeaaChecked
import GoSem.Claim
import GoSem.ClaimJoined
import GoSem.ClaimMapViews
import Derived.JoinedTies
import Derived.KernelRfl
namespace Go.Proofs.Ytciakfhjjnmeeaa
/- THE CELL 'sum', in the pinned program and in every row, IS THE sha256 OF THE DUMP (.gsa) THAT YtciakfhjjnmeeaaProg.lean LOADS. Nothing in Lean hashes anything: it is a label: what it is worth is what the hold of that sum in a sandbox is worth. -/
noncomputable def Try.pinned : Pinned := { name := "ytciakfhjjnmeeaa", sum := "e03566c8ef887a372bc65472b11bd7b9ea5c81fb2abb6ecc2bea515288ec504b", checked := Try.checked }
namespace Rows
def none {H : Type} : Left H := { results := [], args := [] }

/-- 'trystlaw08.FieldOf': WHATEVER THE INPUT: true; the input reads as it did. -/
def fieldOfSpec : ChangeSpec := { name := "fieldOf", fn := fun _ => fun
  | [d1, d2] => { results := [.lit (.bool true)], args := [d1, d2] }
  | _ => none }
def fieldOfRow : OpenClaim := { program := "ytciakfhjjnmeeaa", sum := "e03566c8ef887a372bc65472b11bd7b9ea5c81fb2abb6ecc2bea515288ec504b", func := "tryst/trystlaw08.FieldOf", spec := "fieldOf", apart := false }
def FieldOfSaid : Prop := fieldOfRow.holds Try.pinned (OpenSpec.ofChange fieldOfSpec)

/-- ITS FALSE NEIGHBOUR: 'it returns false'. Refute it at one input. -/
def fieldOfWrong : ChangeSpec := { name := "fieldOf", fn := fun _ => fun
  | [d1, d2] => { results := [.lit (.bool false)], args := [d1, d2] }
  | _ => none }
def FieldOfWrongFalsely : Prop := fieldOfRow.holds Try.pinned (OpenSpec.ofChange fieldOfWrong)

/-- 'trystlaw08.FieldForm': WHATEVER THE INPUT: true; the input reads as it did. -/
def fieldFormSpec : ChangeSpec := { name := "fieldForm", fn := fun _ => fun
  | [d1, d2] => { results := [.lit (.bool true)], args := [d1, d2] }
  | _ => none }
def fieldFormRow : OpenClaim := { program := "ytciakfhjjnmeeaa", sum := "e03566c8ef887a372bc65472b11bd7b9ea5c81fb2abb6ecc2bea515288ec504b", func := "tryst/trystlaw08.FieldForm", spec := "fieldForm", inPlace := ["math/bits.Add64"], apart := false }
def FieldFormSaid : Prop := fieldFormRow.holds Try.pinned (OpenSpec.ofChange fieldFormSpec)

/-- ITS FALSE NEIGHBOUR: 'it returns false'. Refute it at one input. -/
def fieldFormWrong : ChangeSpec := { name := "fieldForm", fn := fun _ => fun
  | [d1, d2] => { results := [.lit (.bool false)], args := [d1, d2] }
  | _ => none }
def FieldFormWrongFalsely : Prop := fieldFormRow.holds Try.pinned (OpenSpec.ofChange fieldFormWrong)

/-- 'trystlaw08.FieldRing': WHATEVER THE INPUT: true; the input reads as it did. -/
def fieldRingSpec : ChangeSpec := { name := "fieldRing", fn := fun _ => fun
  | [d1, d2, d3] => { results := [.lit (.bool true)], args := [d1, d2, d3] }
  | _ => none }
def fieldRingRow : OpenClaim := { program := "ytciakfhjjnmeeaa", sum := "e03566c8ef887a372bc65472b11bd7b9ea5c81fb2abb6ecc2bea515288ec504b", func := "tryst/trystlaw08.FieldRing", spec := "fieldRing", inPlace := ["math/bits.Add64"], apart := false }
def FieldRingSaid : Prop := fieldRingRow.holds Try.pinned (OpenSpec.ofChange fieldRingSpec)

/-- ITS FALSE NEIGHBOUR: 'it returns false'. Refute it at one input. -/
def fieldRingWrong : ChangeSpec := { name := "fieldRing", fn := fun _ => fun
  | [d1, d2, d3] => { results := [.lit (.bool false)], args := [d1, d2, d3] }
  | _ => none }
def FieldRingWrongFalsely : Prop := fieldRingRow.holds Try.pinned (OpenSpec.ofChange fieldRingWrong)

/-- 'trystlaw08.FieldPowers': WHATEVER THE INPUT: true; the input reads as it did. -/
def fieldPowersSpec : ChangeSpec := { name := "fieldPowers", fn := fun _ => fun
  | [d1, d2] => { results := [.lit (.bool true)], args := [d1, d2] }
  | _ => none }
def fieldPowersRow : OpenClaim := { program := "ytciakfhjjnmeeaa", sum := "e03566c8ef887a372bc65472b11bd7b9ea5c81fb2abb6ecc2bea515288ec504b", func := "tryst/trystlaw08.FieldPowers", spec := "fieldPowers", inPlace := ["math/bits.Add64"], unfollowed := true, recurses := true, leaving := true, apart := false }
def FieldPowersSaid : Prop := fieldPowersRow.holds Try.pinned (OpenSpec.ofChange fieldPowersSpec)

/-- ITS FALSE NEIGHBOUR: 'it returns false'. Refute it at one input. -/
def fieldPowersWrong : ChangeSpec := { name := "fieldPowers", fn := fun _ => fun
  | [d1, d2] => { results := [.lit (.bool false)], args := [d1, d2] }
  | _ => none }
def FieldPowersWrongFalsely : Prop := fieldPowersRow.holds Try.pinned (OpenSpec.ofChange fieldPowersWrong)

/-- 'trystlaw08.FieldChoice': WHATEVER THE INPUT: true; the input reads as it did. -/
def fieldChoiceSpec : ChangeSpec := { name := "fieldChoice", fn := fun _ => fun
  | [d1, d2, d3] => { results := [.lit (.bool true)], args := [d1, d2, d3] }
  | _ => none }
def fieldChoiceRow : OpenClaim := { program := "ytciakfhjjnmeeaa", sum := "e03566c8ef887a372bc65472b11bd7b9ea5c81fb2abb6ecc2bea515288ec504b", func := "tryst/trystlaw08.FieldChoice", spec := "fieldChoice", inPlace := ["math/bits.Add64"], apart := false }
def FieldChoiceSaid : Prop := fieldChoiceRow.holds Try.pinned (OpenSpec.ofChange fieldChoiceSpec)

/-- ITS FALSE NEIGHBOUR: 'it returns false'. Refute it at one input. -/
def fieldChoiceWrong : ChangeSpec := { name := "fieldChoice", fn := fun _ => fun
  | [d1, d2, d3] => { results := [.lit (.bool false)], args := [d1, d2, d3] }
  | _ => none }
def FieldChoiceWrongFalsely : Prop := fieldChoiceRow.holds Try.pinned (OpenSpec.ofChange fieldChoiceWrong)

/-- 'trystlaw08.FieldPowerLaws': WHATEVER THE INPUT: true; the input reads as it did. -/
def fieldPowerLawsSpec : ChangeSpec := { name := "fieldPowerLaws", fn := fun _ => fun
  | [d] => { results := [.lit (.bool true)], args := [d] }
  | _ => none }
def fieldPowerLawsRow : OpenClaim := { program := "ytciakfhjjnmeeaa", sum := "e03566c8ef887a372bc65472b11bd7b9ea5c81fb2abb6ecc2bea515288ec504b", func := "tryst/trystlaw08.FieldPowerLaws", spec := "fieldPowerLaws", inPlace := ["math/bits.Add64"], unfollowed := true, recurses := true, leaving := true, apart := false }
def FieldPowerLawsSaid : Prop := fieldPowerLawsRow.holds Try.pinned (OpenSpec.ofChange fieldPowerLawsSpec)

/-- ITS FALSE NEIGHBOUR: 'it returns false'. Refute it at one input. -/
def fieldPowerLawsWrong : ChangeSpec := { name := "fieldPowerLaws", fn := fun _ => fun
  | [d] => { results := [.lit (.bool false)], args := [d] }
  | _ => none }
def FieldPowerLawsWrongFalsely : Prop := fieldPowerLawsRow.holds Try.pinned (OpenSpec.ofChange fieldPowerLawsWrong)

/-- 'trystlaw08.FieldInverse': WHATEVER THE INPUT: true; the input reads as it did. -/
def fieldInverseSpec : ChangeSpec := { name := "fieldInverse", fn := fun _ => fun
  | [d1, d2] => { results := [.lit (.bool true)], args := [d1, d2] }
  | _ => none }
def fieldInverseRow : OpenClaim := { program := "ytciakfhjjnmeeaa", sum := "e03566c8ef887a372bc65472b11bd7b9ea5c81fb2abb6ecc2bea515288ec504b", func := "tryst/trystlaw08.FieldInverse", spec := "fieldInverse", inPlace := ["math/bits.Add64"], unfollowed := true, recurses := true, leaving := true, apart := false }
def FieldInverseSaid : Prop := fieldInverseRow.holds Try.pinned (OpenSpec.ofChange fieldInverseSpec)

/-- ITS FALSE NEIGHBOUR: 'it returns false'. Refute it at one input. -/
def fieldInverseWrong : ChangeSpec := { name := "fieldInverse", fn := fun _ => fun
  | [d1, d2] => { results := [.lit (.bool false)], args := [d1, d2] }
  | _ => none }
def FieldInverseWrongFalsely : Prop := fieldInverseRow.holds Try.pinned (OpenSpec.ofChange fieldInverseWrong)

/-- 'trystlaw08.FieldNames': WHATEVER THE INPUT: true; the input reads as it did. -/
def fieldNamesSpec : ChangeSpec := { name := "fieldNames", fn := fun _ => fun
  | [] => { results := [.lit (.bool true)], args := [] }
  | _ => none }
def fieldNamesRow : OpenClaim := { program := "ytciakfhjjnmeeaa", sum := "e03566c8ef887a372bc65472b11bd7b9ea5c81fb2abb6ecc2bea515288ec504b", func := "tryst/trystlaw08.FieldNames", spec := "fieldNames", inPlace := ["math/bits.Add64"], unfollowed := true, recurses := true, leaving := true, apart := false }
def FieldNamesSaid : Prop := fieldNamesRow.holds Try.pinned (OpenSpec.ofChange fieldNamesSpec)

/-- ITS FALSE NEIGHBOUR: 'it returns false'. Refute it at one input. -/
def fieldNamesWrong : ChangeSpec := { name := "fieldNames", fn := fun _ => fun
  | [] => { results := [.lit (.bool false)], args := [] }
  | _ => none }
def FieldNamesWrongFalsely : Prop := fieldNamesRow.holds Try.pinned (OpenSpec.ofChange fieldNamesWrong)

/-- 'trystlaw08.FieldPlays': WHATEVER THE INPUT: true; the input reads as it did. -/
def fieldPlaysSpec : ChangeSpec := { name := "fieldPlays", fn := fun _ => fun
  | [d1, d2] => { results := [.lit (.bool true)], args := [d1, d2] }
  | _ => none }
def fieldPlaysRow : OpenClaim := { program := "ytciakfhjjnmeeaa", sum := "e03566c8ef887a372bc65472b11bd7b9ea5c81fb2abb6ecc2bea515288ec504b", func := "tryst/trystlaw08.FieldPlays", spec := "fieldPlays", inPlace := ["math/bits.Add64"], unfollowed := true, recurses := true, leaving := true, apart := false }
def FieldPlaysSaid : Prop := fieldPlaysRow.holds Try.pinned (OpenSpec.ofChange fieldPlaysSpec)

/-- ITS FALSE NEIGHBOUR: 'it returns false'. Refute it at one input. -/
def fieldPlaysWrong : ChangeSpec := { name := "fieldPlays", fn := fun _ => fun
  | [d1, d2] => { results := [.lit (.bool false)], args := [d1, d2] }
  | _ => none }
def FieldPlaysWrongFalsely : Prop := fieldPlaysRow.holds Try.pinned (OpenSpec.ofChange fieldPlaysWrong)

/-- 'trystlaw09.LadderBits': WHATEVER THE INPUT: true; the input reads as it did. -/
def ladderBitsSpec : ChangeSpec := { name := "ladderBits", fn := fun _ => fun
  | [d1, d2, d3] => { results := [.lit (.bool true)], args := [d1, d2, d3] }
  | _ => none }
def ladderBitsRow : OpenClaim := { program := "ytciakfhjjnmeeaa", sum := "e03566c8ef887a372bc65472b11bd7b9ea5c81fb2abb6ecc2bea515288ec504b", func := "tryst/trystlaw09.LadderBits", spec := "ladderBits", inPlace := ["math/bits.Add64"], unfollowed := true, recurses := true, leaving := true, apart := false }
def LadderBitsSaid : Prop := ladderBitsRow.holds Try.pinned (OpenSpec.ofChange ladderBitsSpec)

/-- ITS FALSE NEIGHBOUR: 'it returns false'. Refute it at one input. -/
def ladderBitsWrong : ChangeSpec := { name := "ladderBits", fn := fun _ => fun
  | [d1, d2, d3] => { results := [.lit (.bool false)], args := [d1, d2, d3] }
  | _ => none }
def LadderBitsWrongFalsely : Prop := ladderBitsRow.holds Try.pinned (OpenSpec.ofChange ladderBitsWrong)

/-- 'trystlaw09.LadderMuls': WHATEVER THE INPUT: true; the input reads as it did. -/
def ladderMulsSpec : ChangeSpec := { name := "ladderMuls", fn := fun _ => fun
  | [d1, d2] => { results := [.lit (.bool true)], args := [d1, d2] }
  | _ => none }
def ladderMulsRow : OpenClaim := { program := "ytciakfhjjnmeeaa", sum := "e03566c8ef887a372bc65472b11bd7b9ea5c81fb2abb6ecc2bea515288ec504b", func := "tryst/trystlaw09.LadderMuls", spec := "ladderMuls", inPlace := ["math/bits.Add64"], unfollowed := true, recurses := true, leaving := true, apart := false }
def LadderMulsSaid : Prop := ladderMulsRow.holds Try.pinned (OpenSpec.ofChange ladderMulsSpec)

/-- ITS FALSE NEIGHBOUR: 'it returns false'. Refute it at one input. -/
def ladderMulsWrong : ChangeSpec := { name := "ladderMuls", fn := fun _ => fun
  | [d1, d2] => { results := [.lit (.bool false)], args := [d1, d2] }
  | _ => none }
def LadderMulsWrongFalsely : Prop := ladderMulsRow.holds Try.pinned (OpenSpec.ofChange ladderMulsWrong)

/-- 'trystlaw09.LadderMeets': WHATEVER THE INPUT: true; the input reads as it did. -/
def ladderMeetsSpec : ChangeSpec := { name := "ladderMeets", fn := fun _ => fun
  | [d1, d2, d3] => { results := [.lit (.bool true)], args := [d1, d2, d3] }
  | _ => none }
def ladderMeetsRow : OpenClaim := { program := "ytciakfhjjnmeeaa", sum := "e03566c8ef887a372bc65472b11bd7b9ea5c81fb2abb6ecc2bea515288ec504b", func := "tryst/trystlaw09.LadderMeets", spec := "ladderMeets", inPlace := ["math/bits.Add64"], unfollowed := true, recurses := true, leaving := true, apart := false }
def LadderMeetsSaid : Prop := ladderMeetsRow.holds Try.pinned (OpenSpec.ofChange ladderMeetsSpec)

/-- ITS FALSE NEIGHBOUR: 'it returns false'. Refute it at one input. -/
def ladderMeetsWrong : ChangeSpec := { name := "ladderMeets", fn := fun _ => fun
  | [d1, d2, d3] => { results := [.lit (.bool false)], args := [d1, d2, d3] }
  | _ => none }
def LadderMeetsWrongFalsely : Prop := ladderMeetsRow.holds Try.pinned (OpenSpec.ofChange ladderMeetsWrong)

/-- 'trystlaw09.LadderWeak': WHATEVER THE INPUT: true; the input reads as it did. -/
def ladderWeakSpec : ChangeSpec := { name := "ladderWeak", fn := fun _ => fun
  | [d1, d2, d3] => { results := [.lit (.bool true)], args := [d1, d2, d3] }
  | _ => none }
def ladderWeakRow : OpenClaim := { program := "ytciakfhjjnmeeaa", sum := "e03566c8ef887a372bc65472b11bd7b9ea5c81fb2abb6ecc2bea515288ec504b", func := "tryst/trystlaw09.LadderWeak", spec := "ladderWeak", inPlace := ["math/bits.Add64"], unfollowed := true, recurses := true, leaving := true, apart := false }
def LadderWeakSaid : Prop := ladderWeakRow.holds Try.pinned (OpenSpec.ofChange ladderWeakSpec)

/-- ITS FALSE NEIGHBOUR: 'it returns false'. Refute it at one input. -/
def ladderWeakWrong : ChangeSpec := { name := "ladderWeak", fn := fun _ => fun
  | [d1, d2, d3] => { results := [.lit (.bool false)], args := [d1, d2, d3] }
  | _ => none }
def LadderWeakWrongFalsely : Prop := ladderWeakRow.holds Try.pinned (OpenSpec.ofChange ladderWeakWrong)

/-- 'trystlaw09.LadderNames': WHATEVER THE INPUT: true; the input reads as it did. -/
def ladderNamesSpec : ChangeSpec := { name := "ladderNames", fn := fun _ => fun
  | [] => { results := [.lit (.bool true)], args := [] }
  | _ => none }
def ladderNamesRow : OpenClaim := { program := "ytciakfhjjnmeeaa", sum := "e03566c8ef887a372bc65472b11bd7b9ea5c81fb2abb6ecc2bea515288ec504b", func := "tryst/trystlaw09.LadderNames", spec := "ladderNames", inPlace := ["math/bits.Add64", "(*sync.WaitGroup).Add", "internal/race.ReleaseMerge", "internal/race.Disable", "internal/race.Enable", "internal/synctest.IsInBubble", "internal/synctest.Associate[sync.WaitGroup]", "sync.fatal", "sync/atomic.OrUint64", "sync/atomic.AddUint64", "internal/race.Read", "sync/atomic.LoadUint64", "sync/atomic.StoreUint64", "internal/synctest.Disassociate[sync.WaitGroup]", "sync.runtime_Semrelease", "(*sync.WaitGroup).Done", "(*sync.WaitGroup).Wait", "internal/race.Acquire", "internal/synctest.IsAssociated[sync.WaitGroup]", "sync/atomic.CompareAndSwapUint64", "internal/race.Write", "sync.runtime_SemacquireWaitGroup"], unfollowed := true, recurses := true, leaving := true, apart := false }
def LadderNamesSaid : Prop := ladderNamesRow.holds Try.pinned (OpenSpec.ofChange ladderNamesSpec)

/-- ITS FALSE NEIGHBOUR: 'it returns false'. Refute it at one input. -/
def ladderNamesWrong : ChangeSpec := { name := "ladderNames", fn := fun _ => fun
  | [] => { results := [.lit (.bool false)], args := [] }
  | _ => none }
def LadderNamesWrongFalsely : Prop := ladderNamesRow.holds Try.pinned (OpenSpec.ofChange ladderNamesWrong)

/-- 'trystlaw09.LadderAgrees': WHATEVER THE INPUT: true; the input reads as it did. -/
def ladderAgreesSpec : ChangeSpec := { name := "ladderAgrees", fn := fun _ => fun
  | [d] => { results := [.lit (.bool true)], args := [d] }
  | _ => none }
def ladderAgreesRow : OpenClaim := { program := "ytciakfhjjnmeeaa", sum := "e03566c8ef887a372bc65472b11bd7b9ea5c81fb2abb6ecc2bea515288ec504b", func := "tryst/trystlaw09.LadderAgrees", spec := "ladderAgrees", inPlace := ["(*sync.WaitGroup).Add", "internal/race.ReleaseMerge", "internal/race.Disable", "internal/race.Enable", "internal/synctest.IsInBubble", "internal/synctest.Associate[sync.WaitGroup]", "sync.fatal", "sync/atomic.OrUint64", "sync/atomic.AddUint64", "internal/race.Read", "sync/atomic.LoadUint64", "sync/atomic.StoreUint64", "internal/synctest.Disassociate[sync.WaitGroup]", "sync.runtime_Semrelease", "(*sync.WaitGroup).Done", "math/bits.Add64", "(*sync.WaitGroup).Wait", "internal/race.Acquire", "internal/synctest.IsAssociated[sync.WaitGroup]", "sync/atomic.CompareAndSwapUint64", "internal/race.Write", "sync.runtime_SemacquireWaitGroup"], unfollowed := true, recurses := true, leaving := true, apart := false }
def LadderAgreesSaid : Prop := ladderAgreesRow.holds Try.pinned (OpenSpec.ofChange ladderAgreesSpec)

/-- ITS FALSE NEIGHBOUR: 'it returns false'. Refute it at one input. -/
def ladderAgreesWrong : ChangeSpec := { name := "ladderAgrees", fn := fun _ => fun
  | [d] => { results := [.lit (.bool false)], args := [d] }
  | _ => none }
def LadderAgreesWrongFalsely : Prop := ladderAgreesRow.holds Try.pinned (OpenSpec.ofChange ladderAgreesWrong)

/-- 'trystlaw09.LadderTogether': WHATEVER THE INPUT: true; the input reads as it did. -/
def ladderTogetherSpec : ChangeSpec := { name := "ladderTogether", fn := fun _ => fun
  | [d1, d2, d3] => { results := [.lit (.bool true)], args := [d1, d2, d3] }
  | _ => none }
def ladderTogetherRow : OpenClaim := { program := "ytciakfhjjnmeeaa", sum := "e03566c8ef887a372bc65472b11bd7b9ea5c81fb2abb6ecc2bea515288ec504b", func := "tryst/trystlaw09.LadderTogether", spec := "ladderTogether", inPlace := ["(*sync.WaitGroup).Add", "internal/race.ReleaseMerge", "internal/race.Disable", "internal/race.Enable", "internal/synctest.IsInBubble", "internal/synctest.Associate[sync.WaitGroup]", "sync.fatal", "sync/atomic.OrUint64", "sync/atomic.AddUint64", "internal/race.Read", "sync/atomic.LoadUint64", "sync/atomic.StoreUint64", "internal/synctest.Disassociate[sync.WaitGroup]", "sync.runtime_Semrelease", "(*sync.WaitGroup).Done", "math/bits.Add64", "(*sync.WaitGroup).Wait", "internal/race.Acquire", "internal/synctest.IsAssociated[sync.WaitGroup]", "sync/atomic.CompareAndSwapUint64", "internal/race.Write", "sync.runtime_SemacquireWaitGroup"], unfollowed := true, recurses := true, leaving := true, apart := false }
def LadderTogetherSaid : Prop := ladderTogetherRow.holds Try.pinned (OpenSpec.ofChange ladderTogetherSpec)

/-- ITS FALSE NEIGHBOUR: 'it returns false'. Refute it at one input. -/
def ladderTogetherWrong : ChangeSpec := { name := "ladderTogether", fn := fun _ => fun
  | [d1, d2, d3] => { results := [.lit (.bool false)], args := [d1, d2, d3] }
  | _ => none }
def LadderTogetherWrongFalsely : Prop := ladderTogetherRow.holds Try.pinned (OpenSpec.ofChange ladderTogetherWrong)

/- THE SECOND FORM. 'bulk': how many values and letters a reading holds, each counted each time it is reached (what is shared counts as often as it is met; a slice's spare places count too). A statement '..UptoSaid' is the law's where the arguments, and the package variables that the reading takes, are together of bulk at most 1048576: NARROWER than '..Said'. Prove '..Said' where nothing that the law and all that it calls make is longer than what came in: it says more and counts as full. Else prove '..UptoSaid'. A law counts once. -/
mutual
def uptoBulk {H : Type} : DataW H → Nat
  | .lit (.string bytes) => bytes.length + 1
  | .lit _ => 1
  | .nil => 1
  | .ptr d => uptoBulk d + 1
  | .slice elems spare => uptoBulkAll elems + uptoBulkAll spare + 1
  | .agg parts => uptoBulkAll parts + 1
  | .iface _ d => uptoBulk d + 1
  | .map entries => uptoBulkEntries entries + 1
  | .held _ => 1
def uptoBulkAll {H : Type} : List (DataW H) → Nat
  | [] => 0
  | d :: r => uptoBulk d + uptoBulkAll r
def uptoBulkEntries {H : Type} : List (Lit × DataW H) → Nat
  | [] => 0
  | x :: r => uptoBulkEntry x + uptoBulkEntries r
def uptoBulkEntry {H : Type} : Lit × DataW H → Nat
  | (.string bytes, d) => bytes.length + uptoBulk d + 1
  | (_, d) => uptoBulk d + 1
 end
def uptoSmall : (H : Type) → List (DataW H) → Bool := fun _ ds => decide (uptoBulkAll ds ≤ 1048576)
def OpenSpec.upto (s : _root_.Go.ChangeSpec) : _root_.Go.OpenSpec := { _root_.Go.OpenSpec.ofChange s with cond := some uptoSmall }

/-- 'trystlaw08.FieldOf', WHERE WHAT IT READS IS OF BULK AT MOST 1048576: true; the input reads as it did. -/
def fieldOfUptoRow : OpenClaim := { program := "ytciakfhjjnmeeaa", sum := "e03566c8ef887a372bc65472b11bd7b9ea5c81fb2abb6ecc2bea515288ec504b", func := "tryst/trystlaw08.FieldOf", spec := "fieldOf", apart := false, narrowed := true }
def FieldOfUptoSaid : Prop := fieldOfUptoRow.holds Try.pinned (OpenSpec.upto fieldOfSpec)

/-- 'trystlaw08.FieldForm', WHERE WHAT IT READS IS OF BULK AT MOST 1048576: true; the input reads as it did. -/
def fieldFormUptoRow : OpenClaim := { program := "ytciakfhjjnmeeaa", sum := "e03566c8ef887a372bc65472b11bd7b9ea5c81fb2abb6ecc2bea515288ec504b", func := "tryst/trystlaw08.FieldForm", spec := "fieldForm", inPlace := ["math/bits.Add64"], apart := false, narrowed := true }
def FieldFormUptoSaid : Prop := fieldFormUptoRow.holds Try.pinned (OpenSpec.upto fieldFormSpec)

/-- 'trystlaw08.FieldRing', WHERE WHAT IT READS IS OF BULK AT MOST 1048576: true; the input reads as it did. -/
def fieldRingUptoRow : OpenClaim := { program := "ytciakfhjjnmeeaa", sum := "e03566c8ef887a372bc65472b11bd7b9ea5c81fb2abb6ecc2bea515288ec504b", func := "tryst/trystlaw08.FieldRing", spec := "fieldRing", inPlace := ["math/bits.Add64"], apart := false, narrowed := true }
def FieldRingUptoSaid : Prop := fieldRingUptoRow.holds Try.pinned (OpenSpec.upto fieldRingSpec)

/-- 'trystlaw08.FieldPowers', WHERE WHAT IT READS IS OF BULK AT MOST 1048576: true; the input reads as it did. -/
def fieldPowersUptoRow : OpenClaim := { program := "ytciakfhjjnmeeaa", sum := "e03566c8ef887a372bc65472b11bd7b9ea5c81fb2abb6ecc2bea515288ec504b", func := "tryst/trystlaw08.FieldPowers", spec := "fieldPowers", inPlace := ["math/bits.Add64"], unfollowed := true, recurses := true, leaving := true, apart := false, narrowed := true }
def FieldPowersUptoSaid : Prop := fieldPowersUptoRow.holds Try.pinned (OpenSpec.upto fieldPowersSpec)

/-- 'trystlaw08.FieldChoice', WHERE WHAT IT READS IS OF BULK AT MOST 1048576: true; the input reads as it did. -/
def fieldChoiceUptoRow : OpenClaim := { program := "ytciakfhjjnmeeaa", sum := "e03566c8ef887a372bc65472b11bd7b9ea5c81fb2abb6ecc2bea515288ec504b", func := "tryst/trystlaw08.FieldChoice", spec := "fieldChoice", inPlace := ["math/bits.Add64"], apart := false, narrowed := true }
def FieldChoiceUptoSaid : Prop := fieldChoiceUptoRow.holds Try.pinned (OpenSpec.upto fieldChoiceSpec)

/-- 'trystlaw08.FieldPowerLaws', WHERE WHAT IT READS IS OF BULK AT MOST 1048576: true; the input reads as it did. -/
def fieldPowerLawsUptoRow : OpenClaim := { program := "ytciakfhjjnmeeaa", sum := "e03566c8ef887a372bc65472b11bd7b9ea5c81fb2abb6ecc2bea515288ec504b", func := "tryst/trystlaw08.FieldPowerLaws", spec := "fieldPowerLaws", inPlace := ["math/bits.Add64"], unfollowed := true, recurses := true, leaving := true, apart := false, narrowed := true }
def FieldPowerLawsUptoSaid : Prop := fieldPowerLawsUptoRow.holds Try.pinned (OpenSpec.upto fieldPowerLawsSpec)

/-- 'trystlaw08.FieldInverse', WHERE WHAT IT READS IS OF BULK AT MOST 1048576: true; the input reads as it did. -/
def fieldInverseUptoRow : OpenClaim := { program := "ytciakfhjjnmeeaa", sum := "e03566c8ef887a372bc65472b11bd7b9ea5c81fb2abb6ecc2bea515288ec504b", func := "tryst/trystlaw08.FieldInverse", spec := "fieldInverse", inPlace := ["math/bits.Add64"], unfollowed := true, recurses := true, leaving := true, apart := false, narrowed := true }
def FieldInverseUptoSaid : Prop := fieldInverseUptoRow.holds Try.pinned (OpenSpec.upto fieldInverseSpec)

/-- 'trystlaw08.FieldNames', WHERE WHAT IT READS IS OF BULK AT MOST 1048576: true; the input reads as it did. -/
def fieldNamesUptoRow : OpenClaim := { program := "ytciakfhjjnmeeaa", sum := "e03566c8ef887a372bc65472b11bd7b9ea5c81fb2abb6ecc2bea515288ec504b", func := "tryst/trystlaw08.FieldNames", spec := "fieldNames", inPlace := ["math/bits.Add64"], unfollowed := true, recurses := true, leaving := true, apart := false, narrowed := true }
def FieldNamesUptoSaid : Prop := fieldNamesUptoRow.holds Try.pinned (OpenSpec.upto fieldNamesSpec)

/-- 'trystlaw08.FieldPlays', WHERE WHAT IT READS IS OF BULK AT MOST 1048576: true; the input reads as it did. -/
def fieldPlaysUptoRow : OpenClaim := { program := "ytciakfhjjnmeeaa", sum := "e03566c8ef887a372bc65472b11bd7b9ea5c81fb2abb6ecc2bea515288ec504b", func := "tryst/trystlaw08.FieldPlays", spec := "fieldPlays", inPlace := ["math/bits.Add64"], unfollowed := true, recurses := true, leaving := true, apart := false, narrowed := true }
def FieldPlaysUptoSaid : Prop := fieldPlaysUptoRow.holds Try.pinned (OpenSpec.upto fieldPlaysSpec)

/-- 'trystlaw09.LadderBits', WHERE WHAT IT READS IS OF BULK AT MOST 1048576: true; the input reads as it did. -/
def ladderBitsUptoRow : OpenClaim := { program := "ytciakfhjjnmeeaa", sum := "e03566c8ef887a372bc65472b11bd7b9ea5c81fb2abb6ecc2bea515288ec504b", func := "tryst/trystlaw09.LadderBits", spec := "ladderBits", inPlace := ["math/bits.Add64"], unfollowed := true, recurses := true, leaving := true, apart := false, narrowed := true }
def LadderBitsUptoSaid : Prop := ladderBitsUptoRow.holds Try.pinned (OpenSpec.upto ladderBitsSpec)

/-- 'trystlaw09.LadderMuls', WHERE WHAT IT READS IS OF BULK AT MOST 1048576: true; the input reads as it did. -/
def ladderMulsUptoRow : OpenClaim := { program := "ytciakfhjjnmeeaa", sum := "e03566c8ef887a372bc65472b11bd7b9ea5c81fb2abb6ecc2bea515288ec504b", func := "tryst/trystlaw09.LadderMuls", spec := "ladderMuls", inPlace := ["math/bits.Add64"], unfollowed := true, recurses := true, leaving := true, apart := false, narrowed := true }
def LadderMulsUptoSaid : Prop := ladderMulsUptoRow.holds Try.pinned (OpenSpec.upto ladderMulsSpec)

/-- 'trystlaw09.LadderMeets', WHERE WHAT IT READS IS OF BULK AT MOST 1048576: true; the input reads as it did. -/
def ladderMeetsUptoRow : OpenClaim := { program := "ytciakfhjjnmeeaa", sum := "e03566c8ef887a372bc65472b11bd7b9ea5c81fb2abb6ecc2bea515288ec504b", func := "tryst/trystlaw09.LadderMeets", spec := "ladderMeets", inPlace := ["math/bits.Add64"], unfollowed := true, recurses := true, leaving := true, apart := false, narrowed := true }
def LadderMeetsUptoSaid : Prop := ladderMeetsUptoRow.holds Try.pinned (OpenSpec.upto ladderMeetsSpec)

/-- 'trystlaw09.LadderWeak', WHERE WHAT IT READS IS OF BULK AT MOST 1048576: true; the input reads as it did. -/
def ladderWeakUptoRow : OpenClaim := { program := "ytciakfhjjnmeeaa", sum := "e03566c8ef887a372bc65472b11bd7b9ea5c81fb2abb6ecc2bea515288ec504b", func := "tryst/trystlaw09.LadderWeak", spec := "ladderWeak", inPlace := ["math/bits.Add64"], unfollowed := true, recurses := true, leaving := true, apart := false, narrowed := true }
def LadderWeakUptoSaid : Prop := ladderWeakUptoRow.holds Try.pinned (OpenSpec.upto ladderWeakSpec)

/-- 'trystlaw09.LadderNames', WHERE WHAT IT READS IS OF BULK AT MOST 1048576: true; the input reads as it did. -/
def ladderNamesUptoRow : OpenClaim := { program := "ytciakfhjjnmeeaa", sum := "e03566c8ef887a372bc65472b11bd7b9ea5c81fb2abb6ecc2bea515288ec504b", func := "tryst/trystlaw09.LadderNames", spec := "ladderNames", inPlace := ["math/bits.Add64", "(*sync.WaitGroup).Add", "internal/race.ReleaseMerge", "internal/race.Disable", "internal/race.Enable", "internal/synctest.IsInBubble", "internal/synctest.Associate[sync.WaitGroup]", "sync.fatal", "sync/atomic.OrUint64", "sync/atomic.AddUint64", "internal/race.Read", "sync/atomic.LoadUint64", "sync/atomic.StoreUint64", "internal/synctest.Disassociate[sync.WaitGroup]", "sync.runtime_Semrelease", "(*sync.WaitGroup).Done", "(*sync.WaitGroup).Wait", "internal/race.Acquire", "internal/synctest.IsAssociated[sync.WaitGroup]", "sync/atomic.CompareAndSwapUint64", "internal/race.Write", "sync.runtime_SemacquireWaitGroup"], unfollowed := true, recurses := true, leaving := true, apart := false, narrowed := true }
def LadderNamesUptoSaid : Prop := ladderNamesUptoRow.holds Try.pinned (OpenSpec.upto ladderNamesSpec)

/-- 'trystlaw09.LadderAgrees', WHERE WHAT IT READS IS OF BULK AT MOST 1048576: true; the input reads as it did. -/
def ladderAgreesUptoRow : OpenClaim := { program := "ytciakfhjjnmeeaa", sum := "e03566c8ef887a372bc65472b11bd7b9ea5c81fb2abb6ecc2bea515288ec504b", func := "tryst/trystlaw09.LadderAgrees", spec := "ladderAgrees", inPlace := ["(*sync.WaitGroup).Add", "internal/race.ReleaseMerge", "internal/race.Disable", "internal/race.Enable", "internal/synctest.IsInBubble", "internal/synctest.Associate[sync.WaitGroup]", "sync.fatal", "sync/atomic.OrUint64", "sync/atomic.AddUint64", "internal/race.Read", "sync/atomic.LoadUint64", "sync/atomic.StoreUint64", "internal/synctest.Disassociate[sync.WaitGroup]", "sync.runtime_Semrelease", "(*sync.WaitGroup).Done", "math/bits.Add64", "(*sync.WaitGroup).Wait", "internal/race.Acquire", "internal/synctest.IsAssociated[sync.WaitGroup]", "sync/atomic.CompareAndSwapUint64", "internal/race.Write", "sync.runtime_SemacquireWaitGroup"], unfollowed := true, recurses := true, leaving := true, apart := false, narrowed := true }
def LadderAgreesUptoSaid : Prop := ladderAgreesUptoRow.holds Try.pinned (OpenSpec.upto ladderAgreesSpec)

/-- 'trystlaw09.LadderTogether', WHERE WHAT IT READS IS OF BULK AT MOST 1048576: true; the input reads as it did. -/
def ladderTogetherUptoRow : OpenClaim := { program := "ytciakfhjjnmeeaa", sum := "e03566c8ef887a372bc65472b11bd7b9ea5c81fb2abb6ecc2bea515288ec504b", func := "tryst/trystlaw09.LadderTogether", spec := "ladderTogether", inPlace := ["(*sync.WaitGroup).Add", "internal/race.ReleaseMerge", "internal/race.Disable", "internal/race.Enable", "internal/synctest.IsInBubble", "internal/synctest.Associate[sync.WaitGroup]", "sync.fatal", "sync/atomic.OrUint64", "sync/atomic.AddUint64", "internal/race.Read", "sync/atomic.LoadUint64", "sync/atomic.StoreUint64", "internal/synctest.Disassociate[sync.WaitGroup]", "sync.runtime_Semrelease", "(*sync.WaitGroup).Done", "math/bits.Add64", "(*sync.WaitGroup).Wait", "internal/race.Acquire", "internal/synctest.IsAssociated[sync.WaitGroup]", "sync/atomic.CompareAndSwapUint64", "internal/race.Write", "sync.runtime_SemacquireWaitGroup"], unfollowed := true, recurses := true, leaving := true, apart := false, narrowed := true }
def LadderTogetherUptoSaid : Prop := ladderTogetherUptoRow.holds Try.pinned (OpenSpec.upto ladderTogetherSpec)

end Rows
end Go.Proofs.Ytciakfhjjnmeeaa
