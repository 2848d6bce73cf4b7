/-
  No cell of these rows narrows 'for every input' (looked for: loops, veiled, ifaces, maps, wideKeys, modest, calm, conditions, laid).
  DERIVED. THE GIVEN ROWS OF THIS SEAT. 18 by the template 'for every input the law returns true; each argument reads behind the call as it read before'; 0 by the template 'total and deterministic' (their statements: YtffbamjfpegndaaTotals.lean).
  GIVEN WITH THE SEED: the statements are not yours to turn. If you find one false, say at which input.
  Laid BY PROGRAM, IN A SANDBOX (cutbox-rows.mjs): the forced cells as the released guide's own fill.sh prints them over the translation 5523293bf109535a… (all of the seat's roots in one cut). By AI agents, Wed Nov 11 2026. No macro, syntax, notation, axiom, sorry.
-/
import Derived.Test.YtffbamjfpegndaaChecked
import GoSem.Claim
import GoSem.ClaimJoined
import GoSem.ClaimMapViews
import Derived.JoinedTies
import Derived.KernelRfl
namespace Go.Proofs.Ytffbamjfpegndaa
/- THE CELL 'sum', in the pinned program and in every row, IS THE sha256 OF THE DUMP (.gsa) THAT YtffbamjfpegndaaProg.lean LOADS. Nothing in Lean hashes anything: it is a label: what it is worth is what the hold of that sum in a sandbox is worth. -/
noncomputable def Try.pinned : Pinned := { name := "ytffbamjfpegndaa", sum := "5523293bf109535a89eb7ad7cb4d14214a6e452ec87ceb6f92e302c3f24c5143", checked := Try.checked }
namespace Rows
def none {H : Type} : Left H := { results := [], args := [] }

/-- 'laws.FnExactSumOfSets': WHATEVER THE INPUT: true; the input reads as it did. -/
def fnExactSumOfSetsSpec : ChangeSpec := { name := "fnExactSumOfSets", fn := fun _ => fun
  | [d1, d2, d3] => { results := [.lit (.bool true)], args := [d1, d2, d3] }
  | _ => none }
def fnExactSumOfSetsRow : OpenClaim := { program := "ytffbamjfpegndaa", sum := "5523293bf109535a89eb7ad7cb4d14214a6e452ec87ceb6f92e302c3f24c5143", func := "loop.example/g03402/laws.FnExactSumOfSets", spec := "fnExactSumOfSets", apart := false }
def FnExactSumOfSetsSaid : Prop := fnExactSumOfSetsRow.holds Try.pinned (OpenSpec.ofChange fnExactSumOfSetsSpec)

/-- ITS FALSE NEIGHBOUR: 'it returns false'. Refute it at one input. -/
def fnExactSumOfSetsWrong : ChangeSpec := { name := "fnExactSumOfSets", fn := fun _ => fun
  | [d1, d2, d3] => { results := [.lit (.bool false)], args := [d1, d2, d3] }
  | _ => none }
def FnExactSumOfSetsWrongFalsely : Prop := fnExactSumOfSetsRow.holds Try.pinned (OpenSpec.ofChange fnExactSumOfSetsWrong)

/-- 'laws.FnExactDifferenceOfSets': WHATEVER THE INPUT: true; the input reads as it did. -/
def fnExactDifferenceOfSetsSpec : ChangeSpec := { name := "fnExactDifferenceOfSets", fn := fun _ => fun
  | [d1, d2, d3] => { results := [.lit (.bool true)], args := [d1, d2, d3] }
  | _ => none }
def fnExactDifferenceOfSetsRow : OpenClaim := { program := "ytffbamjfpegndaa", sum := "5523293bf109535a89eb7ad7cb4d14214a6e452ec87ceb6f92e302c3f24c5143", func := "loop.example/g03402/laws.FnExactDifferenceOfSets", spec := "fnExactDifferenceOfSets", apart := false }
def FnExactDifferenceOfSetsSaid : Prop := fnExactDifferenceOfSetsRow.holds Try.pinned (OpenSpec.ofChange fnExactDifferenceOfSetsSpec)

/-- ITS FALSE NEIGHBOUR: 'it returns false'. Refute it at one input. -/
def fnExactDifferenceOfSetsWrong : ChangeSpec := { name := "fnExactDifferenceOfSets", fn := fun _ => fun
  | [d1, d2, d3] => { results := [.lit (.bool false)], args := [d1, d2, d3] }
  | _ => none }
def FnExactDifferenceOfSetsWrongFalsely : Prop := fnExactDifferenceOfSetsRow.holds Try.pinned (OpenSpec.ofChange fnExactDifferenceOfSetsWrong)

/-- 'laws.FnExactMultipleSum': WHATEVER THE INPUT: true; the input reads as it did. -/
def fnExactMultipleSumSpec : ChangeSpec := { name := "fnExactMultipleSum", fn := fun _ => fun
  | [d1, d2, d3] => { results := [.lit (.bool true)], args := [d1, d2, d3] }
  | _ => none }
def fnExactMultipleSumRow : OpenClaim := { program := "ytffbamjfpegndaa", sum := "5523293bf109535a89eb7ad7cb4d14214a6e452ec87ceb6f92e302c3f24c5143", func := "loop.example/g03402/laws.FnExactMultipleSum", spec := "fnExactMultipleSum", apart := false }
def FnExactMultipleSumSaid : Prop := fnExactMultipleSumRow.holds Try.pinned (OpenSpec.ofChange fnExactMultipleSumSpec)

/-- ITS FALSE NEIGHBOUR: 'it returns false'. Refute it at one input. -/
def fnExactMultipleSumWrong : ChangeSpec := { name := "fnExactMultipleSum", fn := fun _ => fun
  | [d1, d2, d3] => { results := [.lit (.bool false)], args := [d1, d2, d3] }
  | _ => none }
def FnExactMultipleSumWrongFalsely : Prop := fnExactMultipleSumRow.holds Try.pinned (OpenSpec.ofChange fnExactMultipleSumWrong)

/-- 'laws.FnExactRestrictedSum': WHATEVER THE INPUT: true; the input reads as it did. -/
def fnExactRestrictedSumSpec : ChangeSpec := { name := "fnExactRestrictedSum", fn := fun _ => fun
  | [d1, d2, d3] => { results := [.lit (.bool true)], args := [d1, d2, d3] }
  | _ => none }
def fnExactRestrictedSumRow : OpenClaim := { program := "ytffbamjfpegndaa", sum := "5523293bf109535a89eb7ad7cb4d14214a6e452ec87ceb6f92e302c3f24c5143", func := "loop.example/g03402/laws.FnExactRestrictedSum", spec := "fnExactRestrictedSum", apart := false }
def FnExactRestrictedSumSaid : Prop := fnExactRestrictedSumRow.holds Try.pinned (OpenSpec.ofChange fnExactRestrictedSumSpec)

/-- ITS FALSE NEIGHBOUR: 'it returns false'. Refute it at one input. -/
def fnExactRestrictedSumWrong : ChangeSpec := { name := "fnExactRestrictedSum", fn := fun _ => fun
  | [d1, d2, d3] => { results := [.lit (.bool false)], args := [d1, d2, d3] }
  | _ => none }
def FnExactRestrictedSumWrongFalsely : Prop := fnExactRestrictedSumRow.holds Try.pinned (OpenSpec.ofChange fnExactRestrictedSumWrong)

/-- 'laws.FnExactCountSums': WHATEVER THE INPUT: true; the input reads as it did. -/
def fnExactCountSumsSpec : ChangeSpec := { name := "fnExactCountSums", fn := fun _ => fun
  | [d1, d2, d3, d4] => { results := [.lit (.bool true)], args := [d1, d2, d3, d4] }
  | _ => none }
def fnExactCountSumsRow : OpenClaim := { program := "ytffbamjfpegndaa", sum := "5523293bf109535a89eb7ad7cb4d14214a6e452ec87ceb6f92e302c3f24c5143", func := "loop.example/g03402/laws.FnExactCountSums", spec := "fnExactCountSums", apart := false }
def FnExactCountSumsSaid : Prop := fnExactCountSumsRow.holds Try.pinned (OpenSpec.ofChange fnExactCountSumsSpec)

/-- ITS FALSE NEIGHBOUR: 'it returns false'. Refute it at one input. -/
def fnExactCountSumsWrong : ChangeSpec := { name := "fnExactCountSums", fn := fun _ => fun
  | [d1, d2, d3, d4] => { results := [.lit (.bool false)], args := [d1, d2, d3, d4] }
  | _ => none }
def FnExactCountSumsWrongFalsely : Prop := fnExactCountSumsRow.holds Try.pinned (OpenSpec.ofChange fnExactCountSumsWrong)

/-- 'laws.FnExactSumTable': WHATEVER THE INPUT: true; the input reads as it did. -/
def fnExactSumTableSpec : ChangeSpec := { name := "fnExactSumTable", fn := fun _ => fun
  | [d1, d2, d3] => { results := [.lit (.bool true)], args := [d1, d2, d3] }
  | _ => none }
def fnExactSumTableRow : OpenClaim := { program := "ytffbamjfpegndaa", sum := "5523293bf109535a89eb7ad7cb4d14214a6e452ec87ceb6f92e302c3f24c5143", func := "loop.example/g03402/laws.FnExactSumTable", spec := "fnExactSumTable", apart := false }
def FnExactSumTableSaid : Prop := fnExactSumTableRow.holds Try.pinned (OpenSpec.ofChange fnExactSumTableSpec)

/-- ITS FALSE NEIGHBOUR: 'it returns false'. Refute it at one input. -/
def fnExactSumTableWrong : ChangeSpec := { name := "fnExactSumTable", fn := fun _ => fun
  | [d1, d2, d3] => { results := [.lit (.bool false)], args := [d1, d2, d3] }
  | _ => none }
def FnExactSumTableWrongFalsely : Prop := fnExactSumTableRow.holds Try.pinned (OpenSpec.ofChange fnExactSumTableWrong)

/-- 'laws.FnExactSubsetSums': WHATEVER THE INPUT: true; the input reads as it did. -/
def fnExactSubsetSumsSpec : ChangeSpec := { name := "fnExactSubsetSums", fn := fun _ => fun
  | [d1, d2] => { results := [.lit (.bool true)], args := [d1, d2] }
  | _ => none }
def fnExactSubsetSumsRow : OpenClaim := { program := "ytffbamjfpegndaa", sum := "5523293bf109535a89eb7ad7cb4d14214a6e452ec87ceb6f92e302c3f24c5143", func := "loop.example/g03402/laws.FnExactSubsetSums", spec := "fnExactSubsetSums", apart := false }
def FnExactSubsetSumsSaid : Prop := fnExactSubsetSumsRow.holds Try.pinned (OpenSpec.ofChange fnExactSubsetSumsSpec)

/-- ITS FALSE NEIGHBOUR: 'it returns false'. Refute it at one input. -/
def fnExactSubsetSumsWrong : ChangeSpec := { name := "fnExactSubsetSums", fn := fun _ => fun
  | [d1, d2] => { results := [.lit (.bool false)], args := [d1, d2] }
  | _ => none }
def FnExactSubsetSumsWrongFalsely : Prop := fnExactSubsetSumsRow.holds Try.pinned (OpenSpec.ofChange fnExactSubsetSumsWrong)

/-- 'laws.FnExactGeneratedBy': WHATEVER THE INPUT: true; the input reads as it did. -/
def fnExactGeneratedBySpec : ChangeSpec := { name := "fnExactGeneratedBy", fn := fun _ => fun
  | [d1, d2] => { results := [.lit (.bool true)], args := [d1, d2] }
  | _ => none }
def fnExactGeneratedByRow : OpenClaim := { program := "ytffbamjfpegndaa", sum := "5523293bf109535a89eb7ad7cb4d14214a6e452ec87ceb6f92e302c3f24c5143", func := "loop.example/g03402/laws.FnExactGeneratedBy", spec := "fnExactGeneratedBy", apart := false }
def FnExactGeneratedBySaid : Prop := fnExactGeneratedByRow.holds Try.pinned (OpenSpec.ofChange fnExactGeneratedBySpec)

/-- ITS FALSE NEIGHBOUR: 'it returns false'. Refute it at one input. -/
def fnExactGeneratedByWrong : ChangeSpec := { name := "fnExactGeneratedBy", fn := fun _ => fun
  | [d1, d2] => { results := [.lit (.bool false)], args := [d1, d2] }
  | _ => none }
def FnExactGeneratedByWrongFalsely : Prop := fnExactGeneratedByRow.holds Try.pinned (OpenSpec.ofChange fnExactGeneratedByWrong)

/-- 'laws.FnExactIsSubgroup': WHATEVER THE INPUT: true; the input reads as it did. -/
def fnExactIsSubgroupSpec : ChangeSpec := { name := "fnExactIsSubgroup", fn := fun _ => fun
  | [d1, d2] => { results := [.lit (.bool true)], args := [d1, d2] }
  | _ => none }
def fnExactIsSubgroupRow : OpenClaim := { program := "ytffbamjfpegndaa", sum := "5523293bf109535a89eb7ad7cb4d14214a6e452ec87ceb6f92e302c3f24c5143", func := "loop.example/g03402/laws.FnExactIsSubgroup", spec := "fnExactIsSubgroup", apart := false }
def FnExactIsSubgroupSaid : Prop := fnExactIsSubgroupRow.holds Try.pinned (OpenSpec.ofChange fnExactIsSubgroupSpec)

/-- ITS FALSE NEIGHBOUR: 'it returns false'. Refute it at one input. -/
def fnExactIsSubgroupWrong : ChangeSpec := { name := "fnExactIsSubgroup", fn := fun _ => fun
  | [d1, d2] => { results := [.lit (.bool false)], args := [d1, d2] }
  | _ => none }
def FnExactIsSubgroupWrongFalsely : Prop := fnExactIsSubgroupRow.holds Try.pinned (OpenSpec.ofChange fnExactIsSubgroupWrong)

/-- 'laws.FnExactSubgroupsOf': WHATEVER THE INPUT: true; the input reads as it did. -/
def fnExactSubgroupsOfSpec : ChangeSpec := { name := "fnExactSubgroupsOf", fn := fun _ => fun
  | [d] => { results := [.lit (.bool true)], args := [d] }
  | _ => none }
def fnExactSubgroupsOfRow : OpenClaim := { program := "ytffbamjfpegndaa", sum := "5523293bf109535a89eb7ad7cb4d14214a6e452ec87ceb6f92e302c3f24c5143", func := "loop.example/g03402/laws.FnExactSubgroupsOf", spec := "fnExactSubgroupsOf", recurses := true, apart := false }
def FnExactSubgroupsOfSaid : Prop := fnExactSubgroupsOfRow.holds Try.pinned (OpenSpec.ofChange fnExactSubgroupsOfSpec)

/-- ITS FALSE NEIGHBOUR: 'it returns false'. Refute it at one input. -/
def fnExactSubgroupsOfWrong : ChangeSpec := { name := "fnExactSubgroupsOf", fn := fun _ => fun
  | [d] => { results := [.lit (.bool false)], args := [d] }
  | _ => none }
def FnExactSubgroupsOfWrongFalsely : Prop := fnExactSubgroupsOfRow.holds Try.pinned (OpenSpec.ofChange fnExactSubgroupsOfWrong)

/-- 'laws.FnExactCosetsOf': WHATEVER THE INPUT: true; the input reads as it did. -/
def fnExactCosetsOfSpec : ChangeSpec := { name := "fnExactCosetsOf", fn := fun _ => fun
  | [d1, d2] => { results := [.lit (.bool true)], args := [d1, d2] }
  | _ => none }
def fnExactCosetsOfRow : OpenClaim := { program := "ytffbamjfpegndaa", sum := "5523293bf109535a89eb7ad7cb4d14214a6e452ec87ceb6f92e302c3f24c5143", func := "loop.example/g03402/laws.FnExactCosetsOf", spec := "fnExactCosetsOf", apart := false }
def FnExactCosetsOfSaid : Prop := fnExactCosetsOfRow.holds Try.pinned (OpenSpec.ofChange fnExactCosetsOfSpec)

/-- ITS FALSE NEIGHBOUR: 'it returns false'. Refute it at one input. -/
def fnExactCosetsOfWrong : ChangeSpec := { name := "fnExactCosetsOf", fn := fun _ => fun
  | [d1, d2] => { results := [.lit (.bool false)], args := [d1, d2] }
  | _ => none }
def FnExactCosetsOfWrongFalsely : Prop := fnExactCosetsOfRow.holds Try.pinned (OpenSpec.ofChange fnExactCosetsOfWrong)

/-- 'laws.FnExactCosetNumber': WHATEVER THE INPUT: true; the input reads as it did. -/
def fnExactCosetNumberSpec : ChangeSpec := { name := "fnExactCosetNumber", fn := fun _ => fun
  | [d1, d2, d3] => { results := [.lit (.bool true)], args := [d1, d2, d3] }
  | _ => none }
def fnExactCosetNumberRow : OpenClaim := { program := "ytffbamjfpegndaa", sum := "5523293bf109535a89eb7ad7cb4d14214a6e452ec87ceb6f92e302c3f24c5143", func := "loop.example/g03402/laws.FnExactCosetNumber", spec := "fnExactCosetNumber", unfollowed := true, recurses := true, apart := false }
def FnExactCosetNumberSaid : Prop := fnExactCosetNumberRow.holds Try.pinned (OpenSpec.ofChange fnExactCosetNumberSpec)

/-- ITS FALSE NEIGHBOUR: 'it returns false'. Refute it at one input. -/
def fnExactCosetNumberWrong : ChangeSpec := { name := "fnExactCosetNumber", fn := fun _ => fun
  | [d1, d2, d3] => { results := [.lit (.bool false)], args := [d1, d2, d3] }
  | _ => none }
def FnExactCosetNumberWrongFalsely : Prop := fnExactCosetNumberRow.holds Try.pinned (OpenSpec.ofChange fnExactCosetNumberWrong)

/-- 'laws.FnExactIsCoset': WHATEVER THE INPUT: true; the input reads as it did. -/
def fnExactIsCosetSpec : ChangeSpec := { name := "fnExactIsCoset", fn := fun _ => fun
  | [d1, d2] => { results := [.lit (.bool true)], args := [d1, d2] }
  | _ => none }
def fnExactIsCosetRow : OpenClaim := { program := "ytffbamjfpegndaa", sum := "5523293bf109535a89eb7ad7cb4d14214a6e452ec87ceb6f92e302c3f24c5143", func := "loop.example/g03402/laws.FnExactIsCoset", spec := "fnExactIsCoset", apart := false }
def FnExactIsCosetSaid : Prop := fnExactIsCosetRow.holds Try.pinned (OpenSpec.ofChange fnExactIsCosetSpec)

/-- ITS FALSE NEIGHBOUR: 'it returns false'. Refute it at one input. -/
def fnExactIsCosetWrong : ChangeSpec := { name := "fnExactIsCoset", fn := fun _ => fun
  | [d1, d2] => { results := [.lit (.bool false)], args := [d1, d2] }
  | _ => none }
def FnExactIsCosetWrongFalsely : Prop := fnExactIsCosetRow.holds Try.pinned (OpenSpec.ofChange fnExactIsCosetWrong)

/-- 'laws.FnExactAffineHull': WHATEVER THE INPUT: true; the input reads as it did. -/
def fnExactAffineHullSpec : ChangeSpec := { name := "fnExactAffineHull", fn := fun _ => fun
  | [d1, d2] => { results := [.lit (.bool true)], args := [d1, d2] }
  | _ => none }
def fnExactAffineHullRow : OpenClaim := { program := "ytffbamjfpegndaa", sum := "5523293bf109535a89eb7ad7cb4d14214a6e452ec87ceb6f92e302c3f24c5143", func := "loop.example/g03402/laws.FnExactAffineHull", spec := "fnExactAffineHull", apart := false }
def FnExactAffineHullSaid : Prop := fnExactAffineHullRow.holds Try.pinned (OpenSpec.ofChange fnExactAffineHullSpec)

/-- ITS FALSE NEIGHBOUR: 'it returns false'. Refute it at one input. -/
def fnExactAffineHullWrong : ChangeSpec := { name := "fnExactAffineHull", fn := fun _ => fun
  | [d1, d2] => { results := [.lit (.bool false)], args := [d1, d2] }
  | _ => none }
def FnExactAffineHullWrongFalsely : Prop := fnExactAffineHullRow.holds Try.pinned (OpenSpec.ofChange fnExactAffineHullWrong)

/-- 'laws.FnExactStabilizerOf': WHATEVER THE INPUT: true; the input reads as it did. -/
def fnExactStabilizerOfSpec : ChangeSpec := { name := "fnExactStabilizerOf", fn := fun _ => fun
  | [d1, d2] => { results := [.lit (.bool true)], args := [d1, d2] }
  | _ => none }
def fnExactStabilizerOfRow : OpenClaim := { program := "ytffbamjfpegndaa", sum := "5523293bf109535a89eb7ad7cb4d14214a6e452ec87ceb6f92e302c3f24c5143", func := "loop.example/g03402/laws.FnExactStabilizerOf", spec := "fnExactStabilizerOf", apart := false }
def FnExactStabilizerOfSaid : Prop := fnExactStabilizerOfRow.holds Try.pinned (OpenSpec.ofChange fnExactStabilizerOfSpec)

/-- ITS FALSE NEIGHBOUR: 'it returns false'. Refute it at one input. -/
def fnExactStabilizerOfWrong : ChangeSpec := { name := "fnExactStabilizerOf", fn := fun _ => fun
  | [d1, d2] => { results := [.lit (.bool false)], args := [d1, d2] }
  | _ => none }
def FnExactStabilizerOfWrongFalsely : Prop := fnExactStabilizerOfRow.holds Try.pinned (OpenSpec.ofChange fnExactStabilizerOfWrong)

/-- 'laws.FnExactIsPeriodic': WHATEVER THE INPUT: true; the input reads as it did. -/
def fnExactIsPeriodicSpec : ChangeSpec := { name := "fnExactIsPeriodic", fn := fun _ => fun
  | [d1, d2] => { results := [.lit (.bool true)], args := [d1, d2] }
  | _ => none }
def fnExactIsPeriodicRow : OpenClaim := { program := "ytffbamjfpegndaa", sum := "5523293bf109535a89eb7ad7cb4d14214a6e452ec87ceb6f92e302c3f24c5143", func := "loop.example/g03402/laws.FnExactIsPeriodic", spec := "fnExactIsPeriodic", apart := false }
def FnExactIsPeriodicSaid : Prop := fnExactIsPeriodicRow.holds Try.pinned (OpenSpec.ofChange fnExactIsPeriodicSpec)

/-- ITS FALSE NEIGHBOUR: 'it returns false'. Refute it at one input. -/
def fnExactIsPeriodicWrong : ChangeSpec := { name := "fnExactIsPeriodic", fn := fun _ => fun
  | [d1, d2] => { results := [.lit (.bool false)], args := [d1, d2] }
  | _ => none }
def FnExactIsPeriodicWrongFalsely : Prop := fnExactIsPeriodicRow.holds Try.pinned (OpenSpec.ofChange fnExactIsPeriodicWrong)

/-- 'laws.FnExactFillSet': WHATEVER THE INPUT: true; the input reads as it did. -/
def fnExactFillSetSpec : ChangeSpec := { name := "fnExactFillSet", fn := fun _ => fun
  | [d1, d2, d3] => { results := [.lit (.bool true)], args := [d1, d2, d3] }
  | _ => none }
def fnExactFillSetRow : OpenClaim := { program := "ytffbamjfpegndaa", sum := "5523293bf109535a89eb7ad7cb4d14214a6e452ec87ceb6f92e302c3f24c5143", func := "loop.example/g03402/laws.FnExactFillSet", spec := "fnExactFillSet", apart := false }
def FnExactFillSetSaid : Prop := fnExactFillSetRow.holds Try.pinned (OpenSpec.ofChange fnExactFillSetSpec)

/-- ITS FALSE NEIGHBOUR: 'it returns false'. Refute it at one input. -/
def fnExactFillSetWrong : ChangeSpec := { name := "fnExactFillSet", fn := fun _ => fun
  | [d1, d2, d3] => { results := [.lit (.bool false)], args := [d1, d2, d3] }
  | _ => none }
def FnExactFillSetWrongFalsely : Prop := fnExactFillSetRow.holds Try.pinned (OpenSpec.ofChange fnExactFillSetWrong)

/-- 'laws.FnExactPeriodsOf': WHATEVER THE INPUT: true; the input reads as it did. -/
def fnExactPeriodsOfSpec : ChangeSpec := { name := "fnExactPeriodsOf", fn := fun _ => fun
  | [d1, d2] => { results := [.lit (.bool true)], args := [d1, d2] }
  | _ => none }
def fnExactPeriodsOfRow : OpenClaim := { program := "ytffbamjfpegndaa", sum := "5523293bf109535a89eb7ad7cb4d14214a6e452ec87ceb6f92e302c3f24c5143", func := "loop.example/g03402/laws.FnExactPeriodsOf", spec := "fnExactPeriodsOf", apart := false }
def FnExactPeriodsOfSaid : Prop := fnExactPeriodsOfRow.holds Try.pinned (OpenSpec.ofChange fnExactPeriodsOfSpec)

/-- ITS FALSE NEIGHBOUR: 'it returns false'. Refute it at one input. -/
def fnExactPeriodsOfWrong : ChangeSpec := { name := "fnExactPeriodsOf", fn := fun _ => fun
  | [d1, d2] => { results := [.lit (.bool false)], args := [d1, d2] }
  | _ => none }
def FnExactPeriodsOfWrongFalsely : Prop := fnExactPeriodsOfRow.holds Try.pinned (OpenSpec.ofChange fnExactPeriodsOfWrong)

/- THE SECOND FORM. 'bulk': how many values and letters a reading holds, each counted each time it is reached (what is shared counts as often as it is met; a slice's spare places count too). A statement '..UptoSaid' is the law's where the arguments, and the package variables that the reading takes, are together of bulk at most 1048576: NARROWER than '..Said'. Prove '..Said' where nothing that the law and all that it calls make is longer than what came in: it says more and counts as full. Else prove '..UptoSaid'. A law counts once. -/
mutual
def uptoBulk {H : Type} : DataW H → Nat
  | .lit (.string bytes) => bytes.length + 1
  | .lit _ => 1
  | .nil => 1
  | .ptr d => uptoBulk d + 1
  | .slice elems spare => uptoBulkAll elems + uptoBulkAll spare + 1
  | .agg parts => uptoBulkAll parts + 1
  | .iface _ d => uptoBulk d + 1
  | .map entries => uptoBulkEntries entries + 1
  | .held _ => 1
def uptoBulkAll {H : Type} : List (DataW H) → Nat
  | [] => 0
  | d :: r => uptoBulk d + uptoBulkAll r
def uptoBulkEntries {H : Type} : List (Lit × DataW H) → Nat
  | [] => 0
  | x :: r => uptoBulkEntry x + uptoBulkEntries r
def uptoBulkEntry {H : Type} : Lit × DataW H → Nat
  | (.string bytes, d) => bytes.length + uptoBulk d + 1
  | (_, d) => uptoBulk d + 1
 end
def uptoSmall : (H : Type) → List (DataW H) → Bool := fun _ ds => decide (uptoBulkAll ds ≤ 1048576)
def OpenSpec.upto (s : _root_.Go.ChangeSpec) : _root_.Go.OpenSpec := { _root_.Go.OpenSpec.ofChange s with cond := some uptoSmall }

/-- 'laws.FnExactSumOfSets', WHERE WHAT IT READS IS OF BULK AT MOST 1048576: true; the input reads as it did. -/
def fnExactSumOfSetsUptoRow : OpenClaim := { program := "ytffbamjfpegndaa", sum := "5523293bf109535a89eb7ad7cb4d14214a6e452ec87ceb6f92e302c3f24c5143", func := "loop.example/g03402/laws.FnExactSumOfSets", spec := "fnExactSumOfSets", apart := false, narrowed := true }
def FnExactSumOfSetsUptoSaid : Prop := fnExactSumOfSetsUptoRow.holds Try.pinned (OpenSpec.upto fnExactSumOfSetsSpec)

/-- 'laws.FnExactDifferenceOfSets', WHERE WHAT IT READS IS OF BULK AT MOST 1048576: true; the input reads as it did. -/
def fnExactDifferenceOfSetsUptoRow : OpenClaim := { program := "ytffbamjfpegndaa", sum := "5523293bf109535a89eb7ad7cb4d14214a6e452ec87ceb6f92e302c3f24c5143", func := "loop.example/g03402/laws.FnExactDifferenceOfSets", spec := "fnExactDifferenceOfSets", apart := false, narrowed := true }
def FnExactDifferenceOfSetsUptoSaid : Prop := fnExactDifferenceOfSetsUptoRow.holds Try.pinned (OpenSpec.upto fnExactDifferenceOfSetsSpec)

/-- 'laws.FnExactMultipleSum', WHERE WHAT IT READS IS OF BULK AT MOST 1048576: true; the input reads as it did. -/
def fnExactMultipleSumUptoRow : OpenClaim := { program := "ytffbamjfpegndaa", sum := "5523293bf109535a89eb7ad7cb4d14214a6e452ec87ceb6f92e302c3f24c5143", func := "loop.example/g03402/laws.FnExactMultipleSum", spec := "fnExactMultipleSum", apart := false, narrowed := true }
def FnExactMultipleSumUptoSaid : Prop := fnExactMultipleSumUptoRow.holds Try.pinned (OpenSpec.upto fnExactMultipleSumSpec)

/-- 'laws.FnExactRestrictedSum', WHERE WHAT IT READS IS OF BULK AT MOST 1048576: true; the input reads as it did. -/
def fnExactRestrictedSumUptoRow : OpenClaim := { program := "ytffbamjfpegndaa", sum := "5523293bf109535a89eb7ad7cb4d14214a6e452ec87ceb6f92e302c3f24c5143", func := "loop.example/g03402/laws.FnExactRestrictedSum", spec := "fnExactRestrictedSum", apart := false, narrowed := true }
def FnExactRestrictedSumUptoSaid : Prop := fnExactRestrictedSumUptoRow.holds Try.pinned (OpenSpec.upto fnExactRestrictedSumSpec)

/-- 'laws.FnExactCountSums', WHERE WHAT IT READS IS OF BULK AT MOST 1048576: true; the input reads as it did. -/
def fnExactCountSumsUptoRow : OpenClaim := { program := "ytffbamjfpegndaa", sum := "5523293bf109535a89eb7ad7cb4d14214a6e452ec87ceb6f92e302c3f24c5143", func := "loop.example/g03402/laws.FnExactCountSums", spec := "fnExactCountSums", apart := false, narrowed := true }
def FnExactCountSumsUptoSaid : Prop := fnExactCountSumsUptoRow.holds Try.pinned (OpenSpec.upto fnExactCountSumsSpec)

/-- 'laws.FnExactSumTable', WHERE WHAT IT READS IS OF BULK AT MOST 1048576: true; the input reads as it did. -/
def fnExactSumTableUptoRow : OpenClaim := { program := "ytffbamjfpegndaa", sum := "5523293bf109535a89eb7ad7cb4d14214a6e452ec87ceb6f92e302c3f24c5143", func := "loop.example/g03402/laws.FnExactSumTable", spec := "fnExactSumTable", apart := false, narrowed := true }
def FnExactSumTableUptoSaid : Prop := fnExactSumTableUptoRow.holds Try.pinned (OpenSpec.upto fnExactSumTableSpec)

/-- 'laws.FnExactSubsetSums', WHERE WHAT IT READS IS OF BULK AT MOST 1048576: true; the input reads as it did. -/
def fnExactSubsetSumsUptoRow : OpenClaim := { program := "ytffbamjfpegndaa", sum := "5523293bf109535a89eb7ad7cb4d14214a6e452ec87ceb6f92e302c3f24c5143", func := "loop.example/g03402/laws.FnExactSubsetSums", spec := "fnExactSubsetSums", apart := false, narrowed := true }
def FnExactSubsetSumsUptoSaid : Prop := fnExactSubsetSumsUptoRow.holds Try.pinned (OpenSpec.upto fnExactSubsetSumsSpec)

/-- 'laws.FnExactGeneratedBy', WHERE WHAT IT READS IS OF BULK AT MOST 1048576: true; the input reads as it did. -/
def fnExactGeneratedByUptoRow : OpenClaim := { program := "ytffbamjfpegndaa", sum := "5523293bf109535a89eb7ad7cb4d14214a6e452ec87ceb6f92e302c3f24c5143", func := "loop.example/g03402/laws.FnExactGeneratedBy", spec := "fnExactGeneratedBy", apart := false, narrowed := true }
def FnExactGeneratedByUptoSaid : Prop := fnExactGeneratedByUptoRow.holds Try.pinned (OpenSpec.upto fnExactGeneratedBySpec)

/-- 'laws.FnExactIsSubgroup', WHERE WHAT IT READS IS OF BULK AT MOST 1048576: true; the input reads as it did. -/
def fnExactIsSubgroupUptoRow : OpenClaim := { program := "ytffbamjfpegndaa", sum := "5523293bf109535a89eb7ad7cb4d14214a6e452ec87ceb6f92e302c3f24c5143", func := "loop.example/g03402/laws.FnExactIsSubgroup", spec := "fnExactIsSubgroup", apart := false, narrowed := true }
def FnExactIsSubgroupUptoSaid : Prop := fnExactIsSubgroupUptoRow.holds Try.pinned (OpenSpec.upto fnExactIsSubgroupSpec)

/-- 'laws.FnExactSubgroupsOf', WHERE WHAT IT READS IS OF BULK AT MOST 1048576: true; the input reads as it did. -/
def fnExactSubgroupsOfUptoRow : OpenClaim := { program := "ytffbamjfpegndaa", sum := "5523293bf109535a89eb7ad7cb4d14214a6e452ec87ceb6f92e302c3f24c5143", func := "loop.example/g03402/laws.FnExactSubgroupsOf", spec := "fnExactSubgroupsOf", recurses := true, apart := false, narrowed := true }
def FnExactSubgroupsOfUptoSaid : Prop := fnExactSubgroupsOfUptoRow.holds Try.pinned (OpenSpec.upto fnExactSubgroupsOfSpec)

/-- 'laws.FnExactCosetsOf', WHERE WHAT IT READS IS OF BULK AT MOST 1048576: true; the input reads as it did. -/
def fnExactCosetsOfUptoRow : OpenClaim := { program := "ytffbamjfpegndaa", sum := "5523293bf109535a89eb7ad7cb4d14214a6e452ec87ceb6f92e302c3f24c5143", func := "loop.example/g03402/laws.FnExactCosetsOf", spec := "fnExactCosetsOf", apart := false, narrowed := true }
def FnExactCosetsOfUptoSaid : Prop := fnExactCosetsOfUptoRow.holds Try.pinned (OpenSpec.upto fnExactCosetsOfSpec)

/-- 'laws.FnExactCosetNumber', WHERE WHAT IT READS IS OF BULK AT MOST 1048576: true; the input reads as it did. -/
def fnExactCosetNumberUptoRow : OpenClaim := { program := "ytffbamjfpegndaa", sum := "5523293bf109535a89eb7ad7cb4d14214a6e452ec87ceb6f92e302c3f24c5143", func := "loop.example/g03402/laws.FnExactCosetNumber", spec := "fnExactCosetNumber", unfollowed := true, recurses := true, apart := false, narrowed := true }
def FnExactCosetNumberUptoSaid : Prop := fnExactCosetNumberUptoRow.holds Try.pinned (OpenSpec.upto fnExactCosetNumberSpec)

/-- 'laws.FnExactIsCoset', WHERE WHAT IT READS IS OF BULK AT MOST 1048576: true; the input reads as it did. -/
def fnExactIsCosetUptoRow : OpenClaim := { program := "ytffbamjfpegndaa", sum := "5523293bf109535a89eb7ad7cb4d14214a6e452ec87ceb6f92e302c3f24c5143", func := "loop.example/g03402/laws.FnExactIsCoset", spec := "fnExactIsCoset", apart := false, narrowed := true }
def FnExactIsCosetUptoSaid : Prop := fnExactIsCosetUptoRow.holds Try.pinned (OpenSpec.upto fnExactIsCosetSpec)

/-- 'laws.FnExactAffineHull', WHERE WHAT IT READS IS OF BULK AT MOST 1048576: true; the input reads as it did. -/
def fnExactAffineHullUptoRow : OpenClaim := { program := "ytffbamjfpegndaa", sum := "5523293bf109535a89eb7ad7cb4d14214a6e452ec87ceb6f92e302c3f24c5143", func := "loop.example/g03402/laws.FnExactAffineHull", spec := "fnExactAffineHull", apart := false, narrowed := true }
def FnExactAffineHullUptoSaid : Prop := fnExactAffineHullUptoRow.holds Try.pinned (OpenSpec.upto fnExactAffineHullSpec)

/-- 'laws.FnExactStabilizerOf', WHERE WHAT IT READS IS OF BULK AT MOST 1048576: true; the input reads as it did. -/
def fnExactStabilizerOfUptoRow : OpenClaim := { program := "ytffbamjfpegndaa", sum := "5523293bf109535a89eb7ad7cb4d14214a6e452ec87ceb6f92e302c3f24c5143", func := "loop.example/g03402/laws.FnExactStabilizerOf", spec := "fnExactStabilizerOf", apart := false, narrowed := true }
def FnExactStabilizerOfUptoSaid : Prop := fnExactStabilizerOfUptoRow.holds Try.pinned (OpenSpec.upto fnExactStabilizerOfSpec)

/-- 'laws.FnExactIsPeriodic', WHERE WHAT IT READS IS OF BULK AT MOST 1048576: true; the input reads as it did. -/
def fnExactIsPeriodicUptoRow : OpenClaim := { program := "ytffbamjfpegndaa", sum := "5523293bf109535a89eb7ad7cb4d14214a6e452ec87ceb6f92e302c3f24c5143", func := "loop.example/g03402/laws.FnExactIsPeriodic", spec := "fnExactIsPeriodic", apart := false, narrowed := true }
def FnExactIsPeriodicUptoSaid : Prop := fnExactIsPeriodicUptoRow.holds Try.pinned (OpenSpec.upto fnExactIsPeriodicSpec)

/-- 'laws.FnExactFillSet', WHERE WHAT IT READS IS OF BULK AT MOST 1048576: true; the input reads as it did. -/
def fnExactFillSetUptoRow : OpenClaim := { program := "ytffbamjfpegndaa", sum := "5523293bf109535a89eb7ad7cb4d14214a6e452ec87ceb6f92e302c3f24c5143", func := "loop.example/g03402/laws.FnExactFillSet", spec := "fnExactFillSet", apart := false, narrowed := true }
def FnExactFillSetUptoSaid : Prop := fnExactFillSetUptoRow.holds Try.pinned (OpenSpec.upto fnExactFillSetSpec)

/-- 'laws.FnExactPeriodsOf', WHERE WHAT IT READS IS OF BULK AT MOST 1048576: true; the input reads as it did. -/
def fnExactPeriodsOfUptoRow : OpenClaim := { program := "ytffbamjfpegndaa", sum := "5523293bf109535a89eb7ad7cb4d14214a6e452ec87ceb6f92e302c3f24c5143", func := "loop.example/g03402/laws.FnExactPeriodsOf", spec := "fnExactPeriodsOf", apart := false, narrowed := true }
def FnExactPeriodsOfUptoSaid : Prop := fnExactPeriodsOfUptoRow.holds Try.pinned (OpenSpec.upto fnExactPeriodsOfSpec)

end Rows
end Go.Proofs.Ytffbamjfpegndaa
