/-
  No cell of these rows narrows 'for every input' (looked for: loops, veiled, ifaces, maps, wideKeys, modest, calm, conditions, laid).
  DERIVED. THE GIVEN ROWS OF THIS SEAT. 17 by the template 'for every input the law returns true; each argument reads behind the call as it read before'; 0 by the template 'total and deterministic' (their statements: YtdlnacnepalpgaaTotals.lean).
  GIVEN WITH THE SEED: the statements are not yours to turn. If you find one false, say at which input.
  Laid BY PROGRAM, IN A SANDBOX (cutbox-rows.mjs): the forced cells as the released guide's own fill.sh prints them over the translation 3221f9c7fd6d426c… (all of the seat's roots in one cut). By AI agents, Wed Nov 11 2026. No macro, syntax, notation, axiom, sorry.
-/
import Derived.Test.YtdlnacnepalpgaaChecked
import GoSem.Claim
import GoSem.ClaimJoined
import GoSem.ClaimMapViews
import Derived.JoinedTies
import Derived.KernelRfl
namespace Go.Proofs.Ytdlnacnepalpgaa
/- THE CELL 'sum', in the pinned program and in every row, IS THE sha256 OF THE DUMP (.gsa) THAT YtdlnacnepalpgaaProg.lean LOADS. Nothing in Lean hashes anything: it is a label: what it is worth is what the hold of that sum in a sandbox is worth. -/
noncomputable def Try.pinned : Pinned := { name := "ytdlnacnepalpgaa", sum := "3221f9c7fd6d426cf936b50afaf46f2b914016d43c953da621f4ee46c6dd3ffa", checked := Try.checked }
namespace Rows
def none {H : Type} : Left H := { results := [], args := [] }

/-- 'laws.FnExactIsGroup': WHATEVER THE INPUT: true; the input reads as it did. -/
def fnExactIsGroupSpec : ChangeSpec := { name := "fnExactIsGroup", fn := fun _ => fun
  | [d] => { results := [.lit (.bool true)], args := [d] }
  | _ => none }
def fnExactIsGroupRow : OpenClaim := { program := "ytdlnacnepalpgaa", sum := "3221f9c7fd6d426cf936b50afaf46f2b914016d43c953da621f4ee46c6dd3ffa", func := "loop.example/g03402/laws.FnExactIsGroup", spec := "fnExactIsGroup", apart := false }
def FnExactIsGroupSaid : Prop := fnExactIsGroupRow.holds Try.pinned (OpenSpec.ofChange fnExactIsGroupSpec)

/-- ITS FALSE NEIGHBOUR: 'it returns false'. Refute it at one input. -/
def fnExactIsGroupWrong : ChangeSpec := { name := "fnExactIsGroup", fn := fun _ => fun
  | [d] => { results := [.lit (.bool false)], args := [d] }
  | _ => none }
def FnExactIsGroupWrongFalsely : Prop := fnExactIsGroupRow.holds Try.pinned (OpenSpec.ofChange fnExactIsGroupWrong)

/-- 'laws.FnExactOrderOf': WHATEVER THE INPUT: true; the input reads as it did. -/
def fnExactOrderOfSpec : ChangeSpec := { name := "fnExactOrderOf", fn := fun _ => fun
  | [d] => { results := [.lit (.bool true)], args := [d] }
  | _ => none }
def fnExactOrderOfRow : OpenClaim := { program := "ytdlnacnepalpgaa", sum := "3221f9c7fd6d426cf936b50afaf46f2b914016d43c953da621f4ee46c6dd3ffa", func := "loop.example/g03402/laws.FnExactOrderOf", spec := "fnExactOrderOf", apart := false }
def FnExactOrderOfSaid : Prop := fnExactOrderOfRow.holds Try.pinned (OpenSpec.ofChange fnExactOrderOfSpec)

/-- ITS FALSE NEIGHBOUR: 'it returns false'. Refute it at one input. -/
def fnExactOrderOfWrong : ChangeSpec := { name := "fnExactOrderOf", fn := fun _ => fun
  | [d] => { results := [.lit (.bool false)], args := [d] }
  | _ => none }
def FnExactOrderOfWrongFalsely : Prop := fnExactOrderOfRow.holds Try.pinned (OpenSpec.ofChange fnExactOrderOfWrong)

/-- 'laws.FnExactAddElements': WHATEVER THE INPUT: true; the input reads as it did. -/
def fnExactAddElementsSpec : ChangeSpec := { name := "fnExactAddElements", fn := fun _ => fun
  | [d1, d2, d3] => { results := [.lit (.bool true)], args := [d1, d2, d3] }
  | _ => none }
def fnExactAddElementsRow : OpenClaim := { program := "ytdlnacnepalpgaa", sum := "3221f9c7fd6d426cf936b50afaf46f2b914016d43c953da621f4ee46c6dd3ffa", func := "loop.example/g03402/laws.FnExactAddElements", spec := "fnExactAddElements", apart := false }
def FnExactAddElementsSaid : Prop := fnExactAddElementsRow.holds Try.pinned (OpenSpec.ofChange fnExactAddElementsSpec)

/-- ITS FALSE NEIGHBOUR: 'it returns false'. Refute it at one input. -/
def fnExactAddElementsWrong : ChangeSpec := { name := "fnExactAddElements", fn := fun _ => fun
  | [d1, d2, d3] => { results := [.lit (.bool false)], args := [d1, d2, d3] }
  | _ => none }
def FnExactAddElementsWrongFalsely : Prop := fnExactAddElementsRow.holds Try.pinned (OpenSpec.ofChange fnExactAddElementsWrong)

/-- 'laws.FnExactNegateElement': WHATEVER THE INPUT: true; the input reads as it did. -/
def fnExactNegateElementSpec : ChangeSpec := { name := "fnExactNegateElement", fn := fun _ => fun
  | [d1, d2] => { results := [.lit (.bool true)], args := [d1, d2] }
  | _ => none }
def fnExactNegateElementRow : OpenClaim := { program := "ytdlnacnepalpgaa", sum := "3221f9c7fd6d426cf936b50afaf46f2b914016d43c953da621f4ee46c6dd3ffa", func := "loop.example/g03402/laws.FnExactNegateElement", spec := "fnExactNegateElement", apart := false }
def FnExactNegateElementSaid : Prop := fnExactNegateElementRow.holds Try.pinned (OpenSpec.ofChange fnExactNegateElementSpec)

/-- ITS FALSE NEIGHBOUR: 'it returns false'. Refute it at one input. -/
def fnExactNegateElementWrong : ChangeSpec := { name := "fnExactNegateElement", fn := fun _ => fun
  | [d1, d2] => { results := [.lit (.bool false)], args := [d1, d2] }
  | _ => none }
def FnExactNegateElementWrongFalsely : Prop := fnExactNegateElementRow.holds Try.pinned (OpenSpec.ofChange fnExactNegateElementWrong)

/-- 'laws.FnExactMultipleOf': WHATEVER THE INPUT: true; the input reads as it did. -/
def fnExactMultipleOfSpec : ChangeSpec := { name := "fnExactMultipleOf", fn := fun _ => fun
  | [d1, d2, d3] => { results := [.lit (.bool true)], args := [d1, d2, d3] }
  | _ => none }
def fnExactMultipleOfRow : OpenClaim := { program := "ytdlnacnepalpgaa", sum := "3221f9c7fd6d426cf936b50afaf46f2b914016d43c953da621f4ee46c6dd3ffa", func := "loop.example/g03402/laws.FnExactMultipleOf", spec := "fnExactMultipleOf", apart := false }
def FnExactMultipleOfSaid : Prop := fnExactMultipleOfRow.holds Try.pinned (OpenSpec.ofChange fnExactMultipleOfSpec)

/-- ITS FALSE NEIGHBOUR: 'it returns false'. Refute it at one input. -/
def fnExactMultipleOfWrong : ChangeSpec := { name := "fnExactMultipleOf", fn := fun _ => fun
  | [d1, d2, d3] => { results := [.lit (.bool false)], args := [d1, d2, d3] }
  | _ => none }
def FnExactMultipleOfWrongFalsely : Prop := fnExactMultipleOfRow.holds Try.pinned (OpenSpec.ofChange fnExactMultipleOfWrong)

/-- 'laws.FnExactOrderOfElement': WHATEVER THE INPUT: true; the input reads as it did. -/
def fnExactOrderOfElementSpec : ChangeSpec := { name := "fnExactOrderOfElement", fn := fun _ => fun
  | [d1, d2] => { results := [.lit (.bool true)], args := [d1, d2] }
  | _ => none }
def fnExactOrderOfElementRow : OpenClaim := { program := "ytdlnacnepalpgaa", sum := "3221f9c7fd6d426cf936b50afaf46f2b914016d43c953da621f4ee46c6dd3ffa", func := "loop.example/g03402/laws.FnExactOrderOfElement", spec := "fnExactOrderOfElement", apart := false }
def FnExactOrderOfElementSaid : Prop := fnExactOrderOfElementRow.holds Try.pinned (OpenSpec.ofChange fnExactOrderOfElementSpec)

/-- ITS FALSE NEIGHBOUR: 'it returns false'. Refute it at one input. -/
def fnExactOrderOfElementWrong : ChangeSpec := { name := "fnExactOrderOfElement", fn := fun _ => fun
  | [d1, d2] => { results := [.lit (.bool false)], args := [d1, d2] }
  | _ => none }
def FnExactOrderOfElementWrongFalsely : Prop := fnExactOrderOfElementRow.holds Try.pinned (OpenSpec.ofChange fnExactOrderOfElementWrong)

/-- 'laws.FnExactExponentOf': WHATEVER THE INPUT: true; the input reads as it did. -/
def fnExactExponentOfSpec : ChangeSpec := { name := "fnExactExponentOf", fn := fun _ => fun
  | [d] => { results := [.lit (.bool true)], args := [d] }
  | _ => none }
def fnExactExponentOfRow : OpenClaim := { program := "ytdlnacnepalpgaa", sum := "3221f9c7fd6d426cf936b50afaf46f2b914016d43c953da621f4ee46c6dd3ffa", func := "loop.example/g03402/laws.FnExactExponentOf", spec := "fnExactExponentOf", apart := false }
def FnExactExponentOfSaid : Prop := fnExactExponentOfRow.holds Try.pinned (OpenSpec.ofChange fnExactExponentOfSpec)

/-- ITS FALSE NEIGHBOUR: 'it returns false'. Refute it at one input. -/
def fnExactExponentOfWrong : ChangeSpec := { name := "fnExactExponentOf", fn := fun _ => fun
  | [d] => { results := [.lit (.bool false)], args := [d] }
  | _ => none }
def FnExactExponentOfWrongFalsely : Prop := fnExactExponentOfRow.holds Try.pinned (OpenSpec.ofChange fnExactExponentOfWrong)

/-- 'laws.FnExactIsSet': WHATEVER THE INPUT: true; the input reads as it did. -/
def fnExactIsSetSpec : ChangeSpec := { name := "fnExactIsSet", fn := fun _ => fun
  | [d1, d2] => { results := [.lit (.bool true)], args := [d1, d2] }
  | _ => none }
def fnExactIsSetRow : OpenClaim := { program := "ytdlnacnepalpgaa", sum := "3221f9c7fd6d426cf936b50afaf46f2b914016d43c953da621f4ee46c6dd3ffa", func := "loop.example/g03402/laws.FnExactIsSet", spec := "fnExactIsSet", apart := false }
def FnExactIsSetSaid : Prop := fnExactIsSetRow.holds Try.pinned (OpenSpec.ofChange fnExactIsSetSpec)

/-- ITS FALSE NEIGHBOUR: 'it returns false'. Refute it at one input. -/
def fnExactIsSetWrong : ChangeSpec := { name := "fnExactIsSet", fn := fun _ => fun
  | [d1, d2] => { results := [.lit (.bool false)], args := [d1, d2] }
  | _ => none }
def FnExactIsSetWrongFalsely : Prop := fnExactIsSetRow.holds Try.pinned (OpenSpec.ofChange fnExactIsSetWrong)

/-- 'laws.FnExactFullSet': WHATEVER THE INPUT: true; the input reads as it did. -/
def fnExactFullSetSpec : ChangeSpec := { name := "fnExactFullSet", fn := fun _ => fun
  | [d] => { results := [.lit (.bool true)], args := [d] }
  | _ => none }
def fnExactFullSetRow : OpenClaim := { program := "ytdlnacnepalpgaa", sum := "3221f9c7fd6d426cf936b50afaf46f2b914016d43c953da621f4ee46c6dd3ffa", func := "loop.example/g03402/laws.FnExactFullSet", spec := "fnExactFullSet", apart := false }
def FnExactFullSetSaid : Prop := fnExactFullSetRow.holds Try.pinned (OpenSpec.ofChange fnExactFullSetSpec)

/-- ITS FALSE NEIGHBOUR: 'it returns false'. Refute it at one input. -/
def fnExactFullSetWrong : ChangeSpec := { name := "fnExactFullSet", fn := fun _ => fun
  | [d] => { results := [.lit (.bool false)], args := [d] }
  | _ => none }
def FnExactFullSetWrongFalsely : Prop := fnExactFullSetRow.holds Try.pinned (OpenSpec.ofChange fnExactFullSetWrong)

/-- 'laws.FnExactCountSet': WHATEVER THE INPUT: true; the input reads as it did. -/
def fnExactCountSetSpec : ChangeSpec := { name := "fnExactCountSet", fn := fun _ => fun
  | [d1, d2] => { results := [.lit (.bool true)], args := [d1, d2] }
  | _ => none }
def fnExactCountSetRow : OpenClaim := { program := "ytdlnacnepalpgaa", sum := "3221f9c7fd6d426cf936b50afaf46f2b914016d43c953da621f4ee46c6dd3ffa", func := "loop.example/g03402/laws.FnExactCountSet", spec := "fnExactCountSet", apart := false }
def FnExactCountSetSaid : Prop := fnExactCountSetRow.holds Try.pinned (OpenSpec.ofChange fnExactCountSetSpec)

/-- ITS FALSE NEIGHBOUR: 'it returns false'. Refute it at one input. -/
def fnExactCountSetWrong : ChangeSpec := { name := "fnExactCountSet", fn := fun _ => fun
  | [d1, d2] => { results := [.lit (.bool false)], args := [d1, d2] }
  | _ => none }
def FnExactCountSetWrongFalsely : Prop := fnExactCountSetRow.holds Try.pinned (OpenSpec.ofChange fnExactCountSetWrong)

/-- 'laws.FnExactShiftSet': WHATEVER THE INPUT: true; the input reads as it did. -/
def fnExactShiftSetSpec : ChangeSpec := { name := "fnExactShiftSet", fn := fun _ => fun
  | [d1, d2, d3] => { results := [.lit (.bool true)], args := [d1, d2, d3] }
  | _ => none }
def fnExactShiftSetRow : OpenClaim := { program := "ytdlnacnepalpgaa", sum := "3221f9c7fd6d426cf936b50afaf46f2b914016d43c953da621f4ee46c6dd3ffa", func := "loop.example/g03402/laws.FnExactShiftSet", spec := "fnExactShiftSet", apart := false }
def FnExactShiftSetSaid : Prop := fnExactShiftSetRow.holds Try.pinned (OpenSpec.ofChange fnExactShiftSetSpec)

/-- ITS FALSE NEIGHBOUR: 'it returns false'. Refute it at one input. -/
def fnExactShiftSetWrong : ChangeSpec := { name := "fnExactShiftSet", fn := fun _ => fun
  | [d1, d2, d3] => { results := [.lit (.bool false)], args := [d1, d2, d3] }
  | _ => none }
def FnExactShiftSetWrongFalsely : Prop := fnExactShiftSetRow.holds Try.pinned (OpenSpec.ofChange fnExactShiftSetWrong)

/-- 'laws.FnExactNegateSet': WHATEVER THE INPUT: true; the input reads as it did. -/
def fnExactNegateSetSpec : ChangeSpec := { name := "fnExactNegateSet", fn := fun _ => fun
  | [d1, d2] => { results := [.lit (.bool true)], args := [d1, d2] }
  | _ => none }
def fnExactNegateSetRow : OpenClaim := { program := "ytdlnacnepalpgaa", sum := "3221f9c7fd6d426cf936b50afaf46f2b914016d43c953da621f4ee46c6dd3ffa", func := "loop.example/g03402/laws.FnExactNegateSet", spec := "fnExactNegateSet", apart := false }
def FnExactNegateSetSaid : Prop := fnExactNegateSetRow.holds Try.pinned (OpenSpec.ofChange fnExactNegateSetSpec)

/-- ITS FALSE NEIGHBOUR: 'it returns false'. Refute it at one input. -/
def fnExactNegateSetWrong : ChangeSpec := { name := "fnExactNegateSet", fn := fun _ => fun
  | [d1, d2] => { results := [.lit (.bool false)], args := [d1, d2] }
  | _ => none }
def FnExactNegateSetWrongFalsely : Prop := fnExactNegateSetRow.holds Try.pinned (OpenSpec.ofChange fnExactNegateSetWrong)

/-- 'laws.FnExactDilateSet': WHATEVER THE INPUT: true; the input reads as it did. -/
def fnExactDilateSetSpec : ChangeSpec := { name := "fnExactDilateSet", fn := fun _ => fun
  | [d1, d2, d3] => { results := [.lit (.bool true)], args := [d1, d2, d3] }
  | _ => none }
def fnExactDilateSetRow : OpenClaim := { program := "ytdlnacnepalpgaa", sum := "3221f9c7fd6d426cf936b50afaf46f2b914016d43c953da621f4ee46c6dd3ffa", func := "loop.example/g03402/laws.FnExactDilateSet", spec := "fnExactDilateSet", apart := false }
def FnExactDilateSetSaid : Prop := fnExactDilateSetRow.holds Try.pinned (OpenSpec.ofChange fnExactDilateSetSpec)

/-- ITS FALSE NEIGHBOUR: 'it returns false'. Refute it at one input. -/
def fnExactDilateSetWrong : ChangeSpec := { name := "fnExactDilateSet", fn := fun _ => fun
  | [d1, d2, d3] => { results := [.lit (.bool false)], args := [d1, d2, d3] }
  | _ => none }
def FnExactDilateSetWrongFalsely : Prop := fnExactDilateSetRow.holds Try.pinned (OpenSpec.ofChange fnExactDilateSetWrong)

/-- 'laws.FnExactListOf': WHATEVER THE INPUT: true; the input reads as it did. -/
def fnExactListOfSpec : ChangeSpec := { name := "fnExactListOf", fn := fun _ => fun
  | [d1, d2] => { results := [.lit (.bool true)], args := [d1, d2] }
  | _ => none }
def fnExactListOfRow : OpenClaim := { program := "ytdlnacnepalpgaa", sum := "3221f9c7fd6d426cf936b50afaf46f2b914016d43c953da621f4ee46c6dd3ffa", func := "loop.example/g03402/laws.FnExactListOf", spec := "fnExactListOf", apart := false }
def FnExactListOfSaid : Prop := fnExactListOfRow.holds Try.pinned (OpenSpec.ofChange fnExactListOfSpec)

/-- ITS FALSE NEIGHBOUR: 'it returns false'. Refute it at one input. -/
def fnExactListOfWrong : ChangeSpec := { name := "fnExactListOf", fn := fun _ => fun
  | [d1, d2] => { results := [.lit (.bool false)], args := [d1, d2] }
  | _ => none }
def FnExactListOfWrongFalsely : Prop := fnExactListOfRow.holds Try.pinned (OpenSpec.ofChange fnExactListOfWrong)

/-- 'laws.FnExactPlacesOf': WHATEVER THE INPUT: true; the input reads as it did. -/
def fnExactPlacesOfSpec : ChangeSpec := { name := "fnExactPlacesOf", fn := fun _ => fun
  | [d1, d2] => { results := [.lit (.bool true)], args := [d1, d2] }
  | _ => none }
def fnExactPlacesOfRow : OpenClaim := { program := "ytdlnacnepalpgaa", sum := "3221f9c7fd6d426cf936b50afaf46f2b914016d43c953da621f4ee46c6dd3ffa", func := "loop.example/g03402/laws.FnExactPlacesOf", spec := "fnExactPlacesOf", apart := false }
def FnExactPlacesOfSaid : Prop := fnExactPlacesOfRow.holds Try.pinned (OpenSpec.ofChange fnExactPlacesOfSpec)

/-- ITS FALSE NEIGHBOUR: 'it returns false'. Refute it at one input. -/
def fnExactPlacesOfWrong : ChangeSpec := { name := "fnExactPlacesOf", fn := fun _ => fun
  | [d1, d2] => { results := [.lit (.bool false)], args := [d1, d2] }
  | _ => none }
def FnExactPlacesOfWrongFalsely : Prop := fnExactPlacesOfRow.holds Try.pinned (OpenSpec.ofChange fnExactPlacesOfWrong)

/-- 'laws.FnExactEqualGroups': WHATEVER THE INPUT: true; the input reads as it did. -/
def fnExactEqualGroupsSpec : ChangeSpec := { name := "fnExactEqualGroups", fn := fun _ => fun
  | [d1, d2] => { results := [.lit (.bool true)], args := [d1, d2] }
  | _ => none }
def fnExactEqualGroupsRow : OpenClaim := { program := "ytdlnacnepalpgaa", sum := "3221f9c7fd6d426cf936b50afaf46f2b914016d43c953da621f4ee46c6dd3ffa", func := "loop.example/g03402/laws.FnExactEqualGroups", spec := "fnExactEqualGroups", apart := false }
def FnExactEqualGroupsSaid : Prop := fnExactEqualGroupsRow.holds Try.pinned (OpenSpec.ofChange fnExactEqualGroupsSpec)

/-- ITS FALSE NEIGHBOUR: 'it returns false'. Refute it at one input. -/
def fnExactEqualGroupsWrong : ChangeSpec := { name := "fnExactEqualGroups", fn := fun _ => fun
  | [d1, d2] => { results := [.lit (.bool false)], args := [d1, d2] }
  | _ => none }
def FnExactEqualGroupsWrongFalsely : Prop := fnExactEqualGroupsRow.holds Try.pinned (OpenSpec.ofChange fnExactEqualGroupsWrong)

/-- 'laws.FnExactElementOf': WHATEVER THE INPUT: true; the input reads as it did. -/
def fnExactElementOfSpec : ChangeSpec := { name := "fnExactElementOf", fn := fun _ => fun
  | [d1, d2] => { results := [.lit (.bool true)], args := [d1, d2] }
  | _ => none }
def fnExactElementOfRow : OpenClaim := { program := "ytdlnacnepalpgaa", sum := "3221f9c7fd6d426cf936b50afaf46f2b914016d43c953da621f4ee46c6dd3ffa", func := "loop.example/g03402/laws.FnExactElementOf", spec := "fnExactElementOf", apart := false }
def FnExactElementOfSaid : Prop := fnExactElementOfRow.holds Try.pinned (OpenSpec.ofChange fnExactElementOfSpec)

/-- ITS FALSE NEIGHBOUR: 'it returns false'. Refute it at one input. -/
def fnExactElementOfWrong : ChangeSpec := { name := "fnExactElementOf", fn := fun _ => fun
  | [d1, d2] => { results := [.lit (.bool false)], args := [d1, d2] }
  | _ => none }
def FnExactElementOfWrongFalsely : Prop := fnExactElementOfRow.holds Try.pinned (OpenSpec.ofChange fnExactElementOfWrong)

/- THE SECOND FORM. 'bulk': how many values and letters a reading holds, each counted each time it is reached (what is shared counts as often as it is met; a slice's spare places count too). A statement '..UptoSaid' is the law's where the arguments, and the package variables that the reading takes, are together of bulk at most 1048576: NARROWER than '..Said'. Prove '..Said' where nothing that the law and all that it calls make is longer than what came in: it says more and counts as full. Else prove '..UptoSaid'. A law counts once. -/
mutual
def uptoBulk {H : Type} : DataW H → Nat
  | .lit (.string bytes) => bytes.length + 1
  | .lit _ => 1
  | .nil => 1
  | .ptr d => uptoBulk d + 1
  | .slice elems spare => uptoBulkAll elems + uptoBulkAll spare + 1
  | .agg parts => uptoBulkAll parts + 1
  | .iface _ d => uptoBulk d + 1
  | .map entries => uptoBulkEntries entries + 1
  | .held _ => 1
def uptoBulkAll {H : Type} : List (DataW H) → Nat
  | [] => 0
  | d :: r => uptoBulk d + uptoBulkAll r
def uptoBulkEntries {H : Type} : List (Lit × DataW H) → Nat
  | [] => 0
  | x :: r => uptoBulkEntry x + uptoBulkEntries r
def uptoBulkEntry {H : Type} : Lit × DataW H → Nat
  | (.string bytes, d) => bytes.length + uptoBulk d + 1
  | (_, d) => uptoBulk d + 1
 end
def uptoSmall : (H : Type) → List (DataW H) → Bool := fun _ ds => decide (uptoBulkAll ds ≤ 1048576)
def OpenSpec.upto (s : _root_.Go.ChangeSpec) : _root_.Go.OpenSpec := { _root_.Go.OpenSpec.ofChange s with cond := some uptoSmall }

/-- 'laws.FnExactIsGroup', WHERE WHAT IT READS IS OF BULK AT MOST 1048576: true; the input reads as it did. -/
def fnExactIsGroupUptoRow : OpenClaim := { program := "ytdlnacnepalpgaa", sum := "3221f9c7fd6d426cf936b50afaf46f2b914016d43c953da621f4ee46c6dd3ffa", func := "loop.example/g03402/laws.FnExactIsGroup", spec := "fnExactIsGroup", apart := false, narrowed := true }
def FnExactIsGroupUptoSaid : Prop := fnExactIsGroupUptoRow.holds Try.pinned (OpenSpec.upto fnExactIsGroupSpec)

/-- 'laws.FnExactOrderOf', WHERE WHAT IT READS IS OF BULK AT MOST 1048576: true; the input reads as it did. -/
def fnExactOrderOfUptoRow : OpenClaim := { program := "ytdlnacnepalpgaa", sum := "3221f9c7fd6d426cf936b50afaf46f2b914016d43c953da621f4ee46c6dd3ffa", func := "loop.example/g03402/laws.FnExactOrderOf", spec := "fnExactOrderOf", apart := false, narrowed := true }
def FnExactOrderOfUptoSaid : Prop := fnExactOrderOfUptoRow.holds Try.pinned (OpenSpec.upto fnExactOrderOfSpec)

/-- 'laws.FnExactAddElements', WHERE WHAT IT READS IS OF BULK AT MOST 1048576: true; the input reads as it did. -/
def fnExactAddElementsUptoRow : OpenClaim := { program := "ytdlnacnepalpgaa", sum := "3221f9c7fd6d426cf936b50afaf46f2b914016d43c953da621f4ee46c6dd3ffa", func := "loop.example/g03402/laws.FnExactAddElements", spec := "fnExactAddElements", apart := false, narrowed := true }
def FnExactAddElementsUptoSaid : Prop := fnExactAddElementsUptoRow.holds Try.pinned (OpenSpec.upto fnExactAddElementsSpec)

/-- 'laws.FnExactNegateElement', WHERE WHAT IT READS IS OF BULK AT MOST 1048576: true; the input reads as it did. -/
def fnExactNegateElementUptoRow : OpenClaim := { program := "ytdlnacnepalpgaa", sum := "3221f9c7fd6d426cf936b50afaf46f2b914016d43c953da621f4ee46c6dd3ffa", func := "loop.example/g03402/laws.FnExactNegateElement", spec := "fnExactNegateElement", apart := false, narrowed := true }
def FnExactNegateElementUptoSaid : Prop := fnExactNegateElementUptoRow.holds Try.pinned (OpenSpec.upto fnExactNegateElementSpec)

/-- 'laws.FnExactMultipleOf', WHERE WHAT IT READS IS OF BULK AT MOST 1048576: true; the input reads as it did. -/
def fnExactMultipleOfUptoRow : OpenClaim := { program := "ytdlnacnepalpgaa", sum := "3221f9c7fd6d426cf936b50afaf46f2b914016d43c953da621f4ee46c6dd3ffa", func := "loop.example/g03402/laws.FnExactMultipleOf", spec := "fnExactMultipleOf", apart := false, narrowed := true }
def FnExactMultipleOfUptoSaid : Prop := fnExactMultipleOfUptoRow.holds Try.pinned (OpenSpec.upto fnExactMultipleOfSpec)

/-- 'laws.FnExactOrderOfElement', WHERE WHAT IT READS IS OF BULK AT MOST 1048576: true; the input reads as it did. -/
def fnExactOrderOfElementUptoRow : OpenClaim := { program := "ytdlnacnepalpgaa", sum := "3221f9c7fd6d426cf936b50afaf46f2b914016d43c953da621f4ee46c6dd3ffa", func := "loop.example/g03402/laws.FnExactOrderOfElement", spec := "fnExactOrderOfElement", apart := false, narrowed := true }
def FnExactOrderOfElementUptoSaid : Prop := fnExactOrderOfElementUptoRow.holds Try.pinned (OpenSpec.upto fnExactOrderOfElementSpec)

/-- 'laws.FnExactExponentOf', WHERE WHAT IT READS IS OF BULK AT MOST 1048576: true; the input reads as it did. -/
def fnExactExponentOfUptoRow : OpenClaim := { program := "ytdlnacnepalpgaa", sum := "3221f9c7fd6d426cf936b50afaf46f2b914016d43c953da621f4ee46c6dd3ffa", func := "loop.example/g03402/laws.FnExactExponentOf", spec := "fnExactExponentOf", apart := false, narrowed := true }
def FnExactExponentOfUptoSaid : Prop := fnExactExponentOfUptoRow.holds Try.pinned (OpenSpec.upto fnExactExponentOfSpec)

/-- 'laws.FnExactIsSet', WHERE WHAT IT READS IS OF BULK AT MOST 1048576: true; the input reads as it did. -/
def fnExactIsSetUptoRow : OpenClaim := { program := "ytdlnacnepalpgaa", sum := "3221f9c7fd6d426cf936b50afaf46f2b914016d43c953da621f4ee46c6dd3ffa", func := "loop.example/g03402/laws.FnExactIsSet", spec := "fnExactIsSet", apart := false, narrowed := true }
def FnExactIsSetUptoSaid : Prop := fnExactIsSetUptoRow.holds Try.pinned (OpenSpec.upto fnExactIsSetSpec)

/-- 'laws.FnExactFullSet', WHERE WHAT IT READS IS OF BULK AT MOST 1048576: true; the input reads as it did. -/
def fnExactFullSetUptoRow : OpenClaim := { program := "ytdlnacnepalpgaa", sum := "3221f9c7fd6d426cf936b50afaf46f2b914016d43c953da621f4ee46c6dd3ffa", func := "loop.example/g03402/laws.FnExactFullSet", spec := "fnExactFullSet", apart := false, narrowed := true }
def FnExactFullSetUptoSaid : Prop := fnExactFullSetUptoRow.holds Try.pinned (OpenSpec.upto fnExactFullSetSpec)

/-- 'laws.FnExactCountSet', WHERE WHAT IT READS IS OF BULK AT MOST 1048576: true; the input reads as it did. -/
def fnExactCountSetUptoRow : OpenClaim := { program := "ytdlnacnepalpgaa", sum := "3221f9c7fd6d426cf936b50afaf46f2b914016d43c953da621f4ee46c6dd3ffa", func := "loop.example/g03402/laws.FnExactCountSet", spec := "fnExactCountSet", apart := false, narrowed := true }
def FnExactCountSetUptoSaid : Prop := fnExactCountSetUptoRow.holds Try.pinned (OpenSpec.upto fnExactCountSetSpec)

/-- 'laws.FnExactShiftSet', WHERE WHAT IT READS IS OF BULK AT MOST 1048576: true; the input reads as it did. -/
def fnExactShiftSetUptoRow : OpenClaim := { program := "ytdlnacnepalpgaa", sum := "3221f9c7fd6d426cf936b50afaf46f2b914016d43c953da621f4ee46c6dd3ffa", func := "loop.example/g03402/laws.FnExactShiftSet", spec := "fnExactShiftSet", apart := false, narrowed := true }
def FnExactShiftSetUptoSaid : Prop := fnExactShiftSetUptoRow.holds Try.pinned (OpenSpec.upto fnExactShiftSetSpec)

/-- 'laws.FnExactNegateSet', WHERE WHAT IT READS IS OF BULK AT MOST 1048576: true; the input reads as it did. -/
def fnExactNegateSetUptoRow : OpenClaim := { program := "ytdlnacnepalpgaa", sum := "3221f9c7fd6d426cf936b50afaf46f2b914016d43c953da621f4ee46c6dd3ffa", func := "loop.example/g03402/laws.FnExactNegateSet", spec := "fnExactNegateSet", apart := false, narrowed := true }
def FnExactNegateSetUptoSaid : Prop := fnExactNegateSetUptoRow.holds Try.pinned (OpenSpec.upto fnExactNegateSetSpec)

/-- 'laws.FnExactDilateSet', WHERE WHAT IT READS IS OF BULK AT MOST 1048576: true; the input reads as it did. -/
def fnExactDilateSetUptoRow : OpenClaim := { program := "ytdlnacnepalpgaa", sum := "3221f9c7fd6d426cf936b50afaf46f2b914016d43c953da621f4ee46c6dd3ffa", func := "loop.example/g03402/laws.FnExactDilateSet", spec := "fnExactDilateSet", apart := false, narrowed := true }
def FnExactDilateSetUptoSaid : Prop := fnExactDilateSetUptoRow.holds Try.pinned (OpenSpec.upto fnExactDilateSetSpec)

/-- 'laws.FnExactListOf', WHERE WHAT IT READS IS OF BULK AT MOST 1048576: true; the input reads as it did. -/
def fnExactListOfUptoRow : OpenClaim := { program := "ytdlnacnepalpgaa", sum := "3221f9c7fd6d426cf936b50afaf46f2b914016d43c953da621f4ee46c6dd3ffa", func := "loop.example/g03402/laws.FnExactListOf", spec := "fnExactListOf", apart := false, narrowed := true }
def FnExactListOfUptoSaid : Prop := fnExactListOfUptoRow.holds Try.pinned (OpenSpec.upto fnExactListOfSpec)

/-- 'laws.FnExactPlacesOf', WHERE WHAT IT READS IS OF BULK AT MOST 1048576: true; the input reads as it did. -/
def fnExactPlacesOfUptoRow : OpenClaim := { program := "ytdlnacnepalpgaa", sum := "3221f9c7fd6d426cf936b50afaf46f2b914016d43c953da621f4ee46c6dd3ffa", func := "loop.example/g03402/laws.FnExactPlacesOf", spec := "fnExactPlacesOf", apart := false, narrowed := true }
def FnExactPlacesOfUptoSaid : Prop := fnExactPlacesOfUptoRow.holds Try.pinned (OpenSpec.upto fnExactPlacesOfSpec)

/-- 'laws.FnExactEqualGroups', WHERE WHAT IT READS IS OF BULK AT MOST 1048576: true; the input reads as it did. -/
def fnExactEqualGroupsUptoRow : OpenClaim := { program := "ytdlnacnepalpgaa", sum := "3221f9c7fd6d426cf936b50afaf46f2b914016d43c953da621f4ee46c6dd3ffa", func := "loop.example/g03402/laws.FnExactEqualGroups", spec := "fnExactEqualGroups", apart := false, narrowed := true }
def FnExactEqualGroupsUptoSaid : Prop := fnExactEqualGroupsUptoRow.holds Try.pinned (OpenSpec.upto fnExactEqualGroupsSpec)

/-- 'laws.FnExactElementOf', WHERE WHAT IT READS IS OF BULK AT MOST 1048576: true; the input reads as it did. -/
def fnExactElementOfUptoRow : OpenClaim := { program := "ytdlnacnepalpgaa", sum := "3221f9c7fd6d426cf936b50afaf46f2b914016d43c953da621f4ee46c6dd3ffa", func := "loop.example/g03402/laws.FnExactElementOf", spec := "fnExactElementOf", apart := false, narrowed := true }
def FnExactElementOfUptoSaid : Prop := fnExactElementOfUptoRow.holds Try.pinned (OpenSpec.upto fnExactElementOfSpec)

end Rows
end Go.Proofs.Ytdlnacnepalpgaa
