/-
  No cell of these rows narrows 'for every input' (looked for: loops, veiled, ifaces, maps, wideKeys, modest, calm, conditions, laid).
  DERIVED. THE GIVEN ROWS OF THIS SEAT. 6 by the template 'for every input the law returns true; each argument reads behind the call as it read before'; 0 by the template 'total and deterministic' (their statements: YtffbamjfpegndabTotals.lean).
  GIVEN WITH THE SEED: the statements are not yours to turn. If you find one false, say at which input.
  Laid BY PROGRAM, IN A SANDBOX (cutbox-rows.mjs): the forced cells as the released guide's own fill.sh prints them over the translation 21afbc7b4cccb7f0… (all of the seat's roots in one cut). By AI agents, Wed Nov 11 2026. No macro, syntax, notation, axiom, sorry.
-/
import Derived.Test.YtffbamjfpegndabChecked
import GoSem.Claim
import GoSem.ClaimJoined
import GoSem.ClaimMapViews
import Derived.JoinedTies
import Derived.KernelRfl
namespace Go.Proofs.Ytffbamjfpegndab
/- THE CELL 'sum', in the pinned program and in every row, IS THE sha256 OF THE DUMP (.gsa) THAT YtffbamjfpegndabProg.lean LOADS. Nothing in Lean hashes anything: it is a label: what it is worth is what the hold of that sum in a sandbox is worth. -/
noncomputable def Try.pinned : Pinned := { name := "ytffbamjfpegndab", sum := "21afbc7b4cccb7f0f224118de28b33d887e3e53ff485d3b9980dcb1632d3bdd5", checked := Try.checked }
namespace Rows
def none {H : Type} : Left H := { results := [], args := [] }

/-- 'laws.FnExactSetOf': WHATEVER THE INPUT: true; the input reads as it did. -/
def fnExactSetOfSpec : ChangeSpec := { name := "fnExactSetOf", fn := fun _ => fun
  | [d1, d2] => { results := [.lit (.bool true)], args := [d1, d2] }
  | _ => none }
def fnExactSetOfRow : OpenClaim := { program := "ytffbamjfpegndab", sum := "21afbc7b4cccb7f0f224118de28b33d887e3e53ff485d3b9980dcb1632d3bdd5", func := "loop.example/g03402/laws.FnExactSetOf", spec := "fnExactSetOf", apart := false }
def FnExactSetOfSaid : Prop := fnExactSetOfRow.holds Try.pinned (OpenSpec.ofChange fnExactSetOfSpec)

/-- ITS FALSE NEIGHBOUR: 'it returns false'. Refute it at one input. -/
def fnExactSetOfWrong : ChangeSpec := { name := "fnExactSetOf", fn := fun _ => fun
  | [d1, d2] => { results := [.lit (.bool false)], args := [d1, d2] }
  | _ => none }
def FnExactSetOfWrongFalsely : Prop := fnExactSetOfRow.holds Try.pinned (OpenSpec.ofChange fnExactSetOfWrong)

/-- 'laws.FnExactFormatGroup': WHATEVER THE INPUT: true; the input reads as it did. -/
def fnExactFormatGroupSpec : ChangeSpec := { name := "fnExactFormatGroup", fn := fun _ => fun
  | [d] => { results := [.lit (.bool true)], args := [d] }
  | _ => none }
def fnExactFormatGroupRow : OpenClaim := { program := "ytffbamjfpegndab", sum := "21afbc7b4cccb7f0f224118de28b33d887e3e53ff485d3b9980dcb1632d3bdd5", func := "loop.example/g03402/laws.FnExactFormatGroup", spec := "fnExactFormatGroup", apart := false }
def FnExactFormatGroupSaid : Prop := fnExactFormatGroupRow.holds Try.pinned (OpenSpec.ofChange fnExactFormatGroupSpec)

/-- ITS FALSE NEIGHBOUR: 'it returns false'. Refute it at one input. -/
def fnExactFormatGroupWrong : ChangeSpec := { name := "fnExactFormatGroup", fn := fun _ => fun
  | [d] => { results := [.lit (.bool false)], args := [d] }
  | _ => none }
def FnExactFormatGroupWrongFalsely : Prop := fnExactFormatGroupRow.holds Try.pinned (OpenSpec.ofChange fnExactFormatGroupWrong)

/-- 'laws.FnExactParseGroup': WHATEVER THE INPUT: true; the input reads as it did. -/
def fnExactParseGroupSpec : ChangeSpec := { name := "fnExactParseGroup", fn := fun _ => fun
  | [d] => { results := [.lit (.bool true)], args := [d] }
  | _ => none }
def fnExactParseGroupRow : OpenClaim := { program := "ytffbamjfpegndab", sum := "21afbc7b4cccb7f0f224118de28b33d887e3e53ff485d3b9980dcb1632d3bdd5", func := "loop.example/g03402/laws.FnExactParseGroup", spec := "fnExactParseGroup", apart := false }
def FnExactParseGroupSaid : Prop := fnExactParseGroupRow.holds Try.pinned (OpenSpec.ofChange fnExactParseGroupSpec)

/-- ITS FALSE NEIGHBOUR: 'it returns false'. Refute it at one input. -/
def fnExactParseGroupWrong : ChangeSpec := { name := "fnExactParseGroup", fn := fun _ => fun
  | [d] => { results := [.lit (.bool false)], args := [d] }
  | _ => none }
def FnExactParseGroupWrongFalsely : Prop := fnExactParseGroupRow.holds Try.pinned (OpenSpec.ofChange fnExactParseGroupWrong)

/-- 'laws.FnExactFormatSet': WHATEVER THE INPUT: true; the input reads as it did. -/
def fnExactFormatSetSpec : ChangeSpec := { name := "fnExactFormatSet", fn := fun _ => fun
  | [d1, d2] => { results := [.lit (.bool true)], args := [d1, d2] }
  | _ => none }
def fnExactFormatSetRow : OpenClaim := { program := "ytffbamjfpegndab", sum := "21afbc7b4cccb7f0f224118de28b33d887e3e53ff485d3b9980dcb1632d3bdd5", func := "loop.example/g03402/laws.FnExactFormatSet", spec := "fnExactFormatSet", apart := false }
def FnExactFormatSetSaid : Prop := fnExactFormatSetRow.holds Try.pinned (OpenSpec.ofChange fnExactFormatSetSpec)

/-- ITS FALSE NEIGHBOUR: 'it returns false'. Refute it at one input. -/
def fnExactFormatSetWrong : ChangeSpec := { name := "fnExactFormatSet", fn := fun _ => fun
  | [d1, d2] => { results := [.lit (.bool false)], args := [d1, d2] }
  | _ => none }
def FnExactFormatSetWrongFalsely : Prop := fnExactFormatSetRow.holds Try.pinned (OpenSpec.ofChange fnExactFormatSetWrong)

/-- 'laws.FnExactParseSet': WHATEVER THE INPUT: true; the input reads as it did. -/
def fnExactParseSetSpec : ChangeSpec := { name := "fnExactParseSet", fn := fun _ => fun
  | [d1, d2] => { results := [.lit (.bool true)], args := [d1, d2] }
  | _ => none }
def fnExactParseSetRow : OpenClaim := { program := "ytffbamjfpegndab", sum := "21afbc7b4cccb7f0f224118de28b33d887e3e53ff485d3b9980dcb1632d3bdd5", func := "loop.example/g03402/laws.FnExactParseSet", spec := "fnExactParseSet", apart := false }
def FnExactParseSetSaid : Prop := fnExactParseSetRow.holds Try.pinned (OpenSpec.ofChange fnExactParseSetSpec)

/-- ITS FALSE NEIGHBOUR: 'it returns false'. Refute it at one input. -/
def fnExactParseSetWrong : ChangeSpec := { name := "fnExactParseSet", fn := fun _ => fun
  | [d1, d2] => { results := [.lit (.bool false)], args := [d1, d2] }
  | _ => none }
def FnExactParseSetWrongFalsely : Prop := fnExactParseSetRow.holds Try.pinned (OpenSpec.ofChange fnExactParseSetWrong)

/-- 'laws.FnIntegerEncodings': WHATEVER THE INPUT: true; the input reads as it did. -/
def fnIntegerEncodingsSpec : ChangeSpec := { name := "fnIntegerEncodings", fn := fun _ => fun
  | [d] => { results := [.lit (.bool true)], args := [d] }
  | _ => none }
def fnIntegerEncodingsRow : OpenClaim := { program := "ytffbamjfpegndab", sum := "21afbc7b4cccb7f0f224118de28b33d887e3e53ff485d3b9980dcb1632d3bdd5", func := "loop.example/g03402/laws.FnIntegerEncodings", spec := "fnIntegerEncodings", apart := false }
def FnIntegerEncodingsSaid : Prop := fnIntegerEncodingsRow.holds Try.pinned (OpenSpec.ofChange fnIntegerEncodingsSpec)

/-- ITS FALSE NEIGHBOUR: 'it returns false'. Refute it at one input. -/
def fnIntegerEncodingsWrong : ChangeSpec := { name := "fnIntegerEncodings", fn := fun _ => fun
  | [d] => { results := [.lit (.bool false)], args := [d] }
  | _ => none }
def FnIntegerEncodingsWrongFalsely : Prop := fnIntegerEncodingsRow.holds Try.pinned (OpenSpec.ofChange fnIntegerEncodingsWrong)

/- THE SECOND FORM. 'bulk': how many values and letters a reading holds, each counted each time it is reached (what is shared counts as often as it is met; a slice's spare places count too). A statement '..UptoSaid' is the law's where the arguments, and the package variables that the reading takes, are together of bulk at most 1048576: NARROWER than '..Said'. Prove '..Said' where nothing that the law and all that it calls make is longer than what came in: it says more and counts as full. Else prove '..UptoSaid'. A law counts once. -/
mutual
def uptoBulk {H : Type} : DataW H → Nat
  | .lit (.string bytes) => bytes.length + 1
  | .lit _ => 1
  | .nil => 1
  | .ptr d => uptoBulk d + 1
  | .slice elems spare => uptoBulkAll elems + uptoBulkAll spare + 1
  | .agg parts => uptoBulkAll parts + 1
  | .iface _ d => uptoBulk d + 1
  | .map entries => uptoBulkEntries entries + 1
  | .held _ => 1
def uptoBulkAll {H : Type} : List (DataW H) → Nat
  | [] => 0
  | d :: r => uptoBulk d + uptoBulkAll r
def uptoBulkEntries {H : Type} : List (Lit × DataW H) → Nat
  | [] => 0
  | x :: r => uptoBulkEntry x + uptoBulkEntries r
def uptoBulkEntry {H : Type} : Lit × DataW H → Nat
  | (.string bytes, d) => bytes.length + uptoBulk d + 1
  | (_, d) => uptoBulk d + 1
 end
def uptoSmall : (H : Type) → List (DataW H) → Bool := fun _ ds => decide (uptoBulkAll ds ≤ 1048576)
def OpenSpec.upto (s : _root_.Go.ChangeSpec) : _root_.Go.OpenSpec := { _root_.Go.OpenSpec.ofChange s with cond := some uptoSmall }

/-- 'laws.FnExactSetOf', WHERE WHAT IT READS IS OF BULK AT MOST 1048576: true; the input reads as it did. -/
def fnExactSetOfUptoRow : OpenClaim := { program := "ytffbamjfpegndab", sum := "21afbc7b4cccb7f0f224118de28b33d887e3e53ff485d3b9980dcb1632d3bdd5", func := "loop.example/g03402/laws.FnExactSetOf", spec := "fnExactSetOf", apart := false, narrowed := true }
def FnExactSetOfUptoSaid : Prop := fnExactSetOfUptoRow.holds Try.pinned (OpenSpec.upto fnExactSetOfSpec)

/-- 'laws.FnExactFormatGroup', WHERE WHAT IT READS IS OF BULK AT MOST 1048576: true; the input reads as it did. -/
def fnExactFormatGroupUptoRow : OpenClaim := { program := "ytffbamjfpegndab", sum := "21afbc7b4cccb7f0f224118de28b33d887e3e53ff485d3b9980dcb1632d3bdd5", func := "loop.example/g03402/laws.FnExactFormatGroup", spec := "fnExactFormatGroup", apart := false, narrowed := true }
def FnExactFormatGroupUptoSaid : Prop := fnExactFormatGroupUptoRow.holds Try.pinned (OpenSpec.upto fnExactFormatGroupSpec)

/-- 'laws.FnExactParseGroup', WHERE WHAT IT READS IS OF BULK AT MOST 1048576: true; the input reads as it did. -/
def fnExactParseGroupUptoRow : OpenClaim := { program := "ytffbamjfpegndab", sum := "21afbc7b4cccb7f0f224118de28b33d887e3e53ff485d3b9980dcb1632d3bdd5", func := "loop.example/g03402/laws.FnExactParseGroup", spec := "fnExactParseGroup", apart := false, narrowed := true }
def FnExactParseGroupUptoSaid : Prop := fnExactParseGroupUptoRow.holds Try.pinned (OpenSpec.upto fnExactParseGroupSpec)

/-- 'laws.FnExactFormatSet', WHERE WHAT IT READS IS OF BULK AT MOST 1048576: true; the input reads as it did. -/
def fnExactFormatSetUptoRow : OpenClaim := { program := "ytffbamjfpegndab", sum := "21afbc7b4cccb7f0f224118de28b33d887e3e53ff485d3b9980dcb1632d3bdd5", func := "loop.example/g03402/laws.FnExactFormatSet", spec := "fnExactFormatSet", apart := false, narrowed := true }
def FnExactFormatSetUptoSaid : Prop := fnExactFormatSetUptoRow.holds Try.pinned (OpenSpec.upto fnExactFormatSetSpec)

/-- 'laws.FnExactParseSet', WHERE WHAT IT READS IS OF BULK AT MOST 1048576: true; the input reads as it did. -/
def fnExactParseSetUptoRow : OpenClaim := { program := "ytffbamjfpegndab", sum := "21afbc7b4cccb7f0f224118de28b33d887e3e53ff485d3b9980dcb1632d3bdd5", func := "loop.example/g03402/laws.FnExactParseSet", spec := "fnExactParseSet", apart := false, narrowed := true }
def FnExactParseSetUptoSaid : Prop := fnExactParseSetUptoRow.holds Try.pinned (OpenSpec.upto fnExactParseSetSpec)

/-- 'laws.FnIntegerEncodings', WHERE WHAT IT READS IS OF BULK AT MOST 1048576: true; the input reads as it did. -/
def fnIntegerEncodingsUptoRow : OpenClaim := { program := "ytffbamjfpegndab", sum := "21afbc7b4cccb7f0f224118de28b33d887e3e53ff485d3b9980dcb1632d3bdd5", func := "loop.example/g03402/laws.FnIntegerEncodings", spec := "fnIntegerEncodings", apart := false, narrowed := true }
def FnIntegerEncodingsUptoSaid : Prop := fnIntegerEncodingsUptoRow.holds Try.pinned (OpenSpec.upto fnIntegerEncodingsSpec)

end Rows
end Go.Proofs.Ytffbamjfpegndab
