
/- What the law of the integer encodings draws. Conditions: codes of at most 2^20 bytes. -/
import Derived.Test.YtknbfohmobjplaaR3
namespace Go.Proofs.Ytknbfohmobjplaa
set_option linter.unusedVariables false
set_option linter.unusedSimpArgs false
open Go.RowKit

theorem below_cur {w w1 w2 : World} (h : Below w.heap.size w w1) (hg : w1.grownBy w2 (some w.heap.size)) : Below w.heap.size w w2 :=
  h.grown hg h.size fun g hg => by have := Option.some.inj hg; omega
theorem lbig_any (v : Value) (l : List Int) (w : World) (hr : Rd w w.heap.size .u8 v l) :
    Calls Try.prog 5 #[v] w fun e w' => e = .returned (.bool (decide (1048576 < (l.length : Int)))) ∧ w = w' := by
  obtain ⟨ao, cap, rfl, _, _, hrd⟩ := hr
  replace hrd := hid hrd
  go_enter Try.func5, Try.ntmps5
  go_wp2
  go_ret
  exact ⟨rfl, rfl⟩
end Go.Proofs.Ytknbfohmobjplaa
