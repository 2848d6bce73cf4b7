
/- What MultipleOf and OrderOfElement compute, the program's and the reference's. Conditions: at most 2^20 orders. -/
import Derived.Test.YtffbamjfpegndabG3
namespace Go.Proofs.Ytffbamjfpegndab
open Go.RowKit

theorem mulE_bad {l : List Int} {x n : Int} (h : ¬ (-100 ≤ n ∧ n ≤ 100)) : mulE l x n = -1 := by
  unfold mulE
  rw [decide_eq_false h, Bool.and_false]
  rfl
theorem ordGo_step {l : List Int} {x : Int} {f : Nat} {n : Int} : ordGo l x (f + 1) n = if gmul l n x = 0 then n else ordGo l x f (n + 1) := rfl
end Go.Proofs.Ytffbamjfpegndab
