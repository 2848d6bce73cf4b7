
/- What ShiftSet and NegateSet compute, the program's and the reference's. Conditions: at most 2^20 orders. -/
import Derived.Test.YtffbamjfpegndaaS4
namespace Go.Proofs.Ytffbamjfpegndaa
open Go.RowKit

theorem sl3Shift_same (v : Value) (l : List Int) (A : Nat) (y : Int) (w : World) (hr : Rd w w.heap.size .i64 v l) (hg : isGroup l = true) (hA : A < 16777216) (hy : 0 ≤ y ∧ y < 24) :
    Calls Try.prog 83 #[.agg #[v], .int .i64 (A : Int), .int .i64 y] w fun e w' => e = .returned (.int .i64 (orL (gadd l y) (memL A) : Nat)) ∧ Below w.heap.size w w' := by
  rw [← orL_congr (f := fun z => gadd l z y) (fun x _ => gadd_comm l x y)]
  exact sl3Shift_any v l A y w hr hg hA hy
end Go.Proofs.Ytffbamjfpegndaa
