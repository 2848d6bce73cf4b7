
/- What AddElements, NegateElement, MultipleOf and OrderOfElement compute, the program's and the reference's. Conditions: at most 2^30 orders. -/
import Derived.Test.YtffbamjfpegndabG2
import Derived.Test.YtffbamjfpegndabPlH
import Derived.Test.YtffbamjfpegndabLKit
namespace Go.Proofs.Ytffbamjfpegndab
open Go.RowKit

theorem ihas_at {v : Value} {l : List Int} {x : Int} {b : Bool} {w : World} (hE : isEl l x = b) (hr : Rd w w.heap.size .i64 v l) (hn : l.length ≤ 1073741824) :
    Calls Try.prog 43 #[.agg #[v], .int .i64 x] w fun e w' => e = .returned (.bool b) ∧ Below w.heap.size w w' := by
  rw [← hE]; exact ihas_any v l x w hr hn
theorem sl2Is_at {v : Value} {l : List Int} {x : Int} {b : Bool} {w : World} (hE : isEl l x = b) (hr : Rd w w.heap.size .i64 v l) (hn : l.length ≤ 1073741824) :
    Calls Try.prog 41 #[.agg #[v], .int .i64 x] w fun e w' => e = .returned (.bool b) ∧ Below w.heap.size w w' := by
  rw [← hE]; exact sl2Is_any v l x w hr hn

end Go.Proofs.Ytffbamjfpegndab
