
/- What ShiftSet and NegateSet compute, the program's and the reference's. Conditions: at most 2^20 orders. -/
import Derived.Test.YtffbamjfpegndabS4
namespace Go.Proofs.Ytffbamjfpegndab
open Go.RowKit

end Go.Proofs.Ytffbamjfpegndab
