
/- The law FnIntegerEncodings, for every code. No conditions. -/
import Derived.Test.YtffbamjfpegndabLpC
namespace Go.Proofs.Ytffbamjfpegndab
open Go.RowKit
theorem fnIntegerEncodings_walk (w : World) (ao : Option Addr) (len cap : Nat) (l : List Int) (w0 : Row .u8 w (.slice ao len cap) l) :
    Calls Try.prog 8 #[.slice ao len cap] w fun e w' => e = .returned (.bool true) ∧ Below w.heap.size w w' := by
  obtain ⟨hr, hwf⟩ := w0
  obtain rfl := hr.len_eq
  by_cases hl : l.length ≤ 1048576
  · refine fnIntegerEncodings_w ao cap l w hr hl fun x hx => ?_
    have h := hwf x hx
    simpa [Lit.wf, IntKind.min, IntKind.max, IntKind.signed, IntKind.bits] using h
  · have hbig := hid fun w hr => lbig_any (.slice ao l.length cap) l w hr
    have e0 : decide (1048576 < (l.length : Int)) = true := by simp; omega
    replace hwf := hid hwf
    go_enter Try.func8, Try.ntmps8
    go_wp2_with fail
    refine (hbig.out _ hr).mono ?_
    rintro e w' ⟨rfl, rfl⟩
    go_wp2
    go_ret
    exact ⟨rfl, Below.refl _ _⟩
end Go.Proofs.Ytffbamjfpegndab
