
/- Small words for the laws of groups. No conditions. -/
import Derived.Test.YtknbfohmobjplaaH1
import Derived.Deep.RegionHeld3
import Derived.Test.YtknbfohmobjplaaOpen
namespace Go.Proofs.Ytknbfohmobjplaa
open Go.RowKit

theorem _root_.Go.RowKit.Below.go {a b c : World} (h1 : Below a.heap.size a b) (h2 : Below b.heap.size b c) : Below a.heap.size a c := h1.trans (h2.mono h1.size)
theorem Rd.len_eq {w : World} {B : Nat} {k : IntKind} {ao : Option Addr} {n cap : Nat} {l : List Int} (h : Rd w B k (.slice ao n cap) l) : n = l.length := by
  obtain ⟨_, _, hv, _⟩ := h
  injection hv
theorem Rd.len_le {w : World} {B : Nat} {k : IntKind} {v : Value} {l : List Int} (h : Rd w B k v l) : l.length ≤ maxLen := by
  obtain ⟨_, _, _, h1, h2, _⟩ := h
  omega
theorem int_bd {n : Int} (h : (Lit.int .i64 n).wf = true) : -9223372036854775808 ≤ n ∧ n ≤ 9223372036854775807 := by
  simpa [Lit.wf, IntKind.min, IntKind.max, IntKind.signed, IntKind.bits] using h
end Go.Proofs.Ytknbfohmobjplaa
