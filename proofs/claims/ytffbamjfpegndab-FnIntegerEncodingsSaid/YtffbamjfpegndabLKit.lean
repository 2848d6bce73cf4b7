
/- Small words for the laws of groups. No conditions. -/
import Derived.Test.YtffbamjfpegndabH1
import Derived.Deep.RegionHeld3
import Derived.Test.YtffbamjfpegndabOpen
namespace Go.Proofs.Ytffbamjfpegndab
open Go.RowKit

theorem szGroup_ok (ao : Option Addr) (n cap : Nat) (left : Int) (w : World) (h0 : 0 ≤ left) (h1 : left ≤ 1048576) (h : (n : Int) ≤ left) :
    Calls Try.prog 9 #[.agg #[.slice ao n cap], .int .i64 left] w fun e w' => e = .returned (.int .i64 (left - n)) ∧ Below w.heap.size w w' := by
  have := szGroup_any ao n cap left w (by unfold maxLen; omega) h0 h1
  rw [if_pos h] at this
  exact this
theorem szGroup_big (ao : Option Addr) (n cap : Nat) (left : Int) (w : World) (hn : n ≤ maxLen) (h0 : 0 ≤ left) (h1 : left ≤ 1048576) (h : ¬ (n : Int) ≤ left) :
    Calls Try.prog 9 #[.agg #[.slice ao n cap], .int .i64 left] w fun e w' => e = .returned (.int .i64 (-1)) ∧ Below w.heap.size w w' := by
  have := szGroup_any ao n cap left w hn h0 h1
  rw [if_neg h] at this
  exact this

theorem bgo {a b c : World} (h1 : Below a.heap.size a b) (h2 : Below b.heap.size b c) : Below a.heap.size a c := h1.trans (h2.mono h1.size)
theorem Rd.len_eq {w : World} {B : Nat} {k : IntKind} {ao : Option Addr} {n cap : Nat} {l : List Int} (h : Rd w B k (.slice ao n cap) l) : n = l.length := by
  obtain ⟨_, _, hv, _⟩ := h
  injection hv
theorem Rd.len_le {w : World} {B : Nat} {k : IntKind} {v : Value} {l : List Int} (h : Rd w B k v l) : l.length ≤ maxLen := by
  obtain ⟨_, _, _, h1, h2, _⟩ := h
  omega
theorem int_bd {n : Int} (h : (Lit.int .i64 n).wf = true) : -9223372036854775808 ≤ n ∧ n ≤ 9223372036854775807 := by
  simpa [Lit.wf, IntKind.min, IntKind.max, IntKind.signed, IntKind.bits] using h
theorem eqGroup_same (v1 v2 : Value) (l : List Int) (w : World) (hr1 : Rd w w.heap.size .i64 v1 l) (hr2 : Rd w w.heap.size .i64 v2 l) (hn1 : l.length ≤ 1073741824) :
    Calls Try.prog 14 #[.agg #[v1], .agg #[v2]] w fun e w' => e = .returned (.bool true) ∧ Below w.heap.size w w' := by
  have := eqGroup_any v1 v2 l l w hr1 hr2 hn1
  rw [eqL_self] at this
  exact this
theorem eqIntS_same (v1 v2 : Value) (l : List Int) (w : World) (hr1 : Rd w w.heap.size .i64 v1 l) (hr2 : Rd w w.heap.size .i64 v2 l) (hn1 : l.length ≤ 1073741824) :
    Calls Try.prog 15 #[v1, v2] w fun e w' => e = .returned (.bool true) ∧ Below w.heap.size w w' := by
  have := eqIntS_any v1 v2 l l w hr1 hr2 hn1
  rw [eqL_self] at this
  exact this
end Go.Proofs.Ytffbamjfpegndab
