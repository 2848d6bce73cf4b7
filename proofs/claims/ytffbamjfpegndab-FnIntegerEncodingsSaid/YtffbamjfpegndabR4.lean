
/- What the law of the integer encodings draws. Conditions: codes of at most 2^20 bytes. -/
import Derived.Test.YtffbamjfpegndabR3
namespace Go.Proofs.Ytffbamjfpegndab
set_option linter.unusedVariables false
set_option linter.unusedSimpArgs false
open Go.RowKit

theorem below_cur {w w1 w2 : World} (h : Below w.heap.size w w1) (hg : w1.grownBy w2 (some w.heap.size)) : Below w.heap.size w w2 :=
  h.grown hg h.size fun g hg => by have := Option.some.inj hg; omega
theorem sDrawEncodeVarint_any (v : Value) (l : List Int) (w : World) (hr : Rd w w.heap.size .u8 v l) (hl : l.length ≤ 1048576) (hB : IsB l) :
    Calls Try.prog 27 #[v] w fun e w' => (∃ x : Int, e = .returned (.int .i64 x) ∧ -9223372036854775808 ≤ x ∧ x ≤ 9223372036854775807) ∧ Below w.heap.size w w' := by
  have hN := hid fun w hr => sl1New_any v l w hr (by omega)
  have hM := hid fun c B w hc => sl1Num_any c B v l w hc (by omega) hB
  replace hB := hid hB
  go_enter Try.func27, Try.ntmps27
  go_wp2_with fail
  refine (hN.out _ hr).mono ?_
  rintro e w1 ⟨rfl, hc1, hb1⟩
  go_wp2_with fail
  refine (hM.out _ _ _ hc1).mono ?_
  rintro e w2 ⟨⟨x, rfl, hx⟩, hc2, hg2⟩
  go_wp2
  go_ret
  exact ⟨⟨_, rfl, hx⟩, below_cur hb1 hg2⟩
theorem sDrawEncodeHex_any (v : Value) (l : List Int) (w : World) (hr : Rd w w.heap.size .u8 v l) (hl : l.length ≤ 1048576) (hB : IsB l) :
    Calls Try.prog 28 #[v] w fun e w' => (∃ t : List Int, e = .returned (.string (strOfNums t)) ∧ IsB t ∧ t.length ≤ 40) ∧ Below w.heap.size w w' := by
  have hN := hid fun w hr => sl1New_any v l w hr (by omega)
  have hM := hid fun c B w hc => sl1Text_any c B v l 40 w hc (by omega) hB (by omega)
  replace hB := hid hB
  go_enter Try.func28, Try.ntmps28
  go_wp2_with fail
  refine (hN.out _ hr).mono ?_
  rintro e w1 ⟨rfl, hc1, hb1⟩
  go_wp2_with fail
  refine (hM.out _ _ _ hc1).mono ?_
  rintro e w2 ⟨⟨x, rfl, hx⟩, hc2, hg2⟩
  go_wp2
  go_ret
  exact ⟨⟨_, rfl, hx⟩, below_cur hb1 hg2⟩
theorem sDrawEncodeFixed_any (v : Value) (l : List Int) (w : World) (hr : Rd w w.heap.size .u8 v l) (hl : l.length ≤ 1048576) (hB : IsB l) :
    Calls Try.prog 31 #[v] w fun e w' => (∃ x k : Int, e = .returned (.tuple #[.int .i64 x, .int .i64 k]) ∧ (-9223372036854775808 ≤ x ∧ x ≤ 9223372036854775807) ∧ -1 ≤ k ∧ k ≤ 8) ∧ Below w.heap.size w w' := by
  have hN := hid fun w hr => sl1New_any v l w hr (by omega)
  have hM := hid fun c B w hc => sl1Num_any c B v l w hc (by omega) hB
  have hY := hid fun c B w hc => sl1Below_any c B v l 10 w hc (by omega) hB (by omega) (by omega)
  replace hB := hid hB
  go_enter Try.func31, Try.ntmps31
  go_wp2_with fail
  refine (hN.out _ hr).mono ?_
  rintro e w1 ⟨rfl, hc1, hb1⟩
  go_wp2_with fail
  refine (hM.out _ _ _ hc1).mono ?_
  rintro e w2 ⟨⟨x, rfl, hx⟩, hc2, hg2⟩
  replace hx := hid hx
  go_wp2_with fail
  refine (hY.out _ _ _ hc2).mono ?_
  rintro e w3 ⟨⟨k, rfl, hk0, hk1⟩, hc3, hg3⟩
  go_wp2
  go_ret2
  exact ⟨⟨_, k - 1, rfl, hx.out, by omega, by omega⟩, below_cur hb1 (grown_trans hg2 hg3)⟩
theorem lbig_any (v : Value) (l : List Int) (w : World) (hr : Rd w w.heap.size .u8 v l) :
    Calls Try.prog 26 #[v] w fun e w' => e = .returned (.bool (decide (1048576 < (l.length : Int)))) ∧ w = w' := by
  obtain ⟨ao, cap, rfl, _, _, hrd⟩ := hr
  replace hrd := hid hrd
  go_enter Try.func26, Try.ntmps26
  go_wp2
  go_ret
  exact ⟨rfl, rfl⟩
end Go.Proofs.Ytffbamjfpegndab
