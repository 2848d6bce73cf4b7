
/- What DecodeHex computes, the program's and the reference's. Conditions: strings of at most 2^30 bytes. -/
import Derived.Test.YtffbamjfpegndabW4
namespace Go.Proofs.Ytffbamjfpegndab
open Go.RowKit

theorem ihexValue_any (b : Int) (h : 0 ≤ b ∧ b ≤ 255) (w : World) :
    Calls Try.prog 62 #[.int .u8 b] w fun e w' => e = .returned (.int .i64 (hexV b)) ∧ w = w' := by
  obtain ⟨h0, h1⟩ := h
  by_cases c1 : 48 ≤ b
  · by_cases c2 : b ≤ 57
    · have e : hexV b = b - 48 := by unfold hexV; rw [if_pos ⟨c1, c2⟩]
      rw [e]
      clear e
      go_enter Try.func62, Try.ntmps62
      go_wp2
      go_ret
      exact ⟨rfl, rfl⟩
    · by_cases c3 : 97 ≤ b
      · by_cases c4 : b ≤ 102
        · have e : hexV b = b - 97 + 10 := by unfold hexV; rw [if_neg (by omega), if_pos ⟨c3, c4⟩]; omega
          rw [e]
          clear e
          go_enter Try.func62, Try.ntmps62
          go_wp2
          go_ret
          exact ⟨rfl, rfl⟩
        · have e : hexV b = -1 := by unfold hexV; rw [if_neg (by omega), if_neg (by omega)]
          rw [e]
          clear e
          go_enter Try.func62, Try.ntmps62
          go_wp2
          go_ret
          exact ⟨rfl, rfl⟩
      · have e : hexV b = -1 := by unfold hexV; rw [if_neg (by omega), if_neg (by omega)]
        rw [e]
        clear e
        go_enter Try.func62, Try.ntmps62
        go_wp2
        go_ret
        exact ⟨rfl, rfl⟩
  · have e : hexV b = -1 := by unfold hexV; rw [if_neg (by omega), if_neg (by omega)]
    have c3 : ¬ 97 ≤ b := by omega
    rw [e]
    clear e
    go_enter Try.func62, Try.ntmps62
    go_wp2
    go_ret
    exact ⟨rfl, rfl⟩

end Go.Proofs.Ytffbamjfpegndab
