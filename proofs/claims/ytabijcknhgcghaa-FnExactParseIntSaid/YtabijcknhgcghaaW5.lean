/- What DecodeHex computes, the program's and the reference's. Conditions: strings of at most 2^30 bytes. -/
import Derived.Test.YtabijcknhgcghaaW4
namespace Go.Proofs.Ytabijcknhgcghaa
open Go.RowKit

theorem ihexValue_any (b : Int) (h : 0 ≤ b ∧ b ≤ 255) (w : World) :
    Calls Try.prog 37 #[.int .u8 b] w fun e w' => e = .returned (.int .i64 (hexV b)) ∧ w = w' := by
  obtain ⟨h0, h1⟩ := h
  by_cases c1 : 48 ≤ b
  · by_cases c2 : b ≤ 57
    · have e : hexV b = b - 48 := by unfold hexV; rw [if_pos ⟨c1, c2⟩]
      rw [e]
      clear e
      go_enter Try.func37, Try.ntmps37
      go_wp2
      go_ret
      exact ⟨rfl, rfl⟩
    · by_cases c3 : 97 ≤ b
      · by_cases c4 : b ≤ 102
        · have e : hexV b = b - 97 + 10 := by unfold hexV; rw [if_neg (by omega), if_pos ⟨c3, c4⟩]; omega
          rw [e]
          clear e
          go_enter Try.func37, Try.ntmps37
          go_wp2
          go_ret
          exact ⟨rfl, rfl⟩
        · have e : hexV b = -1 := by unfold hexV; rw [if_neg (by omega), if_neg (by omega)]
          rw [e]
          clear e
          go_enter Try.func37, Try.ntmps37
          go_wp2
          go_ret
          exact ⟨rfl, rfl⟩
      · have e : hexV b = -1 := by unfold hexV; rw [if_neg (by omega), if_neg (by omega)]
        rw [e]
        clear e
        go_enter Try.func37, Try.ntmps37
        go_wp2
        go_ret
        exact ⟨rfl, rfl⟩
  · have e : hexV b = -1 := by unfold hexV; rw [if_neg (by omega), if_neg (by omega)]
    have c3 : ¬ 97 ≤ b := by omega
    rw [e]
    clear e
    go_enter Try.func37, Try.ntmps37
    go_wp2
    go_ret
    exact ⟨rfl, rfl⟩

theorem sl1FromHex_any (b : Int) (w : World) :
    Calls Try.prog 36 #[.int .u8 b] w fun e w' => e = .returned (.int .i64 (hexV b)) ∧ w = w' := by
  have hv := hexV_b b
  go_enter Try.func36, Try.ntmps36
  go_wp2
  go_loop [3] (fun i => ∃ k : Nat, k ≤ 16 ∧ i = .int .i64 k ∧ Hid (∀ j : Nat, j < k → hexV b ≠ j)) (fun i => 16 - (intOf i).toNat)
  case atStart => exact ⟨0, by omega, rfl, fun j hj => by omega⟩
  case round =>
    obtain ⟨k, hk, rfl, hno⟩ := hrel
    by_cases hlt : k < 16
    · have hdb := hexD_b k (by omega)
      have hq := hexD_eq k b (by omega)
      by_cases he : hexV b = k
      · have ht : (hexD (k : Int) == b) = true := by rw [beq_iff_eq]; exact hq.2 he
        replace he := hid he
        clear hq
        go_wp2_with (go_at_call 33; refine (sl1Digit_any _ (by omega) _).mono ?_; rintro e w' ⟨rfl, rfl⟩)
        go_ret
        exact ⟨by rw [he.out]; rfl, rfl⟩
      · have ht : (hexD (k : Int) == b) = false := by rw [beq_eq_false_iff_ne]; exact fun x => he (hq.1 x)
        replace he := hid he
        clear hq
        go_wp2_with (go_at_call 33; refine (sl1Digit_any _ (by omega) _).mono ?_; rintro e w' ⟨rfl, rfl⟩)
        go_round
        case rel => exact ⟨k + 1, by omega, by go_num, fun j hj hx => by
          by_cases hjk : j = k
          · exact he.out (hjk ▸ hx)
          · exact hno.out j (by omega) hx⟩
        case measure => simp [intOf]; omega
    · have hm : hexV b = -1 := by
        by_cases hp : 0 ≤ hexV b
        · obtain ⟨j, hj⟩ := Int.eq_ofNat_of_zero_le hp
          exact absurd hj (hno.out j (by omega))
        · omega
      replace hm := hid hm
      clear hv
      go_wp2
      go_ret
      exact ⟨by rw [hm.out]; rfl, rfl⟩

end Go.Proofs.Ytabijcknhgcghaa
