
/- The elements of a set as a slice, the program's and the reference's. Conditions: a number below 2^24. -/
import Derived.Test.YtffbamjfpegndabS2
import Derived.Test.YtffbamjfpegndabPlT
namespace Go.Proofs.Ytffbamjfpegndab
open Go.RowKit

theorem imembers_any (A : Nat) (hA : A < 16777216) (w : World) :
    Calls Try.prog 55 #[.int .i64 (A : Int)] w fun e w' => ∃ ao cap, e = .returned (.slice ao (memL A).length cap) ∧ Own w' w.heap.size 3 .i64 (.slice ao (memL A).length cap) (memL A) ∧ Below w.heap.size w w' := by
  replace hA := hid hA
  go_enter Try.func55, Try.ntmps55
  go_wp2
  go_loopw [3, 4] (fun o i wr => ∃ x : Nat, x ≤ 24 ∧ i = .int .i64 x ∧ Own wr w.heap.size 3 .i64 o (memTo A x) ∧ Below w.heap.size w wr) (fun _ i _ => 24 - (intOf i).toNat)
  case atStart => exact ⟨0, by omega, rfl, Own.empty _ _ _ _ (Nat.le_refl _), (Below.refl _ _).alloc (Nat.le_refl _) _⟩
  case round =>
    obtain ⟨x, hx, rfl, hown, hb⟩ := hrel
    have hsz := hb.size
    have hlen := memTo_len A x
    have htb := hid (bit_div A x)
    have e1 : (A : Int) / 2 ^ x = ((A / 2 ^ x : Nat) : Int) := by
      rw [Int.natCast_ediv, Int.natCast_pow]; rfl
    have hSA : A / 2 ^ x ≤ A := Nat.div_le_self _ _
    have hof := @memL_of A x
    have htop : x = 24 → A / 2 ^ x = 0 := fun h => by rw [h]; exact div_top hA.out
    obtain ⟨S, hS⟩ : ∃ S, S = A / 2 ^ x := ⟨_, rfl⟩
    rw [← hS] at htb e1 hSA htop hof
    have hA2 := hA.out
    by_cases h0 : S = 0
    · subst h0
      rw [← hof rfl hx] at hown
      obtain ⟨ao, cap, rfl, hc1, hc2⟩ := hown.shape
      clear htop hS hA2 hof hSA
      go_wp2
      go_ret
      exact ⟨_, _, rfl, hown, hb⟩
    · have hx2 : x < 24 := by
        rcases Nat.lt_or_eq_of_le hx with h | h
        · exact h
        · exact absurd (htop h) h0
      have z1 : ¬ (S : Int) = 0 := by omega
      have z2 : ((S : Int) == 0) = false := by rw [beq_eq_false_iff_ne]; exact z1
      have e2 : bits .and .i64 (S : Int) 1 = ((S % 2 : Nat) : Int) := by
        have := and64_low 1 (S : Int) (by omega) (by omega) (by omega)
        simpa using this
      cases hbit : A.testBit x
      · have hs := hid (memTo_no hbit)
        have hm : S % 2 = 0 := by
          have h := htb.out
          rw [hbit] at h
          have := of_decide_eq_false h.symm
          omega
        rw [hm] at e2
        clear hm htop hS hA2 hof hSA hbit h0
        go_wp2
        go_roundw
        case rel => exact ⟨x + 1, by omega, by go_num, by rw [hs.out]; exact hown, hb⟩
        case measure => simp [intOf]; omega
      · have hs := hid (memTo_yes hbit)
        have hm : S % 2 = 1 := by
          have h := htb.out
          rw [hbit] at h
          exact of_decide_eq_true h.symm
        rw [hm] at e2
        clear hm htop hS hA2 hof hSA hbit h0
        go_wp2_with (at_builtin; refine app1 rfl _ _ rfl Try.underlying22 info_int (by decide) rfl hown rfl (by omega) (by omega) ?_)
        intro v' w' hown' hb' _
        rw [← hs.out] at hown'
        clear hown
        go_wp2
        go_roundw
        case rel => exact ⟨x + 1, by omega, by go_num, hown', hb.trans hb'⟩
        case measure => simp [intOf]; omega
theorem sl3List_any (A : Nat) (hA : A < 16777216) (w : World) :
    Calls Try.prog 65 #[.int .i64 (A : Int)] w fun e w' => ∃ ao cap, e = .returned (.slice ao (memL A).length cap) ∧ Own w' w.heap.size 3 .i64 (.slice ao (memL A).length cap) (memL A) ∧ Below w.heap.size w w' := by
  replace hA := hid hA
  go_enter Try.func65, Try.ntmps65
  go_wp2
  go_loopw [3, 4, 5] (fun o i a wr => ∃ x : Nat, x ≤ 24 ∧ i = .int .i64 x ∧ a = .int .i64 (A / 2 ^ x : Nat) ∧ Own wr w.heap.size 3 .i64 o (memTo A x) ∧ Below w.heap.size w wr) (fun _ i _ _ => 24 - (intOf i).toNat)
  case atStart => exact ⟨0, by omega, rfl, by simp, Own.empty _ _ _ _ (Nat.le_refl _), (Below.refl _ _).alloc (Nat.le_refl _) _⟩
  case round =>
    obtain ⟨x, hx, rfl, rfl, hown, hb⟩ := hrel
    have hsz := hb.size
    have hlen := memTo_len A x
    have htb := hid (bit_div A x)
    have hds := hid (div_step A x)
    have hSA : A / 2 ^ x ≤ A := Nat.div_le_self _ _
    have hof := @memL_of A x
    have htop : x = 24 → A / 2 ^ x = 0 := fun h => by rw [h]; exact div_top hA.out
    obtain ⟨S, hS⟩ : ∃ S, S = A / 2 ^ x := ⟨_, rfl⟩
    rw [← hS] at htb hds hSA htop hof ⊢
    have hA2 := hA.out
    by_cases h0 : S = 0
    · subst h0
      rw [← hof rfl hx] at hown
      obtain ⟨ao, cap, rfl, hc1, hc2⟩ := hown.shape
      clear htop hS hA2 hof hSA
      go_wp2
      go_ret
      exact ⟨_, _, rfl, hown, hb⟩
    · have hx2 : x < 24 := by
        rcases Nat.lt_or_eq_of_le hx with h | h
        · exact h
        · exact absurd (htop h) h0
      have z1 : 0 < S := by omega
      have e2 : bits .and .i64 (S : Int) 1 = ((S % 2 : Nat) : Int) := by
        have := and64_low 1 (S : Int) (by omega) (by omega) (by omega)
        simpa using this
      obtain ⟨R, hR⟩ : ∃ R, R = S / 2 := ⟨_, rfl⟩
      have e3 : (S : Int) / 2 = (R : Int) := by omega
      rw [← hR] at hds
      clear hR
      cases hbit : A.testBit x
      · have hs := hid (memTo_no hbit)
        have hm : S % 2 = 0 := by
          have h := htb.out
          rw [hbit] at h
          have := of_decide_eq_false h.symm
          omega
        rw [hm] at e2
        clear hm htop hS hA2 hof hSA hbit h0
        go_wp2
        go_roundw
        case rel => exact ⟨x + 1, by omega, by go_num, by rw [hds.out], by rw [hs.out]; exact hown, hb⟩
        case measure => simp [intOf]; omega
      · have hs := hid (memTo_yes hbit)
        have hm : S % 2 = 1 := by
          have h := htb.out
          rw [hbit] at h
          exact of_decide_eq_true h.symm
        rw [hm] at e2
        clear hm htop hS hA2 hof hSA hbit h0
        go_wp2_with (at_builtin; refine app1 rfl _ _ rfl Try.underlying22 info_int (by decide) rfl hown rfl (by omega) (by omega) ?_)
        intro v' w' hown' hb' _
        rw [← hs.out] at hown'
        clear hown
        go_wp2
        go_roundw
        case rel => exact ⟨x + 1, by omega, by go_num, by rw [hds.out], hown', hb.trans hb'⟩
        case measure => simp [intOf]; omega
end Go.Proofs.Ytffbamjfpegndab
