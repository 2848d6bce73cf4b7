/- What the law FnSums asks of its values. No conditions. -/
import Derived.Test.YtknbfohmobjplaaMPl
import Derived.Test.YtknbfohmobjplaaMSb
import Derived.Test.YtknbfohmobjplaaSE
import Derived.Test.YtknbfohmobjplaaMRb
namespace Go.Proofs.Ytknbfohmobjplaa
set_option linter.unusedVariables false
set_option linter.unusedSimpArgs false

theorem i64_small {x : Int} (h0 : -1 ≤ x) (h : x < 16777216) : I64 x := ⟨by omega, by omega⟩
theorem sums_facts (l : List Int) (a b : Int) : two sumN l a b = -1 ∨ (0 ≤ two sumN l a b ∧ bits .and .i64 (two resN l a b) (two sumN l a b) = two resN l a b ∧ two sumN l a (negS l b) = two difN l a b ∧ (bits .and .i64 a b = 0 → two resN l a b = two sumN l a b) ∧ I64 (negS l b)) := by
  cases hs : (isSet l a && isSet l b) with
  | false => exact .inl (two_no hs)
  | true =>
    rw [Bool.and_eq_true] at hs
    obtain ⟨h1, h2⟩ := hs
    obtain ⟨A, rfl, hA⟩ := isSet.nat h1
    obtain ⟨B, rfl, hB⟩ := isSet.nat h2
    have hg := isSet.group h1
    have hS := sumN_lt hg A B
    have hR := resN_lt hg A B
    have en : negS l (B : Int) = (negN l B : Nat) := by unfold negS negN; rw [h2]; rfl
    have hN := negN_lt hg B
    rw [two_yes h1 h2, two_yes h1 h2, two_yes h1 h2, en, two_yes h1 ((isSet_nat hg _).2 (negN_top hg B))]
    refine .inr ⟨by omega, ?_, rfl, fun h => ?_, i64_small (by omega) (by omega)⟩
    · rw [and64 _ _ (by omega) (by omega), resN_sub hg hA hB]
    · rw [and64 _ _ (by omega) (by omega)] at h
      rw [resN_all hg hA hB (by omega)]
theorem ms_facts (l : List Int) (a n : Int) : msE l a n = -1 ∨ (0 ≤ msE l a n ∧ I64 (msE l a n) ∧ (n < 30 → I64 (n + 1) ∧ msE l a (n + 1) = two sumN l (msE l a n) a)) := by
  by_cases hn : 0 ≤ n ∧ n ≤ 30
  · cases hs : isSet l a with
    | false => exact .inl (msE_no hs)
    | true =>
      obtain ⟨A, rfl, hA⟩ := isSet.nat hs
      obtain ⟨N, rfl⟩ := Int.eq_ofNat_of_zero_le hn.1
      have hg := isSet.group hs
      have e1 := msE_yes hs (show N ≤ 30 by omega)
      have hl := msN_lt hg A N
      have ht : isSet l ((msN l A N : Nat) : Int) = true := by
        rw [isSet_nat hg]
        cases N with
        | zero => have := topOf_bd hg; show 1 < topOf l; omega
        | succ N => exact sumN_top hg _ _
      rw [e1]
      refine .inr ⟨by omega, i64_small (by omega) (by omega), fun h => ⟨⟨by omega, by omega⟩, ?_⟩⟩
      have e2 := msE_yes hs (show N + 1 ≤ 30 by omega)
      rw [two_yes ht hs]
      exact e2
  · exact .inl (msE_bad hn)
theorem ss_facts (l : List Int) (a : Int) : one ssN l a = -1 ∨ (0 ≤ one ssN l a ∧ bits .and .i64 (one ssN l a) 1 = 1 ∧ bits .and .i64 (one ssN l a) a = a) := by
  cases hs : isSet l a with
  | false => exact .inl (one_no hs)
  | true =>
    obtain ⟨A, rfl, hA⟩ := isSet.nat hs
    have hg := isSet.group hs
    have hl := ssN_lt hg A
    rw [one_yes hs]
    refine .inr ⟨by omega, ?_, ?_⟩
    · have := and64 (ssN l A) 1 (by omega) (by omega)
      rw [ssN_odd hg A] at this
      exact this
    · rw [and64 _ _ (by omega) (by omega), ssN_has hg ((isSet_nat hg A).1 hs)]
end Go.Proofs.Ytknbfohmobjplaa
