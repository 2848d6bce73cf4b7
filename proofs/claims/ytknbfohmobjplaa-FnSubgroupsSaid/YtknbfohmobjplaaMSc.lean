/- Parts of the walk in one text: SL, SM. Conditions: each theorem's own. -/
import Derived.Test.YtknbfohmobjplaaSE
import Derived.Test.YtknbfohmobjplaaSJ
import Derived.Test.YtknbfohmobjplaaSG
namespace Go.Proofs.Ytknbfohmobjplaa
set_option linter.unusedVariables false
set_option linter.unusedSimpArgs false
open Go.RowKit

theorem stab_yes {l : List Int} (hg : isGroup l = true) {A k : Nat} (hk : (k : Int) < prodL l) (h : shN l A k = A) :
    ∃ T : Nat, (2 : Int) ^ k = (T : Int) ∧ T ≤ 8388608 ∧ bits .or .i64 (stabTo l A k : Nat) (T : Int) = (stabTo l A (k + 1) : Nat) := by
  have hp := isGroup.prod hg
  have h1 := top_24 hg (stabTo_lt hg A (x := k) (by omega))
  have h3 := Nat.pow_le_pow_right (show 0 < 2 by omega) (show k ≤ 23 by omega)
  have h4 : 2 ^ 23 = 8388608 := rfl
  refine ⟨2 ^ k, (Int.natCast_pow 2 _).symm, by omega, ?_⟩
  rw [or64 _ _ (by omega) (by omega), stabTo, if_pos h]
theorem stab_no {l : List Int} {A k : Nat} (h : ¬ shN l A k = A) : stabTo l A (k + 1) = stabTo l A k := by rw [stabTo, if_neg h]
/-! ### periods -/
def perE (l : List Int) (a : Int) : Bool := isSet l a && decide (1 < stabN l a.toNat)
theorem perE_no {l : List Int} {a : Int} (h : isSet l a = false) : perE l a = false := by unfold perE; rw [h]; rfl
theorem perE_yes {l : List Int} {A : Nat} (h : isSet l (A : Int) = true) : perE l A = decide (1 < stabN l A) := by unfold perE; rw [h]; rfl
theorem isSet.top {l : List Int} {A : Nat} (h : isSet l (A : Int) = true) : A < topOf l := (isSet_nat (isSet.group h) A).1 h
theorem stab_facts {l : List Int} {A : Nat} (h : isSet l (A : Int) = true) : ∃ S P : Nat, S = stabN l A ∧ S < 16777216 ∧ 1 ≤ S ∧ P = pc 24 S ∧ P ≤ 24 ∧ decide ((P : Int) > 1) = decide (1 < S) ∧ decide ((S : Int) > 1) = decide (1 < S) ∧ bits .andNot .i64 (S : Int) 1 = ((S - 1 : Nat) : Int) := by
  have hg := isSet.group h
  have hS := top_24 hg (stabN_top hg A)
  have ho := stabN_odd hg (isSet.top h)
  refine ⟨_, _, rfl, hS, by omega, rfl, pc_le _ _, ?_, ?_, ?_⟩
  · have := pc_odd hS ho
    by_cases h1 : 1 < stabN l A
    · rw [decide_eq_true h1, decide_eq_true (by have := this.2 h1; omega)]
    · rw [decide_eq_false h1, decide_eq_false (by have := fun h2 => h1 (this.1 h2); omega)]
  · by_cases h1 : 1 < stabN l A
    · rw [decide_eq_true h1, decide_eq_true (by omega)]
    · rw [decide_eq_false h1, decide_eq_false (by omega)]
  · have := andNot64 (stabN l A) 0 hS (by omega)
    rw [rem_odd ho] at this
    exact this
end Go.Proofs.Ytknbfohmobjplaa

namespace Go.Proofs.Ytknbfohmobjplaa
set_option linter.unusedVariables false
set_option linter.unusedSimpArgs false
open Go.RowKit

def prdE (l : List Int) (a : Int) : List Int := if isSet l a then memL (stabN l a.toNat - 1) else []
theorem prdE_len (l : List Int) (a : Int) : (prdE l a).length ≤ 24 := by
  unfold prdE
  split
  · exact memL_len _
  · simp
theorem prdE_no {l : List Int} {a : Int} (h : isSet l a = false) : prdE l a = [] := by unfold prdE; rw [h]; rfl
theorem prdE_yes {l : List Int} {A : Nat} (h : isSet l (A : Int) = true) : prdE l A = memL (stabN l A - 1) := by unfold prdE; rw [h]; rfl
/-! ### the least element -/
theorem memTo_find {A : Nat} {k : Nat} (hk : A.testBit k = true) (hlow : ∀ j, j < k → A.testBit j = false) : ∀ m, k < m → (memTo A m).headD 0 = (k : Int) := by
  have h0 : ∀ m, m ≤ k → memTo A m = [] := by
    intro m
    induction m with
    | zero => intro _; rfl
    | succ m ih => intro h; rw [memTo_no (hlow m (by omega)), ih (by omega)]
  intro m
  induction m with
  | zero => intro h; omega
  | succ m ih =>
    intro h
    by_cases he : m = k
    · subst he
      rw [memTo_yes hk, h0 m (Nat.le_refl _)]
      rfl
    · have h1 := ih (by omega)
      have hne : memTo A m ≠ [] := by
        intro hc
        have : (k : Int) ∈ memTo A m := (mem_memTo A m k).2 ⟨(inS_nat A k).2 hk, by omega⟩
        rw [hc] at this
        cases this
      cases hb : A.testBit m
      · rw [memTo_no hb]; exact h1
      · rw [memTo_yes hb]
        cases hm : memTo A m with
        | nil => exact absurd hm hne
        | cons x r => rw [hm] at h1; exact h1
theorem low_of {A k : Nat} (hA : A < 16777216) (hk : A.testBit k = true) (hlow : ∀ j, j < k → A.testBit j = false) : lowN A = (k : Int) := by
  have := bit_lt (k := 24) hA hk
  exact memTo_find hk hlow 24 this
theorem sl5Low_any (A : Nat) (hA : A < 16777216) (h0 : A ≠ 0) (w : World) :
    Calls Try.prog 90 #[.int .i64 (A : Int)] w fun e w' => e = .returned (.int .i64 (lowN A)) ∧ ∃ m, w' = w.drewN m := by
  have hfin := hid fun k (h1 : A.testBit k = true) (h2 : ∀ j, j < k → A.testBit j = false) => low_of hA h1 h2
  have hex := hid (show ∀ k, 24 ≤ k → (∀ j, j < k → A.testBit j = false) → False from fun k hk h => h0 (Nat.eq_of_testBit_eq fun i => by
    rw [Nat.zero_testBit]
    rcases Nat.lt_or_ge i 24 with h1 | h1
    · exact h i (by omega)
    · exact Nat.testBit_lt_two_pow (Nat.lt_of_lt_of_le hA (Nat.pow_le_pow_right (by omega) h1 : 2 ^ 24 ≤ 2 ^ i))))
  obtain ⟨L, hL⟩ : ∃ L, L = lowN A := ⟨_, rfl⟩
  rw [← hL] at hfin ⊢
  replace hA := hid hA
  clear hL h0
  go_enter Try.func90, Try.ntmps90
  go_wp2
  go_loopw [3] (fun i wr => ∃ k : Nat, k ≤ 24 ∧ i = .int .i64 k ∧ Hid (∀ j, j < k → A.testBit j = false) ∧ ∃ m, wr = w.drewN m) (fun i _ => 24 - (intOf i).toNat)
  case atStart => exact ⟨0, by omega, rfl, (fun j h => by omega), 0, rfl⟩
  case round =>
    obtain ⟨k, hk, rfl, hlow, m, rfl⟩ := hrel
    have hk24 : k < 24 := by
      rcases Nat.lt_or_eq_of_le hk with h | h
      · exact h
      · exact (hex.out k (by omega) hlow.out).elim
    have htb := hid (bit_div A k)
    have e1 : (A : Int) / 2 ^ k = ((A / 2 ^ k : Nat) : Int) := by
      rw [Int.natCast_ediv, Int.natCast_pow]; rfl
    have hSA : A / 2 ^ k ≤ A := Nat.div_le_self _ _
    have hA2 := hA.out
    obtain ⟨S, hS⟩ : ∃ S, S = A / 2 ^ k := ⟨_, rfl⟩
    rw [← hS] at htb e1 hSA
    have e2 : bits .and .i64 (S : Int) 1 = ((S % 2 : Nat) : Int) := by
      have := and64_low 1 (S : Int) (by omega) (by omega) (by omega)
      simpa using this
    cases hbit : A.testBit k
    · have hm : S % 2 = 0 := by
        have h := htb.out
        rw [hbit] at h
        have := of_decide_eq_false h.symm
        omega
      rw [hm] at e2
      have hnext : Hid (∀ j, j < k + 1 → A.testBit j = false) := hid fun j hj => by
        rcases Nat.lt_or_eq_of_le (Nat.le_of_lt_succ hj) with h | h
        · exact hlow.out j h
        · rw [h]; exact hbit
      clear hm hS hA2 hSA hbit
      go_wp2
      go_roundw
      case rel => exact ⟨k + 1, by omega, by go_num, hnext, _, rfl⟩
      case measure => simp [intOf]; omega
    · have hm : S % 2 = 1 := by
        have h := htb.out
        rw [hbit] at h
        exact of_decide_eq_true h.symm
      rw [hm] at e2
      have hL := hid (hfin.out k hbit hlow.out)
      clear hm hS hA2 hSA hbit
      go_wp2
      go_ret
      exact ⟨by rw [hL.out]; rfl, _, rfl⟩
theorem low_head {A : Nat} (hA : A < 16777216) (h0 : A ≠ 0) : ∃ h : 0 < (memL A).length, (memL A)[0] = lowN A := by
  cases hm : memL A with
  | nil =>
    have := orL_id hA
    rw [hm] at this
    exact absurd this.symm h0
  | cons x r =>
    refine ⟨by simp, ?_⟩
    unfold lowN
    rw [hm]
    rfl
end Go.Proofs.Ytknbfohmobjplaa
