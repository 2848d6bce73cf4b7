
/- Plain facts on sets given as numbers: which numbers are sets, how many bits. No program in sight. No conditions. -/
import Derived.Test.YtffbamjfpegndabPlH
namespace Go.Proofs.Ytffbamjfpegndab

def topOf (l : List Int) : Nat := 2 ^ (prodL l).toNat
theorem topOf_bd {l : List Int} (h : isGroup l = true) : 2 ≤ topOf l ∧ topOf l ≤ 16777216 := by
  have h1 := isGroup.prod h
  unfold topOf
  constructor
  · have := Nat.pow_le_pow_right (show 0 < 2 by omega) (show 1 ≤ (prodL l).toNat by omega)
    simpa using this
  · have := Nat.pow_le_pow_right (show 0 < 2 by omega) (show (prodL l).toNat ≤ 24 by omega)
    simpa using this
def isSet (l : List Int) (a : Int) : Bool := isGroup l && decide (0 ≤ a ∧ a < topOf l)
theorem isSet.group {l : List Int} {a : Int} (h : isSet l a = true) : isGroup l = true := by
  unfold isSet at h
  exact ((Bool.and_eq_true _ _).mp h).1
theorem isSet.bd {l : List Int} {a : Int} (h : isSet l a = true) : 0 ≤ a ∧ a < topOf l := by
  unfold isSet at h
  exact of_decide_eq_true ((Bool.and_eq_true _ _).mp h).2
def fullE (l : List Int) : Int := if isGroup l then (topOf l : Int) - 1 else 0
/-- the number of the bits -/
def pc : Nat → Nat → Nat
  | 0, _ => 0
  | k + 1, a => a % 2 + pc k (a / 2)
theorem pc_zero (k : Nat) : pc k 0 = 0 := by
  induction k with
  | zero => rfl
  | succ k ih => rw [pc, show 0 / 2 = 0 from rfl, ih]
theorem and_double (a b : Nat) : (2 * a) &&& (2 * b + 1) = 2 * (a &&& b) := by
  apply Nat.eq_of_testBit_eq
  intro i
  cases i with
  | zero => simp [Nat.testBit_zero]
  | succ i => rw [Nat.testBit_and, Nat.testBit_succ, Nat.testBit_succ, Nat.testBit_succ, Nat.mul_div_cancel_left _ (by omega), show (2 * b + 1) / 2 = b by omega, Nat.mul_div_cancel_left _ (by omega), Nat.testBit_and]
theorem and_odd (a : Nat) : (2 * a + 1) &&& (2 * a) = 2 * a := by
  rw [Nat.and_comm, and_double, Nat.and_self]
theorem pc_drop (k : Nat) : ∀ a, 0 < a → a < 2 ^ k → pc k (a &&& (a - 1)) + 1 = pc k a := by
  induction k with
  | zero => intro a h0 h; simp at h; omega
  | succ k ih =>
    intro a h0 h
    rw [Nat.pow_succ] at h
    rcases Nat.mod_two_eq_zero_or_one a with h2 | h2
    · obtain ⟨b, rfl⟩ : ∃ b, a = 2 * b := ⟨a / 2, by omega⟩
      rw [show 2 * b - 1 = 2 * (b - 1) + 1 by omega, and_double, pc, pc, Nat.mul_div_cancel_left _ (by omega), Nat.mul_div_cancel_left _ (by omega), Nat.mul_mod_right, Nat.mul_mod_right, ← ih b (by omega) (by omega)]
      omega
    · obtain ⟨b, rfl⟩ : ∃ b, a = 2 * b + 1 := ⟨a / 2, by omega⟩
      rw [show 2 * b + 1 - 1 = 2 * b by omega, and_odd, pc, pc, Nat.mul_div_cancel_left _ (by omega), Nat.mul_mod_right, show (2 * b + 1) % 2 = 1 by omega, show (2 * b + 1) / 2 = b by omega]
      omega
theorem and_pred_lt (a : Nat) (h : 0 < a) : a &&& (a - 1) < a := Nat.lt_of_le_of_lt Nat.and_le_right (by omega)
def cntE (l : List Int) (a : Int) : Int := if isSet l a then pc 24 a.toNat else -1
end Go.Proofs.Ytffbamjfpegndab
