
/- Plain facts on sets that are read from lists. No program in sight. No conditions. -/
import Derived.Test.YtffbamjfpegndabPlU
namespace Go.Proofs.Ytffbamjfpegndab
set_option linter.unusedVariables false
set_option linter.unusedSimpArgs false

/-- the set of the elements of a list, each at most once -/
def soTo (l : List Int) : List Int → Nat → Option Nat
  | [], a => some a
  | x :: r, a => if isEl l x && !a.testBit x.toNat then soTo l r (a ||| 2 ^ x.toNat) else none
def soE (l m : List Int) : Int × Bool := match soTo l m 0 with | some a => ((a : Int), isGroup l) | none => (0, false)
theorem soTo_bad {l : List Int} {m : List Int} {k : Nat} (hk : k < m.length) {A : Nat} (h : (isEl l m[k] && !A.testBit m[k].toNat) = false) : soTo l (m.drop k) A = none := by
  rw [List.drop_eq_getElem_cons hk, soTo, h]
  rfl
theorem soTo_good {l : List Int} {m : List Int} {k : Nat} (hk : k < m.length) {A : Nat} (h : (isEl l m[k] && !A.testBit m[k].toNat) = true) : soTo l (m.drop k) A = soTo l (m.drop (k + 1)) (A ||| 2 ^ m[k].toNat) := by
  rw [List.drop_eq_getElem_cons hk, soTo, h]
  rfl
theorem soTo_end {l m : List Int} {k : Nat} (hk : m.length ≤ k) (A : Nat) : soTo l (m.drop k) A = some A := by
  rw [List.drop_eq_nil_of_le hk]
  rfl
theorem soE_none {l m : List Int} (h : soTo l m 0 = none) : soE l m = (0, false) := by unfold soE; rw [h]
theorem soE_some {l m : List Int} {A : Nat} (h : soTo l m 0 = some A) : soE l m = ((A : Int), isGroup l) := by unfold soE; rw [h]
theorem add_bit {A k : Nat} (hA : A < 16777216) (hk : k < 24) (h : A.testBit k = false) : A + 2 ^ k = A ||| 2 ^ k := by
  have h1 := Nat.pow_le_pow_right (show 0 < 2 by omega) (show k ≤ 23 by omega)
  have h2 : 2 ^ 23 = 8388608 := rfl
  have h3 : BitVec.ofNat 64 A &&& BitVec.ofNat 64 (2 ^ k) = 0#64 := by
    apply BitVec.eq_of_toNat_eq
    rw [BitVec.toNat_and, BitVec.toNat_ofNat, BitVec.toNat_ofNat, Nat.mod_eq_of_lt (by omega), Nat.mod_eq_of_lt (by omega)]
    show A &&& 2 ^ k = 0
    apply Nat.eq_of_testBit_eq
    intro i
    rw [Nat.testBit_and, Nat.testBit_two_pow, Nat.zero_testBit]
    by_cases e : k = i
    · rw [← e, h]; rfl
    · rw [decide_eq_false e, Bool.and_false]
  have h4 := congrArg BitVec.toNat (BitVec.add_eq_or_of_and_eq_zero _ _ h3)
  rw [BitVec.toNat_add, BitVec.toNat_or, BitVec.toNat_ofNat, BitVec.toNat_ofNat, Nat.mod_eq_of_lt (a := A) (by omega), Nat.mod_eq_of_lt (a := 2 ^ k) (by omega), Nat.mod_eq_of_lt (by omega)] at h4
  exact h4
end Go.Proofs.Ytffbamjfpegndab
