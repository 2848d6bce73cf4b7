
/- The bit of a set, in this program. No conditions. -/
import Derived.Test.YtffbamjfpegndabS5
import Derived.Test.YtffbamjfpegndabPlU
namespace Go.Proofs.Ytffbamjfpegndab
set_option linter.unusedVariables false
set_option linter.unusedSimpArgs false
open Go.RowKit

/-- the bit of a set: the numbers of the walk -/
theorem bit_facts {A x : Nat} (hA : A < 16777216) : ∃ S : Nat, (A : Int) / 2 ^ x = (S : Int) ∧ S < 16777216 ∧ bits .and .i64 (S : Int) 1 = (if A.testBit x then 1 else 0) := by
  have hSA : A / 2 ^ x ≤ A := Nat.div_le_self _ _
  have htb := bit_div A x
  refine ⟨A / 2 ^ x, by rw [Int.natCast_ediv, Int.natCast_pow]; rfl, by omega, ?_⟩
  obtain ⟨S, hS⟩ : ∃ S, S = A / 2 ^ x := ⟨_, rfl⟩
  rw [← hS] at hSA htb ⊢
  have e2 : bits .and .i64 (S : Int) 1 = ((S % 2 : Nat) : Int) := by
    have := and64_low 1 (S : Int) (by omega) (by omega) (by omega)
    simpa using this
  rw [e2, htb]
  by_cases h : S % 2 = 1
  · rw [decide_eq_true h, h]; rfl
  · rw [decide_eq_false h, show S % 2 = 0 by omega]; rfl
theorem iin_any (A x : Nat) (hA : A < 16777216) (hx : x < 24) (w : World) :
    Calls Try.prog 44 #[.int .i64 (A : Int), .int .i64 (x : Int)] w fun e w' => e = .returned (.bool (A.testBit x)) ∧ w = w' := by
  obtain ⟨S, e1, hS, e2⟩ := bit_facts (x := x) hA
  obtain ⟨b, hb⟩ : ∃ b, b = A.testBit x := ⟨_, rfl⟩
  rw [← hb] at e2 ⊢
  replace hA := hid hA
  replace hS := hid hS
  clear hb
  cases b
  · rw [if_neg (by decide)] at e2
    go_enter Try.func44, Try.ntmps44
    go_wp2
    go_ret
    exact ⟨rfl, rfl⟩
  · rw [if_pos rfl] at e2
    go_enter Try.func44, Try.ntmps44
    go_wp2
    go_ret
    exact ⟨rfl, rfl⟩
end Go.Proofs.Ytffbamjfpegndab
