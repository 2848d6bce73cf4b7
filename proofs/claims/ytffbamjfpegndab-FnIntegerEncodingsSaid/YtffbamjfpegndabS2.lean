
/- What CountSet computes, the program's and the reference's. Conditions: at most 2^20 orders. -/
import Derived.Test.YtffbamjfpegndabS1
namespace Go.Proofs.Ytffbamjfpegndab
open Go.RowKit

theorem pc_le (k : Nat) : ∀ a, pc k a ≤ k := by
  induction k with
  | zero => intro _; exact Nat.le_refl _
  | succ k ih => intro a; rw [pc]; have := ih (a / 2); omega
theorem pc_step (k a : Nat) : pc (k + 1) a = a % 2 + pc k (a / 2) := rfl
theorem iIsSet_at {v : Value} {l : List Int} {a : Int} {b : Bool} {w : World} (hE : isSet l a = b) (hr : Rd w w.heap.size .i64 v l) (hn : l.length ≤ 1048576) (ha : -9223372036854775808 ≤ a ∧ a ≤ 9223372036854775807) :
    Calls Try.prog 53 #[.agg #[v], .int .i64 a] w fun e w' => e = .returned (.bool b) ∧ Below w.heap.size w w' := by
  rw [← hE]; exact iIsSet_any v l a w hr hn ha
theorem sIsSet_at {v : Value} {l : List Int} {a : Int} {b : Bool} {w : World} (hE : isSet l a = b) (hr : Rd w w.heap.size .i64 v l) (hn : l.length ≤ 1048576) (ha : -9223372036854775808 ≤ a ∧ a ≤ 9223372036854775807) :
    Calls Try.prog 52 #[.agg #[v], .int .i64 a] w fun e w' => e = .returned (.bool b) ∧ Below w.heap.size w w' := by
  rw [← hE]; exact sIsSet_any v l a w hr hn ha
/-- a set is a number below 2^24 -/
theorem isSet.nat {l : List Int} {a : Int} (h : isSet l a = true) : ∃ A : Nat, a = A ∧ A < 16777216 := by
  have h1 := isSet.bd h
  have h2 := topOf_bd (isSet.group h)
  exact ⟨a.toNat, by omega, by omega⟩
end Go.Proofs.Ytffbamjfpegndab
