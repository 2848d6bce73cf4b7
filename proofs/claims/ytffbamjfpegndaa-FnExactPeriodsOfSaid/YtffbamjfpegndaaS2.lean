
/- What CountSet computes, the program's and the reference's. Conditions: at most 2^20 orders. -/
import Derived.Test.YtffbamjfpegndaaS1
namespace Go.Proofs.Ytffbamjfpegndaa
open Go.RowKit

theorem pc_le (k : Nat) : ∀ a, pc k a ≤ k := by
  induction k with
  | zero => intro _; exact Nat.le_refl _
  | succ k ih => intro a; rw [pc]; have := ih (a / 2); omega
theorem pc_step (k a : Nat) : pc (k + 1) a = a % 2 + pc k (a / 2) := rfl
theorem ibits_any (a : Nat) (ha : a < 16777216) (w : World) :
    Calls Try.prog 99 #[.int .i64 (a : Int)] w fun e w' => e = .returned (.int .i64 (pc 24 a : Nat)) ∧ ∃ m, w' = w.drewN m := by
  obtain ⟨G, hG⟩ : ∃ G, G = pc 24 a := ⟨_, rfl⟩
  rw [← hG]
  have hGb : G ≤ 24 := by rw [hG]; exact pc_le _ _
  replace hG := hid hG
  go_enter Try.func99, Try.ntmps99
  go_wp2
  go_loopw [3, 0] (fun n x wr => ∃ N A : Nat, n = .int .i64 (N : Int) ∧ x = .int .i64 (A : Int) ∧ A < 16777216 ∧ N ≤ G ∧ Hid (G = N + pc 24 A) ∧ ∃ m, wr = w.drewN m) (fun _ x _ => (intOf x).toNat)
  case atStart => exact ⟨0, a, rfl, rfl, ha, by omega, by rw [Nat.zero_add]; exact hG.out, 0, rfl⟩
  case round =>
    obtain ⟨N, A, rfl, rfl, hA, hN, hG, m, rfl⟩ := hrel
    by_cases h0 : A = 0
    · subst h0
      have hf := hG.out
      rw [pc_zero, Nat.add_zero] at hf
      replace hf := hid hf
      go_wp2
      go_ret
      exact ⟨by rw [hf.out]; rfl, m, rfl⟩
    · have hd := pc_drop 24 A (by omega) hA
      have hlt := and_pred_lt A (by omega)
      have e1 : bits .and .i64 (A : Int) ((A : Int) - 1) = ((A &&& (A - 1) : Nat) : Int) := by
        rw [show (A : Int) - 1 = ((A - 1 : Nat) : Int) by omega]
        exact and64 _ _ (by omega) (by omega)
      obtain ⟨B, hB⟩ : ∃ B, B = A &&& (A - 1) := ⟨_, rfl⟩
      rw [← hB] at hd hlt e1
      have hf : G = (N + 1) + pc 24 B := by rw [hG.out]; omega
      have hN1 : N + 1 ≤ G := by omega
      have z2 : ((A : Int) == 0) = false := by rw [beq_eq_false_iff_ne]; omega
      replace hf := hid hf
      replace hd := hid hd
      obtain ⟨A1, hA1⟩ : ∃ A1 : Nat, (A : Int) - 1 = A1 := ⟨A - 1, by omega⟩
      have e0 : IntKind.i64.wrap ((A : Int) - 1) = (A1 : Int) := by rw [hA1]; exact IntWalk.i64_in _ (by omega)
      rw [hA1] at e1
      have z1 : ¬ (A : Int) = 0 := by omega
      have hA2 := hid (show B < 16777216 by omega)
      clear hB hG h0 hA1 hd
      replace hA := hid hA
      replace hlt := hid hlt
      go_wp2
      go_roundw
      case rel => exact ⟨N + 1, B, by go_num, rfl, hA2.out, hN1, hf, m, rfl⟩
      case measure => have := hlt.out; simp [intOf]; omega
theorem iIsSet_at {v : Value} {l : List Int} {a : Int} {b : Bool} {w : World} (hE : isSet l a = b) (hr : Rd w w.heap.size .i64 v l) (hn : l.length ≤ 1048576) (ha : -9223372036854775808 ≤ a ∧ a ≤ 9223372036854775807) :
    Calls Try.prog 73 #[.agg #[v], .int .i64 a] w fun e w' => e = .returned (.bool b) ∧ Below w.heap.size w w' := by
  rw [← hE]; exact iIsSet_any v l a w hr hn ha
theorem sIsSet_at {v : Value} {l : List Int} {a : Int} {b : Bool} {w : World} (hE : isSet l a = b) (hr : Rd w w.heap.size .i64 v l) (hn : l.length ≤ 1048576) (ha : -9223372036854775808 ≤ a ∧ a ≤ 9223372036854775807) :
    Calls Try.prog 65 #[.agg #[v], .int .i64 a] w fun e w' => e = .returned (.bool b) ∧ Below w.heap.size w w' := by
  rw [← hE]; exact sIsSet_any v l a w hr hn ha
/-- a set is a number below 2^24 -/
theorem isSet.nat {l : List Int} {a : Int} (h : isSet l a = true) : ∃ A : Nat, a = A ∧ A < 16777216 := by
  have h1 := isSet.bd h
  have h2 := topOf_bd (isSet.group h)
  exact ⟨a.toNat, by omega, by omega⟩
end Go.Proofs.Ytffbamjfpegndaa
