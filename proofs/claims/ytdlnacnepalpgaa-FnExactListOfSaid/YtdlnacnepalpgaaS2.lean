/- What CountSet computes, the program's and the reference's. Conditions: at most 2^20 orders. -/
import Derived.Test.YtdlnacnepalpgaaS1
namespace Go.Proofs.Ytdlnacnepalpgaa
open Go.RowKit

theorem pc_le (k : Nat) : ∀ a, pc k a ≤ k := by
  induction k with
  | zero => intro _; exact Nat.le_refl _
  | succ k ih => intro a; rw [pc]; have := ih (a / 2); omega
theorem pc_step (k a : Nat) : pc (k + 1) a = a % 2 + pc k (a / 2) := rfl
theorem ibits_any (a : Nat) (ha : a < 16777216) (w : World) :
    Calls Try.prog 75 #[.int .i64 (a : Int)] w fun e w' => e = .returned (.int .i64 (pc 24 a : Nat)) ∧ ∃ m, w' = w.drewN m := by
  obtain ⟨G, hG⟩ : ∃ G, G = pc 24 a := ⟨_, rfl⟩
  rw [← hG]
  have hGb : G ≤ 24 := by rw [hG]; exact pc_le _ _
  replace hG := hid hG
  go_enter Try.func75, Try.ntmps75
  go_wp2
  go_loopw [3, 0] (fun n x wr => ∃ N A : Nat, n = .int .i64 (N : Int) ∧ x = .int .i64 (A : Int) ∧ A < 16777216 ∧ N ≤ G ∧ Hid (G = N + pc 24 A) ∧ ∃ m, wr = w.drewN m) (fun _ x _ => (intOf x).toNat)
  case atStart => exact ⟨0, a, rfl, rfl, ha, by omega, by rw [Nat.zero_add]; exact hG.out, 0, rfl⟩
  case round =>
    obtain ⟨N, A, rfl, rfl, hA, hN, hG, m, rfl⟩ := hrel
    by_cases h0 : A = 0
    · subst h0
      have hf := hG.out
      rw [pc_zero, Nat.add_zero] at hf
      replace hf := hid hf
      go_wp2
      go_ret
      exact ⟨by rw [hf.out]; rfl, m, rfl⟩
    · have hd := pc_drop 24 A (by omega) hA
      have hlt := and_pred_lt A (by omega)
      have e1 : bits .and .i64 (A : Int) ((A : Int) - 1) = ((A &&& (A - 1) : Nat) : Int) := by
        rw [show (A : Int) - 1 = ((A - 1 : Nat) : Int) by omega]
        exact and64 _ _ (by omega) (by omega)
      obtain ⟨B, hB⟩ : ∃ B, B = A &&& (A - 1) := ⟨_, rfl⟩
      rw [← hB] at hd hlt e1
      have hf : G = (N + 1) + pc 24 B := by rw [hG.out]; omega
      have hN1 : N + 1 ≤ G := by omega
      have z2 : ((A : Int) == 0) = false := by rw [beq_eq_false_iff_ne]; omega
      replace hf := hid hf
      replace hd := hid hd
      obtain ⟨A1, hA1⟩ : ∃ A1 : Nat, (A : Int) - 1 = A1 := ⟨A - 1, by omega⟩
      have e0 : IntKind.i64.wrap ((A : Int) - 1) = (A1 : Int) := by rw [hA1]; exact IntWalk.i64_in _ (by omega)
      rw [hA1] at e1
      have z1 : ¬ (A : Int) = 0 := by omega
      have hA2 := hid (show B < 16777216 by omega)
      clear hB hG h0 hA1 hd
      replace hA := hid hA
      replace hlt := hid hlt
      go_wp2
      go_roundw
      case rel => exact ⟨N + 1, B, by go_num, rfl, hA2.out, hN1, hf, m, rfl⟩
      case measure => have := hlt.out; simp [intOf]; omega
theorem sl3Bits_any (a : Nat) (ha : a < 16777216) (w : World) :
    Calls Try.prog 74 #[.int .i64 (a : Int)] w fun e w' => e = .returned (.int .i64 (pc 24 a : Nat)) ∧ ∃ m, w' = w.drewN m := by
  obtain ⟨G, hG⟩ : ∃ G, G = pc 24 a := ⟨_, rfl⟩
  rw [← hG]
  have hGb : G ≤ 24 := by rw [hG]; exact pc_le _ _
  replace hG := hid hG
  go_enter Try.func74, Try.ntmps74
  go_wp2
  go_loopw [3, 4] (fun n x wr => ∃ N A k : Nat, n = .int .i64 (N : Int) ∧ x = .int .i64 (A : Int) ∧ A < 16777216 ∧ Hid (A < 2 ^ k) ∧ N ≤ G ∧ Hid (G = N + pc k A) ∧ ∃ m, wr = w.drewN m) (fun _ x _ => (intOf x).toNat)
  case atStart => exact ⟨0, a, 24, rfl, rfl, ha, ha, by omega, by rw [Nat.zero_add]; exact hG.out, 0, rfl⟩
  case round =>
    obtain ⟨N, A, k, rfl, rfl, hA, hk, hN, hG, m, rfl⟩ := hrel
    by_cases h0 : A = 0
    · subst h0
      have hf := hG.out
      rw [pc_zero, Nat.add_zero] at hf
      replace hf := hid hf
      go_wp2
      go_ret
      exact ⟨by rw [hf.out]; rfl, m, rfl⟩
    · have h1 : 0 < A := by omega
      have hkk := hk.out
      obtain ⟨k, rfl⟩ : ∃ j, k = j + 1 := by
        cases k with
        | zero => simp at hkk; omega
        | succ j => exact ⟨j, rfl⟩
      have hd := hG.out
      rw [pc_step] at hd
      rw [Nat.pow_succ] at hkk
      have e1 : bits .and .i64 (A : Int) 1 = ((A % 2 : Nat) : Int) := by
        have := and64_low 1 (A : Int) (by omega) (by omega) (by omega)
        simpa using this
      have hk2 := hid (show A / 2 < 2 ^ k by omega)
      have hf := hid (show G = (N + A % 2) + pc k (A / 2) by omega)
      have hN1 : N + A % 2 ≤ G := by omega
      have hm2 : A % 2 ≤ 1 := by omega
      have hdv : A / 2 < A := by omega
      have e2 : (A : Int) / 2 = ((A / 2 : Nat) : Int) := by omega
      have e3 : (A : Int) % 2 = ((A % 2 : Nat) : Int) := by omega
      obtain ⟨B, hB⟩ : ∃ B, B = A / 2 := ⟨_, rfl⟩
      obtain ⟨C, hC⟩ : ∃ C, C = A % 2 := ⟨_, rfl⟩
      rw [← hB] at hk2 hf hdv e2
      rw [← hC] at hf hN1 e1 hm2 e3
      clear hB hC hG hkk hk hd
      go_wp2
      go_roundw
      case rel => exact ⟨N + C, B, k, by first | go_num | (rw [e1]; go_num), by first | rfl | rw [e2], by omega, hk2, hN1, hf, m, rfl⟩
      case measure => simp [intOf]; omega
theorem iIsSet_at {v : Value} {l : List Int} {a : Int} {b : Bool} {w : World} (hE : isSet l a = b) (hr : Rd w w.heap.size .i64 v l) (hn : l.length ≤ 1048576) (ha : -9223372036854775808 ≤ a ∧ a ≤ 9223372036854775807) :
    Calls Try.prog 38 #[.agg #[v], .int .i64 a] w fun e w' => e = .returned (.bool b) ∧ Below w.heap.size w w' := by
  rw [← hE]; exact iIsSet_any v l a w hr hn ha
theorem sIsSet_at {v : Value} {l : List Int} {a : Int} {b : Bool} {w : World} (hE : isSet l a = b) (hr : Rd w w.heap.size .i64 v l) (hn : l.length ≤ 1048576) (ha : -9223372036854775808 ≤ a ∧ a ≤ 9223372036854775807) :
    Calls Try.prog 37 #[.agg #[v], .int .i64 a] w fun e w' => e = .returned (.bool b) ∧ Below w.heap.size w w' := by
  rw [← hE]; exact sIsSet_any v l a w hr hn ha
/-- a set is a number below 2^24 -/
theorem isSet.nat {l : List Int} {a : Int} (h : isSet l a = true) : ∃ A : Nat, a = A ∧ A < 16777216 := by
  have h1 := isSet.bd h
  have h2 := topOf_bd (isSet.group h)
  exact ⟨a.toNat, by omega, by omega⟩
theorem iCountSet_any (v : Value) (l : List Int) (a : Int) (w : World) (hr : Rd w w.heap.size .i64 v l) (hn : l.length ≤ 1048576) (ha : -9223372036854775808 ≤ a ∧ a ≤ 9223372036854775807) :
    Calls Try.prog 42 #[.agg #[v], .int .i64 a] w fun e w' => e = .returned (.int .i64 (cntE l a)) ∧ Below w.heap.size w w' := by
  cases hE : isSet l a
  · have hA : cntE l a = -1 := by unfold cntE; rw [hE]; rfl
    rw [hA]
    have hH := fun w h1 => iIsSet_at (v := v) (w := w) hE h1 hn ha
    clear hE hA ha
    go_enter Try.func42, Try.ntmps42
    go_wp2_with fail
    refine (hH _ ((hr.alloc (Nat.le_refl _) _).more (by go_size))).mono ?_
    rintro e w1 ⟨rfl, hb1⟩
    have D1 : Below w.heap.size w w1 := by refine Below.trans ?_ (hb1.mono ?_) <;> go_grown
    go_wp2
    go_ret
    exact ⟨rfl, D1⟩
  · obtain ⟨A, rfl, hA⟩ := isSet.nat hE
    have hc : cntE l A = (pc 24 A : Nat) := by unfold cntE; rw [hE]; rfl
    rw [hc]
    have hH := fun w h1 => iIsSet_at (v := v) (w := w) hE h1 hn ha
    have hD := fun w => ibits_any A hA w
    clear hE hc ha hA
    obtain ⟨G, hG⟩ : ∃ G, G = pc 24 A := ⟨_, rfl⟩
    rw [← hG] at hD ⊢
    clear hG
    go_enter Try.func42, Try.ntmps42
    go_wp2_with fail
    refine (hH _ ((hr.alloc (Nat.le_refl _) _).more (by go_size))).mono ?_
    rintro e w1 ⟨rfl, hb1⟩
    have D1 : Below w.heap.size w w1 := by refine Below.trans ?_ (hb1.mono ?_) <;> go_grown
    go_wp2_with fail
    refine (hD _).mono ?_
    rintro e w2 ⟨rfl, m, rfl⟩
    go_wp2
    go_ret
    exact ⟨rfl, D1.trans (below_drewN _ _ _)⟩
theorem sCountSet_any (v : Value) (l : List Int) (a : Int) (w : World) (hr : Rd w w.heap.size .i64 v l) (hn : l.length ≤ 1048576) (ha : -9223372036854775808 ≤ a ∧ a ≤ 9223372036854775807) :
    Calls Try.prog 41 #[.agg #[v], .int .i64 a] w fun e w' => e = .returned (.int .i64 (cntE l a)) ∧ Below w.heap.size w w' := by
  cases hE : isSet l a
  · have hA : cntE l a = -1 := by unfold cntE; rw [hE]; rfl
    rw [hA]
    have hH := fun w h1 => sIsSet_at (v := v) (w := w) hE h1 hn ha
    clear hE hA ha
    go_enter Try.func41, Try.ntmps41
    go_wp2_with fail
    refine (hH _ ((hr.alloc (Nat.le_refl _) _).more (by go_size))).mono ?_
    rintro e w1 ⟨rfl, hb1⟩
    have D1 : Below w.heap.size w w1 := by refine Below.trans ?_ (hb1.mono ?_) <;> go_grown
    go_wp2
    go_ret
    exact ⟨rfl, D1⟩
  · obtain ⟨A, rfl, hA⟩ := isSet.nat hE
    have hc : cntE l A = (pc 24 A : Nat) := by unfold cntE; rw [hE]; rfl
    rw [hc]
    have hH := fun w h1 => sIsSet_at (v := v) (w := w) hE h1 hn ha
    have hD := fun w => sl3Bits_any A hA w
    clear hE hc ha hA
    obtain ⟨G, hG⟩ : ∃ G, G = pc 24 A := ⟨_, rfl⟩
    rw [← hG] at hD ⊢
    clear hG
    go_enter Try.func41, Try.ntmps41
    go_wp2_with fail
    refine (hH _ ((hr.alloc (Nat.le_refl _) _).more (by go_size))).mono ?_
    rintro e w1 ⟨rfl, hb1⟩
    have D1 : Below w.heap.size w w1 := by refine Below.trans ?_ (hb1.mono ?_) <;> go_grown
    go_wp2_with fail
    refine (hD _).mono ?_
    rintro e w2 ⟨rfl, m, rfl⟩
    go_wp2
    go_ret
    exact ⟨rfl, D1.trans (below_drewN _ _ _)⟩
end Go.Proofs.Ytdlnacnepalpgaa
