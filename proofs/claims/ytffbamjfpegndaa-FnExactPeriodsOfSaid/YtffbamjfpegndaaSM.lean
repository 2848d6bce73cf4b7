
/- What PeriodsOf and AffineHull compute, the program's and the reference's. Conditions: at most 2^20 orders. -/
import Derived.Test.YtffbamjfpegndaaSL
import Derived.Test.YtffbamjfpegndaaSG
namespace Go.Proofs.Ytffbamjfpegndaa
set_option linter.unusedVariables false
set_option linter.unusedSimpArgs false
open Go.RowKit

def prdE (l : List Int) (a : Int) : List Int := if isSet l a then memL (stabN l a.toNat - 1) else []
theorem prdE_len (l : List Int) (a : Int) : (prdE l a).length ≤ 24 := by
  unfold prdE
  split
  · exact memL_len _
  · simp
theorem prdE_no {l : List Int} {a : Int} (h : isSet l a = false) : prdE l a = [] := by unfold prdE; rw [h]; rfl
theorem prdE_yes {l : List Int} {A : Nat} (h : isSet l (A : Int) = true) : prdE l A = memL (stabN l A - 1) := by unfold prdE; rw [h]; rfl
theorem iPeriodsOf_any (v : Value) (l : List Int) (a : Int) (w : World) (hr : Rd w w.heap.size .i64 v l) (hn : l.length ≤ 1048576) (ha : -9223372036854775808 ≤ a ∧ a ≤ 9223372036854775807) :
    Calls Try.prog 63 #[.agg #[v], .int .i64 a] w fun e w' => ∃ ao cap, e = .returned (.slice ao (prdE l a).length cap) ∧ Own w' w.heap.size 3 .i64 (.slice ao (prdE l a).length cap) (prdE l a) ∧ Below w.heap.size w w' := by
  cases hE : isSet l a
  · rw [prdE_no hE]
    replace ha := hid ha
    replace hE := hid hE
    go_enter Try.func63, Try.ntmps63
    go_wp2_with fail
    refine (iIsSet_at hE.out ((hr.alloc (Nat.le_refl _) _).more (by go_size)) hn ha.out).mono ?_
    rintro e w1 ⟨rfl, hb1⟩
    have D1 : Below w.heap.size w w1 := by refine Below.trans ?_ (hb1.mono ?_) <;> go_grown
    have hz1 : w.heap.size < w1.heap.size := by have := hb1.size; simp at this; omega
    obtain ⟨hc1, hf1⟩ := bcell hb1
    go_wp2
    go_ret
    exact ⟨_, _, rfl, Own.empty _ _ _ _ D1.size, D1.trans ((below_alloc _ _).mono D1.size)⟩
  · have hD := hid fun w hr => iStabilizerOf_any v l a w hr hn ha
    obtain ⟨A, rfl, hA⟩ := isSet.nat hE
    rw [prdE_yes hE]
    rw [one_yes hE] at hD
    obtain ⟨S, P, hS, hS2, hS1, hP, hP2, _, _, han⟩ := stab_facts hE
    rw [← hS] at hD ⊢
    have hM := hid fun w => imembers_any (S - 1) (by omega) w
    obtain ⟨M, hMM⟩ : ∃ M, M = memL (S - 1) := ⟨_, rfl⟩
    rw [← hMM] at hM ⊢
    obtain ⟨R, hR⟩ : ∃ R, R = S - 1 := ⟨_, rfl⟩
    rw [← hR] at han hM
    replace ha := hid ha
    replace hE := hid hE
    clear hA hS hS2 hS1 hP hMM hR
    go_enter Try.func63, Try.ntmps63
    go_wp2_with fail
    refine (iIsSet_at hE.out ((hr.alloc (Nat.le_refl _) _).more (by go_size)) hn ha.out).mono ?_
    rintro e w1 ⟨rfl, hb1⟩
    have D1 : Below w.heap.size w w1 := by refine Below.trans ?_ (hb1.mono ?_) <;> go_grown
    have hz1 : w.heap.size < w1.heap.size := by have := hb1.size; simp at this; omega
    obtain ⟨hc1, hf1⟩ := bcell hb1
    go_wp2_with fail
    refine (hD.out _ ((hr.below D1).more (by go_size))).mono ?_
    rintro e w2 ⟨rfl, hb2⟩
    have D2 := bgo D1 hb2
    have hz2 : w.heap.size < w2.heap.size := by have := hb2.size; omega
    obtain ⟨hc2, hf2⟩ := bcell hb2
    go_wp2_with fail
    refine (hM.out _).mono ?_
    rintro e w3 ⟨ao3, cap3, rfl, ho3, hb3⟩
    go_wp2
    go_ret
    exact ⟨_, _, rfl, ho3.lower D2.size, bgo D2 hb3⟩
theorem sPeriodsOf_any (v : Value) (l : List Int) (a : Int) (w : World) (hr : Rd w w.heap.size .i64 v l) (hn : l.length ≤ 1048576) (ha : -9223372036854775808 ≤ a ∧ a ≤ 9223372036854775807) :
    Calls Try.prog 62 #[.agg #[v], .int .i64 a] w fun e w' => ∃ ao cap, e = .returned (.slice ao (prdE l a).length cap) ∧ Own w' w.heap.size 3 .i64 (.slice ao (prdE l a).length cap) (prdE l a) ∧ Below w.heap.size w w' := by
  cases hE : isSet l a
  · rw [prdE_no hE]
    replace ha := hid ha
    replace hE := hid hE
    go_enter Try.func62, Try.ntmps62
    go_wp2_with fail
    refine (sIsSet_at hE.out ((hr.alloc (Nat.le_refl _) _).more (by go_size)) hn ha.out).mono ?_
    rintro e w1 ⟨rfl, hb1⟩
    have D1 : Below w.heap.size w w1 := by refine Below.trans ?_ (hb1.mono ?_) <;> go_grown
    have hz1 : w.heap.size < w1.heap.size := by have := hb1.size; simp at this; omega
    obtain ⟨hc1, hf1⟩ := bcell hb1
    go_wp2
    go_ret
    exact ⟨_, _, rfl, Own.empty _ _ _ _ D1.size, D1.trans ((below_alloc _ _).mono D1.size)⟩
  · obtain ⟨A, rfl, hA⟩ := isSet.nat hE
    have hD := hid fun w hr => sl6Stabilizer_any v l A w hr (isSet.group hE) hA
    rw [prdE_yes hE]
    obtain ⟨S, P, hS, hS2, hS1, hP, hP2, _, _, han⟩ := stab_facts hE
    rw [← hS] at hD ⊢
    have hM := hid fun w => sl3List_any (S - 1) (by omega) w
    obtain ⟨M, hMM⟩ : ∃ M, M = memL (S - 1) := ⟨_, rfl⟩
    rw [← hMM] at hM ⊢
    have en : IntKind.i64.wrap ((S : Int) - 1) = ((S - 1 : Nat) : Int) := by rw [IntWalk.i64_in _ (by omega)]; omega
    obtain ⟨R, hR⟩ : ∃ R, R = S - 1 := ⟨_, rfl⟩
    rw [← hR] at en hM
    have en2 : (S : Int) - 1 = (R : Int) := by omega
    replace ha := hid ha
    replace hE := hid hE
    clear hA hS hP hMM hR han
    replace hS2 := hid hS2
    go_enter Try.func62, Try.ntmps62
    go_wp2_with fail
    refine (sIsSet_at hE.out ((hr.alloc (Nat.le_refl _) _).more (by go_size)) hn ha.out).mono ?_
    rintro e w1 ⟨rfl, hb1⟩
    have D1 : Below w.heap.size w w1 := by refine Below.trans ?_ (hb1.mono ?_) <;> go_grown
    have hz1 : w.heap.size < w1.heap.size := by have := hb1.size; simp at this; omega
    obtain ⟨hc1, hf1⟩ := bcell hb1
    go_wp2_with fail
    refine (hD.out _ ((hr.below D1).more (by go_size))).mono ?_
    rintro e w2 ⟨rfl, hb2⟩
    have D2 := bgo D1 hb2
    have hz2 : w.heap.size < w2.heap.size := by have := hb2.size; omega
    obtain ⟨hc2, hf2⟩ := bcell hb2
    replace hS2 := hS2.out
    go_wp2_with fail
    refine (hM.out _).mono ?_
    rintro e w3 ⟨ao3, cap3, rfl, ho3, hb3⟩
    go_wp2
    go_ret
    exact ⟨_, _, rfl, ho3.lower D2.size, bgo D2 hb3⟩

/-! ### the least element -/
theorem memTo_find {A : Nat} {k : Nat} (hk : A.testBit k = true) (hlow : ∀ j, j < k → A.testBit j = false) : ∀ m, k < m → (memTo A m).headD 0 = (k : Int) := by
  have h0 : ∀ m, m ≤ k → memTo A m = [] := by
    intro m
    induction m with
    | zero => intro _; rfl
    | succ m ih => intro h; rw [memTo_no (hlow m (by omega)), ih (by omega)]
  intro m
  induction m with
  | zero => intro h; omega
  | succ m ih =>
    intro h
    by_cases he : m = k
    · subst he
      rw [memTo_yes hk, h0 m (Nat.le_refl _)]
      rfl
    · have h1 := ih (by omega)
      have hne : memTo A m ≠ [] := by
        intro hc
        have : (k : Int) ∈ memTo A m := (mem_memTo A m k).2 ⟨(inS_nat A k).2 hk, by omega⟩
        rw [hc] at this
        cases this
      cases hb : A.testBit m
      · rw [memTo_no hb]; exact h1
      · rw [memTo_yes hb]
        cases hm : memTo A m with
        | nil => exact absurd hm hne
        | cons x r => rw [hm] at h1; exact h1
theorem low_of {A k : Nat} (hA : A < 16777216) (hk : A.testBit k = true) (hlow : ∀ j, j < k → A.testBit j = false) : lowN A = (k : Int) := by
  have := bit_lt (k := 24) hA hk
  exact memTo_find hk hlow 24 this
theorem sl5Low_any (A : Nat) (hA : A < 16777216) (h0 : A ≠ 0) (w : World) :
    Calls Try.prog 96 #[.int .i64 (A : Int)] w fun e w' => e = .returned (.int .i64 (lowN A)) ∧ ∃ m, w' = w.drewN m := by
  have hfin := hid fun k (h1 : A.testBit k = true) (h2 : ∀ j, j < k → A.testBit j = false) => low_of hA h1 h2
  have hex := hid (show ∀ k, 24 ≤ k → (∀ j, j < k → A.testBit j = false) → False from fun k hk h => h0 (Nat.eq_of_testBit_eq fun i => by
    rw [Nat.zero_testBit]
    rcases Nat.lt_or_ge i 24 with h1 | h1
    · exact h i (by omega)
    · exact Nat.testBit_lt_two_pow (Nat.lt_of_lt_of_le hA (Nat.pow_le_pow_right (by omega) h1 : 2 ^ 24 ≤ 2 ^ i))))
  obtain ⟨L, hL⟩ : ∃ L, L = lowN A := ⟨_, rfl⟩
  rw [← hL] at hfin ⊢
  replace hA := hid hA
  clear hL h0
  go_enter Try.func96, Try.ntmps96
  go_wp2
  go_loopw [3] (fun i wr => ∃ k : Nat, k ≤ 24 ∧ i = .int .i64 k ∧ Hid (∀ j, j < k → A.testBit j = false) ∧ ∃ m, wr = w.drewN m) (fun i _ => 24 - (intOf i).toNat)
  case atStart => exact ⟨0, by omega, rfl, (fun j h => by omega), 0, rfl⟩
  case round =>
    obtain ⟨k, hk, rfl, hlow, m, rfl⟩ := hrel
    have hk24 : k < 24 := by
      rcases Nat.lt_or_eq_of_le hk with h | h
      · exact h
      · exact (hex.out k (by omega) hlow.out).elim
    have htb := hid (bit_div A k)
    have e1 : (A : Int) / 2 ^ k = ((A / 2 ^ k : Nat) : Int) := by
      rw [Int.natCast_ediv, Int.natCast_pow]; rfl
    have hSA : A / 2 ^ k ≤ A := Nat.div_le_self _ _
    have hA2 := hA.out
    obtain ⟨S, hS⟩ : ∃ S, S = A / 2 ^ k := ⟨_, rfl⟩
    rw [← hS] at htb e1 hSA
    have e2 : bits .and .i64 (S : Int) 1 = ((S % 2 : Nat) : Int) := by
      have := and64_low 1 (S : Int) (by omega) (by omega) (by omega)
      simpa using this
    cases hbit : A.testBit k
    · have hm : S % 2 = 0 := by
        have h := htb.out
        rw [hbit] at h
        have := of_decide_eq_false h.symm
        omega
      rw [hm] at e2
      have hnext : Hid (∀ j, j < k + 1 → A.testBit j = false) := hid fun j hj => by
        rcases Nat.lt_or_eq_of_le (Nat.le_of_lt_succ hj) with h | h
        · exact hlow.out j h
        · rw [h]; exact hbit
      clear hm hS hA2 hSA hbit
      go_wp2
      go_roundw
      case rel => exact ⟨k + 1, by omega, by go_num, hnext, _, rfl⟩
      case measure => simp [intOf]; omega
    · have hm : S % 2 = 1 := by
        have h := htb.out
        rw [hbit] at h
        exact of_decide_eq_true h.symm
      rw [hm] at e2
      have hL := hid (hfin.out k hbit hlow.out)
      clear hm hS hA2 hSA hbit
      go_wp2
      go_ret
      exact ⟨by rw [hL.out]; rfl, _, rfl⟩
theorem low_head {A : Nat} (hA : A < 16777216) (h0 : A ≠ 0) : ∃ h : 0 < (memL A).length, (memL A)[0] = lowN A := by
  cases hm : memL A with
  | nil =>
    have := orL_id hA
    rw [hm] at this
    exact absurd this.symm h0
  | cons x r =>
    refine ⟨by simp, ?_⟩
    unfold lowN
    rw [hm]
    rfl
end Go.Proofs.Ytffbamjfpegndaa
