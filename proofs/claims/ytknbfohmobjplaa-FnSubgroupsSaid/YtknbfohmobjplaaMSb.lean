/- Parts of the walk in one text: SC, SD. Conditions: each theorem's own. -/
import Derived.Test.YtknbfohmobjplaaMSa
namespace Go.Proofs.Ytknbfohmobjplaa
set_option linter.unusedVariables false
set_option linter.unusedSimpArgs false
open Go.RowKit

theorem sDifferenceOfSets_any (v : Value) (l : List Int) (a b : Int) (w : World) (hr : Rd w w.heap.size .i64 v l) (hn : l.length ≤ 1048576) (ha : -9223372036854775808 ≤ a ∧ a ≤ 9223372036854775807) (hb : -9223372036854775808 ≤ b ∧ b ≤ 9223372036854775807) :
    Calls Try.prog 11 #[.agg #[v], .int .i64 a, .int .i64 b] w fun e w' => e = .returned (.int .i64 (two difN l a b)) ∧ Below w.heap.size w w' := by
  cases hE : isSet l a
  · rw [two_no (by rw [hE]; rfl)]
    replace ha := hid ha
    replace hE := hid hE
    go_enter Try.func11, Try.ntmps11
    go_wp2_with fail
    refine (sIsSet_at hE.out ((hr.alloc (Nat.le_refl _) _).more (by go_size)) hn ha.out).mono ?_
    rintro e w1 ⟨rfl, hb1⟩
    have D1 : Below w.heap.size w w1 := by refine Below.trans ?_ (hb1.mono ?_) <;> go_grown
    have hz1 : w.heap.size < w1.heap.size := by have := hb1.size; simp at this; omega
    obtain ⟨hc1, hf1⟩ := bcell hb1
    go_wp2
    go_ret
    exact ⟨rfl, D1⟩
  · cases hF : isSet l b
    · rw [two_no (by rw [hE, hF]; rfl)]
      replace ha := hid ha
      replace hb := hid hb
      replace hE := hid hE
      replace hF := hid hF
      go_enter Try.func11, Try.ntmps11
      go_wp2_with fail
      refine (sIsSet_at hE.out ((hr.alloc (Nat.le_refl _) _).more (by go_size)) hn ha.out).mono ?_
      rintro e w1 ⟨rfl, hb1⟩
      have D1 : Below w.heap.size w w1 := by refine Below.trans ?_ (hb1.mono ?_) <;> go_grown
      have hz1 : w.heap.size < w1.heap.size := by have := hb1.size; simp at this; omega
      obtain ⟨hc1, hf1⟩ := bcell hb1
      go_wp2_with fail
      refine (sIsSet_at hF.out ((hr.below D1).more (by go_size)) hn hb.out).mono ?_
      rintro e w2 ⟨rfl, hb2⟩
      have D2 := bgo D1 hb2
      have hz2 : w.heap.size < w2.heap.size := by have := hb2.size; omega
      obtain ⟨hc2, hf2⟩ := bcell hb2
      go_wp2
      go_ret
      exact ⟨rfl, D2⟩
    · obtain ⟨A, rfl, hA⟩ := isSet.nat hE
      obtain ⟨B, rfl, hB⟩ := isSet.nat hF
      rw [two_yes hE hF]
      have hg := isSet.group hE
      have hO := fun w hr => sl3Negate_any v l B w hr hg hB
      have hS := fun w hr => sl4Sum_any v l A (negN l B) w hr hg hA (negN_lt hg B)
      change ∀ (w : World), Rd w w.heap.size .i64 v l → Calls Try.prog 55 #[.agg #[v], .int .i64 (B : Int)] w fun e w' => e = .returned (.int .i64 (negN l B : Nat)) ∧ Below w.heap.size w w' at hO
      obtain ⟨G, hG⟩ : ∃ G, G = difN l A B := ⟨_, rfl⟩
      have hS2 : ∀ (w : World), Rd w w.heap.size .i64 v l → Calls Try.prog 51 #[.agg #[v], .int .i64 (A : Int), .int .i64 (negN l B : Nat)] w fun e w' => e = .returned (.int .i64 (G : Nat)) ∧ Below w.heap.size w w' := by rw [hG]; exact hS
      rw [← hG]
      obtain ⟨N, hN⟩ : ∃ N, N = negN l B := ⟨_, rfl⟩
      rw [← hN] at hS2 hO
      replace ha := hid ha
      replace hb := hid hb
      replace hE := hid hE
      replace hF := hid hF
      clear hG hA hB hg hS hN
      go_enter Try.func11, Try.ntmps11
      go_wp2_with fail
      refine (sIsSet_at hE.out ((hr.alloc (Nat.le_refl _) _).more (by go_size)) hn ha.out).mono ?_
      rintro e w1 ⟨rfl, hb1⟩
      have D1 : Below w.heap.size w w1 := by refine Below.trans ?_ (hb1.mono ?_) <;> go_grown
      have hz1 : w.heap.size < w1.heap.size := by have := hb1.size; simp at this; omega
      obtain ⟨hc1, hf1⟩ := bcell hb1
      go_wp2_with fail
      refine (sIsSet_at hF.out ((hr.below D1).more (by go_size)) hn hb.out).mono ?_
      rintro e w2 ⟨rfl, hb2⟩
      have D2 := bgo D1 hb2
      have hz2 : w.heap.size < w2.heap.size := by have := hb2.size; omega
      obtain ⟨hc2, hf2⟩ := bcell hb2
      have c2 : w2.cell? ⟨w.heap.size, 0, none⟩ = some v := by rw [hc2 _ _ hz1, hc1 _ _ (by go_size)]; simp [go_sem]
      clear hc1 hc2 hf1 hf2 hb1 hb2
      go_wp2_with fail
      go_region_held3 (fun w' => w'.cell? ⟨w.heap.size, 0, none⟩ = some v) (first | go_keep | exact (hb3.cell hz2).trans c2 | exact (hb4.cell (Nat.lt_of_lt_of_le hz2 hb3.size)).trans ((hb3.cell hz2).trans c2)) (first | (go_at_call 55; refine (hO _ ((hr.below (by go_grown)).more (by go_size))).mono ?_; rintro e w3 ⟨rfl, hb3⟩; replace hb3 : Below w2.heap.size w2 w3 := (Below.refl w2.heap.size w2).drew.trans hb3) | (go_at_call 51; refine (hS2 _ ((hr.below (bgo D2 hb3)).more (bgo D2 hb3).size)).mono ?_; rintro e w4 ⟨rfl, hb4⟩))
      go_wp2
      go_ret
      exact ⟨rfl, bgo (bgo D2 hb3) hb4⟩

/-! ### n-fold sums -/
def msN (l : List Int) (A : Nat) : Nat → Nat
  | 0 => 1
  | n + 1 => sumN l (msN l A n) A
theorem msN_lt {l : List Int} (hg : isGroup l = true) (A : Nat) : ∀ n, msN l A n < 16777216 := by
  intro n
  cases n with
  | zero => exact (by decide : 1 < 16777216)
  | succ n => exact sumN_lt hg _ _
def msE (l : List Int) (a n : Int) : Int := if isSet l a && decide (0 ≤ n ∧ n ≤ 30) then (msN l a.toNat n.toNat : Nat) else -1
theorem msE_no {l : List Int} {a n : Int} (h : isSet l a = false) : msE l a n = -1 := by unfold msE; rw [h]; rfl
theorem msE_bad {l : List Int} {a n : Int} (h : ¬ (0 ≤ n ∧ n ≤ 30)) : msE l a n = -1 := by
  unfold msE
  rw [decide_eq_false h, Bool.and_false]
  rfl
theorem msE_yes {l : List Int} {A n : Nat} (h : isSet l (A : Int) = true) (hn : n ≤ 30) : msE l A n = (msN l A n : Nat) := by
  unfold msE
  rw [h, decide_eq_true (by omega), Int.toNat_natCast, Int.toNat_natCast]
  rfl
theorem iMultipleSum_any (v : Value) (l : List Int) (a n : Int) (w : World) (hr : Rd w w.heap.size .i64 v l) (hn : l.length ≤ 1048576) (ha : -9223372036854775808 ≤ a ∧ a ≤ 9223372036854775807) (_ : -9223372036854775808 ≤ n ∧ n ≤ 9223372036854775807) :
    Calls Try.prog 15 #[.agg #[v], .int .i64 a, .int .i64 n] w fun e w' => e = .returned (.int .i64 (msE l a n)) ∧ Below w.heap.size w w' := by
  cases hE : isSet l a
  · rw [msE_no hE]
    replace ha := hid ha
    replace hE := hid hE
    go_enter Try.func15, Try.ntmps15
    go_wp2_with fail
    refine (iIsSet_at hE.out ((hr.alloc (Nat.le_refl _) _).more (by go_size)) hn ha.out).mono ?_
    rintro e w1 ⟨rfl, hb1⟩
    have D1 : Below w.heap.size w w1 := by refine Below.trans ?_ (hb1.mono ?_) <;> go_grown
    have hz1 : w.heap.size < w1.heap.size := by have := hb1.size; simp at this; omega
    obtain ⟨hc1, hf1⟩ := bcell hb1
    go_wp2
    go_ret
    exact ⟨rfl, D1⟩
  · by_cases hnb : 0 ≤ n ∧ n ≤ 30
    · obtain ⟨A, rfl, hA⟩ := isSet.nat hE
      obtain ⟨m, rfl⟩ := Int.eq_ofNat_of_zero_le hnb.1
      have hm : m ≤ 30 := by omega
      rw [msE_yes hE hm]
      have hg := isSet.group hE
      have hS := hid fun C w hr hC => isum_any v l C A w hr hg hC hA
      have hlt := hid (msN_lt hg A)
      replace ha := hid ha
      replace hE := hid hE
      clear hA hg
      go_enter Try.func15, Try.ntmps15
      go_wp2_with fail
      refine (iIsSet_at hE.out ((hr.alloc (Nat.le_refl _) _).more (by go_size)) hn ha.out).mono ?_
      rintro e w1 ⟨rfl, hb1⟩
      have D1 : Below w.heap.size w w1 := by refine Below.trans ?_ (hb1.mono ?_) <;> go_grown
      have hz1 : w.heap.size < w1.heap.size := by have := hb1.size; simp at this; omega
      obtain ⟨hc1, hf1⟩ := bcell hb1
      go_wp2_with (go_at_call 60; refine (iwithin_yes _ _ _ (by omega) _).mono ?_; rintro e w' ⟨rfl, rfl⟩)
      have c1 : w1.cell? ⟨w.heap.size, 0, none⟩ = some v := by rw [hc1 _ _ (by go_size)]; simp [go_sem]
      clear hc1 hf1 hb1
      go_loopw [7,18] (fun o i wr => ∃ k : Nat, k ≤ m ∧ i = .int .i64 k ∧ o = .int .i64 (msN l A k : Nat) ∧ Below w.heap.size w wr ∧ Below w1.heap.size w1 wr) (fun _ i _ => m - (intOf i).toNat)
      case atStart => exact ⟨0, by omega, rfl, rfl, D1, Below.refl _ _⟩
      case round =>
        obtain ⟨k, hk, rfl, rfl, hb, hbm⟩ := hrel
        have hz : w.heap.size < wr.heap.size := by have := hbm.size; omega
        have hc := (hbm.cell hz1).trans c1
        by_cases hlt2 : k < m
        · have hC := hlt.out k
          have hs1 : msN l A (k + 1) = sumN l (msN l A k) A := rfl
          have hS2 := fun w hr => hS.out (msN l A k) w hr hC
          rw [← hs1] at hS2
          obtain ⟨C, hCC⟩ : ∃ C, C = msN l A k := ⟨_, rfl⟩
          obtain ⟨D, hDD⟩ : ∃ D, D = msN l A (k + 1) := ⟨_, rfl⟩
          rw [← hCC, ← hDD] at hS2
          rw [← hCC]
          replace hDD := hid hDD
          clear hs1 hC hCC
          go_wp2_with fail
          refine (hS2 _ ((hr.below hb).more (by go_size))).mono ?_
          rintro e w2 ⟨rfl, hb2⟩
          go_wp2
          go_roundw
          case rel => exact ⟨k + 1, by omega, by go_num, by rw [hDD.out], bgo hb hb2, bgo hbm hb2⟩
          case measure => simp [intOf]; omega
        · obtain rfl : k = m := by omega
          go_wp2
          go_ret
          exact ⟨rfl, hb⟩
    · rw [msE_bad hnb]
      replace ha := hid ha
      replace hE := hid hE
      go_enter Try.func15, Try.ntmps15
      go_wp2_with fail
      refine (iIsSet_at hE.out ((hr.alloc (Nat.le_refl _) _).more (by go_size)) hn ha.out).mono ?_
      rintro e w1 ⟨rfl, hb1⟩
      have D1 : Below w.heap.size w w1 := by refine Below.trans ?_ (hb1.mono ?_) <;> go_grown
      have hz1 : w.heap.size < w1.heap.size := by have := hb1.size; simp at this; omega
      obtain ⟨hc1, hf1⟩ := bcell hb1
      go_wp2_with (go_at_call 60; refine (iwithin_no _ _ _ (by omega) _).mono ?_; rintro e w' ⟨rfl, rfl⟩)
      go_ret
      exact ⟨rfl, D1⟩
theorem sMultipleSum_any (v : Value) (l : List Int) (a n : Int) (w : World) (hr : Rd w w.heap.size .i64 v l) (hn : l.length ≤ 1048576) (ha : -9223372036854775808 ≤ a ∧ a ≤ 9223372036854775807) (_ : -9223372036854775808 ≤ n ∧ n ≤ 9223372036854775807) :
    Calls Try.prog 16 #[.agg #[v], .int .i64 a, .int .i64 n] w fun e w' => e = .returned (.int .i64 (msE l a n)) ∧ Below w.heap.size w w' := by
  cases hE : isSet l a
  · rw [msE_no hE]
    replace ha := hid ha
    replace hE := hid hE
    go_enter Try.func16, Try.ntmps16
    go_wp2_with fail
    refine (sIsSet_at hE.out ((hr.alloc (Nat.le_refl _) _).more (by go_size)) hn ha.out).mono ?_
    rintro e w1 ⟨rfl, hb1⟩
    have D1 : Below w.heap.size w w1 := by refine Below.trans ?_ (hb1.mono ?_) <;> go_grown
    have hz1 : w.heap.size < w1.heap.size := by have := hb1.size; simp at this; omega
    obtain ⟨hc1, hf1⟩ := bcell hb1
    go_wp2
    go_ret
    exact ⟨rfl, D1⟩
  · by_cases hnb : 0 ≤ n ∧ n ≤ 30
    · obtain ⟨A, rfl, hA⟩ := isSet.nat hE
      obtain ⟨m, rfl⟩ := Int.eq_ofNat_of_zero_le hnb.1
      have hm : m ≤ 30 := by omega
      rw [msE_yes hE hm]
      have hg := isSet.group hE
      have hS := hid fun C w hr hC => sl4Sum_any v l C A w hr hg hC hA
      have hlt := hid (msN_lt hg A)
      replace ha := hid ha
      replace hE := hid hE
      clear hA hg
      go_enter Try.func16, Try.ntmps16
      go_wp2_with fail
      refine (sIsSet_at hE.out ((hr.alloc (Nat.le_refl _) _).more (by go_size)) hn ha.out).mono ?_
      rintro e w1 ⟨rfl, hb1⟩
      have D1 : Below w.heap.size w w1 := by refine Below.trans ?_ (hb1.mono ?_) <;> go_grown
      have hz1 : w.heap.size < w1.heap.size := by have := hb1.size; simp at this; omega
      obtain ⟨hc1, hf1⟩ := bcell hb1
      go_wp2_with (go_at_call 61; refine (sl1In_yes _ _ _ (by omega) _).mono ?_; rintro e w' ⟨rfl, rfl⟩)
      have c1 : w1.cell? ⟨w.heap.size, 0, none⟩ = some v := by rw [hc1 _ _ (by go_size)]; simp [go_sem]
      clear hc1 hf1 hb1
      go_loopw [7,8] (fun o i wr => ∃ k : Nat, k ≤ m ∧ i = .int .i64 k ∧ o = .int .i64 (msN l A k : Nat) ∧ Below w.heap.size w wr ∧ Below w1.heap.size w1 wr) (fun _ i _ => m - (intOf i).toNat)
      case atStart => exact ⟨0, by omega, rfl, rfl, D1, Below.refl _ _⟩
      case round =>
        obtain ⟨k, hk, rfl, rfl, hb, hbm⟩ := hrel
        have hz : w.heap.size < wr.heap.size := by have := hbm.size; omega
        have hc := (hbm.cell hz1).trans c1
        by_cases hlt2 : k < m
        · have hC := hlt.out k
          have hs1 : msN l A (k + 1) = sumN l (msN l A k) A := rfl
          have hS2 := fun w hr => hS.out (msN l A k) w hr hC
          rw [← hs1] at hS2
          obtain ⟨C, hCC⟩ : ∃ C, C = msN l A k := ⟨_, rfl⟩
          obtain ⟨D, hDD⟩ : ∃ D, D = msN l A (k + 1) := ⟨_, rfl⟩
          rw [← hCC, ← hDD] at hS2
          rw [← hCC]
          replace hDD := hid hDD
          clear hs1 hC hCC
          go_wp2_with fail
          refine (hS2 _ ((hr.below hb).more (by go_size))).mono ?_
          rintro e w2 ⟨rfl, hb2⟩
          go_wp2
          go_roundw
          case rel => exact ⟨k + 1, by omega, by go_num, by rw [hDD.out], bgo hb hb2, bgo hbm hb2⟩
          case measure => simp [intOf]; omega
        · obtain rfl : k = m := by omega
          go_wp2
          go_ret
          exact ⟨rfl, hb⟩
    · rw [msE_bad hnb]
      replace ha := hid ha
      replace hE := hid hE
      go_enter Try.func16, Try.ntmps16
      go_wp2_with fail
      refine (sIsSet_at hE.out ((hr.alloc (Nat.le_refl _) _).more (by go_size)) hn ha.out).mono ?_
      rintro e w1 ⟨rfl, hb1⟩
      have D1 : Below w.heap.size w w1 := by refine Below.trans ?_ (hb1.mono ?_) <;> go_grown
      have hz1 : w.heap.size < w1.heap.size := by have := hb1.size; simp at this; omega
      obtain ⟨hc1, hf1⟩ := bcell hb1
      go_wp2_with (go_at_call 61; refine (sl1In_no _ _ _ (by omega) _).mono ?_; rintro e w' ⟨rfl, rfl⟩)
      go_ret
      exact ⟨rfl, D1⟩
end Go.Proofs.Ytknbfohmobjplaa

namespace Go.Proofs.Ytknbfohmobjplaa
set_option linter.unusedVariables false
set_option linter.unusedSimpArgs false
open Go.RowKit

/-- a number made of one set, -1 where it is none -/
def one (E : List Int → Nat → Nat) (l : List Int) (a : Int) : Int := if isSet l a then (E l a.toNat : Nat) else -1
theorem one_no {E : List Int → Nat → Nat} {l : List Int} {a : Int} (h : isSet l a = false) : one E l a = -1 := by unfold one; rw [h]; rfl
theorem one_yes {E : List Int → Nat → Nat} {l : List Int} {A : Nat} (h : isSet l (A : Int) = true) : one E l A = (E l A : Nat) := by unfold one; rw [h]; rfl
theorem ss_round {l M : List Int} (hg : isGroup l = true) {k : Nat} (hk : k < M.length) :
    ∃ (S A B : Nat), S = shN l A M[k] ∧ S < 16777216 ∧ A = ssTo l (M.take k) ∧ A < 16777216 ∧ B = ssTo l (M.take (k + 1)) ∧ B < 16777216 ∧ bits .or .i64 (A : Int) (S : Int) = (B : Int) := by
  have hA := ssTo_lt hg (M.take k)
  have hB := ssTo_lt hg (M.take (k + 1))
  have hS := shN_lt hg (ssTo l (M.take k)) M[k]
  refine ⟨_, _, _, rfl, hS, rfl, hA, rfl, hB, ?_⟩
  rw [or64 _ _ (by omega) (by omega), take_succ_get M k hk, ssTo_snoc]
theorem iSubsetSums_any (v : Value) (l : List Int) (a : Int) (w : World) (hr : Rd w w.heap.size .i64 v l) (hn : l.length ≤ 1048576) (ha : -9223372036854775808 ≤ a ∧ a ≤ 9223372036854775807) :
    Calls Try.prog 19 #[.agg #[v], .int .i64 a] w fun e w' => e = .returned (.int .i64 (one ssN l a)) ∧ Below w.heap.size w w' := by
  cases hE : isSet l a
  · rw [one_no hE]
    replace ha := hid ha
    replace hE := hid hE
    go_enter Try.func19, Try.ntmps19
    go_wp2_with fail
    refine (iIsSet_at hE.out ((hr.alloc (Nat.le_refl _) _).more (by go_size)) hn ha.out).mono ?_
    rintro e w1 ⟨rfl, hb1⟩
    have D1 : Below w.heap.size w w1 := by refine Below.trans ?_ (hb1.mono ?_) <;> go_grown
    have hz1 : w.heap.size < w1.heap.size := by have := hb1.size; simp at this; omega
    obtain ⟨hc1, hf1⟩ := bcell hb1
    go_wp2
    go_ret
    exact ⟨rfl, D1⟩
  · obtain ⟨A, rfl, hA⟩ := isSet.nat hE
    rw [one_yes hE]
    show Calls _ _ _ _ fun e w' => e = .returned (.int .i64 (ssTo l (memL A) : Nat)) ∧ Below w.heap.size w w'
    have hg := hid (isSet.group hE)
    have hM := fun w => imembers_any A hA w
    have hML := memL_len A
    have hMb := hid (fun x => @memL_bd A x)
    obtain ⟨M, hMM⟩ : ∃ M, M = memL A := ⟨_, rfl⟩
    rw [← hMM] at hM hML hMb ⊢
    replace ha := hid ha
    replace hE := hid hE
    clear hMM hA
    go_enter Try.func19, Try.ntmps19
    go_wp2_with fail
    refine (iIsSet_at hE.out ((hr.alloc (Nat.le_refl _) _).more (by go_size)) hn ha.out).mono ?_
    rintro e w1 ⟨rfl, hb1⟩
    have D1 : Below w.heap.size w w1 := by refine Below.trans ?_ (hb1.mono ?_) <;> go_grown
    have hz1 : w.heap.size < w1.heap.size := by have := hb1.size; simp at this; omega
    obtain ⟨hc1, hf1⟩ := bcell hb1
    have c1 : w1.cell? ⟨w.heap.size, 0, none⟩ = some v := by rw [hc1 _ _ (by go_size)]; simp [go_sem]
    clear hc1 hf1 hb1
    go_wp2_with fail
    refine (hM _).mono ?_
    rintro e w2 ⟨ao2, cap2, rfl, ho2, hb2⟩
    have D2 := bgo D1 hb2
    have hz2 : w.heap.size < w2.heap.size := by have := hb2.size; omega
    have c2 := (hb2.cell hz1).trans c1
    have hrM := Rd.of_own ho2
    clear hb2 ho2 c1
    go_wp2
    go_loopw [5, 15] (fun o i wr => ∃ k : Nat, k ≤ M.length ∧ i = .int .i64 k ∧ o = .int .i64 (ssTo l (M.take k) : Nat) ∧ Below w.heap.size w wr ∧ Below w2.heap.size w2 wr) (fun _ i _ => M.length - (intOf i).toNat)
    case atStart => exact ⟨0, by omega, rfl, rfl, D2, Below.refl _ _⟩
    case round =>
      obtain ⟨k, hk, rfl, rfl, hb, hbm⟩ := hrel
      have hz : w.heap.size < wr.heap.size := by have := hbm.size; omega
      have hc := (hbm.cell hz2).trans c2
      by_cases hlt : k < M.length
      · obtain ⟨b, off, rfl, hBk, hcell⟩ := hrM.cells (by omega)
        have hcm := (hbm.cell (p := ⟨b, off + k, none⟩) hBk).trans (hcell k hlt)
        have hxb := hMb.out _ (List.getElem_mem hlt)
        obtain ⟨S, A1, B1, hS, hS2, hA1, hA2, hB1, hB2, hor⟩ := ss_round hg.out hlt
        rw [← hA1]
        obtain ⟨x, hx⟩ : ∃ x, x = M[k] := ⟨_, rfl⟩
        rw [← hx] at hcm hxb hS
        have hD := hid fun w hr => ishift_any v l A1 x w hr hg.out hA2 hxb
        replace hS2 := hid hS2
        replace hA2 := hid hA2
        replace hB2 := hid hB2
        replace hB1 := hid hB1
        replace hS := hid hS
        clear hx hA1 hcell
        go_wp2_with fail
        refine (hD.out _ ((hr.below hb).more (by go_size))).mono ?_
        rintro e w3 ⟨rfl, hb3⟩
        change bits .or .i64 (A1 : Int) (S : Int) = _ at hor
        rw [show orL (gadd l x) (memL A1) = S from hS.out.symm]
        go_wp2
        go_roundw
        case rel => exact ⟨k + 1, by omega, by go_num, by rw [← hB1.out], bgo hb hb3, bgo hbm hb3⟩
        case measure => simp [intOf]; omega
      · have e : M.take k = M := List.take_of_length_le (by omega)
        rw [e]
        go_wp2
        go_ret
        exact ⟨rfl, hb⟩
theorem sSubsetSums_any (v : Value) (l : List Int) (a : Int) (w : World) (hr : Rd w w.heap.size .i64 v l) (hn : l.length ≤ 1048576) (ha : -9223372036854775808 ≤ a ∧ a ≤ 9223372036854775807) :
    Calls Try.prog 22 #[.agg #[v], .int .i64 a] w fun e w' => e = .returned (.int .i64 (one ssN l a)) ∧ Below w.heap.size w w' := by
  cases hE : isSet l a
  · rw [one_no hE]
    replace ha := hid ha
    replace hE := hid hE
    go_enter Try.func22, Try.ntmps22
    go_wp2_with fail
    refine (sIsSet_at hE.out ((hr.alloc (Nat.le_refl _) _).more (by go_size)) hn ha.out).mono ?_
    rintro e w1 ⟨rfl, hb1⟩
    have D1 : Below w.heap.size w w1 := by refine Below.trans ?_ (hb1.mono ?_) <;> go_grown
    have hz1 : w.heap.size < w1.heap.size := by have := hb1.size; simp at this; omega
    obtain ⟨hc1, hf1⟩ := bcell hb1
    go_wp2
    go_ret
    exact ⟨rfl, D1⟩
  · obtain ⟨A, rfl, hA⟩ := isSet.nat hE
    rw [one_yes hE]
    show Calls _ _ _ _ fun e w' => e = .returned (.int .i64 (ssTo l (memL A) : Nat)) ∧ Below w.heap.size w w'
    have hg := hid (isSet.group hE)
    have hM := fun w => sl3List_any A hA w
    have hML := memL_len A
    have hMb := hid (fun x => @memL_bd A x)
    obtain ⟨M, hMM⟩ : ∃ M, M = memL A := ⟨_, rfl⟩
    rw [← hMM] at hM hML hMb ⊢
    replace ha := hid ha
    replace hE := hid hE
    clear hMM hA
    go_enter Try.func22, Try.ntmps22
    go_wp2_with fail
    refine (sIsSet_at hE.out ((hr.alloc (Nat.le_refl _) _).more (by go_size)) hn ha.out).mono ?_
    rintro e w1 ⟨rfl, hb1⟩
    have D1 : Below w.heap.size w w1 := by refine Below.trans ?_ (hb1.mono ?_) <;> go_grown
    have hz1 : w.heap.size < w1.heap.size := by have := hb1.size; simp at this; omega
    obtain ⟨hc1, hf1⟩ := bcell hb1
    have c1 : w1.cell? ⟨w.heap.size, 0, none⟩ = some v := by rw [hc1 _ _ (by go_size)]; simp [go_sem]
    clear hc1 hf1 hb1
    go_wp2_with fail
    refine (hM _).mono ?_
    rintro e w2 ⟨ao2, cap2, rfl, ho2, hb2⟩
    have D2 := bgo D1 hb2
    have hz2 : w.heap.size < w2.heap.size := by have := hb2.size; omega
    have c2 := (hb2.cell hz1).trans c1
    have hrM := Rd.of_own ho2
    clear hb2 ho2 c1
    go_wp2
    go_loopw [5, 7] (fun o i wr => ∃ k : Nat, k ≤ M.length ∧ i = .int .i64 k ∧ o = .int .i64 (ssTo l (M.take k) : Nat) ∧ Below w.heap.size w wr ∧ Below w2.heap.size w2 wr) (fun _ i _ => M.length - (intOf i).toNat)
    case atStart => exact ⟨0, by omega, rfl, rfl, D2, Below.refl _ _⟩
    case round =>
      obtain ⟨k, hk, rfl, rfl, hb, hbm⟩ := hrel
      have hz : w.heap.size < wr.heap.size := by have := hbm.size; omega
      have hc := (hbm.cell hz2).trans c2
      by_cases hlt : k < M.length
      · obtain ⟨b, off, rfl, hBk, hcell⟩ := hrM.cells (by omega)
        have hcm := (hbm.cell (p := ⟨b, off + k, none⟩) hBk).trans (hcell k hlt)
        have hxb := hMb.out _ (List.getElem_mem hlt)
        obtain ⟨S, A1, B1, hS, hS2, hA1, hA2, hB1, hB2, hor⟩ := ss_round hg.out hlt
        rw [← hA1]
        obtain ⟨x, hx⟩ : ∃ x, x = M[k] := ⟨_, rfl⟩
        rw [← hx] at hcm hxb hS
        have hD := hid fun w hr => sl3Shift_same v l A1 x w hr hg.out hA2 hxb
        replace hS2 := hid hS2
        replace hA2 := hid hA2
        replace hB2 := hid hB2
        replace hB1 := hid hB1
        replace hS := hid hS
        clear hx hA1 hcell
        have hBr : b < wr.heap.size := Nat.lt_of_lt_of_le hBk hbm.size
        change bits .or .i64 (A1 : Int) (S : Int) = _ at hor
        go_wp2_with fail
        go_region_held3 (fun w' => w'.cell? ⟨w.heap.size, 0, none⟩ = some v ∧ w'.cell? ⟨b, off + k, none⟩ = some (.int .i64 x)) (first | go_keep | exact ⟨(hb3.cell hz).trans hc, (hb3.cell (p := ⟨b, off + k, none⟩) hBr).trans hcm⟩) ((go_at_call 69; refine (hD.out _ ((hr.below (by go_grown)).more (by go_size))).mono ?_; rintro e w3 ⟨rfl, hb3⟩; rw [show orL (gadd l x) (memL A1) = S from hS.out.symm]; replace hb3 : Below wr.heap.size wr w3 := (Below.refl wr.heap.size wr).drew.trans hb3))
        go_wp2
        go_roundw
        case rel => exact ⟨k + 1, by omega, by go_num, by rw [← hB1.out, ← hor], bgo hb hb3, bgo hbm hb3⟩
        case measure => simp [intOf]; omega
      · have e : M.take k = M := List.take_of_length_le (by omega)
        rw [e]
        go_wp2
        go_ret
        exact ⟨rfl, hb⟩
end Go.Proofs.Ytknbfohmobjplaa
