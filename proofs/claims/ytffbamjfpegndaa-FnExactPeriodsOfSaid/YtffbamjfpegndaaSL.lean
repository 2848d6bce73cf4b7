
/- What StabilizerOf computes, the program's and the reference's. Conditions: at most 2^20 orders. -/
import Derived.Test.YtffbamjfpegndaaSE
import Derived.Test.YtffbamjfpegndaaSJ
namespace Go.Proofs.Ytffbamjfpegndaa
set_option linter.unusedVariables false
set_option linter.unusedSimpArgs false
open Go.RowKit

theorem stab_yes {l : List Int} (hg : isGroup l = true) {A k : Nat} (hk : (k : Int) < prodL l) (h : shN l A k = A) :
    ∃ T : Nat, (2 : Int) ^ k = (T : Int) ∧ T ≤ 8388608 ∧ bits .or .i64 (stabTo l A k : Nat) (T : Int) = (stabTo l A (k + 1) : Nat) := by
  have hp := isGroup.prod hg
  have h1 := top_24 hg (stabTo_lt hg A (x := k) (by omega))
  have h3 := Nat.pow_le_pow_right (show 0 < 2 by omega) (show k ≤ 23 by omega)
  have h4 : 2 ^ 23 = 8388608 := rfl
  refine ⟨2 ^ k, (Int.natCast_pow 2 _).symm, by omega, ?_⟩
  rw [or64 _ _ (by omega) (by omega), stabTo, if_pos h]
theorem stab_no {l : List Int} {A k : Nat} (h : ¬ shN l A k = A) : stabTo l A (k + 1) = stabTo l A k := by rw [stabTo, if_neg h]
theorem iStabilizerOf_any (v : Value) (l : List Int) (a : Int) (w : World) (hr : Rd w w.heap.size .i64 v l) (hn : l.length ≤ 1048576) (ha : -9223372036854775808 ≤ a ∧ a ≤ 9223372036854775807) :
    Calls Try.prog 57 #[.agg #[v], .int .i64 a] w fun e w' => e = .returned (.int .i64 (one stabN l a)) ∧ Below w.heap.size w w' := by
  cases hE : isSet l a
  · rw [one_no hE]
    replace ha := hid ha
    replace hE := hid hE
    go_enter Try.func57, Try.ntmps57
    go_wp2_with fail
    refine (iIsSet_at hE.out ((hr.alloc (Nat.le_refl _) _).more (by go_size)) hn ha.out).mono ?_
    rintro e w1 ⟨rfl, hb1⟩
    have D1 : Below w.heap.size w w1 := by refine Below.trans ?_ (hb1.mono ?_) <;> go_grown
    have hz1 : w.heap.size < w1.heap.size := by have := hb1.size; simp at this; omega
    obtain ⟨hc1, hf1⟩ := bcell hb1
    go_wp2
    go_ret
    exact ⟨rfl, D1⟩
  · obtain ⟨A, rfl, hA⟩ := isSet.nat hE
    rw [one_yes hE]
    have hg := hid (isSet.group hE)
    have hp := isGroup.prod hg.out
    have hD := hid fun y w hr hy => ishift_any v l A y w hr hg.out hA hy
    have hO := hid fun w h => iOrderOf_g v l w h hg.out
    have hpn : prodL l = ((prodL l).toNat : Int) := by omega
    show Calls _ _ _ _ fun e w' => e = .returned (.int .i64 (stabTo l A (prodL l).toNat : Nat)) ∧ Below w.heap.size w w'
    obtain ⟨n, hnn⟩ : ∃ n, n = (prodL l).toNat := ⟨_, rfl⟩
    rw [← hnn] at hpn ⊢
    rw [hpn] at hO
    have hn24 : n ≤ 24 := by omega
    replace hpn := hid hpn
    replace ha := hid ha
    replace hE := hid hE
    replace hA := hid hA
    clear hnn hp
    go_enter Try.func57, Try.ntmps57
    go_wp2_with fail
    refine (iIsSet_at hE.out ((hr.alloc (Nat.le_refl _) _).more (by go_size)) hn ha.out).mono ?_
    rintro e w1 ⟨rfl, hb1⟩
    have D1 : Below w.heap.size w w1 := by refine Below.trans ?_ (hb1.mono ?_) <;> go_grown
    have hz1 : w.heap.size < w1.heap.size := by have := hb1.size; simp at this; omega
    obtain ⟨hc1, hf1⟩ := bcell hb1
    go_wp2_with fail
    refine (hO.out _ ((hr.below D1).more (by go_size))).mono ?_
    rintro e w2 ⟨rfl, hb2⟩
    have D2 := bgo D1 hb2
    have hz2 : w.heap.size < w2.heap.size := by have := hb2.size; omega
    obtain ⟨hc2, hf2⟩ := bcell hb2
    have c2 : w2.cell? ⟨w.heap.size, 0, none⟩ = some v := by rw [hc2 _ _ hz1, hc1 _ _ (by go_size)]; simp [go_sem]
    clear hc1 hf1 hb1 hc2 hf2 hb2
    go_wp2
    go_loopw [5, 13] (fun o i wr => ∃ k : Nat, k ≤ n ∧ i = .int .i64 k ∧ o = .int .i64 (stabTo l A k : Nat) ∧ Below w.heap.size w wr ∧ Below w2.heap.size w2 wr) (fun _ i _ => n - (intOf i).toNat)
    case atStart => exact ⟨0, by omega, rfl, rfl, D2, Below.refl _ _⟩
    case round =>
      obtain ⟨k, hk, rfl, rfl, hb, hbm⟩ := hrel
      have hz : w.heap.size < wr.heap.size := by have := hbm.size; omega
      have hc := (hbm.cell hz2).trans c2
      by_cases hlt : k < n
      · have hkp : (k : Int) < prodL l := by have := hpn.out; omega
        have hC := hid fun w hr => hD.out (k : Int) w hr (by omega)
        have hC2 : Hid (∀ (w : World), Rd w w.heap.size .i64 v l → Calls Try.prog 78 #[.agg #[v], .int .i64 (A : Int), .int .i64 (k : Int)] w fun e w' => e = .returned (.int .i64 (shN l A k : Nat)) ∧ Below w.heap.size w w') := hC
        clear hC
        by_cases hs : shN l A k = A
        · obtain ⟨T, hT, hT2, hor⟩ := stab_yes hg.out hkp hs
          rw [hs] at hC2
          have e1 : ((A : Int) == (A : Int)) = true := by simp
          have hwT : IntKind.i64.wrap (T : Int) = T := IntWalk.i64_in _ (by omega)
          clear hs hkp
          go_wp2_with fail
          refine (hC2.out _ ((hr.below hb).more (by go_size))).mono ?_
          rintro e w3 ⟨rfl, hb3⟩
          go_wp2
          go_roundw
          case rel => exact ⟨k + 1, by omega, by go_num, by rw [← hor], bgo hb hb3, bgo hbm hb3⟩
          case measure => simp [intOf]; omega
        · have hst := hid (stab_no hs)
          obtain ⟨S, hSS⟩ : ∃ S, S = shN l A k := ⟨_, rfl⟩
          rw [← hSS] at hC2 hs
          have e1 : ((S : Int) == (A : Int)) = false := by rw [beq_eq_false_iff_ne]; omega
          clear hSS hs hkp
          go_wp2_with fail
          refine (hC2.out _ ((hr.below hb).more (by go_size))).mono ?_
          rintro e w3 ⟨rfl, hb3⟩
          go_wp2
          go_roundw
          case rel => exact ⟨k + 1, by omega, by go_num, by rw [hst.out], bgo hb hb3, bgo hbm hb3⟩
          case measure => simp [intOf]; omega
      · obtain rfl : k = n := by omega
        go_wp2
        go_ret
        exact ⟨rfl, hb⟩
theorem sl6Stabilizer_any (v : Value) (l : List Int) (A : Nat) (w : World) (hr : Rd w w.heap.size .i64 v l) (hg0 : isGroup l = true) (hA : A < 16777216) :
    Calls Try.prog 98 #[.agg #[v], .int .i64 (A : Int)] w fun e w' => e = .returned (.int .i64 (stabN l A : Nat)) ∧ Below w.heap.size w w' := by
  have hg := hid hg0
  have hp := isGroup.prod hg.out
  have hD := hid fun y w hr hy => sl3Shift_same v l A y w hr hg.out hA hy
  have hO := hid fun w h => sl2Order_any v l w h hg.out
  have hpn : prodL l = ((prodL l).toNat : Int) := by omega
  show Calls _ _ _ _ fun e w' => e = .returned (.int .i64 (stabTo l A (prodL l).toNat : Nat)) ∧ Below w.heap.size w w'
  obtain ⟨n, hnn⟩ : ∃ n, n = (prodL l).toNat := ⟨_, rfl⟩
  rw [← hnn] at hpn ⊢
  rw [hpn] at hO
  have hn24 : n ≤ 24 := by omega
  replace hpn := hid hpn
  replace hA := hid hA
  clear hnn hp hg0
  go_enter Try.func98, Try.ntmps98
  go_wp2
  go_loopw [5, 6] (fun o i wr => ∃ k : Nat, k ≤ n ∧ i = .int .i64 k ∧ o = .int .i64 (stabTo l A k : Nat) ∧ Below w.heap.size w wr ∧ w.heap.size < wr.heap.size ∧ wr.cell? ⟨w.heap.size, 0, none⟩ = some v) (fun _ i _ => n - (intOf i).toNat)
  case atStart => exact ⟨0, by omega, rfl, rfl, below_alloc _ _, by simp, by simp [go_sem]⟩
  case round =>
    obtain ⟨k, hk, rfl, rfl, hb, hz, hc⟩ := hrel
    go_wp2_with fail
    refine (hO.out _ ((hr.below hb).more (by go_size))).mono ?_
    rintro e w2 ⟨rfl, hb2⟩
    have D2 := bgo hb hb2
    have hz2 : w.heap.size < w2.heap.size := by have := hb2.size; omega
    have c2 := (hb2.cell hz).trans hc
    clear hb2 hc
    by_cases hlt : k < n
    · have hkp : (k : Int) < prodL l := by have := hpn.out; omega
      have hC := hid fun w hr => hD.out (k : Int) w hr (by omega)
      have hC2 : Hid (∀ (w : World), Rd w w.heap.size .i64 v l → Calls Try.prog 83 #[.agg #[v], .int .i64 (A : Int), .int .i64 (k : Int)] w fun e w' => e = .returned (.int .i64 (shN l A k : Nat)) ∧ Below w.heap.size w w') := hC
      clear hC
      by_cases hs : shN l A k = A
      · obtain ⟨T, hT, hT2, hor⟩ := stab_yes hg.out hkp hs
        rw [hs] at hC2
        have e1 : ((A : Int) == (A : Int)) = true := by simp
        have hwT : IntKind.i64.wrap (T : Int) = T := IntWalk.i64_in _ (by omega)
        clear hs hkp
        go_wp2_with fail
        refine (hC2.out _ ((hr.below D2).more (by go_size))).mono ?_
        rintro e w3 ⟨rfl, hb3⟩
        go_wp2
        go_roundw
        case rel => exact ⟨k + 1, by omega, by go_num, by rw [← hor], bgo D2 hb3, by have := hb3.size; omega, (hb3.cell hz2).trans c2⟩
        case measure => simp [intOf]; omega
      · have hst := hid (stab_no hs)
        obtain ⟨S, hSS⟩ : ∃ S, S = shN l A k := ⟨_, rfl⟩
        rw [← hSS] at hC2 hs
        have e1 : ((S : Int) == (A : Int)) = false := by rw [beq_eq_false_iff_ne]; omega
        clear hSS hs hkp
        go_wp2_with fail
        refine (hC2.out _ ((hr.below D2).more (by go_size))).mono ?_
        rintro e w3 ⟨rfl, hb3⟩
        go_wp2
        go_roundw
        case rel => exact ⟨k + 1, by omega, by go_num, by rw [hst.out], bgo D2 hb3, by have := hb3.size; omega, (hb3.cell hz2).trans c2⟩
        case measure => simp [intOf]; omega
    · obtain rfl : k = n := by omega
      go_wp2
      go_ret
      exact ⟨rfl, D2⟩
theorem sStabilizerOf_any (v : Value) (l : List Int) (a : Int) (w : World) (hr : Rd w w.heap.size .i64 v l) (hn : l.length ≤ 1048576) (ha : -9223372036854775808 ≤ a ∧ a ≤ 9223372036854775807) :
    Calls Try.prog 56 #[.agg #[v], .int .i64 a] w fun e w' => e = .returned (.int .i64 (one stabN l a)) ∧ Below w.heap.size w w' := by
  cases hE : isSet l a
  · rw [one_no hE]
    replace ha := hid ha
    replace hE := hid hE
    go_enter Try.func56, Try.ntmps56
    go_wp2_with fail
    refine (sIsSet_at hE.out ((hr.alloc (Nat.le_refl _) _).more (by go_size)) hn ha.out).mono ?_
    rintro e w1 ⟨rfl, hb1⟩
    have D1 : Below w.heap.size w w1 := by refine Below.trans ?_ (hb1.mono ?_) <;> go_grown
    have hz1 : w.heap.size < w1.heap.size := by have := hb1.size; simp at this; omega
    obtain ⟨hc1, hf1⟩ := bcell hb1
    go_wp2
    go_ret
    exact ⟨rfl, D1⟩
  · obtain ⟨A, rfl, hA⟩ := isSet.nat hE
    rw [one_yes hE]
    have hD := hid fun w hr => sl6Stabilizer_any v l A w hr (isSet.group hE) hA
    obtain ⟨G, hG⟩ : ∃ G, G = stabN l A := ⟨_, rfl⟩
    rw [← hG] at hD ⊢
    replace ha := hid ha
    replace hE := hid hE
    clear hG hA
    go_enter Try.func56, Try.ntmps56
    go_wp2_with fail
    refine (sIsSet_at hE.out ((hr.alloc (Nat.le_refl _) _).more (by go_size)) hn ha.out).mono ?_
    rintro e w1 ⟨rfl, hb1⟩
    have D1 : Below w.heap.size w w1 := by refine Below.trans ?_ (hb1.mono ?_) <;> go_grown
    have hz1 : w.heap.size < w1.heap.size := by have := hb1.size; simp at this; omega
    obtain ⟨hc1, hf1⟩ := bcell hb1
    go_wp2_with fail
    refine (hD.out _ ((hr.below D1).more (by go_size))).mono ?_
    rintro e w2 ⟨rfl, hb2⟩
    have D2 := bgo D1 hb2
    have hz2 : w.heap.size < w2.heap.size := by have := hb2.size; omega
    obtain ⟨hc2, hf2⟩ := bcell hb2
    go_wp2
    go_ret
    exact ⟨rfl, D2⟩

/-! ### periods -/
def perE (l : List Int) (a : Int) : Bool := isSet l a && decide (1 < stabN l a.toNat)
theorem perE_no {l : List Int} {a : Int} (h : isSet l a = false) : perE l a = false := by unfold perE; rw [h]; rfl
theorem perE_yes {l : List Int} {A : Nat} (h : isSet l (A : Int) = true) : perE l A = decide (1 < stabN l A) := by unfold perE; rw [h]; rfl
theorem isSet.top {l : List Int} {A : Nat} (h : isSet l (A : Int) = true) : A < topOf l := (isSet_nat (isSet.group h) A).1 h
theorem stab_facts {l : List Int} {A : Nat} (h : isSet l (A : Int) = true) : ∃ S P : Nat, S = stabN l A ∧ S < 16777216 ∧ 1 ≤ S ∧ P = pc 24 S ∧ P ≤ 24 ∧ decide ((P : Int) > 1) = decide (1 < S) ∧ decide ((S : Int) > 1) = decide (1 < S) ∧ bits .andNot .i64 (S : Int) 1 = ((S - 1 : Nat) : Int) := by
  have hg := isSet.group h
  have hS := top_24 hg (stabN_top hg A)
  have ho := stabN_odd hg (isSet.top h)
  refine ⟨_, _, rfl, hS, by omega, rfl, pc_le _ _, ?_, ?_, ?_⟩
  · have := pc_odd hS ho
    by_cases h1 : 1 < stabN l A
    · rw [decide_eq_true h1, decide_eq_true (by have := this.2 h1; omega)]
    · rw [decide_eq_false h1, decide_eq_false (by have := fun h2 => h1 (this.1 h2); omega)]
  · by_cases h1 : 1 < stabN l A
    · rw [decide_eq_true h1, decide_eq_true (by omega)]
    · rw [decide_eq_false h1, decide_eq_false (by omega)]
  · have := andNot64 (stabN l A) 0 hS (by omega)
    rw [rem_odd ho] at this
    exact this
theorem iIsPeriodic_any (v : Value) (l : List Int) (a : Int) (w : World) (hr : Rd w w.heap.size .i64 v l) (hn : l.length ≤ 1048576) (ha : -9223372036854775808 ≤ a ∧ a ≤ 9223372036854775807) :
    Calls Try.prog 59 #[.agg #[v], .int .i64 a] w fun e w' => e = .returned (.bool (perE l a)) ∧ Below w.heap.size w w' := by
  cases hE : isSet l a
  · rw [perE_no hE]
    replace ha := hid ha
    replace hE := hid hE
    go_enter Try.func59, Try.ntmps59
    go_wp2_with fail
    refine (iIsSet_at hE.out ((hr.alloc (Nat.le_refl _) _).more (by go_size)) hn ha.out).mono ?_
    rintro e w1 ⟨rfl, hb1⟩
    have D1 : Below w.heap.size w w1 := by refine Below.trans ?_ (hb1.mono ?_) <;> go_grown
    have hz1 : w.heap.size < w1.heap.size := by have := hb1.size; simp at this; omega
    obtain ⟨hc1, hf1⟩ := bcell hb1
    go_wp2
    go_ret
    exact ⟨rfl, D1⟩
  · have hD := hid fun w hr => iStabilizerOf_any v l a w hr hn ha
    obtain ⟨A, rfl, hA⟩ := isSet.nat hE
    rw [perE_yes hE]
    rw [one_yes hE] at hD
    obtain ⟨S, P, hS, hS2, hS1, hP, hP2, hPd, _, _⟩ := stab_facts hE
    have hB := hid fun w => ibits_any S hS2 w
    rw [← hP] at hB
    rw [← hS] at hD ⊢
    rw [← hPd]
    obtain ⟨b, hb⟩ : ∃ b, b = decide ((P : Int) > 1) := ⟨_, rfl⟩
    have e1 : decide (1 < (P : Int)) = b := hb.symm
    rw [← hb]
    replace ha := hid ha
    replace hE := hid hE
    clear hA hS hS2 hS1 hP hPd hb
    go_enter Try.func59, Try.ntmps59
    go_wp2_with fail
    refine (iIsSet_at hE.out ((hr.alloc (Nat.le_refl _) _).more (by go_size)) hn ha.out).mono ?_
    rintro e w1 ⟨rfl, hb1⟩
    have D1 : Below w.heap.size w w1 := by refine Below.trans ?_ (hb1.mono ?_) <;> go_grown
    have hz1 : w.heap.size < w1.heap.size := by have := hb1.size; simp at this; omega
    obtain ⟨hc1, hf1⟩ := bcell hb1
    go_wp2_with fail
    refine (hD.out _ ((hr.below D1).more (by go_size))).mono ?_
    rintro e w2 ⟨rfl, hb2⟩
    have D2 := bgo D1 hb2
    have hz2 : w.heap.size < w2.heap.size := by have := hb2.size; omega
    obtain ⟨hc2, hf2⟩ := bcell hb2
    go_wp2_with fail
    refine (hB.out _).mono ?_
    rintro e w3 ⟨rfl, m, rfl⟩
    go_wp2
    go_ret
    exact ⟨rfl, D2.trans (below_drewN _ _ _)⟩
theorem sIsPeriodic_any (v : Value) (l : List Int) (a : Int) (w : World) (hr : Rd w w.heap.size .i64 v l) (hn : l.length ≤ 1048576) (ha : -9223372036854775808 ≤ a ∧ a ≤ 9223372036854775807) :
    Calls Try.prog 58 #[.agg #[v], .int .i64 a] w fun e w' => e = .returned (.bool (perE l a)) ∧ Below w.heap.size w w' := by
  cases hE : isSet l a
  · rw [perE_no hE]
    replace ha := hid ha
    replace hE := hid hE
    go_enter Try.func58, Try.ntmps58
    go_wp2_with fail
    refine (sIsSet_at hE.out ((hr.alloc (Nat.le_refl _) _).more (by go_size)) hn ha.out).mono ?_
    rintro e w1 ⟨rfl, hb1⟩
    have D1 : Below w.heap.size w w1 := by refine Below.trans ?_ (hb1.mono ?_) <;> go_grown
    have hz1 : w.heap.size < w1.heap.size := by have := hb1.size; simp at this; omega
    obtain ⟨hc1, hf1⟩ := bcell hb1
    go_wp2
    go_ret
    exact ⟨rfl, D1⟩
  · obtain ⟨A, rfl, hA⟩ := isSet.nat hE
    have hD := hid fun w hr => sl6Stabilizer_any v l A w hr (isSet.group hE) hA
    rw [perE_yes hE]
    obtain ⟨S, P, hS, hS2, hS1, hP, hP2, _, hSd, _⟩ := stab_facts hE
    rw [← hS] at hD ⊢
    rw [← hSd]
    obtain ⟨b, hb⟩ : ∃ b, b = decide ((S : Int) > 1) := ⟨_, rfl⟩
    have e1 : decide (1 < (S : Int)) = b := hb.symm
    rw [← hb]
    replace ha := hid ha
    replace hE := hid hE
    clear hA hS hS2 hS1 hP hSd hb
    go_enter Try.func58, Try.ntmps58
    go_wp2_with fail
    refine (sIsSet_at hE.out ((hr.alloc (Nat.le_refl _) _).more (by go_size)) hn ha.out).mono ?_
    rintro e w1 ⟨rfl, hb1⟩
    have D1 : Below w.heap.size w w1 := by refine Below.trans ?_ (hb1.mono ?_) <;> go_grown
    have hz1 : w.heap.size < w1.heap.size := by have := hb1.size; simp at this; omega
    obtain ⟨hc1, hf1⟩ := bcell hb1
    go_wp2_with fail
    refine (hD.out _ ((hr.below D1).more (by go_size))).mono ?_
    rintro e w2 ⟨rfl, hb2⟩
    have D2 := bgo D1 hb2
    have hz2 : w.heap.size < w2.heap.size := by have := hb2.size; omega
    obtain ⟨hc2, hf2⟩ := bcell hb2
    go_wp2
    go_ret
    exact ⟨rfl, D2⟩
end Go.Proofs.Ytffbamjfpegndaa
