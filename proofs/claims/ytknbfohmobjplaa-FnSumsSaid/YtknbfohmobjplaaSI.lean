/- What CountSums computes, the program's and the reference's. Conditions: at most 2^20 orders. -/
import Derived.Test.YtknbfohmobjplaaSH
namespace Go.Proofs.Ytknbfohmobjplaa
set_option linter.unusedVariables false
set_option linter.unusedSimpArgs false
open Go.RowKit

def csE (l : List Int) (a b x : Int) : Int := if isSet l a && isSet l b && isEl l x then (tabE l a b).getD x.toNat 0 else -1
theorem csE_no {l : List Int} {a b x : Int} (h : (isSet l a && isSet l b) = false) : csE l a b x = -1 := by unfold csE; rw [h]; rfl
theorem csE_bad {l : List Int} {a b x : Int} (h : isEl l x = false) : csE l a b x = -1 := by unfold csE; rw [h, Bool.and_false]; rfl
theorem tabE_full {l : List Int} {a b : Int} (h : (isSet l a && isSet l b) = true) : ((tabE l a b).length : Int) = prodL l := by
  have hg := isSet.group ((Bool.and_eq_true _ _).mp h).1
  have hp := isGroup.prod hg
  unfold tabE
  rw [if_pos h]
  unfold tabN
  rw [tabTo_len]
  omega
theorem csE_yes {l : List Int} {a b x : Int} (h : (isSet l a && isSet l b) = true) (hx : isEl l x = true) : ∃ hk : x.toNat < (tabE l a b).length, csE l a b x = (tabE l a b)[x.toNat] := by
  have h1 := tabE_full h
  have h2 := isEl.bd hx
  have hk : x.toNat < (tabE l a b).length := by omega
  refine ⟨hk, ?_⟩
  unfold csE
  rw [h, hx, List.getD_eq_getElem?_getD, List.getElem?_eq_getElem hk]
  rfl
theorem iCountSums_any (v : Value) (l : List Int) (a b x : Int) (w : World) (hr : Rd w w.heap.size .i64 v l) (hn : l.length ≤ 1048576) (ha : -9223372036854775808 ≤ a ∧ a ≤ 9223372036854775807) (hb : -9223372036854775808 ≤ b ∧ b ≤ 9223372036854775807) (_ : -9223372036854775808 ≤ x ∧ x ≤ 9223372036854775807) :
    Calls Try.prog 20 #[.agg #[v], .int .i64 a, .int .i64 b, .int .i64 x] w fun e w' => e = .returned (.int .i64 (csE l a b x)) ∧ Below w.heap.size w w' := by
  cases hE : areS l [a, b]
  · rw [csE_no (by rw [← areS2]; exact hE)]
    replace ha := hid ha
    replace hb := hid hb
    replace hE := hid hE
    go_enter Try.func20, Try.ntmps20
    go_wp2_with fail
    refine (iareSets_at hE.out (((hr.alloc (Nat.le_refl _) _).alloc (by go_size) _).more (by go_size)) (Rd.pair (by simp) _ _ _) hn ha.out hb.out).mono ?_
    rintro e w1 ⟨rfl, hb1⟩
    have D1 : Below w.heap.size w w1 := by refine Below.trans ?_ (hb1.mono ?_) <;> go_grown
    have hz1 : w.heap.size < w1.heap.size := by have := hb1.size; simp at this; omega
    obtain ⟨hc1, hf1⟩ := bcell hb1
    go_wp2
    go_ret
    exact ⟨rfl, D1⟩
  · cases hF : isEl l x
    · rw [csE_bad hF]
      replace ha := hid ha
      replace hb := hid hb
      replace hE := hid hE
      replace hF := hid hF
      go_enter Try.func20, Try.ntmps20
      go_wp2_with fail
      refine (iareSets_at hE.out (((hr.alloc (Nat.le_refl _) _).alloc (by go_size) _).more (by go_size)) (Rd.pair (by simp) _ _ _) hn ha.out hb.out).mono ?_
      rintro e w1 ⟨rfl, hb1⟩
      have D1 : Below w.heap.size w w1 := by refine Below.trans ?_ (hb1.mono ?_) <;> go_grown
      have hz1 : w.heap.size < w1.heap.size := by have := hb1.size; simp at this; omega
      obtain ⟨hc1, hf1⟩ := bcell hb1
      go_wp2_with fail
      refine (ihas_at hF.out ((hr.below D1).more (by go_size)) (by omega)).mono ?_
      rintro e w2 ⟨rfl, hb2⟩
      have D2 := bgo D1 hb2
      have hz2 : w.heap.size < w2.heap.size := by have := hb2.size; omega
      obtain ⟨hc2, hf2⟩ := bcell hb2
      go_wp2
      go_ret
      exact ⟨rfl, D2⟩
    · have hE2 := hE
      rw [areS2] at hE2
      obtain ⟨hk, hcs⟩ := csE_yes hE2 hF
      have hx0 := (isEl.bd hF).1
      rw [hcs]
      have hT := hid fun w hr => iSumTable_any v l a b w hr hn ha hb
      obtain ⟨K, rfl⟩ := Int.eq_ofNat_of_zero_le hx0
      have hL := tabE_len l a b
      obtain ⟨T, hTT⟩ : ∃ T, T = tabE l a b := ⟨_, rfl⟩
      have hk2 : K < T.length := by rw [hTT]; exact hk
      have hget : (tabE l a b)[(K : Int).toNat] = T[K] := by subst hTT; rfl
      rw [hget]
      rw [← hTT] at hT hL
      obtain ⟨u, hu⟩ : ∃ u, u = T[K] := ⟨_, rfl⟩
      rw [← hu]
      replace ha := hid ha
      replace hb := hid hb
      replace hE := hid hE
      replace hF := hid hF
      replace hu := hid hu
      clear hcs hk hget hTT hE2
      go_enter Try.func20, Try.ntmps20
      go_wp2_with fail
      refine (iareSets_at hE.out (((hr.alloc (Nat.le_refl _) _).alloc (by go_size) _).more (by go_size)) (Rd.pair (by simp) _ _ _) hn ha.out hb.out).mono ?_
      rintro e w1 ⟨rfl, hb1⟩
      have D1 : Below w.heap.size w w1 := by refine Below.trans ?_ (hb1.mono ?_) <;> go_grown
      have hz1 : w.heap.size < w1.heap.size := by have := hb1.size; simp at this; omega
      obtain ⟨hc1, hf1⟩ := bcell hb1
      go_wp2_with fail
      refine (ihas_at hF.out ((hr.below D1).more (by go_size)) (by omega)).mono ?_
      rintro e w2 ⟨rfl, hb2⟩
      have D2 := bgo D1 hb2
      have hz2 : w.heap.size < w2.heap.size := by have := hb2.size; omega
      obtain ⟨hc2, hf2⟩ := bcell hb2
      go_wp2_with fail
      refine (hT.out _ ((hr.below D2).more (by go_size))).mono ?_
      rintro e w3 ⟨ao3, cap3, rfl, ho3, hb3⟩
      obtain ⟨b1, rfl, hB1, hB1', hcell⟩ := ho3.cells (by omega)
      have hcK := hcell K hk2
      rw [← hu.out] at hcK
      clear hcell hc1 hc2 hf1 hf2
      go_wp2
      go_ret
      exact ⟨rfl, bgo D2 hb3⟩
theorem sCountSums_any (v : Value) (l : List Int) (a b x : Int) (w : World) (hr : Rd w w.heap.size .i64 v l) (hn : l.length ≤ 1048576) (ha : -9223372036854775808 ≤ a ∧ a ≤ 9223372036854775807) (hb : -9223372036854775808 ≤ b ∧ b ≤ 9223372036854775807) (_ : -9223372036854775808 ≤ x ∧ x ≤ 9223372036854775807) :
    Calls Try.prog 21 #[.agg #[v], .int .i64 a, .int .i64 b, .int .i64 x] w fun e w' => e = .returned (.int .i64 (csE l a b x)) ∧ Below w.heap.size w w' := by
  have hT := hid fun w hr => sSumTable_any v l a b w hr hn ha hb
  have hL := tabE_len l a b
  by_cases hok : 0 ≤ x ∧ x ≤ ((tabE l a b).length : Int) - 1
  · have hE : (isSet l a && isSet l b) = true := by
      cases h : (isSet l a && isSet l b)
      · rw [tabE_no h] at hok
        simp at hok
        omega
      · rfl
    have hfull := tabE_full hE
    have hg := isSet.group ((Bool.and_eq_true _ _).mp hE).1
    have hF : isEl l x = true := by
      rw [isEl_iff, orderOf_yes hg]
      omega
    obtain ⟨hk, hcs⟩ := csE_yes hE hF
    rw [hcs]
    obtain ⟨K, rfl⟩ := Int.eq_ofNat_of_zero_le hok.1
    obtain ⟨T, hTT⟩ : ∃ T, T = tabE l a b := ⟨_, rfl⟩
    have hk2 : K < T.length := by rw [hTT]; exact hk
    have hget : (tabE l a b)[(K : Int).toNat] = T[K] := by subst hTT; rfl
    rw [hget]
    rw [← hTT] at hT hL hok
    obtain ⟨u, hu⟩ : ∃ u, u = T[K] := ⟨_, rfl⟩
    rw [← hu]
    replace ha := hid ha
    replace hb := hid hb
    replace hE := hid hE
    replace hF := hid hF
    replace hu := hid hu
    clear hcs hk hget hTT hfull hg
    go_enter Try.func21, Try.ntmps21
    go_wp2_with fail
    refine (hT.out _ ((hr.alloc (Nat.le_refl _) _).more (by go_size))).mono ?_
    rintro e w1 ⟨ao1, cap1, rfl, ho1, hb1⟩
    have D1 : Below w.heap.size w w1 := by refine Below.trans ?_ (hb1.mono ?_) <;> go_grown
    obtain ⟨b1, rfl, hB1, hB1', hcell⟩ := ho1.cells (by omega)
    have hcK := hcell K hk2
    rw [← hu.out] at hcK
    clear hcell
    have en : IntKind.i64.wrap ((T.length : Int) - 1) = (T.length : Int) - 1 := IntWalk.i64_in _ (by omega)
    go_wp2_with (go_at_call 61; refine (sl1In_yes _ _ _ (by omega) _).mono ?_; rintro e w' ⟨rfl, rfl⟩)
    go_ret
    exact ⟨rfl, D1⟩
  · have hcs : csE l a b x = -1 := by
      cases hE : (isSet l a && isSet l b)
      · exact csE_no hE
      · cases hF : isEl l x
        · exact csE_bad hF
        · have h1 := tabE_full hE
          have h2 := isEl.bd hF
          omega
    rw [hcs]
    obtain ⟨T, hTT⟩ : ∃ T, T = tabE l a b := ⟨_, rfl⟩
    rw [← hTT] at hT hL hok
    replace ha := hid ha
    replace hb := hid hb
    clear hcs hTT
    go_enter Try.func21, Try.ntmps21
    go_wp2_with fail
    refine (hT.out _ ((hr.alloc (Nat.le_refl _) _).more (by go_size))).mono ?_
    rintro e w1 ⟨ao1, cap1, rfl, ho1, hb1⟩
    have D1 : Below w.heap.size w w1 := by refine Below.trans ?_ (hb1.mono ?_) <;> go_grown
    have en : IntKind.i64.wrap ((T.length : Int) - 1) = (T.length : Int) - 1 := IntWalk.i64_in _ (by omega)
    go_wp2_with (go_at_call 61; refine (sl1In_no _ _ _ (by omega) _).mono ?_; rintro e w' ⟨rfl, rfl⟩)
    go_ret
    exact ⟨rfl, D1⟩
end Go.Proofs.Ytknbfohmobjplaa
