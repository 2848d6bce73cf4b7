/- Plain facts behind the law FnSets: sets read back from texts and lists, shifts, negatives. No conditions. -/
import Derived.Test.YtknbfohmobjplabD1
import Derived.Test.YtknbfohmobjplabQC
import Derived.Test.YtknbfohmobjplabMPl
import Derived.Test.YtknbfohmobjplabS7
namespace Go.Proofs.Ytknbfohmobjplab
set_option linter.unusedVariables false
set_option linter.unusedSimpArgs false
set_option linter.unusedSectionVars false

theorem psTo_fmts {l : List Int} (hg : isGroup l = true) : ∀ (L : List Int) (A : Nat), (∀ x ∈ L, isEl l x = true) → psTo l (fmts L) A = some (L.foldl (fun a x => a ||| 2 ^ x.toNat) A) := by
  intro L
  induction L with
  | nil => intro A _; rfl
  | cons x r ih =>
    intro A h
    have hx := h x (by simp)
    have hb := isEl.small hx
    have h1 := (small_fmt (x := x) (by omega)).2.2.2
    show psTo l (fmtI x :: fmts r) A = _
    rw [psTo, h1]
    simp only [hx, Bool.and_self, if_true]
    exact ih _ fun y hy => h y (by simp [hy])
theorem memL_isEl {l : List Int} {A : Nat} (hg : isGroup l = true) (hA : A < topOf l) {x : Int} (hx : x ∈ memL A) : isEl l x = true :=
  el_of hg (of_top hg hA ((mem_memL (top_24 hg hA) x).1 hx))
theorem memL_zero {A : Nat} (hA : A < 16777216) (h : memL A = []) : A = 0 := set_ext fun z => by
  rw [← mem_memL hA z, h]
  constructor
  · intro h; cases h
  · intro h; exact absurd h (inS_zero z)
/-- a set's text tells the set -/
theorem psE_fsE (l : List Int) (a : Int) : psE l (fsE l a) = if isSet l a then (a, true) else (0, false) := by
  cases hs : isSet l a with
  | false =>
    rw [fsE_no hs]
    exact psE_none (by decide) rfl
  | true =>
    rw [if_pos rfl]
    obtain ⟨A, rfl, _⟩ := isSet.nat hs
    have hg := isSet.group hs
    have hA := (isSet_nat hg A).1 hs
    have h24 := top_24 hg hA
    rw [fsE_yes hs]
    by_cases h0 : memL A = []
    · have hz := memL_zero h24 h0
      subst hz
      show psE l noneT = _
      unfold psE
      rw [if_pos rfl, hg]
      rfl
    · have hx : ∀ x ∈ memL A, 0 ≤ x ∧ x ≤ 24 := fun x hm => by have := memL_bd hm; omega
      have e1 : nums (memL A) = joinI 44 (memL A) := by unfold nums; exact if_neg h0
      have e2 := cutP_joinI (b := 44) (.inr rfl) h0 hx
      have hne : nums (memL A) ≠ noneT := by
        intro h
        rw [e1] at h
        rw [h] at e2
        have e3 : cutP 44 noneT = [noneT] := rfl
        rw [e3] at e2
        have hm : noneT ∈ fmts (memL A) := by rw [← e2]; simp
        obtain ⟨x, hxm, hxe⟩ := List.mem_map.1 hm
        have h1 := (small_fmt (hx x hxm)).2.2.2
        rw [hxe] at h1
        have h2 : (parseR noneT).2 = false := rfl
        rw [h1] at h2
        cases h2
      refine psE_yes hne ?_ (fsE_yes hs)
      rw [e1, e2, psTo_fmts hg _ _ fun x hx => memL_isEl hg hA hx]
      exact congrArg some (orL_id h24)
theorem soTo_all {l : List Int} (hg : isGroup l = true) : ∀ (L : List Int) (A : Nat), (∀ x ∈ L, isEl l x = true) → (∀ x ∈ L, ¬ inS A x) → L.Pairwise (· < ·) → soTo l L A = some (L.foldl (fun a x => a ||| 2 ^ x.toNat) A) := by
  intro L
  induction L with
  | nil => intro A _ _ _; rfl
  | cons x r ih =>
    intro A h hn hp
    have hx := h x (by simp)
    have hb := isEl.small hx
    have ht : A.testBit x.toNat = false := by
      cases hh : A.testBit x.toNat
      · rfl
      · exact absurd ⟨hb.1, hh⟩ (hn x (by simp))
    rw [List.pairwise_cons] at hp
    rw [soTo, hx, ht]
    simp only [Bool.not_false, Bool.and_self, if_true]
    refine ih _ (fun y hy => h y (by simp [hy])) (fun y hy hin => ?_) hp.2
    rcases (inS_or _ _ _).1 hin with h1 | h1
    · exact hn y (by simp [hy]) h1
    · have h2 := (inS_pow hb.1 y).1 h1
      have h3 := hp.1 y hy
      omega
/-- a set's list is the set -/
theorem soE_lst {l : List Int} {a : Int} (hs : isSet l a = true) : soE l (lstE l a) = (a, true) := by
  obtain ⟨A, rfl, _⟩ := isSet.nat hs
  have hg := isSet.group hs
  have hA := (isSet_nat hg A).1 hs
  have h24 := top_24 hg hA
  have e : lstE l (A : Int) = memL A := by unfold lstE; rw [hs]; rfl
  rw [e, soE_some (A := A), hg]
  rw [soTo_all hg _ _ (fun x hx => memL_isEl hg hA hx) (fun x _ => inS_zero x) (memL_asc A)]
  exact congrArg some (orL_id h24)
theorem cnt_lst {l : List Int} {a : Int} (hs : isSet l a = true) : ((lstE l a).length : Int) = cntE l a := by
  obtain ⟨A, rfl, _⟩ := isSet.nat hs
  have hg := isSet.group hs
  have h24 := top_24 hg ((isSet_nat hg A).1 hs)
  unfold lstE cntE
  rw [hs, Int.toNat_natCast, if_pos rfl, if_pos rfl, pc_len h24]
theorem neg_twice {l : List Int} {a : Int} (hs : isSet l a = true) : (0 ≤ negS l a ∧ negS l a < 16777216) ∧ negS l (negS l a) = a := by
  obtain ⟨A, rfl, _⟩ := isSet.nat hs
  have hg := isSet.group hs
  have hA := (isSet_nat hg A).1 hs
  have e1 : negS l (A : Int) = (negN l A : Nat) := by unfold negS negN; rw [hs]; rfl
  have e2 : negS l ((negN l A : Nat) : Int) = (negN l (negN l A) : Nat) := by unfold negS; rw [(isSet_nat hg _).2 (negN_top hg A)]; rfl
  have := negN_lt hg A
  rw [e1, e2, negN_negN hg hA]
  exact ⟨by omega, rfl⟩
theorem shift_inv {l : List Int} {a x : Int} (h : ¬ shiftS l a x = -1) : isSet l a = true ∧ isEl l x = true := by
  unfold shiftS at h
  cases hs : isSet l a
  · rw [hs] at h; exact absurd rfl h
  · cases hx : isEl l x
    · rw [hs, hx] at h; exact absurd rfl h
    · exact ⟨rfl, rfl⟩
theorem shift_laws {l : List Int} {a x : Int} (hs : isSet l a = true) (hx : isEl l x = true) :
    ∃ D : Nat, shiftS l a x = D ∧ D < 16777216 ∧ cntE l (D : Int) = cntE l a ∧ (0 ≤ negE l x ∧ negE l x < 24) ∧ shiftS l (D : Int) (negE l x) = a := by
  obtain ⟨A, rfl, _⟩ := isSet.nat hs
  have hg := isSet.group hs
  have hb := isGroup.big hg
  have hA := (isSet_nat hg A).1 hs
  have hn := gneg_small hg x
  have hne : isEl l (gneg l x) = true := el_of hg (gneg_bd l x hb)
  have e1 : shiftS l (A : Int) x = (shN l A x : Nat) := by unfold shiftS; rw [hs, hx]; rfl
  have hS := (isSet_nat hg _).2 (shN_top hg A x)
  have en : negE l x = gneg l x := by unfold negE; rw [hx]; rfl
  refine ⟨_, e1, shN_lt hg A x, ?_, by rw [en]; exact hn, ?_⟩
  · unfold cntE
    rw [hS, hs, Int.toNat_natCast, Int.toNat_natCast, pc_shN hg hA]
  · have e2 : shiftS l ((shN l A x : Nat) : Int) (gneg l x) = (shN l (shN l A x) (gneg l x) : Nat) := by unfold shiftS; rw [hS, hne]; rfl
    rw [en, e2, shN_back hg hA]
end Go.Proofs.Ytknbfohmobjplab
