/- What GeneratedBy, IsSubgroup and FillSet compute, the program's and the reference's. Conditions: at most 2^20 orders. -/
import Derived.Test.YtknbfohmobjplaaSJ
namespace Go.Proofs.Ytknbfohmobjplaa
set_option linter.unusedVariables false
set_option linter.unusedSimpArgs false
open Go.RowKit

theorem iGeneratedBy_any (v : Value) (l : List Int) (a : Int) (w : World) (hr : Rd w w.heap.size .i64 v l) (hn : l.length ≤ 1048576) (ha : -9223372036854775808 ≤ a ∧ a ≤ 9223372036854775807) :
    Calls Try.prog 24 #[.agg #[v], .int .i64 a] w fun e w' => e = .returned (.int .i64 (one genN l a)) ∧ Below w.heap.size w w' := by
  cases hE : isSet l a
  · rw [one_no hE]
    replace ha := hid ha
    replace hE := hid hE
    go_enter Try.func24, Try.ntmps24
    go_wp2_with fail
    refine (iIsSet_at hE.out ((hr.alloc (Nat.le_refl _) _).more (by go_size)) hn ha.out).mono ?_
    rintro e w1 ⟨rfl, hb1⟩
    have D1 : Below w.heap.size w w1 := by refine Below.trans ?_ (hb1.mono ?_) <;> go_grown
    have hz1 : w.heap.size < w1.heap.size := by have := hb1.size; simp at this; omega
    obtain ⟨hc1, hf1⟩ := bcell hb1
    go_wp2
    go_ret
    exact ⟨rfl, D1⟩
  · obtain ⟨A, rfl, hA⟩ := isSet.nat hE
    rw [one_yes hE]
    have hD := hid fun w hr => igenerated_any v l A w hr (isSet.group hE) hA
    obtain ⟨G, hG⟩ : ∃ G, G = genN l A := ⟨_, rfl⟩
    rw [← hG] at hD ⊢
    replace ha := hid ha
    replace hE := hid hE
    clear hG hA
    go_enter Try.func24, Try.ntmps24
    go_wp2_with fail
    refine (iIsSet_at hE.out ((hr.alloc (Nat.le_refl _) _).more (by go_size)) hn ha.out).mono ?_
    rintro e w1 ⟨rfl, hb1⟩
    have D1 : Below w.heap.size w w1 := by refine Below.trans ?_ (hb1.mono ?_) <;> go_grown
    have hz1 : w.heap.size < w1.heap.size := by have := hb1.size; simp at this; omega
    obtain ⟨hc1, hf1⟩ := bcell hb1
    go_wp2_with fail
    refine (hD.out _ ((hr.below D1).more (by go_size))).mono ?_
    rintro e w2 ⟨rfl, hb2⟩
    have D2 := bgo D1 hb2
    have hz2 : w.heap.size < w2.heap.size := by have := hb2.size; omega
    obtain ⟨hc2, hf2⟩ := bcell hb2
    go_wp2
    go_ret
    exact ⟨rfl, D2⟩
theorem sGeneratedBy_any (v : Value) (l : List Int) (a : Int) (w : World) (hr : Rd w w.heap.size .i64 v l) (hn : l.length ≤ 1048576) (ha : -9223372036854775808 ≤ a ∧ a ≤ 9223372036854775807) :
    Calls Try.prog 25 #[.agg #[v], .int .i64 a] w fun e w' => e = .returned (.int .i64 (one genN l a)) ∧ Below w.heap.size w w' := by
  cases hE : isSet l a
  · rw [one_no hE]
    replace ha := hid ha
    replace hE := hid hE
    go_enter Try.func25, Try.ntmps25
    go_wp2_with fail
    refine (sIsSet_at hE.out ((hr.alloc (Nat.le_refl _) _).more (by go_size)) hn ha.out).mono ?_
    rintro e w1 ⟨rfl, hb1⟩
    have D1 : Below w.heap.size w w1 := by refine Below.trans ?_ (hb1.mono ?_) <;> go_grown
    have hz1 : w.heap.size < w1.heap.size := by have := hb1.size; simp at this; omega
    obtain ⟨hc1, hf1⟩ := bcell hb1
    go_wp2
    go_ret
    exact ⟨rfl, D1⟩
  · obtain ⟨A, rfl, hA⟩ := isSet.nat hE
    rw [one_yes hE]
    have hD := hid fun w hr => sl5Closure_any v l A w hr (isSet.group hE) hA
    obtain ⟨G, hG⟩ : ∃ G, G = genN l A := ⟨_, rfl⟩
    rw [← hG] at hD ⊢
    replace ha := hid ha
    replace hE := hid hE
    clear hG hA
    go_enter Try.func25, Try.ntmps25
    go_wp2_with fail
    refine (sIsSet_at hE.out ((hr.alloc (Nat.le_refl _) _).more (by go_size)) hn ha.out).mono ?_
    rintro e w1 ⟨rfl, hb1⟩
    have D1 : Below w.heap.size w w1 := by refine Below.trans ?_ (hb1.mono ?_) <;> go_grown
    have hz1 : w.heap.size < w1.heap.size := by have := hb1.size; simp at this; omega
    obtain ⟨hc1, hf1⟩ := bcell hb1
    go_wp2_with fail
    refine (hD.out _ ((hr.below D1).more (by go_size))).mono ?_
    rintro e w2 ⟨rfl, hb2⟩
    have D2 := bgo D1 hb2
    have hz2 : w.heap.size < w2.heap.size := by have := hb2.size; omega
    obtain ⟨hc2, hf2⟩ := bcell hb2
    go_wp2
    go_ret
    exact ⟨rfl, D2⟩
theorem isSub_no {l : List Int} {a : Int} (h : isSet l a = false) : isSub l a = false := by unfold isSub; rw [h]; rfl
theorem isSub_yes {l : List Int} {A : Nat} (h : isSet l (A : Int) = true) : isSub l A = decide ((genN l A : Int) = A) := by unfold isSub; rw [h]; rfl
theorem iIsSubgroup_any (v : Value) (l : List Int) (a : Int) (w : World) (hr : Rd w w.heap.size .i64 v l) (hn : l.length ≤ 1048576) (ha : -9223372036854775808 ≤ a ∧ a ≤ 9223372036854775807) :
    Calls Try.prog 26 #[.agg #[v], .int .i64 a] w fun e w' => e = .returned (.bool (isSub l a)) ∧ Below w.heap.size w w' := by
  cases hE : isSet l a
  · rw [isSub_no hE]
    replace ha := hid ha
    replace hE := hid hE
    go_enter Try.func26, Try.ntmps26
    go_wp2_with fail
    refine (iIsSet_at hE.out ((hr.alloc (Nat.le_refl _) _).more (by go_size)) hn ha.out).mono ?_
    rintro e w1 ⟨rfl, hb1⟩
    have D1 : Below w.heap.size w w1 := by refine Below.trans ?_ (hb1.mono ?_) <;> go_grown
    have hz1 : w.heap.size < w1.heap.size := by have := hb1.size; simp at this; omega
    obtain ⟨hc1, hf1⟩ := bcell hb1
    go_wp2
    go_ret
    exact ⟨rfl, D1⟩
  · obtain ⟨A, rfl, hA⟩ := isSet.nat hE
    rw [isSub_yes hE]
    have hD := hid fun w hr => igenerated_any v l A w hr (isSet.group hE) hA
    obtain ⟨G, hG⟩ : ∃ G, G = genN l A := ⟨_, rfl⟩
    rw [← hG] at hD ⊢
    obtain ⟨b, hB⟩ : ∃ b, b = decide ((G : Int) = A) := ⟨_, rfl⟩
    have e1 : ((G : Int) == (A : Int)) = b := by rw [hB]; rfl
    have e2 : decide ((G : Int) = (A : Int)) = b := hB.symm
    rw [← hB]
    replace ha := hid ha
    replace hE := hid hE
    clear hG hA hB
    go_enter Try.func26, Try.ntmps26
    go_wp2_with fail
    refine (iIsSet_at hE.out ((hr.alloc (Nat.le_refl _) _).more (by go_size)) hn ha.out).mono ?_
    rintro e w1 ⟨rfl, hb1⟩
    have D1 : Below w.heap.size w w1 := by refine Below.trans ?_ (hb1.mono ?_) <;> go_grown
    have hz1 : w.heap.size < w1.heap.size := by have := hb1.size; simp at this; omega
    obtain ⟨hc1, hf1⟩ := bcell hb1
    go_wp2_with fail
    refine (hD.out _ ((hr.below D1).more (by go_size))).mono ?_
    rintro e w2 ⟨rfl, hb2⟩
    have D2 := bgo D1 hb2
    have hz2 : w.heap.size < w2.heap.size := by have := hb2.size; omega
    obtain ⟨hc2, hf2⟩ := bcell hb2
    go_wp2
    go_ret
    exact ⟨rfl, D2⟩
theorem sIsSubgroup_any (v : Value) (l : List Int) (a : Int) (w : World) (hr : Rd w w.heap.size .i64 v l) (hn : l.length ≤ 1048576) (ha : -9223372036854775808 ≤ a ∧ a ≤ 9223372036854775807) :
    Calls Try.prog 82 #[.agg #[v], .int .i64 a] w fun e w' => e = .returned (.bool (isSub l a)) ∧ Below w.heap.size w w' := by
  cases hE : isSet l a
  · rw [isSub_no hE]
    replace ha := hid ha
    replace hE := hid hE
    go_enter Try.func82, Try.ntmps82
    go_wp2_with fail
    refine (sIsSet_at hE.out ((hr.alloc (Nat.le_refl _) _).more (by go_size)) hn ha.out).mono ?_
    rintro e w1 ⟨rfl, hb1⟩
    have D1 : Below w.heap.size w w1 := by refine Below.trans ?_ (hb1.mono ?_) <;> go_grown
    have hz1 : w.heap.size < w1.heap.size := by have := hb1.size; simp at this; omega
    obtain ⟨hc1, hf1⟩ := bcell hb1
    go_wp2
    go_ret
    exact ⟨rfl, D1⟩
  · obtain ⟨A, rfl, hA⟩ := isSet.nat hE
    rw [isSub_yes hE]
    have hD := hid fun w hr => sl5Closure_any v l A w hr (isSet.group hE) hA
    obtain ⟨G, hG⟩ : ∃ G, G = genN l A := ⟨_, rfl⟩
    rw [← hG] at hD ⊢
    obtain ⟨b, hB⟩ : ∃ b, b = decide ((G : Int) = A) := ⟨_, rfl⟩
    have e1 : ((G : Int) == (A : Int)) = b := by rw [hB]; rfl
    have e2 : decide ((G : Int) = (A : Int)) = b := hB.symm
    rw [← hB]
    replace ha := hid ha
    replace hE := hid hE
    clear hG hA hB
    go_enter Try.func82, Try.ntmps82
    go_wp2_with fail
    refine (sIsSet_at hE.out ((hr.alloc (Nat.le_refl _) _).more (by go_size)) hn ha.out).mono ?_
    rintro e w1 ⟨rfl, hb1⟩
    have D1 : Below w.heap.size w w1 := by refine Below.trans ?_ (hb1.mono ?_) <;> go_grown
    have hz1 : w.heap.size < w1.heap.size := by have := hb1.size; simp at this; omega
    obtain ⟨hc1, hf1⟩ := bcell hb1
    go_wp2_with fail
    refine (hD.out _ ((hr.below D1).more (by go_size))).mono ?_
    rintro e w2 ⟨rfl, hb2⟩
    have D2 := bgo D1 hb2
    have hz2 : w.heap.size < w2.heap.size := by have := hb2.size; omega
    obtain ⟨hc2, hf2⟩ := bcell hb2
    go_wp2
    go_ret
    exact ⟨rfl, D2⟩
theorem iIsSubgroup_at {v : Value} {l : List Int} {a : Int} {b : Bool} {w : World} (hE : isSub l a = b) (hr : Rd w w.heap.size .i64 v l) (hn : l.length ≤ 1048576) (ha : -9223372036854775808 ≤ a ∧ a ≤ 9223372036854775807) :
    Calls Try.prog 26 #[.agg #[v], .int .i64 a] w fun e w' => e = .returned (.bool b) ∧ Below w.heap.size w w' := by
  rw [← hE]; exact iIsSubgroup_any v l a w hr hn ha
theorem sIsSubgroup_at {v : Value} {l : List Int} {a : Int} {b : Bool} {w : World} (hE : isSub l a = b) (hr : Rd w w.heap.size .i64 v l) (hn : l.length ≤ 1048576) (ha : -9223372036854775808 ≤ a ∧ a ≤ 9223372036854775807) :
    Calls Try.prog 82 #[.agg #[v], .int .i64 a] w fun e w' => e = .returned (.bool b) ∧ Below w.heap.size w w' := by
  rw [← hE]; exact sIsSubgroup_any v l a w hr hn ha
theorem isSub.set {l : List Int} {a : Int} (h : isSub l a = true) : isSet l a = true := by
  unfold isSub at h
  exact ((Bool.and_eq_true _ _).mp h).1
def fillE (l : List Int) (h a : Int) : Int := if isSub l h && isSet l a then (sumN l a.toNat h.toNat : Nat) else -1
theorem fillE_no {l : List Int} {h a : Int} (hh : isSub l h = false) : fillE l h a = -1 := by unfold fillE; rw [hh]; rfl
theorem fillE_bad {l : List Int} {h a : Int} (hh : isSet l a = false) : fillE l h a = -1 := by unfold fillE; rw [hh, Bool.and_false]; rfl
theorem fillE_yes {l : List Int} {H A : Nat} (h1 : isSub l (H : Int) = true) (h2 : isSet l (A : Int) = true) : fillE l H A = (sumN l A H : Nat) := by unfold fillE; rw [h1, h2]; rfl
end Go.Proofs.Ytknbfohmobjplaa
