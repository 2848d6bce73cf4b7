
/- What SumOfSets and DifferenceOfSets compute, the program's and the reference's. Conditions: at most 2^20 orders. -/
import Derived.Test.YtffbamjfpegndaaSA
namespace Go.Proofs.Ytffbamjfpegndaa
set_option linter.unusedVariables false
set_option linter.unusedSimpArgs false
open Go.RowKit

/-- a number made of two sets, -1 where one of them is none -/
def two (E : List Int → Nat → Nat → Nat) (l : List Int) (a b : Int) : Int := if isSet l a && isSet l b then (E l a.toNat b.toNat : Nat) else -1
theorem two_no {E : List Int → Nat → Nat → Nat} {l : List Int} {a b : Int} (h : (isSet l a && isSet l b) = false) : two E l a b = -1 := by unfold two; rw [h]; rfl
theorem two_yes {E : List Int → Nat → Nat → Nat} {l : List Int} {A B : Nat} (h1 : isSet l (A : Int) = true) (h2 : isSet l (B : Int) = true) : two E l A B = (E l A B : Nat) := by unfold two; rw [h1, h2]; rfl
theorem areS2 (l : List Int) (a b : Int) : areS l [a, b] = (isSet l a && isSet l b) := by
  unfold areS
  rw [List.all_cons, List.all_cons, List.all_nil, Bool.and_true]
  cases h : isSet l a
  · rw [Bool.false_and, Bool.and_false]
  · rw [isSet.group h, Bool.true_and]
def difN (l : List Int) (A B : Nat) : Nat := sumN l A (negN l B)
theorem idifference_any (v : Value) (l : List Int) (A B : Nat) (w : World) (hr : Rd w w.heap.size .i64 v l) (hg : isGroup l = true) (hA : A < 16777216) (hB : B < 16777216) :
    Calls Try.prog 71 #[.agg #[v], .int .i64 (A : Int), .int .i64 (B : Int)] w fun e w' => e = .returned (.int .i64 (difN l A B : Nat)) ∧ Below w.heap.size w w' := by
  have hO := fun w hr => iopposite_any v l B w hr hg hB
  have hS := fun w hr => isum_any v l A (negN l B) w hr hg hA (negN_lt hg B)
  show Calls _ _ _ _ fun e w' => e = .returned (.int .i64 (sumN l A (negN l B) : Nat)) ∧ Below w.heap.size w w'
  change ∀ (w : World), Rd w w.heap.size .i64 v l → Calls Try.prog 100 #[.agg #[v], .int .i64 (B : Int)] w fun e w' => e = .returned (.int .i64 (negN l B : Nat)) ∧ Below w.heap.size w w' at hO
  obtain ⟨G, hG⟩ : ∃ G, G = sumN l A (negN l B) := ⟨_, rfl⟩
  rw [← hG] at hS ⊢
  obtain ⟨N, hN⟩ : ∃ N, N = negN l B := ⟨_, rfl⟩
  rw [← hN] at hS hO
  clear hG hN hA hB hg
  go_enter Try.func71, Try.ntmps71
  go_wp2_with fail
  obtain ⟨w0, hw0⟩ : ∃ w0, w0 = w.alloc (.cells #[v] 27) := ⟨_, rfl⟩
  have hz0 : w.heap.size < w0.heap.size := by rw [hw0]; simp
  have hc0 : w0.cell? ⟨w.heap.size, 0, none⟩ = some v := by rw [hw0]; simp [go_sem]
  have D0 : Below w.heap.size w w0 := by rw [hw0]; exact below_alloc _ _
  rw [← hw0]
  clear hw0
  go_region_held3 (fun w' => w'.cell? ⟨w.heap.size, 0, none⟩ = some v ) (first | go_keep | exact (hb1.cell hz0).trans hc0 | exact (hb2.cell (Nat.lt_of_lt_of_le hz0 hb1.size)).trans ((hb1.cell hz0).trans hc0)) (first | (go_at_call 100; refine (hO _ ((hr.below (by go_grown)).more (by go_size))).mono ?_; rintro e w1 ⟨rfl, hb1⟩; replace hb1 : Below w0.heap.size w0 w1 := (Below.refl w0.heap.size w0).drew.trans hb1) | (go_at_call 69; refine (hS _ ((hr.below (bgo D0 hb1)).more (bgo D0 hb1).size)).mono ?_; rintro e w2 ⟨rfl, hb2⟩))
  go_wp2
  go_ret
  exact ⟨rfl, bgo (bgo D0 hb1) hb2⟩
theorem iareSets_at {v u : Value} {l : List Int} {a b : Int} {t : Bool} {w : World} (hE : areS l [a, b] = t) (hr : Rd w w.heap.size .i64 v l) (hs : Rd w w.heap.size .i64 u [a, b]) (hn : l.length ≤ 1048576) (ha : -9223372036854775808 ≤ a ∧ a ≤ 9223372036854775807) (hb : -9223372036854775808 ≤ b ∧ b ≤ 9223372036854775807) :
    Calls Try.prog 68 #[.agg #[v], u] w fun e w' => e = .returned (.bool t) ∧ Below w.heap.size w w' := by
  rw [← hE]
  refine iareSets_any v u l _ w hr hs hn (by simp) fun x hx => ?_
  rcases List.mem_cons.1 hx with rfl | hx
  · exact ha
  · rw [List.mem_singleton] at hx
    rw [hx]; exact hb
theorem Rd.pair {w : World} {n : Nat} (hn : n = w.heap.size) (e : TypeId) (x y : Int) : Rd (w.alloc (.cells #[.int .i64 x, .int .i64 y] e)) (w.alloc (.cells #[.int .i64 x, .int .i64 y] e)).heap.size .i64 (.slice (some ⟨n, 0, none⟩) 2 2) [x, y] := by
  subst hn
  refine ⟨_, 2, rfl, Nat.le_refl _, by decide, fun _ => ⟨w.heap.size, 0, rfl, by simp, fun i hi => ?_⟩⟩
  match i, hi with
  | 0, _ => exact cell2 w .i64 e x y 0 x rfl
  | 1, _ => exact cell2 w .i64 e x y 1 y rfl
theorem iSumOfSets_any (v : Value) (l : List Int) (a b : Int) (w : World) (hr : Rd w w.heap.size .i64 v l) (hn : l.length ≤ 1048576) (ha : -9223372036854775808 ≤ a ∧ a ≤ 9223372036854775807) (hb : -9223372036854775808 ≤ b ∧ b ≤ 9223372036854775807) :
    Calls Try.prog 24 #[.agg #[v], .int .i64 a, .int .i64 b] w fun e w' => e = .returned (.int .i64 (two sumN l a b)) ∧ Below w.heap.size w w' := by
  cases hE : areS l [a, b]
  · rw [two_no (by rw [← areS2]; exact hE)]
    replace ha := hid ha
    replace hb := hid hb
    replace hE := hid hE
    go_enter Try.func24, Try.ntmps24
    go_wp2_with fail
    refine (iareSets_at hE.out (((hr.alloc (Nat.le_refl _) _).alloc (by go_size) _).more (by go_size)) (Rd.pair (by simp) _ _ _) hn ha.out hb.out).mono ?_
    rintro e w1 ⟨rfl, hb1⟩
    have D1 : Below w.heap.size w w1 := by refine Below.trans ?_ (hb1.mono ?_) <;> go_grown
    go_wp2
    go_ret
    exact ⟨rfl, D1⟩
  · have h2 := areS2 l a b
    rw [hE] at h2
    have h3 := (Bool.and_eq_true _ _).mp h2.symm
    obtain ⟨A, rfl, hA⟩ := isSet.nat h3.1
    obtain ⟨B, rfl, hB⟩ := isSet.nat h3.2
    rw [two_yes h3.1 h3.2]
    have hg := isSet.group h3.1
    have hD := fun w hr => isum_any v l A B w hr hg hA hB
    obtain ⟨G, hG⟩ : ∃ G, G = sumN l A B := ⟨_, rfl⟩
    rw [← hG] at hD ⊢
    replace ha := hid ha
    replace hb := hid hb
    replace hE := hid hE
    clear hG h2 h3 hA hB hg
    go_enter Try.func24, Try.ntmps24
    go_wp2_with fail
    refine (iareSets_at hE.out (((hr.alloc (Nat.le_refl _) _).alloc (by go_size) _).more (by go_size)) (Rd.pair (by simp) _ _ _) hn ha.out hb.out).mono ?_
    rintro e w1 ⟨rfl, hb1⟩
    obtain ⟨hc1, hf1⟩ := bcell hb1
    have D1 : Below w.heap.size w w1 := by refine Below.trans ?_ (hb1.mono ?_) <;> go_grown
    have hz1 : w.heap.size < w1.heap.size := by have := hb1.size; simp at this; omega
    go_wp2_with fail
    refine (hD _ ((hr.below D1).more (by go_size))).mono ?_
    rintro e w2 ⟨rfl, hb2⟩
    go_wp2
    go_ret
    exact ⟨rfl, bgo D1 hb2⟩
theorem iDifferenceOfSets_any (v : Value) (l : List Int) (a b : Int) (w : World) (hr : Rd w w.heap.size .i64 v l) (hn : l.length ≤ 1048576) (ha : -9223372036854775808 ≤ a ∧ a ≤ 9223372036854775807) (hb : -9223372036854775808 ≤ b ∧ b ≤ 9223372036854775807) :
    Calls Try.prog 27 #[.agg #[v], .int .i64 a, .int .i64 b] w fun e w' => e = .returned (.int .i64 (two difN l a b)) ∧ Below w.heap.size w w' := by
  cases hE : areS l [a, b]
  · rw [two_no (by rw [← areS2]; exact hE)]
    replace ha := hid ha
    replace hb := hid hb
    replace hE := hid hE
    go_enter Try.func27, Try.ntmps27
    go_wp2_with fail
    refine (iareSets_at hE.out (((hr.alloc (Nat.le_refl _) _).alloc (by go_size) _).more (by go_size)) (Rd.pair (by simp) _ _ _) hn ha.out hb.out).mono ?_
    rintro e w1 ⟨rfl, hb1⟩
    have D1 : Below w.heap.size w w1 := by refine Below.trans ?_ (hb1.mono ?_) <;> go_grown
    go_wp2
    go_ret
    exact ⟨rfl, D1⟩
  · have h2 := areS2 l a b
    rw [hE] at h2
    have h3 := (Bool.and_eq_true _ _).mp h2.symm
    obtain ⟨A, rfl, hA⟩ := isSet.nat h3.1
    obtain ⟨B, rfl, hB⟩ := isSet.nat h3.2
    rw [two_yes h3.1 h3.2]
    have hg := isSet.group h3.1
    have hD := fun w hr => idifference_any v l A B w hr hg hA hB
    obtain ⟨G, hG⟩ : ∃ G, G = difN l A B := ⟨_, rfl⟩
    rw [← hG] at hD ⊢
    replace ha := hid ha
    replace hb := hid hb
    replace hE := hid hE
    clear hG h2 h3 hA hB hg
    go_enter Try.func27, Try.ntmps27
    go_wp2_with fail
    refine (iareSets_at hE.out (((hr.alloc (Nat.le_refl _) _).alloc (by go_size) _).more (by go_size)) (Rd.pair (by simp) _ _ _) hn ha.out hb.out).mono ?_
    rintro e w1 ⟨rfl, hb1⟩
    obtain ⟨hc1, hf1⟩ := bcell hb1
    have D1 : Below w.heap.size w w1 := by refine Below.trans ?_ (hb1.mono ?_) <;> go_grown
    have hz1 : w.heap.size < w1.heap.size := by have := hb1.size; simp at this; omega
    go_wp2_with fail
    refine (hD _ ((hr.below D1).more (by go_size))).mono ?_
    rintro e w2 ⟨rfl, hb2⟩
    go_wp2
    go_ret
    exact ⟨rfl, bgo D1 hb2⟩
theorem sSumOfSets_any (v : Value) (l : List Int) (a b : Int) (w : World) (hr : Rd w w.heap.size .i64 v l) (hn : l.length ≤ 1048576) (ha : -9223372036854775808 ≤ a ∧ a ≤ 9223372036854775807) (hb : -9223372036854775808 ≤ b ∧ b ≤ 9223372036854775807) :
    Calls Try.prog 22 #[.agg #[v], .int .i64 a, .int .i64 b] w fun e w' => e = .returned (.int .i64 (two sumN l a b)) ∧ Below w.heap.size w w' := by
  cases hE : isSet l a
  · rw [two_no (by rw [hE]; rfl)]
    replace ha := hid ha
    replace hE := hid hE
    go_enter Try.func22, Try.ntmps22
    go_wp2_with fail
    refine (sIsSet_at hE.out ((hr.alloc (Nat.le_refl _) _).more (by go_size)) hn ha.out).mono ?_
    rintro e w1 ⟨rfl, hb1⟩
    have D1 : Below w.heap.size w w1 := by refine Below.trans ?_ (hb1.mono ?_) <;> go_grown
    go_wp2
    go_ret
    exact ⟨rfl, D1⟩
  · cases hF : isSet l b
    · rw [two_no (by rw [hE, hF]; rfl)]
      replace ha := hid ha
      replace hb := hid hb
      replace hE := hid hE
      replace hF := hid hF
      go_enter Try.func22, Try.ntmps22
      go_wp2_with fail
      refine (sIsSet_at hE.out ((hr.alloc (Nat.le_refl _) _).more (by go_size)) hn ha.out).mono ?_
      rintro e w1 ⟨rfl, hb1⟩
      obtain ⟨hc1, hf1⟩ := bcell hb1
      have D1 : Below w.heap.size w w1 := by refine Below.trans ?_ (hb1.mono ?_) <;> go_grown
      have hz1 : w.heap.size < w1.heap.size := by have := hb1.size; simp at this; omega
      go_wp2_with fail
      refine (sIsSet_at hF.out ((hr.below D1).more (by go_size)) hn hb.out).mono ?_
      rintro e w2 ⟨rfl, hb2⟩
      go_wp2
      go_ret
      exact ⟨rfl, bgo D1 hb2⟩
    · obtain ⟨A, rfl, hA⟩ := isSet.nat hE
      obtain ⟨B, rfl, hB⟩ := isSet.nat hF
      rw [two_yes hE hF]
      have hg := isSet.group hE
      have hD := fun w hr => sl4Sum_any v l A B w hr hg hA hB
      obtain ⟨G, hG⟩ : ∃ G, G = sumN l A B := ⟨_, rfl⟩
      rw [← hG] at hD ⊢
      replace ha := hid ha
      replace hb := hid hb
      replace hE := hid hE
      replace hF := hid hF
      clear hG hA hB hg
      go_enter Try.func22, Try.ntmps22
      go_wp2_with fail
      refine (sIsSet_at hE.out ((hr.alloc (Nat.le_refl _) _).more (by go_size)) hn ha.out).mono ?_
      rintro e w1 ⟨rfl, hb1⟩
      obtain ⟨hc1, hf1⟩ := bcell hb1
      have D1 : Below w.heap.size w w1 := by refine Below.trans ?_ (hb1.mono ?_) <;> go_grown
      have hz1 : w.heap.size < w1.heap.size := by have := hb1.size; simp at this; omega
      go_wp2_with fail
      refine (sIsSet_at hF.out ((hr.below D1).more (by go_size)) hn hb.out).mono ?_
      rintro e w2 ⟨rfl, hb2⟩
      obtain ⟨hc2, hf2⟩ := bcell hb2
      have D2 := bgo D1 hb2
      have hz2 : w.heap.size < w2.heap.size := by have := hb2.size; omega
      go_wp2_with fail
      refine (hD _ ((hr.below D2).more (by go_size))).mono ?_
      rintro e w3 ⟨rfl, hb3⟩
      go_wp2
      go_ret
      exact ⟨rfl, bgo D2 hb3⟩
end Go.Proofs.Ytffbamjfpegndaa
