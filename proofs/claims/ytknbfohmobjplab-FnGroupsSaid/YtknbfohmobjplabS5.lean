/- What ShiftSet and NegateSet compute, the program's and the reference's. Conditions: at most 2^20 orders. -/
import Derived.Test.YtknbfohmobjplabS4
namespace Go.Proofs.Ytknbfohmobjplab
open Go.RowKit

theorem sl3Shift_same (v : Value) (l : List Int) (A : Nat) (y : Int) (w : World) (hr : Rd w w.heap.size .i64 v l) (hg : isGroup l = true) (hA : A < 16777216) (hy : 0 ≤ y ∧ y < 24) :
    Calls Try.prog 105 #[.agg #[v], .int .i64 (A : Int), .int .i64 y] w fun e w' => e = .returned (.int .i64 (orL (gadd l y) (memL A) : Nat)) ∧ Below w.heap.size w w' := by
  rw [← orL_congr (f := fun z => gadd l z y) (fun x _ => gadd_comm l x y)]
  exact sl3Shift_any v l A y w hr hg hA hy
theorem iNegateSet_any (v : Value) (l : List Int) (a : Int) (w : World) (hr : Rd w w.heap.size .i64 v l) (hn : l.length ≤ 1048576) (ha : -9223372036854775808 ≤ a ∧ a ≤ 9223372036854775807) :
    Calls Try.prog 49 #[.agg #[v], .int .i64 a] w fun e w' => e = .returned (.int .i64 (negS l a)) ∧ Below w.heap.size w w' := by
  cases hE : isSet l a
  · have hA : negS l a = -1 := by unfold negS; rw [hE]; rfl
    rw [hA]
    have hH := fun w h1 => iIsSet_at (v := v) (w := w) hE h1 hn ha
    clear hE hA ha
    go_enter Try.func49, Try.ntmps49
    go_wp2_with fail
    refine (hH _ ((hr.alloc (Nat.le_refl _) _).more (by go_size))).mono ?_
    rintro e w1 ⟨rfl, hb1⟩
    have D1 : Below w.heap.size w w1 := by refine Below.trans ?_ (hb1.mono ?_) <;> go_grown
    go_wp2
    go_ret
    exact ⟨rfl, D1⟩
  · obtain ⟨A, rfl, hA⟩ := isSet.nat hE
    have hc : negS l A = (orL (gneg l) (memL A) : Nat) := by unfold negS; rw [hE]; rfl
    rw [hc]
    have hH := fun w h1 => iIsSet_at (v := v) (w := w) hE h1 hn ha
    have hD := fun w hr => iopposite_any v l A w hr (isSet.group hE) hA
    clear hE hc ha hA
    obtain ⟨G, hG⟩ : ∃ G, G = orL (gneg l) (memL A) := ⟨_, rfl⟩
    rw [← hG] at hD ⊢
    clear hG
    go_enter Try.func49, Try.ntmps49
    go_wp2_with fail
    refine (hH _ ((hr.alloc (Nat.le_refl _) _).more (by go_size))).mono ?_
    rintro e w1 ⟨rfl, hb1⟩
    obtain ⟨hc1, hf1⟩ := bcell hb1
    have D1 : Below w.heap.size w w1 := by refine Below.trans ?_ (hb1.mono ?_) <;> go_grown
    have hz1 : w.heap.size < w1.heap.size := by have := hb1.size; simp at this; omega
    go_wp2_with fail
    refine (hD _ ((hr.below D1).more (by go_size))).mono ?_
    rintro e w2 ⟨rfl, hb2⟩
    go_wp2
    go_ret
    exact ⟨rfl, bgo D1 hb2⟩
theorem sNegateSet_any (v : Value) (l : List Int) (a : Int) (w : World) (hr : Rd w w.heap.size .i64 v l) (hn : l.length ≤ 1048576) (ha : -9223372036854775808 ≤ a ∧ a ≤ 9223372036854775807) :
    Calls Try.prog 50 #[.agg #[v], .int .i64 a] w fun e w' => e = .returned (.int .i64 (negS l a)) ∧ Below w.heap.size w w' := by
  cases hE : isSet l a
  · have hA : negS l a = -1 := by unfold negS; rw [hE]; rfl
    rw [hA]
    have hH := fun w h1 => sIsSet_at (v := v) (w := w) hE h1 hn ha
    clear hE hA ha
    go_enter Try.func50, Try.ntmps50
    go_wp2_with fail
    refine (hH _ ((hr.alloc (Nat.le_refl _) _).more (by go_size))).mono ?_
    rintro e w1 ⟨rfl, hb1⟩
    have D1 : Below w.heap.size w w1 := by refine Below.trans ?_ (hb1.mono ?_) <;> go_grown
    go_wp2
    go_ret
    exact ⟨rfl, D1⟩
  · obtain ⟨A, rfl, hA⟩ := isSet.nat hE
    have hc : negS l A = (orL (gneg l) (memL A) : Nat) := by unfold negS; rw [hE]; rfl
    rw [hc]
    have hH := fun w h1 => sIsSet_at (v := v) (w := w) hE h1 hn ha
    have hD := fun w hr => sl3Negate_any v l A w hr (isSet.group hE) hA
    clear hE hc ha hA
    obtain ⟨G, hG⟩ : ∃ G, G = orL (gneg l) (memL A) := ⟨_, rfl⟩
    rw [← hG] at hD ⊢
    clear hG
    go_enter Try.func50, Try.ntmps50
    go_wp2_with fail
    refine (hH _ ((hr.alloc (Nat.le_refl _) _).more (by go_size))).mono ?_
    rintro e w1 ⟨rfl, hb1⟩
    obtain ⟨hc1, hf1⟩ := bcell hb1
    have D1 : Below w.heap.size w w1 := by refine Below.trans ?_ (hb1.mono ?_) <;> go_grown
    have hz1 : w.heap.size < w1.heap.size := by have := hb1.size; simp at this; omega
    go_wp2_with fail
    refine (hD _ ((hr.below D1).more (by go_size))).mono ?_
    rintro e w2 ⟨rfl, hb2⟩
    go_wp2
    go_ret
    exact ⟨rfl, bgo D1 hb2⟩
theorem iShiftSet_any (v : Value) (l : List Int) (a x : Int) (w : World) (hr : Rd w w.heap.size .i64 v l) (hn : l.length ≤ 1048576) (ha : -9223372036854775808 ≤ a ∧ a ≤ 9223372036854775807) (_ : -9223372036854775808 ≤ x ∧ x ≤ 9223372036854775807) :
    Calls Try.prog 52 #[.agg #[v], .int .i64 a, .int .i64 x] w fun e w' => e = .returned (.int .i64 (shiftS l a x)) ∧ Below w.heap.size w w' := by
  cases hE : isSet l a
  · have hA : shiftS l a x = -1 := by unfold shiftS; rw [hE]; rfl
    rw [hA]
    have hH := fun w h1 => iIsSet_at (v := v) (w := w) hE h1 hn ha
    clear hE hA ha
    go_enter Try.func52, Try.ntmps52
    go_wp2_with fail
    refine (hH _ ((hr.alloc (Nat.le_refl _) _).more (by go_size))).mono ?_
    rintro e w1 ⟨rfl, hb1⟩
    have D1 : Below w.heap.size w w1 := by refine Below.trans ?_ (hb1.mono ?_) <;> go_grown
    go_wp2
    go_ret
    exact ⟨rfl, D1⟩
  · have hH := fun w h1 => iIsSet_at (v := v) (w := w) hE h1 hn ha
    cases hF : isEl l x
    · have hA : shiftS l a x = -1 := by unfold shiftS; rw [hE, hF]; rfl
      rw [hA]
      clear hE hA ha
      go_enter Try.func52, Try.ntmps52
      go_wp2_with fail
      refine (hH _ ((hr.alloc (Nat.le_refl _) _).more (by go_size))).mono ?_
      rintro e w1 ⟨rfl, hb1⟩
      obtain ⟨hc1, hf1⟩ := bcell hb1
      have D1 : Below w.heap.size w w1 := by refine Below.trans ?_ (hb1.mono ?_) <;> go_grown
      have hz1 : w.heap.size < w1.heap.size := by have := hb1.size; simp at this; omega
      go_wp2_with fail
      refine (ihas_at hF ((hr.below D1).more (by go_size)) (by omega)).mono ?_
      rintro e w2 ⟨rfl, hb2⟩
      clear hF
      go_wp2
      go_ret
      exact ⟨rfl, bgo D1 hb2⟩
    · obtain ⟨A, rfl, hA⟩ := isSet.nat hE
      have hc : shiftS l A x = (orL (gadd l x) (memL A) : Nat) := by unfold shiftS; rw [hE, hF]; rfl
      rw [hc]
      have hD := fun w hr => ishift_any v l A x w hr (isSet.group hE) hA (isEl.small hF)
      clear hE hc ha hA
      obtain ⟨G, hG⟩ : ∃ G, G = orL (gadd l x) (memL A) := ⟨_, rfl⟩
      rw [← hG] at hD ⊢
      clear hG
      go_enter Try.func52, Try.ntmps52
      go_wp2_with fail
      refine (hH _ ((hr.alloc (Nat.le_refl _) _).more (by go_size))).mono ?_
      rintro e w1 ⟨rfl, hb1⟩
      obtain ⟨hc1, hf1⟩ := bcell hb1
      have D1 : Below w.heap.size w w1 := by refine Below.trans ?_ (hb1.mono ?_) <;> go_grown
      have hz1 : w.heap.size < w1.heap.size := by have := hb1.size; simp at this; omega
      go_wp2_with fail
      refine (ihas_at hF ((hr.below D1).more (by go_size)) (by omega)).mono ?_
      rintro e w2 ⟨rfl, hb2⟩
      obtain ⟨hc2, hf2⟩ := bcell hb2
      have D2 := bgo D1 hb2
      have hz2 : w.heap.size < w2.heap.size := by have := hb2.size; omega
      clear hF
      go_wp2_with fail
      refine (hD _ ((hr.below D2).more (by go_size))).mono ?_
      rintro e w3 ⟨rfl, hb3⟩
      go_wp2
      go_ret
      exact ⟨rfl, bgo D2 hb3⟩
theorem sShiftSet_any (v : Value) (l : List Int) (a x : Int) (w : World) (hr : Rd w w.heap.size .i64 v l) (hn : l.length ≤ 1048576) (ha : -9223372036854775808 ≤ a ∧ a ≤ 9223372036854775807) (_ : -9223372036854775808 ≤ x ∧ x ≤ 9223372036854775807) :
    Calls Try.prog 53 #[.agg #[v], .int .i64 a, .int .i64 x] w fun e w' => e = .returned (.int .i64 (shiftS l a x)) ∧ Below w.heap.size w w' := by
  cases hE : isSet l a
  · have hA : shiftS l a x = -1 := by unfold shiftS; rw [hE]; rfl
    rw [hA]
    have hH := fun w h1 => sIsSet_at (v := v) (w := w) hE h1 hn ha
    clear hE hA ha
    go_enter Try.func53, Try.ntmps53
    go_wp2_with fail
    refine (hH _ ((hr.alloc (Nat.le_refl _) _).more (by go_size))).mono ?_
    rintro e w1 ⟨rfl, hb1⟩
    have D1 : Below w.heap.size w w1 := by refine Below.trans ?_ (hb1.mono ?_) <;> go_grown
    go_wp2
    go_ret
    exact ⟨rfl, D1⟩
  · have hH := fun w h1 => sIsSet_at (v := v) (w := w) hE h1 hn ha
    cases hF : isEl l x
    · have hA : shiftS l a x = -1 := by unfold shiftS; rw [hE, hF]; rfl
      rw [hA]
      clear hE hA ha
      go_enter Try.func53, Try.ntmps53
      go_wp2_with fail
      refine (hH _ ((hr.alloc (Nat.le_refl _) _).more (by go_size))).mono ?_
      rintro e w1 ⟨rfl, hb1⟩
      obtain ⟨hc1, hf1⟩ := bcell hb1
      have D1 : Below w.heap.size w w1 := by refine Below.trans ?_ (hb1.mono ?_) <;> go_grown
      have hz1 : w.heap.size < w1.heap.size := by have := hb1.size; simp at this; omega
      go_wp2_with fail
      refine (sl2Is_at hF ((hr.below D1).more (by go_size)) (by omega)).mono ?_
      rintro e w2 ⟨rfl, hb2⟩
      clear hF
      go_wp2
      go_ret
      exact ⟨rfl, bgo D1 hb2⟩
    · obtain ⟨A, rfl, hA⟩ := isSet.nat hE
      have hc : shiftS l A x = (orL (gadd l x) (memL A) : Nat) := by unfold shiftS; rw [hE, hF]; rfl
      rw [hc]
      have hD := fun w hr => sl3Shift_same v l A x w hr (isSet.group hE) hA (isEl.small hF)
      clear hE hc ha hA
      obtain ⟨G, hG⟩ : ∃ G, G = orL (gadd l x) (memL A) := ⟨_, rfl⟩
      rw [← hG] at hD ⊢
      clear hG
      go_enter Try.func53, Try.ntmps53
      go_wp2_with fail
      refine (hH _ ((hr.alloc (Nat.le_refl _) _).more (by go_size))).mono ?_
      rintro e w1 ⟨rfl, hb1⟩
      obtain ⟨hc1, hf1⟩ := bcell hb1
      have D1 : Below w.heap.size w w1 := by refine Below.trans ?_ (hb1.mono ?_) <;> go_grown
      have hz1 : w.heap.size < w1.heap.size := by have := hb1.size; simp at this; omega
      go_wp2_with fail
      refine (sl2Is_at hF ((hr.below D1).more (by go_size)) (by omega)).mono ?_
      rintro e w2 ⟨rfl, hb2⟩
      obtain ⟨hc2, hf2⟩ := bcell hb2
      have D2 := bgo D1 hb2
      have hz2 : w.heap.size < w2.heap.size := by have := hb2.size; omega
      clear hF
      go_wp2_with fail
      refine (hD _ ((hr.below D2).more (by go_size))).mono ?_
      rintro e w3 ⟨rfl, hb3⟩
      go_wp2
      go_ret
      exact ⟨rfl, bgo D2 hb3⟩
end Go.Proofs.Ytknbfohmobjplab
