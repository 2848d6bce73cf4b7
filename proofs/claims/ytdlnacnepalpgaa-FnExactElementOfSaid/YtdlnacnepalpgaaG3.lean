/- What AddElements, NegateElement, MultipleOf and OrderOfElement compute, the program's and the reference's. Conditions: at most 2^30 orders. -/
import Derived.Test.YtdlnacnepalpgaaG2
import Derived.Test.YtdlnacnepalpgaaPlH
import Derived.Test.YtdlnacnepalpgaaLKit
namespace Go.Proofs.Ytdlnacnepalpgaa
open Go.RowKit

theorem ihas_at {v : Value} {l : List Int} {x : Int} {b : Bool} {w : World} (hE : isEl l x = b) (hr : Rd w w.heap.size .i64 v l) (hn : l.length ≤ 1073741824) :
    Calls Try.prog 68 #[.agg #[v], .int .i64 x] w fun e w' => e = .returned (.bool b) ∧ Below w.heap.size w w' := by
  rw [← hE]; exact ihas_any v l x w hr hn
theorem sl2Is_at {v : Value} {l : List Int} {x : Int} {b : Bool} {w : World} (hE : isEl l x = b) (hr : Rd w w.heap.size .i64 v l) (hn : l.length ≤ 1073741824) :
    Calls Try.prog 66 #[.agg #[v], .int .i64 x] w fun e w' => e = .returned (.bool b) ∧ Below w.heap.size w w' := by
  rw [← hE]; exact sl2Is_any v l x w hr hn

theorem iAddElements_any (v : Value) (l : List Int) (x y : Int) (w : World) (hr : Rd w w.heap.size .i64 v l) (hn : l.length ≤ 1048576) (hx : -9223372036854775808 ≤ x ∧ x ≤ 9223372036854775807) (hy : -9223372036854775808 ≤ y ∧ y ≤ 9223372036854775807) :
    Calls Try.prog 28 #[.agg #[v], .int .i64 x, .int .i64 y] w fun e w' => e = .returned (.int .i64 (addE l x y)) ∧ Below w.heap.size w w' := by
  cases hE : isEl l x
  · have hA : addE l x y = -1 := by unfold addE; rw [hE]; rfl
    rw [hA]
    go_enter Try.func28, Try.ntmps28
    go_wp2_with fail
    refine (ihas_at hE ((hr.alloc (Nat.le_refl _) _).more (by go_size)) (by omega)).mono ?_
    rintro e w1 ⟨rfl, hb1⟩
    have D1 : Below w.heap.size w w1 := by refine Below.trans ?_ (hb1.mono ?_) <;> go_grown
    clear hE hA
    go_wp2
    go_ret
    exact ⟨rfl, D1⟩
  · cases hF : isEl l y
    · have hA : addE l x y = -1 := by unfold addE; rw [hE, hF]; rfl
      rw [hA]
      go_enter Try.func28, Try.ntmps28
      go_wp2_with fail
      refine (ihas_at hE ((hr.alloc (Nat.le_refl _) _).more (by go_size)) (by omega)).mono ?_
      rintro e w1 ⟨rfl, hb1⟩
      obtain ⟨hc1, hf1⟩ := bcell hb1
      have D1 : Below w.heap.size w w1 := by refine Below.trans ?_ (hb1.mono ?_) <;> go_grown
      have hz1 : w.heap.size < w1.heap.size := by have := hb1.size; simp at this; omega
      clear hE hA
      go_wp2_with fail
      refine (ihas_at hF ((hr.below D1).more (by go_size)) (by omega)).mono ?_
      rintro e w2 ⟨rfl, hb2⟩
      clear hF
      go_wp2
      go_ret
      exact ⟨rfl, bgo D1 hb2⟩
    · have hA : addE l x y = gadd l x y := by unfold addE; rw [hE, hF]; rfl
      rw [hA]
      have hg := isEl.group hE
      have bx := isEl.small hE
      have by' := isEl.small hF
      replace hg := hid hg
      go_enter Try.func28, Try.ntmps28
      go_wp2_with fail
      refine (ihas_at hE ((hr.alloc (Nat.le_refl _) _).more (by go_size)) (by omega)).mono ?_
      rintro e w1 ⟨rfl, hb1⟩
      obtain ⟨hc1, hf1⟩ := bcell hb1
      have D1 : Below w.heap.size w w1 := by refine Below.trans ?_ (hb1.mono ?_) <;> go_grown
      have hz1 : w.heap.size < w1.heap.size := by have := hb1.size; simp at this; omega
      clear hE hA
      go_wp2_with fail
      refine (ihas_at hF ((hr.below D1).more (by go_size)) (by omega)).mono ?_
      rintro e w2 ⟨rfl, hb2⟩
      obtain ⟨hc2, hf2⟩ := bcell hb2
      have D2 := bgo D1 hb2
      have hz2 : w.heap.size < w2.heap.size := by have := hb2.size; omega
      clear hF
      go_wp2_with fail
      refine (iadd_any _ l x y _ ((hr.below D2).more (by go_size)) hg.out (by omega) (by omega)).mono ?_
      rintro e w3 ⟨rfl, hb3⟩
      go_wp2
      go_ret
      exact ⟨rfl, bgo D2 hb3⟩
theorem sAddElements_any (v : Value) (l : List Int) (x y : Int) (w : World) (hr : Rd w w.heap.size .i64 v l) (hn : l.length ≤ 1048576) (hx : -9223372036854775808 ≤ x ∧ x ≤ 9223372036854775807) (hy : -9223372036854775808 ≤ y ∧ y ≤ 9223372036854775807) :
    Calls Try.prog 27 #[.agg #[v], .int .i64 x, .int .i64 y] w fun e w' => e = .returned (.int .i64 (addE l x y)) ∧ Below w.heap.size w w' := by
  cases hE : isEl l x
  · have hA : addE l x y = -1 := by unfold addE; rw [hE]; rfl
    rw [hA]
    go_enter Try.func27, Try.ntmps27
    go_wp2_with fail
    refine (sl2Is_at hE ((hr.alloc (Nat.le_refl _) _).more (by go_size)) (by omega)).mono ?_
    rintro e w1 ⟨rfl, hb1⟩
    have D1 : Below w.heap.size w w1 := by refine Below.trans ?_ (hb1.mono ?_) <;> go_grown
    clear hE hA
    go_wp2
    go_ret
    exact ⟨rfl, D1⟩
  · cases hF : isEl l y
    · have hA : addE l x y = -1 := by unfold addE; rw [hE, hF]; rfl
      rw [hA]
      go_enter Try.func27, Try.ntmps27
      go_wp2_with fail
      refine (sl2Is_at hE ((hr.alloc (Nat.le_refl _) _).more (by go_size)) (by omega)).mono ?_
      rintro e w1 ⟨rfl, hb1⟩
      obtain ⟨hc1, hf1⟩ := bcell hb1
      have D1 : Below w.heap.size w w1 := by refine Below.trans ?_ (hb1.mono ?_) <;> go_grown
      have hz1 : w.heap.size < w1.heap.size := by have := hb1.size; simp at this; omega
      clear hE hA
      go_wp2_with fail
      refine (sl2Is_at hF ((hr.below D1).more (by go_size)) (by omega)).mono ?_
      rintro e w2 ⟨rfl, hb2⟩
      clear hF
      go_wp2
      go_ret
      exact ⟨rfl, bgo D1 hb2⟩
    · have hA : addE l x y = gadd l x y := by unfold addE; rw [hE, hF]; rfl
      rw [hA]
      have hg := isEl.group hE
      have bx := isEl.small hE
      have by' := isEl.small hF
      replace hg := hid hg
      go_enter Try.func27, Try.ntmps27
      go_wp2_with fail
      refine (sl2Is_at hE ((hr.alloc (Nat.le_refl _) _).more (by go_size)) (by omega)).mono ?_
      rintro e w1 ⟨rfl, hb1⟩
      obtain ⟨hc1, hf1⟩ := bcell hb1
      have D1 : Below w.heap.size w w1 := by refine Below.trans ?_ (hb1.mono ?_) <;> go_grown
      have hz1 : w.heap.size < w1.heap.size := by have := hb1.size; simp at this; omega
      clear hE hA
      go_wp2_with fail
      refine (sl2Is_at hF ((hr.below D1).more (by go_size)) (by omega)).mono ?_
      rintro e w2 ⟨rfl, hb2⟩
      obtain ⟨hc2, hf2⟩ := bcell hb2
      have D2 := bgo D1 hb2
      have hz2 : w.heap.size < w2.heap.size := by have := hb2.size; omega
      clear hF
      go_wp2_with fail
      refine (sl2Add_any _ l x y _ ((hr.below D2).more (by go_size)) hg.out (by omega) (by omega)).mono ?_
      rintro e w3 ⟨rfl, hb3⟩
      go_wp2
      go_ret
      exact ⟨rfl, bgo D2 hb3⟩
theorem iNegateElement_any (v : Value) (l : List Int) (x : Int) (w : World) (hr : Rd w w.heap.size .i64 v l) (hn : l.length ≤ 1048576) (hx : -9223372036854775808 ≤ x ∧ x ≤ 9223372036854775807) :
    Calls Try.prog 30 #[.agg #[v], .int .i64 x] w fun e w' => e = .returned (.int .i64 (negE l x)) ∧ Below w.heap.size w w' := by
  cases hE : isEl l x
  · have hA : negE l x = -1 := by unfold negE; rw [hE]; rfl
    rw [hA]
    go_enter Try.func30, Try.ntmps30
    go_wp2_with fail
    refine (ihas_at hE ((hr.alloc (Nat.le_refl _) _).more (by go_size)) (by omega)).mono ?_
    rintro e w1 ⟨rfl, hb1⟩
    have D1 : Below w.heap.size w w1 := by refine Below.trans ?_ (hb1.mono ?_) <;> go_grown
    clear hE hA
    go_wp2
    go_ret
    exact ⟨rfl, D1⟩
  · have hA : negE l x = gneg l x := by unfold negE; rw [hE]; rfl
    rw [hA]
    have hg := isEl.group hE
    have bx := isEl.small hE
    replace hg := hid hg
    go_enter Try.func30, Try.ntmps30
    go_wp2_with fail
    refine (ihas_at hE ((hr.alloc (Nat.le_refl _) _).more (by go_size)) (by omega)).mono ?_
    rintro e w1 ⟨rfl, hb1⟩
    obtain ⟨hc1, hf1⟩ := bcell hb1
    have D1 : Below w.heap.size w w1 := by refine Below.trans ?_ (hb1.mono ?_) <;> go_grown
    have hz1 : w.heap.size < w1.heap.size := by have := hb1.size; simp at this; omega
    clear hE hA
    go_wp2_with fail
    refine (inegate_any _ l x _ ((hr.below D1).more (by go_size)) hg.out (by omega)).mono ?_
    rintro e w2 ⟨rfl, hb2⟩
    go_wp2
    go_ret
    exact ⟨rfl, bgo D1 hb2⟩
theorem sNegateElement_any (v : Value) (l : List Int) (x : Int) (w : World) (hr : Rd w w.heap.size .i64 v l) (hn : l.length ≤ 1048576) (hx : -9223372036854775808 ≤ x ∧ x ≤ 9223372036854775807) :
    Calls Try.prog 29 #[.agg #[v], .int .i64 x] w fun e w' => e = .returned (.int .i64 (negE l x)) ∧ Below w.heap.size w w' := by
  cases hE : isEl l x
  · have hA : negE l x = -1 := by unfold negE; rw [hE]; rfl
    rw [hA]
    go_enter Try.func29, Try.ntmps29
    go_wp2_with fail
    refine (sl2Is_at hE ((hr.alloc (Nat.le_refl _) _).more (by go_size)) (by omega)).mono ?_
    rintro e w1 ⟨rfl, hb1⟩
    have D1 : Below w.heap.size w w1 := by refine Below.trans ?_ (hb1.mono ?_) <;> go_grown
    clear hE hA
    go_wp2
    go_ret
    exact ⟨rfl, D1⟩
  · have hA : negE l x = gneg l x := by unfold negE; rw [hE]; rfl
    rw [hA]
    have hg := isEl.group hE
    have bx := isEl.small hE
    replace hg := hid hg
    go_enter Try.func29, Try.ntmps29
    go_wp2_with fail
    refine (sl2Is_at hE ((hr.alloc (Nat.le_refl _) _).more (by go_size)) (by omega)).mono ?_
    rintro e w1 ⟨rfl, hb1⟩
    obtain ⟨hc1, hf1⟩ := bcell hb1
    have D1 : Below w.heap.size w w1 := by refine Below.trans ?_ (hb1.mono ?_) <;> go_grown
    have hz1 : w.heap.size < w1.heap.size := by have := hb1.size; simp at this; omega
    clear hE hA
    go_wp2_with fail
    refine (sl2Negate_any _ l x _ ((hr.below D1).more (by go_size)) hg.out (by omega)).mono ?_
    rintro e w2 ⟨rfl, hb2⟩
    go_wp2
    go_ret
    exact ⟨rfl, bgo D1 hb2⟩
end Go.Proofs.Ytdlnacnepalpgaa
