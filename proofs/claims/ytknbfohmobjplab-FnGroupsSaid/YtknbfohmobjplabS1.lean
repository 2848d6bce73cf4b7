/- What IsSet, FullSet and CountSet compute, the program's and the reference's. Conditions: at most 2^20 orders. -/
import Derived.Test.YtknbfohmobjplabMGa
import Derived.Test.YtknbfohmobjplabMPl
namespace Go.Proofs.Ytknbfohmobjplab
open Go.RowKit

theorem iOrderOf_g (v : Value) (l : List Int) (w : World) (hr : Rd w w.heap.size .i64 v l) (hg : isGroup l = true) :
    Calls Try.prog 8 #[.agg #[v]] w fun e w' => e = .returned (.int .i64 (prodL l)) ∧ Below w.heap.size w w' := by
  rw [← orderOf_yes hg]
  exact iOrderOf_any v l w hr (by have := isGroup.len hg; omega)
theorem top_pow {l : List Int} {n : Nat} (h : prodL l = n) : (2 : Int) ^ n = (topOf l : Int) := by
  unfold topOf
  rw [h]
  exact (Int.natCast_pow 2 n).symm

theorem iFullSet_any (v : Value) (l : List Int) (w : World) (hr : Rd w w.heap.size .i64 v l) (hn : l.length ≤ 1048576) :
    Calls Try.prog 62 #[.agg #[v]] w fun e w' => e = .returned (.int .i64 (fullE l)) ∧ Below w.heap.size w w' := by
  have hI : ∀ w : World, Rd w w.heap.size .i64 v l → Calls Try.prog 25 #[.agg #[v]] w fun e w' => e = .returned (.bool (isGroup l)) ∧ Below w.heap.size w w' := fun w hr => iIsGroup_any v l w hr (by omega)
  cases hg : isGroup l
  · rw [hg] at hI
    have hA : fullE l = 0 := by unfold fullE; rw [hg]; rfl
    rw [hA]
    clear hg hA
    go_enter Try.func62, Try.ntmps62
    go_wp2_with (go_at_call 25; refine (hI _ ((hr.alloc (Nat.le_refl _) _).more (by simp))).mono ?_; rintro e w1 ⟨rfl, hb⟩)
    go_ret
    exact ⟨rfl, (below_alloc _ _).trans (hb.mono (by simp))⟩
  · rw [hg] at hI
    have hO := fun (w : World) (hr : Rd w w.heap.size .i64 v l) => iOrderOf_g v l w hr hg
    have hA : fullE l = (topOf l : Int) - 1 := by unfold fullE; rw [hg]; rfl
    rw [hA]
    have ht := topOf_bd hg
    have hp := isGroup.prod hg
    obtain ⟨n, hn⟩ : ∃ n : Nat, prodL l = n := ⟨(prodL l).toNat, by omega⟩
    have e1 := top_pow hn
    obtain ⟨T, hT2⟩ : ∃ T : Nat, T = topOf l := ⟨_, rfl⟩
    rw [← hT2] at ht e1 ⊢
    rw [hn] at hO hp
    clear hA hT2 hg
    go_enter Try.func62, Try.ntmps62
    go_wp2_with fail
    refine (hI _ ((hr.alloc (Nat.le_refl _) _).more (by simp))).mono ?_
    rintro e w1 ⟨rfl, hb1⟩
    obtain ⟨hc1, hf1⟩ := bcell hb1
    have D1 : Below w.heap.size w w1 := by refine Below.trans ?_ (hb1.mono ?_) <;> go_grown
    have hz1 : w.heap.size < w1.heap.size := by have := hb1.size; simp at this; omega
    go_wp2_with fail
    refine (hO _ ((hr.below D1).more (by go_size))).mono ?_
    rintro e w2 ⟨rfl, hb2⟩
    go_wp2
    go_ret
    exact ⟨rfl, bgo D1 hb2⟩
theorem sFullSet_any (v : Value) (l : List Int) (w : World) (hr : Rd w w.heap.size .i64 v l) (hn : l.length ≤ 1048576) :
    Calls Try.prog 63 #[.agg #[v]] w fun e w' => e = .returned (.int .i64 (fullE l)) ∧ Below w.heap.size w w' := by
  have hI : ∀ w : World, Rd w w.heap.size .i64 v l → Calls Try.prog 24 #[.agg #[v]] w fun e w' => e = .returned (.bool (isGroup l)) ∧ Below w.heap.size w w' := fun w hr => sIsGroup_any v l w hr (by omega)
  cases hg : isGroup l
  · rw [hg] at hI
    have hA : fullE l = 0 := by unfold fullE; rw [hg]; rfl
    rw [hA]
    clear hg hA
    go_enter Try.func63, Try.ntmps63
    go_wp2_with (go_at_call 24; refine (hI _ ((hr.alloc (Nat.le_refl _) _).more (by simp))).mono ?_; rintro e w1 ⟨rfl, hb⟩)
    go_ret
    exact ⟨rfl, (below_alloc _ _).trans (hb.mono (by simp))⟩
  · rw [hg] at hI
    have hO := fun (w : World) (hr : Rd w w.heap.size .i64 v l) => sl2Order_any v l w hr hg
    have hA : fullE l = (topOf l : Int) - 1 := by unfold fullE; rw [hg]; rfl
    rw [hA]
    have ht := topOf_bd hg
    have hp := isGroup.prod hg
    obtain ⟨n, hn⟩ : ∃ n : Nat, prodL l = n := ⟨(prodL l).toNat, by omega⟩
    have e1 := top_pow hn
    obtain ⟨T, hT2⟩ : ∃ T : Nat, T = topOf l := ⟨_, rfl⟩
    rw [← hT2] at ht e1 ⊢
    rw [hn] at hO hp
    clear hA hT2 hg
    go_enter Try.func63, Try.ntmps63
    go_wp2_with fail
    refine (hI _ ((hr.alloc (Nat.le_refl _) _).more (by simp))).mono ?_
    rintro e w1 ⟨rfl, hb1⟩
    obtain ⟨hc1, hf1⟩ := bcell hb1
    have D1 : Below w.heap.size w w1 := by refine Below.trans ?_ (hb1.mono ?_) <;> go_grown
    have hz1 : w.heap.size < w1.heap.size := by have := hb1.size; simp at this; omega
    go_wp2_with fail
    refine (hO _ ((hr.below D1).more (by go_size))).mono ?_
    rintro e w2 ⟨rfl, hb2⟩
    go_wp2
    go_ret
    exact ⟨rfl, bgo D1 hb2⟩
theorem isSet_no {l : List Int} {a : Int} (h : isGroup l = false) : isSet l a = false := by unfold isSet; rw [h]; rfl
theorem isSet_at {l : List Int} (h : isGroup l = true) (a : Int) : isSet l a = decide (0 ≤ a ∧ a < topOf l) := by unfold isSet; rw [h]; rfl
theorem iIsSet_any (v : Value) (l : List Int) (a : Int) (w : World) (hr : Rd w w.heap.size .i64 v l) (hn : l.length ≤ 1048576) (ha : -9223372036854775808 ≤ a ∧ a ≤ 9223372036854775807) :
    Calls Try.prog 45 #[.agg #[v], .int .i64 a] w fun e w' => e = .returned (.bool (isSet l a)) ∧ Below w.heap.size w w' := by
  have hI : ∀ w : World, Rd w w.heap.size .i64 v l → Calls Try.prog 25 #[.agg #[v]] w fun e w' => e = .returned (.bool (isGroup l)) ∧ Below w.heap.size w w' := fun w hr => iIsGroup_any v l w hr (by omega)
  cases hg : isGroup l
  · rw [hg] at hI
    rw [isSet_no hg]
    clear hg
    go_enter Try.func45, Try.ntmps45
    go_wp2_with (go_at_call 25; refine (hI _ ((hr.alloc (Nat.le_refl _) _).more (by simp))).mono ?_; rintro e w1 ⟨rfl, hb⟩)
    go_ret
    exact ⟨rfl, (below_alloc _ _).trans (hb.mono (by simp))⟩
  · rw [hg] at hI
    have hO := fun (w : World) (hr : Rd w w.heap.size .i64 v l) => iOrderOf_g v l w hr hg
    rw [isSet_at hg]
    have ht := topOf_bd hg
    have hp := isGroup.prod hg
    obtain ⟨n, hn⟩ : ∃ n : Nat, prodL l = n := ⟨(prodL l).toNat, by omega⟩
    have e1 := top_pow hn
    obtain ⟨T, hT2⟩ : ∃ T : Nat, T = topOf l := ⟨_, rfl⟩
    rw [← hT2] at ht e1 ⊢
    rw [hn] at hO hp
    clear hT2 hg
    by_cases h0 : 0 ≤ a
    · have hd : decide (0 ≤ a ∧ a < (T : Int)) = decide (a < (T : Int)) := by simp [h0]
      rw [hd]
      clear hd
      go_enter Try.func45, Try.ntmps45
      go_wp2_with fail
      refine (hI _ ((hr.alloc (Nat.le_refl _) _).more (by simp))).mono ?_
      rintro e w1 ⟨rfl, hb1⟩
      obtain ⟨hc1, hf1⟩ := bcell hb1
      have D1 : Below w.heap.size w w1 := by refine Below.trans ?_ (hb1.mono ?_) <;> go_grown
      have hz1 : w.heap.size < w1.heap.size := by have := hb1.size; simp at this; omega
      go_wp2_with fail
      refine (hO _ ((hr.below D1).more (by go_size))).mono ?_
      rintro e w2 ⟨rfl, hb2⟩
      go_wp2
      go_ret
      exact ⟨rfl, bgo D1 hb2⟩
    · have hd : decide (0 ≤ a ∧ a < (T : Int)) = false := by simp [h0]
      rw [hd]
      clear hd
      go_enter Try.func45, Try.ntmps45
      go_wp2_with (go_at_call 25; refine (hI _ ((hr.alloc (Nat.le_refl _) _).more (by simp))).mono ?_; rintro e w1 ⟨rfl, hb⟩)
      go_ret
      exact ⟨rfl, (below_alloc _ _).trans (hb.mono (by simp))⟩
theorem sIsSet_any (v : Value) (l : List Int) (a : Int) (w : World) (hr : Rd w w.heap.size .i64 v l) (hn : l.length ≤ 1048576) (ha : -9223372036854775808 ≤ a ∧ a ≤ 9223372036854775807) :
    Calls Try.prog 44 #[.agg #[v], .int .i64 a] w fun e w' => e = .returned (.bool (isSet l a)) ∧ Below w.heap.size w w' := by
  have hI : ∀ w : World, Rd w w.heap.size .i64 v l → Calls Try.prog 24 #[.agg #[v]] w fun e w' => e = .returned (.bool (isGroup l)) ∧ Below w.heap.size w w' := fun w hr => sIsGroup_any v l w hr (by omega)
  cases hg : isGroup l
  · rw [hg] at hI
    rw [isSet_no hg]
    clear hg
    go_enter Try.func44, Try.ntmps44
    go_wp2_with (go_at_call 24; refine (hI _ ((hr.alloc (Nat.le_refl _) _).more (by simp))).mono ?_; rintro e w1 ⟨rfl, hb⟩)
    go_ret
    exact ⟨rfl, (below_alloc _ _).trans (hb.mono (by simp))⟩
  · rw [hg] at hI
    have hO := fun (w : World) (hr : Rd w w.heap.size .i64 v l) => sl2Order_any v l w hr hg
    rw [isSet_at hg]
    have ht := topOf_bd hg
    have hp := isGroup.prod hg
    obtain ⟨n, hn⟩ : ∃ n : Nat, prodL l = n := ⟨(prodL l).toNat, by omega⟩
    have e1 := top_pow hn
    obtain ⟨T, hT2⟩ : ∃ T : Nat, T = topOf l := ⟨_, rfl⟩
    rw [← hT2] at ht e1 ⊢
    rw [hn] at hO hp
    have hL : ∀ w : World, Calls Try.prog 87 #[.int .i64 a, .int .i64 0, .int .i64 ((T : Int) - 1)] w fun e w' => e = .returned (.bool (decide (0 ≤ a ∧ a < (T : Int)))) ∧ w = w' := by
      intro w
      by_cases h0 : 0 ≤ a ∧ a < (T : Int)
      · rw [decide_eq_true h0]; exact sl1In_yes _ _ _ (by omega) w
      · rw [decide_eq_false h0]; exact sl1In_no _ _ _ (by omega) w
    obtain ⟨r, hR⟩ : ∃ r, r = decide (0 ≤ a ∧ a < (T : Int)) := ⟨_, rfl⟩
    rw [← hR] at hL ⊢
    clear hT2 hg hR
    go_enter Try.func44, Try.ntmps44
    go_wp2_with fail
    refine (hI _ ((hr.alloc (Nat.le_refl _) _).more (by simp))).mono ?_
    rintro e w1 ⟨rfl, hb1⟩
    obtain ⟨hc1, hf1⟩ := bcell hb1
    have D1 : Below w.heap.size w w1 := by refine Below.trans ?_ (hb1.mono ?_) <;> go_grown
    have hz1 : w.heap.size < w1.heap.size := by have := hb1.size; simp at this; omega
    go_wp2_with fail
    refine (hO _ ((hr.below D1).more (by go_size))).mono ?_
    rintro e w2 ⟨rfl, hb2⟩
    go_wp2_with (go_at_call 87; refine (hL _).mono ?_; rintro e w' ⟨rfl, rfl⟩)
    go_ret
    exact ⟨rfl, bgo D1 hb2⟩

end Go.Proofs.Ytknbfohmobjplab
