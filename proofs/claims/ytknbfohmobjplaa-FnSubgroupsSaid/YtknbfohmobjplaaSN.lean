/- What AffineHull and IsCoset compute, the program's and the reference's. Conditions: at most 2^20 orders. -/
import Derived.Test.YtknbfohmobjplaaMSc
import Derived.Test.YtknbfohmobjplaaSK
namespace Go.Proofs.Ytknbfohmobjplaa
set_option linter.unusedVariables false
set_option linter.unusedSimpArgs false
open Go.RowKit

def hulE (l : List Int) (a : Int) : Int := if isSet l a && decide (a ≠ 0) then (hullN l a.toNat : Nat) else -1
theorem hulE_no {l : List Int} {a : Int} (h : isSet l a = false) : hulE l a = -1 := by unfold hulE; rw [h]; rfl
theorem hulE_zero (l : List Int) : hulE l 0 = -1 := by unfold hulE; rw [decide_eq_false (by simp), Bool.and_false]; rfl
theorem hulE_yes {l : List Int} {A : Nat} (h : isSet l (A : Int) = true) (h0 : A ≠ 0) : hulE l A = (hullN l A : Nat) := by
  unfold hulE
  rw [h, decide_eq_true (by omega)]
  rfl
theorem hull_facts {l : List Int} {A : Nat} (h : isSet l (A : Int) = true) (h0 : A ≠ 0) : ∃ (x N : Int) (S H R : Nat), x = lowN A ∧ (0 ≤ x ∧ x < 24) ∧ N = gneg l x ∧ (0 ≤ N ∧ N < 24) ∧ S = shN l A N ∧ S < 16777216 ∧ isSet l (S : Int) = true ∧ H = genN l S ∧ H < 16777216 ∧ R = shN l H x ∧ R < 16777216 ∧ R = hullN l A := by
  have hg := isSet.group h
  have hp := isGroup.prod hg
  have ht := isSet.top h
  have hx := of_top hg ht (lowN_in hg (top_24 hg ht) h0)
  have hN := gneg_in hg (lowN A)
  exact ⟨_, _, _, _, _, rfl, by omega, rfl, by omega, rfl, shN_lt hg _ _, (isSet_nat hg _).2 (shN_top hg _ _), rfl, genN_lt hg (shN_lt hg _ _), rfl, shN_lt hg _ _, rfl⟩
theorem iAffineHull_any (v : Value) (l : List Int) (a : Int) (w : World) (hr : Rd w w.heap.size .i64 v l) (hn : l.length ≤ 1048576) (ha : -9223372036854775808 ≤ a ∧ a ≤ 9223372036854775807) :
    Calls Try.prog 41 #[.agg #[v], .int .i64 a] w fun e w' => e = .returned (.int .i64 (hulE l a)) ∧ Below w.heap.size w w' := by
  cases hE : isSet l a
  · rw [hulE_no hE]
    replace ha := hid ha
    replace hE := hid hE
    go_enter Try.func41, Try.ntmps41
    go_wp2_with fail
    refine (iIsSet_at hE.out ((hr.alloc (Nat.le_refl _) _).more (by go_size)) hn ha.out).mono ?_
    rintro e w1 ⟨rfl, hb1⟩
    have D1 : Below w.heap.size w w1 := by refine Below.trans ?_ (hb1.mono ?_) <;> go_grown
    have hz1 : w.heap.size < w1.heap.size := by have := hb1.size; simp at this; omega
    obtain ⟨hc1, hf1⟩ := bcell hb1
    go_wp2
    go_ret
    exact ⟨rfl, D1⟩
  · obtain ⟨A, rfl, hA⟩ := isSet.nat hE
    by_cases h0 : A = 0
    · subst h0
      have hz := hulE_zero l
      rw [show ((0 : Nat) : Int) = 0 from rfl] at hE ha ⊢
      rw [hz]
      replace ha := hid ha
      replace hE := hid hE
      go_enter Try.func41, Try.ntmps41
      go_wp2_with fail
      refine (iIsSet_at hE.out ((hr.alloc (Nat.le_refl _) _).more (by go_size)) hn ha.out).mono ?_
      rintro e w1 ⟨rfl, hb1⟩
      have D1 : Below w.heap.size w w1 := by refine Below.trans ?_ (hb1.mono ?_) <;> go_grown
      have hz1 : w.heap.size < w1.heap.size := by have := hb1.size; simp at this; omega
      obtain ⟨hc1, hf1⟩ := bcell hb1
      go_wp2
      go_ret
      exact ⟨rfl, D1⟩
    · rw [hulE_yes hE h0]
      have hg := isSet.group hE
      obtain ⟨x, N, S, H, R, hx, hxb, hN, hNb, hS, hSb, hSs, hH, hHb, hR, hRb, hRA⟩ := hull_facts hE h0
      rw [← hRA]
      obtain ⟨hlen, hhead⟩ := low_head hA h0
      rw [← hx] at hhead
      have hM := hid fun w => imembers_any A hA w
      have hML := memL_len A
      have hO := hid fun w hr => inegate_any v l x w hr hg (by omega)
      rw [← hN] at hO
      have hS1 := hid fun w hr => ishift_any v l A N w hr hg hA hNb
      change Hid (∀ (w : World), Rd w w.heap.size .i64 v l → Calls Try.prog 49 #[.agg #[v], .int .i64 (A : Int), .int .i64 N] w fun e w' => e = .returned (.int .i64 (shN l A N : Nat)) ∧ Below w.heap.size w w') at hS1
      rw [← hS] at hS1
      have hG := hid fun w hr => igenerated_any v l S w hr hg hSb
      rw [← hH] at hG
      have hS2 := hid fun w hr => ishift_any v l H x w hr hg hHb hxb
      change Hid (∀ (w : World), Rd w w.heap.size .i64 v l → Calls Try.prog 49 #[.agg #[v], .int .i64 (H : Int), .int .i64 x] w fun e w' => e = .returned (.int .i64 (shN l H x : Nat)) ∧ Below w.heap.size w w') at hS2
      rw [← hR] at hS2
      obtain ⟨M, hMM⟩ : ∃ M, M = memL A := ⟨_, rfl⟩
      have hlen2 : 0 < M.length := by rw [hMM]; exact hlen
      have hhead2 : M[0] = x := by subst hMM; exact hhead
      rw [← hMM] at hM hML
      have z1 : ¬ (A : Int) = 0 := by omega
      have z2 : ((A : Int) == 0) = false := by rw [beq_eq_false_iff_ne]; exact z1
      replace ha := hid ha
      replace hE := hid hE
      clear hg hx hN hS hSs hH hR hRA hA hMM hlen hhead hSb hHb hRb h0
      go_enter Try.func41, Try.ntmps41
      go_wp2_with fail
      refine (iIsSet_at hE.out ((hr.alloc (Nat.le_refl _) _).more (by go_size)) hn ha.out).mono ?_
      rintro e w1 ⟨rfl, hb1⟩
      have D1 : Below w.heap.size w w1 := by refine Below.trans ?_ (hb1.mono ?_) <;> go_grown
      have hz1 : w.heap.size < w1.heap.size := by have := hb1.size; simp at this; omega
      obtain ⟨hc1, hf1⟩ := bcell hb1
      have c1 : w1.cell? ⟨w.heap.size, 0, none⟩ = some v := by rw [hc1 _ _ (by go_size)]; simp [go_sem]
      clear hc1 hf1 hb1
      go_wp2_with fail
      refine (hM.out _).mono ?_
      rintro e w2 ⟨ao2, cap2, rfl, ho2, hb2⟩
      have D2 := bgo D1 hb2
      have hz2 : w.heap.size < w2.heap.size := by have := hb2.size; omega
      have c2 := (hb2.cell hz1).trans c1
      obtain ⟨b1, rfl, hB1, hB1', hcell⟩ := ho2.cells hlen2
      have hc0 := hcell 0 hlen2
      rw [hhead2] at hc0
      clear hb2 ho2 c1 hcell hhead2
      have K : ∀ w', Below w2.heap.size w2 w' → w'.cell? ⟨w.heap.size, 0, none⟩ = some v := fun w' h => (h.cell hz2).trans c2
      go_wp2_with fail
      go_region_held3 (fun w' => w'.cell? ⟨w.heap.size, 0, none⟩ = some v) (first | go_keep | exact K _ hb3 | exact K _ (bgo hb3 hb4) | exact K _ (bgo (bgo hb3 hb4) hb5) | exact K _ (bgo (bgo (bgo hb3 hb4) hb5) hb6)) (first | (go_at_call 85; refine (hO.out _ ((hr.below (by go_grown)).more (by go_size))).mono ?_; rintro e w3 ⟨rfl, hb3⟩; replace hb3 : Below w2.heap.size w2 w3 := (Below.refl w2.heap.size w2).drew.trans hb3) | ((fail_if_success (have := hb4)); go_at_call 49; refine (hS1.out _ ((hr.below (bgo D2 hb3)).more (bgo D2 hb3).size)).mono ?_; rintro e w4 ⟨rfl, hb4⟩) | (go_at_call 70; refine (hG.out _ ((hr.below (bgo D2 (bgo hb3 hb4))).more (bgo D2 (bgo hb3 hb4)).size)).mono ?_; rintro e w5 ⟨rfl, hb5⟩) | (go_at_call 49; refine (hS2.out _ ((hr.below (bgo D2 (bgo (bgo hb3 hb4) hb5))).more (bgo D2 (bgo (bgo hb3 hb4) hb5)).size)).mono ?_; rintro e w6 ⟨rfl, hb6⟩))
      go_wp2
      go_ret
      exact ⟨rfl, bgo D2 (bgo (bgo (bgo hb3 hb4) hb5) hb6)⟩
theorem sAffineHull_any (v : Value) (l : List Int) (a : Int) (w : World) (hr : Rd w w.heap.size .i64 v l) (hn : l.length ≤ 1048576) (ha : -9223372036854775808 ≤ a ∧ a ≤ 9223372036854775807) :
    Calls Try.prog 45 #[.agg #[v], .int .i64 a] w fun e w' => e = .returned (.int .i64 (hulE l a)) ∧ Below w.heap.size w w' := by
  cases hE : isSet l a
  · rw [hulE_no hE]
    replace ha := hid ha
    replace hE := hid hE
    go_enter Try.func45, Try.ntmps45
    go_wp2_with fail
    refine (sIsSet_at hE.out ((hr.alloc (Nat.le_refl _) _).more (by go_size)) hn ha.out).mono ?_
    rintro e w1 ⟨rfl, hb1⟩
    have D1 : Below w.heap.size w w1 := by refine Below.trans ?_ (hb1.mono ?_) <;> go_grown
    have hz1 : w.heap.size < w1.heap.size := by have := hb1.size; simp at this; omega
    obtain ⟨hc1, hf1⟩ := bcell hb1
    go_wp2
    go_ret
    exact ⟨rfl, D1⟩
  · obtain ⟨A, rfl, hA⟩ := isSet.nat hE
    by_cases h0 : A = 0
    · subst h0
      have hz := hulE_zero l
      rw [show ((0 : Nat) : Int) = 0 from rfl] at hE ha ⊢
      rw [hz]
      replace ha := hid ha
      replace hE := hid hE
      go_enter Try.func45, Try.ntmps45
      go_wp2_with fail
      refine (sIsSet_at hE.out ((hr.alloc (Nat.le_refl _) _).more (by go_size)) hn ha.out).mono ?_
      rintro e w1 ⟨rfl, hb1⟩
      have D1 : Below w.heap.size w w1 := by refine Below.trans ?_ (hb1.mono ?_) <;> go_grown
      have hz1 : w.heap.size < w1.heap.size := by have := hb1.size; simp at this; omega
      obtain ⟨hc1, hf1⟩ := bcell hb1
      go_wp2
      go_ret
      exact ⟨rfl, D1⟩
    · rw [hulE_yes hE h0]
      have hg := isSet.group hE
      obtain ⟨x, N, S, H, R, hx, hxb, hN, hNb, hS, hSb, hSs, hH, hHb, hR, hRb, hRA⟩ := hull_facts hE h0
      rw [← hRA]
      have hM := hid fun w => sl5Low_any A hA h0 w
      rw [← hx] at hM
      have hO := hid fun w hr => sl2Negate_any v l x w hr hg (by omega)
      rw [← hN] at hO
      have hS1 := hid fun w hr => sl3Shift_same v l A N w hr hg hA hNb
      change Hid (∀ (w : World), Rd w w.heap.size .i64 v l → Calls Try.prog 69 #[.agg #[v], .int .i64 (A : Int), .int .i64 N] w fun e w' => e = .returned (.int .i64 (shN l A N : Nat)) ∧ Below w.heap.size w w') at hS1
      rw [← hS] at hS1
      have hG := hid fun w hr => sl5Closure_any v l S w hr hg hSb
      rw [← hH] at hG
      have hS2 := hid fun w hr => sl3Shift_same v l H x w hr hg hHb hxb
      change Hid (∀ (w : World), Rd w w.heap.size .i64 v l → Calls Try.prog 69 #[.agg #[v], .int .i64 (H : Int), .int .i64 x] w fun e w' => e = .returned (.int .i64 (shN l H x : Nat)) ∧ Below w.heap.size w w') at hS2
      rw [← hR] at hS2
      have z1 : ¬ (A : Int) = 0 := by omega
      have z2 : ((A : Int) == 0) = false := by rw [beq_eq_false_iff_ne]; exact z1
      replace ha := hid ha
      replace hE := hid hE
      clear hg hx hN hS hSs hH hR hRA hA hSb hHb hRb h0
      go_enter Try.func45, Try.ntmps45
      go_wp2_with fail
      refine (sIsSet_at hE.out ((hr.alloc (Nat.le_refl _) _).more (by go_size)) hn ha.out).mono ?_
      rintro e w1 ⟨rfl, hb1⟩
      have D1 : Below w.heap.size w w1 := by refine Below.trans ?_ (hb1.mono ?_) <;> go_grown
      have hz1 : w.heap.size < w1.heap.size := by have := hb1.size; simp at this; omega
      obtain ⟨hc1, hf1⟩ := bcell hb1
      have c1 : w1.cell? ⟨w.heap.size, 0, none⟩ = some v := by rw [hc1 _ _ (by go_size)]; simp [go_sem]
      clear hc1 hf1 hb1
      go_wp2_with fail
      refine (hM.out _).mono ?_
      rintro e wx ⟨rfl, m, rfl⟩
      go_wp2_with fail
      obtain ⟨w2, hw2⟩ : ∃ w2, w2 = w1.drewN m := ⟨_, rfl⟩
      have D2 : Below w.heap.size w w2 := by rw [hw2]; exact D1.trans (below_drewN _ _ _)
      have hz2 : w.heap.size < w2.heap.size := by rw [hw2]; exact hz1
      have c2 : w2.cell? ⟨w.heap.size, 0, none⟩ = some v := by rw [hw2]; exact c1
      rw [← hw2]
      clear c1 hw2
      have K : ∀ w', Below w2.heap.size w2 w' → w'.cell? ⟨w.heap.size, 0, none⟩ = some v := fun w' h => (h.cell hz2).trans c2
      go_region_held3 (fun w' => w'.cell? ⟨w.heap.size, 0, none⟩ = some v) (first | go_keep | exact K _ hb3 | exact K _ (bgo hb3 hb4) | exact K _ (bgo (bgo hb3 hb4) hb5) | exact K _ (bgo (bgo (bgo hb3 hb4) hb5) hb6)) (first | (go_at_call 89; refine (hO.out _ ((hr.below (by go_grown)).more (by go_size))).mono ?_; rintro e w3 ⟨rfl, hb3⟩; replace hb3 : Below w2.heap.size w2 w3 := (Below.refl w2.heap.size w2).drew.trans hb3) | ((fail_if_success (have := hb4)); go_at_call 69; refine (hS1.out _ ((hr.below (bgo D2 hb3)).more (bgo D2 hb3).size)).mono ?_; rintro e w4 ⟨rfl, hb4⟩) | (go_at_call 71; refine (hG.out _ ((hr.below (bgo D2 (bgo hb3 hb4))).more (bgo D2 (bgo hb3 hb4)).size)).mono ?_; rintro e w5 ⟨rfl, hb5⟩) | (go_at_call 69; refine (hS2.out _ ((hr.below (bgo D2 (bgo (bgo hb3 hb4) hb5))).more (bgo D2 (bgo (bgo hb3 hb4) hb5)).size)).mono ?_; rintro e w6 ⟨rfl, hb6⟩))
      go_wp2
      go_ret
      exact ⟨rfl, bgo D2 (bgo (bgo (bgo hb3 hb4) hb5) hb6)⟩
end Go.Proofs.Ytknbfohmobjplaa
