/- What is generated, and which sets are subgroups, the program's and the reference's. Conditions: at most 2^20 orders. -/
import Derived.Test.YtknbfohmobjplaaMSb
namespace Go.Proofs.Ytknbfohmobjplaa
set_option linter.unusedVariables false
set_option linter.unusedSimpArgs false
open Go.RowKit

theorem or_int {A B : Nat} (hA : A < 16777216) (hB : B < 16777216) : bits .or .i64 (A : Int) (B : Int) = ((A ||| B : Nat) : Int) := or64 A B (by omega) (by omega)
theorem sl5Closure_any (v : Value) (l : List Int) (A : Nat) (w : World) (hr : Rd w w.heap.size .i64 v l) (hg : isGroup l = true) (hA : A < 16777216) :
    Calls Try.prog 71 #[.agg #[v], .int .i64 (A : Int)] w fun e w' => e = .returned (.int .i64 (genN l A : Nat)) ∧ Below w.heap.size w w' := by
  have hS := hid fun H (hH : H < 16777216) w hr => sl4Sum_any v l H A w hr hg hH hA
  have hF := hid fun H (hH : GenSub l A H) => GenSub.sum hg hA hH
  have hE := hid fun H (hH : GenSub l A H) => GenSub.done hg hA hH
  have h1 : Hid (GenSub l A 1) := GenSub.one hg
  obtain ⟨G, hG⟩ : ∃ G, G = genN l A := ⟨_, rfl⟩
  rw [← hG] at hE ⊢
  have hf1 := hid (hF.out 1 h1.out)
  obtain ⟨S1, hS1⟩ : ∃ S, S = sumN l 1 A := ⟨_, rfl⟩
  have hC1 := hid (hS.out 1 (by omega))
  rw [← hS1] at hC1
  have ho1 := or_int (A := 1) (B := S1) (by omega) (by rw [hS1]; exact sumN_lt hg _ _)
  obtain ⟨N1, hN1⟩ : ∃ N, N = 1 ||| S1 := ⟨_, rfl⟩
  rw [← hN1] at ho1
  have hS1b := hid (show S1 < 16777216 by rw [hS1]; exact sumN_lt hg _ _)
  have hlt := hid fun H => sumN_lt hg H A
  replace ho1 : bits .or .i64 1 (S1 : Int) = (N1 : Int) := ho1
  have hrel0 : Hid (N1 = 1 ||| sumN l 1 A) := hid (by rw [hN1, hS1])
  clear hG hS1 hN1 hA hg
  go_enter Try.func71, Try.ntmps71
  go_wp2_with fail
  refine (hC1.out _ ((hr.alloc (Nat.le_refl _) _).more (by go_size))).mono ?_
  rintro e w1 ⟨rfl, hb1⟩
  have D1 : Below w.heap.size w w1 := by refine Below.trans ?_ (hb1.mono ?_) <;> go_grown
  have hz1 : w.heap.size < w1.heap.size := by have := hb1.size; simp at this; omega
  obtain ⟨hc1, hf1⟩ := bcell hb1
  have c1 : w1.cell? ⟨w.heap.size, 0, none⟩ = some v := by rw [hc1 _ _ (by go_size)]; simp [go_sem]
  clear hc1 hb1
  go_wp2
  go_loopw [5, 6] (fun o n wr => ∃ H N : Nat, o = .int .i64 (H : Int) ∧ n = .int .i64 (N : Int) ∧ Hid (GenSub l A H) ∧ Hid (N = H ||| sumN l H A) ∧ Below w.heap.size w wr ∧ Below w1.heap.size w1 wr) (fun o _ _ => 16777216 - (intOf o).toNat)
  case atStart => exact ⟨1, N1, rfl, rfl, h1, hrel0, D1, Below.refl _ _⟩
  case round =>
    obtain ⟨H, N, rfl, rfl, hs, hN, hb, hbm⟩ := hrel
    have hz : w.heap.size < wr.heap.size := by have := hbm.size; omega
    have hc := (hbm.cell hz1).trans c1
    by_cases he : N = H
    · have hfin := hid (hE.out H hs.out (by rw [← hN.out]; exact he))
      subst he
      have e1 : ((N : Int) != (N : Int)) = false := by simp
      rw [hfin.out]
      clear hc
      go_wp2
      go_ret
      exact ⟨rfl, hb⟩
    · have e1 : ((N : Int) != (H : Int)) = true := by rw [bne_iff_ne]; omega
      have e2 : ((N : Int) == (H : Int)) = false := by rw [beq_eq_false_iff_ne]; omega
      have hge := or_ge H (sumN l H A)
      rw [← hN.out] at hge
      have hNs := hid (hF.out H hs.out)
      rw [← hN.out] at hNs
      have hNlt := hNs.out.1
      have hC := hid (hS.out N hNlt)
      obtain ⟨S, hSS⟩ : ∃ S, S = sumN l N A := ⟨_, rfl⟩
      rw [← hSS] at hC
      have hSlt : S < 16777216 := by rw [hSS]; exact hlt.out N
      have hor := or_int hNlt hSlt
      obtain ⟨N2, hN2⟩ : ∃ N', N' = N ||| S := ⟨_, rfl⟩
      rw [← hN2] at hor
      have hrel2 : Hid (N2 = N ||| sumN l N A) := hid (by rw [hN2, hSS])
      replace hSlt := hid hSlt
      replace hNlt' := hid hNlt
      have hlt2 : H < N := by omega
      clear hN2 hSS he
      go_wp2_with fail
      refine (hC.out _ ((hr.below hb).more (by go_size))).mono ?_
      rintro e w2 ⟨rfl, hb2⟩
      go_wp2
      go_roundw
      case rel => exact ⟨N, N2, rfl, rfl, hNs, hrel2, bgo hb hb2, bgo hbm hb2⟩
      case measure => simp [intOf]; omega
set_option maxRecDepth 100000 in
set_option maxHeartbeats 1600000 in
theorem igenerated_any (v : Value) (l : List Int) (A : Nat) (w : World) (hr : Rd w w.heap.size .i64 v l) (hg : isGroup l = true) (hA : A < 16777216) :
    Calls Try.prog 70 #[.agg #[v], .int .i64 (A : Int)] w fun e w' => e = .returned (.int .i64 (genN l A : Nat)) ∧ Below w.heap.size w w' := by
  have hneg := negN_lt hg A
  have hS := hid fun H (hH : H < 16777216) w hr => isum_any v l H A w hr hg hH hA
  have hS' := hid fun H (hH : H < 16777216) w hr => isum_any v l H (negN l A) w hr hg hH hneg
  have hO0 := fun w hr => iopposite_any v l A w hr hg hA
  change ∀ (w : World), Rd w w.heap.size .i64 v l → Calls Try.prog 58 #[.agg #[v], .int .i64 (A : Int)] w fun e w' => e = .returned (.int .i64 (negN l A : Nat)) ∧ Below w.heap.size w w' at hO0
  have hO := hid hO0
  have hF := hid fun H (hH : GenSub l A H) => GenSub.sums hg hA hH
  have hE := hid fun H (hH : GenSub l A H) => GenSub.dones hg hA hH
  have h1 : Hid (GenSub l A 1) := GenSub.one hg
  have hlt := hid fun H => sumN_lt hg H A
  have hlt' := hid fun H => sumN_lt hg H (negN l A)
  obtain ⟨G, hG⟩ : ∃ G, G = genN l A := ⟨_, rfl⟩
  rw [← hG] at hE ⊢
  obtain ⟨N, hN⟩ : ∃ N, N = negN l A := ⟨_, rfl⟩
  rw [← hN] at hS' hO hF hE hlt'
  clear hG hN hA hg hneg hO0
  go_enter Try.func70, Try.ntmps70
  go_wp2
  go_loopw [5] (fun o wr => ∃ H : Nat, o = .int .i64 (H : Int) ∧ Hid (GenSub l A H) ∧ Below w.heap.size w wr ∧ w.heap.size < wr.heap.size ∧ wr.cell? ⟨w.heap.size, 0, none⟩ = some v) (fun o _ => 16777216 - (intOf o).toNat)
  case atStart => exact ⟨1, rfl, h1, below_alloc _ _, by simp, by simp [go_sem]⟩
  case round =>
    obtain ⟨H, rfl, hs, hb, hz, hc⟩ := hrel
    have hHlt := hs.out.1
    have hC := hid (hS.out H hHlt)
    have hC' := hid (hS'.out H hHlt)
    have hnext := hid (hF.out H hs.out)
    have hend := hid (hE.out H hs.out)
    have hSlt := hlt.out H
    have hTlt := hlt'.out H
    obtain ⟨S, hSS⟩ : ∃ S, S = sumN l H A := ⟨_, rfl⟩
    rw [← hSS] at hC hSlt hnext hend
    obtain ⟨T, hTT⟩ : ∃ T, T = sumN l H N := ⟨_, rfl⟩
    rw [← hTT] at hC' hTlt hnext hend
    have hor1 := or_int hHlt hSlt
    have hUlt := or_lt24 hHlt hSlt
    have hor2 := or_int hUlt hTlt
    have hge : H ≤ H ||| S ||| T := Nat.le_trans (or_ge H S) (or_ge _ T)
    obtain ⟨U, hU⟩ : ∃ U, U = H ||| S := ⟨_, rfl⟩
    rw [← hU] at hor1 hor2 hge hnext hend hUlt
    obtain ⟨X, hX⟩ : ∃ X, X = U ||| T := ⟨_, rfl⟩
    rw [← hX] at hor2 hge hnext hend
    have hXlt := hnext.out.1
    have K : ∀ w', Below wr.heap.size wr w' → w'.cell? ⟨w.heap.size, 0, none⟩ = some v := fun w' h => (h.cell hz).trans hc
    replace hUlt := hid hUlt
    replace hSlt := hid hSlt
    replace hTlt := hid hTlt
    replace hHlt := hid hHlt
    replace hXlt := hid hXlt
    clear hSS hTT hU hX
    go_wp2_with fail
    go_region_held3 (fun w' => w'.cell? ⟨w.heap.size, 0, none⟩ = some v) (first | go_keep | exact K _ hb2 | exact K _ (bgo hb2 hb3) | exact K _ (bgo (bgo hb2 hb3) hb4)) (first | ((fail_if_success (have := hb2)); go_at_call 56; refine (hC.out _ ((hr.below (by go_grown)).more (by go_size))).mono ?_; rintro e w2 ⟨rfl, hb2⟩; replace hb2 : Below wr.heap.size wr w2 := (Below.refl wr.heap.size wr).drew.trans hb2) | (go_at_call 58; refine (hO.out _ ((hr.below (bgo hb hb2)).more (bgo hb hb2).size)).mono ?_; rintro e w3 ⟨rfl, hb3⟩) | (go_at_call 56; refine (hC'.out _ ((hr.below (bgo (bgo hb hb2) hb3)).more (bgo (bgo hb hb2) hb3).size)).mono ?_; rintro e w4 ⟨rfl, hb4⟩))

    have E4 := bgo (bgo hb2 hb3) hb4
    have D4 := bgo hb E4
    have c4 := K _ E4
    have hz4 : w.heap.size < w4.heap.size := by have := E4.size; omega
    clear K hor1 hor2
    by_cases he : X = H
    · have hfin := hid (hend.out he)
      subst he
      rw [hfin.out]
      have e1 : ((X : Int) == (X : Int)) = true := by simp
      go_wp2
      go_ret
      exact ⟨rfl, D4⟩
    · have e1 : ((X : Int) == (H : Int)) = false := by rw [beq_eq_false_iff_ne]; omega
      have hlt2 : H < X := by omega
      have hXl := hXlt.out
      clear he
      go_wp2
      go_roundw
      case rel => exact ⟨X, rfl, hnext, D4, hz4, c4⟩
      case measure => simp [intOf]; omega
end Go.Proofs.Ytknbfohmobjplaa
