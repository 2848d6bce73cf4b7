/- What the reference's RestrictedSum computes. Conditions: at most 2^20 orders. -/
import Derived.Test.YtknbfohmobjplaaSE
namespace Go.Proofs.Ytknbfohmobjplaa
set_option linter.unusedVariables false
set_option linter.unusedSimpArgs false
open Go.RowKit

theorem res_step {l N : List Int} (hg : isGroup l = true) {x : Int} {o : Nat} (ho : o < 16777216) {k : Nat} (hk : k < N.length) :
    ∃ (A B : Nat), A = resRow l x (N.take k) o ∧ A < 16777216 ∧ B = resRow l x (N.take (k + 1)) o ∧ B < 16777216 ∧ (x = N[k] → A = B) ∧
      (x ≠ N[k] → ∃ K T : Nat, gadd l x N[k] = (K : Int) ∧ K < 24 ∧ (2 : Int) ^ K = (T : Int) ∧ T ≤ 8388608 ∧ bits .or .i64 (A : Int) (T : Int) = (B : Int)) := by
  have hA := resRow_lt hg (x := x) (N.take k) ho
  have hB := resRow_lt hg (x := x) (N.take (k + 1)) ho
  have hs := resRow_snoc l x (N.take k) o N[k]
  rw [← take_succ_get N k hk] at hs
  refine ⟨_, _, rfl, hA, rfl, hB, fun h => ?_, fun h => ?_⟩
  · rw [hs, if_pos h]
  · have h1 := gadd_in hg x N[k]
    have h2 := isGroup.prod hg
    have h3 := Nat.pow_le_pow_right (show 0 < 2 by omega) (show (gadd l x N[k]).toNat ≤ 23 by omega)
    have h4 : 2 ^ 23 = 8388608 := rfl
    refine ⟨(gadd l x N[k]).toNat, 2 ^ (gadd l x N[k]).toNat, by omega, by omega, (Int.natCast_pow 2 _).symm, by omega, ?_⟩
    rw [or64 _ _ (by omega) (by omega), hs, if_neg h]
theorem sRestrictedSum_any (v : Value) (l : List Int) (a b : Int) (w : World) (hr : Rd w w.heap.size .i64 v l) (hn : l.length ≤ 1048576) (ha : -9223372036854775808 ≤ a ∧ a ≤ 9223372036854775807) (hb : -9223372036854775808 ≤ b ∧ b ≤ 9223372036854775807) :
    Calls Try.prog 10 #[.agg #[v], .int .i64 a, .int .i64 b] w fun e w' => e = .returned (.int .i64 (two resN l a b)) ∧ Below w.heap.size w w' := by
  cases hE : isSet l a
  · rw [two_no (by rw [hE]; rfl)]
    replace ha := hid ha
    replace hE := hid hE
    go_enter Try.func10, Try.ntmps10
    go_wp2_with fail
    refine (sIsSet_at hE.out ((hr.alloc (Nat.le_refl _) _).more (by go_size)) hn ha.out).mono ?_
    rintro e w1 ⟨rfl, hb1⟩
    have D1 : Below w.heap.size w w1 := by refine Below.trans ?_ (hb1.mono ?_) <;> go_grown
    have hz1 : w.heap.size < w1.heap.size := by have := hb1.size; simp at this; omega
    obtain ⟨hc1, hf1⟩ := bcell hb1
    go_wp2
    go_ret
    exact ⟨rfl, D1⟩
  · cases hF : isSet l b
    · rw [two_no (by rw [hE, hF]; rfl)]
      replace ha := hid ha
      replace hb := hid hb
      replace hE := hid hE
      replace hF := hid hF
      go_enter Try.func10, Try.ntmps10
      go_wp2_with fail
      refine (sIsSet_at hE.out ((hr.alloc (Nat.le_refl _) _).more (by go_size)) hn ha.out).mono ?_
      rintro e w1 ⟨rfl, hb1⟩
      have D1 : Below w.heap.size w w1 := by refine Below.trans ?_ (hb1.mono ?_) <;> go_grown
      have hz1 : w.heap.size < w1.heap.size := by have := hb1.size; simp at this; omega
      obtain ⟨hc1, hf1⟩ := bcell hb1
      go_wp2_with fail
      refine (sIsSet_at hF.out ((hr.below D1).more (by go_size)) hn hb.out).mono ?_
      rintro e w2 ⟨rfl, hb2⟩
      have D2 := bgo D1 hb2
      have hz2 : w.heap.size < w2.heap.size := by have := hb2.size; omega
      obtain ⟨hc2, hf2⟩ := bcell hb2
      go_wp2
      go_ret
      exact ⟨rfl, D2⟩
    · obtain ⟨A, rfl, hA⟩ := isSet.nat hE
      obtain ⟨B, rfl, hB⟩ := isSet.nat hF
      rw [two_yes hE hF]
      have hg := hid (isSet.group hE)
      have hM := fun w => sl3List_any A hA w
      have hML := memL_len A
      have hMb := hid (fun x => @memL_bd A x)
      have hN := fun w => sl3List_any B hB w
      have hNL := memL_len B
      have hNb := hid (fun x => @memL_bd B x)
      show Calls _ _ _ _ fun e w' => e = .returned (.int .i64 (orU (fun x => shN l (remN B x.toNat) x) (memL A) : Nat)) ∧ Below w.heap.size w w'
      have hFl := hid (fun x (_ : x ∈ memL A) => shN_lt hg.out (remN B x.toNat) x)
      obtain ⟨F, hFF⟩ : ∃ F : Int → Nat, F = fun x => shN l (remN B x.toNat) x := ⟨_, rfl⟩
      have hrow : Hid (∀ x o, 0 ≤ x → resRow l x (memL B) o = o ||| F x) := hid (by intro x o hx; rw [hFF]; exact resRow_all hg.out hB hx o)
      have hF2 : Hid (∀ x ∈ memL A, F x < 16777216) := by rw [hFF]; exact hFl
      rw [← hFF]
      obtain ⟨M, hMM⟩ : ∃ M, M = memL A := ⟨_, rfl⟩
      rw [← hMM] at hM hML hMb hF2 ⊢
      obtain ⟨N, hNN⟩ : ∃ N, N = memL B := ⟨_, rfl⟩
      rw [← hNN] at hN hNL hNb hrow
      replace ha := hid ha
      replace hb := hid hb
      replace hE := hid hE
      replace hF := hid hF
      clear hMM hA hFl hFF hNN hB
      go_enter Try.func10, Try.ntmps10
      go_wp2_with fail
      refine (sIsSet_at hE.out ((hr.alloc (Nat.le_refl _) _).more (by go_size)) hn ha.out).mono ?_
      rintro e w1 ⟨rfl, hb1⟩
      have D1 : Below w.heap.size w w1 := by refine Below.trans ?_ (hb1.mono ?_) <;> go_grown
      have hz1 : w.heap.size < w1.heap.size := by have := hb1.size; simp at this; omega
      obtain ⟨hc1, hf1⟩ := bcell hb1
      go_wp2_with fail
      refine (sIsSet_at hF.out ((hr.below D1).more (by go_size)) hn hb.out).mono ?_
      rintro e w2 ⟨rfl, hb2⟩
      have D2 := bgo D1 hb2
      have hz2 : w.heap.size < w2.heap.size := by have := hb2.size; omega
      obtain ⟨hc2, hf2⟩ := bcell hb2
      have c2 : w2.cell? ⟨w.heap.size, 0, none⟩ = some v := by rw [hc2 _ _ hz1, hc1 _ _ (by go_size)]; simp [go_sem]
      clear hc1 hc2 hf1 hf2 hb1 hb2
      go_wp2_with fail
      refine (hM _).mono ?_
      rintro e w3 ⟨ao3, cap3, rfl, ho3, hb3⟩
      have D3 := bgo D2 hb3
      have hz3 : w.heap.size < w3.heap.size := by have := hb3.size; omega
      have c3 := (hb3.cell hz2).trans c2
      go_wp2_with fail
      refine (hN _).mono ?_
      rintro e w4 ⟨ao4, cap4, rfl, ho4, hb4⟩
      have D4 := bgo D3 hb4
      have hz4 : w.heap.size < w4.heap.size := by have := hb4.size; omega
      have c4 := (hb4.cell hz3).trans c3
      have hrM := ((Rd.of_own ho3).below hb4).more hb4.size
      have hrN := Rd.of_own ho4
      clear hb3 ho3 c2 c3 hb4 ho4
      go_wp2
      go_loopw [7, 10] (fun o i wr => ∃ k : Nat, k ≤ M.length ∧ i = .int .i64 k ∧ o = .int .i64 (orU F (M.take k) : Nat) ∧ Below w.heap.size w wr ∧ Below w4.heap.size w4 wr) (fun _ i _ => M.length - (intOf i).toNat)
      case atStart => exact ⟨0, by omega, rfl, rfl, D4, Below.refl _ _⟩
      case round =>
        obtain ⟨k, hk, rfl, rfl, hb, hbm⟩ := hrel
        by_cases hlt : k < M.length
        · obtain ⟨b1, off1, rfl, hB1, hcell⟩ := hrM.cells (by omega)
          have hcm := hcell k hlt
          have hxb := hMb.out _ (List.getElem_mem hlt)
          obtain ⟨S, A1, C1, hS, hS2, hA1, hA2, hC1, hC2, hor⟩ := orU_round hlt hF2.out
          have hrow1 := hrow.out M[k] A1 hxb.1
          rw [← hS] at hrow1
          have hjoin : A1 ||| S = C1 := by
            have := or64 A1 S (by omega) (by omega)
            rw [hor] at this
            omega
          rw [hjoin] at hrow1
          rw [← hA1]
          obtain ⟨x, hx⟩ : ∃ x, x = M[k] := ⟨_, rfl⟩
          rw [← hx] at hcm hxb hrow1
          replace hS2 := hid hS2
          replace hA2 := hid hA2
          replace hC2 := hid hC2
          replace hC1 := hid hC1
          replace hrow1 := hid hrow1
          clear hx hA1 hcell hor hjoin hS
          go_wp2
          go_loopw [7, 11] (fun o j wq => ∃ m : Nat, m ≤ N.length ∧ j = .int .i64 m ∧ o = .int .i64 (resRow l x (N.take m) A1 : Nat) ∧ Below w.heap.size w wq ∧ Below w4.heap.size w4 wq) (fun _ j _ => N.length - (intOf j).toNat)
          case atStart => exact ⟨0, by omega, rfl, rfl, hb.trans (by go_grown), hbm.trans (by go_grown)⟩
          case round =>
            obtain ⟨m, hm, rfl, rfl, hb', hbm'⟩ := hrel
            by_cases hlt2 : m < N.length
            · obtain ⟨b2, off2, rfl, hB2, hcell2⟩ := hrN.cells (by omega)
              have hcn := (hbm'.cell (p := ⟨b2, off2 + m, none⟩) hB2).trans (hcell2 m hlt2)
              have hcm' := (hbm'.cell (p := ⟨b1, off1 + k, none⟩) hB1).trans hcm
              have hc := (hbm'.cell hz4).trans c4
              have hyb := hNb.out _ (List.getElem_mem hlt2)
              obtain ⟨P, Q, hP, hP2, hQ, hQ2, heq, hne⟩ := res_step (x := x) hg.out hA2.out hlt2
              rw [← hP]
              obtain ⟨y, hy⟩ : ∃ y, y = N[m] := ⟨_, rfl⟩
              rw [← hy] at hcn hyb heq hne
              have hz : w.heap.size < wr.heap.size := by have := hbm'.size; omega
              have hBr1 : b1 < wr.heap.size := Nat.lt_of_lt_of_le hB1 hbm'.size
              have hBr2 : b2 < wr.heap.size := Nat.lt_of_lt_of_le hB2 hbm'.size
              replace hP2 := hid hP2
              replace hQ2 := hid hQ2
              replace hQ := hid hQ
              by_cases hxy : x = y
              · have hPQ := hid (heq hxy)
                have e1 : (x == y) = true := by rw [beq_iff_eq]; exact hxy
                have e2 : (x != y) = false := by simp [hxy]
                clear hy hP hcell2 hne heq hxy
                go_wp2
                go_quiet (fail)
                go_wp2
                go_roundw
                case rel => exact ⟨m + 1, by omega, by go_num, by rw [hPQ.out, hQ.out], hb'.trans (below_drewN _ _ _), hbm'.trans (below_drewN _ _ _)⟩
                case measure => simp [intOf]; omega
              · obtain ⟨K, T, hK, hK24, hT, hT2, hor⟩ := hne hxy
                have e1 : (x == y) = false := by rw [beq_eq_false_iff_ne]; exact hxy
                have e2 : (x != y) = true := by rw [bne_iff_ne]; exact hxy
                have hwT : IntKind.i64.wrap (T : Int) = T := IntWalk.i64_in _ (by omega)
                clear hy hP hcell2 heq hxy
                go_wp2
                go_quiet (fail)
                go_wp2_with fail
                go_region_held3 (fun w' => w'.cell? ⟨w.heap.size, 0, none⟩ = some v ∧ w'.cell? ⟨b1, off1 + k, none⟩ = some (.int .i64 x) ∧ w'.cell? ⟨b2, off2 + m, none⟩ = some (.int .i64 y)) (first | go_keep | exact ⟨(hb5.cell hz).trans hc, (hb5.cell (p := ⟨b1, off1 + k, none⟩) hBr1).trans hcm', (hb5.cell (p := ⟨b2, off2 + m, none⟩) hBr2).trans hcn⟩) ((go_at_call 54; refine (sl2Add_any _ l x y _ ((hr.below (hb'.trans (below_drewN _ _ _))).more hb'.size) hg.out (by omega) (by omega)).mono ?_; rintro e w5 ⟨rfl, hb5⟩; rw [hK]; replace hb5 : Below wr.heap.size wr w5 := (below_drewN _ _ _).trans hb5))
                go_wp2
                go_roundw
                case rel => exact ⟨m + 1, by omega, by go_num, by rw [← hQ.out, ← hor], bgo hb' hb5, bgo hbm' hb5⟩
                case measure => simp [intOf]; omega
            · have e : N.take m = N := List.take_of_length_le (by omega)
              rw [e, hrow1.out]
              go_wp2
              go_roundw
              case rel => exact ⟨k + 1, by omega, by go_num, by rw [← hC1.out], hb', hbm'⟩
              case measure => simp [intOf]; omega
        · have e : M.take k = M := List.take_of_length_le (by omega)
          rw [e]
          go_wp2
          go_ret
          exact ⟨rfl, hb⟩
end Go.Proofs.Ytknbfohmobjplaa
