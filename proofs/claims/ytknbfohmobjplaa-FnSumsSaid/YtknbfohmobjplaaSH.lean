/- What the reference's SumTable computes. Conditions: at most 2^20 orders. -/
import Derived.Test.YtknbfohmobjplaaSG
namespace Go.Proofs.Ytknbfohmobjplaa
set_option linter.unusedVariables false
set_option linter.unusedSimpArgs false
open Go.RowKit

theorem sl2Order_g (v : Value) (l : List Int) (w : World) (hr : Rd w w.heap.size .i64 v l) (hg : isGroup l = true) :
    Calls Try.prog 77 #[.agg #[v]] w fun e w' => e = .returned (.int .i64 (prodL l)) ∧ Below w.heap.size w w' := sl2Order_any v l w hr hg
theorem sSumTable_any (v : Value) (l : List Int) (a b : Int) (w : World) (hr : Rd w w.heap.size .i64 v l) (hn : l.length ≤ 1048576) (ha : -9223372036854775808 ≤ a ∧ a ≤ 9223372036854775807) (hb : -9223372036854775808 ≤ b ∧ b ≤ 9223372036854775807) :
    Calls Try.prog 68 #[.agg #[v], .int .i64 a, .int .i64 b] w fun e w' => ∃ ao cap, e = .returned (.slice ao (tabE l a b).length cap) ∧ Own w' w.heap.size 3 .i64 (.slice ao (tabE l a b).length cap) (tabE l a b) ∧ Below w.heap.size w w' := by
  cases hE : isSet l a
  · rw [tabE_no (by rw [hE]; rfl)]
    replace ha := hid ha
    replace hE := hid hE
    go_enter Try.func68, Try.ntmps68
    go_wp2_with fail
    refine (sIsSet_at hE.out ((hr.alloc (Nat.le_refl _) _).more (by go_size)) hn ha.out).mono ?_
    rintro e w1 ⟨rfl, hb1⟩
    have D1 : Below w.heap.size w w1 := by refine Below.trans ?_ (hb1.mono ?_) <;> go_grown
    have hz1 : w.heap.size < w1.heap.size := by have := hb1.size; simp at this; omega
    obtain ⟨hc1, hf1⟩ := bcell hb1
    go_wp2
    go_ret
    exact ⟨_, _, rfl, Own.empty _ _ _ _ D1.size, D1.trans ((below_alloc _ _).mono D1.size)⟩
  · cases hF : isSet l b
    · rw [tabE_no (by rw [hE, hF]; rfl)]
      replace ha := hid ha
      replace hb := hid hb
      replace hE := hid hE
      replace hF := hid hF
      go_enter Try.func68, Try.ntmps68
      go_wp2_with fail
      refine (sIsSet_at hE.out ((hr.alloc (Nat.le_refl _) _).more (by go_size)) hn ha.out).mono ?_
      rintro e w1 ⟨rfl, hb1⟩
      have D1 : Below w.heap.size w w1 := by refine Below.trans ?_ (hb1.mono ?_) <;> go_grown
      have hz1 : w.heap.size < w1.heap.size := by have := hb1.size; simp at this; omega
      obtain ⟨hc1, hf1⟩ := bcell hb1
      go_wp2_with fail
      refine (sIsSet_at hF.out ((hr.below D1).more (by go_size)) hn hb.out).mono ?_
      rintro e w2 ⟨rfl, hb2⟩
      have D2 := bgo D1 hb2
      have hz2 : w.heap.size < w2.heap.size := by have := hb2.size; omega
      obtain ⟨hc2, hf2⟩ := bcell hb2
      go_wp2
      go_ret
      exact ⟨_, _, rfl, Own.empty _ _ _ _ D2.size, D2.trans ((below_alloc _ _).mono D2.size)⟩
    · obtain ⟨A, rfl, hA⟩ := isSet.nat hE
      obtain ⟨B, rfl, hB⟩ := isSet.nat hF
      rw [tabE_yes hE hF]
      have hg := hid (isSet.group hE)
      have hp := isGroup.prod hg.out
      have hM := fun w => sl3List_any A hA w
      have hML := memL_len A
      have hMb := hid (fun x => @memL_bd A x)
      have hN := fun w => sl3List_any B hB w
      have hNL := memL_len B
      have hNb := hid (fun x => @memL_bd B x)
      have hO := hid fun w h => sl2Order_g v l w h hg.out
      have hTL : (tabTo l (memL B) (memL A)).length = (prodL l).toNat := tabTo_len _ _ _
      show Calls _ _ _ _ fun e w' => ∃ ao cap, e = .returned (.slice ao (tabTo l (memL B) (memL A)).length cap) ∧ Own w' w.heap.size 3 .i64 (.slice ao (tabTo l (memL B) (memL A)).length cap) (tabTo l (memL B) (memL A)) ∧ Below w.heap.size w w'
      rw [hTL]
      have hpn : prodL l = ((prodL l).toNat : Int) := by omega
      obtain ⟨n, hnn⟩ : ∃ n, n = (prodL l).toNat := ⟨_, rfl⟩
      rw [← hnn] at hTL hpn ⊢
      rw [hpn] at hO
      have hn24 : n ≤ 24 := by omega
      obtain ⟨M, hMM⟩ : ∃ M, M = memL A := ⟨_, rfl⟩
      rw [← hMM] at hM hML hMb hTL ⊢
      obtain ⟨N, hNN⟩ : ∃ N, N = memL B := ⟨_, rfl⟩
      rw [← hNN] at hN hNL hNb hTL ⊢
      have hmk := make_full (P := Try.prog) Try.underlying24 info_int (by decide) n (by omega)
      have hst0 : Hid (List.replicate n 0 = tabTo l N []) := hid (by rw [hnn]; rfl)
      replace ha := hid ha
      replace hb := hid hb
      replace hE := hid hE
      replace hF := hid hF
      replace hnn := hid hnn
      clear hMM hA hNN hB hTL hpn hp
      go_enter Try.func68, Try.ntmps68
      go_wp2_with fail
      refine (sIsSet_at hE.out ((hr.alloc (Nat.le_refl _) _).more (by go_size)) hn ha.out).mono ?_
      rintro e w1 ⟨rfl, hb1⟩
      have D1 : Below w.heap.size w w1 := by refine Below.trans ?_ (hb1.mono ?_) <;> go_grown
      have hz1 : w.heap.size < w1.heap.size := by have := hb1.size; simp at this; omega
      obtain ⟨hc1, hf1⟩ := bcell hb1
      go_wp2_with fail
      refine (sIsSet_at hF.out ((hr.below D1).more (by go_size)) hn hb.out).mono ?_
      rintro e w2 ⟨rfl, hb2⟩
      have D2 := bgo D1 hb2
      have hz2 : w.heap.size < w2.heap.size := by have := hb2.size; omega
      obtain ⟨hc2, hf2⟩ := bcell hb2
      have c2 : w2.cell? ⟨w.heap.size, 0, none⟩ = some v := by rw [hc2 _ _ hz1, hc1 _ _ (by go_size)]; simp [go_sem]
      clear hc1 hf1 hb1 hc2 hf2 hb2
      go_wp2_with fail
      refine (hO.out _ ((hr.below D2).more (by go_size))).mono ?_
      rintro e w3 ⟨rfl, hb3⟩
      have D3 := bgo D2 hb3
      have hz3 : w.heap.size < w3.heap.size := by have := hb3.size; omega
      have c3 := (hb3.cell hz2).trans c2
      have hown0 := Own.made w3 w3.heap.size 3 .i64 n (by omega) (Nat.le_refl _)
      rw [hst0.out] at hown0
      clear hb3 c2
      go_wp2_with fail
      clear hmk
      refine (hM _).mono ?_
      rintro e w4 ⟨ao4, cap4, rfl, ho4, hb4⟩
      obtain ⟨g, hgg⟩ : ∃ g, g = w3.heap.size := ⟨_, rfl⟩
      have hgw : w.heap.size < g := by omega
      have D4 : Below w.heap.size w w4 := bgo D3 (bgo (below_alloc w3 _) hb4)
      have hg4 : g < w4.heap.size := by have := hb4.size; simp at this; omega
      have hz4 : w.heap.size < w4.heap.size := by omega
      have c4 : w4.cell? ⟨w.heap.size, 0, none⟩ = some v := by rw [hb4.cell (by go_size)]; simpa [go_sem, hz3] using c3
      have hown4 := hown0.below hb4
      have ho4' : Own w4 (g + 1) 3 .i64 (.slice ao4 M.length cap4) M := by rw [hgg]; simpa using ho4
      rw [← hgg] at hown4 ⊢
      clear hb4 ho4 hown0 c3 hgg
      go_wp2_with fail
      refine (hN _).mono ?_
      rintro e w5 ⟨ao5, cap5, rfl, ho5, hb5⟩
      have D5 := bgo D4 hb5
      have hg5 : g < w5.heap.size := by have := hb5.size; omega
      have hz5 : w.heap.size < w5.heap.size := by omega
      have c5 := (hb5.cell hz4).trans c4
      have hown5 := hown4.below hb5
      have ho4 := ho4'.below hb5
      have ho5' : Own w5 (g + 1) 3 .i64 (.slice ao5 N.length cap5) N := ho5.lower (by omega)
      clear hb5 ho4' ho5 hown4 c4
      go_wp2
      go_loopw [10] (fun i wr => ∃ k : Nat, k ≤ M.length ∧ i = .int .i64 k ∧ Own wr g 3 .i64 (.slice (some ⟨g, 0, none⟩) n n) (tabTo l N (M.take k)) ∧ Below w.heap.size w wr ∧ w5.grownBy wr (some g)) (fun i _ => M.length - (intOf i).toNat)
      case atStart => exact ⟨0, by omega, rfl, hown5, D5, World.grownBy.refl _ _⟩
      case round =>
        obtain ⟨k, hk, rfl, hown, hb, hgr⟩ := hrel
        by_cases hlt : k < M.length
        · obtain ⟨b1, rfl, hB1, hB1', hcell⟩ := ho4.cells (by omega)
          have hcm := hcell k hlt
          have hxb := hMb.out _ (List.getElem_mem hlt)
          have hs1 := tabTo_snoc l N (M.take k) M[k]
          rw [← take_succ_get M k hlt] at hs1
          have hcnt := hid fun m => tab_cnt (l := l) hNL hML M[k] k m
          obtain ⟨x, hx⟩ : ∃ x, x = M[k] := ⟨_, rfl⟩
          rw [← hx] at hcm hxb hs1 hcnt
          obtain ⟨T, hT⟩ : ∃ T, T = tabTo l N (M.take k) := ⟨_, rfl⟩
          rw [← hT] at hown hs1 hcnt
          replace hs1 := hid hs1
          clear hx hT hcell
          go_wp2
          go_loopw [11] (fun j wq => ∃ m : Nat, m ≤ N.length ∧ j = .int .i64 m ∧ Own wq g 3 .i64 (.slice (some ⟨g, 0, none⟩) n n) (tabRow l x (N.take m) T) ∧ Below w.heap.size w wq ∧ w5.grownBy wq (some g)) (fun j _ => N.length - (intOf j).toNat)
          case atStart => exact ⟨0, by omega, rfl, hown, hb, hgr⟩
          case round =>
            obtain ⟨m, hm, rfl, hown', hb', hgr'⟩ := hrel
            have hzq := hgr'.size
            by_cases hlt2 : m < N.length
            · obtain ⟨b2, rfl, hB2, hB2', hcell2⟩ := ho5'.cells (by omega)
              have hcn := (cell_far hgr' ⟨b2, m, none⟩ hB2' (by simp; omega)).trans (hcell2 m hlt2)
              have hcm' := (cell_far hgr' ⟨b1, k, none⟩ hB1' (by simp; omega)).trans hcm
              have hcq := (cell_far hgr' ⟨w.heap.size, 0, none⟩ hz5 (by simp; omega)).trans c5
              have hyb := hNb.out _ (List.getElem_mem hlt2)
              have hrs := tabRow_snoc l x (N.take m) T N[m]
              rw [← take_succ_get N m hlt2] at hrs
              obtain ⟨hc1, hc2⟩ := hcnt.out m
              obtain ⟨y, hy⟩ : ∃ y, y = N[m] := ⟨_, rfl⟩
              rw [← hy] at hcn hyb hrs
              obtain ⟨Z, u, hZ, hZl, hZu, hu0, hu1, hbump⟩ := tab_step hg.out hc2 hc1 x y
              rw [hbump] at hrs
              have hzz : w.heap.size < wr.heap.size := by omega
              have hBr1 : b1 < wr.heap.size := by omega
              have hBr2 : b2 < wr.heap.size := by omega
              have hnz : Z < n := by have := hnn.out; omega
              have hA := hid fun w hr => sl2Add_any v l x y w hr hg.out (by omega) (by omega)
              rw [hZ] at hA
              replace hrs := hid hrs
              clear hy hcell2 hbump hc1 hc2 hZ
              go_wp2_with fail
              go_region_held3 (fun w' => w'.cell? ⟨w.heap.size, 0, none⟩ = some v ∧ w'.cell? ⟨b1, k, none⟩ = some (.int .i64 x) ∧ w'.cell? ⟨b2, m, none⟩ = some (.int .i64 y)) (first | go_keep | exact ⟨(hb6.cell hzz).trans hcq, (hb6.cell (p := ⟨b1, k, none⟩) hBr1).trans hcm', (hb6.cell (p := ⟨b2, m, none⟩) hBr2).trans hcn⟩) ((go_at_call 54; refine (hA.out _ ((hr.below (by go_grown)).more (by go_size))).mono ?_; rintro e w6 ⟨rfl, hb6⟩; replace hb6 : Below wr.heap.size wr w6 := (Below.refl wr.heap.size wr).drew.trans hb6))
              have hown6 := hown'.below hb6
              have hcz := hown6.cell Z hZl
              rw [hZu] at hcz
              have hfz := hown6.frozen Z
              have hst := hown6.store Z (u + 1)
              rw [← hrs.out] at hst
              have E6 : Below w.heap.size w w6 := bgo hb' hb6
              have G6 := grown_trans hgr' (below_grown hb6 _)
              clear hown6 hb6 hZu
              go_wp2
              go_roundw
              case rel => exact ⟨m + 1, by omega, by go_num, hst, E6.setCell (Nat.le_of_lt hgw) _, grown_trans G6 grown_set⟩
              case measure => simp [intOf]; omega
            · have e : N.take m = N := List.take_of_length_le (by omega)
              rw [e, ← hs1.out] at hown'
              go_wp2
              go_roundw
              case rel => exact ⟨k + 1, by omega, by go_num, hown', hb', hgr'⟩
              case measure => simp [intOf]; omega
        · have e : M.take k = M := List.take_of_length_le (by omega)
          rw [e] at hown
          go_wp2
          go_ret
          exact ⟨_, _, rfl, hown.lower (by omega), hb⟩
end Go.Proofs.Ytknbfohmobjplaa
