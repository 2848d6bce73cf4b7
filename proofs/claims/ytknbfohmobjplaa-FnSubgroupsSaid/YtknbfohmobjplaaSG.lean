/- What the program's SumTable computes. Conditions: at most 2^20 orders. -/
import Derived.Test.YtknbfohmobjplaaSF
import Derived.Test.YtknbfohmobjplaaMKt
namespace Go.Proofs.Ytknbfohmobjplaa
set_option linter.unusedVariables false
set_option linter.unusedSimpArgs false
open Go.RowKit

def tabE (l : List Int) (a b : Int) : List Int := if isSet l a && isSet l b then tabN l a.toNat b.toNat else []
theorem tabE_no {l : List Int} {a b : Int} (h : (isSet l a && isSet l b) = false) : tabE l a b = [] := by unfold tabE; rw [h]; rfl
theorem tabE_yes {l : List Int} {A B : Nat} (h1 : isSet l (A : Int) = true) (h2 : isSet l (B : Int) = true) : tabE l A B = tabN l A B := by unfold tabE; rw [h1, h2]; rfl
theorem tabE_len (l : List Int) (a b : Int) : (tabE l a b).length ≤ 24 := by
  unfold tabE
  split
  · rename_i h
    have hg := isSet.group ((Bool.and_eq_true _ _).mp h).1
    have hp := isGroup.prod hg
    unfold tabN
    rw [tabTo_len]
    omega
  · simp
/-- one more count: the numbers of the walk -/
theorem tab_step {l : List Int} (hg : isGroup l = true) {t : List Int} (hlen : t.length = (prodL l).toNat) {c : Int} (hc : Cnt t c) (x y : Int) :
    ∃ (Z : Nat) (u : Int), gadd l x y = (Z : Int) ∧ ∃ hZ : Z < t.length, t[Z] = u ∧ 0 ≤ u ∧ u ≤ c ∧ bump t (gadd l x y).toNat = t.set Z (u + 1) := by
  have h1 := gadd_in hg x y
  have hp := isGroup.prod hg
  have hZ : (gadd l x y).toNat < t.length := by omega
  have h2 := hc _ (List.getElem_mem hZ)
  refine ⟨(gadd l x y).toNat, _, by omega, hZ, rfl, h2.1, h2.2, ?_⟩
  unfold bump
  rw [List.getD_eq_getElem?_getD, List.getElem?_eq_getElem hZ]
  rfl
theorem mul_le_576 {a b : Nat} (ha : a ≤ 24) (hb : b ≤ 24) : (a : Int) * b ≤ 576 := by
  have h := Nat.mul_le_mul ha hb
  rw [← Int.natCast_mul]
  omega
theorem tab_cnt {l N M : List Int} (hN : N.length ≤ 24) (hM : M.length ≤ 24) (x : Int) (k m : Nat) : Cnt (tabRow l x (N.take m) (tabTo l N (M.take k))) 600 ∧ (tabRow l x (N.take m) (tabTo l N (M.take k))).length = (prodL l).toNat := by
  refine ⟨(tabRow_cnt l x _ _ _ (tabTo_cnt l N (M.take k))).more ?_, by rw [tabRow_len, tabTo_len]⟩
  have h1 : (M.take k).length ≤ 24 := by rw [List.length_take]; omega
  have h2 : (N.take m).length ≤ 24 := by rw [List.length_take]; omega
  have h3 := mul_le_576 hN h1
  omega
theorem iSumTable_any (v : Value) (l : List Int) (a b : Int) (w : World) (hr : Rd w w.heap.size .i64 v l) (hn : l.length ≤ 1048576) (ha : -9223372036854775808 ≤ a ∧ a ≤ 9223372036854775807) (hb : -9223372036854775808 ≤ b ∧ b ≤ 9223372036854775807) :
    Calls Try.prog 67 #[.agg #[v], .int .i64 a, .int .i64 b] w fun e w' => ∃ ao cap, e = .returned (.slice ao (tabE l a b).length cap) ∧ Own w' w.heap.size 3 .i64 (.slice ao (tabE l a b).length cap) (tabE l a b) ∧ Below w.heap.size w w' := by
  cases hE : areS l [a, b]
  · rw [tabE_no (by rw [← areS2]; exact hE)]
    replace ha := hid ha
    replace hb := hid hb
    replace hE := hid hE
    go_enter Try.func67, Try.ntmps67
    go_wp2_with fail
    refine (iareSets_at hE.out (((hr.alloc (Nat.le_refl _) _).alloc (by go_size) _).more (by go_size)) (Rd.pair (by simp) _ _ _) hn ha.out hb.out).mono ?_
    rintro e w1 ⟨rfl, hb1⟩
    have D1 : Below w.heap.size w w1 := by refine Below.trans ?_ (hb1.mono ?_) <;> go_grown
    have hz1 : w.heap.size < w1.heap.size := by have := hb1.size; simp at this; omega
    obtain ⟨hc1, hf1⟩ := bcell hb1
    go_wp2
    go_ret
    exact ⟨_, _, rfl, Own.empty _ _ _ _ D1.size, D1.trans ((below_alloc _ _).mono D1.size)⟩
  · have h2 := areS2 l a b
    rw [hE] at h2
    have h3 := (Bool.and_eq_true _ _).mp h2.symm
    obtain ⟨A, rfl, hA⟩ := isSet.nat h3.1
    obtain ⟨B, rfl, hB⟩ := isSet.nat h3.2
    rw [tabE_yes h3.1 h3.2]
    have hg := hid (isSet.group h3.1)
    have hp := isGroup.prod hg.out
    have hM := fun w => imembers_any A hA w
    have hML := memL_len A
    have hMb := hid (fun x => @memL_bd A x)
    have hN := hid fun w => imembers_any B hB w
    have hNL := memL_len B
    have hNb := hid (fun x => @memL_bd B x)
    have hO := hid fun w h => iOrderOf_g v l w h hg.out
    have hTL : (tabTo l (memL B) (memL A)).length = (prodL l).toNat := tabTo_len _ _ _
    show Calls _ _ _ _ fun e w' => ∃ ao cap, e = .returned (.slice ao (tabTo l (memL B) (memL A)).length cap) ∧ Own w' w.heap.size 3 .i64 (.slice ao (tabTo l (memL B) (memL A)).length cap) (tabTo l (memL B) (memL A)) ∧ Below w.heap.size w w'
    rw [hTL]
    have hpn : prodL l = ((prodL l).toNat : Int) := by omega
    obtain ⟨n, hnn⟩ : ∃ n, n = (prodL l).toNat := ⟨_, rfl⟩
    rw [← hnn] at hTL hpn ⊢
    rw [hpn] at hO
    have hn24 : n ≤ 24 := by omega
    obtain ⟨M, hMM⟩ : ∃ M, M = memL A := ⟨_, rfl⟩
    rw [← hMM] at hM hML hMb hTL ⊢
    obtain ⟨N, hNN⟩ : ∃ N, N = memL B := ⟨_, rfl⟩
    rw [← hNN] at hN hNL hNb hTL ⊢
    have hmk := make_full (P := Try.prog) Try.underlying24 info_int (by decide) n (by omega)
    have hst0 : Hid (List.replicate n 0 = tabTo l N []) := hid (by rw [hnn]; rfl)
    replace ha := hid ha
    replace hb := hid hb
    replace hE := hid hE
    replace hnn := hid hnn
    clear hMM hA h2 h3 hNN hB hTL hpn hp
    go_enter Try.func67, Try.ntmps67
    go_wp2_with fail
    refine (iareSets_at hE.out (((hr.alloc (Nat.le_refl _) _).alloc (by go_size) _).more (by go_size)) (Rd.pair (by simp) _ _ _) hn ha.out hb.out).mono ?_
    rintro e w1 ⟨rfl, hb1⟩
    have D1 : Below w.heap.size w w1 := by refine Below.trans ?_ (hb1.mono ?_) <;> go_grown
    have hz1 : w.heap.size < w1.heap.size := by have := hb1.size; simp at this; omega
    obtain ⟨hc1, hf1⟩ := bcell hb1
    have c1 : w1.cell? ⟨w.heap.size, 0, none⟩ = some v := by rw [hc1 _ _ (by go_size)]; simp [go_sem]
    clear hc1 hf1 hb1
    go_wp2_with fail
    refine (hO.out _ ((hr.below D1).more (by go_size))).mono ?_
    rintro e w2 ⟨rfl, hb2⟩
    have D2 := bgo D1 hb2
    have hz2 : w.heap.size < w2.heap.size := by have := hb2.size; omega
    have c2 := (hb2.cell hz1).trans c1
    have hown0 := Own.made w2 w2.heap.size 3 .i64 n (by omega) (Nat.le_refl _)
    rw [hst0.out] at hown0
    clear hb2 c1
    go_wp2_with fail
    clear hmk
    refine (hM _).mono ?_
    rintro e w3 ⟨ao3, cap3, rfl, ho3, hb3⟩
    obtain ⟨g, hgg⟩ : ∃ g, g = w2.heap.size := ⟨_, rfl⟩
    have hgw : w.heap.size < g := by omega
    have D3 : Below w.heap.size w w3 := bgo D2 (bgo (below_alloc w2 _) hb3)
    have hg3 : g < w3.heap.size := by have := hb3.size; simp at this; omega
    have hz3 : w.heap.size < w3.heap.size := by omega
    have c3 : w3.cell? ⟨w.heap.size, 0, none⟩ = some v := by rw [hb3.cell (by go_size)]; simpa [go_sem, hz2] using c2
    have hown3 := hown0.below hb3
    have ho3' : Own w3 (g + 1) 3 .i64 (.slice ao3 M.length cap3) M := by rw [hgg]; simpa using ho3
    rw [← hgg] at hown3 ⊢
    clear hb3 ho3 hown0 c2 hgg
    go_wp2
    go_loopw [25] (fun i wr => ∃ k : Nat, k ≤ M.length ∧ i = .int .i64 k ∧ Own wr g 3 .i64 (.slice (some ⟨g, 0, none⟩) n n) (tabTo l N (M.take k)) ∧ Below w.heap.size w wr ∧ w3.grownBy wr (some g)) (fun i _ => M.length - (intOf i).toNat)
    case atStart => exact ⟨0, by omega, rfl, hown3, D3, World.grownBy.refl _ _⟩
    case round =>
      obtain ⟨k, hk, rfl, hown, hb, hgr⟩ := hrel
      have hzr := hgr.size
      have hc := (cell_far hgr ⟨w.heap.size, 0, none⟩ hz3 (by simp; omega)).trans c3
      by_cases hlt : k < M.length
      · obtain ⟨b1, rfl, hB1, hB1', hcell⟩ := ho3'.cells (by omega)
        have hcm := (cell_far hgr ⟨b1, k, none⟩ hB1' (by simp; omega)).trans (hcell k hlt)
        have hxb := hMb.out _ (List.getElem_mem hlt)
        have hs1 := tabTo_snoc l N (M.take k) M[k]
        rw [← take_succ_get M k hlt] at hs1
        have hcnt := hid fun m => tab_cnt (l := l) hNL hML M[k] k m
        obtain ⟨x, hx⟩ : ∃ x, x = M[k] := ⟨_, rfl⟩
        rw [← hx] at hcm hxb hs1 hcnt
        obtain ⟨T, hT⟩ : ∃ T, T = tabTo l N (M.take k) := ⟨_, rfl⟩
        rw [← hT] at hown hs1 hcnt
        replace hs1 := hid hs1
        clear hx hT hcell
        go_wp2_with fail
        refine (hN.out _).mono ?_
        rintro e w5 ⟨ao5, cap5, rfl, ho5, hb5⟩
        have D5 := bgo hb hb5
        have G5 := grown_trans hgr (below_grown hb5 _)
        have hz5 := hb5.size
        have hown5 := hown.below hb5
        have c5 := (hb5.cell (p := ⟨w.heap.size, 0, none⟩) (by simp; omega)).trans hc
        clear hb5 hown hc hcm
        go_wp2
        go_loopw [32] (fun j wq => ∃ m : Nat, m ≤ N.length ∧ j = .int .i64 m ∧ Own wq g 3 .i64 (.slice (some ⟨g, 0, none⟩) n n) (tabRow l x (N.take m) T) ∧ Below w.heap.size w wq ∧ w3.grownBy wq (some g) ∧ w5.grownBy wq (some g)) (fun j _ => N.length - (intOf j).toNat)
        case atStart => exact ⟨0, by omega, rfl, hown5, D5, G5, World.grownBy.refl _ _⟩
        case round =>
          obtain ⟨m, hm, rfl, hown', hb', hgr', hgq⟩ := hrel
          have hzq := hgq.size
          by_cases hlt2 : m < N.length
          · obtain ⟨b2, rfl, hB2, hB2', hcell2⟩ := ho5.cells (by omega)
            have hcn := (cell_far hgq ⟨b2, m, none⟩ hB2' (by simp; omega)).trans (hcell2 m hlt2)
            have hcq := (cell_far hgq ⟨w.heap.size, 0, none⟩ (by simp; omega) (by simp; omega)).trans c5
            have hyb := hNb.out _ (List.getElem_mem hlt2)
            have hrs := tabRow_snoc l x (N.take m) T N[m]
            rw [← take_succ_get N m hlt2] at hrs
            obtain ⟨hc1, hc2⟩ := hcnt.out m
            obtain ⟨y, hy⟩ : ∃ y, y = N[m] := ⟨_, rfl⟩
            rw [← hy] at hcn hyb hrs
            obtain ⟨Z, u, hZ, hZl, hZu, hu0, hu1, hbump⟩ := tab_step hg.out hc2 hc1 x y
            rw [hbump] at hrs
            have hzz : w.heap.size < wr.heap.size := by omega
            have hnz : Z < n := by have := hnn.out; omega
            have hA := hid fun w hr => iadd_any v l x y w hr hg.out (by omega) (by omega)
            rw [hZ] at hA
            replace hrs := hid hrs
            replace hbump := hid hbump
            replace hc1 := hid hc1
            replace hc2 := hid hc2
            clear hy hcell2 hbump hc1 hc2 hZ
            go_wp2_with fail
            refine (hA.out _ ((hr.below hb').more (by go_size))).mono ?_
            rintro e w6 ⟨rfl, hb6⟩
            have hown6 := hown'.below hb6
            have hcz := hown6.cell Z hZl
            rw [hZu] at hcz
            have hfz := hown6.frozen Z
            have hst := hown6.store Z (u + 1)
            rw [← hrs.out] at hst
            have E6 : Below w.heap.size w w6 := bgo hb' hb6
            have G6 := grown_trans hgr' (below_grown hb6 _)
            have Q6 := grown_trans hgq (below_grown hb6 _)
            clear hown6 hb6 hZu
            go_wp2
            go_roundw
            case rel => exact ⟨m + 1, by omega, by go_num, hst, E6.setCell (Nat.le_of_lt hgw) _, grown_trans G6 grown_set, grown_trans Q6 grown_set⟩
            case measure => simp [intOf]; omega
          · have e : N.take m = N := List.take_of_length_le (by omega)
            rw [e, ← hs1.out] at hown'
            go_wp2
            go_roundw
            case rel => exact ⟨k + 1, by omega, by go_num, hown', hb', hgr'⟩
            case measure => simp [intOf]; omega
      · have e : M.take k = M := List.take_of_length_le (by omega)
        rw [e] at hown
        go_wp2
        go_ret
        exact ⟨_, _, rfl, hown.lower (by omega), hb⟩
end Go.Proofs.Ytknbfohmobjplaa
