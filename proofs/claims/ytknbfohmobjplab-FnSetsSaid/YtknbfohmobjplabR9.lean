/- The draw of any group, right or not. Conditions: codes of at most 2^40 bytes. -/
import Derived.Test.YtknbfohmobjplabR6
import Derived.Test.YtknbfohmobjplabR8
namespace Go.Proofs.Ytknbfohmobjplab
set_option linter.unusedVariables false
set_option linter.unusedSimpArgs false
open Go.RowKit

def oddG : List Int := [0, 1, -1, 25, 9223372036854775807]
set_option maxRecDepth 100000 in
set_option maxHeartbeats 1600000 in
theorem sl2Any_any (c B : Nat) (v : Value) (l : List Int) (w : World) (hc : Cur w c B v l) (hl : l.length ≤ 1099511627776) (hB : IsB l) :
    Calls Try.prog 81 #[.pointer (some ⟨c, 0, none⟩)] w fun e w' => GOut c w.heap.size e w' ∧ Cur w' c B v l ∧ w.grownBy w' (some c) := by
  have hY := hid fun n h0 hn w hc => sl1Below_any c B v l n w hc hl hB h0 hn
  have hP := hid fun L d w hc => sl1PickInt_any c B v l L d w hc hl hB
  have hD := hid fun w hc => sl2Draw_any c B v l 24 w hc hl hB
  replace hB := hid hB
  have hcw := hc.lt
  go_enter Try.func81, Try.ntmps81
  go_wp2_with fail
  refine (hD.out _ (hc.below (below_alloc _ _))).mono ?_
  rintro e w1 ⟨⟨u, g, rfl, hgd, hgl, hfr⟩, hc1, hg1⟩
  have G1 := grown_trans (below_grown (below_alloc w (.cells #[.slice none 0 0] 26)) (some c)) hg1
  have r0 : w1.cell? ⟨w.heap.size, 0, none⟩ = some (.slice none 0 0) := (cell_far hg1 ⟨w.heap.size, 0, none⟩ (by simp) (by simp; omega)).trans (by simp [go_sem])
  have r1 : w1.frozen? ⟨w.heap.size, 0, none⟩ = false := (frz_far hg1 ⟨w.heap.size, 0, none⟩ (by simp) (by simp; omega)).trans (by simp [go_sem])
  have hz1 : w.heap.size < w1.heap.size := by have := hg1.size; simp at this; omega
  have hc1l := hc1.lt
  simp at hfr
  replace hfr := hid hfr
  have hgd' := hgd
  obtain ⟨ao, cap, rfl, _, _, _⟩ := hgd'
  clear hD hg1
  go_wp2_with fail
  refine (hY.out 16 (by omega) (by omega) _ (hc1.below (below_alloc _ _))).mono ?_
  rintro e w2 ⟨⟨k, rfl, hk0, hk1⟩, hc2, hg2⟩
  have gd2 := (hgd.below (below_alloc w1 (.cells #[.slice ao g.length cap] 26))).drawn hg2
  have G2 := grown_trans (grown_trans G1 (below_grown (below_alloc w1 (.cells #[.slice ao g.length cap] 26)) (some c))) hg2
  have s0 : w2.cell? ⟨w.heap.size, 0, none⟩ = some (.slice none 0 0) := (cell_far hg2 ⟨w.heap.size, 0, none⟩ (by simp; omega) (by simp; omega)).trans (((below_alloc w1 _).cell (p := ⟨w.heap.size, 0, none⟩) hz1).trans r0)
  have s1 : w2.frozen? ⟨w.heap.size, 0, none⟩ = false := (frz_far hg2 ⟨w.heap.size, 0, none⟩ (by simp; omega) (by simp; omega)).trans (((below_alloc w1 _).frozen (p := ⟨w.heap.size, 0, none⟩) hz1).trans r1)
  have su : w2.cell? ⟨w1.heap.size, 0, none⟩ = some (.slice ao g.length cap) := (cell_far hg2 ⟨w1.heap.size, 0, none⟩ (by simp) (by simp; omega)).trans (by simp [go_sem])
  have hz2 : w1.heap.size < w2.heap.size := by have := hg2.size; simp at this; omega
  have hz20 : w.heap.size < w2.heap.size := by omega
  have hc2l := hc2.lt
  clear r0 r1 hc1 hgd hg2 G1 hc
  by_cases z0 : k = 0
  · subst z0
    go_wp2_with fail
    refine (hP.out oddG w2.heap.size _ (hc2.below (below_alloc _ _)) (by simp) (by omega) (fun i h => cells_new w2 oddG _ i h) (by decide) (by decide)).mono ?_
    rintro e w3 ⟨⟨y, rfl, hy⟩, hc3, hg3⟩
    have G3 := grown_trans (below_grown (below_alloc w2 (.cells (oddG.map (Value.int .i64)).toArray 3)) (some c)) hg3
    have t0 := (cell_far G3 ⟨w.heap.size, 0, none⟩ hz20 (by simp; omega)).trans s0
    have t1 := (frz_far G3 ⟨w.heap.size, 0, none⟩ hz20 (by simp; omega)).trans s1
    have hz3 : w.heap.size < w3.heap.size := Nat.lt_of_lt_of_le hz20 G3.size
    have hc3l := hc3.lt
    clear s0 s1 su hg3 gd2
    go_wp2
    refine bodyPost_ret (v := .agg #[.slice (some ⟨w3.heap.size, 0, none⟩) 1 1]) (by simp [results, Try.results81, go_sem, t0, hz3]) rfl ?_
    have DD : Below w.heap.size w3 ((w3.setCell ⟨w.heap.size, 0, none⟩ (.slice (some ⟨w3.heap.size, 0, none⟩) 1 1)).alloc (.cells #[.int .i64 y] 3)) := ((Below.refl w.heap.size w3).setCell (p := ⟨w.heap.size, 0, none⟩) (Nat.le_refl _) _).alloc (by simp; omega) _
    exact ⟨⟨_, [y], rfl, Gd.made (w := w3.setCell ⟨w.heap.size, 0, none⟩ (.slice (some ⟨w3.heap.size, 0, none⟩) 1 1)) [y] 3 1 rfl (by simp) hc3l (by simp), by simp, Fresh.at _ _ _ _ _ (Nat.le_of_lt hz3)⟩, hc3.under DD hcw, grown_under (grown_trans G2 G3) DD⟩
  have z0' : (k == 0) = false := beq_eq_false_iff_ne.2 z0
  by_cases z1 : k = 1
  · subst z1
    go_wp2
    refine bodyPost_ret (v := .agg #[.slice (some ⟨w2.heap.size, 0, none⟩) 4 4]) (by simp [results, Try.results81, go_sem, s0, hz20]) rfl ?_
    have DD : Below w.heap.size w2 ((w2.setCell ⟨w.heap.size, 0, none⟩ (.slice (some ⟨w2.heap.size, 0, none⟩) 4 4)).alloc (.cells #[.int .i64 2, .int .i64 2, .int .i64 2, .int .i64 2] 3)) := ((Below.refl w.heap.size w2).setCell (p := ⟨w.heap.size, 0, none⟩) (Nat.le_refl _) _).alloc (by simp; omega) _
    exact ⟨⟨_, [2, 2, 2, 2], rfl, Gd.made (w := w2.setCell ⟨w.heap.size, 0, none⟩ (.slice (some ⟨w2.heap.size, 0, none⟩) 4 4)) [2, 2, 2, 2] 3 4 rfl (by simp) hc2l (by simp), by simp, Fresh.at _ _ _ _ _ (Nat.le_of_lt hz20)⟩, hc2.under DD hcw, grown_under G2 DD⟩
  have z1' : (k == 1) = false := beq_eq_false_iff_ne.2 z1
  by_cases z2 : k = 2
  · subst z2
    go_wp2
    refine bodyPost_ret (v := .agg #[.slice (some ⟨w2.heap.size, 0, none⟩) 2 2]) (by simp [results, Try.results81, go_sem, s0, hz20]) rfl ?_
    have DD : Below w.heap.size w2 ((w2.setCell ⟨w.heap.size, 0, none⟩ (.slice (some ⟨w2.heap.size, 0, none⟩) 2 2)).alloc (.cells #[.int .i64 5, .int .i64 5] 3)) := ((Below.refl w.heap.size w2).setCell (p := ⟨w.heap.size, 0, none⟩) (Nat.le_refl _) _).alloc (by simp; omega) _
    exact ⟨⟨_, [5, 5], rfl, Gd.made (w := w2.setCell ⟨w.heap.size, 0, none⟩ (.slice (some ⟨w2.heap.size, 0, none⟩) 2 2)) [5, 5] 3 2 rfl (by simp) hc2l (by simp), by simp, Fresh.at _ _ _ _ _ (Nat.le_of_lt hz20)⟩, hc2.under DD hcw, grown_under G2 DD⟩
  have z2' : (k == 2) = false := beq_eq_false_iff_ne.2 z2
  go_wp2
  refine bodyPost_ret (v := .agg #[.slice ao g.length cap]) (by simp [results, Try.results81, go_sem, s0, hz20]) rfl ?_
  have DD : Below w.heap.size w2 (w2.setCell ⟨w.heap.size, 0, none⟩ (.slice ao g.length cap)) := (Below.refl w.heap.size w2).setCell (p := ⟨w.heap.size, 0, none⟩) (Nat.le_refl _) _
  exact ⟨⟨_, g, rfl, gd2.set _ _ _ (hfr.out.ne (Nat.lt_succ_self _)), hgl, hfr.out.less (Nat.le_succ _)⟩, hc2.under DD hcw, grown_under G2 DD⟩
end Go.Proofs.Ytknbfohmobjplab
