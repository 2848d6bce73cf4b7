
/- The walk of the law ParseGroup. No conditions. -/
import Derived.Test.YtffbamjfpegndabC4
import Derived.Test.YtffbamjfpegndabLKit
namespace Go.Proofs.Ytffbamjfpegndab
set_option linter.unusedVariables false
set_option linter.unusedSimpArgs false
open Go.RowKit
theorem fnExactParseGroup_w (s : ByteArray) (w : World) (hs : s.size ≤ 1048576) :
    Calls Try.prog 5 #[.string s] w fun e w' => e = .returned (.bool true) ∧ Below w.heap.size w w' := by
  have hRL : (pgE (sI s)).1.length ≤ 1048577 := by have := pgE_len (sI s); rw [sI_length] at this; omega
  have hS := hid fun w => sParseGroup_any s w hs
  have hI := hid fun w => iParseGroup_any s w hs
  obtain ⟨R, hRR⟩ : ∃ R, R = (pgE (sI s)).1 := ⟨_, rfl⟩
  obtain ⟨B, hBB⟩ : ∃ B, B = (pgE (sI s)).2 := ⟨_, rfl⟩
  rw [← hRR] at hRL hS hI
  rw [← hBB] at hS hI
  have hbb : (B != B) = false := by cases B <;> rfl
  clear hRR hBB
  go_enter Try.func5, Try.ntmps5
  go_wp2_with fail
  refine (hS.out _).mono ?_
  rintro e w1 ⟨⟨ao1, cap1, rfl, ho1⟩, hb1⟩
  have r1 := Rd.of_own ho1
  go_wp2_with fail
  refine (hI.out _).mono ?_
  rintro e w2 ⟨⟨ao2, cap2, rfl, ho2⟩, hb2⟩
  obtain ⟨hc2, hf2⟩ := bcell hb2
  have z2 : w1.heap.size < w2.heap.size := by have := hb2.size; simp at this; omega
  have cA2 : w2.cell? ⟨w1.heap.size, 0, none⟩ = some (.slice ao1 R.length cap1) := by rw [hc2 _ _ (by go_size)]; simp [go_sem]
  have D2 : Below w1.heap.size w1 w2 := (below_alloc w1 _).trans (hb2.mono (by simp))
  have B2 := bgo hb1 D2
  have r2 := (r1.below D2).more D2.size
  replace ho2 := ho2.lower (show w1.heap.size + 1 ≤ _ by simp)
  clear hc2 hf2 hb2 ho1
  go_wp2_with fail
  refine (eqGroup_same _ _ R _ (((Rd.of_own ho2).alloc (Nat.le_refl _) _).more (by simp)) ((r2.alloc (Nat.le_refl _) _).more (by simp)) (by omega)).mono ?_
  rintro e w3 ⟨rfl, hb3⟩
  obtain ⟨hc3, hf3⟩ := bcell hb3
  have z3 : w2.heap.size < w3.heap.size := by have := hb3.size; simp at this; omega
  have cA3 : w3.cell? ⟨w1.heap.size, 0, none⟩ = some (.slice ao1 R.length cap1) := by rw [hc3 _ _ (by go_size)]; simp [go_sem, z2, cA2]
  have cB3 : w3.cell? ⟨w2.heap.size, 0, none⟩ = some (.slice ao2 R.length cap2) := by rw [hc3 _ _ (by go_size)]; simp [go_sem]
  have D3 : Below w2.heap.size w2 w3 := (below_alloc w2 _).trans (hb3.mono (by simp))
  have B3 := bgo B2 D3
  have r3 := (r2.below D3).more D3.size
  have ho3 := ho2.below D3
  clear hc3 hf3 hb3 cA2
  go_wp2_with fail
  refine (markGroup_any _ R 1 _ _ ho3 (by omega) (by omega) (by omega)).mono ?_
  rintro e w4 ⟨rfl, ho4, hg4⟩
  have K4 := mark_below ho3 hg4 (by omega)
  have z4 := K4.size
  have cA4 := (K4.cell (p := ⟨w1.heap.size, 0, none⟩) (show w1.heap.size < w1.heap.size + 1 by omega)).trans cA3
  have hne : some w2.heap.size ≠ (Value.slice ao2 R.length cap2).ownBlock := fun h => by
    have := World.ownsRow.lt ho2 _ h.symm
    omega
  have cB4 := (cell_far hg4 ⟨w2.heap.size, 0, none⟩ z3 hne).trans cB3
  have B4 := B3.trans (K4.mono (by have := hb1.size; omega))
  have r4 := ((((r1.below D2).below (D3.mono (by omega))).below (K4.mono (by omega))).more (show w1.heap.size ≤ w4.heap.size by omega))
  have hk1 : ((1 : Int) + R.length < 0) = False := by simp; omega
  clear hg4 ho3 cA3 cB3 ho2
  go_wp2_with fail
  refine (heldGroup_any _ 1 R.length _ (Rd.of_own ho4) (by omega) (by omega) (by omega)).mono ?_
  rintro e w5 ⟨rfl, hb5⟩
  have z5 := hb5.size
  have cA5 := (hb5.cell (p := ⟨w1.heap.size, 0, none⟩) (show w1.heap.size < w4.heap.size by omega)).trans cA4
  have cB5 := (hb5.cell (p := ⟨w2.heap.size, 0, none⟩) (show w2.heap.size < w4.heap.size by omega)).trans cB4
  have B5 := bgo B4 hb5
  have r5 := (r4.below hb5).more hb5.size
  have ho5 := ho4.below hb5
  clear ho4 cA4 cB4
  go_wp2_with fail
  refine (hI.out _).mono ?_
  rintro e w6 ⟨⟨ao6, cap6, rfl, ho6⟩, hb6⟩
  have z6 := hb6.size
  have y6 : w1.heap.size < w6.heap.size := by omega
  have x6 : w2.heap.size < w6.heap.size := by omega
  have cA6 := (hb6.cell (p := ⟨w1.heap.size, 0, none⟩) (show w1.heap.size < w5.heap.size by omega)).trans cA5
  have cB6 := (hb6.cell (p := ⟨w2.heap.size, 0, none⟩) (show w2.heap.size < w5.heap.size by omega)).trans cB5
  have B6 := bgo B5 hb6
  have r6 := (r5.below hb6).more hb6.size
  have ho6' := ho5.below hb6
  clear ho5 cA5 cB5
  go_wp2_with fail
  refine (eqGroup_same _ _ R _ (((Rd.of_own ho6).alloc (Nat.le_refl _) _).more (by simp)) ((r6.alloc (Nat.le_refl _) _).more (by simp)) (by omega)).mono ?_
  rintro e w7 ⟨rfl, hb7⟩
  have D7 : Below w6.heap.size w6 w7 := (below_alloc w6 _).trans (hb7.mono (by simp))
  have z7 := D7.size
  have cB7 := (D7.cell (p := ⟨w2.heap.size, 0, none⟩) (show w2.heap.size < w6.heap.size by omega)).trans cB6
  have ho7 := ho6'.below D7
  have B7 := bgo B6 D7
  clear hb7 ho6' cB6 cA6
  go_wp2_with fail
  refine (heldGroup_any _ 1 R.length _ (Rd.of_own ho7) (by omega) (by omega) (by omega)).mono ?_
  rintro e w8 ⟨rfl, hb8⟩
  have B8 := bgo B7 hb8
  go_wp2
  go_ret
  exact ⟨rfl, B8⟩
theorem fnExactParseGroup_walk (s : ByteArray) (w0 : s.size ≤ maxLen) (w : World) :
    Calls Try.prog 5 #[.string s] w fun e w' => e = .returned (.bool true) ∧ Below w.heap.size w w' := by
  by_cases hs : s.size ≤ 1048576
  · exact fnExactParseGroup_w s w hs
  · unfold maxLen at w0
    go_enter Try.func5, Try.ntmps5
    go_wp2
    go_ret
    exact ⟨rfl, Below.refl _ _⟩
end Go.Proofs.Ytffbamjfpegndab
