
/- Walks of the laws PeriodsOf: printed by slicelaw.py. No conditions. -/
import Derived.Test.YtffbamjfpegndaaSM
import Derived.Test.YtffbamjfpegndaaMk
import Derived.Test.YtffbamjfpegndaaLKit
namespace Go.Proofs.Ytffbamjfpegndaa
open Go.RowKit
theorem fnExactPeriodsOf_w (ao : Option Addr) (cap : Nat) (l : List Int) (a1 : Int) (w : World) (hr : Rd w w.heap.size .i64 (.slice ao l.length cap) l) (hn : l.length ≤ 1048576) (hi1 : -9223372036854775808 ≤ a1 ∧ a1 ≤ 9223372036854775807) :
    Calls Try.prog 20 #[.agg #[.slice ao l.length cap], .int .i64 a1] w fun e w' => e = .returned (.bool true) ∧ Below w.heap.size w w' := by
  replace hi1 := hid hi1
  have hRL : (prdE l a1).length ≤ 1048576 := Nat.le_trans (prdE_len l a1) (by omega)
  have hS := fun v w hr => sPeriodsOf_any v l a1 w hr (by omega) hi1.out
  have hI := fun v w hr => iPeriodsOf_any v l a1 w hr (by omega) hi1.out
  obtain ⟨R, hRR⟩ : ∃ R, R = prdE l a1 := ⟨_, rfl⟩
  rw [← hRR] at hRL hS hI
  clear hRR
  go_enter Try.func20, Try.ntmps20
  go_wp2_with fail
  refine (szGroup_ok _ _ _ _ _ (by omega) (by omega) (by omega)).mono ?_
  rintro e w1 ⟨rfl, hb1⟩
  obtain ⟨hc1, hf1⟩ := bcell hb1
  have D1 : Below w.heap.size w w1 := by refine Below.trans ?_ (hb1.mono ?_) <;> go_grown
  have B1 := D1
  have hz1 : w.heap.size < w1.heap.size := by have := hb1.size; simp at this; omega
  go_wp2_with fail
  refine (toGroup_any _ l _ ((hr.below (by go_grown)).more (by go_size)) (by omega)).mono ?_
  rintro e w2 ⟨ao2, cap2, rfl, ho2, hb2⟩
  obtain ⟨hc2, hf2⟩ := bcell hb2
  have D2 : Below w1.heap.size w1 w2 := by refine Below.trans ?_ (hb2.mono ?_) <;> go_grown
  have B2 := bgo B1 D2
  have hz2 : w.heap.size < w2.heap.size := by have := D2.size; omega
  go_wp2_with fail
  refine (hS _ _ (Rd.of_own ho2)).mono ?_
  rintro e w3 ⟨ao3, cap3, rfl, ho3, hb3⟩
  obtain ⟨hc3, hf3⟩ := bcell hb3
  have D3 : Below w2.heap.size w2 w3 := by refine Below.trans ?_ (hb3.mono ?_) <;> go_grown
  have B3 := bgo B2 D3
  have hz3 : w.heap.size < w3.heap.size := by have := D3.size; omega
  go_wp2_with fail
  refine (toGroup_any _ l _ ((hr.below (by go_grown)).more (by go_size)) (by omega)).mono ?_
  rintro e w4 ⟨ao4, cap4, rfl, ho4, hb4⟩
  obtain ⟨hc4, hf4⟩ := bcell hb4
  have D4 : Below w3.heap.size w3 w4 := by refine Below.trans ?_ (hb4.mono ?_) <;> go_grown
  have B4 := bgo B3 D4
  have hz4 : w.heap.size < w4.heap.size := by have := D4.size; omega
  go_wp2_with fail
  refine (hI _ _ ((Rd.of_own ho4).alloc (Nat.le_refl _) _ |>.more (by go_size))).mono ?_
  rintro e w5 ⟨ao5, cap5, rfl, ho5, hb5⟩
  obtain ⟨hc5, hf5⟩ := bcell hb5
  have D5 : Below w4.heap.size w4 w5 := by refine Below.trans ?_ (hb5.mono ?_) <;> go_grown
  have B5 := bgo B4 D5
  have hz5 : w.heap.size < w5.heap.size := by have := D5.size; omega
  have c5 : w5.cell? ⟨w4.heap.size, 0, none⟩ = some (.slice ao4 l.length cap4) := by rw [hc5 _ _ (by go_size)]; simp [go_sem]
  have c6 : w5.cell? ⟨w.heap.size, 0, none⟩ = some (.slice ao l.length cap) := by rw [hc5 _ _ (by go_size)]; simp [go_sem, hc4, hc3, hc2, hc1, hz1, hz2, hz3, hz4]
  have sz5 : w4.heap.size < w5.heap.size := by have := hb5.size; simp at this; omega
  replace ho5 := ho5.lower (show w4.heap.size ≤ _ by simp)
  have z4 : w3.heap.size ≤ w4.heap.size := D4.size
  have hz3' := hz3
  clear hc1 hc2 hc3 hc4 hc5 hf1 hf2 hf3 hf4 hf5 hb1 hb2 hb3 hb4 hb5 ho2 hz1 hz2 hz4
  go_wp2_with fail
  refine (eqIntS_same _ _ R _ (Rd.of_own ho5) (((Rd.of_own ho3).below (bgo D4 D5)).more (bgo D4 D5).size) (by omega)).mono ?_
  rintro e w6 ⟨rfl, hb6⟩
  have c5' := (hb6.cell sz5).trans c5
  have c6' := (hb6.cell hz5).trans c6
  have sz6 : w4.heap.size < w6.heap.size := by have := hb6.size; omega
  have hz6 : w.heap.size < w6.heap.size := by have := hb6.size; omega
  have D6 : Below w4.heap.size w4 w6 := bgo D5 hb6
  have B6 := bgo B5 hb6
  replace ho5 := ho5.below hb6
  go_wp2_with fail
  go_region_held3 (fun w' => w'.cell? ⟨w4.heap.size, 0, none⟩ = some (.slice ao4 l.length cap4) ∧ w'.cell? ⟨w.heap.size, 0, none⟩ = some (.slice ao l.length cap)) (first | go_keep | exact ⟨(hb7.cell sz6).trans c5', (hb7.cell hz6).trans c6'⟩ | exact ⟨(hb8.cell (Nat.lt_of_lt_of_le sz6 sz7)).trans ((hb7.cell sz6).trans c5'), (hb8.cell (Nat.lt_of_lt_of_le hz6 sz7)).trans ((hb7.cell hz6).trans c6')⟩) (first | (go_at_call 23; refine (toGroup_any _ l _ ((hr.below (by go_grown)).more (by go_size)) (by omega)).mono ?_; rintro e w7 ⟨ao7, cap7, rfl, ho7, hb7⟩; replace hb7 : Below w6.heap.size w6 w7 := (Below.refl w6.heap.size w6).drew.trans hb7; have sz7 := hb7.size) | (go_at_call 25; refine (eqGroup_same _ _ l _ (((Rd.of_own ho4).below (bgo D6 hb7)).more (bgo D6 hb7).size) (Rd.of_own ho7) (by omega)).mono ?_; rintro e w8 ⟨rfl, hb8⟩))
  have E8 := bgo hb7 hb8
  have c5 := (E8.cell sz6).trans c5'
  have c6 := (E8.cell hz6).trans c6'
  have D8 := bgo D6 E8
  have B8 := bgo B6 E8
  have h48 := D8.size
  replace ho5 := ho5.below E8
  have ho4' := ho4.below D8
  clear ho7
  go_wp2_with fail
  refine (markGroup_any _ l 1 _ _ ho4' (by omega) (by omega) (by omega)).mono ?_
  rintro e w9 ⟨rfl, ho9, hg9⟩
  have K9 := mark_below ho4' hg9 (by omega)
  have z9 := K9.size
  replace ho5 := ho5.kept hg9 (ho5.apart ho4 (Nat.le_refl _))
  have B9 := B8.trans (K9.mono (by omega))
  have c6' := (K9.cell hz3').trans c6
  have hw0 : Rd w9 w9.heap.size .i64 (.slice ao3 R.length cap3) R := ((((Rd.of_own ho3).below (bgo D4 D8)).below K9).more (by omega))
  have hk1 : decide ((1 : Int) + l.length < 0) = false := by simp; omega
  clear ho9 hg9
  go_wp2_with fail
  refine (eqIntS_same _ _ R _ (Rd.of_own ho5) hw0 (by omega)).mono ?_
  rintro e w10 ⟨rfl, hb10⟩
  replace ho5 := ho5.below hb10
  have K10 : Below w4.heap.size w9 w10 := hb10.mono (by omega)
  have z10 := K10.size
  have B10 := B9.trans (K10.mono (by omega))
  replace c6 := (hb10.cell (show w.heap.size < w9.heap.size by omega)).trans c6'
  replace hw0 := (hw0.below hb10).more hb10.size
  go_wp2_with fail
  refine (markIntS_any _ R 1 _ _ ho5 (by omega) (by omega) (by omega)).mono ?_
  rintro e w11 ⟨rfl, ho11, hg11⟩
  have K11 := mark_below ho5 hg11 (by omega)
  have z11 := K11.size
  have B11 := B10.trans (K11.mono (by omega))
  have c6' := (K11.cell (show w.heap.size < w4.heap.size by omega)).trans c6
  have hw0' : Rd w11 w11.heap.size .i64 (.slice ao3 R.length cap3) R := ((((((Rd.of_own ho3).below (bgo D4 D8)).below K9).below (hb10.mono (by omega))).below (K11.mono (by omega))).more (by omega))
  have hq1 : ¬ ((1 : Int) + R.length < 0) := by omega
  clear hg11 ho5
  go_wp2_with fail
  refine (heldIntS_any _ 1 R.length _ (Rd.of_own ho11) (by omega) (by omega) (by omega)).mono ?_
  rintro e w12 ⟨rfl, hb12⟩
  replace ho11 := ho11.below hb12
  have z12 := hb12.size
  have B12 := bgo B11 hb12
  replace c6 := (hb12.cell (show w.heap.size < w11.heap.size by omega)).trans c6'
  replace hw0 := (hw0'.below hb12).more hb12.size
  go_wp2_with fail
  refine (toGroup_any _ l _ ((hr.below B12).more B12.size) (by omega)).mono ?_
  rintro e w13 ⟨ao13, cap13, rfl, ho13, hb13⟩
  replace ho11 := ho11.below hb13
  have z13 := hb13.size
  have B13 := bgo B12 hb13
  replace hw0' := (hw0.below hb13).more hb13.size
  go_wp2_with fail
  refine (hI _ _ (Rd.of_own ho13)).mono ?_
  rintro e w14 ⟨ao14, cap14, rfl, ho14, hb14⟩
  replace ho11 := ho11.below hb14
  have z14 := hb14.size
  have B14 := bgo B13 hb14
  replace hw0 := (hw0'.below hb14).more hb14.size
  go_wp2_with fail
  refine (eqIntS_same _ _ R _ (Rd.of_own ho14) hw0 (by omega)).mono ?_
  rintro e w15 ⟨rfl, hb15⟩
  replace ho11 := ho11.below hb15
  have B15 := bgo B14 hb15
  go_wp2_with fail
  refine (heldIntS_any _ 1 R.length _ (Rd.of_own ho11) (by omega) (by omega) (by omega)).mono ?_
  rintro e w16 ⟨rfl, hb16⟩
  have B16 := bgo B15 hb16
  go_wp2
  go_ret
  exact ⟨rfl, B16⟩
theorem fnExactPeriodsOf_walk (w : World) (ao : Option Addr) (len cap : Nat) (l : List Int) (w0 : Row .i64 w (.slice ao len cap) l) (a1 : Int) (w1 : (Lit.int .i64 a1).wf = true) :
    Calls Try.prog 20 #[.agg #[.slice ao len cap], .int .i64 a1] w fun e w' => e = .returned (.bool true) ∧ Below w.heap.size w w' := by
  obtain ⟨hr, _⟩ := w0
  obtain rfl := hr.len_eq
  by_cases hn : l.length ≤ 1048576
  · exact fnExactPeriodsOf_w ao cap l a1 w hr hn (int_bd w1)
  · have hm := hr.len_le
    go_enter Try.func20, Try.ntmps20
    go_wp2_with fail
    refine (szGroup_big _ _ _ _ _ hm (by omega) (by omega) (by omega)).mono ?_
    rintro e w1 ⟨rfl, hb1⟩
    have D1 : Below w.heap.size w w1 := by refine Below.trans ?_ (hb1.mono ?_) <;> go_grown
    go_wp2
    go_ret
    exact ⟨rfl, D1⟩
end Go.Proofs.Ytffbamjfpegndaa
