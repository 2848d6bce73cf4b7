/- The walk of the law EqualGroups. No conditions. -/
import Derived.Test.YtdlnacnepalpgaaG6
import Derived.Test.YtdlnacnepalpgaaLKit
namespace Go.Proofs.Ytdlnacnepalpgaa
open Go.RowKit

set_option maxRecDepth 100000 in
set_option maxHeartbeats 1600000 in
theorem fnExactEqualGroups_w (ao bo : Option Addr) (cap dap : Nat) (l m : List Int) (w : World) (hr : Rd w w.heap.size .i64 (.slice ao l.length cap) l) (hs : Rd w w.heap.size .i64 (.slice bo m.length dap) m) (hn : l.length + m.length ≤ 1048576) :
    Calls Try.prog 18 #[.agg #[.slice ao l.length cap], .agg #[.slice bo m.length dap]] w fun e w' => e = .returned (.bool true) ∧ Below w.heap.size w w' := by
  go_enter Try.func18, Try.ntmps18
  go_wp2_with fail
  refine (szGroup_ok _ _ _ _ _ (by omega) (by omega) (by omega)).mono ?_
  rintro e w1 ⟨rfl, hb1⟩
  obtain ⟨hc1, hf1⟩ := bcell hb1
  have D1 : Below w.heap.size w w1 := by refine Below.trans ?_ (hb1.mono ?_) <;> go_grown
  have hz1 : w.heap.size + 1 < w1.heap.size := by have := hb1.size; simp at this; omega
  have e1 : ¬ ((1048576 : Int) - l.length < 0) := by omega
  go_wp2_with fail
  refine (szGroup_ok _ _ _ _ _ (by omega) (by omega) (by omega)).mono ?_
  rintro e w2 ⟨rfl, hb2⟩
  have c1 : w2.cell? ⟨w.heap.size, 0, none⟩ = some (.slice ao l.length cap) := by rw [hb2.cell (show w.heap.size < w1.heap.size by omega), hc1 _ _ (by go_size)]; simp [go_sem]
  have c2 : w2.cell? ⟨w.heap.size + 1, 0, none⟩ = some (.slice bo m.length dap) := by rw [hb2.cell hz1, hc1 _ _ (by go_size)]; simp [go_sem]
  have D2 := bgo D1 hb2
  have hz2 : w.heap.size + 1 < w2.heap.size := by have := hb2.size; omega
  have e2 : ¬ ((1048576 : Int) - l.length - m.length < 0) := by omega
  clear hc1 hf1 hb1 hb2
  go_wp2_with fail
  have K2 : ∀ w', Below w2.heap.size w2 w' → w'.cell? ⟨w.heap.size, 0, none⟩ = some (.slice ao l.length cap) ∧ w'.cell? ⟨w.heap.size + 1, 0, none⟩ = some (.slice bo m.length dap) := fun w' h => ⟨(h.cell (show w.heap.size < w2.heap.size by omega)).trans c1, (h.cell hz2).trans c2⟩
  go_region_held3 (fun w' => w'.cell? ⟨w.heap.size, 0, none⟩ = some (.slice ao l.length cap) ∧ w'.cell? ⟨w.heap.size + 1, 0, none⟩ = some (.slice bo m.length dap)) (first | go_keep | exact K2 _ hb3 | exact K2 _ (bgo hb3 hb4) | exact K2 _ (bgo (bgo hb3 hb4) hb5)) (first | (go_at_call 22; refine (toGroup_any _ l _ ((hr.below (by go_grown)).more (by go_size)) (by omega)).mono ?_; rintro e w3 ⟨ao3, cap3, rfl, ho3, hb3⟩; replace hb3 : Below w2.heap.size w2 w3 := (Below.refl w2.heap.size w2).drew.trans hb3; have sz3 := hb3.size) | (go_at_call 22; refine (toGroup_any _ m _ ((hs.below (bgo D2 hb3)).more (bgo D2 hb3).size) (by omega)).mono ?_; rintro e w4 ⟨ao4, cap4, rfl, ho4, hb4⟩; have sz4 := hb4.size) | (go_at_call 57; refine (sEqualGroups_any _ _ l m _ (((Rd.of_own ho3).below hb4).more hb4.size) (Rd.of_own ho4) (by omega)).mono ?_; rintro e w5 ⟨rfl, hb5⟩))
  have E5 := bgo (bgo hb3 hb4) hb5
  have D5 := bgo D2 E5
  obtain ⟨c1', c2'⟩ := K2 _ E5
  have hz5 : w.heap.size + 1 < w5.heap.size := by have := E5.size; omega
  clear K2 c1 c2 ho3 ho4 sz3 sz4 E5 hb3 hb4 hb5 hz1 hz2 D1 D2
  obtain ⟨q, hq⟩ : ∃ q, q = eqL l m := ⟨_, rfl⟩
  go_wp2_with fail
  refine (toGroup_any _ l _ ((hr.below D5).more D5.size) (by omega)).mono ?_
  rintro e w6 ⟨ao6, cap6, rfl, ho6, hb6⟩
  have D6 := bgo D5 hb6
  have c1 := (hb6.cell (show w.heap.size < w5.heap.size by omega)).trans c1'
  have c2 := (hb6.cell hz5).trans c2'
  have hz6 : w.heap.size + 1 < w6.heap.size := by have := hb6.size; omega
  go_wp2_with fail
  refine (toGroup_any _ m _ ((hs.below (by go_grown)).more (by go_size)) (by omega)).mono ?_
  rintro e w7 ⟨ao7, cap7, rfl, ho7, hb7⟩
  have F7 : Below w6.heap.size w6 w7 := by refine Below.trans ?_ (hb7.mono ?_) <;> go_grown
  have sz7 : w6.heap.size < w7.heap.size := by have := hb7.size; simp at this; omega
  have cx0 : w7.cell? ⟨w6.heap.size, 0, none⟩ = some (.slice ao6 l.length cap6) := by rw [hb7.cell (show w6.heap.size < _ by simp)]; simp [go_sem]
  have D7 := bgo D6 F7
  have c1' := (F7.cell (show w.heap.size < w6.heap.size by omega)).trans c1
  have c2' := (F7.cell hz6).trans c2
  have ho6' := ho6.below F7
  go_wp2_with fail
  refine (iEqualGroups_any _ _ l m _ ((Rd.of_own ho6').alloc (Nat.le_refl _) _ |>.more (by go_size)) ((Rd.of_own ho7).alloc (Nat.le_refl _) _ |>.more (by go_size)) (by omega)).mono ?_
  rintro e w8 ⟨rfl, hb8⟩
  have F8 : Below w7.heap.size w7 w8 := by refine Below.trans ?_ (hb8.mono ?_) <;> go_grown
  have sz8 : w7.heap.size < w8.heap.size := by have := hb8.size; simp at this; omega
  have cx1 : w8.cell? ⟨w7.heap.size, 0, none⟩ = some (.slice ao7 m.length cap7) := by rw [hb8.cell (show w7.heap.size < _ by simp)]; simp [go_sem]
  have cx0' := (F8.cell sz7).trans cx0
  have D8 := bgo D7 F8
  have c1 := (F8.cell (show w.heap.size < w7.heap.size by omega)).trans c1'
  have c2 := (F8.cell (show w.heap.size + 1 < w7.heap.size by omega)).trans c2'
  have hx0 := Rd.of_own (ho6'.below F8)
  have hx1 := Rd.of_own (ho7.below F8)
  clear hb6 hb7 hb8 cx0 c1' c2' ho6 ho6' ho7
  go_wp2_with fail
  have K8 : ∀ w', Below w8.heap.size w8 w' → w'.cell? ⟨w.heap.size, 0, none⟩ = some (.slice ao l.length cap) ∧ w'.cell? ⟨w.heap.size + 1, 0, none⟩ = some (.slice bo m.length dap) ∧ w'.cell? ⟨w6.heap.size, 0, none⟩ = some (.slice ao6 l.length cap6) ∧ w'.cell? ⟨w7.heap.size, 0, none⟩ = some (.slice ao7 m.length cap7) := fun w' h => ⟨(h.cell (show w.heap.size < w8.heap.size by omega)).trans c1, (h.cell (show w.heap.size + 1 < w8.heap.size by omega)).trans c2, (h.cell (show w6.heap.size < w8.heap.size by omega)).trans cx0', (h.cell sz8).trans cx1⟩
  go_region_held3 (fun w' => w'.cell? ⟨w.heap.size, 0, none⟩ = some (.slice ao l.length cap) ∧ w'.cell? ⟨w.heap.size + 1, 0, none⟩ = some (.slice bo m.length dap) ∧ w'.cell? ⟨w6.heap.size, 0, none⟩ = some (.slice ao6 l.length cap6) ∧ w'.cell? ⟨w7.heap.size, 0, none⟩ = some (.slice ao7 m.length cap7)) (first | go_keep | exact K8 _ hb9 | exact K8 _ (bgo hb9 hb10)) (first | (go_at_call 22; refine (toGroup_any _ l _ ((hr.below (by go_grown)).more (by go_size)) (by omega)).mono ?_; rintro e w9 ⟨ao9, cap9, rfl, ho9, hb9⟩; replace hb9 : Below w8.heap.size w8 w9 := (Below.refl w8.heap.size w8).drew.trans hb9; have sz9 := hb9.size) | (go_at_call 24; refine (eqGroup_same _ _ l _ ((hx0.below hb9).more hb9.size) (Rd.of_own ho9) (by omega)).mono ?_; rintro e w10 ⟨rfl, hb10⟩))
  have F10 := bgo hb9 hb10
  have D10 := bgo D8 F10
  obtain ⟨c1', c2', cx0, cx1'⟩ := K8 _ F10
  have sz10 : w8.heap.size ≤ w10.heap.size := F10.size
  have hx1' := (hx1.below F10).more sz10
  have K10 : ∀ w', Below w10.heap.size w10 w' → w'.cell? ⟨w.heap.size, 0, none⟩ = some (.slice ao l.length cap) ∧ w'.cell? ⟨w.heap.size + 1, 0, none⟩ = some (.slice bo m.length dap) ∧ w'.cell? ⟨w6.heap.size, 0, none⟩ = some (.slice ao6 l.length cap6) ∧ w'.cell? ⟨w7.heap.size, 0, none⟩ = some (.slice ao7 m.length cap7) := fun w' h => ⟨(h.cell (show w.heap.size < w10.heap.size by omega)).trans c1', (h.cell (show w.heap.size + 1 < w10.heap.size by omega)).trans c2', (h.cell (show w6.heap.size < w10.heap.size by omega)).trans cx0, (h.cell (show w7.heap.size < w10.heap.size by omega)).trans cx1'⟩
  clear K8 c1 c2 cx0' cx1 hx0 hx1 ho9 F10 hb9 hb10
  go_wp2_with fail
  go_region_held3 (fun w' => w'.cell? ⟨w.heap.size, 0, none⟩ = some (.slice ao l.length cap) ∧ w'.cell? ⟨w.heap.size + 1, 0, none⟩ = some (.slice bo m.length dap) ∧ w'.cell? ⟨w6.heap.size, 0, none⟩ = some (.slice ao6 l.length cap6) ∧ w'.cell? ⟨w7.heap.size, 0, none⟩ = some (.slice ao7 m.length cap7)) (first | go_keep | exact K10 _ hb11 | exact K10 _ (bgo hb11 hb12)) (first | (go_at_call 22; refine (toGroup_any _ m _ ((hs.below (by go_grown)).more (by go_size)) (by omega)).mono ?_; rintro e w11 ⟨ao11, cap11, rfl, ho11, hb11⟩; replace hb11 : Below w10.heap.size w10 w11 := (Below.refl w10.heap.size w10).drew.trans hb11; have sz11 := hb11.size) | (go_at_call 24; refine (eqGroup_same _ _ m _ ((hx1'.below hb11).more hb11.size) (Rd.of_own ho11) (by omega)).mono ?_; rintro e w12 ⟨rfl, hb12⟩))
  go_wp2
  go_ret
  exact ⟨rfl, bgo (bgo D10 hb11) hb12⟩
theorem fnExactEqualGroups_walk (w : World) (ao : Option Addr) (len cap : Nat) (l : List Int) (w0 : Row .i64 w (.slice ao len cap) l) (bo : Option Addr) (lem dap : Nat) (m : List Int) (w1 : Row .i64 w (.slice bo lem dap) m) :
    Calls Try.prog 18 #[.agg #[.slice ao len cap], .agg #[.slice bo lem dap]] w fun e w' => e = .returned (.bool true) ∧ Below w.heap.size w w' := by
  obtain ⟨hr, _⟩ := w0
  obtain ⟨hs, _⟩ := w1
  obtain rfl := hr.len_eq
  obtain rfl := hs.len_eq
  by_cases hn : l.length + m.length ≤ 1048576
  · exact fnExactEqualGroups_w ao bo cap dap l m w hr hs hn
  · have hm := hr.len_le
    have hm2 := hs.len_le
    by_cases hn1 : l.length ≤ 1048576
    · go_enter Try.func18, Try.ntmps18
      go_wp2_with fail
      refine (szGroup_ok _ _ _ _ _ (by omega) (by omega) (by omega)).mono ?_
      rintro e w1 ⟨rfl, hb1⟩
      obtain ⟨hc1, hf1⟩ := bcell hb1
      have D1 : Below w.heap.size w w1 := by refine Below.trans ?_ (hb1.mono ?_) <;> go_grown
      have hz1 : w.heap.size + 1 < w1.heap.size := by have := hb1.size; simp at this; omega
      have e1 : ¬ ((1048576 : Int) - l.length < 0) := by omega
      go_wp2_with fail
      refine (szGroup_big _ _ _ _ _ hm2 (by omega) (by omega) (by omega)).mono ?_
      rintro e w2 ⟨rfl, hb2⟩
      go_wp2
      go_ret
      exact ⟨rfl, bgo D1 hb2⟩
    · go_enter Try.func18, Try.ntmps18
      go_wp2_with fail
      refine (szGroup_big _ _ _ _ _ hm (by omega) (by omega) (by omega)).mono ?_
      rintro e w1 ⟨rfl, hb1⟩
      have D1 : Below w.heap.size w w1 := by refine Below.trans ?_ (hb1.mono ?_) <;> go_grown
      go_wp2
      go_ret
      exact ⟨rfl, D1⟩
end Go.Proofs.Ytdlnacnepalpgaa
