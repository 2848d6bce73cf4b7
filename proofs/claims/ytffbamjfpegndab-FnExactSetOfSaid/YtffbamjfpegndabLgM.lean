
/- The walk of the law SetOf. No conditions. -/
import Derived.Test.YtffbamjfpegndabGA
import Derived.Test.YtffbamjfpegndabLKit
namespace Go.Proofs.Ytffbamjfpegndab
open Go.RowKit

set_option maxRecDepth 100000 in
set_option maxHeartbeats 1600000 in
theorem fnExactSetOf_w (ao bo : Option Addr) (cap dap : Nat) (l m : List Int) (w : World) (hr : Rd w w.heap.size .i64 (.slice ao l.length cap) l) (hs : Rd w w.heap.size .i64 (.slice bo m.length dap) m) (hn : l.length ≤ 1048576) (hm : m.length ≤ 1048576) :
    Calls Try.prog 3 #[.agg #[.slice ao l.length cap], .slice bo m.length dap] w fun e w' => e = .returned (.bool true) ∧ Below w.heap.size w w' := by
  obtain ⟨a, b, hab⟩ : ∃ a b, Value.tuple #[.int .i64 (soE l m).1, .bool (soE l m).2] = .tuple #[.int .i64 a, .bool b] := ⟨_, _, rfl⟩
  have hS := fun v u w h1 h2 => sSetOf_any v u l m w h1 h2 hn hm
  have hI := fun v u w h1 h2 => iSetOf_any v u l m w h1 h2 hn hm
  rw [hab] at hS hI
  clear hab
  go_enter Try.func3, Try.ntmps3
  go_wp2_with fail
  refine (szGroup_ok _ _ _ _ _ (by omega) (by omega) (by omega)).mono ?_
  rintro e w2 ⟨rfl, hb2⟩
  obtain ⟨hc2, hf2⟩ := bcell hb2
  have D2 : Below w.heap.size w w2 := by refine Below.trans ?_ (hb2.mono ?_) <;> go_grown
  have hz2 : w.heap.size < w2.heap.size := by have := hb2.size; simp at this; omega
  have e1 : ¬ ((1048576 : Int) - l.length < 0) := by omega
  have c1 : w2.cell? ⟨w.heap.size, 0, none⟩ = some (.slice ao l.length cap) := by rw [hc2 _ _ (by go_size)]; simp [go_sem]
  clear hc2 hf2 hb2
  go_wp2_with fail
  have K2 : ∀ w', Below w2.heap.size w2 w' → w'.cell? ⟨w.heap.size, 0, none⟩ = some (.slice ao l.length cap) := fun w' h => (h.cell hz2).trans c1
  refine (toGroup_any _ l _ ((hr.below D2).more D2.size) (by omega)).mono ?_
  rintro e w3 ⟨ao3, cap3, rfl, ho3, hb3⟩
  have D3 := bgo D2 hb3
  go_wp2_with fail
  refine (toIntS_any _ m _ ((hs.below D3).more D3.size) (by omega)).mono ?_
  rintro e w4 ⟨ao4, cap4, rfl, ho4, hb4⟩
  have D4 := bgo D3 hb4
  go_wp2_with fail
  refine (hS _ _ _ (((Rd.of_own ho3).below hb4).more hb4.size) (Rd.of_own ho4)).mono ?_
  rintro e w5 ⟨rfl, hb5⟩
  have D5 := bgo D4 hb5
  have c5 := K2 _ (bgo (bgo hb3 hb4) hb5)
  have hz5 : w.heap.size < w5.heap.size := by have := D5.size; have := hb3.size; have := hb4.size; have := hb5.size; omega
  clear K2 c1 ho3 ho4 hb3 hb4 hb5 D2 D3 D4 hz2
  go_wp2_with fail
  refine (toGroup_any _ l _ ((hr.below D5).more D5.size) (by omega)).mono ?_
  rintro e w6 ⟨ao6, cap6, rfl, ho6, hb6⟩
  have D6 := bgo D5 hb6
  have c6 := (hb6.cell hz5).trans c5
  have hz6 : w.heap.size < w6.heap.size := by have := hb6.size; omega
  go_wp2_with fail
  refine (toIntS_any _ m _ ((hs.below (by go_grown)).more (by go_size)) (by omega)).mono ?_
  rintro e w7 ⟨ao7, cap7, rfl, ho7, hb7⟩
  have F7 : Below w6.heap.size w6 w7 := by refine Below.trans ?_ (hb7.mono ?_) <;> go_grown
  have sz7 : w6.heap.size < w7.heap.size := by have := hb7.size; simp at this; omega
  have cx0 : w7.cell? ⟨w6.heap.size, 0, none⟩ = some (.slice ao6 l.length cap6) := by rw [hb7.cell (show w6.heap.size < _ by simp)]; simp [go_sem]
  have D7 := bgo D6 F7
  have c7 := (F7.cell hz6).trans c6
  have ho6' := ho6.below F7
  go_wp2_with fail
  refine (hI _ _ _ ((Rd.of_own ho6').more (by go_size)) ((Rd.of_own ho7).more (by go_size))).mono ?_
  rintro e w8 ⟨rfl, hb8⟩
  have D8 := bgo D7 hb8
  have cx0' := (hb8.cell sz7).trans cx0
  have c8 := (hb8.cell (show w.heap.size < w7.heap.size by omega)).trans c7
  have sz8 := hb8.size
  have hx0 := Rd.of_own (ho6'.below hb8)
  have hx1 := Rd.of_own (ho7.below hb8)
  clear hb6 hb7 hb8 cx0 c5 c6 c7 ho6 ho6' ho7 hS hI
  have K8 : ∀ w', Below w8.heap.size w8 w' → w'.cell? ⟨w.heap.size, 0, none⟩ = some (.slice ao l.length cap) ∧ w'.cell? ⟨w6.heap.size, 0, none⟩ = some (.slice ao6 l.length cap6) := fun w' h => ⟨(h.cell (show w.heap.size < w8.heap.size by omega)).trans c8, (h.cell (show w6.heap.size < w8.heap.size by omega)).trans cx0'⟩
  go_wp2_with fail
  go_region_held3 (fun w' => w'.cell? ⟨w.heap.size, 0, none⟩ = some (.slice ao l.length cap) ∧ w'.cell? ⟨w6.heap.size, 0, none⟩ = some (.slice ao6 l.length cap6)) (first | go_keep | exact K8 _ hb9 | exact K8 _ (bgo hb9 hb10)) (first | (go_at_call 11; refine (toGroup_any _ l _ ((hr.below (by go_grown)).more (by go_size)) (by omega)).mono ?_; rintro e w9 ⟨ao9, cap9, rfl, ho9, hb9⟩; replace hb9 : Below w8.heap.size w8 w9 := (Below.refl w8.heap.size w8).drew.trans hb9; have sz9 := hb9.size) | (go_at_call 14; refine (eqGroup_same _ _ l _ ((hx0.below hb9).more hb9.size) (Rd.of_own ho9) (by omega)).mono ?_; rintro e w10 ⟨rfl, hb10⟩))
  have D10 := bgo (bgo D8 hb9) hb10
  have hx1' := ((hx1.below hb9).below (hb10.mono hb9.size)).more (Nat.le_trans hb9.size hb10.size)
  clear K8 hx0 ho9 hx1
  go_wp2_with fail
  refine (toIntS_any _ m _ ((hs.below D10).more D10.size) (by omega)).mono ?_
  rintro e w11 ⟨ao11, cap11, rfl, ho11, hb11⟩
  have D11 := bgo D10 hb11
  go_wp2_with fail
  refine (eqIntS_same _ _ m _ ((hx1'.below hb11).more hb11.size) (Rd.of_own ho11) (by omega)).mono ?_
  rintro e w12 ⟨rfl, hb12⟩
  go_wp2
  go_ret
  exact ⟨rfl, bgo D11 hb12⟩
theorem fnExactSetOf_walk (w : World) (ao : Option Addr) (len cap : Nat) (l : List Int) (w0 : Row .i64 w (.slice ao len cap) l) (bo : Option Addr) (lem dap : Nat) (m : List Int) (w1 : Row .i64 w (.slice bo lem dap) m) :
    Calls Try.prog 3 #[.agg #[.slice ao len cap], .slice bo lem dap] w fun e w' => e = .returned (.bool true) ∧ Below w.heap.size w w' := by
  obtain ⟨hr, _⟩ := w0
  obtain ⟨hs, _⟩ := w1
  obtain rfl := hr.len_eq
  obtain rfl := hs.len_eq
  have hm1 := hr.len_le
  have hm2 := hs.len_le
  by_cases hm : m.length ≤ 1048576
  · by_cases hn : l.length ≤ 1048576
    · exact fnExactSetOf_w ao bo cap dap l m w hr hs hn hm
    · go_enter Try.func3, Try.ntmps3
      go_wp2_with fail
      refine (szGroup_big _ _ _ _ _ hm1 (by omega) (by omega) (by omega)).mono ?_
      rintro e w1 ⟨rfl, hb1⟩
      have D1 : Below w.heap.size w w1 := by refine Below.trans ?_ (hb1.mono ?_) <;> go_grown
      go_wp2
      go_ret
      exact ⟨rfl, D1⟩
  · unfold maxLen at hm2
    go_enter Try.func3, Try.ntmps3
    go_wp2_with fail
    go_ret
    exact ⟨rfl, by go_grown⟩
end Go.Proofs.Ytffbamjfpegndab
