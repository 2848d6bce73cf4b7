
/- Walks of the laws ParseSet: printed by simplelaw.py. No conditions. -/
import Derived.Test.YtffbamjfpegndabD2
import Derived.Test.YtffbamjfpegndabLKit
namespace Go.Proofs.Ytffbamjfpegndab
set_option linter.unusedVariables false
set_option linter.unusedSimpArgs false
open Go.RowKit
theorem fnExactParseSet_w (ao : Option Addr) (cap : Nat) (l : List Int) (a1 : ByteArray) (w : World) (hr : Rd w w.heap.size .i64 (.slice ao l.length cap) l) (hn : l.length ≤ 1048576) (hs1 : a1.size ≤ 1048576) :
    Calls Try.prog 7 #[.agg #[.slice ao l.length cap], .string a1] w fun e w' => e = .returned (.bool true) ∧ Below w.heap.size w w' := by
  obtain ⟨a, ha⟩ : ∃ a, a = (psE l (sI a1)).1 := ⟨_, rfl⟩
  obtain ⟨b, hb⟩ : ∃ b, b = (psE l (sI a1)).2 := ⟨_, rfl⟩
  have hS := hid fun v w h => sParseSet_any v l a1 w h hn hs1
  have hI := hid fun v w h => iParseSet_any v l a1 w h hn hs1
  rw [← ha, ← hb] at hS hI
  have hbb : (b != b) = false := by cases b <;> rfl
  clear ha hb
  go_enter Try.func7, Try.ntmps7
  go_wp2_with fail
  refine (szGroup_ok _ _ _ _ _ (by omega) (by omega) (by omega)).mono ?_
  rintro e w1 ⟨rfl, hb1⟩
  obtain ⟨hc1, hf1⟩ := bcell hb1
  have D1 : Below w.heap.size w w1 := by refine Below.trans ?_ (hb1.mono ?_) <;> go_grown
  have B1 := D1
  have hz1 : w.heap.size < w1.heap.size := by have := hb1.size; simp at this; omega
  go_wp2_with fail
  refine (toGroup_any _ l _ ((hr.below (by go_grown)).more (by go_size)) (by omega)).mono ?_
  rintro e w2 ⟨ao2, cap2, rfl, ho2, hb2⟩
  obtain ⟨hc2, hf2⟩ := bcell hb2
  have D2 : Below w1.heap.size w1 w2 := by refine Below.trans ?_ (hb2.mono ?_) <;> go_grown
  have B2 := bgo B1 D2
  have hz2 : w.heap.size < w2.heap.size := by have := D2.size; omega
  go_wp2_with fail
  refine (hS.out _ _ (Rd.of_own ho2)).mono ?_
  rintro e w3 ⟨rfl, hb3⟩
  obtain ⟨hc3, hf3⟩ := bcell hb3
  have D3 : Below w2.heap.size w2 w3 := by refine Below.trans ?_ (hb3.mono ?_) <;> go_grown
  have B3 := bgo B2 D3
  have hz3 : w.heap.size < w3.heap.size := by have := D3.size; omega
  go_wp2_with fail
  refine (toGroup_any _ l _ ((hr.below (by go_grown)).more (by go_size)) (by omega)).mono ?_
  rintro e w4 ⟨ao4, cap4, rfl, ho4, hb4⟩
  obtain ⟨hc4, hf4⟩ := bcell hb4
  have D4 : Below w3.heap.size w3 w4 := by refine Below.trans ?_ (hb4.mono ?_) <;> go_grown
  have B4 := bgo B3 D4
  have hz4 : w.heap.size < w4.heap.size := by have := D4.size; omega
  go_wp2_with fail
  refine (hI.out _ _ ((Rd.of_own ho4).alloc (Nat.le_refl _) _ |>.more (by go_size))).mono ?_
  rintro e w5 ⟨rfl, hb5⟩
  obtain ⟨hc5, hf5⟩ := bcell hb5
  have D5 : Below w4.heap.size w4 w5 := by refine Below.trans ?_ (hb5.mono ?_) <;> go_grown
  have B5 := bgo B4 D5
  have hz5 : w.heap.size < w5.heap.size := by have := D5.size; omega
  have c5 : w5.cell? ⟨w4.heap.size, 0, none⟩ = some (.slice ao4 l.length cap4) := by rw [hc5 _ _ (by go_size)]; simp [go_sem]
  have c6 : w5.cell? ⟨w.heap.size, 0, none⟩ = some (.slice ao l.length cap) := by rw [hc5 _ _ (by go_size)]; simp [go_sem, hc4, hc3, hc2, hc1, hz1, hz2, hz3, hz4]
  have sz5 : w4.heap.size < w5.heap.size := by have := hb5.size; simp at this; omega
  clear hc1 hc2 hc3 hc4 hc5 hf1 hf2 hf3 hf4 hf5
  go_wp2_with fail
  go_region_held3 (fun w' => w'.cell? ⟨w4.heap.size, 0, none⟩ = some (.slice ao4 l.length cap4) ∧ w'.cell? ⟨w.heap.size, 0, none⟩ = some (.slice ao l.length cap)) (first | go_keep | exact ⟨(hb6.cell sz5).trans c5, (hb6.cell hz5).trans c6⟩ | exact ⟨(hb7.cell (Nat.lt_of_lt_of_le sz5 sz6)).trans ((hb6.cell sz5).trans c5), (hb7.cell (Nat.lt_of_lt_of_le hz5 sz6)).trans ((hb6.cell hz5).trans c6)⟩) (first | (go_at_call 11; refine (toGroup_any _ l _ ((hr.below (by go_grown)).more (by go_size)) (by omega)).mono ?_; rintro e w6 ⟨ao6, cap6, rfl, ho6, hb6⟩; replace hb6 : Below w5.heap.size w5 w6 := (Below.refl w5.heap.size w5).drew.trans hb6; have sz6 := hb6.size) | (go_at_call 14; refine (eqGroup_same _ _ l _ (((Rd.of_own ho4).below (bgo D5 hb6)).more (bgo D5 hb6).size) (Rd.of_own ho6) (by omega)).mono ?_; rintro e w7 ⟨rfl, hb7⟩))
  go_wp2
  go_ret
  exact ⟨rfl, bgo (bgo B5 hb6) hb7⟩
theorem fnExactParseSet_walk (w : World) (ao : Option Addr) (len cap : Nat) (l : List Int) (w0 : Row .i64 w (.slice ao len cap) l) (a1 : ByteArray) (w1 : a1.size ≤ maxLen) :
    Calls Try.prog 7 #[.agg #[.slice ao len cap], .string a1] w fun e w' => e = .returned (.bool true) ∧ Below w.heap.size w w' := by
  obtain ⟨hr, _⟩ := w0
  obtain rfl := hr.len_eq
  by_cases hn : l.length ≤ 1048576
  · by_cases hs1 : a1.size ≤ 1048576
    · exact fnExactParseSet_w ao cap l a1 w hr hn hs1
    · unfold maxLen at w1
      go_enter Try.func7, Try.ntmps7
      go_wp2_with fail
      go_ret
      exact ⟨rfl, by go_grown⟩
  · have hm := hr.len_le
    unfold maxLen at w1
    go_enter Try.func7, Try.ntmps7
    by_cases hs1 : a1.size ≤ 1048576
    · go_wp2_with fail
      refine (szGroup_big _ _ _ _ _ hm (by omega) (by omega) (by omega)).mono ?_
      rintro e w1 ⟨rfl, hb1⟩
      have D1 : Below w.heap.size w w1 := by refine Below.trans ?_ (hb1.mono ?_) <;> go_grown
      go_wp2
      go_ret
      exact ⟨rfl, D1⟩
    · go_wp2_with fail
      go_ret
      exact ⟨rfl, by go_grown⟩
end Go.Proofs.Ytffbamjfpegndab
