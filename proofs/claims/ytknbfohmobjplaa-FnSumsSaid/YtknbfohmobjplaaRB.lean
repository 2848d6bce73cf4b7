
/- The draws that hand on a group with a set or two. Conditions: codes of at most 2^20 bytes. -/
import Derived.Test.YtknbfohmobjplaaRA
namespace Go.Proofs.Ytknbfohmobjplaa
set_option linter.unusedVariables false
set_option linter.unusedSimpArgs false
open Go.RowKit

theorem sDrawRestrictedSum_any (v : Value) (l : List Int) (w : World) (hr : Rd w w.heap.size .u8 v l) (hl : l.length ≤ 1048576) (hB : IsB l) :
    Calls Try.prog 6 #[v] w fun e w' => Dr2 w.heap.size e w' ∧ Below w.heap.size w w' := by
  have hD := hid fun w hr => sl3Two_any v l w hr hl hB
  replace hB := hid hB
  go_enter Try.func6, Try.ntmps6
  go_wp2_with fail
  refine (hD.out _ ((hr.alloc (Nat.le_refl _) _).more (by simp))).mono ?_
  rintro e w1 ⟨⟨u, g, x, y, rfl, hg, hx, hy⟩, hb1⟩
  obtain ⟨ao, cap, rfl⟩ := hg.shape
  obtain ⟨hc1, hf1⟩ := bcell hb1
  have r1 : w1.cell? ⟨w.heap.size, 0, none⟩ = some (.slice none 0 0) := by rw [hc1 _ _ (by simp)]; simp [go_sem]
  have s1 : w1.frozen? ⟨w.heap.size, 0, none⟩ = false := by rw [hf1 _ _ (by simp)]; simp [go_sem]
  have z1 : w.heap.size < w1.heap.size := by have := hb1.size; simp at this; omega
  have B1 : Below w.heap.size w w1 := (below_alloc _ _).trans (hb1.mono (by simp))
  replace hx := hid hx
  replace hy := hid hy
  replace hg := hid (hg.less (base' := w.heap.size + 1) (by simp))
  clear hc1 hf1 hb1
  go_wp2
  refine bodyPost_ret (v := .tuple #[.agg #[.slice ao g.length cap], .int .i64 x, .int .i64 y]) (by simp [results, Try.results6, go_sem, r1, z1]) rfl ?_
  exact ⟨⟨_, g, x, y, rfl, ((hg.out.set w.heap.size 0 _ (Nat.lt_succ_self _)).below (below_alloc _ _)).less (Nat.le_succ _), hx.out, hy.out⟩, (B1.setCell (p := ⟨w.heap.size, 0, none⟩) (Nat.le_refl _) _).alloc (by simp; omega) _⟩
theorem sDrawSubsetSums_any (v : Value) (l : List Int) (w : World) (hr : Rd w w.heap.size .u8 v l) (hl : l.length ≤ 1048576) (hB : IsB l) :
    Calls Try.prog 18 #[v] w fun e w' => Dr1 w.heap.size e w' ∧ Below w.heap.size w w' := by
  have hD := hid fun w hr => sl3One_any v l w hr hl hB
  replace hB := hid hB
  go_enter Try.func18, Try.ntmps18
  go_wp2_with fail
  refine (hD.out _ ((hr.alloc (Nat.le_refl _) _).more (by simp))).mono ?_
  rintro e w1 ⟨⟨u, g, x, rfl, hg, hx⟩, hb1⟩
  obtain ⟨ao, cap, rfl⟩ := hg.shape
  obtain ⟨hc1, hf1⟩ := bcell hb1
  have r1 : w1.cell? ⟨w.heap.size, 0, none⟩ = some (.slice none 0 0) := by rw [hc1 _ _ (by simp)]; simp [go_sem]
  have s1 : w1.frozen? ⟨w.heap.size, 0, none⟩ = false := by rw [hf1 _ _ (by simp)]; simp [go_sem]
  have z1 : w.heap.size < w1.heap.size := by have := hb1.size; simp at this; omega
  have B1 : Below w.heap.size w w1 := (below_alloc _ _).trans (hb1.mono (by simp))
  replace hx := hid hx
  replace hg := hid (hg.less (base' := w.heap.size + 1) (by simp))
  clear hc1 hf1 hb1
  go_wp2
  refine bodyPost_ret (v := .tuple #[.agg #[.slice ao g.length cap], .int .i64 x]) (by simp [results, Try.results18, go_sem, r1, z1]) rfl ?_
  exact ⟨⟨_, g, x, rfl, ((hg.out.set w.heap.size 0 _ (Nat.lt_succ_self _)).below (below_alloc _ _)).less (Nat.le_succ _), hx.out⟩, (B1.setCell (p := ⟨w.heap.size, 0, none⟩) (Nat.le_refl _) _).alloc (by simp; omega) _⟩
theorem sDrawGeneratedBy_any (v : Value) (l : List Int) (w : World) (hr : Rd w w.heap.size .u8 v l) (hl : l.length ≤ 1048576) (hB : IsB l) :
    Calls Try.prog 23 #[v] w fun e w' => Dr1 w.heap.size e w' ∧ Below w.heap.size w w' := by
  have hD := hid fun w hr => sl3One_any v l w hr hl hB
  replace hB := hid hB
  go_enter Try.func23, Try.ntmps23
  go_wp2_with fail
  refine (hD.out _ ((hr.alloc (Nat.le_refl _) _).more (by simp))).mono ?_
  rintro e w1 ⟨⟨u, g, x, rfl, hg, hx⟩, hb1⟩
  obtain ⟨ao, cap, rfl⟩ := hg.shape
  obtain ⟨hc1, hf1⟩ := bcell hb1
  have r1 : w1.cell? ⟨w.heap.size, 0, none⟩ = some (.slice none 0 0) := by rw [hc1 _ _ (by simp)]; simp [go_sem]
  have s1 : w1.frozen? ⟨w.heap.size, 0, none⟩ = false := by rw [hf1 _ _ (by simp)]; simp [go_sem]
  have z1 : w.heap.size < w1.heap.size := by have := hb1.size; simp at this; omega
  have B1 : Below w.heap.size w w1 := (below_alloc _ _).trans (hb1.mono (by simp))
  replace hx := hid hx
  replace hg := hid (hg.less (base' := w.heap.size + 1) (by simp))
  clear hc1 hf1 hb1
  go_wp2
  refine bodyPost_ret (v := .tuple #[.agg #[.slice ao g.length cap], .int .i64 x]) (by simp [results, Try.results23, go_sem, r1, z1]) rfl ?_
  exact ⟨⟨_, g, x, rfl, ((hg.out.set w.heap.size 0 _ (Nat.lt_succ_self _)).below (below_alloc _ _)).less (Nat.le_succ _), hx.out⟩, (B1.setCell (p := ⟨w.heap.size, 0, none⟩) (Nat.le_refl _) _).alloc (by simp; omega) _⟩
theorem sDrawAffineHull_any (v : Value) (l : List Int) (w : World) (hr : Rd w w.heap.size .u8 v l) (hl : l.length ≤ 1048576) (hB : IsB l) :
    Calls Try.prog 40 #[v] w fun e w' => Dr1 w.heap.size e w' ∧ Below w.heap.size w w' := by
  have hD := hid fun w hr => sl3One_any v l w hr hl hB
  replace hB := hid hB
  go_enter Try.func40, Try.ntmps40
  go_wp2_with fail
  refine (hD.out _ ((hr.alloc (Nat.le_refl _) _).more (by simp))).mono ?_
  rintro e w1 ⟨⟨u, g, x, rfl, hg, hx⟩, hb1⟩
  obtain ⟨ao, cap, rfl⟩ := hg.shape
  obtain ⟨hc1, hf1⟩ := bcell hb1
  have r1 : w1.cell? ⟨w.heap.size, 0, none⟩ = some (.slice none 0 0) := by rw [hc1 _ _ (by simp)]; simp [go_sem]
  have s1 : w1.frozen? ⟨w.heap.size, 0, none⟩ = false := by rw [hf1 _ _ (by simp)]; simp [go_sem]
  have z1 : w.heap.size < w1.heap.size := by have := hb1.size; simp at this; omega
  have B1 : Below w.heap.size w w1 := (below_alloc _ _).trans (hb1.mono (by simp))
  replace hx := hid hx
  replace hg := hid (hg.less (base' := w.heap.size + 1) (by simp))
  clear hc1 hf1 hb1
  go_wp2
  refine bodyPost_ret (v := .tuple #[.agg #[.slice ao g.length cap], .int .i64 x]) (by simp [results, Try.results40, go_sem, r1, z1]) rfl ?_
  exact ⟨⟨_, g, x, rfl, ((hg.out.set w.heap.size 0 _ (Nat.lt_succ_self _)).below (below_alloc _ _)).less (Nat.le_succ _), hx.out⟩, (B1.setCell (p := ⟨w.heap.size, 0, none⟩) (Nat.le_refl _) _).alloc (by simp; omega) _⟩
end Go.Proofs.Ytknbfohmobjplaa
