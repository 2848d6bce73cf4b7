
/- The draws of a group, a set or an element, and a number out of a list. Conditions: codes of at most 2^20 bytes. -/
import Derived.Test.YtknbfohmobjplaaRB
namespace Go.Proofs.Ytknbfohmobjplaa
set_option linter.unusedVariables false
set_option linter.unusedSimpArgs false
open Go.RowKit

theorem tmod_len (n m : Nat) (h : 0 < m) : ∃ k : Nat, k < m ∧ ((n : Int).tmod (m : Int)) = (k : Int) := ⟨n % m, Nat.mod_lt _ h, by rw [Int.tmod_eq_emod_of_nonneg (by omega)]; omega⟩
set_option maxRecDepth 100000 in
theorem sDrawMultipleSum_any (v : Value) (l : List Int) (w : World) (hr : Rd w w.heap.size .u8 v l) (hl : l.length ≤ 1048576) (hB : IsB l) :
    Calls Try.prog 14 #[v] w fun e w' => Dr2 w.heap.size e w' ∧ Below w.heap.size w w' := by
  have hD := hid fun w hr => sl3One_any v l w hr hl hB
  obtain ⟨k, hk, hm⟩ := tmod_len l.length 7 (by decide)
  obtain ⟨L, hL⟩ : ∃ L : List Int, L = [0, 1, 2, 3, -1, 31, 5] := ⟨_, rfl⟩
  have hkL : k < L.length := by rw [hL]; exact hk
  have hbd : ∀ x ∈ L, I64 x := by rw [hL]; unfold I64; decide
  have hy := hid (hbd _ (List.getElem_mem hkL))
  replace hm : (l.length : Int).tmod 7 = (k : Int) := hm
  replace hB := hid hB
  have hr0 := hid hr
  obtain ⟨aov, capv, rfl, _, _, _⟩ := hr
  obtain ⟨n, hN⟩ : ∃ n, n = l.length := ⟨_, rfl⟩
  rw [← hN] at hm hl hr0 hD ⊢
  replace hN := hid hN
  have hgm : (L.map (Value.int .i64))[k]'(by rw [List.length_map]; exact hkL) = .int .i64 L[k] := List.getElem_map ..
  obtain ⟨y, hyd⟩ : ∃ y, y = L[k] := ⟨_, rfl⟩
  rw [← hyd] at hy hgm
  clear hyd hbd
  subst hL
  simp only [List.map_cons, List.map_nil] at hgm
  go_enter Try.func14, Try.ntmps14
  go_wp2_with fail
  refine (hD.out _ ((hr0.out.alloc (Nat.le_refl _) _).more (by simp))).mono ?_
  rintro e w1 ⟨⟨u, g, x, rfl, hg, hx⟩, hb1⟩
  obtain ⟨ao, cap, rfl⟩ := hg.shape
  obtain ⟨hc1, hf1⟩ := bcell hb1
  have r1 : w1.cell? ⟨w.heap.size, 0, none⟩ = some (.slice none 0 0) := by rw [hc1 _ _ (by simp)]; simp [go_sem]
  have s1 : w1.frozen? ⟨w.heap.size, 0, none⟩ = false := by rw [hf1 _ _ (by simp)]; simp [go_sem]
  have z1 : w.heap.size < w1.heap.size := by have := hb1.size; simp at this; omega
  have B1 : Below w.heap.size w w1 := (below_alloc _ _).trans (hb1.mono (by simp))
  replace hx := hid hx
  replace hg := hid (hg.less (base' := w.heap.size + 1) (by simp))
  clear hc1 hf1 hb1 hD
  go_wp2_with fail
  obtain ⟨W, hW⟩ : ∃ W, W = w1.alloc (.cells #[.slice ao g.length cap] 26) := ⟨_, rfl⟩
  have bW : Below w1.heap.size w1 W := hW ▸ below_alloc _ _
  have cW : W.cell? ⟨w1.heap.size, 0, none⟩ = some (.slice ao g.length cap) := by rw [hW]; simp [go_sem]
  have zW : w1.heap.size < W.heap.size := by rw [hW]; simp
  rw [← hW]
  have rW := (bW.cell (p := ⟨w.heap.size, 0, none⟩) z1).trans r1
  have sW := (bW.frozen (p := ⟨w.heap.size, 0, none⟩) z1).trans s1
  have gW := hid (hg.out.below bW)
  have BW : Below w.heap.size w W := B1.trans (bW.mono (by omega))
  have zW0 : w.heap.size < W.heap.size := by omega
  clear hW r1 s1 hg B1 bW
  go_region
  go_wp2
  refine bodyPost_ret (v := .tuple #[.agg #[.slice ao g.length cap], .int .i64 x, .int .i64 y]) (by simp [results, Try.results14, go_sem, rW, zW0]) rfl ?_
  exact ⟨⟨_, g, x, y, rfl, (((gW.out.set w.heap.size 0 _ (Nat.lt_succ_self _)).below (below_alloc _ _)).less (Nat.le_succ _) : Rg _ _ _ _), hx.out, hy.out⟩, ((BW.setCell (p := ⟨w.heap.size, 0, none⟩) (Nat.le_refl _) _).alloc (by simp; omega) _).drew⟩
end Go.Proofs.Ytknbfohmobjplaa
