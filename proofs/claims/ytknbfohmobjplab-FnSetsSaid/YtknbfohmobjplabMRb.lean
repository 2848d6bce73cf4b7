/- Parts of the walk in one text: RA, RB, RC. Conditions: each theorem's own. -/
import Derived.Test.YtknbfohmobjplabR9
import Derived.Deep.RegionHeld3
namespace Go.Proofs.Ytknbfohmobjplab
set_option linter.unusedVariables false
set_option linter.unusedSimpArgs false
open Go.RowKit

/-- a drawn group: a slice that reads as l, in a block that is new -/
def Rg (w : World) (base : Nat) (v : Value) (l : List Int) : Prop := Rd w w.heap.size .i64 v l ∧ Fresh base v ∧ l.length ≤ 5
section
variable {w w' : World} {base base' c : Nat} {v : Value} {l : List Int}
theorem Rg.rd (h : Rg w base v l) : Rd w w.heap.size .i64 v l := h.1
theorem Rg.len (h : Rg w base v l) : l.length ≤ 1048576 := Nat.le_trans h.2.2 (by decide)
theorem Rg.shape (h : Rg w base v l) : ∃ ao cap, v = .slice ao l.length cap := by
  obtain ⟨ao, cap, hv, _⟩ := h.1
  exact ⟨ao, cap, hv⟩
theorem Rg.less (h : Rg w base v l) (hb : base' ≤ base) : Rg w base' v l := ⟨h.1, h.2.1.less hb, h.2.2⟩
theorem Rg.below (h : Rg w base v l) (hb : Below w.heap.size w w') : Rg w' base v l := ⟨(h.1.below hb).more hb.size, h.2.1, h.2.2⟩
theorem Rg.set (h : Rg w base v l) (g o : Nat) (u : Value) (hg : g < base) : Rg (w.setCell ⟨g, o, none⟩ u) base v l := by
  refine ⟨?_, h.2.1, h.2.2⟩
  have hne := h.2.1.ne hg
  obtain ⟨ao, cap, rfl, h1, h2, h3⟩ := h.1
  refine ⟨ao, cap, rfl, h1, h2, fun hl => ?_⟩
  obtain ⟨b, off, ha, hb, hc⟩ := h3 hl
  subst ha
  exact ⟨b, off, rfl, by simpa using hb, fun i hi => (cell_far (grown_set (w := w) (g := g) (o := o) (u := u)) ⟨b, off + i, none⟩ hb (by have := hne b off _ _ rfl; simpa using this)).trans (hc i hi)⟩
theorem Gd.rg (h : Gd w c v l) (hf : Fresh base v) (hl : l.length ≤ 5) : Rg w base v l := ⟨h.rd, hf, hl⟩
end
def I64 (x : Int) : Prop := -9223372036854775808 ≤ x ∧ x ≤ 9223372036854775807
def Dr0 (base : Nat) (e : Ending) (w : World) : Prop := ∃ u g, e = .returned (.agg #[u]) ∧ Rg w base u g
def Dr1 (base : Nat) (e : Ending) (w : World) : Prop := ∃ u g x, e = .returned (.tuple #[.agg #[u], .int .i64 x]) ∧ Rg w base u g ∧ I64 x
def Dr2 (base : Nat) (e : Ending) (w : World) : Prop := ∃ u g x y, e = .returned (.tuple #[.agg #[u], .int .i64 x, .int .i64 y]) ∧ Rg w base u g ∧ I64 x ∧ I64 y
def Dr3 (base : Nat) (e : Ending) (w : World) : Prop := ∃ u g x y z, e = .returned (.tuple #[.agg #[u], .int .i64 x, .int .i64 y, .int .i64 z]) ∧ Rg w base u g ∧ I64 x ∧ I64 y ∧ I64 z
theorem new_at {v : Value} {l : List Int} {w : World} (c : Nat) (hc : w.heap.size = c) (hr : Rd w c .u8 v l) (hl : l.length ≤ 1048576) :
    Calls Try.prog 80 #[v] w fun e w' => e = .returned (.pointer (some ⟨c, 0, none⟩)) ∧ Cur w' c c v l ∧ Below c w w' := by
  subst hc
  exact sl1New_any v l w hr (by omega)
set_option maxRecDepth 100000 in
set_option maxHeartbeats 800000 in
theorem sl3One_any (v : Value) (l : List Int) (w : World) (hr : Rd w w.heap.size .u8 v l) (hl : l.length ≤ 1048576) (hB : IsB l) :
    Calls Try.prog 94 #[v] w fun e w' => Dr1 w.heap.size e w' ∧ Below w.heap.size w w' := by
  have hA := hid fun c B w hc => sl2Any_any c B v l w hc (by omega) hB
  have hS := hid fun c B u g w hc hg hn => sl3Set_any c B v u l g w hc (by omega) hB hg hn
  replace hB := hid hB
  go_enter Try.func94, Try.ntmps94
  go_wp2_with fail
  refine (new_at (w.heap.size + 1) (by simp) ((hr.alloc (Nat.le_refl _) _).more (Nat.le_succ _)) hl).mono ?_
  rintro e w1 ⟨rfl, hc1, hb1⟩
  have B1 : Below w.heap.size w w1 := (below_alloc w (.cells #[.slice none 0 0] 26)).trans (hb1.mono (Nat.le_succ _))
  have r0 : w1.cell? ⟨w.heap.size, 0, none⟩ = some (.slice none 0 0) := (hb1.cell (p := ⟨w.heap.size, 0, none⟩) (Nat.lt_succ_self _)).trans (by simp [go_sem])
  have r1 : w1.frozen? ⟨w.heap.size, 0, none⟩ = false := (hb1.frozen (p := ⟨w.heap.size, 0, none⟩) (Nat.lt_succ_self _)).trans (by simp [go_sem])
  have hz1 : w.heap.size + 1 < w1.heap.size := hc1.lt
  clear hb1
  go_wp2_with fail
  refine (hA.out _ _ _ hc1).mono ?_
  rintro e w2 ⟨⟨u, g, rfl, hgd, hgl, hfr⟩, hc2, hg2⟩
  have hgd' := hgd
  obtain ⟨ao, cap, rfl, _, _, _⟩ := hgd'
  replace hfr := hid hfr
  have r0' := (cell_far hg2 ⟨w.heap.size, 0, none⟩ (by show w.heap.size < _; omega) (by simp)).trans r0
  have r1' := (frz_far hg2 ⟨w.heap.size, 0, none⟩ (by show w.heap.size < _; omega) (by simp)).trans r1
  have B2 : Below w.heap.size w w2 := B1.grown hg2 B1.size fun g hg => by have := Option.some.inj hg; omega
  have hz2 : w1.heap.size ≤ w2.heap.size := hg2.size
  have c2l := hc2.lt
  clear r0 r1 hg2 hc1 B1
  go_wp2_with fail
  obtain ⟨W, hW⟩ : ∃ W, W = w2.alloc (.cells #[.slice ao g.length cap] 26) := ⟨_, rfl⟩
  have bW : Below w2.heap.size w2 W := hW ▸ below_alloc _ _
  have cW : W.cell? ⟨w2.heap.size, 0, none⟩ = some (.slice ao g.length cap) := by rw [hW]; simp [go_sem]
  have zW : w2.heap.size < W.heap.size := by rw [hW]; simp
  rw [← hW]
  have rW := (bW.cell (p := ⟨w.heap.size, 0, none⟩) (by show w.heap.size < _; omega)).trans r0'
  have sW := (bW.frozen (p := ⟨w.heap.size, 0, none⟩) (by show w.heap.size < _; omega)).trans r1'
  have hcW := hc2.below bW
  have gdW := hgd.below bW
  have BW : Below w.heap.size w W := B2.trans (bW.mono (by omega))
  clear hW r0' r1' hc2 hgd B2 bW
  refine wp_region_held_drew (S := fun w' => w'.cell? ⟨w2.heap.size, 0, none⟩ = some (.slice ao g.length cap)) (by kernel_rfl) cW (fun hH0 => ?_)
  refine wpAnyH_take (i := 0) (v := ?_) rfl (by kernel_rfl) (by kernel_rfl) (by kernel_rfl) (fun _ _ _ h => h) (Or.inl ⟨by first | kernel_rfl | rfl, ?_⟩) (by assumption) ?_
  rotate_left
  · (intro w hSw; (try dsimp only at hSw); go_simp; try with_reducible rfl)
  simp only [List.getElem_toArray, List.getElem_cons_zero, List.getElem_cons_succ, Act.put, List.setIfInBounds_toArray, List.set_cons_zero, List.set_cons_succ]
  refine wpAnyH_take (i := 1) (v := ?_) rfl (by kernel_rfl) (by kernel_rfl) (by kernel_rfl) (fun _ _ _ h => h) (Or.inl ⟨by first | kernel_rfl | rfl, ?_⟩) (by assumption) ?_
  rotate_left
  · (intro w hSw; (try dsimp only at hSw); go_simp; try with_reducible rfl)
  simp only [List.getElem_toArray, List.getElem_cons_zero, List.getElem_cons_succ, Act.put, List.setIfInBounds_toArray, List.set_cons_zero, List.set_cons_succ]
  refine wpAnyH_take (i := 2) (v := ?_) rfl (by kernel_rfl) (by kernel_rfl) (by kernel_rfl) (fun _ _ _ h => h) (Or.inl ⟨by first | kernel_rfl | rfl, ?_⟩) (by assumption) ?_
  rotate_left
  · (intro w hSw; (try dsimp only at hSw); go_simp; try with_reducible rfl)
  simp only [List.getElem_toArray, List.getElem_cons_zero, List.getElem_cons_succ, Act.put, List.setIfInBounds_toArray, List.set_cons_zero, List.set_cons_succ]
  refine wpAnyH_ready (rs := [3]) (by kernel_rfl) (by simp) ?_
  refine AllReadyH.cons rfl (fun K3 hK3 => ?_) AllReadyH.nil
  go_simp
  go_at_call 103
  refine (hS.out _ _ _ _ _ (hcW.below (Below.refl _ _).drew) (gdW.below (Below.refl _ _).drew) (by omega)).mono ?_
  rintro e w3 ⟨⟨x, rfl, hx⟩, hc3, hg3⟩
  replace hg3 : W.grownBy w3 (some (w.heap.size + 1)) := grown_trans (below_grown (Below.refl W.heap.size W).drew _) hg3
  have r3 := (cell_far hg3 ⟨w.heap.size, 0, none⟩ (by show w.heap.size < _; omega) (by simp)).trans rW
  have s3 := (frz_far hg3 ⟨w.heap.size, 0, none⟩ (by show w.heap.size < _; omega) (by simp)).trans sW
  have c3 := (cell_far hg3 ⟨w2.heap.size, 0, none⟩ zW (by simp; omega)).trans cW
  have gd3 := gdW.drawn hg3
  have B3 : Below w.heap.size w w3 := BW.grown hg3 BW.size fun g hg => by have := Option.some.inj hg; omega
  have z3 : w.heap.size < w3.heap.size := by have := hg3.size; omega
  have z32 : w2.heap.size < w3.heap.size := Nat.lt_of_lt_of_le zW hg3.size
  replace hx := hid hx
  clear hcW gdW BW rW sW cW hg3
  go_wp2_with fail
  refine hK3.out _ _ c3 (fun hH3 => ?_)
  refine wpAnyH_ready (rs := [4]) (by kernel_rfl) (by simp) ?_
  refine AllReadyH.cons rfl (fun K4 hK4 => ?_) AllReadyH.nil
  go_simp
  refine hK4.out _ _ ((cell_far grown_set ⟨w2.heap.size, 0, none⟩ z32 (by simp; omega)).trans c3) (fun hH4 => ?_)
  refine wpAnyH_take (i := 5) (v := ?_) rfl (by kernel_rfl) (by kernel_rfl) (by kernel_rfl) (fun _ _ _ h => h) (Or.inl ⟨by first | kernel_rfl | rfl, ?_⟩) (by assumption) ?_
  rotate_left
  · (intro w hSw; (try dsimp only at hSw); go_simp; try with_reducible rfl)
  simp only [List.getElem_toArray, List.getElem_cons_zero, List.getElem_cons_succ, Act.put, List.setIfInBounds_toArray, List.set_cons_zero, List.set_cons_succ]
  refine wpAnyH_done (by kernel_rfl) ?_ _
  go_wp2
  refine bodyPost_ret (v := .tuple #[.agg #[.slice ao g.length cap], .int .i64 x]) (by simp [results, Try.results94, go_sem, r3, z3]) rfl ?_
  exact ⟨⟨_, g, x, rfl, ((gd3.rg hfr.out hgl).set w.heap.size 0 _ (by omega)).less (by omega), hx.out⟩, B3.setCell (p := ⟨w.heap.size, 0, none⟩) (Nat.le_refl _) _⟩
set_option maxRecDepth 100000 in
set_option maxHeartbeats 800000 in
theorem sDrawShiftSet_any (v : Value) (l : List Int) (w : World) (hr : Rd w w.heap.size .u8 v l) (hl : l.length ≤ 1048576) (hB : IsB l) :
    Calls Try.prog 51 #[v] w fun e w' => Dr2 w.heap.size e w' ∧ Below w.heap.size w w' := by
  have hA := hid fun c B w hc => sl2Any_any c B v l w hc (by omega) hB
  have hE := hid fun c B u g w hc hg hn => sl2Element_any c B v u l g w hc (by omega) hB hg hn
  have hS := hid fun c B u g w hc hg hn => sl3Set_any c B v u l g w hc (by omega) hB hg hn
  replace hB := hid hB
  go_enter Try.func51, Try.ntmps51
  go_wp2_with fail
  refine (new_at (w.heap.size + 1) (by simp) ((hr.alloc (Nat.le_refl _) _).more (Nat.le_succ _)) hl).mono ?_
  rintro e w1 ⟨rfl, hc1, hb1⟩
  have B1 : Below w.heap.size w w1 := (below_alloc w (.cells #[.slice none 0 0] 26)).trans (hb1.mono (Nat.le_succ _))
  have r0 : w1.cell? ⟨w.heap.size, 0, none⟩ = some (.slice none 0 0) := (hb1.cell (p := ⟨w.heap.size, 0, none⟩) (Nat.lt_succ_self _)).trans (by simp [go_sem])
  have r1 : w1.frozen? ⟨w.heap.size, 0, none⟩ = false := (hb1.frozen (p := ⟨w.heap.size, 0, none⟩) (Nat.lt_succ_self _)).trans (by simp [go_sem])
  have hz1 : w.heap.size + 1 < w1.heap.size := hc1.lt
  clear hb1
  go_wp2_with fail
  refine (hA.out _ _ _ hc1).mono ?_
  rintro e w2 ⟨⟨u, g, rfl, hgd, hgl, hfr⟩, hc2, hg2⟩
  have hgd' := hgd
  obtain ⟨ao, cap, rfl, _, _, _⟩ := hgd'
  replace hfr := hid hfr
  have r0' := (cell_far hg2 ⟨w.heap.size, 0, none⟩ (by show w.heap.size < _; omega) (by simp)).trans r0
  have r1' := (frz_far hg2 ⟨w.heap.size, 0, none⟩ (by show w.heap.size < _; omega) (by simp)).trans r1
  have B2 : Below w.heap.size w w2 := B1.grown hg2 B1.size fun g hg => by have := Option.some.inj hg; omega
  have hz2 : w1.heap.size ≤ w2.heap.size := hg2.size
  have c2l := hc2.lt
  clear r0 r1 hg2 hc1 B1
  go_wp2_with fail
  obtain ⟨W, hW⟩ : ∃ W, W = w2.alloc (.cells #[.slice ao g.length cap] 26) := ⟨_, rfl⟩
  have bW : Below w2.heap.size w2 W := hW ▸ below_alloc _ _
  have cW : W.cell? ⟨w2.heap.size, 0, none⟩ = some (.slice ao g.length cap) := by rw [hW]; simp [go_sem]
  have zW : w2.heap.size < W.heap.size := by rw [hW]; simp
  rw [← hW]
  have rW := (bW.cell (p := ⟨w.heap.size, 0, none⟩) (by show w.heap.size < _; omega)).trans r0'
  have sW := (bW.frozen (p := ⟨w.heap.size, 0, none⟩) (by show w.heap.size < _; omega)).trans r1'
  have hcW := hc2.below bW
  have gdW := hgd.below bW
  have BW : Below w.heap.size w W := B2.trans (bW.mono (by omega))
  clear hW r0' r1' hc2 hgd B2 bW
  refine (hS.out _ _ _ _ _ hcW gdW (by omega)).mono ?_
  rintro e v0 ⟨⟨x0, rfl, hx0⟩, hc3, hg3⟩
  replace rW := (cell_far hg3 ⟨w.heap.size, 0, none⟩ (by show w.heap.size < _; omega) (by simp)).trans rW
  replace sW := (frz_far hg3 ⟨w.heap.size, 0, none⟩ (by show w.heap.size < _; omega) (by simp)).trans sW
  replace cW := (cell_far hg3 ⟨w2.heap.size, 0, none⟩ zW (by simp; omega)).trans cW
  replace gdW := gdW.drawn hg3
  replace BW : Below w.heap.size w v0 := BW.grown hg3 BW.size fun g hg => by have := Option.some.inj hg; omega
  replace zW : w2.heap.size < v0.heap.size := Nat.lt_of_lt_of_le zW hg3.size
  replace hx0 := hid hx0
  replace hcW := hc3
  clear hg3
  go_wp2_with fail
  refine wp_region_held_drew (S := fun w' => w'.cell? ⟨w2.heap.size, 0, none⟩ = some (.slice ao g.length cap)) (by kernel_rfl) cW (fun hH0 => ?_)
  refine wpAnyH_take (i := 0) (v := ?_) rfl (by kernel_rfl) (by kernel_rfl) (by kernel_rfl) (fun _ _ _ h => h) (Or.inl ⟨by first | kernel_rfl | rfl, ?_⟩) (by assumption) ?_
  rotate_left
  · (intro w hSw; (try dsimp only at hSw); go_simp; try with_reducible rfl)
  simp only [List.getElem_toArray, List.getElem_cons_zero, List.getElem_cons_succ, Act.put, List.setIfInBounds_toArray, List.set_cons_zero, List.set_cons_succ]
  refine wpAnyH_take (i := 1) (v := ?_) rfl (by kernel_rfl) (by kernel_rfl) (by kernel_rfl) (fun _ _ _ h => h) (Or.inl ⟨by first | kernel_rfl | rfl, ?_⟩) (by assumption) ?_
  rotate_left
  · (intro w hSw; (try dsimp only at hSw); go_simp; try with_reducible rfl)
  simp only [List.getElem_toArray, List.getElem_cons_zero, List.getElem_cons_succ, Act.put, List.setIfInBounds_toArray, List.set_cons_zero, List.set_cons_succ]
  refine wpAnyH_take (i := 2) (v := ?_) rfl (by kernel_rfl) (by kernel_rfl) (by kernel_rfl) (fun _ _ _ h => h) (Or.inl ⟨by first | kernel_rfl | rfl, ?_⟩) (by assumption) ?_
  rotate_left
  · (intro w hSw; (try dsimp only at hSw); go_simp; try with_reducible rfl)
  simp only [List.getElem_toArray, List.getElem_cons_zero, List.getElem_cons_succ, Act.put, List.setIfInBounds_toArray, List.set_cons_zero, List.set_cons_succ]
  refine wpAnyH_take (i := 3) (v := ?_) rfl (by kernel_rfl) (by kernel_rfl) (by kernel_rfl) (fun _ _ _ h => h) (Or.inl ⟨by first | kernel_rfl | rfl, ?_⟩) (by assumption) ?_
  rotate_left
  · (intro w hSw; (try dsimp only at hSw); go_simp; try with_reducible rfl)
  simp only [List.getElem_toArray, List.getElem_cons_zero, List.getElem_cons_succ, Act.put, List.setIfInBounds_toArray, List.set_cons_zero, List.set_cons_succ]
  refine wpAnyH_ready (rs := [4]) (by kernel_rfl) (by simp) ?_
  refine AllReadyH.cons rfl (fun K4 hK4 => ?_) AllReadyH.nil
  go_simp
  go_at_call 89
  refine (hE.out _ _ _ _ _ (hcW.below (Below.refl _ _).drew) (gdW.below (Below.refl _ _).drew) (by omega)).mono ?_
  rintro e w3 ⟨⟨x, rfl, hx⟩, hc3, hg3⟩
  replace hg3 : v0.grownBy w3 (some (w.heap.size + 1)) := grown_trans (below_grown (Below.refl v0.heap.size v0).drew _) hg3
  have r3 := (cell_far hg3 ⟨w.heap.size, 0, none⟩ (by show w.heap.size < _; omega) (by simp)).trans rW
  have s3 := (frz_far hg3 ⟨w.heap.size, 0, none⟩ (by show w.heap.size < _; omega) (by simp)).trans sW
  have c3 := (cell_far hg3 ⟨w2.heap.size, 0, none⟩ zW (by simp; omega)).trans cW
  have gd3 := gdW.drawn hg3
  have B3 : Below w.heap.size w w3 := BW.grown hg3 BW.size fun g hg => by have := Option.some.inj hg; omega
  have z3 : w.heap.size < w3.heap.size := by have := hg3.size; omega
  have z32 : w2.heap.size < w3.heap.size := Nat.lt_of_lt_of_le zW hg3.size
  replace hx := hid hx
  clear hcW gdW BW rW sW cW hg3
  go_wp2_with fail
  refine hK4.out _ _ c3 (fun hH3 => ?_)
  refine wpAnyH_ready (rs := [5]) (by kernel_rfl) (by simp) ?_
  refine AllReadyH.cons rfl (fun K5 hK5 => ?_) AllReadyH.nil
  go_simp
  refine hK5.out _ _ ((cell_far grown_set ⟨w2.heap.size, 0, none⟩ z32 (by simp; omega)).trans c3) (fun hH4 => ?_)
  refine wpAnyH_take (i := 6) (v := ?_) rfl (by kernel_rfl) (by kernel_rfl) (by kernel_rfl) (fun _ _ _ h => h) (Or.inl ⟨by first | kernel_rfl | rfl, ?_⟩) (by assumption) ?_
  rotate_left
  · (intro w hSw; (try dsimp only at hSw); go_simp; try with_reducible rfl)
  simp only [List.getElem_toArray, List.getElem_cons_zero, List.getElem_cons_succ, Act.put, List.setIfInBounds_toArray, List.set_cons_zero, List.set_cons_succ]
  refine wpAnyH_take (i := 7) (v := ?_) rfl (by kernel_rfl) (by kernel_rfl) (by kernel_rfl) (fun _ _ _ h => h) (Or.inl ⟨by first | kernel_rfl | rfl, ?_⟩) (by assumption) ?_
  rotate_left
  · (intro w hSw; (try dsimp only at hSw); go_simp; try with_reducible rfl)
  simp only [List.getElem_toArray, List.getElem_cons_zero, List.getElem_cons_succ, Act.put, List.setIfInBounds_toArray, List.set_cons_zero, List.set_cons_succ]
  refine wpAnyH_done (by kernel_rfl) ?_ _
  go_wp2
  refine bodyPost_ret (v := .tuple #[.agg #[.slice ao g.length cap], .int .i64 x0, .int .i64 x]) (by simp [results, Try.results51, go_sem, r3, z3]) rfl ?_
  exact ⟨⟨_, g, x0, x, rfl, ((gd3.rg hfr.out hgl).set w.heap.size 0 _ (by omega)).less (by omega), hx0.out, hx.out⟩, B3.setCell (p := ⟨w.heap.size, 0, none⟩) (Nat.le_refl _) _⟩
set_option maxRecDepth 100000 in
set_option maxHeartbeats 800000 in
theorem sl2One_any (v : Value) (l : List Int) (w : World) (hr : Rd w w.heap.size .u8 v l) (hl : l.length ≤ 1048576) (hB : IsB l) :
    Calls Try.prog 88 #[v] w fun e w' => Dr1 w.heap.size e w' ∧ Below w.heap.size w w' := by
  have hA := hid fun c B w hc => sl2Any_any c B v l w hc (by omega) hB
  have hE := hid fun c B u g w hc hg hn => sl2Element_any c B v u l g w hc (by omega) hB hg hn
  replace hB := hid hB
  go_enter Try.func88, Try.ntmps88
  go_wp2_with fail
  refine (new_at (w.heap.size + 1) (by simp) ((hr.alloc (Nat.le_refl _) _).more (Nat.le_succ _)) hl).mono ?_
  rintro e w1 ⟨rfl, hc1, hb1⟩
  have B1 : Below w.heap.size w w1 := (below_alloc w (.cells #[.slice none 0 0] 26)).trans (hb1.mono (Nat.le_succ _))
  have r0 : w1.cell? ⟨w.heap.size, 0, none⟩ = some (.slice none 0 0) := (hb1.cell (p := ⟨w.heap.size, 0, none⟩) (Nat.lt_succ_self _)).trans (by simp [go_sem])
  have r1 : w1.frozen? ⟨w.heap.size, 0, none⟩ = false := (hb1.frozen (p := ⟨w.heap.size, 0, none⟩) (Nat.lt_succ_self _)).trans (by simp [go_sem])
  have hz1 : w.heap.size + 1 < w1.heap.size := hc1.lt
  clear hb1
  go_wp2_with fail
  refine (hA.out _ _ _ hc1).mono ?_
  rintro e w2 ⟨⟨u, g, rfl, hgd, hgl, hfr⟩, hc2, hg2⟩
  have hgd' := hgd
  obtain ⟨ao, cap, rfl, _, _, _⟩ := hgd'
  replace hfr := hid hfr
  have r0' := (cell_far hg2 ⟨w.heap.size, 0, none⟩ (by show w.heap.size < _; omega) (by simp)).trans r0
  have r1' := (frz_far hg2 ⟨w.heap.size, 0, none⟩ (by show w.heap.size < _; omega) (by simp)).trans r1
  have B2 : Below w.heap.size w w2 := B1.grown hg2 B1.size fun g hg => by have := Option.some.inj hg; omega
  have hz2 : w1.heap.size ≤ w2.heap.size := hg2.size
  have c2l := hc2.lt
  clear r0 r1 hg2 hc1 B1
  go_wp2_with fail
  obtain ⟨W, hW⟩ : ∃ W, W = w2.alloc (.cells #[.slice ao g.length cap] 26) := ⟨_, rfl⟩
  have bW : Below w2.heap.size w2 W := hW ▸ below_alloc _ _
  have cW : W.cell? ⟨w2.heap.size, 0, none⟩ = some (.slice ao g.length cap) := by rw [hW]; simp [go_sem]
  have zW : w2.heap.size < W.heap.size := by rw [hW]; simp
  rw [← hW]
  have rW := (bW.cell (p := ⟨w.heap.size, 0, none⟩) (by show w.heap.size < _; omega)).trans r0'
  have sW := (bW.frozen (p := ⟨w.heap.size, 0, none⟩) (by show w.heap.size < _; omega)).trans r1'
  have hcW := hc2.below bW
  have gdW := hgd.below bW
  have BW : Below w.heap.size w W := B2.trans (bW.mono (by omega))
  clear hW r0' r1' hc2 hgd B2 bW
  refine wp_region_held_drew (S := fun w' => w'.cell? ⟨w2.heap.size, 0, none⟩ = some (.slice ao g.length cap)) (by kernel_rfl) cW (fun hH0 => ?_)
  refine wpAnyH_take (i := 0) (v := ?_) rfl (by kernel_rfl) (by kernel_rfl) (by kernel_rfl) (fun _ _ _ h => h) (Or.inl ⟨by first | kernel_rfl | rfl, ?_⟩) (by assumption) ?_
  rotate_left
  · (intro w hSw; (try dsimp only at hSw); go_simp; try with_reducible rfl)
  simp only [List.getElem_toArray, List.getElem_cons_zero, List.getElem_cons_succ, Act.put, List.setIfInBounds_toArray, List.set_cons_zero, List.set_cons_succ]
  refine wpAnyH_take (i := 1) (v := ?_) rfl (by kernel_rfl) (by kernel_rfl) (by kernel_rfl) (fun _ _ _ h => h) (Or.inl ⟨by first | kernel_rfl | rfl, ?_⟩) (by assumption) ?_
  rotate_left
  · (intro w hSw; (try dsimp only at hSw); go_simp; try with_reducible rfl)
  simp only [List.getElem_toArray, List.getElem_cons_zero, List.getElem_cons_succ, Act.put, List.setIfInBounds_toArray, List.set_cons_zero, List.set_cons_succ]
  refine wpAnyH_take (i := 2) (v := ?_) rfl (by kernel_rfl) (by kernel_rfl) (by kernel_rfl) (fun _ _ _ h => h) (Or.inl ⟨by first | kernel_rfl | rfl, ?_⟩) (by assumption) ?_
  rotate_left
  · (intro w hSw; (try dsimp only at hSw); go_simp; try with_reducible rfl)
  simp only [List.getElem_toArray, List.getElem_cons_zero, List.getElem_cons_succ, Act.put, List.setIfInBounds_toArray, List.set_cons_zero, List.set_cons_succ]
  refine wpAnyH_ready (rs := [3]) (by kernel_rfl) (by simp) ?_
  refine AllReadyH.cons rfl (fun K3 hK3 => ?_) AllReadyH.nil
  go_simp
  go_at_call 89
  refine (hE.out _ _ _ _ _ (hcW.below (Below.refl _ _).drew) (gdW.below (Below.refl _ _).drew) (by omega)).mono ?_
  rintro e w3 ⟨⟨x, rfl, hx⟩, hc3, hg3⟩
  replace hg3 : W.grownBy w3 (some (w.heap.size + 1)) := grown_trans (below_grown (Below.refl W.heap.size W).drew _) hg3
  have r3 := (cell_far hg3 ⟨w.heap.size, 0, none⟩ (by show w.heap.size < _; omega) (by simp)).trans rW
  have s3 := (frz_far hg3 ⟨w.heap.size, 0, none⟩ (by show w.heap.size < _; omega) (by simp)).trans sW
  have c3 := (cell_far hg3 ⟨w2.heap.size, 0, none⟩ zW (by simp; omega)).trans cW
  have gd3 := gdW.drawn hg3
  have B3 : Below w.heap.size w w3 := BW.grown hg3 BW.size fun g hg => by have := Option.some.inj hg; omega
  have z3 : w.heap.size < w3.heap.size := by have := hg3.size; omega
  have z32 : w2.heap.size < w3.heap.size := Nat.lt_of_lt_of_le zW hg3.size
  replace hx := hid hx
  clear hcW gdW BW rW sW cW hg3
  go_wp2_with fail
  refine hK3.out _ _ c3 (fun hH3 => ?_)
  refine wpAnyH_ready (rs := [4]) (by kernel_rfl) (by simp) ?_
  refine AllReadyH.cons rfl (fun K4 hK4 => ?_) AllReadyH.nil
  go_simp
  refine hK4.out _ _ ((cell_far grown_set ⟨w2.heap.size, 0, none⟩ z32 (by simp; omega)).trans c3) (fun hH4 => ?_)
  refine wpAnyH_take (i := 5) (v := ?_) rfl (by kernel_rfl) (by kernel_rfl) (by kernel_rfl) (fun _ _ _ h => h) (Or.inl ⟨by first | kernel_rfl | rfl, ?_⟩) (by assumption) ?_
  rotate_left
  · (intro w hSw; (try dsimp only at hSw); go_simp; try with_reducible rfl)
  simp only [List.getElem_toArray, List.getElem_cons_zero, List.getElem_cons_succ, Act.put, List.setIfInBounds_toArray, List.set_cons_zero, List.set_cons_succ]
  refine wpAnyH_done (by kernel_rfl) ?_ _
  go_wp2
  refine bodyPost_ret (v := .tuple #[.agg #[.slice ao g.length cap], .int .i64 x]) (by simp [results, Try.results88, go_sem, r3, z3]) rfl ?_
  exact ⟨⟨_, g, x, rfl, ((gd3.rg hfr.out hgl).set w.heap.size 0 _ (by omega)).less (by omega), hx.out⟩, B3.setCell (p := ⟨w.heap.size, 0, none⟩) (Nat.le_refl _) _⟩
set_option maxRecDepth 100000 in
set_option maxHeartbeats 800000 in
theorem sl2Two_any (v : Value) (l : List Int) (w : World) (hr : Rd w w.heap.size .u8 v l) (hl : l.length ≤ 1048576) (hB : IsB l) :
    Calls Try.prog 64 #[v] w fun e w' => Dr2 w.heap.size e w' ∧ Below w.heap.size w w' := by
  have hA := hid fun c B w hc => sl2Any_any c B v l w hc (by omega) hB
  have hE := hid fun c B u g w hc hg hn => sl2Element_any c B v u l g w hc (by omega) hB hg hn
  replace hB := hid hB
  go_enter Try.func64, Try.ntmps64
  go_wp2_with fail
  refine (new_at (w.heap.size + 1) (by simp) ((hr.alloc (Nat.le_refl _) _).more (Nat.le_succ _)) hl).mono ?_
  rintro e w1 ⟨rfl, hc1, hb1⟩
  have B1 : Below w.heap.size w w1 := (below_alloc w (.cells #[.slice none 0 0] 26)).trans (hb1.mono (Nat.le_succ _))
  have r0 : w1.cell? ⟨w.heap.size, 0, none⟩ = some (.slice none 0 0) := (hb1.cell (p := ⟨w.heap.size, 0, none⟩) (Nat.lt_succ_self _)).trans (by simp [go_sem])
  have r1 : w1.frozen? ⟨w.heap.size, 0, none⟩ = false := (hb1.frozen (p := ⟨w.heap.size, 0, none⟩) (Nat.lt_succ_self _)).trans (by simp [go_sem])
  have hz1 : w.heap.size + 1 < w1.heap.size := hc1.lt
  clear hb1
  go_wp2_with fail
  refine (hA.out _ _ _ hc1).mono ?_
  rintro e w2 ⟨⟨u, g, rfl, hgd, hgl, hfr⟩, hc2, hg2⟩
  have hgd' := hgd
  obtain ⟨ao, cap, rfl, _, _, _⟩ := hgd'
  replace hfr := hid hfr
  have r0' := (cell_far hg2 ⟨w.heap.size, 0, none⟩ (by show w.heap.size < _; omega) (by simp)).trans r0
  have r1' := (frz_far hg2 ⟨w.heap.size, 0, none⟩ (by show w.heap.size < _; omega) (by simp)).trans r1
  have B2 : Below w.heap.size w w2 := B1.grown hg2 B1.size fun g hg => by have := Option.some.inj hg; omega
  have hz2 : w1.heap.size ≤ w2.heap.size := hg2.size
  have c2l := hc2.lt
  clear r0 r1 hg2 hc1 B1
  go_wp2_with fail
  obtain ⟨W, hW⟩ : ∃ W, W = w2.alloc (.cells #[.slice ao g.length cap] 26) := ⟨_, rfl⟩
  have bW : Below w2.heap.size w2 W := hW ▸ below_alloc _ _
  have cW : W.cell? ⟨w2.heap.size, 0, none⟩ = some (.slice ao g.length cap) := by rw [hW]; simp [go_sem]
  have zW : w2.heap.size < W.heap.size := by rw [hW]; simp
  rw [← hW]
  have rW := (bW.cell (p := ⟨w.heap.size, 0, none⟩) (by show w.heap.size < _; omega)).trans r0'
  have sW := (bW.frozen (p := ⟨w.heap.size, 0, none⟩) (by show w.heap.size < _; omega)).trans r1'
  have hcW := hc2.below bW
  have gdW := hgd.below bW
  have BW : Below w.heap.size w W := B2.trans (bW.mono (by omega))
  clear hW r0' r1' hc2 hgd B2 bW
  refine (hE.out _ _ _ _ _ hcW gdW (by omega)).mono ?_
  rintro e v0 ⟨⟨x0, rfl, hx0⟩, hc3, hg3⟩
  replace rW := (cell_far hg3 ⟨w.heap.size, 0, none⟩ (by show w.heap.size < _; omega) (by simp)).trans rW
  replace sW := (frz_far hg3 ⟨w.heap.size, 0, none⟩ (by show w.heap.size < _; omega) (by simp)).trans sW
  replace cW := (cell_far hg3 ⟨w2.heap.size, 0, none⟩ zW (by simp; omega)).trans cW
  replace gdW := gdW.drawn hg3
  replace BW : Below w.heap.size w v0 := BW.grown hg3 BW.size fun g hg => by have := Option.some.inj hg; omega
  replace zW : w2.heap.size < v0.heap.size := Nat.lt_of_lt_of_le zW hg3.size
  replace hx0 := hid hx0
  replace hcW := hc3
  clear hg3
  go_wp2_with fail
  refine wp_region_held_drew (S := fun w' => w'.cell? ⟨w2.heap.size, 0, none⟩ = some (.slice ao g.length cap)) (by kernel_rfl) cW (fun hH0 => ?_)
  refine wpAnyH_take (i := 0) (v := ?_) rfl (by kernel_rfl) (by kernel_rfl) (by kernel_rfl) (fun _ _ _ h => h) (Or.inl ⟨by first | kernel_rfl | rfl, ?_⟩) (by assumption) ?_
  rotate_left
  · (intro w hSw; (try dsimp only at hSw); go_simp; try with_reducible rfl)
  simp only [List.getElem_toArray, List.getElem_cons_zero, List.getElem_cons_succ, Act.put, List.setIfInBounds_toArray, List.set_cons_zero, List.set_cons_succ]
  refine wpAnyH_take (i := 1) (v := ?_) rfl (by kernel_rfl) (by kernel_rfl) (by kernel_rfl) (fun _ _ _ h => h) (Or.inl ⟨by first | kernel_rfl | rfl, ?_⟩) (by assumption) ?_
  rotate_left
  · (intro w hSw; (try dsimp only at hSw); go_simp; try with_reducible rfl)
  simp only [List.getElem_toArray, List.getElem_cons_zero, List.getElem_cons_succ, Act.put, List.setIfInBounds_toArray, List.set_cons_zero, List.set_cons_succ]
  refine wpAnyH_take (i := 2) (v := ?_) rfl (by kernel_rfl) (by kernel_rfl) (by kernel_rfl) (fun _ _ _ h => h) (Or.inl ⟨by first | kernel_rfl | rfl, ?_⟩) (by assumption) ?_
  rotate_left
  · (intro w hSw; (try dsimp only at hSw); go_simp; try with_reducible rfl)
  simp only [List.getElem_toArray, List.getElem_cons_zero, List.getElem_cons_succ, Act.put, List.setIfInBounds_toArray, List.set_cons_zero, List.set_cons_succ]
  refine wpAnyH_take (i := 3) (v := ?_) rfl (by kernel_rfl) (by kernel_rfl) (by kernel_rfl) (fun _ _ _ h => h) (Or.inl ⟨by first | kernel_rfl | rfl, ?_⟩) (by assumption) ?_
  rotate_left
  · (intro w hSw; (try dsimp only at hSw); go_simp; try with_reducible rfl)
  simp only [List.getElem_toArray, List.getElem_cons_zero, List.getElem_cons_succ, Act.put, List.setIfInBounds_toArray, List.set_cons_zero, List.set_cons_succ]
  refine wpAnyH_ready (rs := [4]) (by kernel_rfl) (by simp) ?_
  refine AllReadyH.cons rfl (fun K4 hK4 => ?_) AllReadyH.nil
  go_simp
  go_at_call 89
  refine (hE.out _ _ _ _ _ (hcW.below (Below.refl _ _).drew) (gdW.below (Below.refl _ _).drew) (by omega)).mono ?_
  rintro e w3 ⟨⟨x, rfl, hx⟩, hc3, hg3⟩
  replace hg3 : v0.grownBy w3 (some (w.heap.size + 1)) := grown_trans (below_grown (Below.refl v0.heap.size v0).drew _) hg3
  have r3 := (cell_far hg3 ⟨w.heap.size, 0, none⟩ (by show w.heap.size < _; omega) (by simp)).trans rW
  have s3 := (frz_far hg3 ⟨w.heap.size, 0, none⟩ (by show w.heap.size < _; omega) (by simp)).trans sW
  have c3 := (cell_far hg3 ⟨w2.heap.size, 0, none⟩ zW (by simp; omega)).trans cW
  have gd3 := gdW.drawn hg3
  have B3 : Below w.heap.size w w3 := BW.grown hg3 BW.size fun g hg => by have := Option.some.inj hg; omega
  have z3 : w.heap.size < w3.heap.size := by have := hg3.size; omega
  have z32 : w2.heap.size < w3.heap.size := Nat.lt_of_lt_of_le zW hg3.size
  replace hx := hid hx
  clear hcW gdW BW rW sW cW hg3
  go_wp2_with fail
  refine hK4.out _ _ c3 (fun hH3 => ?_)
  refine wpAnyH_ready (rs := [5]) (by kernel_rfl) (by simp) ?_
  refine AllReadyH.cons rfl (fun K5 hK5 => ?_) AllReadyH.nil
  go_simp
  refine hK5.out _ _ ((cell_far grown_set ⟨w2.heap.size, 0, none⟩ z32 (by simp; omega)).trans c3) (fun hH4 => ?_)
  refine wpAnyH_take (i := 6) (v := ?_) rfl (by kernel_rfl) (by kernel_rfl) (by kernel_rfl) (fun _ _ _ h => h) (Or.inl ⟨by first | kernel_rfl | rfl, ?_⟩) (by assumption) ?_
  rotate_left
  · (intro w hSw; (try dsimp only at hSw); go_simp; try with_reducible rfl)
  simp only [List.getElem_toArray, List.getElem_cons_zero, List.getElem_cons_succ, Act.put, List.setIfInBounds_toArray, List.set_cons_zero, List.set_cons_succ]
  refine wpAnyH_take (i := 7) (v := ?_) rfl (by kernel_rfl) (by kernel_rfl) (by kernel_rfl) (fun _ _ _ h => h) (Or.inl ⟨by first | kernel_rfl | rfl, ?_⟩) (by assumption) ?_
  rotate_left
  · (intro w hSw; (try dsimp only at hSw); go_simp; try with_reducible rfl)
  simp only [List.getElem_toArray, List.getElem_cons_zero, List.getElem_cons_succ, Act.put, List.setIfInBounds_toArray, List.set_cons_zero, List.set_cons_succ]
  refine wpAnyH_done (by kernel_rfl) ?_ _
  go_wp2
  refine bodyPost_ret (v := .tuple #[.agg #[.slice ao g.length cap], .int .i64 x0, .int .i64 x]) (by simp [results, Try.results64, go_sem, r3, z3]) rfl ?_
  exact ⟨⟨_, g, x0, x, rfl, ((gd3.rg hfr.out hgl).set w.heap.size 0 _ (by omega)).less (by omega), hx0.out, hx.out⟩, B3.setCell (p := ⟨w.heap.size, 0, none⟩) (Nat.le_refl _) _⟩
end Go.Proofs.Ytknbfohmobjplab

namespace Go.Proofs.Ytknbfohmobjplab
set_option linter.unusedVariables false
set_option linter.unusedSimpArgs false
open Go.RowKit

theorem sDrawFormatSet_any (v : Value) (l : List Int) (w : World) (hr : Rd w w.heap.size .u8 v l) (hl : l.length ≤ 1048576) (hB : IsB l) :
    Calls Try.prog 38 #[v] w fun e w' => Dr1 w.heap.size e w' ∧ Below w.heap.size w w' := by
  have hD := hid fun w hr => sl3One_any v l w hr hl hB
  replace hB := hid hB
  go_enter Try.func38, Try.ntmps38
  go_wp2_with fail
  refine (hD.out _ ((hr.alloc (Nat.le_refl _) _).more (by simp))).mono ?_
  rintro e w1 ⟨⟨u, g, x, rfl, hg, hx⟩, hb1⟩
  obtain ⟨ao, cap, rfl⟩ := hg.shape
  obtain ⟨hc1, hf1⟩ := bcell hb1
  have r1 : w1.cell? ⟨w.heap.size, 0, none⟩ = some (.slice none 0 0) := by rw [hc1 _ _ (by simp)]; simp [go_sem]
  have s1 : w1.frozen? ⟨w.heap.size, 0, none⟩ = false := by rw [hf1 _ _ (by simp)]; simp [go_sem]
  have z1 : w.heap.size < w1.heap.size := by have := hb1.size; simp at this; omega
  have B1 : Below w.heap.size w w1 := (below_alloc _ _).trans (hb1.mono (by simp))
  replace hx := hid hx
  replace hg := hid (hg.less (base' := w.heap.size + 1) (by simp))
  clear hc1 hf1 hb1
  go_wp2
  refine bodyPost_ret (v := .tuple #[.agg #[.slice ao g.length cap], .int .i64 x]) (by simp [results, Try.results38, go_sem, r1, z1]) rfl ?_
  exact ⟨⟨_, g, x, rfl, ((hg.out.set w.heap.size 0 _ (Nat.lt_succ_self _)).below (below_alloc _ _)).less (Nat.le_succ _), hx.out⟩, (B1.setCell (p := ⟨w.heap.size, 0, none⟩) (Nat.le_refl _) _).alloc (by simp; omega) _⟩
theorem sDrawAddElements_any (v : Value) (l : List Int) (w : World) (hr : Rd w w.heap.size .u8 v l) (hl : l.length ≤ 1048576) (hB : IsB l) :
    Calls Try.prog 6 #[v] w fun e w' => Dr2 w.heap.size e w' ∧ Below w.heap.size w w' := by
  have hD := hid fun w hr => sl2Two_any v l w hr hl hB
  replace hB := hid hB
  go_enter Try.func6, Try.ntmps6
  go_wp2_with fail
  refine (hD.out _ ((hr.alloc (Nat.le_refl _) _).more (by simp))).mono ?_
  rintro e w1 ⟨⟨u, g, x, y, rfl, hg, hx, hy⟩, hb1⟩
  obtain ⟨ao, cap, rfl⟩ := hg.shape
  obtain ⟨hc1, hf1⟩ := bcell hb1
  have r1 : w1.cell? ⟨w.heap.size, 0, none⟩ = some (.slice none 0 0) := by rw [hc1 _ _ (by simp)]; simp [go_sem]
  have s1 : w1.frozen? ⟨w.heap.size, 0, none⟩ = false := by rw [hf1 _ _ (by simp)]; simp [go_sem]
  have z1 : w.heap.size < w1.heap.size := by have := hb1.size; simp at this; omega
  have B1 : Below w.heap.size w w1 := (below_alloc _ _).trans (hb1.mono (by simp))
  replace hx := hid hx
  replace hy := hid hy
  replace hg := hid (hg.less (base' := w.heap.size + 1) (by simp))
  clear hc1 hf1 hb1
  go_wp2
  refine bodyPost_ret (v := .tuple #[.agg #[.slice ao g.length cap], .int .i64 x, .int .i64 y]) (by simp [results, Try.results6, go_sem, r1, z1]) rfl ?_
  exact ⟨⟨_, g, x, y, rfl, ((hg.out.set w.heap.size 0 _ (Nat.lt_succ_self _)).below (below_alloc _ _)).less (Nat.le_succ _), hx.out, hy.out⟩, (B1.setCell (p := ⟨w.heap.size, 0, none⟩) (Nat.le_refl _) _).alloc (by simp; omega) _⟩
theorem sDrawPlacesOf_any (v : Value) (l : List Int) (w : World) (hr : Rd w w.heap.size .u8 v l) (hl : l.length ≤ 1048576) (hB : IsB l) :
    Calls Try.prog 27 #[v] w fun e w' => Dr1 w.heap.size e w' ∧ Below w.heap.size w w' := by
  have hD := hid fun w hr => sl2One_any v l w hr hl hB
  replace hB := hid hB
  go_enter Try.func27, Try.ntmps27
  go_wp2_with fail
  refine (hD.out _ ((hr.alloc (Nat.le_refl _) _).more (by simp))).mono ?_
  rintro e w1 ⟨⟨u, g, x, rfl, hg, hx⟩, hb1⟩
  obtain ⟨ao, cap, rfl⟩ := hg.shape
  obtain ⟨hc1, hf1⟩ := bcell hb1
  have r1 : w1.cell? ⟨w.heap.size, 0, none⟩ = some (.slice none 0 0) := by rw [hc1 _ _ (by simp)]; simp [go_sem]
  have s1 : w1.frozen? ⟨w.heap.size, 0, none⟩ = false := by rw [hf1 _ _ (by simp)]; simp [go_sem]
  have z1 : w.heap.size < w1.heap.size := by have := hb1.size; simp at this; omega
  have B1 : Below w.heap.size w w1 := (below_alloc _ _).trans (hb1.mono (by simp))
  replace hx := hid hx
  replace hg := hid (hg.less (base' := w.heap.size + 1) (by simp))
  clear hc1 hf1 hb1
  go_wp2
  refine bodyPost_ret (v := .tuple #[.agg #[.slice ao g.length cap], .int .i64 x]) (by simp [results, Try.results27, go_sem, r1, z1]) rfl ?_
  exact ⟨⟨_, g, x, rfl, ((hg.out.set w.heap.size 0 _ (Nat.lt_succ_self _)).below (below_alloc _ _)).less (Nat.le_succ _), hx.out⟩, (B1.setCell (p := ⟨w.heap.size, 0, none⟩) (Nat.le_refl _) _).alloc (by simp; omega) _⟩
end Go.Proofs.Ytknbfohmobjplab

namespace Go.Proofs.Ytknbfohmobjplab
set_option linter.unusedVariables false
set_option linter.unusedSimpArgs false
open Go.RowKit

theorem tmod_len (n m : Nat) (h : 0 < m) : ∃ k : Nat, k < m ∧ ((n : Int).tmod (m : Int)) = (k : Int) := ⟨n % m, Nat.mod_lt _ h, by rw [Int.tmod_eq_emod_of_nonneg (by omega)]; omega⟩
set_option maxRecDepth 100000 in
theorem sDrawDilateSet_any (v : Value) (l : List Int) (w : World) (hr : Rd w w.heap.size .u8 v l) (hl : l.length ≤ 1048576) (hB : IsB l) :
    Calls Try.prog 58 #[v] w fun e w' => Dr2 w.heap.size e w' ∧ Below w.heap.size w w' := by
  have hD := hid fun w hr => sl3One_any v l w hr hl hB
  obtain ⟨k, hk, hm⟩ := tmod_len l.length 7 (by decide)
  obtain ⟨L, hL⟩ : ∃ L : List Int, L = [0, 1, 2, -1, 3, -101, 5] := ⟨_, rfl⟩
  have hkL : k < L.length := by rw [hL]; exact hk
  have hbd : ∀ x ∈ L, I64 x := by rw [hL]; unfold I64; decide
  have hy := hid (hbd _ (List.getElem_mem hkL))
  replace hm : (l.length : Int).tmod 7 = (k : Int) := hm
  replace hB := hid hB
  have hr0 := hid hr
  obtain ⟨aov, capv, rfl, _, _, _⟩ := hr
  obtain ⟨n, hN⟩ : ∃ n, n = l.length := ⟨_, rfl⟩
  rw [← hN] at hm hl hr0 hD ⊢
  replace hN := hid hN
  have hgm : (L.map (Value.int .i64))[k]'(by rw [List.length_map]; exact hkL) = .int .i64 L[k] := List.getElem_map ..
  obtain ⟨y, hyd⟩ : ∃ y, y = L[k] := ⟨_, rfl⟩
  rw [← hyd] at hy hgm
  clear hyd hbd
  subst hL
  simp only [List.map_cons, List.map_nil] at hgm
  go_enter Try.func58, Try.ntmps58
  go_wp2_with fail
  refine (hD.out _ ((hr0.out.alloc (Nat.le_refl _) _).more (by simp))).mono ?_
  rintro e w1 ⟨⟨u, g, x, rfl, hg, hx⟩, hb1⟩
  obtain ⟨ao, cap, rfl⟩ := hg.shape
  obtain ⟨hc1, hf1⟩ := bcell hb1
  have r1 : w1.cell? ⟨w.heap.size, 0, none⟩ = some (.slice none 0 0) := by rw [hc1 _ _ (by simp)]; simp [go_sem]
  have s1 : w1.frozen? ⟨w.heap.size, 0, none⟩ = false := by rw [hf1 _ _ (by simp)]; simp [go_sem]
  have z1 : w.heap.size < w1.heap.size := by have := hb1.size; simp at this; omega
  have B1 : Below w.heap.size w w1 := (below_alloc _ _).trans (hb1.mono (by simp))
  replace hx := hid hx
  replace hg := hid (hg.less (base' := w.heap.size + 1) (by simp))
  clear hc1 hf1 hb1 hD
  go_wp2_with fail
  obtain ⟨W, hW⟩ : ∃ W, W = w1.alloc (.cells #[.slice ao g.length cap] 26) := ⟨_, rfl⟩
  have bW : Below w1.heap.size w1 W := hW ▸ below_alloc _ _
  have cW : W.cell? ⟨w1.heap.size, 0, none⟩ = some (.slice ao g.length cap) := by rw [hW]; simp [go_sem]
  have zW : w1.heap.size < W.heap.size := by rw [hW]; simp
  rw [← hW]
  have rW := (bW.cell (p := ⟨w.heap.size, 0, none⟩) z1).trans r1
  have sW := (bW.frozen (p := ⟨w.heap.size, 0, none⟩) z1).trans s1
  have gW := hid (hg.out.below bW)
  have BW : Below w.heap.size w W := B1.trans (bW.mono (by omega))
  have zW0 : w.heap.size < W.heap.size := by omega
  clear hW r1 s1 hg B1 bW
  go_region
  go_wp2
  refine bodyPost_ret (v := .tuple #[.agg #[.slice ao g.length cap], .int .i64 x, .int .i64 y]) (by simp [results, Try.results58, go_sem, rW, zW0]) rfl ?_
  exact ⟨⟨_, g, x, y, rfl, (((gW.out.set w.heap.size 0 _ (Nat.lt_succ_self _)).below (below_alloc _ _)).less (Nat.le_succ _) : Rg _ _ _ _), hx.out, hy.out⟩, ((BW.setCell (p := ⟨w.heap.size, 0, none⟩) (Nat.le_refl _) _).alloc (by simp; omega) _).drew⟩
set_option maxRecDepth 100000 in
theorem sDrawMultipleOf_any (v : Value) (l : List Int) (w : World) (hr : Rd w w.heap.size .u8 v l) (hl : l.length ≤ 1048576) (hB : IsB l) :
    Calls Try.prog 30 #[v] w fun e w' => Dr2 w.heap.size e w' ∧ Below w.heap.size w w' := by
  have hD := hid fun w hr => sl2One_any v l w hr hl hB
  obtain ⟨k, hk, hm⟩ := tmod_len l.length 8 (by decide)
  obtain ⟨L, hL⟩ : ∃ L : List Int, L = [0, 1, 2, -1, 7, -100, 101, 24] := ⟨_, rfl⟩
  have hkL : k < L.length := by rw [hL]; exact hk
  have hbd : ∀ x ∈ L, I64 x := by rw [hL]; unfold I64; decide
  have hy := hid (hbd _ (List.getElem_mem hkL))
  replace hm : (l.length : Int).tmod 8 = (k : Int) := hm
  replace hB := hid hB
  have hr0 := hid hr
  obtain ⟨aov, capv, rfl, _, _, _⟩ := hr
  obtain ⟨n, hN⟩ : ∃ n, n = l.length := ⟨_, rfl⟩
  rw [← hN] at hm hl hr0 hD ⊢
  replace hN := hid hN
  have hgm : (L.map (Value.int .i64))[k]'(by rw [List.length_map]; exact hkL) = .int .i64 L[k] := List.getElem_map ..
  obtain ⟨y, hyd⟩ : ∃ y, y = L[k] := ⟨_, rfl⟩
  rw [← hyd] at hy hgm
  clear hyd hbd
  subst hL
  simp only [List.map_cons, List.map_nil] at hgm
  go_enter Try.func30, Try.ntmps30
  go_wp2_with fail
  refine (hD.out _ ((hr0.out.alloc (Nat.le_refl _) _).more (by simp))).mono ?_
  rintro e w1 ⟨⟨u, g, x, rfl, hg, hx⟩, hb1⟩
  obtain ⟨ao, cap, rfl⟩ := hg.shape
  obtain ⟨hc1, hf1⟩ := bcell hb1
  have r1 : w1.cell? ⟨w.heap.size, 0, none⟩ = some (.slice none 0 0) := by rw [hc1 _ _ (by simp)]; simp [go_sem]
  have s1 : w1.frozen? ⟨w.heap.size, 0, none⟩ = false := by rw [hf1 _ _ (by simp)]; simp [go_sem]
  have z1 : w.heap.size < w1.heap.size := by have := hb1.size; simp at this; omega
  have B1 : Below w.heap.size w w1 := (below_alloc _ _).trans (hb1.mono (by simp))
  replace hx := hid hx
  replace hg := hid (hg.less (base' := w.heap.size + 1) (by simp))
  clear hc1 hf1 hb1 hD
  go_wp2_with fail
  obtain ⟨W, hW⟩ : ∃ W, W = w1.alloc (.cells #[.slice ao g.length cap] 26) := ⟨_, rfl⟩
  have bW : Below w1.heap.size w1 W := hW ▸ below_alloc _ _
  have cW : W.cell? ⟨w1.heap.size, 0, none⟩ = some (.slice ao g.length cap) := by rw [hW]; simp [go_sem]
  have zW : w1.heap.size < W.heap.size := by rw [hW]; simp
  rw [← hW]
  have rW := (bW.cell (p := ⟨w.heap.size, 0, none⟩) z1).trans r1
  have sW := (bW.frozen (p := ⟨w.heap.size, 0, none⟩) z1).trans s1
  have gW := hid (hg.out.below bW)
  have BW : Below w.heap.size w W := B1.trans (bW.mono (by omega))
  have zW0 : w.heap.size < W.heap.size := by omega
  clear hW r1 s1 hg B1 bW
  go_region
  go_wp2
  refine bodyPost_ret (v := .tuple #[.agg #[.slice ao g.length cap], .int .i64 x, .int .i64 y]) (by simp [results, Try.results30, go_sem, rW, zW0]) rfl ?_
  exact ⟨⟨_, g, x, y, rfl, (((gW.out.set w.heap.size 0 _ (Nat.lt_succ_self _)).below (below_alloc _ _)).less (Nat.le_succ _) : Rg _ _ _ _), hx.out, hy.out⟩, ((BW.setCell (p := ⟨w.heap.size, 0, none⟩) (Nat.le_refl _) _).alloc (by simp; omega) _).drew⟩
end Go.Proofs.Ytknbfohmobjplab
