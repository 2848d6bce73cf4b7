/- Parts of the walk in one text: RE, RF, RJ. Conditions: each theorem's own. -/
import Derived.Test.YtknbfohmobjplaaMRb
import Derived.Test.YtknbfohmobjplaaSW
import Derived.Test.YtknbfohmobjplaaS8
namespace Go.Proofs.Ytknbfohmobjplaa
set_option linter.unusedVariables false
set_option linter.unusedSimpArgs false
open Go.RowKit

/-- a drawn group with a number -/
def G1Out (c base : Nat) (e : Ending) (w : World) : Prop := ∃ u g x, e = .returned (.tuple #[.agg #[u], .int .i64 x]) ∧ Gd w c u g ∧ g.length ≤ 5 ∧ Fresh base u ∧ I64 x
theorem getD_at {L : List Int} {i : Nat} (h : i < L.length) : L.getD i 0 = L[i] := by
  rw [List.getD_eq_getElem?_getD, List.getElem?_eq_getElem h]
  rfl
theorem sbsE_mem {l : List Int} (hg : isGroup l = true) : 0 < (sbsE l).length ∧ ∀ x ∈ sbsE l, I64 x := by
  rw [sbsE_yes hg]
  refine ⟨List.length_pos_of_mem ((mem_subsL l 1).2 ⟨1, rfl, sub_one hg⟩), fun x hx => ?_⟩
  have := subsL_bd hg hx
  exact ⟨by omega, by omega⟩
set_option maxRecDepth 100000 in
set_option maxHeartbeats 1600000 in
theorem sl5Group_any (c B : Nat) (v : Value) (l : List Int) (w : World) (hc : Cur w c B v l) (hl : l.length ≤ 1048576) (hB : IsB l) :
    Calls Try.prog 83 #[.pointer (some ⟨c, 0, none⟩)] w fun e w' => G1Out c w.heap.size e w' ∧ Cur w' c B v l ∧ w.grownBy w' (some c) := by
  have hY := hid fun n h0 hn w hc => sl1Below_any c B v l n w hc (by omega) hB h0 hn
  have hO := hid fun n h0 hn w hc => sl1Once_any c B v l n w hc (by omega) hB h0 hn
  have hA := hid fun c B w hc => sl2Any_any c B v l w hc (by omega) hB
  have hS := hid fun c B u g w hc hg hn => sl3Set_any c B v u l g w hc (by omega) hB hg hn
  replace hB := hid hB
  have hcw := hc.lt
  go_enter Try.func83, Try.ntmps83
  go_wp2_with fail
  refine (hA.out _ _ _ (hc.below (below_alloc _ _))).mono ?_
  rintro e w1 ⟨⟨u, g, rfl, hgd, hgl, hfr⟩, hc1, hg1⟩
  have hgd' := hgd
  obtain ⟨ao, cap, rfl, _, _, _⟩ := hgd'
  have G1 := grown_trans (below_grown (below_alloc w (.cells #[.slice none 0 0] 26)) (some c)) hg1
  have r0 : w1.cell? ⟨w.heap.size, 0, none⟩ = some (.slice none 0 0) := (cell_far hg1 ⟨w.heap.size, 0, none⟩ (by simp) (by simp; omega)).trans (by simp [go_sem])
  have r1 : w1.frozen? ⟨w.heap.size, 0, none⟩ = false := (frz_far hg1 ⟨w.heap.size, 0, none⟩ (by simp) (by simp; omega)).trans (by simp [go_sem])
  have hz1 : w.heap.size < w1.heap.size := by have := hg1.size; simp at this; omega
  have hc1l := hc1.lt
  simp at hfr
  replace hfr := hid hfr
  clear hg1 hA hc
  go_wp2_with fail
  obtain ⟨V, hV⟩ : ∃ V, V = w1.alloc (.cells #[.slice ao g.length cap] 26) := ⟨_, rfl⟩
  have bV : Below w1.heap.size w1 V := hV ▸ below_alloc _ _
  have cV : V.cell? ⟨w1.heap.size, 0, none⟩ = some (.slice ao g.length cap) := by rw [hV]; simp [go_sem]
  have zV : w1.heap.size < V.heap.size := by rw [hV]; simp
  rw [← hV]
  clear hV
  refine (sSubgroupsOf_any _ g _ ((hgd.below bV).rd) (by omega)).mono ?_
  rintro e W ⟨aos, caps, rfl, hown, hbW⟩
  have hb1W : Below w1.heap.size w1 W := bV.trans (hbW.mono bV.size)
  have cW := (hbW.cell (p := ⟨w1.heap.size, 0, none⟩) zV).trans cV
  have rW := (hb1W.cell (p := ⟨w.heap.size, 0, none⟩) hz1).trans r0
  have sW := (hb1W.frozen (p := ⟨w.heap.size, 0, none⟩) hz1).trans r1
  have hcW := hc1.below hb1W
  have gdW := hgd.below hb1W
  have GW := grown_trans G1 (below_grown hb1W _)
  have zW : w1.heap.size < W.heap.size := Nat.lt_of_lt_of_le zV hbW.size
  have zW0 : w.heap.size < W.heap.size := by omega
  have hmem := hid (@sbsE_mem g)
  have hlen := sbsE_len g
  obtain ⟨L, hL⟩ : ∃ L, L = sbsE g := ⟨_, rfl⟩
  rw [← hL] at hown hmem hlen ⊢
  have hrd := hid (Rd.of_own hown)
  have hfo := hid hown.fresh
  clear r0 r1 G1 hgd hc1 bV cV hb1W hL hown
  obtain ⟨b, hb⟩ : ∃ b, b = isGroup g := ⟨_, rfl⟩
  rw [← hb] at hmem ⊢
  clear hb
  obtain ⟨n, hN⟩ : ∃ n, n = L.length := ⟨_, rfl⟩
  rw [← hN] at hlen hmem hrd hfo ⊢
  cases b
  · go_wp2_with fail
    refine wp_region_held_drew (S := fun w' => w'.cell? ⟨w1.heap.size, 0, none⟩ = some (.slice ao g.length cap)) (by kernel_rfl) cW (fun hH0 => ?_)
    refine wpAnyH_take (i := 0) (v := ?_) rfl (by kernel_rfl) (by kernel_rfl) (by kernel_rfl) (fun _ _ _ h => h) (Or.inl ⟨by first | kernel_rfl | rfl, ?_⟩) (by assumption) ?_
    rotate_left
    · (intro w hSw; (try dsimp only at hSw); go_simp; try with_reducible rfl)
    simp only [List.getElem_toArray, List.getElem_cons_zero, List.getElem_cons_succ, Act.put, List.setIfInBounds_toArray, List.set_cons_zero, List.set_cons_succ]
    refine wpAnyH_take (i := 1) (v := ?_) rfl (by kernel_rfl) (by kernel_rfl) (by kernel_rfl) (fun _ _ _ h => h) (Or.inl ⟨by first | kernel_rfl | rfl, ?_⟩) (by assumption) ?_
    rotate_left
    · (intro w hSw; (try dsimp only at hSw); go_simp; try with_reducible rfl)
    simp only [List.getElem_toArray, List.getElem_cons_zero, List.getElem_cons_succ, Act.put, List.setIfInBounds_toArray, List.set_cons_zero, List.set_cons_succ]
    refine wpAnyH_take (i := 2) (v := ?_) rfl (by kernel_rfl) (by kernel_rfl) (by kernel_rfl) (fun _ _ _ h => h) (Or.inl ⟨by first | kernel_rfl | rfl, ?_⟩) (by assumption) ?_
    rotate_left
    · (intro w hSw; (try dsimp only at hSw); go_simp; try with_reducible rfl)
    simp only [List.getElem_toArray, List.getElem_cons_zero, List.getElem_cons_succ, Act.put, List.setIfInBounds_toArray, List.set_cons_zero, List.set_cons_succ]
    refine wpAnyH_ready (rs := [3]) (by kernel_rfl) (by simp) ?_
    refine AllReadyH.cons rfl (fun K3 hK3 => ?_) AllReadyH.nil
    go_simp
    go_at_call 64
    refine (hS.out _ _ _ _ _ (hcW.below (Below.refl _ _).drew) (gdW.below (Below.refl _ _).drew) (by omega)).mono ?_
    rintro e w3 ⟨⟨x, rfl, hx⟩, hc3, hg3⟩
    replace hg3 : W.grownBy w3 (some c) := grown_trans (below_grown (Below.refl W.heap.size W).drew _) hg3
    have r3 := (cell_far hg3 ⟨w.heap.size, 0, none⟩ zW0 (by simp; omega)).trans rW
    have s3 := (frz_far hg3 ⟨w.heap.size, 0, none⟩ zW0 (by simp; omega)).trans sW
    have c3 := (cell_far hg3 ⟨w1.heap.size, 0, none⟩ zW (by simp; omega)).trans cW
    have gd3 := gdW.drawn hg3
    have G3 := grown_trans GW hg3
    have z3 : w.heap.size < w3.heap.size := Nat.lt_of_lt_of_le zW0 hg3.size
    have z31 : w1.heap.size < w3.heap.size := Nat.lt_of_lt_of_le zW hg3.size
    replace hx := hid hx
    clear hcW gdW GW rW sW cW hg3
    go_wp2_with fail
    refine hK3.out _ _ c3 (fun hH3 => ?_)
    refine wpAnyH_ready (rs := [4]) (by kernel_rfl) (by simp) ?_
    refine AllReadyH.cons rfl (fun K4 hK4 => ?_) AllReadyH.nil
    go_simp
    refine hK4.out _ _ ((cell_far grown_set ⟨w1.heap.size, 0, none⟩ z31 (by simp; omega)).trans c3) (fun hH4 => ?_)
    refine wpAnyH_take (i := 5) (v := ?_) rfl (by kernel_rfl) (by kernel_rfl) (by kernel_rfl) (fun _ _ _ h => h) (Or.inl ⟨by first | kernel_rfl | rfl, ?_⟩) (by assumption) ?_
    rotate_left
    · (intro w hSw; (try dsimp only at hSw); go_simp; try with_reducible rfl)
    simp only [List.getElem_toArray, List.getElem_cons_zero, List.getElem_cons_succ, Act.put, List.setIfInBounds_toArray, List.set_cons_zero, List.set_cons_succ]
    refine wpAnyH_done (by kernel_rfl) ?_ _
    go_wp2
    refine bodyPost_ret (v := .tuple #[.agg #[.slice ao g.length cap], .int .i64 x]) (by simp [results, Try.results83, go_sem, r3, z3]) rfl ?_
    have DD : Below w.heap.size w3 (w3.setCell ⟨w.heap.size, 0, none⟩ (.slice ao g.length cap)) := (Below.refl w.heap.size w3).setCell (p := ⟨w.heap.size, 0, none⟩) (Nat.le_refl _) _
    exact ⟨⟨_, g, x, rfl, gd3.set _ _ _ (hfr.out.ne (Nat.lt_succ_self _)), hgl, hfr.out.less (Nat.le_succ _), hx.out⟩, hc3.under DD hcw, grown_under G3 DD⟩
  · obtain ⟨hpos, hel⟩ := hmem.out rfl
    replace hel := hid hel
    replace hN := hid hN
    clear hmem
    go_wp2_with fail
    refine (hO.out _ (by omega) (by omega) _ hcW).mono ?_
    rintro e X ⟨⟨b, rfl⟩, hcX, hgX⟩
    have zX : w1.heap.size < X.heap.size := Nat.lt_of_lt_of_le zW hgX.size
    have zX0 : w.heap.size < X.heap.size := by omega
    have cX := (cell_far hgX ⟨w1.heap.size, 0, none⟩ zW (by simp; omega)).trans cW
    have rX := (cell_far hgX ⟨w.heap.size, 0, none⟩ zW0 (by simp; omega)).trans rW
    have sX := (frz_far hgX ⟨w.heap.size, 0, none⟩ zW0 (by simp; omega)).trans sW
    have gdX := gdW.drawn hgX
    have GX := grown_trans GW hgX
    cases b
    · obtain ⟨aos', caps', he, _, _, hcells⟩ := hrd.out
      injection he with he1 he2 he3
      obtain ⟨b, off, hao, hbl, hcl⟩ := hcells (by rw [← hN.out]; exact hpos)
      subst he1
      subst hao
      have hbV := hfo.out b off _ _ rfl
      have hbc : b ≠ c := by omega
      have hclX : ∀ i, i < n → X.cell? ⟨b, off + i, none⟩ = some (.int .i64 (L.getD i 0)) := fun i hi => by
        have hi2 : i < L.length := by rw [← hN.out]; exact hi
        rw [getD_at hi2]
        exact (cell_far hgX ⟨b, off + i, none⟩ hbl (by simpa using hbc)).trans (hcl i hi2)
      have hbX : b < X.heap.size := Nat.lt_of_lt_of_le hbl hgX.size
      have hb0 : ¬ b = w.heap.size := by omega
      replace hclX := hid hclX
      clear hcells he2 he3 hcl gdW hcW cW rW sW GW hgX hrd hfo hO
      go_wp2_with fail
      refine wp_region_held_drew (S := fun w' => w'.cell? ⟨w1.heap.size, 0, none⟩ = some (.slice ao g.length cap) ∧ ∀ i, i < n → w'.cell? ⟨b, off + i, none⟩ = some (.int .i64 (L.getD i 0))) (by kernel_rfl) ⟨cX, hclX.out⟩ (fun hH0 => ?_)
      refine wpAnyH_take (i := 0) (v := ?_) rfl (by kernel_rfl) (by kernel_rfl) (by kernel_rfl) (fun _ _ _ h => h) (Or.inl ⟨by first | kernel_rfl | rfl, ?_⟩) (by assumption) ?_
      rotate_left
      · (intro w hSw; (try dsimp only at hSw); go_simp; try with_reducible rfl)
      simp only [List.getElem_toArray, List.getElem_cons_zero, List.getElem_cons_succ, Act.put, List.setIfInBounds_toArray, List.set_cons_zero, List.set_cons_succ]
      refine wpAnyH_take (i := 1) (v := ?_) rfl (by kernel_rfl) (by kernel_rfl) (by kernel_rfl) (fun _ _ _ h => h) (Or.inl ⟨by first | kernel_rfl | rfl, ?_⟩) (by assumption) ?_
      rotate_left
      · (intro w hSw; (try dsimp only at hSw); go_simp; try with_reducible rfl)
      simp only [List.getElem_toArray, List.getElem_cons_zero, List.getElem_cons_succ, Act.put, List.setIfInBounds_toArray, List.set_cons_zero, List.set_cons_succ]
      refine wpAnyH_take (i := 2) (v := ?_) rfl (by kernel_rfl) (by kernel_rfl) (by kernel_rfl) (fun _ _ _ h => h) (Or.inl ⟨by first | kernel_rfl | rfl, ?_⟩) (by assumption) ?_
      rotate_left
      · (intro w hSw; (try dsimp only at hSw); go_simp; try with_reducible rfl)
      simp only [List.getElem_toArray, List.getElem_cons_zero, List.getElem_cons_succ, Act.put, List.setIfInBounds_toArray, List.set_cons_zero, List.set_cons_succ]
      refine wpAnyH_take (i := 3) (v := ?_) rfl (by kernel_rfl) (by kernel_rfl) (by kernel_rfl) (fun _ _ _ h => h) (Or.inl ⟨by first | kernel_rfl | rfl, ?_⟩) (by assumption) ?_
      rotate_left
      · (intro w hSw; (try dsimp only at hSw); go_simp; try with_reducible rfl)
      simp only [List.getElem_toArray, List.getElem_cons_zero, List.getElem_cons_succ, Act.put, List.setIfInBounds_toArray, List.set_cons_zero, List.set_cons_succ]
      refine wpAnyH_take (i := 4) (v := ?_) rfl (by kernel_rfl) (by kernel_rfl) (by kernel_rfl) (fun _ _ _ h => h) (Or.inl ⟨by first | kernel_rfl | rfl, ?_⟩) (by assumption) ?_
      rotate_left
      · (intro w hSw; (try dsimp only at hSw); go_simp; try with_reducible rfl)
      simp only [List.getElem_toArray, List.getElem_cons_zero, List.getElem_cons_succ, Act.put, List.setIfInBounds_toArray, List.set_cons_zero, List.set_cons_succ]
      refine wpAnyH_ready (rs := [5]) (by kernel_rfl) (by simp) ?_
      refine AllReadyH.cons rfl (fun K5 hK5 => ?_) AllReadyH.nil
      go_simp
      go_at_call 93
      refine (hY.out _ (by omega) (by omega) _ (hcX.below (Below.refl _ _).drew)).mono ?_
      rintro e w3 ⟨⟨k, rfl, hk0, hk1⟩, hc3, hg3⟩
      obtain ⟨k, rfl⟩ := Int.eq_ofNat_of_zero_le hk0
      have hkn : k < n := by omega
      replace hg3 : X.grownBy w3 (some c) := grown_trans (below_grown (Below.refl X.heap.size X).drew _) hg3
      have r3 := (cell_far hg3 ⟨w.heap.size, 0, none⟩ zX0 (by simp; omega)).trans rX
      have s3 := (frz_far hg3 ⟨w.heap.size, 0, none⟩ zX0 (by simp; omega)).trans sX
      have c3 := (cell_far hg3 ⟨w1.heap.size, 0, none⟩ zX (by simp; omega)).trans cX
      have l3 : ∀ i, i < n → w3.cell? ⟨b, off + i, none⟩ = some (.int .i64 (L.getD i 0)) := fun i hi => (cell_far hg3 ⟨b, off + i, none⟩ hbX (by simpa using hbc)).trans (hclX.out i hi)
      have gd3 := gdX.drawn hg3
      have G3 := grown_trans GX hg3
      have z3 : w.heap.size < w3.heap.size := Nat.lt_of_lt_of_le zX0 hg3.size
      have z31 : w1.heap.size < w3.heap.size := Nat.lt_of_lt_of_le zX hg3.size
      have z3b : b < w3.heap.size := Nat.lt_of_lt_of_le hbX hg3.size
      have hx := hid (hel.out (L.getD k 0) (by rw [getD_at (by rw [← hN.out]; exact hkn)]; exact List.getElem_mem _))
      replace l3 := hid l3
      clear hcX gdX GX rX sX cX hg3 hclX
      go_wp2_with fail
      refine hK5.out _ _ ⟨c3, l3.out⟩ (fun hH3 => ?_)
      refine wpAnyH_take (i := 6) (v := ?_) rfl (by kernel_rfl) (by kernel_rfl) (by kernel_rfl) (fun _ _ _ h => h) (Or.inl ⟨by first | kernel_rfl | rfl, ?_⟩) (by assumption) ?_
      rotate_left
      · (intro w hSw; (try dsimp only at hSw); go_simp; try with_reducible rfl)
      simp only [List.getElem_toArray, List.getElem_cons_zero, List.getElem_cons_succ, Act.put, List.setIfInBounds_toArray, List.set_cons_zero, List.set_cons_succ]
      refine wpAnyH_take (i := 7) (v := ?_) rfl (by kernel_rfl) (by kernel_rfl) (by kernel_rfl) (fun _ _ _ h => h) (Or.inl ⟨by first | kernel_rfl | rfl, ?_⟩) (by assumption) ?_
      rotate_left
      · (intro w hSw; (try dsimp only at hSw); go_simp; try with_reducible rfl)
      simp only [List.getElem_toArray, List.getElem_cons_zero, List.getElem_cons_succ, Act.put, List.setIfInBounds_toArray, List.set_cons_zero, List.set_cons_succ]
      refine wpAnyH_ready (rs := [8]) (by kernel_rfl) (by simp) ?_
      refine AllReadyH.cons rfl (fun K8 hK8 => ?_) AllReadyH.nil
      go_simp
      refine hK8.out _ _ ⟨(cell_far grown_set ⟨w1.heap.size, 0, none⟩ z31 (by simp; omega)).trans c3, fun i hi => (cell_far grown_set ⟨b, off + i, none⟩ z3b (by simpa using hb0)).trans (l3.out i hi)⟩ (fun hH4 => ?_)
      refine wpAnyH_take (i := 9) (v := ?_) rfl (by kernel_rfl) (by kernel_rfl) (by kernel_rfl) (fun _ _ _ h => h) (Or.inl ⟨by first | kernel_rfl | rfl, ?_⟩) (by assumption) ?_
      rotate_left
      · (intro w hSw; (try dsimp only at hSw); go_simp; try with_reducible rfl)
      simp only [List.getElem_toArray, List.getElem_cons_zero, List.getElem_cons_succ, Act.put, List.setIfInBounds_toArray, List.set_cons_zero, List.set_cons_succ]
      refine wpAnyH_done (by kernel_rfl) ?_ _
      go_wp2
      refine bodyPost_ret (v := .tuple #[.agg #[.slice ao g.length cap], .int .i64 (L.getD k 0)]) (by simp [results, Try.results83, go_sem, r3, z3]) rfl ?_
      have DD : Below w.heap.size w3 (w3.setCell ⟨w.heap.size, 0, none⟩ (.slice ao g.length cap)) := (Below.refl w.heap.size w3).setCell (p := ⟨w.heap.size, 0, none⟩) (Nat.le_refl _) _
      exact ⟨⟨_, g, _, rfl, gd3.set _ _ _ (hfr.out.ne (Nat.lt_succ_self _)), hgl, hfr.out.less (Nat.le_succ _), hx.out⟩, hc3.under DD hcw, grown_under G3 DD⟩
    · clear hcW gdW GW rW sW cW hrd hfo
      go_wp2_with fail
      refine wp_region_held_drew (S := fun w' => w'.cell? ⟨w1.heap.size, 0, none⟩ = some (.slice ao g.length cap)) (by kernel_rfl) cX (fun hH0 => ?_)
      refine wpAnyH_take (i := 0) (v := ?_) rfl (by kernel_rfl) (by kernel_rfl) (by kernel_rfl) (fun _ _ _ h => h) (Or.inl ⟨by first | kernel_rfl | rfl, ?_⟩) (by assumption) ?_
      rotate_left
      · (intro w hSw; (try dsimp only at hSw); go_simp; try with_reducible rfl)
      simp only [List.getElem_toArray, List.getElem_cons_zero, List.getElem_cons_succ, Act.put, List.setIfInBounds_toArray, List.set_cons_zero, List.set_cons_succ]
      refine wpAnyH_take (i := 1) (v := ?_) rfl (by kernel_rfl) (by kernel_rfl) (by kernel_rfl) (fun _ _ _ h => h) (Or.inl ⟨by first | kernel_rfl | rfl, ?_⟩) (by assumption) ?_
      rotate_left
      · (intro w hSw; (try dsimp only at hSw); go_simp; try with_reducible rfl)
      simp only [List.getElem_toArray, List.getElem_cons_zero, List.getElem_cons_succ, Act.put, List.setIfInBounds_toArray, List.set_cons_zero, List.set_cons_succ]
      refine wpAnyH_take (i := 2) (v := ?_) rfl (by kernel_rfl) (by kernel_rfl) (by kernel_rfl) (fun _ _ _ h => h) (Or.inl ⟨by first | kernel_rfl | rfl, ?_⟩) (by assumption) ?_
      rotate_left
      · (intro w hSw; (try dsimp only at hSw); go_simp; try with_reducible rfl)
      simp only [List.getElem_toArray, List.getElem_cons_zero, List.getElem_cons_succ, Act.put, List.setIfInBounds_toArray, List.set_cons_zero, List.set_cons_succ]
      refine wpAnyH_ready (rs := [3]) (by kernel_rfl) (by simp) ?_
      refine AllReadyH.cons rfl (fun K3 hK3 => ?_) AllReadyH.nil
      go_simp
      go_at_call 64
      refine (hS.out _ _ _ _ _ (hcX.below (Below.refl _ _).drew) (gdX.below (Below.refl _ _).drew) (by omega)).mono ?_
      rintro e w3 ⟨⟨x, rfl, hx⟩, hc3, hg3⟩
      replace hg3 : X.grownBy w3 (some c) := grown_trans (below_grown (Below.refl X.heap.size X).drew _) hg3
      have r3 := (cell_far hg3 ⟨w.heap.size, 0, none⟩ zX0 (by simp; omega)).trans rX
      have s3 := (frz_far hg3 ⟨w.heap.size, 0, none⟩ zX0 (by simp; omega)).trans sX
      have c3 := (cell_far hg3 ⟨w1.heap.size, 0, none⟩ zX (by simp; omega)).trans cX
      have gd3 := gdX.drawn hg3
      have G3 := grown_trans GX hg3
      have z3 : w.heap.size < w3.heap.size := Nat.lt_of_lt_of_le zX0 hg3.size
      have z31 : w1.heap.size < w3.heap.size := Nat.lt_of_lt_of_le zX hg3.size
      replace hx := hid hx
      clear hcX gdX GX rX sX cX hg3
      go_wp2_with fail
      refine hK3.out _ _ c3 (fun hH3 => ?_)
      refine wpAnyH_ready (rs := [4]) (by kernel_rfl) (by simp) ?_
      refine AllReadyH.cons rfl (fun K4 hK4 => ?_) AllReadyH.nil
      go_simp
      refine hK4.out _ _ ((cell_far grown_set ⟨w1.heap.size, 0, none⟩ z31 (by simp; omega)).trans c3) (fun hH4 => ?_)
      refine wpAnyH_take (i := 5) (v := ?_) rfl (by kernel_rfl) (by kernel_rfl) (by kernel_rfl) (fun _ _ _ h => h) (Or.inl ⟨by first | kernel_rfl | rfl, ?_⟩) (by assumption) ?_
      rotate_left
      · (intro w hSw; (try dsimp only at hSw); go_simp; try with_reducible rfl)
      simp only [List.getElem_toArray, List.getElem_cons_zero, List.getElem_cons_succ, Act.put, List.setIfInBounds_toArray, List.set_cons_zero, List.set_cons_succ]
      refine wpAnyH_done (by kernel_rfl) ?_ _
      go_wp2
      refine bodyPost_ret (v := .tuple #[.agg #[.slice ao g.length cap], .int .i64 x]) (by simp [results, Try.results83, go_sem, r3, z3]) rfl ?_
      have DD : Below w.heap.size w3 (w3.setCell ⟨w.heap.size, 0, none⟩ (.slice ao g.length cap)) := (Below.refl w.heap.size w3).setCell (p := ⟨w.heap.size, 0, none⟩) (Nat.le_refl _) _
      exact ⟨⟨_, g, x, rfl, gd3.set _ _ _ (hfr.out.ne (Nat.lt_succ_self _)), hgl, hfr.out.less (Nat.le_succ _), hx.out⟩, hc3.under DD hcw, grown_under G3 DD⟩
end Go.Proofs.Ytknbfohmobjplaa

namespace Go.Proofs.Ytknbfohmobjplaa
set_option linter.unusedVariables false
set_option linter.unusedSimpArgs false
open Go.RowKit

/-- all that lies in W stands, but for the cursor -/
structure Kept (W : World) (c : Nat) (w : World) : Prop where
  size : W.heap.size ≤ w.heap.size
  cell : ∀ p : Addr, p.block < W.heap.size → p.block ≠ c → w.cell? p = W.cell? p
  frozen : ∀ p : Addr, p.block < W.heap.size → p.block ≠ c → w.frozen? p = W.frozen? p
theorem Kept.refl (W : World) (c : Nat) : Kept W c W := ⟨Nat.le_refl _, fun _ _ _ => rfl, fun _ _ _ => rfl⟩
theorem Kept.drawn {W a b : World} {c : Nat} (h : Kept W c a) (hg : a.grownBy b (some c)) : Kept W c b :=
  ⟨Nat.le_trans h.size hg.size, fun p h1 h2 => (cell_far hg p (Nat.lt_of_lt_of_le h1 h.size) (by simpa using h2)).trans (h.cell p h1 h2), fun p h1 h2 => (frz_far hg p (Nat.lt_of_lt_of_le h1 h.size) (by simpa using h2)).trans (h.frozen p h1 h2)⟩
theorem Kept.below {W a b : World} {c : Nat} (h : Kept W c a) (hb : Below W.heap.size a b) : Kept W c b :=
  ⟨Nat.le_trans h.size hb.size, fun p h1 h2 => (hb.cell h1).trans (h.cell p h1 h2), fun p h1 h2 => (hb.frozen h1).trans (h.frozen p h1 h2)⟩
theorem Gd.kept {W w : World} {c : Nat} {v : Value} {l : List Int} (h : Gd W c v l) (hk : Kept W c w) : Gd w c v l := h.keep hk.size hk.cell
def DrL (base : Nat) (e : Ending) (w : World) : Prop := ∃ u g v L, e = .returned (.tuple #[.agg #[u], v]) ∧ Rg w base u g ∧ Rd w w.heap.size .i64 v L ∧ L.length ≤ 5
theorem Rd.set {w : World} {B : Nat} {k : IntKind} {v : Value} {l : List Int} (h : Rd w B k v l) (g o : Nat) (u : Value) (hne : ∀ b off n m, v = .slice (some ⟨b, off, none⟩) n m → b ≠ g) (hB : B ≤ w.heap.size) : Rd (w.setCell ⟨g, o, none⟩ u) B k v l := by
  obtain ⟨ao, cap, rfl, h1, h2, h3⟩ := h
  refine ⟨ao, cap, rfl, h1, h2, fun hl => ?_⟩
  obtain ⟨b, off, ha, hb, hc⟩ := h3 hl
  subst ha
  exact ⟨b, off, rfl, hb, fun i hi => (cell_far (grown_set (w := w) (g := g) (o := o) (u := u)) ⟨b, off + i, none⟩ (Nat.lt_of_lt_of_le hb hB) (by have := hne b off _ _ rfl; simpa using this)).trans (hc i hi)⟩
set_option maxRecDepth 100000 in
theorem sDrawSubgroupsOf_any (v : Value) (l : List Int) (w : World) (hr : Rd w w.heap.size .u8 v l) (hl : l.length ≤ 1048576) (hB : IsB l) :
    Calls Try.prog 27 #[v] w fun e w' => Dr0 w.heap.size e w' ∧ Below w.heap.size w w' := by
  have hA := hid fun c B w hc => sl2Any_any c B v l w hc (by omega) hB
  replace hB := hid hB
  go_enter Try.func27, Try.ntmps27
  go_wp2_with fail
  refine (new_at (w.heap.size + 1) (by simp) ((hr.alloc (Nat.le_refl _) _).more (Nat.le_succ _)) hl).mono ?_
  rintro e w1 ⟨rfl, hc1, hb1⟩
  have B1 : Below w.heap.size w w1 := (below_alloc w (.cells #[.slice none 0 0] 26)).trans (hb1.mono (Nat.le_succ _))
  have r0 : w1.cell? ⟨w.heap.size, 0, none⟩ = some (.slice none 0 0) := (hb1.cell (p := ⟨w.heap.size, 0, none⟩) (Nat.lt_succ_self _)).trans (by simp [go_sem])
  have r1 : w1.frozen? ⟨w.heap.size, 0, none⟩ = false := (hb1.frozen (p := ⟨w.heap.size, 0, none⟩) (Nat.lt_succ_self _)).trans (by simp [go_sem])
  have hz1 : w.heap.size + 1 < w1.heap.size := hc1.lt
  clear hb1
  go_wp2_with fail
  refine (hA.out _ _ _ hc1).mono ?_
  rintro e w2 ⟨⟨u, g, rfl, hgd, hgl, hfr⟩, hc2, hg2⟩
  have hgd' := hgd
  obtain ⟨ao, cap, rfl, _, _, _⟩ := hgd'
  replace hfr := hid hfr
  have r0' := (cell_far hg2 ⟨w.heap.size, 0, none⟩ (by show w.heap.size < _; omega) (by simp)).trans r0
  have r1' := (frz_far hg2 ⟨w.heap.size, 0, none⟩ (by show w.heap.size < _; omega) (by simp)).trans r1
  have B2 : Below w.heap.size w w2 := B1.grown hg2 B1.size fun g hg => by have := Option.some.inj hg; omega
  have hz2 : w.heap.size < w2.heap.size := by have := hg2.size; omega
  clear r0 r1 hg2 hc1 B1
  go_wp2
  refine bodyPost_ret (v := .agg #[.slice ao g.length cap]) (by simp [results, Try.results27, go_sem, r0', hz2]) rfl ?_
  exact ⟨⟨_, g, rfl, ((hgd.rg hfr.out hgl).set w.heap.size 0 _ (by omega)).less (by omega)⟩, B2.setCell (p := ⟨w.heap.size, 0, none⟩) (Nat.le_refl _) _⟩
end Go.Proofs.Ytknbfohmobjplaa

namespace Go.Proofs.Ytknbfohmobjplaa
set_option linter.unusedVariables false
set_option linter.unusedSimpArgs false
open Go.RowKit

theorem shiftS_I64 (l : List Int) (a x : Int) : I64 (shiftS l a x) := by
  unfold shiftS
  split
  · rename_i h
    rw [Bool.and_eq_true] at h
    have := shN_lt (isEl.group h.2) a.toNat x
    unfold shN at this
    exact ⟨by omega, by omega⟩
  · exact ⟨by omega, by omega⟩
set_option maxRecDepth 100000 in
set_option maxHeartbeats 800000 in
theorem sl5Both_any (v : Value) (l : List Int) (w : World) (hr : Rd w w.heap.size .u8 v l) (hl : l.length ≤ 1048576) (hB : IsB l) :
    Calls Try.prog 80 #[v] w fun e w' => Dr1 w.heap.size e w' ∧ Below w.heap.size w w' := by
  have hG := hid fun c B w hc => sl5Group_any c B v l w hc hl hB
  replace hB := hid hB
  go_enter Try.func80, Try.ntmps80
  go_wp2_with fail
  refine (new_at (w.heap.size + 1) (by simp) ((hr.alloc (Nat.le_refl _) _).more (Nat.le_succ _)) hl).mono ?_
  rintro e w1 ⟨rfl, hc1, hb1⟩
  have B1 : Below w.heap.size w w1 := (below_alloc w (.cells #[.slice none 0 0] 26)).trans (hb1.mono (Nat.le_succ _))
  have r0 : w1.cell? ⟨w.heap.size, 0, none⟩ = some (.slice none 0 0) := (hb1.cell (p := ⟨w.heap.size, 0, none⟩) (Nat.lt_succ_self _)).trans (by simp [go_sem])
  have r1 : w1.frozen? ⟨w.heap.size, 0, none⟩ = false := (hb1.frozen (p := ⟨w.heap.size, 0, none⟩) (Nat.lt_succ_self _)).trans (by simp [go_sem])
  have hz1 : w.heap.size + 1 < w1.heap.size := hc1.lt
  clear hb1
  go_wp2_with fail
  refine (hG.out _ _ _ hc1).mono ?_
  rintro e w2 ⟨⟨u, g, h, rfl, hgd, hgl, hfr, hh⟩, hc2, hg2⟩
  have hgd' := hgd
  obtain ⟨ao, cap, rfl, _, _, _⟩ := hgd'
  replace hfr := hid hfr
  replace hh := hid hh
  have r0' := (cell_far hg2 ⟨w.heap.size, 0, none⟩ (by show w.heap.size < _; omega) (by simp)).trans r0
  have r1' := (frz_far hg2 ⟨w.heap.size, 0, none⟩ (by show w.heap.size < _; omega) (by simp)).trans r1
  have B2 : Below w.heap.size w w2 := B1.grown hg2 B1.size fun g hg => by have := Option.some.inj hg; omega
  have hz2 : w1.heap.size ≤ w2.heap.size := hg2.size
  have hz20 : w.heap.size < w2.heap.size := by omega
  have c2l := hc2.lt
  clear r0 r1 hg2 hc1 B1
  go_wp2
  refine bodyPost_ret (v := .tuple #[.agg #[.slice ao g.length cap], .int .i64 h]) (by simp [results, Try.results80, go_sem, r0', hz20]) rfl ?_
  exact ⟨⟨_, g, h, rfl, (((hgd.rg hfr.out hgl).set w.heap.size 0 _ (by omega)).below (below_alloc _ _)).less (by omega), hh.out⟩, (B2.setCell (p := ⟨w.heap.size, 0, none⟩) (Nat.le_refl _) _).alloc (by simp; omega) _⟩
theorem sDrawCosetsOf_any (v : Value) (l : List Int) (w : World) (hr : Rd w w.heap.size .u8 v l) (hl : l.length ≤ 1048576) (hB : IsB l) :
    Calls Try.prog 33 #[v] w fun e w' => Dr1 w.heap.size e w' ∧ Below w.heap.size w w' := by
  have hD := hid fun w hr => sl5Both_any v l w hr hl hB
  replace hB := hid hB
  go_enter Try.func33, Try.ntmps33
  go_wp2_with fail
  refine (hD.out _ ((hr.alloc (Nat.le_refl _) _).more (by simp))).mono ?_
  rintro e w1 ⟨⟨u, g, x, rfl, hg, hx⟩, hb1⟩
  obtain ⟨ao, cap, rfl⟩ := hg.shape
  obtain ⟨hc1, hf1⟩ := bcell hb1
  have r1 : w1.cell? ⟨w.heap.size, 0, none⟩ = some (.slice none 0 0) := by rw [hc1 _ _ (by simp)]; simp [go_sem]
  have s1 : w1.frozen? ⟨w.heap.size, 0, none⟩ = false := by rw [hf1 _ _ (by simp)]; simp [go_sem]
  have z1 : w.heap.size < w1.heap.size := by have := hb1.size; simp at this; omega
  have B1 : Below w.heap.size w w1 := (below_alloc _ _).trans (hb1.mono (by simp))
  replace hx := hid hx
  replace hg := hid (hg.less (base' := w.heap.size + 1) (by simp))
  clear hc1 hf1 hb1
  go_wp2
  refine bodyPost_ret (v := .tuple #[.agg #[.slice ao g.length cap], .int .i64 x]) (by simp [results, Try.results33, go_sem, r1, z1]) rfl ?_
  exact ⟨⟨_, g, x, rfl, ((hg.out.set w.heap.size 0 _ (Nat.lt_succ_self _)).below (below_alloc _ _)).less (Nat.le_succ _), hx.out⟩, (B1.setCell (p := ⟨w.heap.size, 0, none⟩) (Nat.le_refl _) _).alloc (by simp; omega) _⟩
set_option maxRecDepth 100000 in
set_option maxHeartbeats 800000 in
theorem sDrawCosetNumber_any (v : Value) (l : List Int) (w : World) (hr : Rd w w.heap.size .u8 v l) (hl : l.length ≤ 1048576) (hB : IsB l) :
    Calls Try.prog 38 #[v] w fun e w' => Dr2 w.heap.size e w' ∧ Below w.heap.size w w' := by
  have hG := hid fun c B w hc => sl5Group_any c B v l w hc hl hB
  have hE := hid fun c B u g w hc hg hn => sl2Element_any c B v u l g w hc (by omega) hB hg hn
  replace hB := hid hB
  go_enter Try.func38, Try.ntmps38
  go_wp2_with fail
  refine (new_at (w.heap.size + 1) (by simp) ((hr.alloc (Nat.le_refl _) _).more (Nat.le_succ _)) hl).mono ?_
  rintro e w1 ⟨rfl, hc1, hb1⟩
  have B1 : Below w.heap.size w w1 := (below_alloc w (.cells #[.slice none 0 0] 26)).trans (hb1.mono (Nat.le_succ _))
  have r0 : w1.cell? ⟨w.heap.size, 0, none⟩ = some (.slice none 0 0) := (hb1.cell (p := ⟨w.heap.size, 0, none⟩) (Nat.lt_succ_self _)).trans (by simp [go_sem])
  have r1 : w1.frozen? ⟨w.heap.size, 0, none⟩ = false := (hb1.frozen (p := ⟨w.heap.size, 0, none⟩) (Nat.lt_succ_self _)).trans (by simp [go_sem])
  have hz1 : w.heap.size + 1 < w1.heap.size := hc1.lt
  clear hb1
  go_wp2_with fail
  refine (hG.out _ _ _ hc1).mono ?_
  rintro e w2 ⟨⟨u, g, h, rfl, hgd, hgl, hfr, hh⟩, hc2, hg2⟩
  have hgd' := hgd
  obtain ⟨ao, cap, rfl, _, _, _⟩ := hgd'
  replace hfr := hid hfr
  replace hh := hid hh
  have r0' := (cell_far hg2 ⟨w.heap.size, 0, none⟩ (by show w.heap.size < _; omega) (by simp)).trans r0
  have r1' := (frz_far hg2 ⟨w.heap.size, 0, none⟩ (by show w.heap.size < _; omega) (by simp)).trans r1
  have B2 : Below w.heap.size w w2 := B1.grown hg2 B1.size fun g hg => by have := Option.some.inj hg; omega
  have hz2 : w1.heap.size ≤ w2.heap.size := hg2.size
  have hz20 : w.heap.size < w2.heap.size := by omega
  have c2l := hc2.lt
  clear r0 r1 hg2 hc1 B1
  go_wp2_with fail
  obtain ⟨W, hW⟩ : ∃ W, W = w2.alloc (.cells #[.slice ao g.length cap] 26) := ⟨_, rfl⟩
  have bW : Below w2.heap.size w2 W := hW ▸ below_alloc _ _
  have cW : W.cell? ⟨w2.heap.size, 0, none⟩ = some (.slice ao g.length cap) := by rw [hW]; simp [go_sem]
  have zW : w2.heap.size < W.heap.size := by rw [hW]; simp
  rw [← hW]
  have rW := (bW.cell (p := ⟨w.heap.size, 0, none⟩) (by show w.heap.size < _; omega)).trans r0'
  have sW := (bW.frozen (p := ⟨w.heap.size, 0, none⟩) (by show w.heap.size < _; omega)).trans r1'
  have hcW := hc2.below bW
  have gdW := hgd.below bW
  have BW : Below w.heap.size w W := B2.trans (bW.mono (by omega))
  clear hW r0' r1' hc2 hgd B2 bW
  refine wp_region_held_drew (S := fun w' => w'.cell? ⟨w2.heap.size, 0, none⟩ = some (.slice ao g.length cap)) (by kernel_rfl) cW (fun hH0 => ?_)
  refine wpAnyH_take (i := 0) (v := ?_) rfl (by kernel_rfl) (by kernel_rfl) (by kernel_rfl) (fun _ _ _ h => h) (Or.inl ⟨by first | kernel_rfl | rfl, ?_⟩) (by assumption) ?_
  rotate_left
  · (intro w hSw; (try dsimp only at hSw); go_simp; try with_reducible rfl)
  simp only [List.getElem_toArray, List.getElem_cons_zero, List.getElem_cons_succ, Act.put, List.setIfInBounds_toArray, List.set_cons_zero, List.set_cons_succ]
  refine wpAnyH_take (i := 1) (v := ?_) rfl (by kernel_rfl) (by kernel_rfl) (by kernel_rfl) (fun _ _ _ h => h) (Or.inl ⟨by first | kernel_rfl | rfl, ?_⟩) (by assumption) ?_
  rotate_left
  · (intro w hSw; (try dsimp only at hSw); go_simp; try with_reducible rfl)
  simp only [List.getElem_toArray, List.getElem_cons_zero, List.getElem_cons_succ, Act.put, List.setIfInBounds_toArray, List.set_cons_zero, List.set_cons_succ]
  refine wpAnyH_take (i := 2) (v := ?_) rfl (by kernel_rfl) (by kernel_rfl) (by kernel_rfl) (fun _ _ _ h => h) (Or.inl ⟨by first | kernel_rfl | rfl, ?_⟩) (by assumption) ?_
  rotate_left
  · (intro w hSw; (try dsimp only at hSw); go_simp; try with_reducible rfl)
  simp only [List.getElem_toArray, List.getElem_cons_zero, List.getElem_cons_succ, Act.put, List.setIfInBounds_toArray, List.set_cons_zero, List.set_cons_succ]
  refine wpAnyH_take (i := 3) (v := ?_) rfl (by kernel_rfl) (by kernel_rfl) (by kernel_rfl) (fun _ _ _ h => h) (Or.inl ⟨by first | kernel_rfl | rfl, ?_⟩) (by assumption) ?_
  rotate_left
  · (intro w hSw; (try dsimp only at hSw); go_simp; try with_reducible rfl)
  simp only [List.getElem_toArray, List.getElem_cons_zero, List.getElem_cons_succ, Act.put, List.setIfInBounds_toArray, List.set_cons_zero, List.set_cons_succ]
  refine wpAnyH_ready (rs := [4]) (by kernel_rfl) (by simp) ?_
  refine AllReadyH.cons rfl (fun K4 hK4 => ?_) AllReadyH.nil
  go_simp
  go_at_call 65
  refine (hE.out _ _ _ _ _ (hcW.below (Below.refl _ _).drew) (gdW.below (Below.refl _ _).drew) (by omega)).mono ?_
  rintro e w3 ⟨⟨x, rfl, hx⟩, hc3, hg3⟩
  replace hg3 : W.grownBy w3 (some (w.heap.size + 1)) := grown_trans (below_grown (Below.refl W.heap.size W).drew _) hg3
  have r3 := (cell_far hg3 ⟨w.heap.size, 0, none⟩ (by show w.heap.size < _; omega) (by simp)).trans rW
  have s3 := (frz_far hg3 ⟨w.heap.size, 0, none⟩ (by show w.heap.size < _; omega) (by simp)).trans sW
  have c3 := (cell_far hg3 ⟨w2.heap.size, 0, none⟩ zW (by simp; omega)).trans cW
  have gd3 := gdW.drawn hg3
  have B3 : Below w.heap.size w w3 := BW.grown hg3 BW.size fun g hg => by have := Option.some.inj hg; omega
  have z3 : w.heap.size < w3.heap.size := by have := hg3.size; omega
  have z32 : w2.heap.size < w3.heap.size := Nat.lt_of_lt_of_le zW hg3.size
  replace hx := hid hx
  clear hcW gdW BW rW sW cW hg3
  go_wp2_with fail
  refine hK4.out _ _ c3 (fun hH3 => ?_)
  refine wpAnyH_ready (rs := [5]) (by kernel_rfl) (by simp) ?_
  refine AllReadyH.cons rfl (fun K5 hK5 => ?_) AllReadyH.nil
  go_simp
  refine hK5.out _ _ ((cell_far grown_set ⟨w2.heap.size, 0, none⟩ z32 (by simp; omega)).trans c3) (fun hH4 => ?_)
  refine wpAnyH_take (i := 6) (v := ?_) rfl (by kernel_rfl) (by kernel_rfl) (by kernel_rfl) (fun _ _ _ h => h) (Or.inl ⟨by first | kernel_rfl | rfl, ?_⟩) (by assumption) ?_
  rotate_left
  · (intro w hSw; (try dsimp only at hSw); go_simp; try with_reducible rfl)
  simp only [List.getElem_toArray, List.getElem_cons_zero, List.getElem_cons_succ, Act.put, List.setIfInBounds_toArray, List.set_cons_zero, List.set_cons_succ]
  refine wpAnyH_take (i := 7) (v := ?_) rfl (by kernel_rfl) (by kernel_rfl) (by kernel_rfl) (fun _ _ _ h => h) (Or.inl ⟨by first | kernel_rfl | rfl, ?_⟩) (by assumption) ?_
  rotate_left
  · (intro w hSw; (try dsimp only at hSw); go_simp; try with_reducible rfl)
  simp only [List.getElem_toArray, List.getElem_cons_zero, List.getElem_cons_succ, Act.put, List.setIfInBounds_toArray, List.set_cons_zero, List.set_cons_succ]
  refine wpAnyH_done (by kernel_rfl) ?_ _
  go_wp2
  refine bodyPost_ret (v := .tuple #[.agg #[.slice ao g.length cap], .int .i64 h, .int .i64 x]) (by simp [results, Try.results38, go_sem, r3, z3]) rfl ?_
  exact ⟨⟨_, g, h, x, rfl, ((gd3.rg hfr.out hgl).set w.heap.size 0 _ (by omega)).less (by omega), hh.out, hx.out⟩, B3.setCell (p := ⟨w.heap.size, 0, none⟩) (Nat.le_refl _) _⟩
set_option maxRecDepth 100000 in
set_option maxHeartbeats 800000 in
theorem sDrawIsCoset_any (v : Value) (l : List Int) (w : World) (hr : Rd w w.heap.size .u8 v l) (hl : l.length ≤ 1048576) (hB : IsB l) :
    Calls Try.prog 39 #[v] w fun e w' => Dr1 w.heap.size e w' ∧ Below w.heap.size w w' := by
  have hG := hid fun c B w hc => sl5Group_any c B v l w hc hl hB
  have hE := hid fun c B u g w hc hg hn => sl2Element_any c B v u l g w hc (by omega) hB hg hn
  replace hB := hid hB
  go_enter Try.func39, Try.ntmps39
  go_wp2_with fail
  refine (new_at (w.heap.size + 1) (by simp) ((hr.alloc (Nat.le_refl _) _).more (Nat.le_succ _)) hl).mono ?_
  rintro e w1 ⟨rfl, hc1, hb1⟩
  have B1 : Below w.heap.size w w1 := (below_alloc w (.cells #[.slice none 0 0] 26)).trans (hb1.mono (Nat.le_succ _))
  have r0 : w1.cell? ⟨w.heap.size, 0, none⟩ = some (.slice none 0 0) := (hb1.cell (p := ⟨w.heap.size, 0, none⟩) (Nat.lt_succ_self _)).trans (by simp [go_sem])
  have r1 : w1.frozen? ⟨w.heap.size, 0, none⟩ = false := (hb1.frozen (p := ⟨w.heap.size, 0, none⟩) (Nat.lt_succ_self _)).trans (by simp [go_sem])
  have hz1 : w.heap.size + 1 < w1.heap.size := hc1.lt
  clear hb1
  go_wp2_with fail
  refine (hG.out _ _ _ hc1).mono ?_
  rintro e w2 ⟨⟨u, g, h, rfl, hgd, hgl, hfr, hh⟩, hc2, hg2⟩
  have hgd' := hgd
  obtain ⟨ao, cap, rfl, _, _, _⟩ := hgd'
  replace hfr := hid hfr
  replace hh := hid hh
  have r0' := (cell_far hg2 ⟨w.heap.size, 0, none⟩ (by show w.heap.size < _; omega) (by simp)).trans r0
  have r1' := (frz_far hg2 ⟨w.heap.size, 0, none⟩ (by show w.heap.size < _; omega) (by simp)).trans r1
  have B2 : Below w.heap.size w w2 := B1.grown hg2 B1.size fun g hg => by have := Option.some.inj hg; omega
  have hz2 : w1.heap.size ≤ w2.heap.size := hg2.size
  have hz20 : w.heap.size < w2.heap.size := by omega
  have c2l := hc2.lt
  clear r0 r1 hg2 hc1 B1
  go_wp2_with fail
  obtain ⟨W, hW⟩ : ∃ W, W = w2.alloc (.cells #[.slice ao g.length cap] 26) := ⟨_, rfl⟩
  have bW : Below w2.heap.size w2 W := hW ▸ below_alloc _ _
  have cW : W.cell? ⟨w2.heap.size, 0, none⟩ = some (.slice ao g.length cap) := by rw [hW]; simp [go_sem]
  have zW : w2.heap.size < W.heap.size := by rw [hW]; simp
  rw [← hW]
  have rW := (bW.cell (p := ⟨w.heap.size, 0, none⟩) (by show w.heap.size < _; omega)).trans r0'
  have sW := (bW.frozen (p := ⟨w.heap.size, 0, none⟩) (by show w.heap.size < _; omega)).trans r1'
  have hcW := hc2.below bW
  have gdW := hgd.below bW
  have BW : Below w.heap.size w W := B2.trans (bW.mono (by omega))
  clear hW r0' r1' hc2 hgd B2 bW
  refine wp_region_held_drew (S := fun w' => w'.cell? ⟨w2.heap.size, 0, none⟩ = some (.slice ao g.length cap)) (by kernel_rfl) cW (fun hH0 => ?_)
  refine wpAnyH_take (i := 0) (v := ?_) rfl (by kernel_rfl) (by kernel_rfl) (by kernel_rfl) (fun _ _ _ h => h) (Or.inl ⟨by first | kernel_rfl | rfl, ?_⟩) (by assumption) ?_
  rotate_left
  · (intro w hSw; (try dsimp only at hSw); go_simp; try with_reducible rfl)
  simp only [List.getElem_toArray, List.getElem_cons_zero, List.getElem_cons_succ, Act.put, List.setIfInBounds_toArray, List.set_cons_zero, List.set_cons_succ]
  refine wpAnyH_take (i := 1) (v := ?_) rfl (by kernel_rfl) (by kernel_rfl) (by kernel_rfl) (fun _ _ _ h => h) (Or.inl ⟨by first | kernel_rfl | rfl, ?_⟩) (by assumption) ?_
  rotate_left
  · (intro w hSw; (try dsimp only at hSw); go_simp; try with_reducible rfl)
  simp only [List.getElem_toArray, List.getElem_cons_zero, List.getElem_cons_succ, Act.put, List.setIfInBounds_toArray, List.set_cons_zero, List.set_cons_succ]
  refine wpAnyH_take (i := 2) (v := ?_) rfl (by kernel_rfl) (by kernel_rfl) (by kernel_rfl) (fun _ _ _ h => h) (Or.inl ⟨by first | kernel_rfl | rfl, ?_⟩) (by assumption) ?_
  rotate_left
  · (intro w hSw; (try dsimp only at hSw); go_simp; try with_reducible rfl)
  simp only [List.getElem_toArray, List.getElem_cons_zero, List.getElem_cons_succ, Act.put, List.setIfInBounds_toArray, List.set_cons_zero, List.set_cons_succ]
  refine wpAnyH_take (i := 3) (v := ?_) rfl (by kernel_rfl) (by kernel_rfl) (by kernel_rfl) (fun _ _ _ h => h) (Or.inl ⟨by first | kernel_rfl | rfl, ?_⟩) (by assumption) ?_
  rotate_left
  · (intro w hSw; (try dsimp only at hSw); go_simp; try with_reducible rfl)
  simp only [List.getElem_toArray, List.getElem_cons_zero, List.getElem_cons_succ, Act.put, List.setIfInBounds_toArray, List.set_cons_zero, List.set_cons_succ]
  refine wpAnyH_ready (rs := [4]) (by kernel_rfl) (by simp) ?_
  refine AllReadyH.cons rfl (fun K4 hK4 => ?_) AllReadyH.nil
  go_simp
  go_at_call 65
  refine (hE.out _ _ _ _ _ (hcW.below (Below.refl _ _).drew) (gdW.below (Below.refl _ _).drew) (by omega)).mono ?_
  rintro e w3 ⟨⟨x, rfl, hx⟩, hc3, hg3⟩
  replace hg3 : W.grownBy w3 (some (w.heap.size + 1)) := grown_trans (below_grown (Below.refl W.heap.size W).drew _) hg3
  have r3 := (cell_far hg3 ⟨w.heap.size, 0, none⟩ (by show w.heap.size < _; omega) (by simp)).trans rW
  have s3 := (frz_far hg3 ⟨w.heap.size, 0, none⟩ (by show w.heap.size < _; omega) (by simp)).trans sW
  have c3 := (cell_far hg3 ⟨w2.heap.size, 0, none⟩ zW (by simp; omega)).trans cW
  have gd3 := gdW.drawn hg3
  have B3 : Below w.heap.size w w3 := BW.grown hg3 BW.size fun g hg => by have := Option.some.inj hg; omega
  have z3 : w.heap.size < w3.heap.size := by have := hg3.size; omega
  have z32 : w2.heap.size < w3.heap.size := Nat.lt_of_lt_of_le zW hg3.size
  replace hx := hid hx
  clear hcW gdW BW rW sW cW hg3
  go_wp2_with fail
  refine hK4.out _ _ c3 (fun hH3 => ?_)
  refine wpAnyH_ready (rs := [5]) (by kernel_rfl) (by simp) ?_
  refine AllReadyH.cons rfl (fun K5 hK5 => ?_) AllReadyH.nil
  go_simp
  go_at_call 84
  refine (sShiftSet_any _ g h x _ gd3.rd (by omega) hh.out hx.out).mono ?_
  rintro e w4 ⟨rfl, hb4⟩
  have hS := hid (shiftS_I64 g h x)
  obtain ⟨y, hy⟩ : ∃ y, y = shiftS g h x := ⟨_, rfl⟩
  rw [← hy] at hS ⊢
  have c4 := (hb4.cell (p := ⟨w2.heap.size, 0, none⟩) z32).trans c3
  have r4 := (hb4.cell (p := ⟨w.heap.size, 0, none⟩) z3).trans r3
  have s4 := (hb4.frozen (p := ⟨w.heap.size, 0, none⟩) z3).trans s3
  have gd4 := gd3.below hb4
  have B4 := bgo B3 hb4
  have z4 := Nat.lt_of_lt_of_le z3 hb4.size
  clear hy hb4 c3 r3 s3 gd3
  go_wp2_with fail
  refine hK5.out _ _ c4 (fun hH4 => ?_)
  refine wpAnyH_take (i := 6) (v := ?_) rfl (by kernel_rfl) (by kernel_rfl) (by kernel_rfl) (fun _ _ _ h => h) (Or.inl ⟨by first | kernel_rfl | rfl, ?_⟩) (by assumption) ?_
  rotate_left
  · (intro w hSw; (try dsimp only at hSw); go_simp; try with_reducible rfl)
  simp only [List.getElem_toArray, List.getElem_cons_zero, List.getElem_cons_succ, Act.put, List.setIfInBounds_toArray, List.set_cons_zero, List.set_cons_succ]
  refine wpAnyH_done (by kernel_rfl) ?_ _
  go_wp2
  refine bodyPost_ret (v := .tuple #[.agg #[.slice ao g.length cap], .int .i64 y]) (by simp [results, Try.results39, go_sem, r4, z4]) rfl ?_
  exact ⟨⟨_, g, y, rfl, ((gd4.rg hfr.out hgl).set w.heap.size 0 _ (by omega)).less (by omega), hS.out⟩, B4.setCell (p := ⟨w.heap.size, 0, none⟩) (Nat.le_refl _) _⟩
end Go.Proofs.Ytknbfohmobjplaa
