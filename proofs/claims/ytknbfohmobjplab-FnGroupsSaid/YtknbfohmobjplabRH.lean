/- The draws of texts, of a group with a text, of a group with a row of places. Conditions: codes of at most 2^20 bytes. -/
import Derived.Test.YtknbfohmobjplabRG
import Derived.Test.YtknbfohmobjplabT5
import Derived.Test.YtknbfohmobjplabC3
import Derived.Test.YtknbfohmobjplabD2
namespace Go.Proofs.Ytknbfohmobjplab
set_option linter.unusedVariables false
set_option linter.unusedSimpArgs false
open Go.RowKit

theorem fgE_len (l : List Int) : (fgE l).length ≤ 10 := by
  cases hE : isGroup l with
  | false => rw [fgE_no hE]; simp
  | true =>
    by_cases hp : 0 < l.length
    · have hi := (isGroup_iff l).1 hE
      rw [fgE_yes hE hp]
      have := joinI_len2 (b := 120) (l := l) fun x hm => by have := hi.2.1 x hm; omega
      omega
    · have : l = [] := List.eq_nil_of_length_eq_zero (by omega)
      subst this
      decide
def DrT (base : Nat) (e : Ending) (w : World) : Prop := ∃ u g t, e = .returned (.tuple #[.agg #[u], .string t]) ∧ Rg w base u g ∧ t.size ≤ 3000
def pickG : List ByteArray := [⟨#[]⟩, ⟨#[49]⟩, ⟨#[48]⟩, ⟨#[120]⟩, ⟨#[50, 120]⟩, ⟨#[120, 50]⟩, ⟨#[49, 120, 50]⟩, ⟨#[48, 50]⟩, ⟨#[50, 53]⟩, ⟨#[53, 120, 53]⟩, ⟨#[50, 120, 50, 120, 50, 120, 50]⟩, ⟨#[50, 52]⟩]
def pickS : List ByteArray := [⟨#[]⟩, ⟨#[110, 111, 110, 101]⟩, ⟨#[48]⟩, ⟨#[49, 44, 48]⟩, ⟨#[48, 44, 48]⟩, ⟨#[48, 44]⟩, ⟨#[48, 48]⟩, ⟨#[50, 52]⟩, ⟨#[45, 49]⟩]
theorem pickG_size : ∀ t ∈ pickG, t.size ≤ 3000 := by decide
theorem pickS_size : ∀ t ∈ pickS, t.size ≤ 3000 := by decide
set_option maxRecDepth 100000 in
set_option maxHeartbeats 800000 in
theorem sDrawParseGroup_any (v : Value) (l : List Int) (w : World) (hr : Rd w w.heap.size .u8 v l) (hl : l.length ≤ 1048576) (hB : IsB l) :
    Calls Try.prog 21 #[v] w fun e w' => (∃ t : ByteArray, e = .returned (.string t) ∧ t.size ≤ 3000) ∧ Below w.heap.size w w' := by
  have hA := hid fun c B w hc => sl2Any_any c B v l w hc (by omega) hB
  have hY := hid fun c B n h0 hn w hc => sl1Below_any c B v l n w hc (by omega) hB h0 hn
  have hP := hid fun c B L d w hc => sl1Pick_any c B v l L d w hc (by omega) hB
  have hS := hid fun c B s w hc hs => sl1Spoil_any c B v l s w hc hl hB hs
  have hN := hid fun w hr => sl1New_any v l w hr (by omega)
  replace hB := hid hB
  go_enter Try.func21, Try.ntmps21
  go_wp2_with fail
  refine (hN.out _ hr).mono ?_
  rintro e w1 ⟨rfl, hc1, B1⟩
  have hz1 := hc1.lt
  go_wp2_with fail
  refine (hA.out _ _ _ hc1).mono ?_
  rintro e w2 ⟨⟨u, g, rfl, hgd, hgl, hfr⟩, hc2, hg2⟩
  have hgd' := hgd
  obtain ⟨ao, cap, rfl, _, _, _⟩ := hgd'
  have B2 : Below w.heap.size w w2 := B1.grown hg2 B1.size fun g hg => by have := Option.some.inj hg; omega
  clear hfr hg2 hc1
  go_wp2_with fail
  refine (sFormatGroup_any _ g _ hgd.rd (by omega)).mono ?_
  rintro e w3 ⟨rfl, hb3⟩
  have B3 := bgo B2 hb3
  have hc3 := hc2.below hb3
  have hfl := fgE_len g
  obtain ⟨T, hT⟩ : ∃ T, T = strOfNums (fgE g) := ⟨_, rfl⟩
  have hTs : T.size ≤ 10 := by rw [hT, strOfNums_size]; exact hfl
  rw [← hT]
  clear hT hfl hgd hb3 hc2
  go_wp2_with fail
  refine (hY.out _ _ _ (by omega) (by omega) _ hc3).mono ?_
  rintro e w4 ⟨⟨z, rfl, hz0, hz1'⟩, hc4, hg4⟩
  have B4 : Below w.heap.size w w4 := B3.grown hg4 B3.size fun g hg => by have := Option.some.inj hg; omega
  have hc4l := hc4.lt
  clear hg4 hc3
  by_cases z0 : z = 0
  · subst z0
    go_wp2_with fail
    refine (hS.out _ _ _ _ hc4 (by omega)).mono ?_
    rintro e w5 ⟨⟨t, rfl, ht⟩, hc5, hg5⟩
    go_wp2
    go_ret
    exact ⟨⟨_, rfl, ht⟩, B4.grown hg5 B4.size fun g hg => by have := Option.some.inj hg; omega⟩
  have z0' : (z == 0) = false := beq_eq_false_iff_ne.2 z0
  by_cases z1 : z = 1
  · subst z1
    go_wp2_with fail
    refine (hP.out _ _ pickG w4.heap.size _ (hc4.below (below_alloc _ _)) (by simp) (by omega) (fun i h => texts_new w4 pickG _ i h) (by decide) (by decide) _ rfl).mono ?_
    rintro e w5 ⟨⟨t, rfl, ht⟩, hc5, hg5⟩
    have htz := pickG_size t ht
    go_wp2
    go_ret
    exact ⟨⟨_, rfl, htz⟩, (B4.trans ((below_alloc _ _).mono B4.size)).grown hg5 (by have := B4.size; simp; omega) fun g hg => by have := Option.some.inj hg; omega⟩
  have z1' : (z == 1) = false := beq_eq_false_iff_ne.2 z1
  go_wp2
  go_ret
  exact ⟨⟨_, rfl, by omega⟩, B4⟩
set_option maxRecDepth 100000 in
set_option maxHeartbeats 1600000 in
theorem sDrawParseSet_any (v : Value) (l : List Int) (w : World) (hr : Rd w w.heap.size .u8 v l) (hl : l.length ≤ 1048576) (hB : IsB l) :
    Calls Try.prog 54 #[v] w fun e w' => DrT w.heap.size e w' ∧ Below w.heap.size w w' := by
  have hA := hid fun c B w hc => sl2Any_any c B v l w hc (by omega) hB
  have hE := hid fun c B u g w hc hg hn => sl3Set_any c B v u l g w hc (by omega) hB hg hn
  have hY := hid fun c B n h0 hn w hc => sl1Below_any c B v l n w hc (by omega) hB h0 hn
  have hP := hid fun c B L d w hc => sl1Pick_any c B v l L d w hc (by omega) hB
  have hS := hid fun c B s w hc hs => sl1Spoil_any c B v l s w hc hl hB hs
  replace hB := hid hB
  go_enter Try.func54, Try.ntmps54
  go_wp2_with fail
  refine (new_at (w.heap.size + 1) (by simp) ((hr.alloc (Nat.le_refl _) _).more (Nat.le_succ _)) hl).mono ?_
  rintro e w1 ⟨rfl, hc1, hb1⟩
  have B1 : Below w.heap.size w w1 := (below_alloc w (.cells #[.slice none 0 0] 26)).trans (hb1.mono (Nat.le_succ _))
  have r0 : w1.cell? ⟨w.heap.size, 0, none⟩ = some (.slice none 0 0) := (hb1.cell (p := ⟨w.heap.size, 0, none⟩) (Nat.lt_succ_self _)).trans (by simp [go_sem])
  have r1 : w1.frozen? ⟨w.heap.size, 0, none⟩ = false := (hb1.frozen (p := ⟨w.heap.size, 0, none⟩) (Nat.lt_succ_self _)).trans (by simp [go_sem])
  have hz1 : w.heap.size + 1 < w1.heap.size := hc1.lt
  clear hb1
  go_wp2_with fail
  refine (hA.out _ _ _ hc1).mono ?_
  rintro e w2 ⟨⟨u, g, rfl, hgd, hgl, hfr⟩, hc2, hg2⟩
  have hgd' := hgd
  obtain ⟨ao, cap, rfl, _, _, _⟩ := hgd'
  replace hfr := hid hfr
  have r0' := (cell_far hg2 ⟨w.heap.size, 0, none⟩ (by show w.heap.size < _; omega) (by simp)).trans r0
  have r1' := (frz_far hg2 ⟨w.heap.size, 0, none⟩ (by show w.heap.size < _; omega) (by simp)).trans r1
  have B2 : Below w.heap.size w w2 := B1.grown hg2 B1.size fun g hg => by have := Option.some.inj hg; omega
  have hz2 : w1.heap.size ≤ w2.heap.size := hg2.size
  have c2l := hc2.lt
  clear r0 r1 hg2 hc1 B1
  go_wp2_with fail
  obtain ⟨W, hW⟩ : ∃ W, W = w2.alloc (.cells #[.slice ao g.length cap] 26) := ⟨_, rfl⟩
  have bW : Below w2.heap.size w2 W := hW ▸ below_alloc _ _
  have cW : W.cell? ⟨w2.heap.size, 0, none⟩ = some (.slice ao g.length cap) := by rw [hW]; simp [go_sem]
  have zW : W.heap.size = w2.heap.size + 1 := by rw [hW]; simp
  rw [← hW]
  have rW := (bW.cell (p := ⟨w.heap.size, 0, none⟩) (by show w.heap.size < _; omega)).trans r0'
  have sW := (bW.frozen (p := ⟨w.heap.size, 0, none⟩) (by show w.heap.size < _; omega)).trans r1'
  have hcW := hc2.below bW
  have gdW := hgd.below bW
  have BW : Below w.heap.size w W := B2.trans (bW.mono (by omega))
  have kc := hid fun x (h : Kept W (w.heap.size + 1) x) => show x.cell? ⟨w2.heap.size, 0, none⟩ = some (.slice ao g.length cap) from (h.cell ⟨w2.heap.size, 0, none⟩ (by show w2.heap.size < _; omega) (by show w2.heap.size ≠ _; omega)).trans cW
  have kr := hid fun x (h : Kept W (w.heap.size + 1) x) => show x.cell? ⟨w.heap.size, 0, none⟩ = some (.slice none 0 0) from (h.cell ⟨w.heap.size, 0, none⟩ (by show w.heap.size < _; omega) (by simp)).trans rW
  have ks := hid fun x (h : Kept W (w.heap.size + 1) x) => show x.frozen? ⟨w.heap.size, 0, none⟩ = false from (h.frozen ⟨w.heap.size, 0, none⟩ (by show w.heap.size < _; omega) (by simp)).trans sW
  have hcur : (w.heap.size + 1) < W.heap.size := by omega
  clear hW r0' r1' hc2 hgd B2 bW
  refine wp_region_held_drew (S := fun w' => w'.cell? ⟨w2.heap.size, 0, none⟩ = some (.slice ao g.length cap)) (by kernel_rfl) cW (fun hH0 => ?_)
  refine wpAnyH_take (i := 0) (v := ?_) rfl (by kernel_rfl) (by kernel_rfl) (by kernel_rfl) (fun _ _ _ h => h) (Or.inl ⟨by first | kernel_rfl | rfl, ?_⟩) (by assumption) ?_
  rotate_left
  · (intro w hSw; (try dsimp only at hSw); go_simp; try with_reducible rfl)
  simp only [List.getElem_toArray, List.getElem_cons_zero, List.getElem_cons_succ, Act.put, List.setIfInBounds_toArray, List.set_cons_zero, List.set_cons_succ]
  refine wpAnyH_take (i := 1) (v := ?_) rfl (by kernel_rfl) (by kernel_rfl) (by kernel_rfl) (fun _ _ _ h => h) (Or.inl ⟨by first | kernel_rfl | rfl, ?_⟩) (by assumption) ?_
  rotate_left
  · (intro w hSw; (try dsimp only at hSw); go_simp; try with_reducible rfl)
  simp only [List.getElem_toArray, List.getElem_cons_zero, List.getElem_cons_succ, Act.put, List.setIfInBounds_toArray, List.set_cons_zero, List.set_cons_succ]
  refine wpAnyH_take (i := 2) (v := ?_) rfl (by kernel_rfl) (by kernel_rfl) (by kernel_rfl) (fun _ _ _ h => h) (Or.inl ⟨by first | kernel_rfl | rfl, ?_⟩) (by assumption) ?_
  rotate_left
  · (intro w hSw; (try dsimp only at hSw); go_simp; try with_reducible rfl)
  simp only [List.getElem_toArray, List.getElem_cons_zero, List.getElem_cons_succ, Act.put, List.setIfInBounds_toArray, List.set_cons_zero, List.set_cons_succ]
  refine wpAnyH_ready (rs := [3]) (by kernel_rfl) (by simp) ?_
  refine AllReadyH.cons rfl (fun K3 hK3 => ?_) AllReadyH.nil
  go_simp
  go_at_call 103
  refine (hE.out _ _ _ _ _ (hcW.below (Below.refl _ _).drew) (gdW.below (Below.refl _ _).drew) (by omega)).mono ?_
  rintro e w3 ⟨⟨x, rfl, hx⟩, hc3, hg3⟩
  replace hg3 : W.grownBy w3 (some (w.heap.size + 1)) := grown_trans (below_grown (Below.refl W.heap.size W).drew _) hg3
  have K3 := (Kept.refl W (w.heap.size + 1)).drawn hg3
  have B3 : Below w.heap.size w w3 := BW.grown hg3 BW.size fun g hg => by have := Option.some.inj hg; omega
  have gd3 := gdW.drawn hg3
  replace hx := hid hx
  have c3 := kc.out _ K3
  clear hg3 hcW gdW
  go_wp2_with fail
  refine hK3.out _ _ c3 (fun hH3 => ?_)
  refine wpAnyH_ready (rs := [4]) (by kernel_rfl) (by simp) ?_
  refine AllReadyH.cons rfl (fun K4 hK4 => ?_) AllReadyH.nil
  go_simp
  go_at_call 43
  refine (sFormatSet_any _ g x _ gd3.rd (by omega) hx.out).mono ?_
  rintro e w4 ⟨rfl, hb4⟩
  have K4' := K3.below (hb4.mono K3.size)
  have B4 := bgo B3 hb4
  have gd4 := gd3.below hb4
  have hc4 := hc3.below hb4
  have hfl := fsE_len g x
  obtain ⟨T, hT⟩ : ∃ T, T = strOfNums (fsE g x) := ⟨_, rfl⟩
  have hTs : T.size ≤ 80 := by rw [hT, strOfNums_size]; exact hfl
  have c4 := kc.out _ K4'
  rw [← hT]
  clear hT hfl hb4 hc3 gd3 c3 hx
  go_wp2_with fail
  refine hK4.out _ _ c4 (fun hH4 => ?_)
  refine wpAnyH_take (i := 5) (v := ?_) rfl (by kernel_rfl) (by kernel_rfl) (by kernel_rfl) (fun _ _ _ h => h) (Or.inl ⟨by first | kernel_rfl | rfl, ?_⟩) (by assumption) ?_
  rotate_left
  · (intro w hSw; (try dsimp only at hSw); go_simp; try with_reducible rfl)
  simp only [List.getElem_toArray, List.getElem_cons_zero, List.getElem_cons_succ, Act.put, List.setIfInBounds_toArray, List.set_cons_zero, List.set_cons_succ]
  refine wpAnyH_done (by kernel_rfl) ?_ _
  go_wp2_with fail
  refine (hY.out _ _ _ (by omega) (by omega) _ hc4).mono ?_
  rintro e w5 ⟨⟨z, rfl, hz0, hz1'⟩, hc5, hg5⟩
  have K5' := K4'.drawn hg5
  have B5 : Below w.heap.size w w5 := B4.grown hg5 B4.size fun g hg => by have := Option.some.inj hg; omega
  have gd5 := gd4.drawn hg5
  have c5 := kc.out _ K5'
  have r5 := kr.out _ K5'
  have s5 := ks.out _ K5'
  have hc5l := hc5.lt
  have z5 := K5'.size
  clear hg5 hc4 gd4 c4 K3 K4'
  by_cases z0 : z = 0
  · subst z0
    go_wp2_with fail
    refine wp_region_held_drew (S := fun w' => w'.cell? ⟨w2.heap.size, 0, none⟩ = some (.slice ao g.length cap)) (by kernel_rfl) c5 (fun hH0 => ?_)
    refine wpAnyH_take (i := 0) (v := ?_) rfl (by kernel_rfl) (by kernel_rfl) (by kernel_rfl) (fun _ _ _ h => h) (Or.inl ⟨by first | kernel_rfl | rfl, ?_⟩) (by assumption) ?_
    rotate_left
    · (intro w hSw; (try dsimp only at hSw); go_simp; try with_reducible rfl)
    simp only [List.getElem_toArray, List.getElem_cons_zero, List.getElem_cons_succ, Act.put, List.setIfInBounds_toArray, List.set_cons_zero, List.set_cons_succ]
    refine wpAnyH_take (i := 1) (v := ?_) rfl (by kernel_rfl) (by kernel_rfl) (by kernel_rfl) (fun _ _ _ h => h) (Or.inl ⟨by first | kernel_rfl | rfl, ?_⟩) (by assumption) ?_
    rotate_left
    · (intro w hSw; (try dsimp only at hSw); go_simp; try with_reducible rfl)
    simp only [List.getElem_toArray, List.getElem_cons_zero, List.getElem_cons_succ, Act.put, List.setIfInBounds_toArray, List.set_cons_zero, List.set_cons_succ]
    refine wpAnyH_take (i := 2) (v := ?_) rfl (by kernel_rfl) (by kernel_rfl) (by kernel_rfl) (fun _ _ _ h => h) (Or.inl ⟨by first | kernel_rfl | rfl, ?_⟩) (by assumption) ?_
    rotate_left
    · (intro w hSw; (try dsimp only at hSw); go_simp; try with_reducible rfl)
    simp only [List.getElem_toArray, List.getElem_cons_zero, List.getElem_cons_succ, Act.put, List.setIfInBounds_toArray, List.set_cons_zero, List.set_cons_succ]
    refine wpAnyH_ready (rs := [3]) (by kernel_rfl) (by simp) ?_
    refine AllReadyH.cons rfl (fun K3 hK3 => ?_) AllReadyH.nil
    go_simp
    go_at_call 83
    refine (hS.out _ _ _ _ (hc5.below (Below.refl _ _).drew) (by omega)).mono ?_
    rintro e w6 ⟨⟨t, rfl, ht⟩, hc6, hg6⟩
    replace hg6 : w5.grownBy w6 (some (w.heap.size + 1)) := grown_trans (below_grown (Below.refl w5.heap.size w5).drew _) hg6
    have K6 := K5'.drawn hg6
    have B6 : Below w.heap.size w w6 := B5.grown hg6 B5.size fun g hg => by have := Option.some.inj hg; omega
    have gd6 := gd5.drawn hg6
    have c6 := kc.out _ K6
    have r6 := kr.out _ K6
    have s6 := ks.out _ K6
    have z6 : w.heap.size < w6.heap.size := by have := K6.size; omega
    have z62 : w2.heap.size < w6.heap.size := by have := K6.size; omega
    clear hg6 hc5 gd5 c5 r5 s5 hc6
    go_wp2_with fail
    refine hK3.out _ _ c6 (fun hH3 => ?_)
    refine wpAnyH_ready (rs := [4]) (by kernel_rfl) (by simp) ?_
    refine AllReadyH.cons rfl (fun K4 hK4 => ?_) AllReadyH.nil
    go_simp
    refine hK4.out _ _ ((cell_far grown_set ⟨w2.heap.size, 0, none⟩ z62 (by simp; omega)).trans c6) (fun hH4 => ?_)
    refine wpAnyH_take (i := 5) (v := ?_) rfl (by kernel_rfl) (by kernel_rfl) (by kernel_rfl) (fun _ _ _ h => h) (Or.inl ⟨by first | kernel_rfl | rfl, ?_⟩) (by assumption) ?_
    rotate_left
    · (intro w hSw; (try dsimp only at hSw); go_simp; try with_reducible rfl)
    simp only [List.getElem_toArray, List.getElem_cons_zero, List.getElem_cons_succ, Act.put, List.setIfInBounds_toArray, List.set_cons_zero, List.set_cons_succ]
    refine wpAnyH_done (by kernel_rfl) ?_ _
    go_wp2
    refine bodyPost_ret (v := .tuple #[.agg #[.slice ao g.length cap], .string t]) (by simp [results, Try.results54, go_sem, r6, z6]) rfl ?_
    exact ⟨⟨_, g, t, rfl, ((gd6.rg hfr.out hgl).set w.heap.size 0 _ (by omega)).less (by omega), ht⟩, B6.setCell (p := ⟨w.heap.size, 0, none⟩) (Nat.le_refl _) _⟩
  have z0' : (z == 0) = false := beq_eq_false_iff_ne.2 z0
  by_cases z1 : z = 1
  · subst z1
    go_wp2_with fail
    refine wp_region_held_drew (S := fun w' => w'.cell? ⟨w2.heap.size, 0, none⟩ = some (.slice ao g.length cap)) (by kernel_rfl) c5 (fun hH0 => ?_)
    refine wpAnyH_take (i := 0) (v := ?_) rfl (by kernel_rfl) (by kernel_rfl) (by kernel_rfl) (fun _ _ _ h => h) (Or.inl ⟨by first | kernel_rfl | rfl, ?_⟩) (by assumption) ?_
    rotate_left
    · (intro w hSw; (try dsimp only at hSw); go_simp; try with_reducible rfl)
    simp only [List.getElem_toArray, List.getElem_cons_zero, List.getElem_cons_succ, Act.put, List.setIfInBounds_toArray, List.set_cons_zero, List.set_cons_succ]
    refine wpAnyH_take (i := 1) (v := ?_) rfl (by kernel_rfl) (by kernel_rfl) (by kernel_rfl) (fun _ _ _ h => h) (Or.inl ⟨by first | kernel_rfl | rfl, ?_⟩) (by assumption) ?_
    rotate_left
    · (intro w hSw; (try dsimp only at hSw); go_simp; try with_reducible rfl)
    simp only [List.getElem_toArray, List.getElem_cons_zero, List.getElem_cons_succ, Act.put, List.setIfInBounds_toArray, List.set_cons_zero, List.set_cons_succ]
    refine wpAnyH_ready (rs := [2]) (by kernel_rfl) (by simp) ?_
    refine AllReadyH.cons rfl (fun K2 hK2 => ?_) AllReadyH.nil
    go_simp
    refine hK2.out _ _ (((below_alloc w5 _).cell (p := ⟨w2.heap.size, 0, none⟩) (by show w2.heap.size < _; omega)).trans c5) (fun hH2 => ?_)
    refine wpAnyH_ready (rs := [3]) (by kernel_rfl) (by simp) ?_
    refine AllReadyH.cons rfl (fun K3 hK3 => ?_) AllReadyH.nil
    go_simp
    go_at_call 84
    refine (hP.out _ _ pickS w5.heap.size _ ((hc5.below (below_alloc _ _)).below (Below.refl _ _).drew) (by simp) (by omega) (fun i h => texts_new w5 pickS _ i h) (by decide) (by decide) _ rfl).mono ?_
    rintro e w6 ⟨⟨t, rfl, ht⟩, hc6, hg6⟩
    replace hg6 : w5.grownBy w6 (some (w.heap.size + 1)) := grown_trans (below_grown (below_alloc w5 _).drew _) hg6
    have K6 := K5'.drawn hg6
    have B6 : Below w.heap.size w w6 := B5.grown hg6 B5.size fun g hg => by have := Option.some.inj hg; omega
    have gd6 := gd5.drawn hg6
    have c6 := kc.out _ K6
    have r6 := kr.out _ K6
    have s6 := ks.out _ K6
    have htz := pickS_size t ht
    have z6 : w.heap.size < w6.heap.size := by have := K6.size; omega
    have z62 : w2.heap.size < w6.heap.size := by have := K6.size; omega
    clear hg6 hc5 gd5 c5 r5 s5 hc6 ht
    go_wp2_with fail
    refine hK3.out _ _ c6 (fun hH3 => ?_)
    refine wpAnyH_ready (rs := [4]) (by kernel_rfl) (by simp) ?_
    refine AllReadyH.cons rfl (fun K4 hK4 => ?_) AllReadyH.nil
    go_simp
    refine hK4.out _ _ ((cell_far grown_set ⟨w2.heap.size, 0, none⟩ z62 (by simp; omega)).trans c6) (fun hH4 => ?_)
    refine wpAnyH_take (i := 5) (v := ?_) rfl (by kernel_rfl) (by kernel_rfl) (by kernel_rfl) (fun _ _ _ h => h) (Or.inl ⟨by first | kernel_rfl | rfl, ?_⟩) (by assumption) ?_
    rotate_left
    · (intro w hSw; (try dsimp only at hSw); go_simp; try with_reducible rfl)
    simp only [List.getElem_toArray, List.getElem_cons_zero, List.getElem_cons_succ, Act.put, List.setIfInBounds_toArray, List.set_cons_zero, List.set_cons_succ]
    refine wpAnyH_done (by kernel_rfl) ?_ _
    go_wp2
    refine bodyPost_ret (v := .tuple #[.agg #[.slice ao g.length cap], .string t]) (by simp [results, Try.results54, go_sem, r6, z6]) rfl ?_
    exact ⟨⟨_, g, t, rfl, ((gd6.rg hfr.out hgl).set w.heap.size 0 _ (by omega)).less (by omega), htz⟩, B6.setCell (p := ⟨w.heap.size, 0, none⟩) (Nat.le_refl _) _⟩
  have z1' : (z == 1) = false := beq_eq_false_iff_ne.2 z1
  have zz : w.heap.size < w5.heap.size := by omega
  go_wp2
  refine bodyPost_ret (v := .tuple #[.agg #[.slice ao g.length cap], .string T]) (by simp [results, Try.results54, go_sem, r5, zz]) rfl ?_
  exact ⟨⟨_, g, T, rfl, ((gd5.rg hfr.out hgl).set w.heap.size 0 _ (by omega)).less (by omega), by omega⟩, B5.setCell (p := ⟨w.heap.size, 0, none⟩) (Nat.le_refl _) _⟩
end Go.Proofs.Ytknbfohmobjplab
