/- The draws of a group with a row of places, and of two groups. Conditions: codes of at most 2^20 bytes. -/
import Derived.Test.YtknbfohmobjplabRH
import Derived.Test.YtknbfohmobjplabR8
namespace Go.Proofs.Ytknbfohmobjplab
set_option linter.unusedVariables false
set_option linter.unusedSimpArgs false
open Go.RowKit

theorem plcE_len5 (l : List Int) (x : Int) : (plcE l x).length ≤ 5 := by
  unfold plcE
  split
  · rename_i h
    rw [places_length]
    have := isGroup.len (isEl.group h)
    omega
  · simp
def oddP : List Int := [-1, 1, 12, 99]
def DrG2 (base : Nat) (e : Ending) (w : World) : Prop := ∃ u1 g1 u2 g2, e = .returned (.tuple #[.agg #[u1], .agg #[u2]]) ∧ Rg w base u1 g1 ∧ Rg w base u2 g2
/-- append of any row onto an empty one of the call's own, in a region that draws its order -/
theorem appR_step {P : Program} {ops : Array Oper} {o : Oper} {a : Act} {w : World} {K : Act → World → Prop} {Q : Exit → Act → World → Prop} {E : Prop} {T e : TypeId} {bytes : Nat}
    (hg : o.guard = none) (s x : Operand) (hop : o.op = Op.call { callee := Callee.builtin Builtin.append, args := #[s, x], argTypes := #[T, T] })
    (hT : P.underlying T = some (.slice e)) (hinfo : (P.info? e).map (fun i => (i.zero, i.size, i.bytes)) = some (some (.int .i64 0), 1, bytes)) (hby : bytes ≤ 8)
    {base : Nat} {ad0 : Addr} (hs : a.eval s = .slice (some ad0) 0 0) (hown : Own w base e .i64 (.slice (some ad0) 0 0) []) {B : Nat} {vx : Value} {l : List Int} (hx : a.eval x = vx) (hr : Rd w B .i64 vx l)
    (hlen : l.length ≤ 1024) (hbase : base ≤ w.heap.size)
    (h : ∀ v' w', Own w' base e .i64 v' l → Below base w w' → K (a.put o.dst v') w') :
    if Region.wanted o (yielded ops a.tmps) = true then Oper.wp P o a w K Q else E := by
  obtain ⟨ao, cap, rfl, h1, h2, h3⟩ := hr
  cases ao with
  | some ad =>
    refine appN_step (v := .slice (some ad0) 0 0) hg s x hop hT hinfo hby hs hown l ad cap hx ?_ (by simp; omega) hbase ?_
    · intro j u hu
      obtain ⟨hj, hu2⟩ := List.getElem?_eq_some_iff.1 hu
      obtain ⟨b, off, hb, _, hc⟩ := h3 (by omega)
      injection hb with hb
      subst hb
      have := hc j hj
      rw [hu2] at this
      rw [show ((⟨b, off, none⟩ : Addr).add j) = ⟨b, off + j, none⟩ by cases j <;> simp [Addr.add]]
      exact this
    · intro v' w' ho hb _
      rw [List.nil_append] at ho
      exact h v' w' ho hb
  | none =>
    have hl : l = [] := by
      rcases Nat.eq_zero_or_pos l.length with h0 | h0
      · exact List.eq_nil_of_length_eq_zero h0
      · obtain ⟨b, off, hb, _⟩ := h3 h0
        cases hb
    subst hl
    have hw : Region.wanted o (yielded ops a.tmps) = true := by simp [Region.wanted, hg]
    rw [if_pos hw]
    obtain ⟨i0, hi, hz0, hz1, hz2⟩ := info_parts hinfo
    have hr : (Builtin.append_ #[T, T] o.type #[.slice (some ad0) 0 0, .slice none 0 cap]).run P w = .ok (.slice (some ad0) 0 0) w := by
      simp [Builtin.append_, run_underlying hT, sizeOf, typeInfo, hi, Builtin.lenOf, Builtin.firstCells, storeCells]
    unfold Oper.wp
    simp [execOp, hop, resolve, invoke, builtin, hs, hx, hr, Result.andThen]
    exact h _ _ hown (Below.refl _ _)
set_option maxRecDepth 100000 in
set_option maxHeartbeats 1600000 in
theorem sDrawElementOf_any (v : Value) (l : List Int) (w : World) (hr : Rd w w.heap.size .u8 v l) (hl : l.length ≤ 1048576) (hB : IsB l) :
    Calls Try.prog 28 #[v] w fun e w' => DrL w.heap.size e w' ∧ Below w.heap.size w w' := by
  have hA := hid fun c B w hc => sl2Any_any c B v l w hc (by omega) hB
  have hE := hid fun c B u g w hc hg hn => sl2Element_any c B v u l g w hc (by omega) hB hg hn
  have hO := hid fun c B n h0 hn w hc => sl1Once_any c B v l n w hc (by omega) hB h0 hn
  have hP := hid fun c B L d w hc => sl1PickInt_any c B v l L d w hc (by omega) hB
  replace hB := hid hB
  go_enter Try.func28, Try.ntmps28
  go_wp2_with fail
  refine (new_at (w.heap.size + 1) (by simp) ((hr.alloc (Nat.le_refl _) _).more (Nat.le_succ _)) hl).mono ?_
  rintro e w1 ⟨rfl, hc1, hb1⟩
  have B1 : Below w.heap.size w w1 := (below_alloc w (.cells #[.slice none 0 0] 26)).trans (hb1.mono (Nat.le_succ _))
  have r0 : w1.cell? ⟨w.heap.size, 0, none⟩ = some (.slice none 0 0) := (hb1.cell (p := ⟨w.heap.size, 0, none⟩) (Nat.lt_succ_self _)).trans (by simp [go_sem])
  have r1 : w1.frozen? ⟨w.heap.size, 0, none⟩ = false := (hb1.frozen (p := ⟨w.heap.size, 0, none⟩) (Nat.lt_succ_self _)).trans (by simp [go_sem])
  have hz1 : w.heap.size + 1 < w1.heap.size := hc1.lt
  clear hb1
  go_wp2_with fail
  refine (hA.out _ _ _ hc1).mono ?_
  rintro e w2 ⟨⟨u, g, rfl, hgd, hgl, hfr⟩, hc2, hg2⟩
  have hgd' := hgd
  obtain ⟨ao, cap, rfl, _, _, _⟩ := hgd'
  replace hfr := hid hfr
  have r0' := (cell_far hg2 ⟨w.heap.size, 0, none⟩ (by show w.heap.size < _; omega) (by simp)).trans r0
  have r1' := (frz_far hg2 ⟨w.heap.size, 0, none⟩ (by show w.heap.size < _; omega) (by simp)).trans r1
  have B2 : Below w.heap.size w w2 := B1.grown hg2 B1.size fun g hg => by have := Option.some.inj hg; omega
  have hz2 : w1.heap.size ≤ w2.heap.size := hg2.size
  have c2l := hc2.lt
  clear r0 r1 hg2 hc1 B1
  go_wp2_with fail
  obtain ⟨W, hW⟩ : ∃ W, W = w2.alloc (.cells #[.slice ao g.length cap] 26) := ⟨_, rfl⟩
  have bW : Below w2.heap.size w2 W := hW ▸ below_alloc _ _
  have cW : W.cell? ⟨w2.heap.size, 0, none⟩ = some (.slice ao g.length cap) := by rw [hW]; simp [go_sem]
  have zW : W.heap.size = w2.heap.size + 1 := by rw [hW]; simp
  rw [← hW]
  have rW := (bW.cell (p := ⟨w.heap.size, 0, none⟩) (by show w.heap.size < _; omega)).trans r0'
  have sW := (bW.frozen (p := ⟨w.heap.size, 0, none⟩) (by show w.heap.size < _; omega)).trans r1'
  have hcW := hc2.below bW
  have gdW := hgd.below bW
  have BW : Below w.heap.size w W := B2.trans (bW.mono (by omega))
  have kc := hid fun x (h : Kept W (w.heap.size + 1) x) => show x.cell? ⟨w2.heap.size, 0, none⟩ = some (.slice ao g.length cap) from (h.cell ⟨w2.heap.size, 0, none⟩ (by show w2.heap.size < _; omega) (by show w2.heap.size ≠ _; omega)).trans cW
  have kr := hid fun x (h : Kept W (w.heap.size + 1) x) => show x.cell? ⟨w.heap.size, 0, none⟩ = some (.slice none 0 0) from (h.cell ⟨w.heap.size, 0, none⟩ (by show w.heap.size < _; omega) (by simp)).trans rW
  have ks := hid fun x (h : Kept W (w.heap.size + 1) x) => show x.frozen? ⟨w.heap.size, 0, none⟩ = false from (h.frozen ⟨w.heap.size, 0, none⟩ (by show w.heap.size < _; omega) (by simp)).trans sW
  have hcur : (w.heap.size + 1) < W.heap.size := by omega
  clear hW r0' r1' hc2 hgd B2 bW
  have gdW0 := hid fun x (h : Kept W (w.heap.size + 1) x) => gdW.kept h
  refine wp_region_held_drew (S := fun w' => w'.cell? ⟨w2.heap.size, 0, none⟩ = some (.slice ao g.length cap)) (by kernel_rfl) cW (fun hH0 => ?_)
  refine wpAnyH_take (i := 0) (v := ?_) rfl (by kernel_rfl) (by kernel_rfl) (by kernel_rfl) (fun _ _ _ h => h) (Or.inl ⟨by first | kernel_rfl | rfl, ?_⟩) (by assumption) ?_
  rotate_left
  · (intro w hSw; (try dsimp only at hSw); go_simp; try with_reducible rfl)
  simp only [List.getElem_toArray, List.getElem_cons_zero, List.getElem_cons_succ, Act.put, List.setIfInBounds_toArray, List.set_cons_zero, List.set_cons_succ]
  refine wpAnyH_take (i := 1) (v := ?_) rfl (by kernel_rfl) (by kernel_rfl) (by kernel_rfl) (fun _ _ _ h => h) (Or.inl ⟨by first | kernel_rfl | rfl, ?_⟩) (by assumption) ?_
  rotate_left
  · (intro w hSw; (try dsimp only at hSw); go_simp; try with_reducible rfl)
  simp only [List.getElem_toArray, List.getElem_cons_zero, List.getElem_cons_succ, Act.put, List.setIfInBounds_toArray, List.set_cons_zero, List.set_cons_succ]
  refine wpAnyH_take (i := 2) (v := ?_) rfl (by kernel_rfl) (by kernel_rfl) (by kernel_rfl) (fun _ _ _ h => h) (Or.inl ⟨by first | kernel_rfl | rfl, ?_⟩) (by assumption) ?_
  rotate_left
  · (intro w hSw; (try dsimp only at hSw); go_simp; try with_reducible rfl)
  simp only [List.getElem_toArray, List.getElem_cons_zero, List.getElem_cons_succ, Act.put, List.setIfInBounds_toArray, List.set_cons_zero, List.set_cons_succ]
  refine wpAnyH_ready (rs := [3]) (by kernel_rfl) (by simp) ?_
  refine AllReadyH.cons rfl (fun K3 hK3 => ?_) AllReadyH.nil
  go_simp
  go_at_call 89
  refine (hE.out _ _ _ _ _ (hcW.below (Below.refl _ _).drew) (gdW.below (Below.refl _ _).drew) (by omega)).mono ?_
  rintro e w3 ⟨⟨x, rfl, hx⟩, hc3, hg3⟩
  replace hg3 : W.grownBy w3 (some (w.heap.size + 1)) := grown_trans (below_grown (Below.refl W.heap.size W).drew _) hg3
  have K3 := (Kept.refl W (w.heap.size + 1)).drawn hg3
  have B3 : Below w.heap.size w w3 := BW.grown hg3 BW.size fun g hg => by have := Option.some.inj hg; omega
  have gd3 := gdW.drawn hg3
  have c3 := kc.out _ K3
  replace hx := hid hx
  clear hg3 hcW gdW
  go_wp2_with fail
  refine hK3.out _ _ c3 (fun hH3 => ?_)
  refine wpAnyH_ready (rs := [4]) (by kernel_rfl) (by simp) ?_
  refine AllReadyH.cons rfl (fun K4 hK4 => ?_) AllReadyH.nil
  go_simp
  go_at_call 33
  refine (sPlacesOf_any _ g x _ gd3.rd (by omega) hx.out).mono ?_
  rintro e w4 ⟨aop, capp, rfl, hown4, hb4⟩
  have K4' := K3.below (hb4.mono K3.size)
  have B4 := bgo B3 hb4
  have gd4 := gd3.below hb4
  have hc4 := hc3.below hb4
  have c4 := kc.out _ K4'
  have hPl := plcE_len5 g x
  obtain ⟨P, hP'⟩ : ∃ P, P = plcE g x := ⟨_, rfl⟩
  rw [← hP'] at hown4 hPl ⊢
  clear hP'
  obtain ⟨n, hN⟩ : ∃ n, n = P.length := ⟨_, rfl⟩
  have hown4' : Own w4 w3.heap.size 3 .i64 (.slice aop n capp) P := hN ▸ hown4
  have hsz3 := K3.size
  rw [← hN]
  replace hN := hid hN
  clear hb4 hc3 gd3 c3 hx hown4
  go_wp2_with fail
  refine hK4.out _ _ c4 (fun hH4 => ?_)
  refine wpAnyH_take (i := 5) (v := ?_) rfl (by kernel_rfl) (by kernel_rfl) (by kernel_rfl) (fun _ _ _ h => h) (Or.inl ⟨by first | kernel_rfl | rfl, ?_⟩) (by assumption) ?_
  rotate_left
  · (intro w hSw; (try dsimp only at hSw); go_simp; try with_reducible rfl)
  simp only [List.getElem_toArray, List.getElem_cons_zero, List.getElem_cons_succ, Act.put, List.setIfInBounds_toArray, List.set_cons_zero, List.set_cons_succ]
  refine wpAnyH_done (by kernel_rfl) ?_ _
  by_cases hn0 : n = 0
  · subst hn0
    replace hPl := hid hPl
    have r9 := kr.out _ K4'
    have s9 := ks.out _ K4'
    have c9 := kc.out _ K4'
    have z9 : w.heap.size < w4.heap.size := by have := K4'.size; omega
    have hfo9 := hid hown4'.fresh
    have hrd9 := hid (Rd.of_own hown4')
    go_wp2
    refine bodyPost_ret (v := .tuple #[.agg #[.slice ao g.length cap], .slice aop 0 capp]) (by simp [results, Try.results28, go_sem, r9, z9]) rfl ?_
    exact ⟨⟨_, g, _, P, rfl, ((gd4.rg hfr.out hgl).set w.heap.size 0 _ (by omega)).less (by omega), (hrd9.out.set _ _ _ (hfo9.out.ne (by have := K3.size; omega)) (Nat.le_refl _)).more (by simp), hPl.out⟩, B4.setCell (p := ⟨w.heap.size, 0, none⟩) (Nat.le_refl _) _⟩
  have hnp : (0 : Int) < (n : Int) := by omega
  have hpos : 0 < P.length := by have := hN.out; omega
  have hPl1 : (P.set 0 99).length ≤ 5 := by rw [List.length_set]; exact hPl
  replace hPl := hid hPl
  go_wp2_with fail
  refine (hO.out _ _ _ (by omega) (by omega) _ hc4).mono ?_
  rintro e w5 ⟨⟨b, rfl⟩, hc5, hg5⟩
  have K5 := K4'.drawn hg5
  have B5 : Below w.heap.size w w5 := B4.grown hg5 B4.size fun g hg => by have := Option.some.inj hg; omega
  have gd5 := gd4.drawn hg5
  have own5 := hown4'.past hg5 (by omega)
  have c5 := kc.out _ K5
  have hc5l := hc5.lt
  clear hg5 hc4 gd4 hown4' c4
  cases b
  · clear hPl1 hO hE
    have r9 := kr.out _ K5
    have s9 := ks.out _ K5
    have c9 := kc.out _ K5
    have z9 : w.heap.size < w5.heap.size := by have := K5.size; omega
    have hfo9 := hid own5.fresh
    have hrd9 := hid (Rd.of_own own5)
    go_wp2
    refine bodyPost_ret (v := .tuple #[.agg #[.slice ao g.length cap], .slice aop n capp]) (by simp [results, Try.results28, go_sem, r9, z9]) rfl ?_
    exact ⟨⟨_, g, _, P, rfl, ((gd5.rg hfr.out hgl).set w.heap.size 0 _ (by omega)).less (by omega), (hrd9.out.set _ _ _ (hfo9.out.ne (by have := K3.size; omega)) (Nat.le_refl _)).more (by simp), hPl.out⟩, B5.setCell (p := ⟨w.heap.size, 0, none⟩) (Nat.le_refl _) _⟩
  · go_wp2_with fail
    refine (hP.out _ _ oddP w5.heap.size _ (hc5.below (below_alloc _ _)) (by simp) (by omega) (fun i h => cells_new w5 oddP _ i h) (by decide) (by decide)).mono ?_
    rintro e w6 ⟨⟨y, rfl, hy⟩, hc6, hg6⟩
    replace hg6 := grown_trans (below_grown (below_alloc w5 (.cells (oddP.map (Value.int .i64)).toArray 3)) (some (w.heap.size + 1))) hg6
    have K6 := K5.drawn hg6
    have B6 : Below w.heap.size w w6 := B5.grown hg6 B5.size fun g hg => by have := Option.some.inj hg; omega
    have gd6 := gd5.drawn hg6
    have own6 := own5.past hg6 (by omega)
    clear hg6 hc5 gd5 own5 c5 hc6 hy
    obtain ⟨gb, capp', hv, hgb1, hgb2, _, _⟩ := own6.form hpos
    injection hv with hv1 hv2 hv3
    clear hv2 hv3
    subst hv1
    obtain ⟨u0, hu0⟩ := own6.some_ 0 hpos
    have hf0 := own6.frozen 0
    have own7 := own6.store 0 y
    have hz6 := K6.size
    have K7 := K6.below ((Below.refl W.heap.size w6).setCell (p := ⟨gb, 0, none⟩) (by show W.heap.size ≤ gb; omega) (.int .i64 y))
    have B7 := B6.setCell (p := ⟨gb, 0, none⟩) (by show w.heap.size ≤ gb; omega) (.int .i64 y)
    have gd7 := gdW0.out _ K7
    have hPl7 : (P.set 0 y).length ≤ 5 := by rw [List.length_set]; exact hPl.out
    replace hPl := hid hPl7
    have ne1 : ¬ gb = w.heap.size := by omega
    have ne2 : ¬ gb = w2.heap.size := by omega
    have ne3 : ¬ w.heap.size = gb := by omega
    have ne4 : ¬ w2.heap.size = gb := by omega
    have c6 := kc.out _ K6
    have r6 := kr.out _ K6
    have s6 := ks.out _ K6
    have z6 : w.heap.size < w6.heap.size := by omega
    have hfo9 := hid own7.fresh
    have hrd9 := hid (Rd.of_own own7)
    clear hPl1 hO hE own6 own7 hPl7 gdW0 K5 K4' K3
    go_wp2
    refine bodyPost_ret (v := .tuple #[.agg #[.slice ao g.length cap], .slice (some ⟨gb, 0, none⟩) n capp]) (by simp [results, Try.results28, go_sem, r6, z6, ne1, ne3]) rfl ?_
    exact ⟨⟨_, g, _, P.set 0 y, rfl, ((gd7.rg hfr.out hgl).set w.heap.size 0 _ (by omega)).less (by omega), (hrd9.out.set _ _ _ (hfo9.out.ne (by omega)) (Nat.le_refl _)).more (by simp), hPl.out⟩, B7.setCell (p := ⟨w.heap.size, 0, none⟩) (Nat.le_refl _) _⟩
set_option maxRecDepth 100000 in
set_option maxHeartbeats 3200000 in
theorem sDrawEqualGroups_any (v : Value) (l : List Int) (w : World) (hr : Rd w w.heap.size .u8 v l) (hl : l.length ≤ 1048576) (hB : IsB l) :
    Calls Try.prog 31 #[v] w fun e w' => DrG2 w.heap.size e w' ∧ Below w.heap.size w w' := by
  have hA := hid fun c B w hc => sl2Any_any c B v l w hc (by omega) hB
  have hO := hid fun c B n h0 hn w hc => sl1Once_any c B v l n w hc (by omega) hB h0 hn
  replace hB := hid hB
  go_enter Try.func31, Try.ntmps31
  go_wp2_with fail
  refine (new_at (w.heap.size + 1 + 1) (by simp) (((hr.alloc (Nat.le_refl _) _).alloc (by simp) _).more (by omega)) hl).mono ?_
  rintro e w1 ⟨rfl, hc1, hb1⟩
  have b0 : Below w.heap.size w ((w.alloc (.cells #[.slice none 0 0] 26)).alloc (.cells #[.slice none 0 0] 26)) := (below_alloc w _).trans ((below_alloc _ _).mono (by simp))
  have B1 : Below w.heap.size w w1 := b0.trans (hb1.mono (by omega))
  have r0 : w1.cell? ⟨w.heap.size, 0, none⟩ = some (.slice none 0 0) := (hb1.cell (p := ⟨w.heap.size, 0, none⟩) (by show w.heap.size < _; omega)).trans (by simp [go_sem])
  have r1 : w1.frozen? ⟨w.heap.size, 0, none⟩ = false := (hb1.frozen (p := ⟨w.heap.size, 0, none⟩) (by show w.heap.size < _; omega)).trans (by simp [go_sem])
  have q0 : w1.cell? ⟨w.heap.size + 1, 0, none⟩ = some (.slice none 0 0) := (hb1.cell (p := ⟨w.heap.size + 1, 0, none⟩) (by show w.heap.size + 1 < _; omega)).trans (by simp [go_sem])
  have q1 : w1.frozen? ⟨w.heap.size + 1, 0, none⟩ = false := (hb1.frozen (p := ⟨w.heap.size + 1, 0, none⟩) (by show w.heap.size + 1 < _; omega)).trans (by simp [go_sem])
  have hz1 : w.heap.size + 2 < w1.heap.size := hc1.lt
  clear hb1 b0
  go_wp2_with fail
  refine (hA.out _ _ _ hc1).mono ?_
  rintro e w2 ⟨⟨u, g, rfl, hgd, hgl, hfr⟩, hc2, hg2⟩
  have hgd' := hgd
  obtain ⟨ao, cap, rfl, _, _, _⟩ := hgd'
  replace hfr := hid hfr
  have hz2 : w1.heap.size ≤ w2.heap.size := hg2.size
  replace r0 := (cell_far hg2 ⟨w.heap.size, 0, none⟩ (by show w.heap.size < _; omega) (by simp; omega)).trans r0
  replace r1 := (frz_far hg2 ⟨w.heap.size, 0, none⟩ (by show w.heap.size < _; omega) (by simp; omega)).trans r1
  replace q0 := (cell_far hg2 ⟨w.heap.size + 1, 0, none⟩ (by show w.heap.size + 1 < _; omega) (by simp)).trans q0
  replace q1 := (frz_far hg2 ⟨w.heap.size + 1, 0, none⟩ (by show w.heap.size + 1 < _; omega) (by simp)).trans q1
  have B2 : Below w.heap.size w w2 := B1.grown hg2 B1.size fun g hg => by have := Option.some.inj hg; omega
  have c2l := hc2.lt
  clear hg2 hc1 B1
  go_wp2_with fail
  obtain ⟨W, hW⟩ : ∃ W, W = w2.alloc (.cells #[.slice ao g.length cap] 26) := ⟨_, rfl⟩
  have bW : Below w2.heap.size w2 W := hW ▸ below_alloc _ _
  have cW : W.cell? ⟨w2.heap.size, 0, none⟩ = some (.slice ao g.length cap) := by rw [hW]; simp [go_sem]
  have zW : W.heap.size = w2.heap.size + 1 := by rw [hW]; simp
  rw [← hW]
  replace r0 := (bW.cell (p := ⟨w.heap.size, 0, none⟩) (by show w.heap.size < _; omega)).trans r0
  replace r1 := (bW.frozen (p := ⟨w.heap.size, 0, none⟩) (by show w.heap.size < _; omega)).trans r1
  replace q0 := (bW.cell (p := ⟨w.heap.size + 1, 0, none⟩) (by show w.heap.size + 1 < _; omega)).trans q0
  replace q1 := (bW.frozen (p := ⟨w.heap.size + 1, 0, none⟩) (by show w.heap.size + 1 < _; omega)).trans q1
  have hcW := hc2.below bW
  have gdW := hgd.below bW
  have BW : Below w.heap.size w W := B2.trans (bW.mono (by omega))
  clear hW hc2 hgd B2 bW
  refine (hO.out _ _ _ (by omega) (by omega) _ hcW).mono ?_
  rintro e x1 ⟨⟨b, rfl⟩, hc3, hg3⟩
  have K3 := (Kept.refl W (w.heap.size + 1 + 1)).drawn hg3
  have B3 : Below w.heap.size w x1 := BW.grown hg3 BW.size fun g hg => by have := Option.some.inj hg; omega
  have gd3 := gdW.drawn hg3
  have hz3 := K3.size
  have cX := (K3.cell ⟨w2.heap.size, 0, none⟩ (by show w2.heap.size < _; omega) (by show w2.heap.size ≠ _; omega)).trans cW
  have rX := (K3.cell ⟨w.heap.size, 0, none⟩ (by show w.heap.size < _; omega) (by show w.heap.size ≠ _; omega)).trans r0
  have fX := (K3.frozen ⟨w.heap.size, 0, none⟩ (by show w.heap.size < _; omega) (by show w.heap.size ≠ _; omega)).trans r1
  have qX := (K3.cell ⟨w.heap.size + 1, 0, none⟩ (by show w.heap.size + 1 < _; omega) (by simp)).trans q0
  have gX := (K3.frozen ⟨w.heap.size + 1, 0, none⟩ (by show w.heap.size + 1 < _; omega) (by simp)).trans q1
  clear cW r0 r1 q0 q1 hg3 hcW gdW K3 BW
  cases b
  · go_wp2_with fail
    refine wp_region_held_drew (S := fun w' => w'.cell? ⟨w2.heap.size, 0, none⟩ = some (.slice ao g.length cap)) (by kernel_rfl) cX (fun hH0 => ?_)
    refine wpAnyH_take (i := 0) (v := ?_) rfl (by kernel_rfl) (by kernel_rfl) (by kernel_rfl) (fun _ _ _ h => h) (Or.inl ⟨by first | kernel_rfl | rfl, ?_⟩) (by assumption) ?_
    rotate_left
    · (intro w hSw; (try dsimp only at hSw); go_simp; try with_reducible rfl)
    simp only [List.getElem_toArray, List.getElem_cons_zero, List.getElem_cons_succ, Act.put, List.setIfInBounds_toArray, List.set_cons_zero, List.set_cons_succ]
    refine wpAnyH_take (i := 1) (v := ?_) rfl (by kernel_rfl) (by kernel_rfl) (by kernel_rfl) (fun _ _ _ h => h) (Or.inl ⟨by first | kernel_rfl | rfl, ?_⟩) (by assumption) ?_
    rotate_left
    · (intro w hSw; (try dsimp only at hSw); go_simp; try with_reducible rfl)
    simp only [List.getElem_toArray, List.getElem_cons_zero, List.getElem_cons_succ, Act.put, List.setIfInBounds_toArray, List.set_cons_zero, List.set_cons_succ]
    refine wpAnyH_ready (rs := [2]) (by kernel_rfl) (by simp) ?_
    refine AllReadyH.cons rfl (fun K2 hK2 => ?_) AllReadyH.nil
    go_simp
    go_at_call 81
    refine (hA.out _ _ _ (hc3.below (Below.refl _ _).drew)).mono ?_
    rintro e w4 ⟨⟨u, g2, rfl, hgd2, hgl2, hfr2⟩, hc4, hg4⟩
    replace hg4 : x1.grownBy w4 (some (w.heap.size + 1 + 1)) := grown_trans (below_grown (Below.refl x1.heap.size x1).drew _) hg4
    have hgd' := hgd2
    obtain ⟨ao2, cap2, rfl, _, _, _⟩ := hgd'
    replace hfr2 : Hid (Fresh x1.heap.size _) := hid hfr2
    have B4 : Below w.heap.size w w4 := B3.grown hg4 B3.size fun g hg => by have := Option.some.inj hg; omega
    have gd4 := gd3.drawn hg4
    have hz4 := hg4.size
    have c4 := (cell_far hg4 ⟨w2.heap.size, 0, none⟩ (by show w2.heap.size < _; omega) (by simp; omega)).trans cX
    have r4 := (cell_far hg4 ⟨w.heap.size, 0, none⟩ (by show w.heap.size < _; omega) (by simp; omega)).trans rX
    have f4 := (frz_far hg4 ⟨w.heap.size, 0, none⟩ (by show w.heap.size < _; omega) (by simp; omega)).trans fX
    have q4 := (cell_far hg4 ⟨w.heap.size + 1, 0, none⟩ (by show w.heap.size + 1 < _; omega) (by simp)).trans qX
    have g4 := (frz_far hg4 ⟨w.heap.size + 1, 0, none⟩ (by show w.heap.size + 1 < _; omega) (by simp)).trans gX
    have zz : w2.heap.size < w4.heap.size := by omega
    clear hg4 hc3 hc4 cX rX fX qX gX gd3
    go_wp2_with fail
    refine hK2.out _ _ c4 (fun hH3 => ?_)
    refine wpAnyH_ready (rs := [3]) (by kernel_rfl) (by simp) ?_
    refine AllReadyH.cons rfl (fun K3 hK3 => ?_) AllReadyH.nil
    go_simp
    have c5 := (cell_far grown_set ⟨w2.heap.size, 0, none⟩ zz (by simp; omega) : (w4.setCell ⟨w.heap.size, 0, none⟩ (.slice ao g.length cap)).cell? ⟨w2.heap.size, 0, none⟩ = _).trans c4
    refine hK3.out _ _ c5 (fun hH4 => ?_)
    refine wpAnyH_ready (rs := [4]) (by kernel_rfl) (by simp) ?_
    refine AllReadyH.cons rfl (fun K4 hK4 => ?_) AllReadyH.nil
    go_simp
    refine hK4.out _ _ ((cell_far grown_set ⟨w2.heap.size, 0, none⟩ (by simpa using zz) (by simp; omega)).trans c5) (fun hH5 => ?_)
    refine wpAnyH_done (by kernel_rfl) ?_ _
    go_wp2
    refine bodyPost_ret (v := .tuple #[.agg #[.slice ao g.length cap], .agg #[.slice ao2 g2.length cap2]]) (by simp [results, Try.results31, go_sem, r4, q4]) rfl ?_
    exact ⟨⟨_, g, _, g2, rfl, (((gd4.rg hfr.out hgl).set w.heap.size 0 _ (by omega)).set (w.heap.size + 1) 0 _ (by omega)).less (by omega), (((hgd2.rg hfr2.out hgl2).set w.heap.size 0 _ (by omega)).set (w.heap.size + 1) 0 _ (by omega)).less (by omega)⟩, (B4.setCell (p := ⟨w.heap.size, 0, none⟩) (Nat.le_refl _) _).setCell (p := ⟨w.heap.size + 1, 0, none⟩) (Nat.le_succ _) _⟩
  · go_wp2_with fail
    refine wp_region_held_drew (S := fun w' => w'.cell? ⟨w2.heap.size, 0, none⟩ = some (.slice ao g.length cap)) (by kernel_rfl) cX (fun hH0 => ?_)
    refine wpAnyH_take (i := 0) (v := ?_) rfl (by kernel_rfl) (by kernel_rfl) (by kernel_rfl) (fun _ _ _ h => h) (Or.inl ⟨by first | kernel_rfl | rfl, ?_⟩) (by assumption) ?_
    rotate_left
    · (intro w hSw; (try dsimp only at hSw); go_simp; try with_reducible rfl)
    simp only [List.getElem_toArray, List.getElem_cons_zero, List.getElem_cons_succ, Act.put, List.setIfInBounds_toArray, List.set_cons_zero, List.set_cons_succ]
    refine wpAnyH_take (i := 2) (v := ?_) rfl (by kernel_rfl) (by kernel_rfl) (by kernel_rfl) (fun _ _ _ h => h) (Or.inl ⟨by first | kernel_rfl | rfl, ?_⟩) (by assumption) ?_
    rotate_left
    · (intro w hSw; (try dsimp only at hSw); go_simp; try with_reducible rfl)
    simp only [List.getElem_toArray, List.getElem_cons_zero, List.getElem_cons_succ, Act.put, List.setIfInBounds_toArray, List.set_cons_zero, List.set_cons_succ]
    refine wpAnyH_take (i := 3) (v := ?_) rfl (by kernel_rfl) (by kernel_rfl) (by kernel_rfl) (fun _ _ _ h => h) (Or.inl ⟨by first | kernel_rfl | rfl, ?_⟩) (by assumption) ?_
    rotate_left
    · (intro w hSw; (try dsimp only at hSw); go_simp; try with_reducible rfl)
    simp only [List.getElem_toArray, List.getElem_cons_zero, List.getElem_cons_succ, Act.put, List.setIfInBounds_toArray, List.set_cons_zero, List.set_cons_succ]
    refine wpAnyH_ready (rs := [1]) (by kernel_rfl) (by simp) ?_
    refine AllReadyH.cons rfl (fun K1 hK1 => ?_) AllReadyH.nil
    go_simp
    have zx : w2.heap.size < x1.heap.size := by omega
    have own4 : Own (x1.alloc (.cells #[] 3)).drew x1.heap.size 3 .i64 (.slice (some ⟨x1.heap.size, 0, none⟩) 0 0) [] := (Own.empty x1 x1.heap.size 3 .i64 (Nat.le_refl _)).drew
    have b4 : Below x1.heap.size x1 (x1.alloc (.cells #[] 3)).drew := (below_alloc x1 _).drew
    have hz4 : x1.heap.size < (x1.alloc (.cells #[] 3)).drew.heap.size := by simp
    obtain ⟨w4, hw4⟩ : ∃ w4, w4 = (x1.alloc (.cells #[] 3)).drew := ⟨_, rfl⟩
    rw [← hw4] at own4 b4 hz4 ⊢
    clear hw4
    have c4 := (b4.cell (p := ⟨w2.heap.size, 0, none⟩) zx).trans cX
    refine hK1.out _ _ c4 (fun hH1 => ?_)
    (try simp only [List.getElem_toArray, List.getElem_cons_zero, List.getElem_cons_succ, Act.put, List.setIfInBounds_toArray, List.set_cons_zero, List.set_cons_succ])
    refine wpAnyH_ready (rs := [4]) (by kernel_rfl) (by simp) ?_
    refine AllReadyH.cons rfl (fun K4 hK4 => ?_) AllReadyH.nil
    refine appR_step rfl _ _ rfl Try.underlying24 info_int (by decide) rfl own4 rfl ((gd3.below b4).rd) (by omega) (Nat.le_of_lt hz4) ?_
    intro v5 w5 own5 hb5
    have b5 : Below x1.heap.size x1 w5 := b4.trans hb5
    have hfo5 := hid own5.fresh
    obtain ⟨ao5, cap5, rfl, _, _⟩ := own5.shape
    have c5 := (b5.cell (p := ⟨w2.heap.size, 0, none⟩) zx).trans cX
    have r5 := (b5.cell (p := ⟨w.heap.size, 0, none⟩) (by show w.heap.size < _; omega)).trans rX
    have f5 := (b5.frozen (p := ⟨w.heap.size, 0, none⟩) (by show w.heap.size < _; omega)).trans fX
    have q5 := (b5.cell (p := ⟨w.heap.size + 1, 0, none⟩) (by show w.heap.size + 1 < _; omega)).trans qX
    have g5 := (b5.frozen (p := ⟨w.heap.size + 1, 0, none⟩) (by show w.heap.size + 1 < _; omega)).trans gX
    have rd5 := hid (Rd.of_own own5)
    have gd5 := gd3.below b5
    have B5 := bgo B3 b5
    have zz : w2.heap.size < w5.heap.size := by have := b5.size; omega
    have hz5 := b5.size
    refine hK4.out _ _ c5 (fun hH4 => ?_)
    (try simp only [List.getElem_toArray, List.getElem_cons_zero, List.getElem_cons_succ, Act.put, List.setIfInBounds_toArray, List.set_cons_zero, List.set_cons_succ])
    clear own5 own4 b4 b5 hb5 c4 cX rX fX qX gX hc3 hz4
    refine wpAnyH_take (i := 5) (v := ?_) rfl (by kernel_rfl) (by kernel_rfl) (by kernel_rfl) (fun _ _ _ h => h) (Or.inl ⟨by first | kernel_rfl | rfl, ?_⟩) (by assumption) ?_
    rotate_left
    · (intro w hSw; (try dsimp only at hSw); go_simp; try with_reducible rfl)
    simp only [List.getElem_toArray, List.getElem_cons_zero, List.getElem_cons_succ, Act.put, List.setIfInBounds_toArray, List.set_cons_zero, List.set_cons_succ]
    refine wpAnyH_ready (rs := [6]) (by kernel_rfl) (by simp) ?_
    refine AllReadyH.cons rfl (fun K6 hK6 => ?_) AllReadyH.nil
    go_simp
    have c6 := (cell_far grown_set ⟨w2.heap.size, 0, none⟩ zz (by simp; omega) : (w5.setCell ⟨w.heap.size, 0, none⟩ (.slice ao g.length cap)).cell? ⟨w2.heap.size, 0, none⟩ = _).trans c5
    refine hK6.out _ _ c6 (fun hH5 => ?_)
    refine wpAnyH_ready (rs := [7]) (by kernel_rfl) (by simp) ?_
    refine AllReadyH.cons rfl (fun K7 hK7 => ?_) AllReadyH.nil
    go_simp
    refine hK7.out _ _ ((cell_far grown_set ⟨w2.heap.size, 0, none⟩ (by simpa using zz) (by simp; omega)).trans c6) (fun hH6 => ?_)
    refine wpAnyH_done (by kernel_rfl) ?_ _
    go_wp2
    refine bodyPost_ret (v := .tuple #[.agg #[.slice ao g.length cap], .agg #[.slice ao5 g.length cap5]]) (by simp [results, Try.results31, go_sem, r5, q5]) rfl ?_
    have R5 : Rg w5 x1.heap.size (.slice ao5 g.length cap5) g := ⟨rd5.out, hfo5.out, hgl⟩
    exact ⟨⟨_, g, _, g, rfl, (((gd5.rg hfr.out hgl).set w.heap.size 0 _ (by omega)).set (w.heap.size + 1) 0 _ (by omega)).less (by omega), ((R5.set w.heap.size 0 _ (by omega)).set (w.heap.size + 1) 0 _ (by omega)).less (by omega)⟩, (B5.setCell (p := ⟨w.heap.size, 0, none⟩) (Nat.le_refl _) _).setCell (p := ⟨w.heap.size + 1, 0, none⟩) (Nat.le_succ _) _⟩
end Go.Proofs.Ytknbfohmobjplab
