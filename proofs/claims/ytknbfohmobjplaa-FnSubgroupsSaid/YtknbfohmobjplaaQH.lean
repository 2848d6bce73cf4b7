/- The walk of the law FnSubgroups: printed by gen_subs.py. No conditions. -/
import Derived.Test.YtknbfohmobjplaaQB
import Derived.Test.YtknbfohmobjplaaMRb
import Derived.Test.YtknbfohmobjplaaMRa
import Derived.Test.YtknbfohmobjplaaMRc
import Derived.Test.YtknbfohmobjplaaSV
import Derived.Test.YtknbfohmobjplaaSS
import Derived.Test.YtknbfohmobjplaaMKt
import Derived.Deep.DeepCutAuto
import Derived.Deep.CutBlock
namespace Go.Proofs.Ytknbfohmobjplaa
set_option linter.unusedVariables false
set_option linter.unusedSimpArgs false
open Go.RowKit

theorem gen_law (g : List Int) (a : Int) : one genN g a = -1 ∨ (0 ≤ one genN g a ∧ isSub g (one genN g a) = true ∧ bits .and .i64 (one genN g a) a = a ∧ one genN g (one genN g a) = one genN g a ∧ I64 (one genN g a)) := by
  cases hs : isSet g a with
  | false => exact .inl (one_no hs)
  | true =>
    obtain ⟨A, rfl, hA⟩ := isSet.nat hs
    have hg := isSet.group hs
    obtain ⟨f1, f2, f3, f4⟩ := gen_facts hg ((isSet_nat hg A).1 hs)
    rw [one_yes hs]
    exact .inr ⟨by omega, f1, by rw [and64 _ _ (by omega) (by omega), f2], f3, ⟨by omega, by omega⟩⟩
theorem hull_law2 (g : List Int) (a : Int) : hulE g a = -1 ∨ (0 ≤ hulE g a ∧ icosE g (hulE g a) = true ∧ bits .and .i64 (hulE g a) a = a ∧ I64 (hulE g a)) := by
  cases hs : isSet g a with
  | false => exact .inl (hulE_no hs)
  | true =>
    obtain ⟨A, rfl, hA⟩ := isSet.nat hs
    by_cases h0 : A = 0
    · subst h0; exact .inl (hulE_zero g)
    · have hg := isSet.group hs
      obtain ⟨f1, f2, f3⟩ := hull_law hg ((isSet_nat hg A).1 hs) h0
      rw [hulE_yes hs h0]
      exact .inr ⟨by omega, f1, by rw [and64 _ _ (by omega) (by omega), f2], ⟨by omega, by omega⟩⟩
theorem subs_law (g : List Int) {c : Int} (hc : c ∈ sbsE g) : I64 c ∧ isSub g c = true ∧ ∃ C : Nat, cntE g c = C ∧ 0 < C ∧ (orderOf g).tmod (C : Int) = 0 := by
  cases hg : isGroup g with
  | false => rw [sbsE_no hg] at hc; cases hc
  | true =>
    rw [sbsE_yes hg] at hc
    have hb := subsL_bd hg hc
    obtain ⟨H, rfl, hH⟩ := (mem_subsL g c).1 hc
    obtain ⟨C, h1, h2, _, h4⟩ := cnt_sub hg hH
    exact ⟨⟨by omega, by omega⟩, (isSub_iff hg H).2 hH, C, h1, h2, h4⟩
theorem subs_meet {g : List Int} {c d : Int} (hc : c ∈ sbsE g) (hd : d ∈ sbsE g) : bits .and .i64 c d ∈ sbsE g := by
  cases hg : isGroup g with
  | false => rw [sbsE_no hg] at hc; cases hc
  | true => rw [sbsE_yes hg] at hc hd ⊢; exact sub_meet hg hc hd
theorem cos_law {g : List Int} {h : Int} (hs : isSub g h = true) : ∃ U : Nat → Nat, U 0 = 0 ∧ (∀ i, U i < 16777216) ∧ (∀ i, i < (cosE g h).length → ∃ C : Nat, (cosE g h).getD i 0 = (C : Int) ∧ C < 16777216 ∧ bits .and .i64 (C : Int) (U i : Int) = 0 ∧ icosE g (C : Int) = true ∧ bits .or .i64 (U i : Int) (C : Int) = ((U (i + 1) : Nat) : Int)) ∧ ((U (cosE g h).length : Nat) : Int) = fullE g ∧ IntKind.i64.wrap (((cosE g h).length : Int) * cntE g h) = orderOf g := by
  obtain ⟨H, rfl, hH, h24, hg⟩ := isSub.nat hs
  obtain ⟨U, u0, u1, u2, u3, u4⟩ := cos_walk hg hH (cosE g H) rfl
  refine ⟨U, u0, u1, fun i hi => ?_, u3, ?_⟩
  · obtain ⟨C, c1, c2, c3, c4, c5⟩ := u2 i hi
    have := u1 i
    exact ⟨C, by rw [getD_at hi]; exact c1, c2, by rw [and64 _ _ (by omega) (by omega), c3]; rfl, c4, by rw [or64 _ _ (by omega) (by omega), c5]⟩
  · rw [u4]
    have := orderOf_bd g
    exact IntWalk.i64_in _ (by omega)
set_option maxRecDepth 100000 in
set_option maxHeartbeats 40000000 in
theorem fnSubgroups_w (ao : Option Addr) (cap : Nat) (l : List Int) (w : World) (hr : Rd w w.heap.size .u8 (.slice ao l.length cap) l) (hl : l.length ≤ 1048576) (hB : IsB l) :
    Calls Try.prog 4 #[.slice ao l.length cap] w fun e w' => e = .returned (.bool true) ∧ Below w.heap.size w w' := by
  have hbig := hid fun w hr => lbig_any (.slice ao l.length cap) l w hr
  have d1 := hid fun w hr => sDrawGeneratedBy_any (.slice ao l.length cap) l w hr hl hB
  have d2 := hid fun w hr => sDrawSubgroupsOf_any (.slice ao l.length cap) l w hr hl hB
  have d3 := hid fun w hr => sDrawCosetsOf_any (.slice ao l.length cap) l w hr hl hB
  have d4 := hid fun w hr => sDrawCosetNumber_any (.slice ao l.length cap) l w hr hl hB
  have d5 := hid fun w hr => sDrawIsCoset_any (.slice ao l.length cap) l w hr hl hB
  have d6 := hid fun w hr => sDrawAffineHull_any (.slice ao l.length cap) l w hr hl hB
  have e0 : decide (1048576 < (l.length : Int)) = false := by simp; omega
  have B0 := Below.refl w.heap.size w
  replace hB := hid hB
  go_enter Try.func4, Try.ntmps4
  go_wp2_with fail
  refine (hbig.out _ hr).mono ?_
  rintro e w' ⟨rfl, rfl⟩
  go_wp2_with fail
  refine (d1.out _ ((hr.below B0).more B0.size)).mono ?_
  rintro e w1 ⟨⟨u, g1, a, rfl, hg1, ha⟩, hb1⟩
  obtain ⟨ao1, cap1, rfl⟩ := hg1.shape
  have A1 := bgo B0 hb1
  have hgl1 := hg1.len
  obtain ⟨V1, hV1⟩ : ∃ V, V = w1.alloc (.cells #[.slice ao1 g1.length cap1] 26) := ⟨_, rfl⟩
  have bV1 : Below w1.heap.size w1 V1 := hV1 ▸ below_alloc _ _
  have cV1 : V1.cell? ⟨w1.heap.size, 0, none⟩ = some (.slice ao1 g1.length cap1) := by rw [hV1]; simp [go_sem]
  have zV1 : w1.heap.size < V1.heap.size := by rw [hV1]; simp
  have kV1 := hid fun w' (h : Below V1.heap.size V1 w') => (h.cell (p := ⟨w1.heap.size, 0, none⟩) zV1).trans cV1
  have rV1 := hid fun w' (h : Below V1.heap.size V1 w') => (((hg1.below bV1).rd.below h).more h.size)
  have B1 : Below w.heap.size w V1 := A1.trans (bV1.mono A1.size)
  have iG := hid fun w hr => iGeneratedBy_any (.slice ao1 g1.length cap1) g1 a w hr hgl1 ha
  have sG := hid fun w hr => sGeneratedBy_any (.slice ao1 g1.length cap1) g1 a w hr hgl1 ha
  have iS := hid fun h (hh : I64 h) w hr => iIsSubgroup_any (.slice ao1 g1.length cap1) g1 h w hr hgl1 hh
  have iG2 := hid fun h (hh : I64 h) w hr => iGeneratedBy_any (.slice ao1 g1.length cap1) g1 h w hr hgl1 hh
  have hF := gen_law g1 a
  obtain ⟨H, eH⟩ : ∃ H, H = one genN g1 a := ⟨_, rfl⟩
  rw [← eH] at hF iG sG
  replace hF := hid hF
  clear eH hg1 ha hb1 d1 hbig
  go_wp2_with fail
  rw [← hV1]
  clear hV1 bV1 A1
  refine (iG.out _ (rV1.out _ (Below.refl _ _))).mono ?_
  rintro e x1 ⟨rfl, D1⟩
  have c1 := kV1.out _ D1
  clear iG
  go_upto_region 5 with fail
  go_cut [69] (fun s69 wx => s69 = .bool false ∧ Below w.heap.size w wx)
  case first =>
    as_aux_lemma =>
      rcases hF.out with h1 | ⟨h1, h2, h3, h4, h5⟩
      · subst h1
        go_wp2_with fail
        refine (sG.out _ (rV1.out _ D1)).mono ?_
        rintro e x2 ⟨rfl, hb2⟩
        go_wp2_with fail
        go_meet
        exact ⟨rfl, bgo B1 (bgo D1 hb2)⟩
      · have i1 := iS.out H h5
        have i2 := iG2.out H h5
        rw [h2] at i1
        rw [h4] at i2
        replace i1 := hid i1
        replace i2 := hid i2
        clear h2 h4 h5
        go_wp2_with fail
        refine (sG.out _ (rV1.out _ D1)).mono ?_
        rintro e x2 ⟨rfl, hb2⟩
        have D2 := bgo D1 hb2
        have c2 := kV1.out _ D2
        clear c1 hb2
        go_wp2_with fail
        refine (i1.out _ (rV1.out _ D2)).mono ?_
        rintro e x3 ⟨rfl, hb3⟩
        have D3 := bgo D2 hb3
        have c3 := kV1.out _ D3
        clear c2 hb3
        go_wp2_with fail
        refine (i2.out _ (rV1.out _ D3)).mono ?_
        rintro e x4 ⟨rfl, hb4⟩
        go_wp2_with fail
        go_meet
        exact ⟨rfl, bgo B1 (bgo D3 hb4)⟩
  case rest =>
  as_aux_lemma =>
    obtain ⟨rfl, Bc⟩ := hcut
    clear sG iS iG2 hF D1 c1 zV1 cV1 kV1 rV1 B1 B0
    go_wp2_with fail
    refine (d2.out _ ((hr.below Bc).more Bc.size)).mono ?_
    rintro e w2 ⟨⟨u, g2, rfl, hg2⟩, hb2⟩
    obtain ⟨ao2, cap2, rfl⟩ := hg2.shape
    have A2 := bgo Bc hb2
    have hgl2 := hg2.len
    obtain ⟨V2, hV2⟩ : ∃ V, V = w2.alloc (.cells #[.slice ao2 g2.length cap2] 26) := ⟨_, rfl⟩
    have bV2 : Below w2.heap.size w2 V2 := hV2 ▸ below_alloc _ _
    have cV2 : V2.cell? ⟨w2.heap.size, 0, none⟩ = some (.slice ao2 g2.length cap2) := by rw [hV2]; simp [go_sem]
    have zV2 : w2.heap.size < V2.heap.size := by rw [hV2]; simp
    have kV2 := hid fun w' (h : Below V2.heap.size V2 w') => (h.cell (p := ⟨w2.heap.size, 0, none⟩) zV2).trans cV2
    have rV2 := hid fun w' (h : Below V2.heap.size V2 w') => (((hg2.below bV2).rd.below h).more h.size)
    have B2 : Below w.heap.size w V2 := A2.trans (bV2.mono A2.size)
    have iS := hid fun w hr => iSubgroupsOf_any (.slice ao2 g2.length cap2) g2 w hr hgl2
    have sS := hid fun w hr => sSubgroupsOf_any (.slice ao2 g2.length cap2) g2 w hr hgl2
    have sR := hid fun w hr => sOrderOf_any (.slice ao2 g2.length cap2) g2 w hr (by omega)
    have iI := hid fun c (hc : I64 c) w hr => iIsSubgroup_any (.slice ao2 g2.length cap2) g2 c w hr hgl2 hc
    have sC := hid fun c (hc : I64 c) w hr => sCountSet_any (.slice ao2 g2.length cap2) g2 c w hr hgl2 hc
    have hsl := hid fun c (hc : c ∈ sbsE g2) => subs_law g2 hc
    have hmt := hid fun c d (hc : c ∈ sbsE g2) (hd : d ∈ sbsE g2) => subs_meet hc hd
    have hMl := sbsE_len g2
    obtain ⟨M, eM⟩ : ∃ M, M = sbsE g2 := ⟨_, rfl⟩
    obtain ⟨N, eN⟩ : ∃ N, N = orderOf g2 := ⟨_, rfl⟩
    obtain ⟨b, eb⟩ : ∃ b, b = isGroup g2 := ⟨_, rfl⟩
    rw [← eM] at iS sS hsl hmt hMl
    rw [← eN] at sR hsl
    rw [← eb] at iS sS
    obtain ⟨n, hn⟩ : ∃ n, n = M.length := ⟨_, rfl⟩
    rw [← hn] at iS sS hMl
    replace hn := hid hn
    clear eM eN eb hg2 hb2 d2
    go_wp2_with fail
    rw [← hV2]
    clear hV2 bV2 A2
    refine (iS.out _ (rV2.out _ (Below.refl _ _))).mono ?_
    rintro e x1 ⟨ao7, cap7, rfl, ho7, D1⟩
    have ho7' : Own x1 V2.heap.size 3 .i64 (.slice ao7 n cap7) M := ho7
    have r7 := hid fun w' (h : Below x1.heap.size x1 w') => ((Rd.of_own ho7').below h).more h.size
    have c1 := kV2.out _ D1
    clear ho7 ho7' iS
    go_wp2_with fail
    refine (sS.out _ (rV2.out _ D1)).mono ?_
    rintro e x2 ⟨ao8, cap8, rfl, ho8, hb2⟩
    have D2 := bgo D1 hb2
    have ho8' : Own x2 x1.heap.size 3 .i64 (.slice ao8 n cap8) M := ho8
    have r8 := hid fun w' (h : Below x2.heap.size x2 w') => ((Rd.of_own ho8').below h).more h.size
    have r7b := hid (r7.out _ hb2)
    clear ho8 ho8' sS hb2 c1 r7
    go_wp2_with fail
    refine (lsameInts_same _ _ M _ (hn.out ▸ r7b.out) (hn.out ▸ r8.out _ (Below.refl _ _)) (by have := hn.out; omega)).mono ?_
    rintro e x3 ⟨rfl, hb3⟩
    have D3 := bgo D2 hb3
    have kX := hid fun w' (h : Below x3.heap.size x3 w') => kV2.out _ (bgo D3 h)
    have gX := hid fun w' (h : Below x3.heap.size x3 w') => rV2.out _ (bgo D3 h)
    have rX := hid (r8.out _ hb3)
    have BX := bgo B2 D3
    clear kV2 rV2 r8 r7b D1 D2 D3 hb3 cV2 zV2 B2 Bc
    go_wp2_with fail
    go_loopw [11] (fun i wr => ∃ k : Nat, k ≤ n ∧ i = .int .i64 k ∧ Below x3.heap.size x3 wr) (fun i _ => n - (intOf i).toNat)
    case atStart => exact ⟨0, by omega, rfl, Below.refl _ _⟩
    case round =>
      obtain ⟨k, hk, rfl, E0⟩ := hrel
      by_cases hlt : k < n
      · obtain ⟨aoX, capX, he, _, _, hcl⟩ := rX.out
        injection he with e1 e2 e3
        obtain ⟨b8, o8, hb8, hlt8, hc8⟩ := hcl (by have := hn.out; omega)
        subst e1
        subst hb8
        clear e2 e3 hcl
        as_aux_lemma =>
          have hrow := hid fun i (hi : i < n) w' (h : Below x3.heap.size x3 w') => show w'.cell? ⟨b8, o8 + i, none⟩ = some (.int .i64 (M.getD i 0)) from by
              have hi2 : i < M.length := by rw [← hn.out]; exact hi
              rw [getD_at hi2]
              exact (h.cell (p := ⟨b8, o8 + i, none⟩) hlt8).trans (hc8 i hi2)
          have hin := hid fun i (hi : i < n) => show M.getD i 0 ∈ M from by
              have hi2 : i < M.length := by rw [← hn.out]; exact hi
              rw [getD_at hi2]
              exact List.getElem_mem hi2
          obtain ⟨q1, q2, C, q3, q4, q5⟩ := hsl.out _ (hin.out k hlt)
          have hrk := hid fun w' h => hrow.out k hlt w' h
          have hxm := hid (hin.out k hlt)
          have i1 := iI.out _ q1
          have i2 := sC.out _ q1
          rw [q2] at i1
          rw [q3] at i2
          obtain ⟨x, hx⟩ : ∃ x, x = M.getD k 0 := ⟨_, rfl⟩
          rw [← hx] at hrk hxm i1 i2
          replace i1 := hid i1
          replace i2 := hid i2
          have hC0 : ¬ (C : Int) = 0 := by omega
          have hCn : ¬ C = 0 := by omega
          have hCb : ((C : Int) == 0) = false := beq_eq_false_iff_ne.2 hC0
          clear q1 q2 q3 q4 hx hc8
          have kk := hid fun w' (h : Below x3.heap.size x3 w') => And.intro (kX.out _ h) (hrk.out _ h)
          obtain ⟨c1, c2⟩ := kk.out _ E0
          go_wp2_with fail
          refine wp_region_held_drew (S := fun w' => w'.cell? ⟨w2.heap.size, 0, none⟩ = some (.slice ao2 g2.length cap2) ∧ w'.cell? ⟨b8, o8 + k, none⟩ = some (.int .i64 x)) (by kernel_rfl) ⟨c1, c2⟩ (fun hH0 => ?_)
          refine wpAnyH_take (i := 0) (v := ?_) rfl (by kernel_rfl) (by kernel_rfl) (by kernel_rfl) (fun _ _ _ h => h) (Or.inl ⟨by first | kernel_rfl | rfl, ?_⟩) (by assumption) ?_
          rotate_left
          · (intro w hSw; (try dsimp only at hSw); go_simp; try with_reducible rfl)
          simp only [List.getElem_toArray, List.getElem_cons_zero, List.getElem_cons_succ, Act.put, List.setIfInBounds_toArray, List.set_cons_zero, List.set_cons_succ]
          refine wpAnyH_take (i := 1) (v := ?_) rfl (by kernel_rfl) (by kernel_rfl) (by kernel_rfl) (fun _ _ _ h => h) (Or.inl ⟨by first | kernel_rfl | rfl, ?_⟩) (by assumption) ?_
          rotate_left
          · (intro w hSw; (try dsimp only at hSw); go_simp; try with_reducible rfl)
          simp only [List.getElem_toArray, List.getElem_cons_zero, List.getElem_cons_succ, Act.put, List.setIfInBounds_toArray, List.set_cons_zero, List.set_cons_succ]
          refine wpAnyH_take (i := 2) (v := ?_) rfl (by kernel_rfl) (by kernel_rfl) (by kernel_rfl) (fun _ _ _ h => h) (Or.inl ⟨by first | kernel_rfl | rfl, ?_⟩) (by assumption) ?_
          rotate_left
          · (intro w hSw; (try dsimp only at hSw); go_simp; try with_reducible rfl)
          simp only [List.getElem_toArray, List.getElem_cons_zero, List.getElem_cons_succ, Act.put, List.setIfInBounds_toArray, List.set_cons_zero, List.set_cons_succ]
          refine wpAnyH_take (i := 3) (v := ?_) rfl (by kernel_rfl) (by kernel_rfl) (by kernel_rfl) (fun _ _ _ h => h) (Or.inl ⟨by first | kernel_rfl | rfl, ?_⟩) (by assumption) ?_
          rotate_left
          · (intro w hSw; (try dsimp only at hSw); go_simp; try with_reducible rfl)
          simp only [List.getElem_toArray, List.getElem_cons_zero, List.getElem_cons_succ, Act.put, List.setIfInBounds_toArray, List.set_cons_zero, List.set_cons_succ]
          refine wpAnyH_take (i := 4) (v := ?_) rfl (by kernel_rfl) (by kernel_rfl) (by kernel_rfl) (fun _ _ _ h => h) (Or.inl ⟨by first | kernel_rfl | rfl, ?_⟩) (by assumption) ?_
          rotate_left
          · (intro w hSw; (try dsimp only at hSw); go_simp; try with_reducible rfl)
          simp only [List.getElem_toArray, List.getElem_cons_zero, List.getElem_cons_succ, Act.put, List.setIfInBounds_toArray, List.set_cons_zero, List.set_cons_succ]
          refine wpAnyH_ready (rs := [5]) (by kernel_rfl) (by simp) ?_
          refine AllReadyH.cons rfl (fun K5 hK5 => ?_) AllReadyH.nil
          go_simp
          go_at_call 26
          refine (i1.out _ (gX.out _ E0.drew)).mono ?_
          rintro e z2_1 ⟨rfl, hb2_1⟩
          have D2_1 := bgo E0.drew hb2_1
          go_wp2_with fail
          refine hK5.out _ _ (kk.out _ D2_1) (fun hH5 => ?_)
          refine wpAnyH_take (i := 6) (v := ?_) rfl (by kernel_rfl) (by kernel_rfl) (by kernel_rfl) (fun _ _ _ h => h) (Or.inl ⟨by first | kernel_rfl | rfl, ?_⟩) (by assumption) ?_
          rotate_left
          · (intro w hSw; (try dsimp only at hSw); go_simp; try with_reducible rfl)
          simp only [List.getElem_toArray, List.getElem_cons_zero, List.getElem_cons_succ, Act.put, List.setIfInBounds_toArray, List.set_cons_zero, List.set_cons_succ]
          refine wpAnyH_take (i := 7) (v := ?_) rfl (by kernel_rfl) (by kernel_rfl) (by kernel_rfl) (fun _ _ _ h => h) (Or.inl ⟨by first | kernel_rfl | rfl, ?_⟩) (by assumption) ?_
          rotate_left
          · (intro w hSw; (try dsimp only at hSw); go_simp; try with_reducible rfl)
          simp only [List.getElem_toArray, List.getElem_cons_zero, List.getElem_cons_succ, Act.put, List.setIfInBounds_toArray, List.set_cons_zero, List.set_cons_succ]
          refine wpAnyH_take (i := 8) (v := ?_) rfl (by kernel_rfl) (by kernel_rfl) (by kernel_rfl) (fun _ _ _ h => h) (Or.inl ⟨by first | kernel_rfl | rfl, ?_⟩) (by assumption) ?_
          rotate_left
          · (intro w hSw; (try dsimp only at hSw); go_simp; try with_reducible rfl)
          simp only [List.getElem_toArray, List.getElem_cons_zero, List.getElem_cons_succ, Act.put, List.setIfInBounds_toArray, List.set_cons_zero, List.set_cons_succ]
          refine wpAnyH_take (i := 10) (v := ?_) rfl (by kernel_rfl) (by kernel_rfl) (by kernel_rfl) (fun _ _ _ h => h) (Or.inl ⟨by first | kernel_rfl | rfl, ?_⟩) (by assumption) ?_
          rotate_left
          · (intro w hSw; (try dsimp only at hSw); go_simp; try with_reducible rfl)
          simp only [List.getElem_toArray, List.getElem_cons_zero, List.getElem_cons_succ, Act.put, List.setIfInBounds_toArray, List.set_cons_zero, List.set_cons_succ]
          refine wpAnyH_take (i := 11) (v := ?_) rfl (by kernel_rfl) (by kernel_rfl) (by kernel_rfl) (fun _ _ _ h => h) (Or.inl ⟨by first | kernel_rfl | rfl, ?_⟩) (by assumption) ?_
          rotate_left
          · (intro w hSw; (try dsimp only at hSw); go_simp; try with_reducible rfl)
          simp only [List.getElem_toArray, List.getElem_cons_zero, List.getElem_cons_succ, Act.put, List.setIfInBounds_toArray, List.set_cons_zero, List.set_cons_succ]
          refine wpAnyH_take (i := 12) (v := ?_) rfl (by kernel_rfl) (by kernel_rfl) (by kernel_rfl) (fun _ _ _ h => h) (Or.inl ⟨by first | kernel_rfl | rfl, ?_⟩) (by assumption) ?_
          rotate_left
          · (intro w hSw; (try dsimp only at hSw); go_simp; try with_reducible rfl)
          simp only [List.getElem_toArray, List.getElem_cons_zero, List.getElem_cons_succ, Act.put, List.setIfInBounds_toArray, List.set_cons_zero, List.set_cons_succ]
          refine wpAnyH_take (i := 13) (v := ?_) rfl (by kernel_rfl) (by kernel_rfl) (by kernel_rfl) (fun _ _ _ h => h) (Or.inl ⟨by first | kernel_rfl | rfl, ?_⟩) (by assumption) ?_
          rotate_left
          · (intro w hSw; (try dsimp only at hSw); go_simp; try with_reducible rfl)
          simp only [List.getElem_toArray, List.getElem_cons_zero, List.getElem_cons_succ, Act.put, List.setIfInBounds_toArray, List.set_cons_zero, List.set_cons_succ]
          refine wpAnyH_take (i := 14) (v := ?_) rfl (by kernel_rfl) (by kernel_rfl) (by kernel_rfl) (fun _ _ _ h => h) (Or.inl ⟨by first | kernel_rfl | rfl, ?_⟩) (by assumption) ?_
          rotate_left
          · (intro w hSw; (try dsimp only at hSw); go_simp; try with_reducible rfl)
          simp only [List.getElem_toArray, List.getElem_cons_zero, List.getElem_cons_succ, Act.put, List.setIfInBounds_toArray, List.set_cons_zero, List.set_cons_succ]
          refine wpAnyH_ready (rs := [9]) (by kernel_rfl) (by simp) ?_
          refine AllReadyH.cons rfl (fun K9 hK9 => ?_) AllReadyH.nil
          go_simp
          go_at_call 31
          refine (sR.out _ (gX.out _ D2_1)).mono ?_
          rintro e z2_2 ⟨rfl, hb2_2⟩
          have D2_2 := bgo D2_1 hb2_2
          go_wp2_with fail
          refine hK9.out _ _ (kk.out _ D2_2) (fun hH9 => ?_)
          refine wpAnyH_ready (rs := [15]) (by kernel_rfl) (by simp) ?_
          refine AllReadyH.cons rfl (fun K15 hK15 => ?_) AllReadyH.nil
          go_simp
          go_at_call 32
          refine (i2.out _ (gX.out _ D2_2)).mono ?_
          rintro e z2_3 ⟨rfl, hb2_3⟩
          have D2_3 := bgo D2_2 hb2_3
          go_wp2_with fail
          refine hK15.out _ _ (kk.out _ D2_3) (fun hH15 => ?_)
          refine wpAnyH_take (i := 16) (v := ?_) rfl (by kernel_rfl) (by kernel_rfl) (by kernel_rfl) (fun _ _ _ h => h) (Or.inl ⟨by first | kernel_rfl | rfl, ?_⟩) (by assumption) ?_
          rotate_left
          · (intro w hSw; (try dsimp only at hSw); go_simp; try with_reducible rfl)
          simp only [List.getElem_toArray, List.getElem_cons_zero, List.getElem_cons_succ, Act.put, List.setIfInBounds_toArray, List.set_cons_zero, List.set_cons_succ]
          refine wpAnyH_take (i := 17) (v := ?_) rfl (by kernel_rfl) (by kernel_rfl) (by kernel_rfl) (fun _ _ _ h => h) (Or.inl ⟨by first | kernel_rfl | rfl, ?_⟩) (by assumption) ?_
          rotate_left
          · (intro w hSw; (try dsimp only at hSw); go_simp; try with_reducible rfl)
          simp only [List.getElem_toArray, List.getElem_cons_zero, List.getElem_cons_succ, Act.put, List.setIfInBounds_toArray, List.set_cons_zero, List.set_cons_succ]
          refine wpAnyH_take (i := 18) (v := ?_) rfl (by kernel_rfl) (by kernel_rfl) (by kernel_rfl) (fun _ _ _ h => h) (Or.inl ⟨by first | kernel_rfl | rfl, ?_⟩) (by assumption) ?_
          rotate_left
          · (intro w hSw; (try dsimp only at hSw); go_simp; try with_reducible rfl)
          simp only [List.getElem_toArray, List.getElem_cons_zero, List.getElem_cons_succ, Act.put, List.setIfInBounds_toArray, List.set_cons_zero, List.set_cons_succ]
          refine wpAnyH_done (by kernel_rfl) ?_ _
          clear c1 c2 i1 i2 hC0 hCn hCb q5
          have F0 := D2_3
          go_wp2_with fail
          go_loopw [12] (fun i wq => ∃ q : Nat, q ≤ k ∧ i = .int .i64 q ∧ Below x3.heap.size x3 wq) (fun i _ => k - (intOf i).toNat)
          case atStart => exact ⟨0, by omega, rfl, F0⟩
          case round =>
            clear F0 E0
            obtain ⟨q, hq, rfl, E1⟩ := hrel
            by_cases hqk : q < k
            · have hqn : q < n := by omega
              have hrq := hid fun w' h => hrow.out q (by omega) w' h
              have hT := hmt.out x (M.getD q 0) hxm.out (hin.out q (by omega))
              obtain ⟨y, hy⟩ : ∃ y, y = M.getD q 0 := ⟨_, rfl⟩
              rw [← hy] at hrq hT
              obtain ⟨t, ht⟩ : ∃ t, t = bits .and .i64 x y := ⟨_, rfl⟩
              have ht2 : bits .and .i64 x y = t := ht.symm
              rw [ht2] at hT
              have hex : ∃ s, s < n ∧ M.getD s 0 = t := by
                obtain ⟨s, hs, he⟩ := List.mem_iff_getElem.1 hT
                exact ⟨s, by rw [hn.out]; exact hs, by rw [getD_at hs]; exact he⟩
              replace hex := hid hex
              clear ht hy hT
              go_wp2_with fail
              go_loopw [13, 14] (fun f j wz => ∃ (fb : Bool) (r : Nat), r ≤ n ∧ f = .bool fb ∧ j = .int .i64 r ∧ Hid (fb = false → ∀ s, s < r → M.getD s 0 ≠ t) ∧ Below x3.heap.size x3 wz) (fun _ j _ => n - (intOf j).toNat)
              case atStart => exact ⟨false, 0, by omega, rfl, rfl, fun _ s hs => absurd hs (by omega), E1⟩
              case round =>
                clear E1
                obtain ⟨fb, r, hr0, rfl, rfl, hfb, E2⟩ := hrel
                by_cases hrn : r < n
                · cases fb
                  · obtain ⟨z, hz⟩ : ∃ z, z = M.getD r 0 := ⟨_, rfl⟩
                    have c3 := hrow.out r hrn _ E2
                    rw [← hz] at c3
                    have hrr := hid fun w' (h : Below x3.heap.size x3 w') => hz ▸ hrow.out r hrn w' h
                    have c4 := hrk.out _ E2
                    have c5 := hrq.out _ E2
                    replace hz := hid hz
                    by_cases hzt : z = t
                    · subst hzt
                      as_aux_lemma =>
                        go_wp2_with fail
                        refine wp_region_held_drew (S := fun w' => w'.cell? ⟨b8, o8 + r, none⟩ = some (.int .i64 z) ∧ w'.cell? ⟨b8, o8 + k, none⟩ = some (.int .i64 x) ∧ w'.cell? ⟨b8, o8 + q, none⟩ = some (.int .i64 y)) (by kernel_rfl) ⟨c3, c4, c5⟩ (fun hH0 => ?_)
                        refine wpAnyH_take (i := 0) (v := ?_) rfl (by kernel_rfl) (by kernel_rfl) (by kernel_rfl) (fun _ _ _ h => h) (Or.inl ⟨by first | kernel_rfl | rfl, ?_⟩) (by assumption) ?_
                        rotate_left
                        · (intro w hSw; (try dsimp only at hSw); go_simp; try with_reducible rfl)
                        simp only [List.getElem_toArray, List.getElem_cons_zero, List.getElem_cons_succ, Act.put, List.setIfInBounds_toArray, List.set_cons_zero, List.set_cons_succ]
                        refine wpAnyH_take (i := 1) (v := ?_) rfl (by kernel_rfl) (by kernel_rfl) (by kernel_rfl) (fun _ _ _ h => h) (Or.inl ⟨by first | kernel_rfl | rfl, ?_⟩) (by assumption) ?_
                        rotate_left
                        · (intro w hSw; (try dsimp only at hSw); go_simp; try with_reducible rfl)
                        simp only [List.getElem_toArray, List.getElem_cons_zero, List.getElem_cons_succ, Act.put, List.setIfInBounds_toArray, List.set_cons_zero, List.set_cons_succ]
                        refine wpAnyH_take (i := 2) (v := ?_) rfl (by kernel_rfl) (by kernel_rfl) (by kernel_rfl) (fun _ _ _ h => h) (Or.inl ⟨by first | kernel_rfl | rfl, ?_⟩) (by assumption) ?_
                        rotate_left
                        · (intro w hSw; (try dsimp only at hSw); go_simp; try with_reducible rfl)
                        simp only [List.getElem_toArray, List.getElem_cons_zero, List.getElem_cons_succ, Act.put, List.setIfInBounds_toArray, List.set_cons_zero, List.set_cons_succ]
                        refine wpAnyH_take (i := 3) (v := ?_) rfl (by kernel_rfl) (by kernel_rfl) (by kernel_rfl) (fun _ _ _ h => h) (Or.inl ⟨by first | kernel_rfl | rfl, ?_⟩) (by assumption) ?_
                        rotate_left
                        · (intro w hSw; (try dsimp only at hSw); go_simp; try with_reducible rfl)
                        simp only [List.getElem_toArray, List.getElem_cons_zero, List.getElem_cons_succ, Act.put, List.setIfInBounds_toArray, List.set_cons_zero, List.set_cons_succ]
                        refine wpAnyH_take (i := 4) (v := ?_) rfl (by kernel_rfl) (by kernel_rfl) (by kernel_rfl) (fun _ _ _ h => h) (Or.inl ⟨by first | kernel_rfl | rfl, ?_⟩) (by assumption) ?_
                        rotate_left
                        · (intro w hSw; (try dsimp only at hSw); go_simp; try with_reducible rfl)
                        simp only [List.getElem_toArray, List.getElem_cons_zero, List.getElem_cons_succ, Act.put, List.setIfInBounds_toArray, List.set_cons_zero, List.set_cons_succ]
                        refine wpAnyH_take (i := 5) (v := ?_) rfl (by kernel_rfl) (by kernel_rfl) (by kernel_rfl) (fun _ _ _ h => h) (Or.inl ⟨by first | kernel_rfl | rfl, ?_⟩) (by assumption) ?_
                        rotate_left
                        · (intro w hSw; (try dsimp only at hSw); go_simp; try with_reducible rfl)
                        simp only [List.getElem_toArray, List.getElem_cons_zero, List.getElem_cons_succ, Act.put, List.setIfInBounds_toArray, List.set_cons_zero, List.set_cons_succ]
                        refine wpAnyH_take (i := 6) (v := ?_) rfl (by kernel_rfl) (by kernel_rfl) (by kernel_rfl) (fun _ _ _ h => h) (Or.inl ⟨by first | kernel_rfl | rfl, ?_⟩) (by assumption) ?_
                        rotate_left
                        · (intro w hSw; (try dsimp only at hSw); go_simp; try with_reducible rfl)
                        simp only [List.getElem_toArray, List.getElem_cons_zero, List.getElem_cons_succ, Act.put, List.setIfInBounds_toArray, List.set_cons_zero, List.set_cons_succ]
                        refine wpAnyH_take (i := 7) (v := ?_) rfl (by kernel_rfl) (by kernel_rfl) (by kernel_rfl) (fun _ _ _ h => h) (Or.inl ⟨by first | kernel_rfl | rfl, ?_⟩) (by assumption) ?_
                        rotate_left
                        · (intro w hSw; (try dsimp only at hSw); go_simp; try with_reducible rfl)
                        simp only [List.getElem_toArray, List.getElem_cons_zero, List.getElem_cons_succ, Act.put, List.setIfInBounds_toArray, List.set_cons_zero, List.set_cons_succ]
                        refine wpAnyH_take (i := 8) (v := ?_) rfl (by kernel_rfl) (by kernel_rfl) (by kernel_rfl) (fun _ _ _ h => h) (Or.inl ⟨by first | kernel_rfl | rfl, ?_⟩) (by assumption) ?_
                        rotate_left
                        · (intro w hSw; (try dsimp only at hSw); go_simp; try with_reducible rfl)
                        simp only [List.getElem_toArray, List.getElem_cons_zero, List.getElem_cons_succ, Act.put, List.setIfInBounds_toArray, List.set_cons_zero, List.set_cons_succ]
                        refine wpAnyH_take (i := 9) (v := ?_) rfl (by kernel_rfl) (by kernel_rfl) (by kernel_rfl) (fun _ _ _ h => h) (Or.inl ⟨by first | kernel_rfl | rfl, ?_⟩) (by assumption) ?_
                        rotate_left
                        · (intro w hSw; (try dsimp only at hSw); go_simp; try with_reducible rfl)
                        simp only [List.getElem_toArray, List.getElem_cons_zero, List.getElem_cons_succ, Act.put, List.setIfInBounds_toArray, List.set_cons_zero, List.set_cons_succ]
                        refine wpAnyH_take (i := 10) (v := ?_) rfl (by kernel_rfl) (by kernel_rfl) (by kernel_rfl) (fun _ _ _ h => h) (Or.inl ⟨by first | kernel_rfl | rfl, ?_⟩) (by assumption) ?_
                        rotate_left
                        · (intro w hSw; (try dsimp only at hSw); go_simp; try with_reducible rfl)
                        simp only [List.getElem_toArray, List.getElem_cons_zero, List.getElem_cons_succ, Act.put, List.setIfInBounds_toArray, List.set_cons_zero, List.set_cons_succ]
                        refine wpAnyH_take (i := 11) (v := ?_) rfl (by kernel_rfl) (by kernel_rfl) (by kernel_rfl) (fun _ _ _ h => h) (Or.inl ⟨by first | kernel_rfl | rfl, ?_⟩) (by assumption) ?_
                        rotate_left
                        · (intro w hSw; (try dsimp only at hSw); go_simp; try with_reducible rfl)
                        simp only [List.getElem_toArray, List.getElem_cons_zero, List.getElem_cons_succ, Act.put, List.setIfInBounds_toArray, List.set_cons_zero, List.set_cons_succ]
                        refine wpAnyH_take (i := 12) (v := ?_) rfl (by kernel_rfl) (by kernel_rfl) (by kernel_rfl) (fun _ _ _ h => h) (Or.inl ⟨by first | kernel_rfl | rfl, ?_⟩) (by assumption) ?_
                        rotate_left
                        · (intro w hSw; (try dsimp only at hSw); go_simp; try with_reducible rfl)
                        simp only [List.getElem_toArray, List.getElem_cons_zero, List.getElem_cons_succ, Act.put, List.setIfInBounds_toArray, List.set_cons_zero, List.set_cons_succ]
                        refine wpAnyH_take (i := 13) (v := ?_) rfl (by kernel_rfl) (by kernel_rfl) (by kernel_rfl) (fun _ _ _ h => h) (Or.inl ⟨by first | kernel_rfl | rfl, ?_⟩) (by assumption) ?_
                        rotate_left
                        · (intro w hSw; (try dsimp only at hSw); go_simp; try with_reducible rfl)
                        simp only [List.getElem_toArray, List.getElem_cons_zero, List.getElem_cons_succ, Act.put, List.setIfInBounds_toArray, List.set_cons_zero, List.set_cons_succ]
                        refine wpAnyH_take (i := 14) (v := ?_) rfl (by kernel_rfl) (by kernel_rfl) (by kernel_rfl) (fun _ _ _ h => h) (Or.inl ⟨by first | kernel_rfl | rfl, ?_⟩) (by assumption) ?_
                        rotate_left
                        · (intro w hSw; (try dsimp only at hSw); go_simp; try with_reducible rfl)
                        simp only [List.getElem_toArray, List.getElem_cons_zero, List.getElem_cons_succ, Act.put, List.setIfInBounds_toArray, List.set_cons_zero, List.set_cons_succ]
                        refine wpAnyH_take (i := 15) (v := ?_) rfl (by kernel_rfl) (by kernel_rfl) (by kernel_rfl) (fun _ _ _ h => h) (Or.inl ⟨by first | kernel_rfl | rfl, ?_⟩) (by assumption) ?_
                        rotate_left
                        · (intro w hSw; (try dsimp only at hSw); go_simp; try with_reducible rfl)
                        simp only [List.getElem_toArray, List.getElem_cons_zero, List.getElem_cons_succ, Act.put, List.setIfInBounds_toArray, List.set_cons_zero, List.set_cons_succ]
                        refine wpAnyH_take (i := 16) (v := ?_) rfl (by kernel_rfl) (by kernel_rfl) (by kernel_rfl) (fun _ _ _ h => h) (Or.inl ⟨by first | kernel_rfl | rfl, ?_⟩) (by assumption) ?_
                        rotate_left
                        · (intro w hSw; (try dsimp only at hSw); go_simp; try with_reducible rfl)
                        simp only [List.getElem_toArray, List.getElem_cons_zero, List.getElem_cons_succ, Act.put, List.setIfInBounds_toArray, List.set_cons_zero, List.set_cons_succ]
                        refine wpAnyH_take (i := 17) (v := ?_) rfl (by kernel_rfl) (by kernel_rfl) (by kernel_rfl) (fun _ _ _ h => h) (Or.inl ⟨by first | kernel_rfl | rfl, ?_⟩) (by assumption) ?_
                        rotate_left
                        · (intro w hSw; (try dsimp only at hSw); go_simp; try with_reducible rfl)
                        simp only [List.getElem_toArray, List.getElem_cons_zero, List.getElem_cons_succ, Act.put, List.setIfInBounds_toArray, List.set_cons_zero, List.set_cons_succ]
                        refine wpAnyH_done (by kernel_rfl) ?_ _
                        go_wp2
                        go_roundw
                        case rel => exact ⟨true, r + 1, by omega, rfl, by go_num, (fun h => by cases h), E2.drew⟩
                        case measure => simp [intOf]; omega
                    · have hzb : (z == t) = false := beq_eq_false_iff_ne.2 hzt
                      have hzd : decide (z = t) = false := decide_eq_false hzt
                      replace hzt := hid hzt
                      as_aux_lemma =>
                        go_wp2_with fail
                        refine wp_region_held_drew (S := fun w' => w'.cell? ⟨b8, o8 + r, none⟩ = some (.int .i64 z) ∧ w'.cell? ⟨b8, o8 + k, none⟩ = some (.int .i64 x) ∧ w'.cell? ⟨b8, o8 + q, none⟩ = some (.int .i64 y)) (by kernel_rfl) ⟨c3, c4, c5⟩ (fun hH0 => ?_)
                        refine wpAnyH_take (i := 0) (v := ?_) rfl (by kernel_rfl) (by kernel_rfl) (by kernel_rfl) (fun _ _ _ h => h) (Or.inl ⟨by first | kernel_rfl | rfl, ?_⟩) (by assumption) ?_
                        rotate_left
                        · (intro w hSw; (try dsimp only at hSw); go_simp; try with_reducible rfl)
                        simp only [List.getElem_toArray, List.getElem_cons_zero, List.getElem_cons_succ, Act.put, List.setIfInBounds_toArray, List.set_cons_zero, List.set_cons_succ]
                        refine wpAnyH_take (i := 1) (v := ?_) rfl (by kernel_rfl) (by kernel_rfl) (by kernel_rfl) (fun _ _ _ h => h) (Or.inl ⟨by first | kernel_rfl | rfl, ?_⟩) (by assumption) ?_
                        rotate_left
                        · (intro w hSw; (try dsimp only at hSw); go_simp; try with_reducible rfl)
                        simp only [List.getElem_toArray, List.getElem_cons_zero, List.getElem_cons_succ, Act.put, List.setIfInBounds_toArray, List.set_cons_zero, List.set_cons_succ]
                        refine wpAnyH_take (i := 2) (v := ?_) rfl (by kernel_rfl) (by kernel_rfl) (by kernel_rfl) (fun _ _ _ h => h) (Or.inl ⟨by first | kernel_rfl | rfl, ?_⟩) (by assumption) ?_
                        rotate_left
                        · (intro w hSw; (try dsimp only at hSw); go_simp; try with_reducible rfl)
                        simp only [List.getElem_toArray, List.getElem_cons_zero, List.getElem_cons_succ, Act.put, List.setIfInBounds_toArray, List.set_cons_zero, List.set_cons_succ]
                        refine wpAnyH_take (i := 3) (v := ?_) rfl (by kernel_rfl) (by kernel_rfl) (by kernel_rfl) (fun _ _ _ h => h) (Or.inl ⟨by first | kernel_rfl | rfl, ?_⟩) (by assumption) ?_
                        rotate_left
                        · (intro w hSw; (try dsimp only at hSw); go_simp; try with_reducible rfl)
                        simp only [List.getElem_toArray, List.getElem_cons_zero, List.getElem_cons_succ, Act.put, List.setIfInBounds_toArray, List.set_cons_zero, List.set_cons_succ]
                        refine wpAnyH_take (i := 4) (v := ?_) rfl (by kernel_rfl) (by kernel_rfl) (by kernel_rfl) (fun _ _ _ h => h) (Or.inl ⟨by first | kernel_rfl | rfl, ?_⟩) (by assumption) ?_
                        rotate_left
                        · (intro w hSw; (try dsimp only at hSw); go_simp; try with_reducible rfl)
                        simp only [List.getElem_toArray, List.getElem_cons_zero, List.getElem_cons_succ, Act.put, List.setIfInBounds_toArray, List.set_cons_zero, List.set_cons_succ]
                        refine wpAnyH_take (i := 5) (v := ?_) rfl (by kernel_rfl) (by kernel_rfl) (by kernel_rfl) (fun _ _ _ h => h) (Or.inl ⟨by first | kernel_rfl | rfl, ?_⟩) (by assumption) ?_
                        rotate_left
                        · (intro w hSw; (try dsimp only at hSw); go_simp; try with_reducible rfl)
                        simp only [List.getElem_toArray, List.getElem_cons_zero, List.getElem_cons_succ, Act.put, List.setIfInBounds_toArray, List.set_cons_zero, List.set_cons_succ]
                        refine wpAnyH_take (i := 6) (v := ?_) rfl (by kernel_rfl) (by kernel_rfl) (by kernel_rfl) (fun _ _ _ h => h) (Or.inl ⟨by first | kernel_rfl | rfl, ?_⟩) (by assumption) ?_
                        rotate_left
                        · (intro w hSw; (try dsimp only at hSw); go_simp; try with_reducible rfl)
                        simp only [List.getElem_toArray, List.getElem_cons_zero, List.getElem_cons_succ, Act.put, List.setIfInBounds_toArray, List.set_cons_zero, List.set_cons_succ]
                        refine wpAnyH_take (i := 7) (v := ?_) rfl (by kernel_rfl) (by kernel_rfl) (by kernel_rfl) (fun _ _ _ h => h) (Or.inl ⟨by first | kernel_rfl | rfl, ?_⟩) (by assumption) ?_
                        rotate_left
                        · (intro w hSw; (try dsimp only at hSw); go_simp; try with_reducible rfl)
                        simp only [List.getElem_toArray, List.getElem_cons_zero, List.getElem_cons_succ, Act.put, List.setIfInBounds_toArray, List.set_cons_zero, List.set_cons_succ]
                        refine wpAnyH_take (i := 8) (v := ?_) rfl (by kernel_rfl) (by kernel_rfl) (by kernel_rfl) (fun _ _ _ h => h) (Or.inl ⟨by first | kernel_rfl | rfl, ?_⟩) (by assumption) ?_
                        rotate_left
                        · (intro w hSw; (try dsimp only at hSw); go_simp; try with_reducible rfl)
                        simp only [List.getElem_toArray, List.getElem_cons_zero, List.getElem_cons_succ, Act.put, List.setIfInBounds_toArray, List.set_cons_zero, List.set_cons_succ]
                        refine wpAnyH_take (i := 9) (v := ?_) rfl (by kernel_rfl) (by kernel_rfl) (by kernel_rfl) (fun _ _ _ h => h) (Or.inl ⟨by first | kernel_rfl | rfl, ?_⟩) (by assumption) ?_
                        rotate_left
                        · (intro w hSw; (try dsimp only at hSw); go_simp; try with_reducible rfl)
                        simp only [List.getElem_toArray, List.getElem_cons_zero, List.getElem_cons_succ, Act.put, List.setIfInBounds_toArray, List.set_cons_zero, List.set_cons_succ]
                        refine wpAnyH_take (i := 10) (v := ?_) rfl (by kernel_rfl) (by kernel_rfl) (by kernel_rfl) (fun _ _ _ h => h) (Or.inl ⟨by first | kernel_rfl | rfl, ?_⟩) (by assumption) ?_
                        rotate_left
                        · (intro w hSw; (try dsimp only at hSw); go_simp; try with_reducible rfl)
                        simp only [List.getElem_toArray, List.getElem_cons_zero, List.getElem_cons_succ, Act.put, List.setIfInBounds_toArray, List.set_cons_zero, List.set_cons_succ]
                        refine wpAnyH_take (i := 11) (v := ?_) rfl (by kernel_rfl) (by kernel_rfl) (by kernel_rfl) (fun _ _ _ h => h) (Or.inl ⟨by first | kernel_rfl | rfl, ?_⟩) (by assumption) ?_
                        rotate_left
                        · (intro w hSw; (try dsimp only at hSw); go_simp; try with_reducible rfl)
                        simp only [List.getElem_toArray, List.getElem_cons_zero, List.getElem_cons_succ, Act.put, List.setIfInBounds_toArray, List.set_cons_zero, List.set_cons_succ]
                        refine wpAnyH_take (i := 12) (v := ?_) rfl (by kernel_rfl) (by kernel_rfl) (by kernel_rfl) (fun _ _ _ h => h) (Or.inl ⟨by first | kernel_rfl | rfl, ?_⟩) (by assumption) ?_
                        rotate_left
                        · (intro w hSw; (try dsimp only at hSw); go_simp; try with_reducible rfl)
                        simp only [List.getElem_toArray, List.getElem_cons_zero, List.getElem_cons_succ, Act.put, List.setIfInBounds_toArray, List.set_cons_zero, List.set_cons_succ]
                        refine wpAnyH_take (i := 13) (v := ?_) rfl (by kernel_rfl) (by kernel_rfl) (by kernel_rfl) (fun _ _ _ h => h) (Or.inl ⟨by first | kernel_rfl | rfl, ?_⟩) (by assumption) ?_
                        rotate_left
                        · (intro w hSw; (try dsimp only at hSw); go_simp; try with_reducible rfl)
                        simp only [List.getElem_toArray, List.getElem_cons_zero, List.getElem_cons_succ, Act.put, List.setIfInBounds_toArray, List.set_cons_zero, List.set_cons_succ]
                        refine wpAnyH_take (i := 14) (v := ?_) rfl (by kernel_rfl) (by kernel_rfl) (by kernel_rfl) (fun _ _ _ h => h) (Or.inl ⟨by first | kernel_rfl | rfl, ?_⟩) (by assumption) ?_
                        rotate_left
                        · (intro w hSw; (try dsimp only at hSw); go_simp; try with_reducible rfl)
                        simp only [List.getElem_toArray, List.getElem_cons_zero, List.getElem_cons_succ, Act.put, List.setIfInBounds_toArray, List.set_cons_zero, List.set_cons_succ]
                        refine wpAnyH_take (i := 15) (v := ?_) rfl (by kernel_rfl) (by kernel_rfl) (by kernel_rfl) (fun _ _ _ h => h) (Or.inl ⟨by first | kernel_rfl | rfl, ?_⟩) (by assumption) ?_
                        rotate_left
                        · (intro w hSw; (try dsimp only at hSw); go_simp; try with_reducible rfl)
                        simp only [List.getElem_toArray, List.getElem_cons_zero, List.getElem_cons_succ, Act.put, List.setIfInBounds_toArray, List.set_cons_zero, List.set_cons_succ]
                        refine wpAnyH_take (i := 16) (v := ?_) rfl (by kernel_rfl) (by kernel_rfl) (by kernel_rfl) (fun _ _ _ h => h) (Or.inl ⟨by first | kernel_rfl | rfl, ?_⟩) (by assumption) ?_
                        rotate_left
                        · (intro w hSw; (try dsimp only at hSw); go_simp; try with_reducible rfl)
                        simp only [List.getElem_toArray, List.getElem_cons_zero, List.getElem_cons_succ, Act.put, List.setIfInBounds_toArray, List.set_cons_zero, List.set_cons_succ]
                        refine wpAnyH_take (i := 17) (v := ?_) rfl (by kernel_rfl) (by kernel_rfl) (by kernel_rfl) (fun _ _ _ h => h) (Or.inl ⟨by first | kernel_rfl | rfl, ?_⟩) (by assumption) ?_
                        rotate_left
                        · (intro w hSw; (try dsimp only at hSw); go_simp; try with_reducible rfl)
                        simp only [List.getElem_toArray, List.getElem_cons_zero, List.getElem_cons_succ, Act.put, List.setIfInBounds_toArray, List.set_cons_zero, List.set_cons_succ]
                        refine wpAnyH_done (by kernel_rfl) ?_ _
                        go_wp2
                        go_roundw
                        case rel =>
                          refine ⟨false, r + 1, by omega, rfl, by go_num, (fun _ s hs => ?_), E2.drew⟩
                          by_cases e : s = r
                          · rw [e, ← hz.out]; exact hzt.out
                          · exact hfb.out (by first | trivial | rfl) s (by omega)
                        case measure => simp [intOf]; omega
                  · go_wp2_with fail
                    as_aux_lemma =>
                      refine wp_region_held_drew (S := fun w' => True) (by kernel_rfl) trivial (fun hH0 => ?_)
                      refine wpAnyH_take (i := 0) (v := ?_) rfl (by kernel_rfl) (by kernel_rfl) (by kernel_rfl) (fun _ _ _ h => h) (Or.inl ⟨by first | kernel_rfl | rfl, ?_⟩) (by assumption) ?_
                      rotate_left
                      · (intro w hSw; (try dsimp only at hSw); go_simp; try with_reducible rfl)
                      simp only [List.getElem_toArray, List.getElem_cons_zero, List.getElem_cons_succ, Act.put, List.setIfInBounds_toArray, List.set_cons_zero, List.set_cons_succ]
                      refine wpAnyH_take (i := 1) (v := ?_) rfl (by kernel_rfl) (by kernel_rfl) (by kernel_rfl) (fun _ _ _ h => h) (Or.inl ⟨by first | kernel_rfl | rfl, ?_⟩) (by assumption) ?_
                      rotate_left
                      · (intro w hSw; (try dsimp only at hSw); go_simp; try with_reducible rfl)
                      simp only [List.getElem_toArray, List.getElem_cons_zero, List.getElem_cons_succ, Act.put, List.setIfInBounds_toArray, List.set_cons_zero, List.set_cons_succ]
                      refine wpAnyH_take (i := 2) (v := undef) rfl (by kernel_rfl) (by kernel_rfl) (by kernel_rfl) (fun _ _ _ h => h) (Or.inr ⟨by first | kernel_rfl | rfl, rfl⟩) (by assumption) ?_
                      simp only [List.getElem_toArray, List.getElem_cons_zero, List.getElem_cons_succ, Act.put, List.setIfInBounds_toArray, List.set_cons_zero, List.set_cons_succ]
                      refine wpAnyH_take (i := 3) (v := undef) rfl (by kernel_rfl) (by kernel_rfl) (by kernel_rfl) (fun _ _ _ h => h) (Or.inr ⟨by first | kernel_rfl | rfl, rfl⟩) (by assumption) ?_
                      simp only [List.getElem_toArray, List.getElem_cons_zero, List.getElem_cons_succ, Act.put, List.setIfInBounds_toArray, List.set_cons_zero, List.set_cons_succ]
                      refine wpAnyH_take (i := 4) (v := undef) rfl (by kernel_rfl) (by kernel_rfl) (by kernel_rfl) (fun _ _ _ h => h) (Or.inr ⟨by first | kernel_rfl | rfl, rfl⟩) (by assumption) ?_
                      simp only [List.getElem_toArray, List.getElem_cons_zero, List.getElem_cons_succ, Act.put, List.setIfInBounds_toArray, List.set_cons_zero, List.set_cons_succ]
                      refine wpAnyH_take (i := 5) (v := undef) rfl (by kernel_rfl) (by kernel_rfl) (by kernel_rfl) (fun _ _ _ h => h) (Or.inr ⟨by first | kernel_rfl | rfl, rfl⟩) (by assumption) ?_
                      simp only [List.getElem_toArray, List.getElem_cons_zero, List.getElem_cons_succ, Act.put, List.setIfInBounds_toArray, List.set_cons_zero, List.set_cons_succ]
                      refine wpAnyH_take (i := 6) (v := undef) rfl (by kernel_rfl) (by kernel_rfl) (by kernel_rfl) (fun _ _ _ h => h) (Or.inr ⟨by first | kernel_rfl | rfl, rfl⟩) (by assumption) ?_
                      simp only [List.getElem_toArray, List.getElem_cons_zero, List.getElem_cons_succ, Act.put, List.setIfInBounds_toArray, List.set_cons_zero, List.set_cons_succ]
                      refine wpAnyH_take (i := 7) (v := undef) rfl (by kernel_rfl) (by kernel_rfl) (by kernel_rfl) (fun _ _ _ h => h) (Or.inr ⟨by first | kernel_rfl | rfl, rfl⟩) (by assumption) ?_
                      simp only [List.getElem_toArray, List.getElem_cons_zero, List.getElem_cons_succ, Act.put, List.setIfInBounds_toArray, List.set_cons_zero, List.set_cons_succ]
                      refine wpAnyH_take (i := 8) (v := undef) rfl (by kernel_rfl) (by kernel_rfl) (by kernel_rfl) (fun _ _ _ h => h) (Or.inr ⟨by first | kernel_rfl | rfl, rfl⟩) (by assumption) ?_
                      simp only [List.getElem_toArray, List.getElem_cons_zero, List.getElem_cons_succ, Act.put, List.setIfInBounds_toArray, List.set_cons_zero, List.set_cons_succ]
                      refine wpAnyH_take (i := 9) (v := undef) rfl (by kernel_rfl) (by kernel_rfl) (by kernel_rfl) (fun _ _ _ h => h) (Or.inr ⟨by first | kernel_rfl | rfl, rfl⟩) (by assumption) ?_
                      simp only [List.getElem_toArray, List.getElem_cons_zero, List.getElem_cons_succ, Act.put, List.setIfInBounds_toArray, List.set_cons_zero, List.set_cons_succ]
                      refine wpAnyH_take (i := 10) (v := undef) rfl (by kernel_rfl) (by kernel_rfl) (by kernel_rfl) (fun _ _ _ h => h) (Or.inr ⟨by first | kernel_rfl | rfl, rfl⟩) (by assumption) ?_
                      simp only [List.getElem_toArray, List.getElem_cons_zero, List.getElem_cons_succ, Act.put, List.setIfInBounds_toArray, List.set_cons_zero, List.set_cons_succ]
                      refine wpAnyH_take (i := 11) (v := undef) rfl (by kernel_rfl) (by kernel_rfl) (by kernel_rfl) (fun _ _ _ h => h) (Or.inr ⟨by first | kernel_rfl | rfl, rfl⟩) (by assumption) ?_
                      simp only [List.getElem_toArray, List.getElem_cons_zero, List.getElem_cons_succ, Act.put, List.setIfInBounds_toArray, List.set_cons_zero, List.set_cons_succ]
                      refine wpAnyH_take (i := 12) (v := undef) rfl (by kernel_rfl) (by kernel_rfl) (by kernel_rfl) (fun _ _ _ h => h) (Or.inr ⟨by first | kernel_rfl | rfl, rfl⟩) (by assumption) ?_
                      simp only [List.getElem_toArray, List.getElem_cons_zero, List.getElem_cons_succ, Act.put, List.setIfInBounds_toArray, List.set_cons_zero, List.set_cons_succ]
                      refine wpAnyH_take (i := 13) (v := undef) rfl (by kernel_rfl) (by kernel_rfl) (by kernel_rfl) (fun _ _ _ h => h) (Or.inr ⟨by first | kernel_rfl | rfl, rfl⟩) (by assumption) ?_
                      simp only [List.getElem_toArray, List.getElem_cons_zero, List.getElem_cons_succ, Act.put, List.setIfInBounds_toArray, List.set_cons_zero, List.set_cons_succ]
                      refine wpAnyH_take (i := 14) (v := undef) rfl (by kernel_rfl) (by kernel_rfl) (by kernel_rfl) (fun _ _ _ h => h) (Or.inr ⟨by first | kernel_rfl | rfl, rfl⟩) (by assumption) ?_
                      simp only [List.getElem_toArray, List.getElem_cons_zero, List.getElem_cons_succ, Act.put, List.setIfInBounds_toArray, List.set_cons_zero, List.set_cons_succ]
                      refine wpAnyH_take (i := 15) (v := undef) rfl (by kernel_rfl) (by kernel_rfl) (by kernel_rfl) (fun _ _ _ h => h) (Or.inr ⟨by first | kernel_rfl | rfl, rfl⟩) (by assumption) ?_
                      simp only [List.getElem_toArray, List.getElem_cons_zero, List.getElem_cons_succ, Act.put, List.setIfInBounds_toArray, List.set_cons_zero, List.set_cons_succ]
                      refine wpAnyH_take (i := 16) (v := ?_) rfl (by kernel_rfl) (by kernel_rfl) (by kernel_rfl) (fun _ _ _ h => h) (Or.inl ⟨by first | kernel_rfl | rfl, ?_⟩) (by assumption) ?_
                      rotate_left
                      · (intro w hSw; (try dsimp only at hSw); go_simp; try with_reducible rfl)
                      simp only [List.getElem_toArray, List.getElem_cons_zero, List.getElem_cons_succ, Act.put, List.setIfInBounds_toArray, List.set_cons_zero, List.set_cons_succ]
                      refine wpAnyH_take (i := 17) (v := ?_) rfl (by kernel_rfl) (by kernel_rfl) (by kernel_rfl) (fun _ _ _ h => h) (Or.inl ⟨by first | kernel_rfl | rfl, ?_⟩) (by assumption) ?_
                      rotate_left
                      · (intro w hSw; (try dsimp only at hSw); go_simp; try with_reducible rfl)
                      simp only [List.getElem_toArray, List.getElem_cons_zero, List.getElem_cons_succ, Act.put, List.setIfInBounds_toArray, List.set_cons_zero, List.set_cons_succ]
                      refine wpAnyH_done (by kernel_rfl) ?_ _
                      go_wp2
                      go_roundw
                      case rel => exact ⟨true, r + 1, by omega, rfl, by go_num, (fun h => by cases h), E2.drew⟩
                      case measure => simp [intOf]; omega
                · have hrn0 : ¬ (r : Int) < (n : Int) := by omega
                  cases fb
                  · obtain ⟨s, hs, he⟩ := hex.out
                    exact absurd he (hfb.out (by first | trivial | rfl) s (by omega))
                  · clear hrn hfb
                    go_wp2
                    go_roundw
                    case rel => exact ⟨q + 1, by omega, by go_num, E2⟩
                    case measure => simp [intOf]; omega
            · have hqk0 : ¬ (q : Int) < (k : Int) := by omega
              clear hqk
              go_wp2
              go_roundw
              case rel => exact ⟨k + 1, by omega, by go_num, E1⟩
              case measure => simp [intOf]; omega
      · have hk0 : ¬ (k : Int) < (n : Int) := by omega
        have Bx := bgo BX E0
        clear hlt hsl hmt hn rX kX gX BX sR iI sC hMl E0
        go_wp2_with fail
        refine (d3.out _ ((hr.below Bx).more Bx.size)).mono ?_
        rintro e w3 ⟨⟨u, g3, d, rfl, hg3, hd⟩, hb3⟩
        obtain ⟨ao3, cap3, rfl⟩ := hg3.shape
        have A3 := bgo Bx hb3
        have hgl3 := hg3.len
        obtain ⟨V3, hV3⟩ : ∃ V, V = w3.alloc (.cells #[.slice ao3 g3.length cap3] 26) := ⟨_, rfl⟩
        have bV3 : Below w3.heap.size w3 V3 := hV3 ▸ below_alloc _ _
        have cV3 : V3.cell? ⟨w3.heap.size, 0, none⟩ = some (.slice ao3 g3.length cap3) := by rw [hV3]; simp [go_sem]
        have zV3 : w3.heap.size < V3.heap.size := by rw [hV3]; simp
        have kV3 := hid fun w' (h : Below V3.heap.size V3 w') => (h.cell (p := ⟨w3.heap.size, 0, none⟩) zV3).trans cV3
        have rV3 := hid fun w' (h : Below V3.heap.size V3 w') => (((hg3.below bV3).rd.below h).more h.size)
        have B3 : Below w.heap.size w V3 := A3.trans (bV3.mono A3.size)
        have iC := hid fun w hr => iCosetsOf_any (.slice ao3 g3.length cap3) g3 d w hr hgl3 hd
        have sC := hid fun w hr => sCosetsOf_any (.slice ao3 g3.length cap3) g3 d w hr hgl3 hd
        have iS := hid fun w hr => iIsSubgroup_any (.slice ao3 g3.length cap3) g3 d w hr hgl3 hd
        have iF := hid fun w hr => iFullSet_any (.slice ao3 g3.length cap3) g3 w hr hgl3
        have sK := hid fun w hr => sCountSet_any (.slice ao3 g3.length cap3) g3 d w hr hgl3 hd
        have sR := hid fun w hr => sOrderOf_any (.slice ao3 g3.length cap3) g3 w hr (by omega)
        have iI := hid fun c (hc : I64 c) w hr => iIsCoset_any (.slice ao3 g3.length cap3) g3 c w hr hgl3 hc
        have hcl := hid fun h => @cos_law g3 d h
        have hQl := cosE_len g3 d
        obtain ⟨Q, eQ⟩ : ∃ Q, Q = cosE g3 d := ⟨_, rfl⟩
        obtain ⟨b3, eb3⟩ : ∃ b, b = isSub g3 d := ⟨_, rfl⟩
        obtain ⟨Fu, eF⟩ : ∃ F, F = fullE g3 := ⟨_, rfl⟩
        obtain ⟨K, eK⟩ : ∃ K, K = cntE g3 d := ⟨_, rfl⟩
        obtain ⟨R, eR⟩ : ∃ R, R = orderOf g3 := ⟨_, rfl⟩
        rw [← eQ] at iC sC hcl hQl
        rw [← eb3] at iC sC iS hcl
        rw [← eF] at iF hcl
        rw [← eK] at sK hcl
        rw [← eR] at sR hcl
        obtain ⟨nq, hnq⟩ : ∃ n, n = Q.length := ⟨_, rfl⟩
        rw [← hnq] at iC sC hcl hQl
        replace hnq := hid hnq
        clear eQ eb3 eF eK eR hg3 hd hb3 d3
        go_wp2_with fail
        rw [← hV3]
        clear hV3 bV3 A3
        refine (iC.out _ (rV3.out _ (Below.refl _ _))).mono ?_
        rintro e y1 ⟨ao9, cap9, rfl, ho9, D1⟩
        have ho9' : Own y1 V3.heap.size 3 .i64 (.slice ao9 nq cap9) Q := ho9
        have r9 := hid fun w' (h : Below y1.heap.size y1 w') => ((Rd.of_own ho9').below h).more h.size
        have c1 := kV3.out _ D1
        clear ho9 ho9' iC
        go_wp2_with fail
        refine (sC.out _ (rV3.out _ D1)).mono ?_
        rintro e y2 ⟨ao10, cap10, rfl, ho10, hb2⟩
        have D2 := bgo D1 hb2
        have ho10' : Own y2 y1.heap.size 3 .i64 (.slice ao10 nq cap10) Q := ho10
        have r10 := hid fun w' (h : Below y2.heap.size y2 w') => ((Rd.of_own ho10').below h).more h.size
        have r9b := hid (r9.out _ hb2)
        have c2 := kV3.out _ D2
        clear ho10 ho10' sC hb2 c1 r9
        go_wp2_with fail
        refine (lsameInts_same _ _ Q _ (hnq.out ▸ r9b.out) (hnq.out ▸ r10.out _ (Below.refl _ _)) (by have := hnq.out; omega)).mono ?_
        rintro e y3 ⟨rfl, hb3⟩
        have D3 := bgo D2 hb3
        have c3 := kV3.out _ D3
        have r10b := hid fun w' (h : Below y3.heap.size y3 w') => r10.out _ (bgo hb3 h)
        clear r10 r9b hb3 c2 D1 D2
        go_wp2_with fail
        refine (iS.out _ (rV3.out _ D3)).mono ?_
        rintro e y4 ⟨rfl, hb4⟩
        have D4 := bgo D3 hb4
        have c4 := kV3.out _ D4
        have kX := hid fun w' (h : Below y4.heap.size y4 w') => kV3.out _ (bgo D4 h)
        have gX := hid fun w' (h : Below y4.heap.size y4 w') => rV3.out _ (bgo D4 h)
        have rX := hid (r10b.out _ hb4)
        have BX := bgo B3 D4
        clear kV3 rV3 r10b D3 D4 hb4 cV3 zV3 B3 Bx c3 iS
        go_upto_if 179 with fail
        go_cut [] (fun wx => Below w.heap.size w wx)
        case first =>
          as_aux_lemma =>
            cases b3
            · go_wp2_with fail
              go_meet
              exact BX
            · obtain ⟨U, hu0, hu1, hu2, hu3, hu4⟩ := hcl.out rfl
              have hu1 := hid hu1
              have hu2 := hid hu2
              have hu0 := hid hu0
              clear hcl
              go_wp2_with fail
              go_loopw [21, 22] (fun s i wr => ∃ k : Nat, k ≤ nq ∧ i = .int .i64 k ∧ s = .int .i64 (U k : Int) ∧ Below y4.heap.size y4 wr) (fun _ i _ => nq - (intOf i).toNat)
              case atStart => exact ⟨0, by omega, rfl, by rw [hu0.out]; rfl, Below.refl _ _⟩
              case round =>
                obtain ⟨k, hk, rfl, rfl, E0⟩ := hrel
                by_cases hlt : k < nq
                · obtain ⟨aoX, capX, he, _, _, hcl⟩ := rX.out
                  injection he with e1 e2 e3
                  obtain ⟨b8, o8, hb8, hlt8, hc8⟩ := hcl (by have := hnq.out; omega)
                  subst e1
                  subst hb8
                  clear e2 e3 hcl
                  obtain ⟨C, v1, v2, v3, v4, v5⟩ := hu2.out k hlt
                  have hi2 : k < Q.length := by rw [← hnq.out]; exact hlt
                  have hck := hc8 k hi2
                  rw [← getD_at hi2, v1] at hck
                  have hrk := hid fun w' (h : Below y4.heap.size y4 w') => (show w'.cell? ⟨b8, o8 + k, none⟩ = some (.int .i64 (C : Int)) from (h.cell (p := ⟨b8, o8 + k, none⟩) hlt8).trans hck)
                  have i1 := iI.out (C : Int) ⟨by omega, by omega⟩
                  rw [v4] at i1
                  replace i1 := hid i1
                  have hUk := hu1.out k
                  obtain ⟨Uk, hUe⟩ : ∃ x, x = U k := ⟨_, rfl⟩
                  obtain ⟨Um, hUm⟩ : ∃ x, x = U (k + 1) := ⟨_, rfl⟩
                  rw [← hUe] at v3 v5 ⊢
                  rw [← hUm] at v5
                  replace hUm := hid hUm
                  clear hUe hUk hck v1 v2 v4 hc8
                  have kk := hid fun w' (h : Below y4.heap.size y4 w') => And.intro (kX.out _ h) (hrk.out _ h)
                  obtain ⟨c1, c2⟩ := kk.out _ E0
                  go_wp2_with fail
                  as_aux_lemma =>
                    refine wp_region_held_drew (S := fun w' => w'.cell? ⟨w3.heap.size, 0, none⟩ = some (.slice ao3 g3.length cap3) ∧ w'.cell? ⟨b8, o8 + k, none⟩ = some (.int .i64 (C : Int))) (by kernel_rfl) ⟨c1, c2⟩ (fun hH0 => ?_)
                    refine wpAnyH_take (i := 0) (v := ?_) rfl (by kernel_rfl) (by kernel_rfl) (by kernel_rfl) (fun _ _ _ h => h) (Or.inl ⟨by first | kernel_rfl | rfl, ?_⟩) (by assumption) ?_
                    rotate_left
                    · (intro w hSw; (try dsimp only at hSw); go_simp; try with_reducible rfl)
                    simp only [List.getElem_toArray, List.getElem_cons_zero, List.getElem_cons_succ, Act.put, List.setIfInBounds_toArray, List.set_cons_zero, List.set_cons_succ]
                    refine wpAnyH_take (i := 1) (v := ?_) rfl (by kernel_rfl) (by kernel_rfl) (by kernel_rfl) (fun _ _ _ h => h) (Or.inl ⟨by first | kernel_rfl | rfl, ?_⟩) (by assumption) ?_
                    rotate_left
                    · (intro w hSw; (try dsimp only at hSw); go_simp; try with_reducible rfl)
                    simp only [List.getElem_toArray, List.getElem_cons_zero, List.getElem_cons_succ, Act.put, List.setIfInBounds_toArray, List.set_cons_zero, List.set_cons_succ]
                    refine wpAnyH_take (i := 2) (v := ?_) rfl (by kernel_rfl) (by kernel_rfl) (by kernel_rfl) (fun _ _ _ h => h) (Or.inl ⟨by first | kernel_rfl | rfl, ?_⟩) (by assumption) ?_
                    rotate_left
                    · (intro w hSw; (try dsimp only at hSw); go_simp; try with_reducible rfl)
                    simp only [List.getElem_toArray, List.getElem_cons_zero, List.getElem_cons_succ, Act.put, List.setIfInBounds_toArray, List.set_cons_zero, List.set_cons_succ]
                    refine wpAnyH_take (i := 3) (v := ?_) rfl (by kernel_rfl) (by kernel_rfl) (by kernel_rfl) (fun _ _ _ h => h) (Or.inl ⟨by first | kernel_rfl | rfl, ?_⟩) (by assumption) ?_
                    rotate_left
                    · (intro w hSw; (try dsimp only at hSw); go_simp; try with_reducible rfl)
                    simp only [List.getElem_toArray, List.getElem_cons_zero, List.getElem_cons_succ, Act.put, List.setIfInBounds_toArray, List.set_cons_zero, List.set_cons_succ]
                    refine wpAnyH_take (i := 4) (v := ?_) rfl (by kernel_rfl) (by kernel_rfl) (by kernel_rfl) (fun _ _ _ h => h) (Or.inl ⟨by first | kernel_rfl | rfl, ?_⟩) (by assumption) ?_
                    rotate_left
                    · (intro w hSw; (try dsimp only at hSw); go_simp; try with_reducible rfl)
                    simp only [List.getElem_toArray, List.getElem_cons_zero, List.getElem_cons_succ, Act.put, List.setIfInBounds_toArray, List.set_cons_zero, List.set_cons_succ]
                    refine wpAnyH_take (i := 5) (v := ?_) rfl (by kernel_rfl) (by kernel_rfl) (by kernel_rfl) (fun _ _ _ h => h) (Or.inl ⟨by first | kernel_rfl | rfl, ?_⟩) (by assumption) ?_
                    rotate_left
                    · (intro w hSw; (try dsimp only at hSw); go_simp; try with_reducible rfl)
                    simp only [List.getElem_toArray, List.getElem_cons_zero, List.getElem_cons_succ, Act.put, List.setIfInBounds_toArray, List.set_cons_zero, List.set_cons_succ]
                    refine wpAnyH_take (i := 6) (v := ?_) rfl (by kernel_rfl) (by kernel_rfl) (by kernel_rfl) (fun _ _ _ h => h) (Or.inl ⟨by first | kernel_rfl | rfl, ?_⟩) (by assumption) ?_
                    rotate_left
                    · (intro w hSw; (try dsimp only at hSw); go_simp; try with_reducible rfl)
                    simp only [List.getElem_toArray, List.getElem_cons_zero, List.getElem_cons_succ, Act.put, List.setIfInBounds_toArray, List.set_cons_zero, List.set_cons_succ]
                    refine wpAnyH_take (i := 7) (v := ?_) rfl (by kernel_rfl) (by kernel_rfl) (by kernel_rfl) (fun _ _ _ h => h) (Or.inl ⟨by first | kernel_rfl | rfl, ?_⟩) (by assumption) ?_
                    rotate_left
                    · (intro w hSw; (try dsimp only at hSw); go_simp; try with_reducible rfl)
                    simp only [List.getElem_toArray, List.getElem_cons_zero, List.getElem_cons_succ, Act.put, List.setIfInBounds_toArray, List.set_cons_zero, List.set_cons_succ]
                    refine wpAnyH_take (i := 8) (v := ?_) rfl (by kernel_rfl) (by kernel_rfl) (by kernel_rfl) (fun _ _ _ h => h) (Or.inl ⟨by first | kernel_rfl | rfl, ?_⟩) (by assumption) ?_
                    rotate_left
                    · (intro w hSw; (try dsimp only at hSw); go_simp; try with_reducible rfl)
                    simp only [List.getElem_toArray, List.getElem_cons_zero, List.getElem_cons_succ, Act.put, List.setIfInBounds_toArray, List.set_cons_zero, List.set_cons_succ]
                    refine wpAnyH_take (i := 9) (v := ?_) rfl (by kernel_rfl) (by kernel_rfl) (by kernel_rfl) (fun _ _ _ h => h) (Or.inl ⟨by first | kernel_rfl | rfl, ?_⟩) (by assumption) ?_
                    rotate_left
                    · (intro w hSw; (try dsimp only at hSw); go_simp; try with_reducible rfl)
                    simp only [List.getElem_toArray, List.getElem_cons_zero, List.getElem_cons_succ, Act.put, List.setIfInBounds_toArray, List.set_cons_zero, List.set_cons_succ]
                    refine wpAnyH_take (i := 10) (v := ?_) rfl (by kernel_rfl) (by kernel_rfl) (by kernel_rfl) (fun _ _ _ h => h) (Or.inl ⟨by first | kernel_rfl | rfl, ?_⟩) (by assumption) ?_
                    rotate_left
                    · (intro w hSw; (try dsimp only at hSw); go_simp; try with_reducible rfl)
                    simp only [List.getElem_toArray, List.getElem_cons_zero, List.getElem_cons_succ, Act.put, List.setIfInBounds_toArray, List.set_cons_zero, List.set_cons_succ]
                    refine wpAnyH_take (i := 11) (v := ?_) rfl (by kernel_rfl) (by kernel_rfl) (by kernel_rfl) (fun _ _ _ h => h) (Or.inl ⟨by first | kernel_rfl | rfl, ?_⟩) (by assumption) ?_
                    rotate_left
                    · (intro w hSw; (try dsimp only at hSw); go_simp; try with_reducible rfl)
                    simp only [List.getElem_toArray, List.getElem_cons_zero, List.getElem_cons_succ, Act.put, List.setIfInBounds_toArray, List.set_cons_zero, List.set_cons_succ]
                    refine wpAnyH_take (i := 12) (v := ?_) rfl (by kernel_rfl) (by kernel_rfl) (by kernel_rfl) (fun _ _ _ h => h) (Or.inl ⟨by first | kernel_rfl | rfl, ?_⟩) (by assumption) ?_
                    rotate_left
                    · (intro w hSw; (try dsimp only at hSw); go_simp; try with_reducible rfl)
                    simp only [List.getElem_toArray, List.getElem_cons_zero, List.getElem_cons_succ, Act.put, List.setIfInBounds_toArray, List.set_cons_zero, List.set_cons_succ]
                    refine wpAnyH_ready (rs := [13]) (by kernel_rfl) (by simp) ?_
                    refine AllReadyH.cons rfl (fun K13 hK13 => ?_) AllReadyH.nil
                    go_simp
                    go_at_call 36
                    refine (i1.out _ (gX.out _ E0.drew)).mono ?_
                    rintro e z6_1 ⟨rfl, hb6_1⟩
                    have D6_1 := bgo E0.drew hb6_1
                    go_wp2_with fail
                    refine hK13.out _ _ (kk.out _ D6_1) (fun hH13 => ?_)
                    refine wpAnyH_take (i := 14) (v := ?_) rfl (by kernel_rfl) (by kernel_rfl) (by kernel_rfl) (fun _ _ _ h => h) (Or.inl ⟨by first | kernel_rfl | rfl, ?_⟩) (by assumption) ?_
                    rotate_left
                    · (intro w hSw; (try dsimp only at hSw); go_simp; try with_reducible rfl)
                    simp only [List.getElem_toArray, List.getElem_cons_zero, List.getElem_cons_succ, Act.put, List.setIfInBounds_toArray, List.set_cons_zero, List.set_cons_succ]
                    refine wpAnyH_take (i := 15) (v := ?_) rfl (by kernel_rfl) (by kernel_rfl) (by kernel_rfl) (fun _ _ _ h => h) (Or.inl ⟨by first | kernel_rfl | rfl, ?_⟩) (by assumption) ?_
                    rotate_left
                    · (intro w hSw; (try dsimp only at hSw); go_simp; try with_reducible rfl)
                    simp only [List.getElem_toArray, List.getElem_cons_zero, List.getElem_cons_succ, Act.put, List.setIfInBounds_toArray, List.set_cons_zero, List.set_cons_succ]
                    refine wpAnyH_done (by kernel_rfl) ?_ _
                    have F0 := D6_1
                    have c9 := hrk.out _ F0
                    clear c1 c2 i1 v3
                    go_wp2
                    go_roundw
                    case rel => exact ⟨k + 1, by omega, by go_num, by rw [← hUm.out], F0⟩
                    case measure => simp [intOf]; omega
                · have hk0 : ¬ (k : Int) < (nq : Int) := by omega
                  have hkq : k = nq := by omega
                  subst hkq
                  rw [hu3]
                  have c1 := kX.out _ E0
                  clear hlt hu0 hu1 hu2 hu3 rX
                  go_wp2_with fail
                  as_aux_lemma =>
                    refine wp_region_held_drew (S := fun w' => w'.cell? ⟨w3.heap.size, 0, none⟩ = some (.slice ao3 g3.length cap3)) (by kernel_rfl) c1 (fun hH0 => ?_)
                    refine wpAnyH_take (i := 0) (v := ?_) rfl (by kernel_rfl) (by kernel_rfl) (by kernel_rfl) (fun _ _ _ h => h) (Or.inl ⟨by first | kernel_rfl | rfl, ?_⟩) (by assumption) ?_
                    rotate_left
                    · (intro w hSw; (try dsimp only at hSw); go_simp; try with_reducible rfl)
                    simp only [List.getElem_toArray, List.getElem_cons_zero, List.getElem_cons_succ, Act.put, List.setIfInBounds_toArray, List.set_cons_zero, List.set_cons_succ]
                    refine wpAnyH_take (i := 1) (v := ?_) rfl (by kernel_rfl) (by kernel_rfl) (by kernel_rfl) (fun _ _ _ h => h) (Or.inl ⟨by first | kernel_rfl | rfl, ?_⟩) (by assumption) ?_
                    rotate_left
                    · (intro w hSw; (try dsimp only at hSw); go_simp; try with_reducible rfl)
                    simp only [List.getElem_toArray, List.getElem_cons_zero, List.getElem_cons_succ, Act.put, List.setIfInBounds_toArray, List.set_cons_zero, List.set_cons_succ]
                    refine wpAnyH_ready (rs := [2]) (by kernel_rfl) (by simp) ?_
                    refine AllReadyH.cons rfl (fun K2 hK2 => ?_) AllReadyH.nil
                    go_simp
                    go_at_call 37
                    refine (iF.out _ (gX.out _ E0.drew)).mono ?_
                    rintro e z7_1 ⟨rfl, hb7_1⟩
                    have D7_1 := bgo E0.drew hb7_1
                    go_wp2_with fail
                    refine hK2.out _ _ (kX.out _ D7_1) (fun hH2 => ?_)
                    refine wpAnyH_take (i := 3) (v := ?_) rfl (by kernel_rfl) (by kernel_rfl) (by kernel_rfl) (fun _ _ _ h => h) (Or.inl ⟨by first | kernel_rfl | rfl, ?_⟩) (by assumption) ?_
                    rotate_left
                    · (intro w hSw; (try dsimp only at hSw); go_simp; try with_reducible rfl)
                    simp only [List.getElem_toArray, List.getElem_cons_zero, List.getElem_cons_succ, Act.put, List.setIfInBounds_toArray, List.set_cons_zero, List.set_cons_succ]
                    refine wpAnyH_take (i := 4) (v := ?_) rfl (by kernel_rfl) (by kernel_rfl) (by kernel_rfl) (fun _ _ _ h => h) (Or.inl ⟨by first | kernel_rfl | rfl, ?_⟩) (by assumption) ?_
                    rotate_left
                    · (intro w hSw; (try dsimp only at hSw); go_simp; try with_reducible rfl)
                    simp only [List.getElem_toArray, List.getElem_cons_zero, List.getElem_cons_succ, Act.put, List.setIfInBounds_toArray, List.set_cons_zero, List.set_cons_succ]
                    refine wpAnyH_take (i := 5) (v := ?_) rfl (by kernel_rfl) (by kernel_rfl) (by kernel_rfl) (fun _ _ _ h => h) (Or.inl ⟨by first | kernel_rfl | rfl, ?_⟩) (by assumption) ?_
                    rotate_left
                    · (intro w hSw; (try dsimp only at hSw); go_simp; try with_reducible rfl)
                    simp only [List.getElem_toArray, List.getElem_cons_zero, List.getElem_cons_succ, Act.put, List.setIfInBounds_toArray, List.set_cons_zero, List.set_cons_succ]
                    refine wpAnyH_take (i := 6) (v := ?_) rfl (by kernel_rfl) (by kernel_rfl) (by kernel_rfl) (fun _ _ _ h => h) (Or.inl ⟨by first | kernel_rfl | rfl, ?_⟩) (by assumption) ?_
                    rotate_left
                    · (intro w hSw; (try dsimp only at hSw); go_simp; try with_reducible rfl)
                    simp only [List.getElem_toArray, List.getElem_cons_zero, List.getElem_cons_succ, Act.put, List.setIfInBounds_toArray, List.set_cons_zero, List.set_cons_succ]
                    refine wpAnyH_take (i := 7) (v := ?_) rfl (by kernel_rfl) (by kernel_rfl) (by kernel_rfl) (fun _ _ _ h => h) (Or.inl ⟨by first | kernel_rfl | rfl, ?_⟩) (by assumption) ?_
                    rotate_left
                    · (intro w hSw; (try dsimp only at hSw); go_simp; try with_reducible rfl)
                    simp only [List.getElem_toArray, List.getElem_cons_zero, List.getElem_cons_succ, Act.put, List.setIfInBounds_toArray, List.set_cons_zero, List.set_cons_succ]
                    refine wpAnyH_take (i := 8) (v := ?_) rfl (by kernel_rfl) (by kernel_rfl) (by kernel_rfl) (fun _ _ _ h => h) (Or.inl ⟨by first | kernel_rfl | rfl, ?_⟩) (by assumption) ?_
                    rotate_left
                    · (intro w hSw; (try dsimp only at hSw); go_simp; try with_reducible rfl)
                    simp only [List.getElem_toArray, List.getElem_cons_zero, List.getElem_cons_succ, Act.put, List.setIfInBounds_toArray, List.set_cons_zero, List.set_cons_succ]
                    refine wpAnyH_take (i := 11) (v := ?_) rfl (by kernel_rfl) (by kernel_rfl) (by kernel_rfl) (fun _ _ _ h => h) (Or.inl ⟨by first | kernel_rfl | rfl, ?_⟩) (by assumption) ?_
                    rotate_left
                    · (intro w hSw; (try dsimp only at hSw); go_simp; try with_reducible rfl)
                    simp only [List.getElem_toArray, List.getElem_cons_zero, List.getElem_cons_succ, Act.put, List.setIfInBounds_toArray, List.set_cons_zero, List.set_cons_succ]
                    refine wpAnyH_ready (rs := [9]) (by kernel_rfl) (by simp) ?_
                    refine AllReadyH.cons rfl (fun K9 hK9 => ?_) AllReadyH.nil
                    go_simp
                    go_at_call 32
                    refine (sK.out _ (gX.out _ D7_1)).mono ?_
                    rintro e z7_2 ⟨rfl, hb7_2⟩
                    have D7_2 := bgo D7_1 hb7_2
                    go_wp2_with fail
                    refine hK9.out _ _ (kX.out _ D7_2) (fun hH9 => ?_)
                    refine wpAnyH_take (i := 10) (v := ?_) rfl (by kernel_rfl) (by kernel_rfl) (by kernel_rfl) (fun _ _ _ h => h) (Or.inl ⟨by first | kernel_rfl | rfl, ?_⟩) (by assumption) ?_
                    rotate_left
                    · (intro w hSw; (try dsimp only at hSw); go_simp; try with_reducible rfl)
                    simp only [List.getElem_toArray, List.getElem_cons_zero, List.getElem_cons_succ, Act.put, List.setIfInBounds_toArray, List.set_cons_zero, List.set_cons_succ]
                    refine wpAnyH_ready (rs := [12]) (by kernel_rfl) (by simp) ?_
                    refine AllReadyH.cons rfl (fun K12 hK12 => ?_) AllReadyH.nil
                    go_simp
                    go_at_call 31
                    refine (sR.out _ (gX.out _ D7_2)).mono ?_
                    rintro e z7_3 ⟨rfl, hb7_3⟩
                    have D7_3 := bgo D7_2 hb7_3
                    go_wp2_with fail
                    refine hK12.out _ _ (kX.out _ D7_3) (fun hH12 => ?_)
                    refine wpAnyH_take (i := 13) (v := ?_) rfl (by kernel_rfl) (by kernel_rfl) (by kernel_rfl) (fun _ _ _ h => h) (Or.inl ⟨by first | kernel_rfl | rfl, ?_⟩) (by assumption) ?_
                    rotate_left
                    · (intro w hSw; (try dsimp only at hSw); go_simp; try with_reducible rfl)
                    simp only [List.getElem_toArray, List.getElem_cons_zero, List.getElem_cons_succ, Act.put, List.setIfInBounds_toArray, List.set_cons_zero, List.set_cons_succ]
                    refine wpAnyH_take (i := 14) (v := ?_) rfl (by kernel_rfl) (by kernel_rfl) (by kernel_rfl) (fun _ _ _ h => h) (Or.inl ⟨by first | kernel_rfl | rfl, ?_⟩) (by assumption) ?_
                    rotate_left
                    · (intro w hSw; (try dsimp only at hSw); go_simp; try with_reducible rfl)
                    simp only [List.getElem_toArray, List.getElem_cons_zero, List.getElem_cons_succ, Act.put, List.setIfInBounds_toArray, List.set_cons_zero, List.set_cons_succ]
                    refine wpAnyH_done (by kernel_rfl) ?_ _
                    try simp only [hu4, bne_self_eq_false]
                    go_wp2_with fail
                    go_meet
                    exact bgo BX D7_3
        case rest =>
        as_aux_lemma =>
          clear iF sK sR iI hcl hQl hnq kX gX rX BX c4
          go_wp2_with fail
          refine (d4.out _ ((hr.below hcut).more hcut.size)).mono ?_
          rintro e w4 ⟨⟨u, g4, h, x, rfl, hg4, hh, hx⟩, hb4⟩
          obtain ⟨ao4, cap4, rfl⟩ := hg4.shape
          have A4 := bgo hcut hb4
          have hgl4 := hg4.len
          obtain ⟨V4, hV4⟩ : ∃ V, V = w4.alloc (.cells #[.slice ao4 g4.length cap4] 26) := ⟨_, rfl⟩
          have bV4 : Below w4.heap.size w4 V4 := hV4 ▸ below_alloc _ _
          have cV4 : V4.cell? ⟨w4.heap.size, 0, none⟩ = some (.slice ao4 g4.length cap4) := by rw [hV4]; simp [go_sem]
          have zV4 : w4.heap.size < V4.heap.size := by rw [hV4]; simp
          have kV4 := hid fun w' (h : Below V4.heap.size V4 w') => (h.cell (p := ⟨w4.heap.size, 0, none⟩) zV4).trans cV4
          have rV4 := hid fun w' (h : Below V4.heap.size V4 w') => (((hg4.below bV4).rd.below h).more h.size)
          have B4 : Below w.heap.size w V4 := A4.trans (bV4.mono A4.size)
          have iN := hid fun w hr => iCosetNumber_any (.slice ao4 g4.length cap4) g4 h x w hr hgl4 hh hx
          have sN := hid fun w hr => sCosetNumber_any (.slice ao4 g4.length cap4) g4 h x w hr hgl4 hh hx
          obtain ⟨N1, eN1⟩ : ∃ y, y = cnE g4 h x := ⟨_, rfl⟩
          rw [← eN1] at iN sN
          clear eN1 hg4 hh hx hb4 d4
          go_wp2_with fail
          rw [← hV4]
          clear hV4 bV4 A4
          refine (d5.out _ ((hr.below B4).more B4.size)).mono ?_
          rintro e w5 ⟨⟨u, g5, v, rfl, hg5, hv⟩, hb5⟩
          obtain ⟨ao5, cap5, rfl⟩ := hg5.shape
          have A5 := bgo B4 hb5
          have hgl5 := hg5.len
          obtain ⟨V5, hV5⟩ : ∃ V, V = w5.alloc (.cells #[.slice ao5 g5.length cap5] 26) := ⟨_, rfl⟩
          have bV5 : Below w5.heap.size w5 V5 := hV5 ▸ below_alloc _ _
          have cV5 : V5.cell? ⟨w5.heap.size, 0, none⟩ = some (.slice ao5 g5.length cap5) := by rw [hV5]; simp [go_sem]
          have zV5 : w5.heap.size < V5.heap.size := by rw [hV5]; simp
          have kV5 := hid fun w' (h : Below V5.heap.size V5 w') => (h.cell (p := ⟨w5.heap.size, 0, none⟩) zV5).trans cV5
          have rV5 := hid fun w' (h : Below V5.heap.size V5 w') => (((hg5.below bV5).rd.below h).more h.size)
          have B5 : Below w.heap.size w V5 := A5.trans (bV5.mono A5.size)
          have iI := hid fun w hr => iIsCoset_any (.slice ao5 g5.length cap5) g5 v w hr hgl5 hv
          have sI := hid fun w hr => sIsCoset_any (.slice ao5 g5.length cap5) g5 v w hr hgl5 hv
          obtain ⟨bi, ebi⟩ : ∃ x, x = icosE g5 v := ⟨_, rfl⟩
          rw [← ebi] at iI sI
          have W5 : Below V4.heap.size V4 V5 := hb5.trans (bV5.mono hb5.size)
          clear ebi hg5 hv hb5 d5
          go_wp2_with fail
          rw [← hV5]
          clear hV5 bV5 A5
          refine (d6.out _ ((hr.below B5).more B5.size)).mono ?_
          rintro e w6 ⟨⟨u, g6, s, rfl, hg6, hs⟩, hb6⟩
          obtain ⟨ao6, cap6, rfl⟩ := hg6.shape
          have A6 := bgo B5 hb6
          have hgl6 := hg6.len
          obtain ⟨V6, hV6⟩ : ∃ V, V = w6.alloc (.cells #[.slice ao6 g6.length cap6] 26) := ⟨_, rfl⟩
          have bV6 : Below w6.heap.size w6 V6 := hV6 ▸ below_alloc _ _
          have cV6 : V6.cell? ⟨w6.heap.size, 0, none⟩ = some (.slice ao6 g6.length cap6) := by rw [hV6]; simp [go_sem]
          have zV6 : w6.heap.size < V6.heap.size := by rw [hV6]; simp
          have kV6 := hid fun w' (h : Below V6.heap.size V6 w') => (h.cell (p := ⟨w6.heap.size, 0, none⟩) zV6).trans cV6
          have rV6 := hid fun w' (h : Below V6.heap.size V6 w') => (((hg6.below bV6).rd.below h).more h.size)
          have B6 : Below w.heap.size w V6 := A6.trans (bV6.mono A6.size)
          have iH := hid fun w hr => iAffineHull_any (.slice ao6 g6.length cap6) g6 s w hr hgl6 hs
          have sH := hid fun w hr => sAffineHull_any (.slice ao6 g6.length cap6) g6 s w hr hgl6 hs
          have iK := hid fun c (hc : I64 c) w hr => iIsCoset_any (.slice ao6 g6.length cap6) g6 c w hr hgl6 hc
          have hF := hull_law2 g6 s
          obtain ⟨H, eH⟩ : ∃ x, x = hulE g6 s := ⟨_, rfl⟩
          rw [← eH] at iH sH hF
          replace hF := hid hF
          have W6 : Below V5.heap.size V5 V6 := hb6.trans (bV6.mono hb6.size)
          have W46 := bgo W5 W6
          have hK := hid fun w' (h : Below V6.heap.size V6 w') => And.intro (kV4.out _ (bgo W46 h)) (And.intro (kV5.out _ (bgo W6 h)) (kV6.out _ h))
          have q4 := hid fun w' (h : Below V6.heap.size V6 w') => rV4.out _ (bgo W46 h)
          have q5 := hid fun w' (h : Below V6.heap.size V6 w') => rV5.out _ (bgo W6 h)
          clear eH hg6 hs hb6 d6 kV4 kV5 rV4 rV5 W5 W6 W46 B4 B5 zV4 zV5 cV4 cV5
          go_wp2_with fail
          rw [← hV6]
          clear hV6 bV6 A6
          refine (iH.out _ (rV6.out _ (Below.refl _ _))).mono ?_
          rintro e z1 ⟨rfl, D0⟩
          obtain ⟨c1, c2, c3⟩ := hK.out _ D0
          clear iH kV6 zV6 cV6
          rcases hF.out with h1 | ⟨h1, h2, h3, h5⟩
          · subst h1
            go_wp2_with fail
            as_aux_lemma =>
              refine wp_region_held_lit (S := fun w' => w'.cell? ⟨w4.heap.size, 0, none⟩ = some (.slice ao4 g4.length cap4) ∧ w'.cell? ⟨w5.heap.size, 0, none⟩ = some (.slice ao5 g5.length cap5) ∧ w'.cell? ⟨w6.heap.size, 0, none⟩ = some (.slice ao6 g6.length cap6)) #[false, false, false, false, false, false, false, false, false, false, false, false, false, false, false, false, false, false, false, false, false, false, false, false, false, false, false, false, false, false, false, false, false, false, false, false, false, false, false, false, false, false] (by kernel_rfl) (by kernel_rfl) ⟨c1, c2, c3⟩ (fun hH0 => ?_)
              refine wpAnyH_take (i := 0) (v := ?_) rfl (by as_aux_lemma => kernel_rfl) (by as_aux_lemma => kernel_rfl) (by as_aux_lemma => kernel_rfl) (fun _ _ _ h => h) (Or.inl ⟨by as_aux_lemma => first | kernel_rfl | rfl, ?_⟩) (by assumption) ?_
              rotate_left
              · (intro w hSw; (try dsimp only at hSw); go_simp; try with_reducible rfl)
              simp only [List.getElem_toArray, List.getElem_cons_zero, List.getElem_cons_succ, Act.put, List.setIfInBounds_toArray, List.set_cons_zero, List.set_cons_succ]
              refine wpAnyH_take (i := 1) (v := ?_) rfl (by as_aux_lemma => kernel_rfl) (by as_aux_lemma => kernel_rfl) (by as_aux_lemma => kernel_rfl) (fun _ _ _ h => h) (Or.inl ⟨by as_aux_lemma => first | kernel_rfl | rfl, ?_⟩) (by assumption) ?_
              rotate_left
              · (intro w hSw; (try dsimp only at hSw); go_simp; try with_reducible rfl)
              simp only [List.getElem_toArray, List.getElem_cons_zero, List.getElem_cons_succ, Act.put, List.setIfInBounds_toArray, List.set_cons_zero, List.set_cons_succ]
              refine wpAnyH_take (i := 2) (v := ?_) rfl (by as_aux_lemma => kernel_rfl) (by as_aux_lemma => kernel_rfl) (by as_aux_lemma => kernel_rfl) (fun _ _ _ h => h) (Or.inl ⟨by as_aux_lemma => first | kernel_rfl | rfl, ?_⟩) (by assumption) ?_
              rotate_left
              · (intro w hSw; (try dsimp only at hSw); go_simp; try with_reducible rfl)
              simp only [List.getElem_toArray, List.getElem_cons_zero, List.getElem_cons_succ, Act.put, List.setIfInBounds_toArray, List.set_cons_zero, List.set_cons_succ]
              refine wpAnyH_take (i := 4) (v := ?_) rfl (by as_aux_lemma => kernel_rfl) (by as_aux_lemma => kernel_rfl) (by as_aux_lemma => kernel_rfl) (fun _ _ _ h => h) (Or.inl ⟨by as_aux_lemma => first | kernel_rfl | rfl, ?_⟩) (by assumption) ?_
              rotate_left
              · (intro w hSw; (try dsimp only at hSw); go_simp; try with_reducible rfl)
              simp only [List.getElem_toArray, List.getElem_cons_zero, List.getElem_cons_succ, Act.put, List.setIfInBounds_toArray, List.set_cons_zero, List.set_cons_succ]
              refine wpAnyH_take (i := 5) (v := ?_) rfl (by as_aux_lemma => kernel_rfl) (by as_aux_lemma => kernel_rfl) (by as_aux_lemma => kernel_rfl) (fun _ _ _ h => h) (Or.inl ⟨by as_aux_lemma => first | kernel_rfl | rfl, ?_⟩) (by assumption) ?_
              rotate_left
              · (intro w hSw; (try dsimp only at hSw); go_simp; try with_reducible rfl)
              simp only [List.getElem_toArray, List.getElem_cons_zero, List.getElem_cons_succ, Act.put, List.setIfInBounds_toArray, List.set_cons_zero, List.set_cons_succ]
              refine wpAnyH_take (i := 6) (v := ?_) rfl (by as_aux_lemma => kernel_rfl) (by as_aux_lemma => kernel_rfl) (by as_aux_lemma => kernel_rfl) (fun _ _ _ h => h) (Or.inl ⟨by as_aux_lemma => first | kernel_rfl | rfl, ?_⟩) (by assumption) ?_
              rotate_left
              · (intro w hSw; (try dsimp only at hSw); go_simp; try with_reducible rfl)
              simp only [List.getElem_toArray, List.getElem_cons_zero, List.getElem_cons_succ, Act.put, List.setIfInBounds_toArray, List.set_cons_zero, List.set_cons_succ]
              refine wpAnyH_ready (rs := [3]) (by as_aux_lemma => kernel_rfl) (by simp) ?_
              refine AllReadyH.cons rfl (fun K3 hK3 => ?_) AllReadyH.nil
              go_simp
              go_at_call 42
              refine (iN.out _ (q4.out _ D0.drew)).mono ?_
              rintro e z8_1 ⟨rfl, hb8_1⟩
              have D8_1 := bgo D0.drew hb8_1
              go_wp2_with fail
              refine hK3.out _ _ (hK.out _ D8_1) (fun hH3 => ?_)
              refine wpAnyH_ready (rs := [7]) (by as_aux_lemma => kernel_rfl) (by simp) ?_
              refine AllReadyH.cons rfl (fun K7 hK7 => ?_) AllReadyH.nil
              go_simp
              go_at_call 43
              refine (sN.out _ (q4.out _ D8_1)).mono ?_
              rintro e z8_2 ⟨rfl, hb8_2⟩
              have D8_2 := bgo D8_1 hb8_2
              go_wp2_with fail
              refine hK7.out _ _ (hK.out _ D8_2) (fun hH7 => ?_)
              refine wpAnyH_take (i := 8) (v := ?_) rfl (by as_aux_lemma => kernel_rfl) (by as_aux_lemma => kernel_rfl) (by as_aux_lemma => kernel_rfl) (fun _ _ _ h => h) (Or.inl ⟨by as_aux_lemma => first | kernel_rfl | rfl, ?_⟩) (by assumption) ?_
              rotate_left
              · (intro w hSw; (try dsimp only at hSw); go_simp; try with_reducible rfl)
              simp only [List.getElem_toArray, List.getElem_cons_zero, List.getElem_cons_succ, Act.put, List.setIfInBounds_toArray, List.set_cons_zero, List.set_cons_succ]
              refine wpAnyH_take (i := 9) (v := ?_) rfl (by as_aux_lemma => kernel_rfl) (by as_aux_lemma => kernel_rfl) (by as_aux_lemma => kernel_rfl) (fun _ _ _ h => h) (Or.inl ⟨by as_aux_lemma => first | kernel_rfl | rfl, ?_⟩) (by assumption) ?_
              rotate_left
              · (intro w hSw; (try dsimp only at hSw); go_simp; try with_reducible rfl)
              simp only [List.getElem_toArray, List.getElem_cons_zero, List.getElem_cons_succ, Act.put, List.setIfInBounds_toArray, List.set_cons_zero, List.set_cons_succ]
              refine wpAnyH_take (i := 10) (v := ?_) rfl (by as_aux_lemma => kernel_rfl) (by as_aux_lemma => kernel_rfl) (by as_aux_lemma => kernel_rfl) (fun _ _ _ h => h) (Or.inl ⟨by as_aux_lemma => first | kernel_rfl | rfl, ?_⟩) (by assumption) ?_
              rotate_left
              · (intro w hSw; (try dsimp only at hSw); go_simp; try with_reducible rfl)
              simp only [List.getElem_toArray, List.getElem_cons_zero, List.getElem_cons_succ, Act.put, List.setIfInBounds_toArray, List.set_cons_zero, List.set_cons_succ]
              refine wpAnyH_take (i := 11) (v := ?_) rfl (by as_aux_lemma => kernel_rfl) (by as_aux_lemma => kernel_rfl) (by as_aux_lemma => kernel_rfl) (fun _ _ _ h => h) (Or.inl ⟨by as_aux_lemma => first | kernel_rfl | rfl, ?_⟩) (by assumption) ?_
              rotate_left
              · (intro w hSw; (try dsimp only at hSw); go_simp; try with_reducible rfl)
              simp only [List.getElem_toArray, List.getElem_cons_zero, List.getElem_cons_succ, Act.put, List.setIfInBounds_toArray, List.set_cons_zero, List.set_cons_succ]
              refine wpAnyH_take (i := 13) (v := ?_) rfl (by as_aux_lemma => kernel_rfl) (by as_aux_lemma => kernel_rfl) (by as_aux_lemma => kernel_rfl) (fun _ _ _ h => h) (Or.inl ⟨by as_aux_lemma => first | kernel_rfl | rfl, ?_⟩) (by assumption) ?_
              rotate_left
              · (intro w hSw; (try dsimp only at hSw); go_simp; try with_reducible rfl)
              simp only [List.getElem_toArray, List.getElem_cons_zero, List.getElem_cons_succ, Act.put, List.setIfInBounds_toArray, List.set_cons_zero, List.set_cons_succ]
              refine wpAnyH_take (i := 14) (v := ?_) rfl (by as_aux_lemma => kernel_rfl) (by as_aux_lemma => kernel_rfl) (by as_aux_lemma => kernel_rfl) (fun _ _ _ h => h) (Or.inl ⟨by as_aux_lemma => first | kernel_rfl | rfl, ?_⟩) (by assumption) ?_
              rotate_left
              · (intro w hSw; (try dsimp only at hSw); go_simp; try with_reducible rfl)
              simp only [List.getElem_toArray, List.getElem_cons_zero, List.getElem_cons_succ, Act.put, List.setIfInBounds_toArray, List.set_cons_zero, List.set_cons_succ]
              refine wpAnyH_ready (rs := [12]) (by as_aux_lemma => kernel_rfl) (by simp) ?_
              refine AllReadyH.cons rfl (fun K12 hK12 => ?_) AllReadyH.nil
              go_simp
              go_at_call 36
              refine (iI.out _ (q5.out _ D8_2)).mono ?_
              rintro e z8_3 ⟨rfl, hb8_3⟩
              have D8_3 := bgo D8_2 hb8_3
              go_wp2_with fail
              refine hK12.out _ _ (hK.out _ D8_3) (fun hH12 => ?_)
              refine wpAnyH_ready (rs := [15]) (by as_aux_lemma => kernel_rfl) (by simp) ?_
              refine AllReadyH.cons rfl (fun K15 hK15 => ?_) AllReadyH.nil
              go_simp
              go_at_call 44
              refine (sI.out _ (q5.out _ D8_3)).mono ?_
              rintro e z8_4 ⟨rfl, hb8_4⟩
              have D8_4 := bgo D8_3 hb8_4
              go_wp2_with fail
              refine hK15.out _ _ (hK.out _ D8_4) (fun hH15 => ?_)
              refine wpAnyH_take (i := 16) (v := ?_) rfl (by as_aux_lemma => kernel_rfl) (by as_aux_lemma => kernel_rfl) (by as_aux_lemma => kernel_rfl) (fun _ _ _ h => h) (Or.inl ⟨by as_aux_lemma => first | kernel_rfl | rfl, ?_⟩) (by assumption) ?_
              rotate_left
              · (intro w hSw; (try dsimp only at hSw); go_simp; try with_reducible rfl)
              simp only [List.getElem_toArray, List.getElem_cons_zero, List.getElem_cons_succ, Act.put, List.setIfInBounds_toArray, List.set_cons_zero, List.set_cons_succ]
              refine wpAnyH_take (i := 17) (v := ?_) rfl (by as_aux_lemma => kernel_rfl) (by as_aux_lemma => kernel_rfl) (by as_aux_lemma => kernel_rfl) (fun _ _ _ h => h) (Or.inl ⟨by as_aux_lemma => first | kernel_rfl | rfl, ?_⟩) (by assumption) ?_
              rotate_left
              · (intro w hSw; (try dsimp only at hSw); go_simp; try with_reducible rfl)
              simp only [List.getElem_toArray, List.getElem_cons_zero, List.getElem_cons_succ, Act.put, List.setIfInBounds_toArray, List.set_cons_zero, List.set_cons_succ]
              refine wpAnyH_take (i := 18) (v := ?_) rfl (by as_aux_lemma => kernel_rfl) (by as_aux_lemma => kernel_rfl) (by as_aux_lemma => kernel_rfl) (fun _ _ _ h => h) (Or.inl ⟨by as_aux_lemma => first | kernel_rfl | rfl, ?_⟩) (by assumption) ?_
              rotate_left
              · (intro w hSw; (try dsimp only at hSw); go_simp; try with_reducible rfl)
              simp only [List.getElem_toArray, List.getElem_cons_zero, List.getElem_cons_succ, Act.put, List.setIfInBounds_toArray, List.set_cons_zero, List.set_cons_succ]
              refine wpAnyH_take (i := 19) (v := ?_) rfl (by as_aux_lemma => kernel_rfl) (by as_aux_lemma => kernel_rfl) (by as_aux_lemma => kernel_rfl) (fun _ _ _ h => h) (Or.inl ⟨by as_aux_lemma => first | kernel_rfl | rfl, ?_⟩) (by assumption) ?_
              rotate_left
              · (intro w hSw; (try dsimp only at hSw); go_simp; try with_reducible rfl)
              simp only [List.getElem_toArray, List.getElem_cons_zero, List.getElem_cons_succ, Act.put, List.setIfInBounds_toArray, List.set_cons_zero, List.set_cons_succ]
              refine wpAnyH_take (i := 20) (v := ?_) rfl (by as_aux_lemma => kernel_rfl) (by as_aux_lemma => kernel_rfl) (by as_aux_lemma => kernel_rfl) (fun _ _ _ h => h) (Or.inl ⟨by as_aux_lemma => first | kernel_rfl | rfl, ?_⟩) (by assumption) ?_
              rotate_left
              · (intro w hSw; (try dsimp only at hSw); go_simp; try with_reducible rfl)
              simp only [List.getElem_toArray, List.getElem_cons_zero, List.getElem_cons_succ, Act.put, List.setIfInBounds_toArray, List.set_cons_zero, List.set_cons_succ]
              refine wpAnyH_take (i := 21) (v := ?_) rfl (by as_aux_lemma => kernel_rfl) (by as_aux_lemma => kernel_rfl) (by as_aux_lemma => kernel_rfl) (fun _ _ _ h => h) (Or.inl ⟨by as_aux_lemma => first | kernel_rfl | rfl, ?_⟩) (by assumption) ?_
              rotate_left
              · (intro w hSw; (try dsimp only at hSw); go_simp; try with_reducible rfl)
              simp only [List.getElem_toArray, List.getElem_cons_zero, List.getElem_cons_succ, Act.put, List.setIfInBounds_toArray, List.set_cons_zero, List.set_cons_succ]
              refine wpAnyH_ready (rs := [22]) (by as_aux_lemma => kernel_rfl) (by simp) ?_
              refine AllReadyH.cons rfl (fun K22 hK22 => ?_) AllReadyH.nil
              go_simp
              go_at_call 45
              refine (sH.out _ (rV6.out _ D8_4)).mono ?_
              rintro e z8_5 ⟨rfl, hb8_5⟩
              have D8_5 := bgo D8_4 hb8_5
              go_wp2_with fail
              refine hK22.out _ _ (hK.out _ D8_5) (fun hH22 => ?_)
              refine wpAnyH_take (i := 23) (v := ?_) rfl (by as_aux_lemma => kernel_rfl) (by as_aux_lemma => kernel_rfl) (by as_aux_lemma => kernel_rfl) (fun _ _ _ h => h) (Or.inl ⟨by as_aux_lemma => first | kernel_rfl | rfl, ?_⟩) (by assumption) ?_
              rotate_left
              · (intro w hSw; (try dsimp only at hSw); go_simp; try with_reducible rfl)
              simp only [List.getElem_toArray, List.getElem_cons_zero, List.getElem_cons_succ, Act.put, List.setIfInBounds_toArray, List.set_cons_zero, List.set_cons_succ]
              refine wpAnyH_take (i := 24) (v := ?_) rfl (by as_aux_lemma => kernel_rfl) (by as_aux_lemma => kernel_rfl) (by as_aux_lemma => kernel_rfl) (fun _ _ _ h => h) (Or.inl ⟨by as_aux_lemma => first | kernel_rfl | rfl, ?_⟩) (by assumption) ?_
              rotate_left
              · (intro w hSw; (try dsimp only at hSw); go_simp; try with_reducible rfl)
              simp only [List.getElem_toArray, List.getElem_cons_zero, List.getElem_cons_succ, Act.put, List.setIfInBounds_toArray, List.set_cons_zero, List.set_cons_succ]
              refine wpAnyH_take (i := 25) (v := ?_) rfl (by as_aux_lemma => kernel_rfl) (by as_aux_lemma => kernel_rfl) (by as_aux_lemma => kernel_rfl) (fun _ _ _ h => h) (Or.inl ⟨by as_aux_lemma => first | kernel_rfl | rfl, ?_⟩) (by assumption) ?_
              rotate_left
              · (intro w hSw; (try dsimp only at hSw); go_simp; try with_reducible rfl)
              simp only [List.getElem_toArray, List.getElem_cons_zero, List.getElem_cons_succ, Act.put, List.setIfInBounds_toArray, List.set_cons_zero, List.set_cons_succ]
              refine wpAnyH_take (i := 26) (v := ?_) rfl (by as_aux_lemma => kernel_rfl) (by as_aux_lemma => kernel_rfl) (by as_aux_lemma => kernel_rfl) (fun _ _ _ h => h) (Or.inl ⟨by as_aux_lemma => first | kernel_rfl | rfl, ?_⟩) (by assumption) ?_
              rotate_left
              · (intro w hSw; (try dsimp only at hSw); go_simp; try with_reducible rfl)
              simp only [List.getElem_toArray, List.getElem_cons_zero, List.getElem_cons_succ, Act.put, List.setIfInBounds_toArray, List.set_cons_zero, List.set_cons_succ]
              refine wpAnyH_take (i := 27) (v := ?_) rfl (by as_aux_lemma => kernel_rfl) (by as_aux_lemma => kernel_rfl) (by as_aux_lemma => kernel_rfl) (fun _ _ _ h => h) (Or.inl ⟨by as_aux_lemma => first | kernel_rfl | rfl, ?_⟩) (by assumption) ?_
              rotate_left
              · (intro w hSw; (try dsimp only at hSw); go_simp; try with_reducible rfl)
              simp only [List.getElem_toArray, List.getElem_cons_zero, List.getElem_cons_succ, Act.put, List.setIfInBounds_toArray, List.set_cons_zero, List.set_cons_succ]
              refine wpAnyH_take (i := 28) (v := ?_) rfl (by as_aux_lemma => kernel_rfl) (by as_aux_lemma => kernel_rfl) (by as_aux_lemma => kernel_rfl) (fun _ _ _ h => h) (Or.inl ⟨by as_aux_lemma => first | kernel_rfl | rfl, ?_⟩) (by assumption) ?_
              rotate_left
              · (intro w hSw; (try dsimp only at hSw); go_simp; try with_reducible rfl)
              simp only [List.getElem_toArray, List.getElem_cons_zero, List.getElem_cons_succ, Act.put, List.setIfInBounds_toArray, List.set_cons_zero, List.set_cons_succ]
              refine wpAnyH_take (i := 29) (v := undef) rfl (by as_aux_lemma => kernel_rfl) (by as_aux_lemma => kernel_rfl) (by as_aux_lemma => kernel_rfl) (fun _ _ _ h => h) (Or.inr ⟨by as_aux_lemma => first | kernel_rfl | rfl, rfl⟩) (by assumption) ?_
              simp only [List.getElem_toArray, List.getElem_cons_zero, List.getElem_cons_succ, Act.put, List.setIfInBounds_toArray, List.set_cons_zero, List.set_cons_succ]
              refine wpAnyH_take (i := 30) (v := undef) rfl (by as_aux_lemma => kernel_rfl) (by as_aux_lemma => kernel_rfl) (by as_aux_lemma => kernel_rfl) (fun _ _ _ h => h) (Or.inr ⟨by as_aux_lemma => first | kernel_rfl | rfl, rfl⟩) (by assumption) ?_
              simp only [List.getElem_toArray, List.getElem_cons_zero, List.getElem_cons_succ, Act.put, List.setIfInBounds_toArray, List.set_cons_zero, List.set_cons_succ]
              refine wpAnyH_take (i := 31) (v := undef) rfl (by as_aux_lemma => kernel_rfl) (by as_aux_lemma => kernel_rfl) (by as_aux_lemma => kernel_rfl) (fun _ _ _ h => h) (Or.inr ⟨by as_aux_lemma => first | kernel_rfl | rfl, rfl⟩) (by assumption) ?_
              simp only [List.getElem_toArray, List.getElem_cons_zero, List.getElem_cons_succ, Act.put, List.setIfInBounds_toArray, List.set_cons_zero, List.set_cons_succ]
              refine wpAnyH_take (i := 32) (v := undef) rfl (by as_aux_lemma => kernel_rfl) (by as_aux_lemma => kernel_rfl) (by as_aux_lemma => kernel_rfl) (fun _ _ _ h => h) (Or.inr ⟨by as_aux_lemma => first | kernel_rfl | rfl, rfl⟩) (by assumption) ?_
              simp only [List.getElem_toArray, List.getElem_cons_zero, List.getElem_cons_succ, Act.put, List.setIfInBounds_toArray, List.set_cons_zero, List.set_cons_succ]
              refine wpAnyH_take (i := 33) (v := undef) rfl (by as_aux_lemma => kernel_rfl) (by as_aux_lemma => kernel_rfl) (by as_aux_lemma => kernel_rfl) (fun _ _ _ h => h) (Or.inr ⟨by as_aux_lemma => first | kernel_rfl | rfl, rfl⟩) (by assumption) ?_
              simp only [List.getElem_toArray, List.getElem_cons_zero, List.getElem_cons_succ, Act.put, List.setIfInBounds_toArray, List.set_cons_zero, List.set_cons_succ]
              refine wpAnyH_take (i := 34) (v := undef) rfl (by as_aux_lemma => kernel_rfl) (by as_aux_lemma => kernel_rfl) (by as_aux_lemma => kernel_rfl) (fun _ _ _ h => h) (Or.inr ⟨by as_aux_lemma => first | kernel_rfl | rfl, rfl⟩) (by assumption) ?_
              simp only [List.getElem_toArray, List.getElem_cons_zero, List.getElem_cons_succ, Act.put, List.setIfInBounds_toArray, List.set_cons_zero, List.set_cons_succ]
              refine wpAnyH_take (i := 35) (v := undef) rfl (by as_aux_lemma => kernel_rfl) (by as_aux_lemma => kernel_rfl) (by as_aux_lemma => kernel_rfl) (fun _ _ _ h => h) (Or.inr ⟨by as_aux_lemma => first | kernel_rfl | rfl, rfl⟩) (by assumption) ?_
              simp only [List.getElem_toArray, List.getElem_cons_zero, List.getElem_cons_succ, Act.put, List.setIfInBounds_toArray, List.set_cons_zero, List.set_cons_succ]
              refine wpAnyH_take (i := 36) (v := undef) rfl (by as_aux_lemma => kernel_rfl) (by as_aux_lemma => kernel_rfl) (by as_aux_lemma => kernel_rfl) (fun _ _ _ h => h) (Or.inr ⟨by as_aux_lemma => first | kernel_rfl | rfl, rfl⟩) (by assumption) ?_
              simp only [List.getElem_toArray, List.getElem_cons_zero, List.getElem_cons_succ, Act.put, List.setIfInBounds_toArray, List.set_cons_zero, List.set_cons_succ]
              refine wpAnyH_take (i := 37) (v := undef) rfl (by as_aux_lemma => kernel_rfl) (by as_aux_lemma => kernel_rfl) (by as_aux_lemma => kernel_rfl) (fun _ _ _ h => h) (Or.inr ⟨by as_aux_lemma => first | kernel_rfl | rfl, rfl⟩) (by assumption) ?_
              simp only [List.getElem_toArray, List.getElem_cons_zero, List.getElem_cons_succ, Act.put, List.setIfInBounds_toArray, List.set_cons_zero, List.set_cons_succ]
              refine wpAnyH_take (i := 38) (v := undef) rfl (by as_aux_lemma => kernel_rfl) (by as_aux_lemma => kernel_rfl) (by as_aux_lemma => kernel_rfl) (fun _ _ _ h => h) (Or.inr ⟨by as_aux_lemma => first | kernel_rfl | rfl, rfl⟩) (by assumption) ?_
              simp only [List.getElem_toArray, List.getElem_cons_zero, List.getElem_cons_succ, Act.put, List.setIfInBounds_toArray, List.set_cons_zero, List.set_cons_succ]
              refine wpAnyH_take (i := 39) (v := ?_) rfl (by as_aux_lemma => kernel_rfl) (by as_aux_lemma => kernel_rfl) (by as_aux_lemma => kernel_rfl) (fun _ _ _ h => h) (Or.inl ⟨by as_aux_lemma => first | kernel_rfl | rfl, ?_⟩) (by assumption) ?_
              rotate_left
              · (intro w hSw; (try dsimp only at hSw); go_simp; try with_reducible rfl)
              simp only [List.getElem_toArray, List.getElem_cons_zero, List.getElem_cons_succ, Act.put, List.setIfInBounds_toArray, List.set_cons_zero, List.set_cons_succ]
              refine wpAnyH_take (i := 40) (v := ?_) rfl (by as_aux_lemma => kernel_rfl) (by as_aux_lemma => kernel_rfl) (by as_aux_lemma => kernel_rfl) (fun _ _ _ h => h) (Or.inl ⟨by as_aux_lemma => first | kernel_rfl | rfl, ?_⟩) (by assumption) ?_
              rotate_left
              · (intro w hSw; (try dsimp only at hSw); go_simp; try with_reducible rfl)
              simp only [List.getElem_toArray, List.getElem_cons_zero, List.getElem_cons_succ, Act.put, List.setIfInBounds_toArray, List.set_cons_zero, List.set_cons_succ]
              refine wpAnyH_take (i := 41) (v := ?_) rfl (by as_aux_lemma => kernel_rfl) (by as_aux_lemma => kernel_rfl) (by as_aux_lemma => kernel_rfl) (fun _ _ _ h => h) (Or.inl ⟨by as_aux_lemma => first | kernel_rfl | rfl, ?_⟩) (by assumption) ?_
              rotate_left
              · (intro w hSw; (try dsimp only at hSw); go_simp; try with_reducible rfl)
              simp only [List.getElem_toArray, List.getElem_cons_zero, List.getElem_cons_succ, Act.put, List.setIfInBounds_toArray, List.set_cons_zero, List.set_cons_succ]
              refine wpAnyH_done (by as_aux_lemma => kernel_rfl) ?_ _
              go_wp2
              go_ret
              exact ⟨rfl, bgo B6 D8_5⟩
          · have h6 : decide (H < 0) = false := decide_eq_false (by omega)
            have i1 := iK.out H h5
            rw [h2] at i1
            replace i1 := hid i1
            clear h2 h5
            go_wp2_with fail
            as_aux_lemma =>
              refine wp_region_held_lit (S := fun w' => w'.cell? ⟨w4.heap.size, 0, none⟩ = some (.slice ao4 g4.length cap4) ∧ w'.cell? ⟨w5.heap.size, 0, none⟩ = some (.slice ao5 g5.length cap5) ∧ w'.cell? ⟨w6.heap.size, 0, none⟩ = some (.slice ao6 g6.length cap6)) #[false, false, false, false, false, false, false, false, false, false, false, false, false, false, false, false, false, false, false, false, false, false, false, false, false, false, false, false, false, false, false, false, false, false, false, false, false, false, false, false, false, false] (by kernel_rfl) (by kernel_rfl) ⟨c1, c2, c3⟩ (fun hH0 => ?_)
              refine wpAnyH_take (i := 0) (v := ?_) rfl (by as_aux_lemma => kernel_rfl) (by as_aux_lemma => kernel_rfl) (by as_aux_lemma => kernel_rfl) (fun _ _ _ h => h) (Or.inl ⟨by as_aux_lemma => first | kernel_rfl | rfl, ?_⟩) (by assumption) ?_
              rotate_left
              · (intro w hSw; (try dsimp only at hSw); go_simp; try with_reducible rfl)
              simp only [List.getElem_toArray, List.getElem_cons_zero, List.getElem_cons_succ, Act.put, List.setIfInBounds_toArray, List.set_cons_zero, List.set_cons_succ]
              refine wpAnyH_take (i := 1) (v := ?_) rfl (by as_aux_lemma => kernel_rfl) (by as_aux_lemma => kernel_rfl) (by as_aux_lemma => kernel_rfl) (fun _ _ _ h => h) (Or.inl ⟨by as_aux_lemma => first | kernel_rfl | rfl, ?_⟩) (by assumption) ?_
              rotate_left
              · (intro w hSw; (try dsimp only at hSw); go_simp; try with_reducible rfl)
              simp only [List.getElem_toArray, List.getElem_cons_zero, List.getElem_cons_succ, Act.put, List.setIfInBounds_toArray, List.set_cons_zero, List.set_cons_succ]
              refine wpAnyH_take (i := 2) (v := ?_) rfl (by as_aux_lemma => kernel_rfl) (by as_aux_lemma => kernel_rfl) (by as_aux_lemma => kernel_rfl) (fun _ _ _ h => h) (Or.inl ⟨by as_aux_lemma => first | kernel_rfl | rfl, ?_⟩) (by assumption) ?_
              rotate_left
              · (intro w hSw; (try dsimp only at hSw); go_simp; try with_reducible rfl)
              simp only [List.getElem_toArray, List.getElem_cons_zero, List.getElem_cons_succ, Act.put, List.setIfInBounds_toArray, List.set_cons_zero, List.set_cons_succ]
              refine wpAnyH_take (i := 4) (v := ?_) rfl (by as_aux_lemma => kernel_rfl) (by as_aux_lemma => kernel_rfl) (by as_aux_lemma => kernel_rfl) (fun _ _ _ h => h) (Or.inl ⟨by as_aux_lemma => first | kernel_rfl | rfl, ?_⟩) (by assumption) ?_
              rotate_left
              · (intro w hSw; (try dsimp only at hSw); go_simp; try with_reducible rfl)
              simp only [List.getElem_toArray, List.getElem_cons_zero, List.getElem_cons_succ, Act.put, List.setIfInBounds_toArray, List.set_cons_zero, List.set_cons_succ]
              refine wpAnyH_take (i := 5) (v := ?_) rfl (by as_aux_lemma => kernel_rfl) (by as_aux_lemma => kernel_rfl) (by as_aux_lemma => kernel_rfl) (fun _ _ _ h => h) (Or.inl ⟨by as_aux_lemma => first | kernel_rfl | rfl, ?_⟩) (by assumption) ?_
              rotate_left
              · (intro w hSw; (try dsimp only at hSw); go_simp; try with_reducible rfl)
              simp only [List.getElem_toArray, List.getElem_cons_zero, List.getElem_cons_succ, Act.put, List.setIfInBounds_toArray, List.set_cons_zero, List.set_cons_succ]
              refine wpAnyH_take (i := 6) (v := ?_) rfl (by as_aux_lemma => kernel_rfl) (by as_aux_lemma => kernel_rfl) (by as_aux_lemma => kernel_rfl) (fun _ _ _ h => h) (Or.inl ⟨by as_aux_lemma => first | kernel_rfl | rfl, ?_⟩) (by assumption) ?_
              rotate_left
              · (intro w hSw; (try dsimp only at hSw); go_simp; try with_reducible rfl)
              simp only [List.getElem_toArray, List.getElem_cons_zero, List.getElem_cons_succ, Act.put, List.setIfInBounds_toArray, List.set_cons_zero, List.set_cons_succ]
              refine wpAnyH_ready (rs := [3]) (by as_aux_lemma => kernel_rfl) (by simp) ?_
              refine AllReadyH.cons rfl (fun K3 hK3 => ?_) AllReadyH.nil
              go_simp
              go_at_call 42
              refine (iN.out _ (q4.out _ D0.drew)).mono ?_
              rintro e z9_1 ⟨rfl, hb9_1⟩
              have D9_1 := bgo D0.drew hb9_1
              go_wp2_with fail
              refine hK3.out _ _ (hK.out _ D9_1) (fun hH3 => ?_)
              refine wpAnyH_ready (rs := [7]) (by as_aux_lemma => kernel_rfl) (by simp) ?_
              refine AllReadyH.cons rfl (fun K7 hK7 => ?_) AllReadyH.nil
              go_simp
              go_at_call 43
              refine (sN.out _ (q4.out _ D9_1)).mono ?_
              rintro e z9_2 ⟨rfl, hb9_2⟩
              have D9_2 := bgo D9_1 hb9_2
              go_wp2_with fail
              refine hK7.out _ _ (hK.out _ D9_2) (fun hH7 => ?_)
              refine wpAnyH_take (i := 8) (v := ?_) rfl (by as_aux_lemma => kernel_rfl) (by as_aux_lemma => kernel_rfl) (by as_aux_lemma => kernel_rfl) (fun _ _ _ h => h) (Or.inl ⟨by as_aux_lemma => first | kernel_rfl | rfl, ?_⟩) (by assumption) ?_
              rotate_left
              · (intro w hSw; (try dsimp only at hSw); go_simp; try with_reducible rfl)
              simp only [List.getElem_toArray, List.getElem_cons_zero, List.getElem_cons_succ, Act.put, List.setIfInBounds_toArray, List.set_cons_zero, List.set_cons_succ]
              refine wpAnyH_take (i := 9) (v := ?_) rfl (by as_aux_lemma => kernel_rfl) (by as_aux_lemma => kernel_rfl) (by as_aux_lemma => kernel_rfl) (fun _ _ _ h => h) (Or.inl ⟨by as_aux_lemma => first | kernel_rfl | rfl, ?_⟩) (by assumption) ?_
              rotate_left
              · (intro w hSw; (try dsimp only at hSw); go_simp; try with_reducible rfl)
              simp only [List.getElem_toArray, List.getElem_cons_zero, List.getElem_cons_succ, Act.put, List.setIfInBounds_toArray, List.set_cons_zero, List.set_cons_succ]
              refine wpAnyH_take (i := 10) (v := ?_) rfl (by as_aux_lemma => kernel_rfl) (by as_aux_lemma => kernel_rfl) (by as_aux_lemma => kernel_rfl) (fun _ _ _ h => h) (Or.inl ⟨by as_aux_lemma => first | kernel_rfl | rfl, ?_⟩) (by assumption) ?_
              rotate_left
              · (intro w hSw; (try dsimp only at hSw); go_simp; try with_reducible rfl)
              simp only [List.getElem_toArray, List.getElem_cons_zero, List.getElem_cons_succ, Act.put, List.setIfInBounds_toArray, List.set_cons_zero, List.set_cons_succ]
              refine wpAnyH_take (i := 11) (v := ?_) rfl (by as_aux_lemma => kernel_rfl) (by as_aux_lemma => kernel_rfl) (by as_aux_lemma => kernel_rfl) (fun _ _ _ h => h) (Or.inl ⟨by as_aux_lemma => first | kernel_rfl | rfl, ?_⟩) (by assumption) ?_
              rotate_left
              · (intro w hSw; (try dsimp only at hSw); go_simp; try with_reducible rfl)
              simp only [List.getElem_toArray, List.getElem_cons_zero, List.getElem_cons_succ, Act.put, List.setIfInBounds_toArray, List.set_cons_zero, List.set_cons_succ]
              refine wpAnyH_take (i := 13) (v := ?_) rfl (by as_aux_lemma => kernel_rfl) (by as_aux_lemma => kernel_rfl) (by as_aux_lemma => kernel_rfl) (fun _ _ _ h => h) (Or.inl ⟨by as_aux_lemma => first | kernel_rfl | rfl, ?_⟩) (by assumption) ?_
              rotate_left
              · (intro w hSw; (try dsimp only at hSw); go_simp; try with_reducible rfl)
              simp only [List.getElem_toArray, List.getElem_cons_zero, List.getElem_cons_succ, Act.put, List.setIfInBounds_toArray, List.set_cons_zero, List.set_cons_succ]
              refine wpAnyH_take (i := 14) (v := ?_) rfl (by as_aux_lemma => kernel_rfl) (by as_aux_lemma => kernel_rfl) (by as_aux_lemma => kernel_rfl) (fun _ _ _ h => h) (Or.inl ⟨by as_aux_lemma => first | kernel_rfl | rfl, ?_⟩) (by assumption) ?_
              rotate_left
              · (intro w hSw; (try dsimp only at hSw); go_simp; try with_reducible rfl)
              simp only [List.getElem_toArray, List.getElem_cons_zero, List.getElem_cons_succ, Act.put, List.setIfInBounds_toArray, List.set_cons_zero, List.set_cons_succ]
              refine wpAnyH_ready (rs := [12]) (by as_aux_lemma => kernel_rfl) (by simp) ?_
              refine AllReadyH.cons rfl (fun K12 hK12 => ?_) AllReadyH.nil
              go_simp
              go_at_call 36
              refine (iI.out _ (q5.out _ D9_2)).mono ?_
              rintro e z9_3 ⟨rfl, hb9_3⟩
              have D9_3 := bgo D9_2 hb9_3
              go_wp2_with fail
              refine hK12.out _ _ (hK.out _ D9_3) (fun hH12 => ?_)
              refine wpAnyH_ready (rs := [15]) (by as_aux_lemma => kernel_rfl) (by simp) ?_
              refine AllReadyH.cons rfl (fun K15 hK15 => ?_) AllReadyH.nil
              go_simp
              go_at_call 44
              refine (sI.out _ (q5.out _ D9_3)).mono ?_
              rintro e z9_4 ⟨rfl, hb9_4⟩
              have D9_4 := bgo D9_3 hb9_4
              go_wp2_with fail
              refine hK15.out _ _ (hK.out _ D9_4) (fun hH15 => ?_)
              refine wpAnyH_take (i := 16) (v := ?_) rfl (by as_aux_lemma => kernel_rfl) (by as_aux_lemma => kernel_rfl) (by as_aux_lemma => kernel_rfl) (fun _ _ _ h => h) (Or.inl ⟨by as_aux_lemma => first | kernel_rfl | rfl, ?_⟩) (by assumption) ?_
              rotate_left
              · (intro w hSw; (try dsimp only at hSw); go_simp; try with_reducible rfl)
              simp only [List.getElem_toArray, List.getElem_cons_zero, List.getElem_cons_succ, Act.put, List.setIfInBounds_toArray, List.set_cons_zero, List.set_cons_succ]
              refine wpAnyH_take (i := 17) (v := ?_) rfl (by as_aux_lemma => kernel_rfl) (by as_aux_lemma => kernel_rfl) (by as_aux_lemma => kernel_rfl) (fun _ _ _ h => h) (Or.inl ⟨by as_aux_lemma => first | kernel_rfl | rfl, ?_⟩) (by assumption) ?_
              rotate_left
              · (intro w hSw; (try dsimp only at hSw); go_simp; try with_reducible rfl)
              simp only [List.getElem_toArray, List.getElem_cons_zero, List.getElem_cons_succ, Act.put, List.setIfInBounds_toArray, List.set_cons_zero, List.set_cons_succ]
              refine wpAnyH_take (i := 18) (v := ?_) rfl (by as_aux_lemma => kernel_rfl) (by as_aux_lemma => kernel_rfl) (by as_aux_lemma => kernel_rfl) (fun _ _ _ h => h) (Or.inl ⟨by as_aux_lemma => first | kernel_rfl | rfl, ?_⟩) (by assumption) ?_
              rotate_left
              · (intro w hSw; (try dsimp only at hSw); go_simp; try with_reducible rfl)
              simp only [List.getElem_toArray, List.getElem_cons_zero, List.getElem_cons_succ, Act.put, List.setIfInBounds_toArray, List.set_cons_zero, List.set_cons_succ]
              refine wpAnyH_take (i := 19) (v := ?_) rfl (by as_aux_lemma => kernel_rfl) (by as_aux_lemma => kernel_rfl) (by as_aux_lemma => kernel_rfl) (fun _ _ _ h => h) (Or.inl ⟨by as_aux_lemma => first | kernel_rfl | rfl, ?_⟩) (by assumption) ?_
              rotate_left
              · (intro w hSw; (try dsimp only at hSw); go_simp; try with_reducible rfl)
              simp only [List.getElem_toArray, List.getElem_cons_zero, List.getElem_cons_succ, Act.put, List.setIfInBounds_toArray, List.set_cons_zero, List.set_cons_succ]
              refine wpAnyH_take (i := 20) (v := ?_) rfl (by as_aux_lemma => kernel_rfl) (by as_aux_lemma => kernel_rfl) (by as_aux_lemma => kernel_rfl) (fun _ _ _ h => h) (Or.inl ⟨by as_aux_lemma => first | kernel_rfl | rfl, ?_⟩) (by assumption) ?_
              rotate_left
              · (intro w hSw; (try dsimp only at hSw); go_simp; try with_reducible rfl)
              simp only [List.getElem_toArray, List.getElem_cons_zero, List.getElem_cons_succ, Act.put, List.setIfInBounds_toArray, List.set_cons_zero, List.set_cons_succ]
              refine wpAnyH_take (i := 21) (v := ?_) rfl (by as_aux_lemma => kernel_rfl) (by as_aux_lemma => kernel_rfl) (by as_aux_lemma => kernel_rfl) (fun _ _ _ h => h) (Or.inl ⟨by as_aux_lemma => first | kernel_rfl | rfl, ?_⟩) (by assumption) ?_
              rotate_left
              · (intro w hSw; (try dsimp only at hSw); go_simp; try with_reducible rfl)
              simp only [List.getElem_toArray, List.getElem_cons_zero, List.getElem_cons_succ, Act.put, List.setIfInBounds_toArray, List.set_cons_zero, List.set_cons_succ]
              refine wpAnyH_ready (rs := [22]) (by as_aux_lemma => kernel_rfl) (by simp) ?_
              refine AllReadyH.cons rfl (fun K22 hK22 => ?_) AllReadyH.nil
              go_simp
              go_at_call 45
              refine (sH.out _ (rV6.out _ D9_4)).mono ?_
              rintro e z9_5 ⟨rfl, hb9_5⟩
              have D9_5 := bgo D9_4 hb9_5
              go_wp2_with fail
              refine hK22.out _ _ (hK.out _ D9_5) (fun hH22 => ?_)
              refine wpAnyH_take (i := 23) (v := ?_) rfl (by as_aux_lemma => kernel_rfl) (by as_aux_lemma => kernel_rfl) (by as_aux_lemma => kernel_rfl) (fun _ _ _ h => h) (Or.inl ⟨by as_aux_lemma => first | kernel_rfl | rfl, ?_⟩) (by assumption) ?_
              rotate_left
              · (intro w hSw; (try dsimp only at hSw); go_simp; try with_reducible rfl)
              simp only [List.getElem_toArray, List.getElem_cons_zero, List.getElem_cons_succ, Act.put, List.setIfInBounds_toArray, List.set_cons_zero, List.set_cons_succ]
              refine wpAnyH_take (i := 24) (v := ?_) rfl (by as_aux_lemma => kernel_rfl) (by as_aux_lemma => kernel_rfl) (by as_aux_lemma => kernel_rfl) (fun _ _ _ h => h) (Or.inl ⟨by as_aux_lemma => first | kernel_rfl | rfl, ?_⟩) (by assumption) ?_
              rotate_left
              · (intro w hSw; (try dsimp only at hSw); go_simp; try with_reducible rfl)
              simp only [List.getElem_toArray, List.getElem_cons_zero, List.getElem_cons_succ, Act.put, List.setIfInBounds_toArray, List.set_cons_zero, List.set_cons_succ]
              refine wpAnyH_take (i := 25) (v := ?_) rfl (by as_aux_lemma => kernel_rfl) (by as_aux_lemma => kernel_rfl) (by as_aux_lemma => kernel_rfl) (fun _ _ _ h => h) (Or.inl ⟨by as_aux_lemma => first | kernel_rfl | rfl, ?_⟩) (by assumption) ?_
              rotate_left
              · (intro w hSw; (try dsimp only at hSw); go_simp; try with_reducible rfl)
              simp only [List.getElem_toArray, List.getElem_cons_zero, List.getElem_cons_succ, Act.put, List.setIfInBounds_toArray, List.set_cons_zero, List.set_cons_succ]
              refine wpAnyH_take (i := 26) (v := ?_) rfl (by as_aux_lemma => kernel_rfl) (by as_aux_lemma => kernel_rfl) (by as_aux_lemma => kernel_rfl) (fun _ _ _ h => h) (Or.inl ⟨by as_aux_lemma => first | kernel_rfl | rfl, ?_⟩) (by assumption) ?_
              rotate_left
              · (intro w hSw; (try dsimp only at hSw); go_simp; try with_reducible rfl)
              simp only [List.getElem_toArray, List.getElem_cons_zero, List.getElem_cons_succ, Act.put, List.setIfInBounds_toArray, List.set_cons_zero, List.set_cons_succ]
              refine wpAnyH_take (i := 27) (v := ?_) rfl (by as_aux_lemma => kernel_rfl) (by as_aux_lemma => kernel_rfl) (by as_aux_lemma => kernel_rfl) (fun _ _ _ h => h) (Or.inl ⟨by as_aux_lemma => first | kernel_rfl | rfl, ?_⟩) (by assumption) ?_
              rotate_left
              · (intro w hSw; (try dsimp only at hSw); go_simp; try with_reducible rfl)
              simp only [List.getElem_toArray, List.getElem_cons_zero, List.getElem_cons_succ, Act.put, List.setIfInBounds_toArray, List.set_cons_zero, List.set_cons_succ]
              refine wpAnyH_take (i := 28) (v := ?_) rfl (by as_aux_lemma => kernel_rfl) (by as_aux_lemma => kernel_rfl) (by as_aux_lemma => kernel_rfl) (fun _ _ _ h => h) (Or.inl ⟨by as_aux_lemma => first | kernel_rfl | rfl, ?_⟩) (by assumption) ?_
              rotate_left
              · (intro w hSw; (try dsimp only at hSw); go_simp; try with_reducible rfl)
              simp only [List.getElem_toArray, List.getElem_cons_zero, List.getElem_cons_succ, Act.put, List.setIfInBounds_toArray, List.set_cons_zero, List.set_cons_succ]
              refine wpAnyH_take (i := 29) (v := ?_) rfl (by as_aux_lemma => kernel_rfl) (by as_aux_lemma => kernel_rfl) (by as_aux_lemma => kernel_rfl) (fun _ _ _ h => h) (Or.inl ⟨by as_aux_lemma => first | kernel_rfl | rfl, ?_⟩) (by assumption) ?_
              rotate_left
              · (intro w hSw; (try dsimp only at hSw); go_simp; try with_reducible rfl)
              simp only [List.getElem_toArray, List.getElem_cons_zero, List.getElem_cons_succ, Act.put, List.setIfInBounds_toArray, List.set_cons_zero, List.set_cons_succ]
              refine wpAnyH_take (i := 30) (v := ?_) rfl (by as_aux_lemma => kernel_rfl) (by as_aux_lemma => kernel_rfl) (by as_aux_lemma => kernel_rfl) (fun _ _ _ h => h) (Or.inl ⟨by as_aux_lemma => first | kernel_rfl | rfl, ?_⟩) (by assumption) ?_
              rotate_left
              · (intro w hSw; (try dsimp only at hSw); go_simp; try with_reducible rfl)
              simp only [List.getElem_toArray, List.getElem_cons_zero, List.getElem_cons_succ, Act.put, List.setIfInBounds_toArray, List.set_cons_zero, List.set_cons_succ]
              refine wpAnyH_ready (rs := [31]) (by as_aux_lemma => kernel_rfl) (by simp) ?_
              refine AllReadyH.cons rfl (fun K31 hK31 => ?_) AllReadyH.nil
              go_simp
              go_at_call 36
              refine (i1.out _ (rV6.out _ D9_5)).mono ?_
              rintro e z9_6 ⟨rfl, hb9_6⟩
              have D9_6 := bgo D9_5 hb9_6
              go_wp2_with fail
              refine hK31.out _ _ (hK.out _ D9_6) (fun hH31 => ?_)
              refine wpAnyH_take (i := 32) (v := ?_) rfl (by as_aux_lemma => kernel_rfl) (by as_aux_lemma => kernel_rfl) (by as_aux_lemma => kernel_rfl) (fun _ _ _ h => h) (Or.inl ⟨by as_aux_lemma => first | kernel_rfl | rfl, ?_⟩) (by assumption) ?_
              rotate_left
              · (intro w hSw; (try dsimp only at hSw); go_simp; try with_reducible rfl)
              simp only [List.getElem_toArray, List.getElem_cons_zero, List.getElem_cons_succ, Act.put, List.setIfInBounds_toArray, List.set_cons_zero, List.set_cons_succ]
              refine wpAnyH_take (i := 33) (v := ?_) rfl (by as_aux_lemma => kernel_rfl) (by as_aux_lemma => kernel_rfl) (by as_aux_lemma => kernel_rfl) (fun _ _ _ h => h) (Or.inl ⟨by as_aux_lemma => first | kernel_rfl | rfl, ?_⟩) (by assumption) ?_
              rotate_left
              · (intro w hSw; (try dsimp only at hSw); go_simp; try with_reducible rfl)
              simp only [List.getElem_toArray, List.getElem_cons_zero, List.getElem_cons_succ, Act.put, List.setIfInBounds_toArray, List.set_cons_zero, List.set_cons_succ]
              refine wpAnyH_take (i := 34) (v := ?_) rfl (by as_aux_lemma => kernel_rfl) (by as_aux_lemma => kernel_rfl) (by as_aux_lemma => kernel_rfl) (fun _ _ _ h => h) (Or.inl ⟨by as_aux_lemma => first | kernel_rfl | rfl, ?_⟩) (by assumption) ?_
              rotate_left
              · (intro w hSw; (try dsimp only at hSw); go_simp; try with_reducible rfl)
              simp only [List.getElem_toArray, List.getElem_cons_zero, List.getElem_cons_succ, Act.put, List.setIfInBounds_toArray, List.set_cons_zero, List.set_cons_succ]
              refine wpAnyH_take (i := 35) (v := ?_) rfl (by as_aux_lemma => kernel_rfl) (by as_aux_lemma => kernel_rfl) (by as_aux_lemma => kernel_rfl) (fun _ _ _ h => h) (Or.inl ⟨by as_aux_lemma => first | kernel_rfl | rfl, ?_⟩) (by assumption) ?_
              rotate_left
              · (intro w hSw; (try dsimp only at hSw); go_simp; try with_reducible rfl)
              simp only [List.getElem_toArray, List.getElem_cons_zero, List.getElem_cons_succ, Act.put, List.setIfInBounds_toArray, List.set_cons_zero, List.set_cons_succ]
              refine wpAnyH_take (i := 36) (v := ?_) rfl (by as_aux_lemma => kernel_rfl) (by as_aux_lemma => kernel_rfl) (by as_aux_lemma => kernel_rfl) (fun _ _ _ h => h) (Or.inl ⟨by as_aux_lemma => first | kernel_rfl | rfl, ?_⟩) (by assumption) ?_
              rotate_left
              · (intro w hSw; (try dsimp only at hSw); go_simp; try with_reducible rfl)
              simp only [List.getElem_toArray, List.getElem_cons_zero, List.getElem_cons_succ, Act.put, List.setIfInBounds_toArray, List.set_cons_zero, List.set_cons_succ]
              refine wpAnyH_take (i := 37) (v := ?_) rfl (by as_aux_lemma => kernel_rfl) (by as_aux_lemma => kernel_rfl) (by as_aux_lemma => kernel_rfl) (fun _ _ _ h => h) (Or.inl ⟨by as_aux_lemma => first | kernel_rfl | rfl, ?_⟩) (by assumption) ?_
              rotate_left
              · (intro w hSw; (try dsimp only at hSw); go_simp; try with_reducible rfl)
              simp only [List.getElem_toArray, List.getElem_cons_zero, List.getElem_cons_succ, Act.put, List.setIfInBounds_toArray, List.set_cons_zero, List.set_cons_succ]
              refine wpAnyH_take (i := 38) (v := ?_) rfl (by as_aux_lemma => kernel_rfl) (by as_aux_lemma => kernel_rfl) (by as_aux_lemma => kernel_rfl) (fun _ _ _ h => h) (Or.inl ⟨by as_aux_lemma => first | kernel_rfl | rfl, ?_⟩) (by assumption) ?_
              rotate_left
              · (intro w hSw; (try dsimp only at hSw); go_simp; try with_reducible rfl)
              simp only [List.getElem_toArray, List.getElem_cons_zero, List.getElem_cons_succ, Act.put, List.setIfInBounds_toArray, List.set_cons_zero, List.set_cons_succ]
              refine wpAnyH_take (i := 39) (v := ?_) rfl (by as_aux_lemma => kernel_rfl) (by as_aux_lemma => kernel_rfl) (by as_aux_lemma => kernel_rfl) (fun _ _ _ h => h) (Or.inl ⟨by as_aux_lemma => first | kernel_rfl | rfl, ?_⟩) (by assumption) ?_
              rotate_left
              · (intro w hSw; (try dsimp only at hSw); go_simp; try with_reducible rfl)
              simp only [List.getElem_toArray, List.getElem_cons_zero, List.getElem_cons_succ, Act.put, List.setIfInBounds_toArray, List.set_cons_zero, List.set_cons_succ]
              refine wpAnyH_take (i := 40) (v := ?_) rfl (by as_aux_lemma => kernel_rfl) (by as_aux_lemma => kernel_rfl) (by as_aux_lemma => kernel_rfl) (fun _ _ _ h => h) (Or.inl ⟨by as_aux_lemma => first | kernel_rfl | rfl, ?_⟩) (by assumption) ?_
              rotate_left
              · (intro w hSw; (try dsimp only at hSw); go_simp; try with_reducible rfl)
              simp only [List.getElem_toArray, List.getElem_cons_zero, List.getElem_cons_succ, Act.put, List.setIfInBounds_toArray, List.set_cons_zero, List.set_cons_succ]
              refine wpAnyH_take (i := 41) (v := ?_) rfl (by as_aux_lemma => kernel_rfl) (by as_aux_lemma => kernel_rfl) (by as_aux_lemma => kernel_rfl) (fun _ _ _ h => h) (Or.inl ⟨by as_aux_lemma => first | kernel_rfl | rfl, ?_⟩) (by assumption) ?_
              rotate_left
              · (intro w hSw; (try dsimp only at hSw); go_simp; try with_reducible rfl)
              simp only [List.getElem_toArray, List.getElem_cons_zero, List.getElem_cons_succ, Act.put, List.setIfInBounds_toArray, List.set_cons_zero, List.set_cons_succ]
              refine wpAnyH_done (by as_aux_lemma => kernel_rfl) ?_ _
              go_wp2
              go_ret
              exact ⟨rfl, bgo B6 D9_6⟩
end Go.Proofs.Ytknbfohmobjplaa
