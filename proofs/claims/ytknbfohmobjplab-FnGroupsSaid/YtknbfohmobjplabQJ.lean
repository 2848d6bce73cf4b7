/- The walk of the law FnGroups: printed by gen_groups.py. No conditions. -/
import Derived.Test.YtknbfohmobjplabQC
import Derived.Test.YtknbfohmobjplabMRb
import Derived.Test.YtknbfohmobjplabMRa
import Derived.Test.YtknbfohmobjplabRI
import Derived.Test.YtknbfohmobjplabG5
import Derived.Test.YtknbfohmobjplabG6
import Derived.Test.YtknbfohmobjplabG8
import Derived.Test.YtknbfohmobjplabMKt
import Derived.Deep.DeepCutAuto
namespace Go.Proofs.Ytknbfohmobjplab
set_option linter.unusedVariables false
set_option linter.unusedSimpArgs false
open Go.RowKit

theorem lat_any (v : Value) (l : List Int) (w : World) (hr : Rd w w.heap.size .u8 v l) (hl : l.length ≤ 1048576) (hB : IsB l) :
    Calls Try.prog 14 #[v, .int .i64 3] w fun e w' => (∃ x : Nat, e = .returned (.int .i64 (x : Int)) ∧ x ≤ 255) ∧ w = w' := by
  obtain ⟨ao, cap, rfl, _, _, hrd⟩ := hr
  by_cases h : 3 < l.length
  · obtain ⟨b, off, rfl, hb, hc⟩ := hrd (by omega)
    have hm := hc 3 h
    have hx := hB _ (List.getElem_mem h)
    obtain ⟨x, hxe⟩ : ∃ x, x = l[3] := ⟨_, rfl⟩
    rw [← hxe] at hm hx
    obtain ⟨X, rfl⟩ := Int.eq_ofNat_of_zero_le hx.1
    have hw : IntKind.i64.wrap (X : Int) = X := IntWalk.i64_in _ (by omega)
    have h3 : (3 : Int) < (l.length : Int) := by omega
    obtain ⟨n, hn⟩ : ∃ n, n = l.length := ⟨_, rfl⟩
    rw [← hn] at h3 ⊢
    clear hc hxe hn hB h
    go_enter Try.func14, Try.ntmps14
    go_wp2
    go_ret
    exact ⟨⟨X, rfl, by omega⟩, rfl⟩
  · have h3 : ¬ (3 : Int) < (l.length : Int) := by omega
    obtain ⟨n, hn⟩ : ∃ n, n = l.length := ⟨_, rfl⟩
    rw [← hn] at h3 hl ⊢
    have hw1 : wrap64 ((n : Int) * 11) = n * 11 := by unfold wrap64; omega
    have hw2 : wrap64 (111 + (n : Int) * 11) = 111 + n * 11 := by unfold wrap64; omega
    have hm : (111 + (n : Int) * 11).tmod 256 = (((111 + n * 11) % 256 : Nat) : Int) := by rw [Int.tmod_eq_emod_of_nonneg (by omega)]; omega
    obtain ⟨X, hX⟩ : ∃ X, X = (111 + n * 11) % 256 := ⟨_, rfl⟩
    have hX2 : X ≤ 255 := by omega
    rw [← hX] at hm
    clear hn hB h hX
    go_enter Try.func14, Try.ntmps14
    go_wp2
    go_ret
    exact ⟨⟨X, rfl, hX2⟩, rfl⟩
theorem addE_bd (g : List Int) (x y : Int) : addE g x y = -1 ∨ 0 ≤ addE g x y := by
  cases h : (isEl g x && isEl g y) with
  | false => left; unfold addE; rw [h]; rfl
  | true =>
    right
    rw [Bool.and_eq_true] at h
    rw [addE_yes h.1 h.2]
    exact (gadd_small (isEl.group h.1) x y).1
theorem elem_any (g q : List Int) : ∃ (x : Int) (b : Bool), (if elE g q then Value.tuple #[.int .i64 (elemOf g q), .bool true] else Value.tuple #[.int .i64 0, .bool false]) = Value.tuple #[.int .i64 x, .bool b] := by
  cases h : elE g q with
  | false => exact ⟨_, _, rfl⟩
  | true => exact ⟨_, _, rfl⟩
theorem group_facts {g : List Int} {x y : Int} (hz : 0 ≤ addE g x y) (X : Nat) : ∃ N W : Nat, orderOf g = N ∧ 0 < N ∧ ((X : Int).tmod (N : Int)) = (W : Int) ∧ I64 (addE g x y) ∧ I64 (negE g y) ∧ I64 (W : Int) ∧ I64 (addE g y W) ∧ addE g (addE g x y) (negE g y) = x ∧ addE g x 0 = x ∧ addE g (addE g x y) W = addE g x (addE g y W)
    ∧ 1 ≤ ordE g x ∧ I64 (ordE g x) ∧ mulE g x (ordE g x) = 0 ∧ (exE g).tmod (ordE g x) = 0 ∧ (orderOf g).tmod (ordE g x) = 0 ∧ plcE g x = places g x ∧ elE g (places g x) = true ∧ elemOf g (places g x) = x := by
  obtain ⟨hx, hy⟩ := addE_inv (l := g) (x := x) (y := y) (by omega)
  have hg := isEl.group hx
  have hp := isGroup.prod hg
  have ho := orderOf_yes hg
  obtain ⟨o1, o2, o3, o4, o5⟩ := ord_facts hg hx
  obtain ⟨_, p2, p3⟩ := places_back hx
  have hN : ((prodL g).toNat : Int) = prodL g := by omega
  have hm : (X : Int).tmod (((prodL g).toNat : Nat) : Int) = ((X % (prodL g).toNat : Nat) : Int) := by rw [Int.tmod_eq_emod_of_nonneg (by omega)]; omega
  have hlt := Nat.mod_lt X (show 0 < (prodL g).toNat by omega)
  have hw : isEl g ((X % (prodL g).toNat : Nat) : Int) = true := el_of hg (by omega)
  obtain ⟨a1, a2, a3, a4, a5, a6, a7, a8⟩ := add_laws hx hy hw
  have hxy := addE_yes hx hy
  refine ⟨(prodL g).toNat, X % (prodL g).toNat, by omega, by omega, hm, ?_, ?_, ?_, ?_, ?_, a6, ?_, o1, ⟨by omega, by omega⟩, o3, o4, o5, by unfold plcE; rw [hx]; rfl, by unfold elE; rw [hg, p2]; rfl, p3⟩
  · rw [hxy]; exact ⟨by omega, by omega⟩
  · rw [a4]; exact ⟨by omega, by omega⟩
  · exact ⟨by omega, by omega⟩
  · exact ⟨by omega, by omega⟩
  · rw [hxy, a4]; exact a5
  · rw [hxy]; exact a8
set_option maxRecDepth 100000 in
set_option maxHeartbeats 40000000 in
theorem fnGroups_w (ao : Option Addr) (cap : Nat) (l : List Int) (w : World) (hr : Rd w w.heap.size .u8 (.slice ao l.length cap) l) (hl : l.length ≤ 1048576) (hB : IsB l) :
    Calls Try.prog 3 #[.slice ao l.length cap] w fun e w' => e = .returned (.bool true) ∧ Below w.heap.size w w' := by
  have hbig := hid fun w hr => lbig_any (.slice ao l.length cap) l w hr
  have hat := hid fun w hr => lat_any (.slice ao l.length cap) l w hr hl hB
  have d1 := hid fun w hr => sDrawAddElements_any (.slice ao l.length cap) l w hr hl hB
  have d2 := hid fun w hr => sDrawParseGroup_any (.slice ao l.length cap) l w hr hl hB
  have d3 := hid fun w hr => sDrawPlacesOf_any (.slice ao l.length cap) l w hr hl hB
  have d4 := hid fun w hr => sDrawElementOf_any (.slice ao l.length cap) l w hr hl hB
  have d5 := hid fun w hr => sDrawMultipleOf_any (.slice ao l.length cap) l w hr hl hB
  have d6 := hid fun w hr => sDrawEqualGroups_any (.slice ao l.length cap) l w hr hl hB
  have e0 : decide (1048576 < (l.length : Int)) = false := by simp; omega
  have B0 := Below.refl w.heap.size w
  replace hB := hid hB
  go_enter Try.func3, Try.ntmps3
  go_wp2_with fail
  refine (hbig.out _ hr).mono ?_
  rintro e w' ⟨rfl, rfl⟩
  go_wp2_with fail
  refine (d1.out _ ((hr.below B0).more B0.size)).mono ?_
  rintro e w1 ⟨⟨u, g1, x, y, rfl, hg1, hx, hy⟩, hb1⟩
  obtain ⟨ao1, cap1, rfl⟩ := hg1.shape
  have A1 := bgo B0 hb1
  have hgl1 := hg1.len
  obtain ⟨V1, hV1⟩ : ∃ V, V = w1.alloc (.cells #[.slice ao1 g1.length cap1] 26) := ⟨_, rfl⟩
  have bV1 : Below w1.heap.size w1 V1 := hV1 ▸ below_alloc _ _
  have cV1 : V1.cell? ⟨w1.heap.size, 0, none⟩ = some (.slice ao1 g1.length cap1) := by rw [hV1]; simp [go_sem]
  have zV1 : w1.heap.size < V1.heap.size := by rw [hV1]; simp
  have kV1 := hid fun w' (h : Below V1.heap.size V1 w') => (h.cell (p := ⟨w1.heap.size, 0, none⟩) zV1).trans cV1
  have rV1 := hid fun w' (h : Below V1.heap.size V1 w') => (((hg1.below bV1).rd.below h).more h.size)
  have B1 : Below w.heap.size w V1 := A1.trans (bV1.mono A1.size)
  have iA := hid fun w hr => iAddElements_any (.slice ao1 g1.length cap1) g1 x y w hr hgl1 hx hy
  have sA := hid fun w hr => sAddElements_any (.slice ao1 g1.length cap1) g1 x y w hr hgl1 hx hy
  have iA2 := hid fun w hr => iAddElements_any (.slice ao1 g1.length cap1) g1 y x w hr hgl1 hy hx
  rw [addE_comm g1 y x] at iA2
  have iR := hid fun w hr => iOrderOf_any (.slice ao1 g1.length cap1) g1 w hr (by omega)
  have sR := hid fun w hr => sOrderOf_any (.slice ao1 g1.length cap1) g1 w hr (by omega)
  have iE := hid fun w hr => iExponentOf_any (.slice ao1 g1.length cap1) g1 w hr hgl1
  have sE := hid fun w hr => sExponentOf_any (.slice ao1 g1.length cap1) g1 w hr hgl1
  have iAA := hid fun p q (hp : I64 p) (hq : I64 q) w hr => iAddElements_any (.slice ao1 g1.length cap1) g1 p q w hr hgl1 hp hq
  have sAA := hid fun q (hq : I64 q) w hr => sAddElements_any (.slice ao1 g1.length cap1) g1 y q w hr hgl1 hy hq
  have iN := hid fun w hr => iNegateElement_any (.slice ao1 g1.length cap1) g1 y w hr hgl1 hy
  have iO := hid fun w hr => iOrderOfElement_any (.slice ao1 g1.length cap1) g1 x w hr hgl1 hx
  have iP := hid fun w hr => iPlacesOf_any (.slice ao1 g1.length cap1) g1 x w hr hgl1 hx
  have iL := hid fun u m w hr hs hm => iElementOf_any (.slice ao1 g1.length cap1) u g1 m w hr hs hgl1 hm
  have iM := hid fun q (hq : I64 q) w hr => iMultipleOf_any (.slice ao1 g1.length cap1) g1 x q w hr hgl1 hx hq
  have iF := hid fun w hr => iFormatGroup_any (.slice ao1 g1.length cap1) g1 w hr hgl1
  have sF := hid fun w hr => sFormatGroup_any (.slice ao1 g1.length cap1) g1 w hr hgl1
  have iI := hid fun w hr => iIsGroup_any (.slice ao1 g1.length cap1) g1 w hr (by omega)
  have sI' := hid fun w hr => sIsGroup_any (.slice ao1 g1.length cap1) g1 w hr (by omega)
  have hzz := addE_bd g1 x y
  have hgf := hid fun hz X => @group_facts g1 x y hz X
  obtain ⟨Z, eZ⟩ : ∃ Z, Z = addE g1 x y := ⟨_, rfl⟩
  obtain ⟨N, eN⟩ : ∃ N, N = orderOf g1 := ⟨_, rfl⟩
  obtain ⟨E, eE⟩ : ∃ E, E = exE g1 := ⟨_, rfl⟩
  obtain ⟨U, eU⟩ : ∃ U, U = negE g1 y := ⟨_, rfl⟩
  obtain ⟨O, eO⟩ : ∃ O, O = ordE g1 x := ⟨_, rfl⟩
  obtain ⟨P, eP⟩ : ∃ P, P = plcE g1 x := ⟨_, rfl⟩
  rw [← eZ] at iA sA iA2 hzz hgf
  rw [← eN] at iR sR hgf
  rw [← eE] at iE sE hgf
  rw [← eU] at iN hgf
  rw [← eO] at iO hgf
  rw [← eP] at iP hgf
  have hPl : P.length ≤ 5 := by rw [eP]; exact plcE_len5 g1 x
  replace hzz := hid hzz
  obtain ⟨m, hm⟩ : ∃ m, m = P.length := ⟨_, rfl⟩
  rw [← hm] at iP
  replace hm := hid hm
  replace hPl := hid hPl
  clear eZ eN eE eU eO eP hb1 d1 hbig
  clear hg1
  go_wp2_with fail
  rw [← hV1]
  clear hV1 bV1 A1
  refine (iA.out _ (rV1.out _ (Below.refl _ _))).mono ?_
  rintro e x1 ⟨rfl, E1⟩
  have c1 := kV1.out _ E1
  go_wp2_with fail
  refine (iR.out _ (rV1.out _ E1)).mono ?_
  rintro e x2 ⟨rfl, hb2⟩
  have D0 := bgo E1 hb2
  have c2 := kV1.out _ D0
  clear iA c1 E1 hb2
  go_upto_region 6 with fail
  go_cut [74] (fun s74 wx => s74 = .bool false ∧ Below V1.heap.size V1 wx)
  case first =>
    as_aux_lemma =>
      refine wp_region_held_lit (S := fun w' => w'.cell? ⟨w1.heap.size, 0, none⟩ = some (.slice ao1 g1.length cap1)) #[false, false, false, false, false, false, false, false, false, false, false, false, false, false, false, false, false, false, false, false, false, false, false, false, false, false, false] (by kernel_rfl) (by kernel_rfl) c2 (fun hH0 => ?_)
      refine wpAnyH_take (i := 0) (v := ?_) rfl (by as_aux_lemma => kernel_rfl) (by as_aux_lemma => kernel_rfl) (by as_aux_lemma => kernel_rfl) (fun _ _ _ h => h) (Or.inl ⟨by as_aux_lemma => first | kernel_rfl | rfl, ?_⟩) (by assumption) ?_
      rotate_left
      · (intro w hSw; (try dsimp only at hSw); go_simp; try with_reducible rfl)
      simp only [List.getElem_toArray, List.getElem_cons_zero, List.getElem_cons_succ, Act.put, List.setIfInBounds_toArray, List.set_cons_zero, List.set_cons_succ]
      refine wpAnyH_take (i := 1) (v := ?_) rfl (by as_aux_lemma => kernel_rfl) (by as_aux_lemma => kernel_rfl) (by as_aux_lemma => kernel_rfl) (fun _ _ _ h => h) (Or.inl ⟨by as_aux_lemma => first | kernel_rfl | rfl, ?_⟩) (by assumption) ?_
      rotate_left
      · (intro w hSw; (try dsimp only at hSw); go_simp; try with_reducible rfl)
      simp only [List.getElem_toArray, List.getElem_cons_zero, List.getElem_cons_succ, Act.put, List.setIfInBounds_toArray, List.set_cons_zero, List.set_cons_succ]
      refine wpAnyH_take (i := 2) (v := ?_) rfl (by as_aux_lemma => kernel_rfl) (by as_aux_lemma => kernel_rfl) (by as_aux_lemma => kernel_rfl) (fun _ _ _ h => h) (Or.inl ⟨by as_aux_lemma => first | kernel_rfl | rfl, ?_⟩) (by assumption) ?_
      rotate_left
      · (intro w hSw; (try dsimp only at hSw); go_simp; try with_reducible rfl)
      simp only [List.getElem_toArray, List.getElem_cons_zero, List.getElem_cons_succ, Act.put, List.setIfInBounds_toArray, List.set_cons_zero, List.set_cons_succ]
      refine wpAnyH_take (i := 3) (v := ?_) rfl (by as_aux_lemma => kernel_rfl) (by as_aux_lemma => kernel_rfl) (by as_aux_lemma => kernel_rfl) (fun _ _ _ h => h) (Or.inl ⟨by as_aux_lemma => first | kernel_rfl | rfl, ?_⟩) (by assumption) ?_
      rotate_left
      · (intro w hSw; (try dsimp only at hSw); go_simp; try with_reducible rfl)
      simp only [List.getElem_toArray, List.getElem_cons_zero, List.getElem_cons_succ, Act.put, List.setIfInBounds_toArray, List.set_cons_zero, List.set_cons_succ]
      refine wpAnyH_ready (rs := [4]) (by as_aux_lemma => kernel_rfl) (by simp) ?_
      refine AllReadyH.cons rfl (fun K4 hK4 => ?_) AllReadyH.nil
      go_simp
      go_at_call 9
      refine (sA.out _ (rV1.out _ D0.drew)).mono ?_
      rintro e z1_1 ⟨rfl, hb1_1⟩
      have D1_1 := bgo D0.drew hb1_1
      go_wp2_with fail
      refine hK4.out _ _ (kV1.out _ D1_1) (fun hH4 => ?_)
      refine wpAnyH_take (i := 5) (v := ?_) rfl (by as_aux_lemma => kernel_rfl) (by as_aux_lemma => kernel_rfl) (by as_aux_lemma => kernel_rfl) (fun _ _ _ h => h) (Or.inl ⟨by as_aux_lemma => first | kernel_rfl | rfl, ?_⟩) (by assumption) ?_
      rotate_left
      · (intro w hSw; (try dsimp only at hSw); go_simp; try with_reducible rfl)
      simp only [List.getElem_toArray, List.getElem_cons_zero, List.getElem_cons_succ, Act.put, List.setIfInBounds_toArray, List.set_cons_zero, List.set_cons_succ]
      refine wpAnyH_take (i := 6) (v := ?_) rfl (by as_aux_lemma => kernel_rfl) (by as_aux_lemma => kernel_rfl) (by as_aux_lemma => kernel_rfl) (fun _ _ _ h => h) (Or.inl ⟨by as_aux_lemma => first | kernel_rfl | rfl, ?_⟩) (by assumption) ?_
      rotate_left
      · (intro w hSw; (try dsimp only at hSw); go_simp; try with_reducible rfl)
      simp only [List.getElem_toArray, List.getElem_cons_zero, List.getElem_cons_succ, Act.put, List.setIfInBounds_toArray, List.set_cons_zero, List.set_cons_succ]
      refine wpAnyH_take (i := 7) (v := ?_) rfl (by as_aux_lemma => kernel_rfl) (by as_aux_lemma => kernel_rfl) (by as_aux_lemma => kernel_rfl) (fun _ _ _ h => h) (Or.inl ⟨by as_aux_lemma => first | kernel_rfl | rfl, ?_⟩) (by assumption) ?_
      rotate_left
      · (intro w hSw; (try dsimp only at hSw); go_simp; try with_reducible rfl)
      simp only [List.getElem_toArray, List.getElem_cons_zero, List.getElem_cons_succ, Act.put, List.setIfInBounds_toArray, List.set_cons_zero, List.set_cons_succ]
      refine wpAnyH_take (i := 8) (v := ?_) rfl (by as_aux_lemma => kernel_rfl) (by as_aux_lemma => kernel_rfl) (by as_aux_lemma => kernel_rfl) (fun _ _ _ h => h) (Or.inl ⟨by as_aux_lemma => first | kernel_rfl | rfl, ?_⟩) (by assumption) ?_
      rotate_left
      · (intro w hSw; (try dsimp only at hSw); go_simp; try with_reducible rfl)
      simp only [List.getElem_toArray, List.getElem_cons_zero, List.getElem_cons_succ, Act.put, List.setIfInBounds_toArray, List.set_cons_zero, List.set_cons_succ]
      refine wpAnyH_ready (rs := [9]) (by as_aux_lemma => kernel_rfl) (by simp) ?_
      refine AllReadyH.cons rfl (fun K9 hK9 => ?_) AllReadyH.nil
      go_simp
      go_at_call 10
      refine (sR.out _ (rV1.out _ D1_1)).mono ?_
      rintro e z1_2 ⟨rfl, hb1_2⟩
      have D1_2 := bgo D1_1 hb1_2
      go_wp2_with fail
      refine hK9.out _ _ (kV1.out _ D1_2) (fun hH9 => ?_)
      refine wpAnyH_take (i := 10) (v := ?_) rfl (by as_aux_lemma => kernel_rfl) (by as_aux_lemma => kernel_rfl) (by as_aux_lemma => kernel_rfl) (fun _ _ _ h => h) (Or.inl ⟨by as_aux_lemma => first | kernel_rfl | rfl, ?_⟩) (by assumption) ?_
      rotate_left
      · (intro w hSw; (try dsimp only at hSw); go_simp; try with_reducible rfl)
      simp only [List.getElem_toArray, List.getElem_cons_zero, List.getElem_cons_succ, Act.put, List.setIfInBounds_toArray, List.set_cons_zero, List.set_cons_succ]
      refine wpAnyH_take (i := 11) (v := ?_) rfl (by as_aux_lemma => kernel_rfl) (by as_aux_lemma => kernel_rfl) (by as_aux_lemma => kernel_rfl) (fun _ _ _ h => h) (Or.inl ⟨by as_aux_lemma => first | kernel_rfl | rfl, ?_⟩) (by assumption) ?_
      rotate_left
      · (intro w hSw; (try dsimp only at hSw); go_simp; try with_reducible rfl)
      simp only [List.getElem_toArray, List.getElem_cons_zero, List.getElem_cons_succ, Act.put, List.setIfInBounds_toArray, List.set_cons_zero, List.set_cons_succ]
      refine wpAnyH_take (i := 12) (v := ?_) rfl (by as_aux_lemma => kernel_rfl) (by as_aux_lemma => kernel_rfl) (by as_aux_lemma => kernel_rfl) (fun _ _ _ h => h) (Or.inl ⟨by as_aux_lemma => first | kernel_rfl | rfl, ?_⟩) (by assumption) ?_
      rotate_left
      · (intro w hSw; (try dsimp only at hSw); go_simp; try with_reducible rfl)
      simp only [List.getElem_toArray, List.getElem_cons_zero, List.getElem_cons_succ, Act.put, List.setIfInBounds_toArray, List.set_cons_zero, List.set_cons_succ]
      refine wpAnyH_take (i := 13) (v := ?_) rfl (by as_aux_lemma => kernel_rfl) (by as_aux_lemma => kernel_rfl) (by as_aux_lemma => kernel_rfl) (fun _ _ _ h => h) (Or.inl ⟨by as_aux_lemma => first | kernel_rfl | rfl, ?_⟩) (by assumption) ?_
      rotate_left
      · (intro w hSw; (try dsimp only at hSw); go_simp; try with_reducible rfl)
      simp only [List.getElem_toArray, List.getElem_cons_zero, List.getElem_cons_succ, Act.put, List.setIfInBounds_toArray, List.set_cons_zero, List.set_cons_succ]
      refine wpAnyH_take (i := 15) (v := ?_) rfl (by as_aux_lemma => kernel_rfl) (by as_aux_lemma => kernel_rfl) (by as_aux_lemma => kernel_rfl) (fun _ _ _ h => h) (Or.inl ⟨by as_aux_lemma => first | kernel_rfl | rfl, ?_⟩) (by assumption) ?_
      rotate_left
      · (intro w hSw; (try dsimp only at hSw); go_simp; try with_reducible rfl)
      simp only [List.getElem_toArray, List.getElem_cons_zero, List.getElem_cons_succ, Act.put, List.setIfInBounds_toArray, List.set_cons_zero, List.set_cons_succ]
      refine wpAnyH_ready (rs := [14]) (by as_aux_lemma => kernel_rfl) (by simp) ?_
      refine AllReadyH.cons rfl (fun K14 hK14 => ?_) AllReadyH.nil
      go_simp
      go_at_call 11
      refine (iE.out _ (rV1.out _ D1_2)).mono ?_
      rintro e z1_3 ⟨rfl, hb1_3⟩
      have D1_3 := bgo D1_2 hb1_3
      go_wp2_with fail
      refine hK14.out _ _ (kV1.out _ D1_3) (fun hH14 => ?_)
      refine wpAnyH_ready (rs := [16]) (by as_aux_lemma => kernel_rfl) (by simp) ?_
      refine AllReadyH.cons rfl (fun K16 hK16 => ?_) AllReadyH.nil
      go_simp
      go_at_call 12
      refine (sE.out _ (rV1.out _ D1_3)).mono ?_
      rintro e z1_4 ⟨rfl, hb1_4⟩
      have D1_4 := bgo D1_3 hb1_4
      go_wp2_with fail
      refine hK16.out _ _ (kV1.out _ D1_4) (fun hH16 => ?_)
      refine wpAnyH_take (i := 17) (v := ?_) rfl (by as_aux_lemma => kernel_rfl) (by as_aux_lemma => kernel_rfl) (by as_aux_lemma => kernel_rfl) (fun _ _ _ h => h) (Or.inl ⟨by as_aux_lemma => first | kernel_rfl | rfl, ?_⟩) (by assumption) ?_
      rotate_left
      · (intro w hSw; (try dsimp only at hSw); go_simp; try with_reducible rfl)
      simp only [List.getElem_toArray, List.getElem_cons_zero, List.getElem_cons_succ, Act.put, List.setIfInBounds_toArray, List.set_cons_zero, List.set_cons_succ]
      refine wpAnyH_take (i := 18) (v := ?_) rfl (by as_aux_lemma => kernel_rfl) (by as_aux_lemma => kernel_rfl) (by as_aux_lemma => kernel_rfl) (fun _ _ _ h => h) (Or.inl ⟨by as_aux_lemma => first | kernel_rfl | rfl, ?_⟩) (by assumption) ?_
      rotate_left
      · (intro w hSw; (try dsimp only at hSw); go_simp; try with_reducible rfl)
      simp only [List.getElem_toArray, List.getElem_cons_zero, List.getElem_cons_succ, Act.put, List.setIfInBounds_toArray, List.set_cons_zero, List.set_cons_succ]
      refine wpAnyH_take (i := 19) (v := ?_) rfl (by as_aux_lemma => kernel_rfl) (by as_aux_lemma => kernel_rfl) (by as_aux_lemma => kernel_rfl) (fun _ _ _ h => h) (Or.inl ⟨by as_aux_lemma => first | kernel_rfl | rfl, ?_⟩) (by assumption) ?_
      rotate_left
      · (intro w hSw; (try dsimp only at hSw); go_simp; try with_reducible rfl)
      simp only [List.getElem_toArray, List.getElem_cons_zero, List.getElem_cons_succ, Act.put, List.setIfInBounds_toArray, List.set_cons_zero, List.set_cons_succ]
      refine wpAnyH_take (i := 20) (v := ?_) rfl (by as_aux_lemma => kernel_rfl) (by as_aux_lemma => kernel_rfl) (by as_aux_lemma => kernel_rfl) (fun _ _ _ h => h) (Or.inl ⟨by as_aux_lemma => first | kernel_rfl | rfl, ?_⟩) (by assumption) ?_
      rotate_left
      · (intro w hSw; (try dsimp only at hSw); go_simp; try with_reducible rfl)
      simp only [List.getElem_toArray, List.getElem_cons_zero, List.getElem_cons_succ, Act.put, List.setIfInBounds_toArray, List.set_cons_zero, List.set_cons_succ]
      refine wpAnyH_take (i := 21) (v := ?_) rfl (by as_aux_lemma => kernel_rfl) (by as_aux_lemma => kernel_rfl) (by as_aux_lemma => kernel_rfl) (fun _ _ _ h => h) (Or.inl ⟨by as_aux_lemma => first | kernel_rfl | rfl, ?_⟩) (by assumption) ?_
      rotate_left
      · (intro w hSw; (try dsimp only at hSw); go_simp; try with_reducible rfl)
      simp only [List.getElem_toArray, List.getElem_cons_zero, List.getElem_cons_succ, Act.put, List.setIfInBounds_toArray, List.set_cons_zero, List.set_cons_succ]
      refine wpAnyH_take (i := 22) (v := ?_) rfl (by as_aux_lemma => kernel_rfl) (by as_aux_lemma => kernel_rfl) (by as_aux_lemma => kernel_rfl) (fun _ _ _ h => h) (Or.inl ⟨by as_aux_lemma => first | kernel_rfl | rfl, ?_⟩) (by assumption) ?_
      rotate_left
      · (intro w hSw; (try dsimp only at hSw); go_simp; try with_reducible rfl)
      simp only [List.getElem_toArray, List.getElem_cons_zero, List.getElem_cons_succ, Act.put, List.setIfInBounds_toArray, List.set_cons_zero, List.set_cons_succ]
      refine wpAnyH_take (i := 23) (v := ?_) rfl (by as_aux_lemma => kernel_rfl) (by as_aux_lemma => kernel_rfl) (by as_aux_lemma => kernel_rfl) (fun _ _ _ h => h) (Or.inl ⟨by as_aux_lemma => first | kernel_rfl | rfl, ?_⟩) (by assumption) ?_
      rotate_left
      · (intro w hSw; (try dsimp only at hSw); go_simp; try with_reducible rfl)
      simp only [List.getElem_toArray, List.getElem_cons_zero, List.getElem_cons_succ, Act.put, List.setIfInBounds_toArray, List.set_cons_zero, List.set_cons_succ]
      refine wpAnyH_ready (rs := [24]) (by as_aux_lemma => kernel_rfl) (by simp) ?_
      refine AllReadyH.cons rfl (fun K24 hK24 => ?_) AllReadyH.nil
      go_simp
      go_at_call 7
      refine (iA2.out _ (rV1.out _ D1_4)).mono ?_
      rintro e z1_5 ⟨rfl, hb1_5⟩
      have D1_5 := bgo D1_4 hb1_5
      go_wp2_with fail
      refine hK24.out _ _ (kV1.out _ D1_5) (fun hH24 => ?_)
      refine wpAnyH_take (i := 25) (v := ?_) rfl (by as_aux_lemma => kernel_rfl) (by as_aux_lemma => kernel_rfl) (by as_aux_lemma => kernel_rfl) (fun _ _ _ h => h) (Or.inl ⟨by as_aux_lemma => first | kernel_rfl | rfl, ?_⟩) (by assumption) ?_
      rotate_left
      · (intro w hSw; (try dsimp only at hSw); go_simp; try with_reducible rfl)
      simp only [List.getElem_toArray, List.getElem_cons_zero, List.getElem_cons_succ, Act.put, List.setIfInBounds_toArray, List.set_cons_zero, List.set_cons_succ]
      refine wpAnyH_take (i := 26) (v := ?_) rfl (by as_aux_lemma => kernel_rfl) (by as_aux_lemma => kernel_rfl) (by as_aux_lemma => kernel_rfl) (fun _ _ _ h => h) (Or.inl ⟨by as_aux_lemma => first | kernel_rfl | rfl, ?_⟩) (by assumption) ?_
      rotate_left
      · (intro w hSw; (try dsimp only at hSw); go_simp; try with_reducible rfl)
      simp only [List.getElem_toArray, List.getElem_cons_zero, List.getElem_cons_succ, Act.put, List.setIfInBounds_toArray, List.set_cons_zero, List.set_cons_succ]
      refine wpAnyH_done (by as_aux_lemma => kernel_rfl) ?_ _
      go_wp2_with fail
      go_meet
      exact ⟨rfl, D1_5⟩
  case rest =>
  as_aux_lemma =>
    obtain ⟨rfl, D1⟩ := hcut
    have c3 := kV1.out _ D1
    clear sA iA2 sR sE c2 D0
    go_upto_if 76 with fail
    go_cut [] (fun wx => Below V1.heap.size V1 wx)
    case first =>
      as_aux_lemma =>
        rcases hzz.out with h1 | h1
        · subst h1
          go_wp2_with fail
          go_meet
          exact D1
        · go_wp2_with fail
          refine (iN.out _ (rV1.out _ D1)).mono ?_
          rintro e x3 ⟨rfl, hb3⟩
          have D3 := bgo D1 hb3
          have c4 := kV1.out _ D3
          go_wp2_with fail
          refine (hat.out _ ((hr.below (bgo B1 D3)).more (bgo B1 D3).size)).mono ?_
          rintro e x3 ⟨⟨X, rfl, hX⟩, rfl⟩
          obtain ⟨Nn, W, f1, f2, f3, f4, f5, f6, f7, f8, f9, f10, f11, f12, f13, f14, f15, f16, f17, f18⟩ := hgf.out h1 X
          subst f1
          have i1 := hid fun w hr => iAA.out Z U f4 f5 w hr
          have i2 := hid fun w hr => iAA.out x 0 hx ⟨by omega, by omega⟩ w hr
          have i3 := hid fun w hr => iAA.out Z W f4 f6 w hr
          have i4 := hid fun w hr => sAA.out W f6 w hr
          have i5 := hid fun w hr => iAA.out x (addE g1 y W) hx f7 w hr
          have i6 := hid fun w hr => iM.out O f12 w hr
          have i7 := hid fun u w hr hs => iL.out u P w hr hs (by have := hPl.out; omega)
          rw [f8] at i1
          rw [f9] at i2
          rw [← f10] at i5
          rw [f13] at i6
          rw [← f16] at f17 f18
          rw [if_pos f17, f18] at i7
          obtain ⟨Q1, eQ1⟩ : ∃ Q, Q = addE g1 Z W := ⟨_, rfl⟩
          obtain ⟨Q2, eQ2⟩ : ∃ Q, Q = addE g1 y W := ⟨_, rfl⟩
          rw [← eQ1] at i3 i5
          rw [← eQ2] at i4 i5
          have hNn : ¬ (Nn : Int) = 0 := by omega
          have hNb : ((Nn : Int) == 0) = false := beq_eq_false_iff_ne.2 hNn
          have hOo : ¬ O = 0 := by omega
          have hOb : (O == 0) = false := beq_eq_false_iff_ne.2 hOo
          have hO1 : decide (O < 1) = false := decide_eq_false (by omega)
          clear f4 f5 f6 f7 f8 f9 f10 f12 f13 f16 f17 f18 eQ1 eQ2 iAA sAA iM iL hgf hX c3 hb3 iN
          go_upto_region 11 with fail
          go_cut [110] (fun s110 wx => s110 = .bool false ∧ Below V1.heap.size V1 wx)
          case first =>
            refine wp_region_held_lit (S := fun w' => w'.cell? ⟨w1.heap.size, 0, none⟩ = some (.slice ao1 g1.length cap1)) #[false, false, false, false, false, false, false, false, false, false, false, false, false, false, false, false, false, false, false, false, false, false, false, false, false, false, false] (by kernel_rfl) (by kernel_rfl) c4 (fun hH0 => ?_)
            refine wpAnyH_take (i := 0) (v := ?_) rfl (by as_aux_lemma => kernel_rfl) (by as_aux_lemma => kernel_rfl) (by as_aux_lemma => kernel_rfl) (fun _ _ _ h => h) (Or.inl ⟨by as_aux_lemma => first | kernel_rfl | rfl, ?_⟩) (by assumption) ?_
            rotate_left
            · (intro w hSw; (try dsimp only at hSw); go_simp; try with_reducible rfl)
            simp only [List.getElem_toArray, List.getElem_cons_zero, List.getElem_cons_succ, Act.put, List.setIfInBounds_toArray, List.set_cons_zero, List.set_cons_succ]
            refine wpAnyH_take (i := 1) (v := ?_) rfl (by as_aux_lemma => kernel_rfl) (by as_aux_lemma => kernel_rfl) (by as_aux_lemma => kernel_rfl) (fun _ _ _ h => h) (Or.inl ⟨by as_aux_lemma => first | kernel_rfl | rfl, ?_⟩) (by assumption) ?_
            rotate_left
            · (intro w hSw; (try dsimp only at hSw); go_simp; try with_reducible rfl)
            simp only [List.getElem_toArray, List.getElem_cons_zero, List.getElem_cons_succ, Act.put, List.setIfInBounds_toArray, List.set_cons_zero, List.set_cons_succ]
            refine wpAnyH_take (i := 2) (v := ?_) rfl (by as_aux_lemma => kernel_rfl) (by as_aux_lemma => kernel_rfl) (by as_aux_lemma => kernel_rfl) (fun _ _ _ h => h) (Or.inl ⟨by as_aux_lemma => first | kernel_rfl | rfl, ?_⟩) (by assumption) ?_
            rotate_left
            · (intro w hSw; (try dsimp only at hSw); go_simp; try with_reducible rfl)
            simp only [List.getElem_toArray, List.getElem_cons_zero, List.getElem_cons_succ, Act.put, List.setIfInBounds_toArray, List.set_cons_zero, List.set_cons_succ]
            refine wpAnyH_take (i := 4) (v := ?_) rfl (by as_aux_lemma => kernel_rfl) (by as_aux_lemma => kernel_rfl) (by as_aux_lemma => kernel_rfl) (fun _ _ _ h => h) (Or.inl ⟨by as_aux_lemma => first | kernel_rfl | rfl, ?_⟩) (by assumption) ?_
            rotate_left
            · (intro w hSw; (try dsimp only at hSw); go_simp; try with_reducible rfl)
            simp only [List.getElem_toArray, List.getElem_cons_zero, List.getElem_cons_succ, Act.put, List.setIfInBounds_toArray, List.set_cons_zero, List.set_cons_succ]
            refine wpAnyH_ready (rs := [3]) (by as_aux_lemma => kernel_rfl) (by simp) ?_
            refine AllReadyH.cons rfl (fun K3 hK3 => ?_) AllReadyH.nil
            go_simp
            go_at_call 7
            refine (i1.out _ (rV1.out _ D3.drew)).mono ?_
            rintro e z2_1 ⟨rfl, hb2_1⟩
            have D2_1 := bgo D3.drew hb2_1
            go_wp2_with fail
            refine hK3.out _ _ (kV1.out _ D2_1) (fun hH3 => ?_)
            refine wpAnyH_take (i := 5) (v := ?_) rfl (by as_aux_lemma => kernel_rfl) (by as_aux_lemma => kernel_rfl) (by as_aux_lemma => kernel_rfl) (fun _ _ _ h => h) (Or.inl ⟨by as_aux_lemma => first | kernel_rfl | rfl, ?_⟩) (by assumption) ?_
            rotate_left
            · (intro w hSw; (try dsimp only at hSw); go_simp; try with_reducible rfl)
            simp only [List.getElem_toArray, List.getElem_cons_zero, List.getElem_cons_succ, Act.put, List.setIfInBounds_toArray, List.set_cons_zero, List.set_cons_succ]
            refine wpAnyH_take (i := 6) (v := ?_) rfl (by as_aux_lemma => kernel_rfl) (by as_aux_lemma => kernel_rfl) (by as_aux_lemma => kernel_rfl) (fun _ _ _ h => h) (Or.inl ⟨by as_aux_lemma => first | kernel_rfl | rfl, ?_⟩) (by assumption) ?_
            rotate_left
            · (intro w hSw; (try dsimp only at hSw); go_simp; try with_reducible rfl)
            simp only [List.getElem_toArray, List.getElem_cons_zero, List.getElem_cons_succ, Act.put, List.setIfInBounds_toArray, List.set_cons_zero, List.set_cons_succ]
            refine wpAnyH_take (i := 7) (v := ?_) rfl (by as_aux_lemma => kernel_rfl) (by as_aux_lemma => kernel_rfl) (by as_aux_lemma => kernel_rfl) (fun _ _ _ h => h) (Or.inl ⟨by as_aux_lemma => first | kernel_rfl | rfl, ?_⟩) (by assumption) ?_
            rotate_left
            · (intro w hSw; (try dsimp only at hSw); go_simp; try with_reducible rfl)
            simp only [List.getElem_toArray, List.getElem_cons_zero, List.getElem_cons_succ, Act.put, List.setIfInBounds_toArray, List.set_cons_zero, List.set_cons_succ]
            refine wpAnyH_take (i := 8) (v := ?_) rfl (by as_aux_lemma => kernel_rfl) (by as_aux_lemma => kernel_rfl) (by as_aux_lemma => kernel_rfl) (fun _ _ _ h => h) (Or.inl ⟨by as_aux_lemma => first | kernel_rfl | rfl, ?_⟩) (by assumption) ?_
            rotate_left
            · (intro w hSw; (try dsimp only at hSw); go_simp; try with_reducible rfl)
            simp only [List.getElem_toArray, List.getElem_cons_zero, List.getElem_cons_succ, Act.put, List.setIfInBounds_toArray, List.set_cons_zero, List.set_cons_succ]
            refine wpAnyH_take (i := 10) (v := ?_) rfl (by as_aux_lemma => kernel_rfl) (by as_aux_lemma => kernel_rfl) (by as_aux_lemma => kernel_rfl) (fun _ _ _ h => h) (Or.inl ⟨by as_aux_lemma => first | kernel_rfl | rfl, ?_⟩) (by assumption) ?_
            rotate_left
            · (intro w hSw; (try dsimp only at hSw); go_simp; try with_reducible rfl)
            simp only [List.getElem_toArray, List.getElem_cons_zero, List.getElem_cons_succ, Act.put, List.setIfInBounds_toArray, List.set_cons_zero, List.set_cons_succ]
            refine wpAnyH_ready (rs := [9]) (by as_aux_lemma => kernel_rfl) (by simp) ?_
            refine AllReadyH.cons rfl (fun K9 hK9 => ?_) AllReadyH.nil
            go_simp
            go_at_call 7
            refine (i2.out _ (rV1.out _ D2_1)).mono ?_
            rintro e z2_2 ⟨rfl, hb2_2⟩
            have D2_2 := bgo D2_1 hb2_2
            go_wp2_with fail
            refine hK9.out _ _ (kV1.out _ D2_2) (fun hH9 => ?_)
            refine wpAnyH_take (i := 11) (v := ?_) rfl (by as_aux_lemma => kernel_rfl) (by as_aux_lemma => kernel_rfl) (by as_aux_lemma => kernel_rfl) (fun _ _ _ h => h) (Or.inl ⟨by as_aux_lemma => first | kernel_rfl | rfl, ?_⟩) (by assumption) ?_
            rotate_left
            · (intro w hSw; (try dsimp only at hSw); go_simp; try with_reducible rfl)
            simp only [List.getElem_toArray, List.getElem_cons_zero, List.getElem_cons_succ, Act.put, List.setIfInBounds_toArray, List.set_cons_zero, List.set_cons_succ]
            refine wpAnyH_take (i := 12) (v := ?_) rfl (by as_aux_lemma => kernel_rfl) (by as_aux_lemma => kernel_rfl) (by as_aux_lemma => kernel_rfl) (fun _ _ _ h => h) (Or.inl ⟨by as_aux_lemma => first | kernel_rfl | rfl, ?_⟩) (by assumption) ?_
            rotate_left
            · (intro w hSw; (try dsimp only at hSw); go_simp; try with_reducible rfl)
            simp only [List.getElem_toArray, List.getElem_cons_zero, List.getElem_cons_succ, Act.put, List.setIfInBounds_toArray, List.set_cons_zero, List.set_cons_succ]
            refine wpAnyH_take (i := 13) (v := ?_) rfl (by as_aux_lemma => kernel_rfl) (by as_aux_lemma => kernel_rfl) (by as_aux_lemma => kernel_rfl) (fun _ _ _ h => h) (Or.inl ⟨by as_aux_lemma => first | kernel_rfl | rfl, ?_⟩) (by assumption) ?_
            rotate_left
            · (intro w hSw; (try dsimp only at hSw); go_simp; try with_reducible rfl)
            simp only [List.getElem_toArray, List.getElem_cons_zero, List.getElem_cons_succ, Act.put, List.setIfInBounds_toArray, List.set_cons_zero, List.set_cons_succ]
            refine wpAnyH_take (i := 14) (v := ?_) rfl (by as_aux_lemma => kernel_rfl) (by as_aux_lemma => kernel_rfl) (by as_aux_lemma => kernel_rfl) (fun _ _ _ h => h) (Or.inl ⟨by as_aux_lemma => first | kernel_rfl | rfl, ?_⟩) (by assumption) ?_
            rotate_left
            · (intro w hSw; (try dsimp only at hSw); go_simp; try with_reducible rfl)
            simp only [List.getElem_toArray, List.getElem_cons_zero, List.getElem_cons_succ, Act.put, List.setIfInBounds_toArray, List.set_cons_zero, List.set_cons_succ]
            refine wpAnyH_take (i := 15) (v := ?_) rfl (by as_aux_lemma => kernel_rfl) (by as_aux_lemma => kernel_rfl) (by as_aux_lemma => kernel_rfl) (fun _ _ _ h => h) (Or.inl ⟨by as_aux_lemma => first | kernel_rfl | rfl, ?_⟩) (by assumption) ?_
            rotate_left
            · (intro w hSw; (try dsimp only at hSw); go_simp; try with_reducible rfl)
            simp only [List.getElem_toArray, List.getElem_cons_zero, List.getElem_cons_succ, Act.put, List.setIfInBounds_toArray, List.set_cons_zero, List.set_cons_succ]
            refine wpAnyH_take (i := 16) (v := ?_) rfl (by as_aux_lemma => kernel_rfl) (by as_aux_lemma => kernel_rfl) (by as_aux_lemma => kernel_rfl) (fun _ _ _ h => h) (Or.inl ⟨by as_aux_lemma => first | kernel_rfl | rfl, ?_⟩) (by assumption) ?_
            rotate_left
            · (intro w hSw; (try dsimp only at hSw); go_simp; try with_reducible rfl)
            simp only [List.getElem_toArray, List.getElem_cons_zero, List.getElem_cons_succ, Act.put, List.setIfInBounds_toArray, List.set_cons_zero, List.set_cons_succ]
            refine wpAnyH_take (i := 18) (v := ?_) rfl (by as_aux_lemma => kernel_rfl) (by as_aux_lemma => kernel_rfl) (by as_aux_lemma => kernel_rfl) (fun _ _ _ h => h) (Or.inl ⟨by as_aux_lemma => first | kernel_rfl | rfl, ?_⟩) (by assumption) ?_
            rotate_left
            · (intro w hSw; (try dsimp only at hSw); go_simp; try with_reducible rfl)
            simp only [List.getElem_toArray, List.getElem_cons_zero, List.getElem_cons_succ, Act.put, List.setIfInBounds_toArray, List.set_cons_zero, List.set_cons_succ]
            refine wpAnyH_take (i := 19) (v := ?_) rfl (by as_aux_lemma => kernel_rfl) (by as_aux_lemma => kernel_rfl) (by as_aux_lemma => kernel_rfl) (fun _ _ _ h => h) (Or.inl ⟨by as_aux_lemma => first | kernel_rfl | rfl, ?_⟩) (by assumption) ?_
            rotate_left
            · (intro w hSw; (try dsimp only at hSw); go_simp; try with_reducible rfl)
            simp only [List.getElem_toArray, List.getElem_cons_zero, List.getElem_cons_succ, Act.put, List.setIfInBounds_toArray, List.set_cons_zero, List.set_cons_succ]
            refine wpAnyH_take (i := 20) (v := ?_) rfl (by as_aux_lemma => kernel_rfl) (by as_aux_lemma => kernel_rfl) (by as_aux_lemma => kernel_rfl) (fun _ _ _ h => h) (Or.inl ⟨by as_aux_lemma => first | kernel_rfl | rfl, ?_⟩) (by assumption) ?_
            rotate_left
            · (intro w hSw; (try dsimp only at hSw); go_simp; try with_reducible rfl)
            simp only [List.getElem_toArray, List.getElem_cons_zero, List.getElem_cons_succ, Act.put, List.setIfInBounds_toArray, List.set_cons_zero, List.set_cons_succ]
            refine wpAnyH_take (i := 21) (v := ?_) rfl (by as_aux_lemma => kernel_rfl) (by as_aux_lemma => kernel_rfl) (by as_aux_lemma => kernel_rfl) (fun _ _ _ h => h) (Or.inl ⟨by as_aux_lemma => first | kernel_rfl | rfl, ?_⟩) (by assumption) ?_
            rotate_left
            · (intro w hSw; (try dsimp only at hSw); go_simp; try with_reducible rfl)
            simp only [List.getElem_toArray, List.getElem_cons_zero, List.getElem_cons_succ, Act.put, List.setIfInBounds_toArray, List.set_cons_zero, List.set_cons_succ]
            refine wpAnyH_take (i := 22) (v := ?_) rfl (by as_aux_lemma => kernel_rfl) (by as_aux_lemma => kernel_rfl) (by as_aux_lemma => kernel_rfl) (fun _ _ _ h => h) (Or.inl ⟨by as_aux_lemma => first | kernel_rfl | rfl, ?_⟩) (by assumption) ?_
            rotate_left
            · (intro w hSw; (try dsimp only at hSw); go_simp; try with_reducible rfl)
            simp only [List.getElem_toArray, List.getElem_cons_zero, List.getElem_cons_succ, Act.put, List.setIfInBounds_toArray, List.set_cons_zero, List.set_cons_succ]
            refine wpAnyH_ready (rs := [17]) (by as_aux_lemma => kernel_rfl) (by simp) ?_
            refine AllReadyH.cons rfl (fun K17 hK17 => ?_) AllReadyH.nil
            go_simp
            go_at_call 7
            refine (i3.out _ (rV1.out _ D2_2)).mono ?_
            rintro e z2_3 ⟨rfl, hb2_3⟩
            have D2_3 := bgo D2_2 hb2_3
            go_wp2_with fail
            refine hK17.out _ _ (kV1.out _ D2_3) (fun hH17 => ?_)
            refine wpAnyH_ready (rs := [23]) (by as_aux_lemma => kernel_rfl) (by simp) ?_
            refine AllReadyH.cons rfl (fun K23 hK23 => ?_) AllReadyH.nil
            go_simp
            go_at_call 9
            refine (i4.out _ (rV1.out _ D2_3)).mono ?_
            rintro e z2_4 ⟨rfl, hb2_4⟩
            have D2_4 := bgo D2_3 hb2_4
            go_wp2_with fail
            refine hK23.out _ _ (kV1.out _ D2_4) (fun hH23 => ?_)
            refine wpAnyH_ready (rs := [24]) (by as_aux_lemma => kernel_rfl) (by simp) ?_
            refine AllReadyH.cons rfl (fun K24 hK24 => ?_) AllReadyH.nil
            go_simp
            go_at_call 7
            refine (i5.out _ (rV1.out _ D2_4)).mono ?_
            rintro e z2_5 ⟨rfl, hb2_5⟩
            have D2_5 := bgo D2_4 hb2_5
            go_wp2_with fail
            refine hK24.out _ _ (kV1.out _ D2_5) (fun hH24 => ?_)
            refine wpAnyH_take (i := 25) (v := ?_) rfl (by as_aux_lemma => kernel_rfl) (by as_aux_lemma => kernel_rfl) (by as_aux_lemma => kernel_rfl) (fun _ _ _ h => h) (Or.inl ⟨by as_aux_lemma => first | kernel_rfl | rfl, ?_⟩) (by assumption) ?_
            rotate_left
            · (intro w hSw; (try dsimp only at hSw); go_simp; try with_reducible rfl)
            simp only [List.getElem_toArray, List.getElem_cons_zero, List.getElem_cons_succ, Act.put, List.setIfInBounds_toArray, List.set_cons_zero, List.set_cons_succ]
            refine wpAnyH_take (i := 26) (v := ?_) rfl (by as_aux_lemma => kernel_rfl) (by as_aux_lemma => kernel_rfl) (by as_aux_lemma => kernel_rfl) (fun _ _ _ h => h) (Or.inl ⟨by as_aux_lemma => first | kernel_rfl | rfl, ?_⟩) (by assumption) ?_
            rotate_left
            · (intro w hSw; (try dsimp only at hSw); go_simp; try with_reducible rfl)
            simp only [List.getElem_toArray, List.getElem_cons_zero, List.getElem_cons_succ, Act.put, List.setIfInBounds_toArray, List.set_cons_zero, List.set_cons_succ]
            refine wpAnyH_done (by as_aux_lemma => kernel_rfl) ?_ _
            go_wp2_with fail
            go_meet
            exact ⟨rfl, D2_5⟩
          case rest =>
          obtain ⟨rfl, D4⟩ := hcut
          have c5 := kV1.out _ D4
          clear c4 D3 i1 i2 i3 i4 i5
          go_wp2_with fail
          refine (iO.out _ (rV1.out _ D4)).mono ?_
          rintro e x5 ⟨rfl, hb5⟩
          have D5 := bgo D4 hb5
          have c6 := kV1.out _ D5
          clear c5 hb5 iO
          go_wp2_with fail
          refine wp_region_held_drew (S := fun w' => w'.cell? ⟨w1.heap.size, 0, none⟩ = some (.slice ao1 g1.length cap1)) (by kernel_rfl) c6 (fun hH0 => ?_)
          refine wpAnyH_take (i := 0) (v := ?_) rfl (by kernel_rfl) (by kernel_rfl) (by kernel_rfl) (fun _ _ _ h => h) (Or.inl ⟨by first | kernel_rfl | rfl, ?_⟩) (by assumption) ?_
          rotate_left
          · (intro w hSw; (try dsimp only at hSw); go_simp; try with_reducible rfl)
          simp only [List.getElem_toArray, List.getElem_cons_zero, List.getElem_cons_succ, Act.put, List.setIfInBounds_toArray, List.set_cons_zero, List.set_cons_succ]
          refine wpAnyH_take (i := 1) (v := ?_) rfl (by kernel_rfl) (by kernel_rfl) (by kernel_rfl) (fun _ _ _ h => h) (Or.inl ⟨by first | kernel_rfl | rfl, ?_⟩) (by assumption) ?_
          rotate_left
          · (intro w hSw; (try dsimp only at hSw); go_simp; try with_reducible rfl)
          simp only [List.getElem_toArray, List.getElem_cons_zero, List.getElem_cons_succ, Act.put, List.setIfInBounds_toArray, List.set_cons_zero, List.set_cons_succ]
          refine wpAnyH_take (i := 2) (v := ?_) rfl (by kernel_rfl) (by kernel_rfl) (by kernel_rfl) (fun _ _ _ h => h) (Or.inl ⟨by first | kernel_rfl | rfl, ?_⟩) (by assumption) ?_
          rotate_left
          · (intro w hSw; (try dsimp only at hSw); go_simp; try with_reducible rfl)
          simp only [List.getElem_toArray, List.getElem_cons_zero, List.getElem_cons_succ, Act.put, List.setIfInBounds_toArray, List.set_cons_zero, List.set_cons_succ]
          refine wpAnyH_ready (rs := [3]) (by kernel_rfl) (by simp) ?_
          refine AllReadyH.cons rfl (fun K3 hK3 => ?_) AllReadyH.nil
          go_simp
          go_at_call 17
          refine (iP.out _ (rV1.out _ D5.drew)).mono ?_
          rintro e z3_1 ⟨aop, capp, rfl, hop, hb3_1⟩
          have D3_1 := bgo D5.drew hb3_1
          have hop' := hid (Rd.of_own hop)
          clear hop
          go_wp2_with fail
          refine hK3.out _ _ (kV1.out _ D3_1) (fun hH3 => ?_)
          refine wpAnyH_ready (rs := [4]) (by kernel_rfl) (by simp) ?_
          refine AllReadyH.cons rfl (fun K4 hK4 => ?_) AllReadyH.nil
          go_simp
          go_at_call 16
          refine (i7.out _ _ (rV1.out _ D3_1) hop'.out).mono ?_
          rintro e z3_2 ⟨rfl, hb3_2⟩
          have D3_2 := bgo D3_1 hb3_2
          go_wp2_with fail
          refine hK4.out _ _ (kV1.out _ D3_2) (fun hH4 => ?_)
          refine wpAnyH_take (i := 5) (v := ?_) rfl (by kernel_rfl) (by kernel_rfl) (by kernel_rfl) (fun _ _ _ h => h) (Or.inl ⟨by first | kernel_rfl | rfl, ?_⟩) (by assumption) ?_
          rotate_left
          · (intro w hSw; (try dsimp only at hSw); go_simp; try with_reducible rfl)
          simp only [List.getElem_toArray, List.getElem_cons_zero, List.getElem_cons_succ, Act.put, List.setIfInBounds_toArray, List.set_cons_zero, List.set_cons_succ]
          refine wpAnyH_take (i := 6) (v := ?_) rfl (by kernel_rfl) (by kernel_rfl) (by kernel_rfl) (fun _ _ _ h => h) (Or.inl ⟨by first | kernel_rfl | rfl, ?_⟩) (by assumption) ?_
          rotate_left
          · (intro w hSw; (try dsimp only at hSw); go_simp; try with_reducible rfl)
          simp only [List.getElem_toArray, List.getElem_cons_zero, List.getElem_cons_succ, Act.put, List.setIfInBounds_toArray, List.set_cons_zero, List.set_cons_succ]
          refine wpAnyH_take (i := 7) (v := ?_) rfl (by kernel_rfl) (by kernel_rfl) (by kernel_rfl) (fun _ _ _ h => h) (Or.inl ⟨by first | kernel_rfl | rfl, ?_⟩) (by assumption) ?_
          rotate_left
          · (intro w hSw; (try dsimp only at hSw); go_simp; try with_reducible rfl)
          simp only [List.getElem_toArray, List.getElem_cons_zero, List.getElem_cons_succ, Act.put, List.setIfInBounds_toArray, List.set_cons_zero, List.set_cons_succ]
          refine wpAnyH_take (i := 8) (v := ?_) rfl (by kernel_rfl) (by kernel_rfl) (by kernel_rfl) (fun _ _ _ h => h) (Or.inl ⟨by first | kernel_rfl | rfl, ?_⟩) (by assumption) ?_
          rotate_left
          · (intro w hSw; (try dsimp only at hSw); go_simp; try with_reducible rfl)
          simp only [List.getElem_toArray, List.getElem_cons_zero, List.getElem_cons_succ, Act.put, List.setIfInBounds_toArray, List.set_cons_zero, List.set_cons_succ]
          refine wpAnyH_take (i := 9) (v := ?_) rfl (by kernel_rfl) (by kernel_rfl) (by kernel_rfl) (fun _ _ _ h => h) (Or.inl ⟨by first | kernel_rfl | rfl, ?_⟩) (by assumption) ?_
          rotate_left
          · (intro w hSw; (try dsimp only at hSw); go_simp; try with_reducible rfl)
          simp only [List.getElem_toArray, List.getElem_cons_zero, List.getElem_cons_succ, Act.put, List.setIfInBounds_toArray, List.set_cons_zero, List.set_cons_succ]
          refine wpAnyH_done (by kernel_rfl) ?_ _
          have c7 := kV1.out _ D3_2
          go_wp2_with fail
          refine (i6.out _ (rV1.out _ D3_2)).mono ?_
          rintro e x8 ⟨rfl, hb8⟩
          have D8 := bgo D3_2 hb8
          have c8 := kV1.out _ D8
          clear c7 hb8
          go_wp2_with fail
          refine (iE.out _ (rV1.out _ D8)).mono ?_
          rintro e x9 ⟨rfl, hb9⟩
          have D9 := bgo D8 hb9
          go_wp2_with fail
          go_meet
          exact D9
    case rest =>
    as_aux_lemma =>
      have c4 := kV1.out _ hcut
      clear iE iAA sAA iN iO iP iL iM hzz hgf hPl hm D1 c3 hat
      have hpf := pgE_fgE g1
      obtain ⟨b, hb⟩ : ∃ b, b = isGroup g1 := ⟨_, rfl⟩
      obtain ⟨t, ht⟩ : ∃ t, t = strOfNums (fgE g1) := ⟨_, rfl⟩
      have hsz : t.size ≤ 10 := by rw [ht, strOfNums_size]; exact fgE_len g1
      have hsi : sI t = fgE g1 := by rw [ht]; exact sI_nums (isB_fgE g1)
      have iG := hid fun w => iParseGroup_any t w (by omega)
      rw [hsi] at iG
      rw [← ht] at iF sF
      rw [← hb] at iI sI' hpf
      obtain ⟨H, eH⟩ : ∃ H, H = pgE (fgE g1) := ⟨_, rfl⟩
      rw [← eH] at iG hpf
      obtain ⟨H1, H2⟩ := H
      have hHl : H1.length ≤ 16 := by have := pgE_len (fgE g1); rw [← eH] at this; have := fgE_len g1; simp at *; omega
      replace hpf := hid hpf
      replace hHl := hid hHl
      have sQ := hid fun u v l w (hn : l.length ≤ 1073741824) h1 h2 => sEqualGroups_any u v l l w h1 h2 hn
      have hqq := eqL_self
      replace hqq := hid hqq
      clear eH ht hb hsi
      go_wp2_with fail
      refine (iF.out _ (rV1.out _ hcut)).mono ?_
      rintro e x1 ⟨rfl, hb1⟩
      have E1 := bgo hcut hb1
      have c5 := kV1.out _ E1
      clear hb1 c4 iF
      go_wp2_with fail
      refine (iG.out _).mono ?_
      rintro e x2 ⟨⟨aoh, caph, rfl, hoh⟩, hb2⟩
      have E2 := bgo E1 hb2
      have c6 := kV1.out _ E2
      have rh := hid (Rd.of_own hoh)
      clear hb2 c5 hoh iG
      obtain ⟨V2, hV2⟩ : ∃ V, V = x2.alloc (.cells #[.slice aoh H1.length caph] 26) := ⟨_, rfl⟩
      have bV2 : Below x2.heap.size x2 V2 := hV2 ▸ below_alloc _ _
      have cV2 : V2.cell? ⟨x2.heap.size, 0, none⟩ = some (.slice aoh H1.length caph) := by rw [hV2]; simp [go_sem]
      have zV2 : x2.heap.size < V2.heap.size := by rw [hV2]; simp
      have kV2 := hid fun w' (h : Below V2.heap.size V2 w') => (h.cell (p := ⟨x2.heap.size, 0, none⟩) zV2).trans cV2
      have rV2 := hid fun w' (h : Below V2.heap.size V2 w') => ((rh.out.below bV2).below (h.mono bV2.size)).more (Nat.le_trans bV2.size h.size)
      have E3 := bgo E2 bV2
      have B3 := bgo B1 E3
      go_wp2_with fail
      rw [← hV2]
      clear hV2 bV2 rh
      refine (d2.out _ ((hr.below B3).more B3.size)).mono ?_
      rintro e x4 ⟨⟨s, rfl, hs⟩, F4⟩
      have iG := hid fun w => iParseGroup_any s w (by omega)
      have sG := hid fun w => sParseGroup_any s w (by omega)
      have hKl : (pgE (sI s)).1.length ≤ 1048576 := by have := pgE_len (sI s); rw [sI_length] at this; omega
      obtain ⟨K, eK⟩ : ∃ K, K = pgE (sI s) := ⟨_, rfl⟩
      rw [← eK] at iG sG hKl
      obtain ⟨K1, K2⟩ := K
      replace hKl := hid hKl
      clear eK hs
      go_wp2_with fail
      refine (iG.out _).mono ?_
      rintro e x5 ⟨⟨aok, capk, rfl, hok⟩, hb5⟩
      have F5 := bgo F4 hb5
      have rk := hid (Rd.of_own hok)
      clear hb5 hok iG
      obtain ⟨V3, hV3⟩ : ∃ V, V = x5.alloc (.cells #[.slice aok K1.length capk] 26) := ⟨_, rfl⟩
      have bV3 : Below x5.heap.size x5 V3 := hV3 ▸ below_alloc _ _
      have cV3 : V3.cell? ⟨x5.heap.size, 0, none⟩ = some (.slice aok K1.length capk) := by rw [hV3]; simp [go_sem]
      have zV3 : x5.heap.size < V3.heap.size := by rw [hV3]; simp
      have kV3 := hid fun w' (h : Below V3.heap.size V3 w') => (h.cell (p := ⟨x5.heap.size, 0, none⟩) zV3).trans cV3
      have rV3 := hid fun w' (h : Below V3.heap.size V3 w') => ((rk.out.below bV3).below (h.mono bV3.size)).more (Nat.le_trans bV3.size h.size)
      have F6 := bgo F5 bV3
      go_wp2_with fail
      rw [← hV3]
      clear hV3 bV3 rk
      refine (sG.out _).mono ?_
      rintro e x7 ⟨⟨aol, capl, rfl, hol⟩, H7⟩
      have rl := hid (Rd.of_own hol)
      clear hol sG
      obtain ⟨V4, hV4⟩ : ∃ V, V = x7.alloc (.cells #[.slice aol K1.length capl] 26) := ⟨_, rfl⟩
      have bV4 : Below x7.heap.size x7 V4 := hV4 ▸ below_alloc _ _
      have cV4 : V4.cell? ⟨x7.heap.size, 0, none⟩ = some (.slice aol K1.length capl) := by rw [hV4]; simp [go_sem]
      have zV4 : x7.heap.size < V4.heap.size := by rw [hV4]; simp
      have kV4 := hid fun w' (h : Below V4.heap.size V4 w') => (h.cell (p := ⟨x7.heap.size, 0, none⟩) zV4).trans cV4
      have rV4 := hid fun w' (h : Below V4.heap.size V4 w') => ((rl.out.below bV4).below (h.mono bV4.size)).more (Nat.le_trans bV4.size h.size)
      have H8 : Below V3.heap.size V3 V4 := bgo H7 bV4
      have F8 : Below V2.heap.size V2 V4 := bgo F6 H8
      have E8 : Below V1.heap.size V1 V4 := bgo E3 F8
      have B4 : Below w.heap.size w V4 := bgo B1 E8
      have kk1 := hid fun w' (h : Below V4.heap.size V4 w') => kV1.out _ (bgo E8 h)
      have kk2 := hid fun w' (h : Below V4.heap.size V4 w') => kV2.out _ (bgo F8 h)
      have kk3 := hid fun w' (h : Below V4.heap.size V4 w') => kV3.out _ (bgo H8 h)
      have rr1 := hid fun w' (h : Below V4.heap.size V4 w') => rV1.out _ (bgo E8 h)
      have rr2 := hid fun w' (h : Below V4.heap.size V4 w') => rV2.out _ (bgo F8 h)
      have rr3 := hid fun w' (h : Below V4.heap.size V4 w') => rV3.out _ (bgo H8 h)
      have c1 := kk1.out _ (Below.refl _ _)
      have c2 := kk2.out _ (Below.refl _ _)
      have c3 := kk3.out _ (Below.refl _ _)
      have c4 := kV4.out _ (Below.refl _ _)
      go_upto_region 22 with fail
      rw [← hV4]
      clear hV4 bV4 kV1 kV2 kV3 rV1 rV2 rV3 H7 H8 F4 F5 F6 F8 E1 E2 E3 E8 c6 cV1 cV2 cV3 cV4 zV1 zV2 zV3 zV4 hcut B3 rl B1
      go_cut [207] (fun s207 wx => s207 = .bool false ∧ Below w.heap.size w wx)
      case first =>
        as_aux_lemma =>
          cases b
          · have h1 := hpf.out
            injection h1 with h1 h2
            subst h1
            subst h2
            have Q0 := Below.refl V4.heap.size V4
            go_wp2_with fail
            refine (sF.out _ (rr1.out _ Q0)).mono ?_
            rintro e q1 ⟨rfl, hq1⟩
            have Q1 := bgo Q0 hq1
            have c1 := kk1.out _ Q1
            have c2 := kk2.out _ Q1
            have c3 := kk3.out _ Q1
            have c4 := kV4.out _ Q1
            clear hq1
            go_wp2_with fail
            refine (sI'.out _ (rr1.out _ Q1)).mono ?_
            rintro e q2 ⟨rfl, hq2⟩
            have Q2 := bgo Q1 hq2
            have c1 := kk1.out _ Q2
            have c2 := kk2.out _ Q2
            have c3 := kk3.out _ Q2
            have c4 := kV4.out _ Q2
            go_wp2_with fail
            refine (iI.out _ (rr1.out _ Q2)).mono ?_
            rintro e q3 ⟨rfl, hq3⟩
            have Q3 := bgo Q2 hq3
            have c1 := kk1.out _ Q3
            have c2 := kk2.out _ Q3
            have c3 := kk3.out _ Q3
            have c4 := kV4.out _ Q3
            go_wp2_with fail
            refine (hqq.out _ ▸ sQ.out _ _ _ _ (by have := hKl.out; omega) (rr3.out _ Q3) (rV4.out _ Q3)).mono ?_
            rintro e q4 ⟨rfl, hq4⟩
            have Q4 := bgo Q3 hq4
            have c1 := kk1.out _ Q4
            have c2 := kk2.out _ Q4
            have c3 := kk3.out _ Q4
            have c4 := kV4.out _ Q4
            go_wp2_with fail
            go_meet
            exact ⟨rfl, bgo B4 Q4⟩
          · have h1 := hpf.out
            injection h1 with h1 h2
            subst h1
            subst h2
            have Q0 := Below.refl V4.heap.size V4
            go_wp2_with fail
            refine (sF.out _ (rr1.out _ Q0)).mono ?_
            rintro e q1 ⟨rfl, hq1⟩
            have Q1 := bgo Q0 hq1
            have c1 := kk1.out _ Q1
            have c2 := kk2.out _ Q1
            have c3 := kk3.out _ Q1
            have c4 := kV4.out _ Q1
            clear hq1
            go_wp2_with fail
            refine (sI'.out _ (rr1.out _ Q1)).mono ?_
            rintro e q2 ⟨rfl, hq2⟩
            have Q2 := bgo Q1 hq2
            have c1 := kk1.out _ Q2
            have c2 := kk2.out _ Q2
            have c3 := kk3.out _ Q2
            have c4 := kV4.out _ Q2
            go_wp2_with fail
            refine (iI.out _ (rr1.out _ Q2)).mono ?_
            rintro e q3 ⟨rfl, hq3⟩
            have Q3 := bgo Q2 hq3
            have c1 := kk1.out _ Q3
            have c2 := kk2.out _ Q3
            have c3 := kk3.out _ Q3
            have c4 := kV4.out _ Q3
            go_wp2_with fail
            refine (hqq.out _ ▸ sQ.out _ _ _ _ (by have := hHl.out; omega) (rr2.out _ Q3) (rr1.out _ Q3)).mono ?_
            rintro e q4 ⟨rfl, hq4⟩
            have Q4 := bgo Q3 hq4
            have c1 := kk1.out _ Q4
            have c2 := kk2.out _ Q4
            have c3 := kk3.out _ Q4
            have c4 := kV4.out _ Q4
            go_wp2_with fail
            refine (hqq.out _ ▸ sQ.out _ _ _ _ (by have := hKl.out; omega) (rr3.out _ Q4) (rV4.out _ Q4)).mono ?_
            rintro e q5 ⟨rfl, hq5⟩
            have Q5 := bgo Q4 hq5
            have c1 := kk1.out _ Q5
            have c2 := kk2.out _ Q5
            have c3 := kk3.out _ Q5
            have c4 := kV4.out _ Q5
            go_wp2_with fail
            go_meet
            exact ⟨rfl, bgo B4 Q5⟩
      case rest =>
      as_aux_lemma =>
        obtain ⟨rfl, Bc⟩ := hcut
        clear sF iI sI' hpf hHl sQ hqq hKl kk1 kk2 kk3 rr1 rr2 rr3 c1 c2 c3 c4 kV4 rV4 B4 d2 hsz
        go_wp2_with fail
        refine (d3.out _ ((hr.below Bc).more Bc.size)).mono ?_
        rintro e w5 ⟨⟨u, g5, p, rfl, hg5, hp⟩, hb5⟩
        obtain ⟨ao5, cap5, rfl⟩ := hg5.shape
        have A5 := bgo Bc hb5
        have hgl5 := hg5.len
        obtain ⟨V5, hV5⟩ : ∃ V, V = w5.alloc (.cells #[.slice ao5 g5.length cap5] 26) := ⟨_, rfl⟩
        have bV5 : Below w5.heap.size w5 V5 := hV5 ▸ below_alloc _ _
        have cV5 : V5.cell? ⟨w5.heap.size, 0, none⟩ = some (.slice ao5 g5.length cap5) := by rw [hV5]; simp [go_sem]
        have zV5 : w5.heap.size < V5.heap.size := by rw [hV5]; simp
        have kV5 := hid fun w' (h : Below V5.heap.size V5 w') => (h.cell (p := ⟨w5.heap.size, 0, none⟩) zV5).trans cV5
        have rV5 := hid fun w' (h : Below V5.heap.size V5 w') => (((hg5.below bV5).rd.below h).more h.size)
        have B5 : Below w.heap.size w V5 := A5.trans (bV5.mono A5.size)
        have iP := hid fun w hr => iPlacesOf_any (.slice ao5 g5.length cap5) g5 p w hr hgl5 hp
        have sP := hid fun w hr => sPlacesOf_any (.slice ao5 g5.length cap5) g5 p w hr hgl5 hp
        have iO := hid fun w hr => iOrderOfElement_any (.slice ao5 g5.length cap5) g5 p w hr hgl5 hp
        have sO := hid fun w hr => sOrderOfElement_any (.slice ao5 g5.length cap5) g5 p w hr hgl5 hp
        have iN := hid fun w hr => iNegateElement_any (.slice ao5 g5.length cap5) g5 p w hr hgl5 hp
        have sN := hid fun w hr => sNegateElement_any (.slice ao5 g5.length cap5) g5 p w hr hgl5 hp
        have hPl := plcE_len5 g5 p
        obtain ⟨P, eP⟩ : ∃ P, P = plcE g5 p := ⟨_, rfl⟩
        obtain ⟨O, eO⟩ : ∃ O, O = ordE g5 p := ⟨_, rfl⟩
        obtain ⟨N, eN⟩ : ∃ N, N = negE g5 p := ⟨_, rfl⟩
        rw [← eP] at iP sP hPl
        rw [← eO] at iO sO
        rw [← eN] at iN sN
        replace hPl := hid hPl
        clear eP eO eN hg5 hp hb5 d3
        go_wp2_with fail
        rw [← hV5]
        clear hV5 bV5 A5
        refine (d4.out _ ((hr.below B5).more B5.size)).mono ?_
        rintro e w6 ⟨⟨u, g6, v6, L6, rfl, hg6, hv6, hl6⟩, hb6⟩
        obtain ⟨ao6, cap6, rfl⟩ := hg6.shape
        have A6 := bgo B5 hb6
        have hv6' := hv6
        obtain ⟨aov6, capv6, rfl, _, _, _⟩ := hv6'
        have hgl6 := hg6.len
        obtain ⟨V6, hV6⟩ : ∃ V, V = w6.alloc (.cells #[.slice ao6 g6.length cap6] 26) := ⟨_, rfl⟩
        have bV6 : Below w6.heap.size w6 V6 := hV6 ▸ below_alloc _ _
        have cV6 : V6.cell? ⟨w6.heap.size, 0, none⟩ = some (.slice ao6 g6.length cap6) := by rw [hV6]; simp [go_sem]
        have zV6 : w6.heap.size < V6.heap.size := by rw [hV6]; simp
        have kV6 := hid fun w' (h : Below V6.heap.size V6 w') => (h.cell (p := ⟨w6.heap.size, 0, none⟩) zV6).trans cV6
        have rV6 := hid fun w' (h : Below V6.heap.size V6 w') => (((hg6.below bV6).rd.below h).more h.size)
        have B6 : Below w.heap.size w V6 := A6.trans (bV6.mono A6.size)
        have qV6 := hid fun w' (h : Below V6.heap.size V6 w') => (((hv6.below bV6).more bV6.size).below h).more h.size
        have iE := hid fun w hr hs => iElementOf_any (.slice ao6 g6.length cap6) (.slice aov6 L6.length capv6) g6 L6 w hr hs hgl6 (by omega)
        have sE := hid fun w hr hs => sElementOf_any (.slice ao6 g6.length cap6) (.slice aov6 L6.length capv6) g6 L6 w hr hs hgl6 (by omega)
        obtain ⟨E1, E2, hE⟩ := elem_any g6 L6
        rw [hE] at iE sE
        have W6 : Below V5.heap.size V5 V6 := hb6.trans (bV6.mono hb6.size)
        clear hE hg6 hv6 hl6 hb6 d4
        go_wp2_with fail
        rw [← hV6]
        clear hV6 bV6 A6
        refine (iE.out _ (rV6.out _ (Below.refl _ _)) (qV6.out _ (Below.refl _ _))).mono ?_
        rintro e y1 ⟨rfl, X1⟩
        have c1 := kV6.out _ X1
        go_wp2_with fail
        refine (sE.out _ (rV6.out _ X1) (qV6.out _ X1)).mono ?_
        rintro e y2 ⟨rfl, hb2⟩
        have W7 := bgo W6 (bgo X1 hb2)
        have B6' := bgo B6 (bgo X1 hb2)
        clear iE sE c1 X1 hb2 zV6 cV6 kV6 rV6 qV6 B6 W6
        go_wp2_with fail
        refine (d5.out _ ((hr.below B6').more B6'.size)).mono ?_
        rintro e w7 ⟨⟨u, g7, f, m, rfl, hg7, hf, hm⟩, hb7⟩
        obtain ⟨ao7, cap7, rfl⟩ := hg7.shape
        have A7 := bgo B6' hb7
        have hgl7 := hg7.len
        obtain ⟨V7, hV7⟩ : ∃ V, V = w7.alloc (.cells #[.slice ao7 g7.length cap7] 26) := ⟨_, rfl⟩
        have bV7 : Below w7.heap.size w7 V7 := hV7 ▸ below_alloc _ _
        have cV7 : V7.cell? ⟨w7.heap.size, 0, none⟩ = some (.slice ao7 g7.length cap7) := by rw [hV7]; simp [go_sem]
        have zV7 : w7.heap.size < V7.heap.size := by rw [hV7]; simp
        have kV7 := hid fun w' (h : Below V7.heap.size V7 w') => (h.cell (p := ⟨w7.heap.size, 0, none⟩) zV7).trans cV7
        have rV7 := hid fun w' (h : Below V7.heap.size V7 w') => (((hg7.below bV7).rd.below h).more h.size)
        have B7 : Below w.heap.size w V7 := A7.trans (bV7.mono A7.size)
        have iM := hid fun w hr => iMultipleOf_any (.slice ao7 g7.length cap7) g7 f m w hr hgl7 hf hm
        have sM := hid fun w hr => sMultipleOf_any (.slice ao7 g7.length cap7) g7 f m w hr hgl7 hf hm
        obtain ⟨M, eM⟩ : ∃ M, M = mulE g7 f m := ⟨_, rfl⟩
        rw [← eM] at iM sM
        have W8 : Below V5.heap.size V5 V7 := bgo W7 (hb7.trans (bV7.mono hb7.size))
        clear eM hg7 hf hm hb7 d5 W7
        go_wp2_with fail
        rw [← hV7]
        clear hV7 bV7 A7
        refine (d6.out _ ((hr.below B7).more B7.size)).mono ?_
        rintro e y3 ⟨⟨u1, g8, u2, g9, rfl, hg8, hg9⟩, hb3⟩
        obtain ⟨ao8, cap8, rfl⟩ := hg8.shape
        obtain ⟨ao9, cap9, rfl⟩ := hg9.shape
        have hgl8 := hg8.len
        have hgl9 := hg9.len
        have iQ := hid fun w h1 h2 => iEqualGroups_any (.slice ao8 g8.length cap8) (.slice ao9 g9.length cap9) g8 g9 w h1 h2 (by omega)
        have sQ := hid fun w h1 h2 => sEqualGroups_any (.slice ao8 g8.length cap8) (.slice ao9 g9.length cap9) g8 g9 w h1 h2 (by omega)
        obtain ⟨q, eq⟩ : ∃ q, q = eqL g8 g9 := ⟨_, rfl⟩
        rw [← eq] at iQ sQ
        clear eq
        obtain ⟨V9, hV9⟩ : ∃ V, V = (y3.alloc (.cells #[.slice ao8 g8.length cap8] 26)).alloc (.cells #[.slice ao9 g9.length cap9] 26) := ⟨_, rfl⟩
        have bV9 : Below y3.heap.size y3 V9 := by rw [hV9]; exact (below_alloc _ _).trans ((below_alloc _ _).mono (by simp))
        have cV8 : V9.cell? ⟨y3.heap.size, 0, none⟩ = some (.slice ao8 g8.length cap8) := by rw [hV9]; simp [go_sem]
        have cV9 : V9.cell? ⟨y3.heap.size + 1, 0, none⟩ = some (.slice ao9 g9.length cap9) := by rw [hV9]; simp [go_sem]
        have zV9 : y3.heap.size + 1 < V9.heap.size := by rw [hV9]; simp
        have W9 : Below V7.heap.size V7 V9 := hb3.trans (bV9.mono hb3.size)
        have W5 : Below V5.heap.size V5 V9 := bgo W8 W9
        have B9 : Below w.heap.size w V9 := bgo B7 W9
        have hK := hid fun w' (h : Below V9.heap.size V9 w') => And.intro (kV5.out _ (bgo W5 h)) (And.intro (kV7.out _ (bgo W9 h)) (And.intro ((h.cell (p := ⟨y3.heap.size, 0, none⟩) (Nat.lt_of_succ_lt zV9)).trans cV8) ((h.cell (p := ⟨y3.heap.size + 1, 0, none⟩) zV9).trans cV9)))
        have r5 := hid fun w' (h : Below V9.heap.size V9 w') => rV5.out _ (bgo W5 h)
        have r7 := hid fun w' (h : Below V9.heap.size V9 w') => rV7.out _ (bgo W9 h)
        have r8 := hid fun w' (h : Below V9.heap.size V9 w') => (((hg8.below bV9).rd.below h).more h.size)
        have r9 := hid fun w' (h : Below V9.heap.size V9 w') => (((hg9.below bV9).rd.below h).more h.size)
        have D0 := Below.refl V9.heap.size V9
        go_wp2_with fail
        rw [← hV9]
        obtain ⟨c1, c2, c3, c4⟩ := hK.out _ D0
        clear hV9 bV9 hg8 hg9 hb3 d6 kV5 kV7 rV5 rV7 zV5 zV7 cV5 cV7 W5 W8 W9 B5 B6' B7 Bc zV9 cV8 cV9
        refine wp_region_held_lit (S := fun w' => w'.cell? ⟨w5.heap.size, 0, none⟩ = some (.slice ao5 g5.length cap5) ∧ w'.cell? ⟨w7.heap.size, 0, none⟩ = some (.slice ao7 g7.length cap7) ∧ w'.cell? ⟨y3.heap.size, 0, none⟩ = some (.slice ao8 g8.length cap8) ∧ w'.cell? ⟨y3.heap.size + 1, 0, none⟩ = some (.slice ao9 g9.length cap9)) #[false, false, false, false, false, false, false, false, false, false, false, false, false, false, false, false, false, false, false, false, false, false, false, false, false, false, false, false, false, false, false, false, false, false, false, false, false, false, false, false, false, false, false, false, false, false, false, false, false, false, false, false, false, false, false, false] (by kernel_rfl) (by kernel_rfl) ⟨c1, c2, c3, c4⟩ (fun hH0 => ?_)
        refine wpAnyH_take (i := 0) (v := ?_) rfl (by as_aux_lemma => kernel_rfl) (by as_aux_lemma => kernel_rfl) (by as_aux_lemma => kernel_rfl) (fun _ _ _ h => h) (Or.inl ⟨by as_aux_lemma => first | kernel_rfl | rfl, ?_⟩) (by assumption) ?_
        rotate_left
        · (intro w hSw; (try dsimp only at hSw); go_simp; try with_reducible rfl)
        simp only [List.getElem_toArray, List.getElem_cons_zero, List.getElem_cons_succ, Act.put, List.setIfInBounds_toArray, List.set_cons_zero, List.set_cons_succ]
        refine wpAnyH_take (i := 1) (v := ?_) rfl (by as_aux_lemma => kernel_rfl) (by as_aux_lemma => kernel_rfl) (by as_aux_lemma => kernel_rfl) (fun _ _ _ h => h) (Or.inl ⟨by as_aux_lemma => first | kernel_rfl | rfl, ?_⟩) (by assumption) ?_
        rotate_left
        · (intro w hSw; (try dsimp only at hSw); go_simp; try with_reducible rfl)
        simp only [List.getElem_toArray, List.getElem_cons_zero, List.getElem_cons_succ, Act.put, List.setIfInBounds_toArray, List.set_cons_zero, List.set_cons_succ]
        refine wpAnyH_take (i := 3) (v := ?_) rfl (by as_aux_lemma => kernel_rfl) (by as_aux_lemma => kernel_rfl) (by as_aux_lemma => kernel_rfl) (fun _ _ _ h => h) (Or.inl ⟨by as_aux_lemma => first | kernel_rfl | rfl, ?_⟩) (by assumption) ?_
        rotate_left
        · (intro w hSw; (try dsimp only at hSw); go_simp; try with_reducible rfl)
        simp only [List.getElem_toArray, List.getElem_cons_zero, List.getElem_cons_succ, Act.put, List.setIfInBounds_toArray, List.set_cons_zero, List.set_cons_succ]
        refine wpAnyH_take (i := 4) (v := ?_) rfl (by as_aux_lemma => kernel_rfl) (by as_aux_lemma => kernel_rfl) (by as_aux_lemma => kernel_rfl) (fun _ _ _ h => h) (Or.inl ⟨by as_aux_lemma => first | kernel_rfl | rfl, ?_⟩) (by assumption) ?_
        rotate_left
        · (intro w hSw; (try dsimp only at hSw); go_simp; try with_reducible rfl)
        simp only [List.getElem_toArray, List.getElem_cons_zero, List.getElem_cons_succ, Act.put, List.setIfInBounds_toArray, List.set_cons_zero, List.set_cons_succ]
        refine wpAnyH_ready (rs := [2]) (by as_aux_lemma => kernel_rfl) (by simp) ?_
        refine AllReadyH.cons rfl (fun K2 hK2 => ?_) AllReadyH.nil
        go_simp
        go_at_call 17
        refine (iP.out _ (r5.out _ D0.drew)).mono ?_
        rintro e z9_1 ⟨aop, capp, rfl, hop, hb9_1⟩
        have D9_1 := bgo D0.drew hb9_1
        have hop' := hid fun w' (h : Below z9_1.heap.size z9_1 w') => ((Rd.of_own hop).below h).more h.size
        clear hop
        go_wp2_with fail
        refine hK2.out _ _ (hK.out _ D9_1) (fun hH2 => ?_)
        refine wpAnyH_ready (rs := [5]) (by as_aux_lemma => kernel_rfl) (by simp) ?_
        refine AllReadyH.cons rfl (fun K5 hK5 => ?_) AllReadyH.nil
        go_simp
        go_at_call 33
        refine (sP.out _ (r5.out _ D9_1)).mono ?_
        rintro e z9_2 ⟨aoq, capq, rfl, hoq, hb9_2⟩
        have D9_2 := bgo D9_1 hb9_2
        have hoq' := hid (Rd.of_own hoq)
        clear hoq
        go_wp2_with fail
        refine hK5.out _ _ (hK.out _ D9_2) (fun hH5 => ?_)
        refine wpAnyH_ready (rs := [6]) (by as_aux_lemma => kernel_rfl) (by simp) ?_
        refine AllReadyH.cons rfl (fun K6 hK6 => ?_) AllReadyH.nil
        go_simp
        go_at_call 32
        refine (lsameInts_same _ _ P _ (hop'.out _ hb9_2) hoq'.out (by have := hPl.out; omega)).mono ?_
        rintro e z9_3 ⟨rfl, hb9_3⟩
        have D9_3 := bgo D9_2 hb9_3
        go_wp2_with fail
        refine hK6.out _ _ (hK.out _ D9_3) (fun hH6 => ?_)
        refine wpAnyH_take (i := 7) (v := ?_) rfl (by as_aux_lemma => kernel_rfl) (by as_aux_lemma => kernel_rfl) (by as_aux_lemma => kernel_rfl) (fun _ _ _ h => h) (Or.inl ⟨by as_aux_lemma => first | kernel_rfl | rfl, ?_⟩) (by assumption) ?_
        rotate_left
        · (intro w hSw; (try dsimp only at hSw); go_simp; try with_reducible rfl)
        simp only [List.getElem_toArray, List.getElem_cons_zero, List.getElem_cons_succ, Act.put, List.setIfInBounds_toArray, List.set_cons_zero, List.set_cons_succ]
        refine wpAnyH_take (i := 8) (v := ?_) rfl (by as_aux_lemma => kernel_rfl) (by as_aux_lemma => kernel_rfl) (by as_aux_lemma => kernel_rfl) (fun _ _ _ h => h) (Or.inl ⟨by as_aux_lemma => first | kernel_rfl | rfl, ?_⟩) (by assumption) ?_
        rotate_left
        · (intro w hSw; (try dsimp only at hSw); go_simp; try with_reducible rfl)
        simp only [List.getElem_toArray, List.getElem_cons_zero, List.getElem_cons_succ, Act.put, List.setIfInBounds_toArray, List.set_cons_zero, List.set_cons_succ]
        refine wpAnyH_take (i := 9) (v := ?_) rfl (by as_aux_lemma => kernel_rfl) (by as_aux_lemma => kernel_rfl) (by as_aux_lemma => kernel_rfl) (fun _ _ _ h => h) (Or.inl ⟨by as_aux_lemma => first | kernel_rfl | rfl, ?_⟩) (by assumption) ?_
        rotate_left
        · (intro w hSw; (try dsimp only at hSw); go_simp; try with_reducible rfl)
        simp only [List.getElem_toArray, List.getElem_cons_zero, List.getElem_cons_succ, Act.put, List.setIfInBounds_toArray, List.set_cons_zero, List.set_cons_succ]
        refine wpAnyH_take (i := 10) (v := ?_) rfl (by as_aux_lemma => kernel_rfl) (by as_aux_lemma => kernel_rfl) (by as_aux_lemma => kernel_rfl) (fun _ _ _ h => h) (Or.inl ⟨by as_aux_lemma => first | kernel_rfl | rfl, ?_⟩) (by assumption) ?_
        rotate_left
        · (intro w hSw; (try dsimp only at hSw); go_simp; try with_reducible rfl)
        simp only [List.getElem_toArray, List.getElem_cons_zero, List.getElem_cons_succ, Act.put, List.setIfInBounds_toArray, List.set_cons_zero, List.set_cons_succ]
        refine wpAnyH_take (i := 11) (v := ?_) rfl (by as_aux_lemma => kernel_rfl) (by as_aux_lemma => kernel_rfl) (by as_aux_lemma => kernel_rfl) (fun _ _ _ h => h) (Or.inl ⟨by as_aux_lemma => first | kernel_rfl | rfl, ?_⟩) (by assumption) ?_
        rotate_left
        · (intro w hSw; (try dsimp only at hSw); go_simp; try with_reducible rfl)
        simp only [List.getElem_toArray, List.getElem_cons_zero, List.getElem_cons_succ, Act.put, List.setIfInBounds_toArray, List.set_cons_zero, List.set_cons_succ]
        refine wpAnyH_take (i := 12) (v := ?_) rfl (by as_aux_lemma => kernel_rfl) (by as_aux_lemma => kernel_rfl) (by as_aux_lemma => kernel_rfl) (fun _ _ _ h => h) (Or.inl ⟨by as_aux_lemma => first | kernel_rfl | rfl, ?_⟩) (by assumption) ?_
        rotate_left
        · (intro w hSw; (try dsimp only at hSw); go_simp; try with_reducible rfl)
        simp only [List.getElem_toArray, List.getElem_cons_zero, List.getElem_cons_succ, Act.put, List.setIfInBounds_toArray, List.set_cons_zero, List.set_cons_succ]
        refine wpAnyH_take (i := 13) (v := ?_) rfl (by as_aux_lemma => kernel_rfl) (by as_aux_lemma => kernel_rfl) (by as_aux_lemma => kernel_rfl) (fun _ _ _ h => h) (Or.inl ⟨by as_aux_lemma => first | kernel_rfl | rfl, ?_⟩) (by assumption) ?_
        rotate_left
        · (intro w hSw; (try dsimp only at hSw); go_simp; try with_reducible rfl)
        simp only [List.getElem_toArray, List.getElem_cons_zero, List.getElem_cons_succ, Act.put, List.setIfInBounds_toArray, List.set_cons_zero, List.set_cons_succ]
        refine wpAnyH_take (i := 14) (v := ?_) rfl (by as_aux_lemma => kernel_rfl) (by as_aux_lemma => kernel_rfl) (by as_aux_lemma => kernel_rfl) (fun _ _ _ h => h) (Or.inl ⟨by as_aux_lemma => first | kernel_rfl | rfl, ?_⟩) (by assumption) ?_
        rotate_left
        · (intro w hSw; (try dsimp only at hSw); go_simp; try with_reducible rfl)
        simp only [List.getElem_toArray, List.getElem_cons_zero, List.getElem_cons_succ, Act.put, List.setIfInBounds_toArray, List.set_cons_zero, List.set_cons_succ]
        refine wpAnyH_take (i := 15) (v := ?_) rfl (by as_aux_lemma => kernel_rfl) (by as_aux_lemma => kernel_rfl) (by as_aux_lemma => kernel_rfl) (fun _ _ _ h => h) (Or.inl ⟨by as_aux_lemma => first | kernel_rfl | rfl, ?_⟩) (by assumption) ?_
        rotate_left
        · (intro w hSw; (try dsimp only at hSw); go_simp; try with_reducible rfl)
        simp only [List.getElem_toArray, List.getElem_cons_zero, List.getElem_cons_succ, Act.put, List.setIfInBounds_toArray, List.set_cons_zero, List.set_cons_succ]
        refine wpAnyH_take (i := 16) (v := ?_) rfl (by as_aux_lemma => kernel_rfl) (by as_aux_lemma => kernel_rfl) (by as_aux_lemma => kernel_rfl) (fun _ _ _ h => h) (Or.inl ⟨by as_aux_lemma => first | kernel_rfl | rfl, ?_⟩) (by assumption) ?_
        rotate_left
        · (intro w hSw; (try dsimp only at hSw); go_simp; try with_reducible rfl)
        simp only [List.getElem_toArray, List.getElem_cons_zero, List.getElem_cons_succ, Act.put, List.setIfInBounds_toArray, List.set_cons_zero, List.set_cons_succ]
        refine wpAnyH_take (i := 17) (v := ?_) rfl (by as_aux_lemma => kernel_rfl) (by as_aux_lemma => kernel_rfl) (by as_aux_lemma => kernel_rfl) (fun _ _ _ h => h) (Or.inl ⟨by as_aux_lemma => first | kernel_rfl | rfl, ?_⟩) (by assumption) ?_
        rotate_left
        · (intro w hSw; (try dsimp only at hSw); go_simp; try with_reducible rfl)
        simp only [List.getElem_toArray, List.getElem_cons_zero, List.getElem_cons_succ, Act.put, List.setIfInBounds_toArray, List.set_cons_zero, List.set_cons_succ]
        refine wpAnyH_take (i := 18) (v := ?_) rfl (by as_aux_lemma => kernel_rfl) (by as_aux_lemma => kernel_rfl) (by as_aux_lemma => kernel_rfl) (fun _ _ _ h => h) (Or.inl ⟨by as_aux_lemma => first | kernel_rfl | rfl, ?_⟩) (by assumption) ?_
        rotate_left
        · (intro w hSw; (try dsimp only at hSw); go_simp; try with_reducible rfl)
        simp only [List.getElem_toArray, List.getElem_cons_zero, List.getElem_cons_succ, Act.put, List.setIfInBounds_toArray, List.set_cons_zero, List.set_cons_succ]
        refine wpAnyH_take (i := 19) (v := ?_) rfl (by as_aux_lemma => kernel_rfl) (by as_aux_lemma => kernel_rfl) (by as_aux_lemma => kernel_rfl) (fun _ _ _ h => h) (Or.inl ⟨by as_aux_lemma => first | kernel_rfl | rfl, ?_⟩) (by assumption) ?_
        rotate_left
        · (intro w hSw; (try dsimp only at hSw); go_simp; try with_reducible rfl)
        simp only [List.getElem_toArray, List.getElem_cons_zero, List.getElem_cons_succ, Act.put, List.setIfInBounds_toArray, List.set_cons_zero, List.set_cons_succ]
        refine wpAnyH_take (i := 20) (v := ?_) rfl (by as_aux_lemma => kernel_rfl) (by as_aux_lemma => kernel_rfl) (by as_aux_lemma => kernel_rfl) (fun _ _ _ h => h) (Or.inl ⟨by as_aux_lemma => first | kernel_rfl | rfl, ?_⟩) (by assumption) ?_
        rotate_left
        · (intro w hSw; (try dsimp only at hSw); go_simp; try with_reducible rfl)
        simp only [List.getElem_toArray, List.getElem_cons_zero, List.getElem_cons_succ, Act.put, List.setIfInBounds_toArray, List.set_cons_zero, List.set_cons_succ]
        refine wpAnyH_take (i := 22) (v := ?_) rfl (by as_aux_lemma => kernel_rfl) (by as_aux_lemma => kernel_rfl) (by as_aux_lemma => kernel_rfl) (fun _ _ _ h => h) (Or.inl ⟨by as_aux_lemma => first | kernel_rfl | rfl, ?_⟩) (by assumption) ?_
        rotate_left
        · (intro w hSw; (try dsimp only at hSw); go_simp; try with_reducible rfl)
        simp only [List.getElem_toArray, List.getElem_cons_zero, List.getElem_cons_succ, Act.put, List.setIfInBounds_toArray, List.set_cons_zero, List.set_cons_succ]
        refine wpAnyH_take (i := 23) (v := ?_) rfl (by as_aux_lemma => kernel_rfl) (by as_aux_lemma => kernel_rfl) (by as_aux_lemma => kernel_rfl) (fun _ _ _ h => h) (Or.inl ⟨by as_aux_lemma => first | kernel_rfl | rfl, ?_⟩) (by assumption) ?_
        rotate_left
        · (intro w hSw; (try dsimp only at hSw); go_simp; try with_reducible rfl)
        simp only [List.getElem_toArray, List.getElem_cons_zero, List.getElem_cons_succ, Act.put, List.setIfInBounds_toArray, List.set_cons_zero, List.set_cons_succ]
        refine wpAnyH_take (i := 24) (v := ?_) rfl (by as_aux_lemma => kernel_rfl) (by as_aux_lemma => kernel_rfl) (by as_aux_lemma => kernel_rfl) (fun _ _ _ h => h) (Or.inl ⟨by as_aux_lemma => first | kernel_rfl | rfl, ?_⟩) (by assumption) ?_
        rotate_left
        · (intro w hSw; (try dsimp only at hSw); go_simp; try with_reducible rfl)
        simp only [List.getElem_toArray, List.getElem_cons_zero, List.getElem_cons_succ, Act.put, List.setIfInBounds_toArray, List.set_cons_zero, List.set_cons_succ]
        refine wpAnyH_ready (rs := [21]) (by as_aux_lemma => kernel_rfl) (by simp) ?_
        refine AllReadyH.cons rfl (fun K21 hK21 => ?_) AllReadyH.nil
        go_simp
        go_at_call 18
        refine (iM.out _ (r7.out _ D9_3)).mono ?_
        rintro e z9_4 ⟨rfl, hb9_4⟩
        have D9_4 := bgo D9_3 hb9_4
        go_wp2_with fail
        refine hK21.out _ _ (hK.out _ D9_4) (fun hH21 => ?_)
        refine wpAnyH_ready (rs := [25]) (by as_aux_lemma => kernel_rfl) (by simp) ?_
        refine AllReadyH.cons rfl (fun K25 hK25 => ?_) AllReadyH.nil
        go_simp
        go_at_call 34
        refine (sM.out _ (r7.out _ D9_4)).mono ?_
        rintro e z9_5 ⟨rfl, hb9_5⟩
        have D9_5 := bgo D9_4 hb9_5
        go_wp2_with fail
        refine hK25.out _ _ (hK.out _ D9_5) (fun hH25 => ?_)
        refine wpAnyH_take (i := 26) (v := ?_) rfl (by as_aux_lemma => kernel_rfl) (by as_aux_lemma => kernel_rfl) (by as_aux_lemma => kernel_rfl) (fun _ _ _ h => h) (Or.inl ⟨by as_aux_lemma => first | kernel_rfl | rfl, ?_⟩) (by assumption) ?_
        rotate_left
        · (intro w hSw; (try dsimp only at hSw); go_simp; try with_reducible rfl)
        simp only [List.getElem_toArray, List.getElem_cons_zero, List.getElem_cons_succ, Act.put, List.setIfInBounds_toArray, List.set_cons_zero, List.set_cons_succ]
        refine wpAnyH_take (i := 27) (v := ?_) rfl (by as_aux_lemma => kernel_rfl) (by as_aux_lemma => kernel_rfl) (by as_aux_lemma => kernel_rfl) (fun _ _ _ h => h) (Or.inl ⟨by as_aux_lemma => first | kernel_rfl | rfl, ?_⟩) (by assumption) ?_
        rotate_left
        · (intro w hSw; (try dsimp only at hSw); go_simp; try with_reducible rfl)
        simp only [List.getElem_toArray, List.getElem_cons_zero, List.getElem_cons_succ, Act.put, List.setIfInBounds_toArray, List.set_cons_zero, List.set_cons_succ]
        refine wpAnyH_take (i := 28) (v := ?_) rfl (by as_aux_lemma => kernel_rfl) (by as_aux_lemma => kernel_rfl) (by as_aux_lemma => kernel_rfl) (fun _ _ _ h => h) (Or.inl ⟨by as_aux_lemma => first | kernel_rfl | rfl, ?_⟩) (by assumption) ?_
        rotate_left
        · (intro w hSw; (try dsimp only at hSw); go_simp; try with_reducible rfl)
        simp only [List.getElem_toArray, List.getElem_cons_zero, List.getElem_cons_succ, Act.put, List.setIfInBounds_toArray, List.set_cons_zero, List.set_cons_succ]
        refine wpAnyH_take (i := 29) (v := ?_) rfl (by as_aux_lemma => kernel_rfl) (by as_aux_lemma => kernel_rfl) (by as_aux_lemma => kernel_rfl) (fun _ _ _ h => h) (Or.inl ⟨by as_aux_lemma => first | kernel_rfl | rfl, ?_⟩) (by assumption) ?_
        rotate_left
        · (intro w hSw; (try dsimp only at hSw); go_simp; try with_reducible rfl)
        simp only [List.getElem_toArray, List.getElem_cons_zero, List.getElem_cons_succ, Act.put, List.setIfInBounds_toArray, List.set_cons_zero, List.set_cons_succ]
        refine wpAnyH_take (i := 30) (v := ?_) rfl (by as_aux_lemma => kernel_rfl) (by as_aux_lemma => kernel_rfl) (by as_aux_lemma => kernel_rfl) (fun _ _ _ h => h) (Or.inl ⟨by as_aux_lemma => first | kernel_rfl | rfl, ?_⟩) (by assumption) ?_
        rotate_left
        · (intro w hSw; (try dsimp only at hSw); go_simp; try with_reducible rfl)
        simp only [List.getElem_toArray, List.getElem_cons_zero, List.getElem_cons_succ, Act.put, List.setIfInBounds_toArray, List.set_cons_zero, List.set_cons_succ]
        refine wpAnyH_take (i := 32) (v := ?_) rfl (by as_aux_lemma => kernel_rfl) (by as_aux_lemma => kernel_rfl) (by as_aux_lemma => kernel_rfl) (fun _ _ _ h => h) (Or.inl ⟨by as_aux_lemma => first | kernel_rfl | rfl, ?_⟩) (by assumption) ?_
        rotate_left
        · (intro w hSw; (try dsimp only at hSw); go_simp; try with_reducible rfl)
        simp only [List.getElem_toArray, List.getElem_cons_zero, List.getElem_cons_succ, Act.put, List.setIfInBounds_toArray, List.set_cons_zero, List.set_cons_succ]
        refine wpAnyH_take (i := 33) (v := ?_) rfl (by as_aux_lemma => kernel_rfl) (by as_aux_lemma => kernel_rfl) (by as_aux_lemma => kernel_rfl) (fun _ _ _ h => h) (Or.inl ⟨by as_aux_lemma => first | kernel_rfl | rfl, ?_⟩) (by assumption) ?_
        rotate_left
        · (intro w hSw; (try dsimp only at hSw); go_simp; try with_reducible rfl)
        simp only [List.getElem_toArray, List.getElem_cons_zero, List.getElem_cons_succ, Act.put, List.setIfInBounds_toArray, List.set_cons_zero, List.set_cons_succ]
        refine wpAnyH_ready (rs := [31]) (by as_aux_lemma => kernel_rfl) (by simp) ?_
        refine AllReadyH.cons rfl (fun K31 hK31 => ?_) AllReadyH.nil
        go_simp
        go_at_call 15
        refine (iO.out _ (r5.out _ D9_5)).mono ?_
        rintro e z9_6 ⟨rfl, hb9_6⟩
        have D9_6 := bgo D9_5 hb9_6
        go_wp2_with fail
        refine hK31.out _ _ (hK.out _ D9_6) (fun hH31 => ?_)
        refine wpAnyH_ready (rs := [34]) (by as_aux_lemma => kernel_rfl) (by simp) ?_
        refine AllReadyH.cons rfl (fun K34 hK34 => ?_) AllReadyH.nil
        go_simp
        go_at_call 35
        refine (sO.out _ (r5.out _ D9_6)).mono ?_
        rintro e z9_7 ⟨rfl, hb9_7⟩
        have D9_7 := bgo D9_6 hb9_7
        go_wp2_with fail
        refine hK34.out _ _ (hK.out _ D9_7) (fun hH34 => ?_)
        refine wpAnyH_take (i := 35) (v := ?_) rfl (by as_aux_lemma => kernel_rfl) (by as_aux_lemma => kernel_rfl) (by as_aux_lemma => kernel_rfl) (fun _ _ _ h => h) (Or.inl ⟨by as_aux_lemma => first | kernel_rfl | rfl, ?_⟩) (by assumption) ?_
        rotate_left
        · (intro w hSw; (try dsimp only at hSw); go_simp; try with_reducible rfl)
        simp only [List.getElem_toArray, List.getElem_cons_zero, List.getElem_cons_succ, Act.put, List.setIfInBounds_toArray, List.set_cons_zero, List.set_cons_succ]
        refine wpAnyH_take (i := 36) (v := ?_) rfl (by as_aux_lemma => kernel_rfl) (by as_aux_lemma => kernel_rfl) (by as_aux_lemma => kernel_rfl) (fun _ _ _ h => h) (Or.inl ⟨by as_aux_lemma => first | kernel_rfl | rfl, ?_⟩) (by assumption) ?_
        rotate_left
        · (intro w hSw; (try dsimp only at hSw); go_simp; try with_reducible rfl)
        simp only [List.getElem_toArray, List.getElem_cons_zero, List.getElem_cons_succ, Act.put, List.setIfInBounds_toArray, List.set_cons_zero, List.set_cons_succ]
        refine wpAnyH_take (i := 37) (v := ?_) rfl (by as_aux_lemma => kernel_rfl) (by as_aux_lemma => kernel_rfl) (by as_aux_lemma => kernel_rfl) (fun _ _ _ h => h) (Or.inl ⟨by as_aux_lemma => first | kernel_rfl | rfl, ?_⟩) (by assumption) ?_
        rotate_left
        · (intro w hSw; (try dsimp only at hSw); go_simp; try with_reducible rfl)
        simp only [List.getElem_toArray, List.getElem_cons_zero, List.getElem_cons_succ, Act.put, List.setIfInBounds_toArray, List.set_cons_zero, List.set_cons_succ]
        refine wpAnyH_take (i := 38) (v := ?_) rfl (by as_aux_lemma => kernel_rfl) (by as_aux_lemma => kernel_rfl) (by as_aux_lemma => kernel_rfl) (fun _ _ _ h => h) (Or.inl ⟨by as_aux_lemma => first | kernel_rfl | rfl, ?_⟩) (by assumption) ?_
        rotate_left
        · (intro w hSw; (try dsimp only at hSw); go_simp; try with_reducible rfl)
        simp only [List.getElem_toArray, List.getElem_cons_zero, List.getElem_cons_succ, Act.put, List.setIfInBounds_toArray, List.set_cons_zero, List.set_cons_succ]
        refine wpAnyH_take (i := 39) (v := ?_) rfl (by as_aux_lemma => kernel_rfl) (by as_aux_lemma => kernel_rfl) (by as_aux_lemma => kernel_rfl) (fun _ _ _ h => h) (Or.inl ⟨by as_aux_lemma => first | kernel_rfl | rfl, ?_⟩) (by assumption) ?_
        rotate_left
        · (intro w hSw; (try dsimp only at hSw); go_simp; try with_reducible rfl)
        simp only [List.getElem_toArray, List.getElem_cons_zero, List.getElem_cons_succ, Act.put, List.setIfInBounds_toArray, List.set_cons_zero, List.set_cons_succ]
        refine wpAnyH_take (i := 41) (v := ?_) rfl (by as_aux_lemma => kernel_rfl) (by as_aux_lemma => kernel_rfl) (by as_aux_lemma => kernel_rfl) (fun _ _ _ h => h) (Or.inl ⟨by as_aux_lemma => first | kernel_rfl | rfl, ?_⟩) (by assumption) ?_
        rotate_left
        · (intro w hSw; (try dsimp only at hSw); go_simp; try with_reducible rfl)
        simp only [List.getElem_toArray, List.getElem_cons_zero, List.getElem_cons_succ, Act.put, List.setIfInBounds_toArray, List.set_cons_zero, List.set_cons_succ]
        refine wpAnyH_take (i := 42) (v := ?_) rfl (by as_aux_lemma => kernel_rfl) (by as_aux_lemma => kernel_rfl) (by as_aux_lemma => kernel_rfl) (fun _ _ _ h => h) (Or.inl ⟨by as_aux_lemma => first | kernel_rfl | rfl, ?_⟩) (by assumption) ?_
        rotate_left
        · (intro w hSw; (try dsimp only at hSw); go_simp; try with_reducible rfl)
        simp only [List.getElem_toArray, List.getElem_cons_zero, List.getElem_cons_succ, Act.put, List.setIfInBounds_toArray, List.set_cons_zero, List.set_cons_succ]
        refine wpAnyH_ready (rs := [40]) (by as_aux_lemma => kernel_rfl) (by simp) ?_
        refine AllReadyH.cons rfl (fun K40 hK40 => ?_) AllReadyH.nil
        go_simp
        go_at_call 13
        refine (iN.out _ (r5.out _ D9_7)).mono ?_
        rintro e z9_8 ⟨rfl, hb9_8⟩
        have D9_8 := bgo D9_7 hb9_8
        go_wp2_with fail
        refine hK40.out _ _ (hK.out _ D9_8) (fun hH40 => ?_)
        refine wpAnyH_ready (rs := [43]) (by as_aux_lemma => kernel_rfl) (by simp) ?_
        refine AllReadyH.cons rfl (fun K43 hK43 => ?_) AllReadyH.nil
        go_simp
        go_at_call 36
        refine (sN.out _ (r5.out _ D9_8)).mono ?_
        rintro e z9_9 ⟨rfl, hb9_9⟩
        have D9_9 := bgo D9_8 hb9_9
        go_wp2_with fail
        refine hK43.out _ _ (hK.out _ D9_9) (fun hH43 => ?_)
        refine wpAnyH_take (i := 44) (v := ?_) rfl (by as_aux_lemma => kernel_rfl) (by as_aux_lemma => kernel_rfl) (by as_aux_lemma => kernel_rfl) (fun _ _ _ h => h) (Or.inl ⟨by as_aux_lemma => first | kernel_rfl | rfl, ?_⟩) (by assumption) ?_
        rotate_left
        · (intro w hSw; (try dsimp only at hSw); go_simp; try with_reducible rfl)
        simp only [List.getElem_toArray, List.getElem_cons_zero, List.getElem_cons_succ, Act.put, List.setIfInBounds_toArray, List.set_cons_zero, List.set_cons_succ]
        refine wpAnyH_take (i := 45) (v := ?_) rfl (by as_aux_lemma => kernel_rfl) (by as_aux_lemma => kernel_rfl) (by as_aux_lemma => kernel_rfl) (fun _ _ _ h => h) (Or.inl ⟨by as_aux_lemma => first | kernel_rfl | rfl, ?_⟩) (by assumption) ?_
        rotate_left
        · (intro w hSw; (try dsimp only at hSw); go_simp; try with_reducible rfl)
        simp only [List.getElem_toArray, List.getElem_cons_zero, List.getElem_cons_succ, Act.put, List.setIfInBounds_toArray, List.set_cons_zero, List.set_cons_succ]
        refine wpAnyH_take (i := 46) (v := ?_) rfl (by as_aux_lemma => kernel_rfl) (by as_aux_lemma => kernel_rfl) (by as_aux_lemma => kernel_rfl) (fun _ _ _ h => h) (Or.inl ⟨by as_aux_lemma => first | kernel_rfl | rfl, ?_⟩) (by assumption) ?_
        rotate_left
        · (intro w hSw; (try dsimp only at hSw); go_simp; try with_reducible rfl)
        simp only [List.getElem_toArray, List.getElem_cons_zero, List.getElem_cons_succ, Act.put, List.setIfInBounds_toArray, List.set_cons_zero, List.set_cons_succ]
        refine wpAnyH_take (i := 47) (v := ?_) rfl (by as_aux_lemma => kernel_rfl) (by as_aux_lemma => kernel_rfl) (by as_aux_lemma => kernel_rfl) (fun _ _ _ h => h) (Or.inl ⟨by as_aux_lemma => first | kernel_rfl | rfl, ?_⟩) (by assumption) ?_
        rotate_left
        · (intro w hSw; (try dsimp only at hSw); go_simp; try with_reducible rfl)
        simp only [List.getElem_toArray, List.getElem_cons_zero, List.getElem_cons_succ, Act.put, List.setIfInBounds_toArray, List.set_cons_zero, List.set_cons_succ]
        refine wpAnyH_take (i := 48) (v := ?_) rfl (by as_aux_lemma => kernel_rfl) (by as_aux_lemma => kernel_rfl) (by as_aux_lemma => kernel_rfl) (fun _ _ _ h => h) (Or.inl ⟨by as_aux_lemma => first | kernel_rfl | rfl, ?_⟩) (by assumption) ?_
        rotate_left
        · (intro w hSw; (try dsimp only at hSw); go_simp; try with_reducible rfl)
        simp only [List.getElem_toArray, List.getElem_cons_zero, List.getElem_cons_succ, Act.put, List.setIfInBounds_toArray, List.set_cons_zero, List.set_cons_succ]
        refine wpAnyH_take (i := 50) (v := ?_) rfl (by as_aux_lemma => kernel_rfl) (by as_aux_lemma => kernel_rfl) (by as_aux_lemma => kernel_rfl) (fun _ _ _ h => h) (Or.inl ⟨by as_aux_lemma => first | kernel_rfl | rfl, ?_⟩) (by assumption) ?_
        rotate_left
        · (intro w hSw; (try dsimp only at hSw); go_simp; try with_reducible rfl)
        simp only [List.getElem_toArray, List.getElem_cons_zero, List.getElem_cons_succ, Act.put, List.setIfInBounds_toArray, List.set_cons_zero, List.set_cons_succ]
        refine wpAnyH_take (i := 51) (v := ?_) rfl (by as_aux_lemma => kernel_rfl) (by as_aux_lemma => kernel_rfl) (by as_aux_lemma => kernel_rfl) (fun _ _ _ h => h) (Or.inl ⟨by as_aux_lemma => first | kernel_rfl | rfl, ?_⟩) (by assumption) ?_
        rotate_left
        · (intro w hSw; (try dsimp only at hSw); go_simp; try with_reducible rfl)
        simp only [List.getElem_toArray, List.getElem_cons_zero, List.getElem_cons_succ, Act.put, List.setIfInBounds_toArray, List.set_cons_zero, List.set_cons_succ]
        refine wpAnyH_ready (rs := [49]) (by as_aux_lemma => kernel_rfl) (by simp) ?_
        refine AllReadyH.cons rfl (fun K49 hK49 => ?_) AllReadyH.nil
        go_simp
        go_at_call 37
        refine (iQ.out _ (r8.out _ D9_9) (r9.out _ D9_9)).mono ?_
        rintro e z9_10 ⟨rfl, hb9_10⟩
        have D9_10 := bgo D9_9 hb9_10
        go_wp2_with fail
        refine hK49.out _ _ (hK.out _ D9_10) (fun hH49 => ?_)
        refine wpAnyH_ready (rs := [52]) (by as_aux_lemma => kernel_rfl) (by simp) ?_
        refine AllReadyH.cons rfl (fun K52 hK52 => ?_) AllReadyH.nil
        go_simp
        go_at_call 26
        refine (sQ.out _ (r8.out _ D9_10) (r9.out _ D9_10)).mono ?_
        rintro e z9_11 ⟨rfl, hb9_11⟩
        have D9_11 := bgo D9_10 hb9_11
        go_wp2_with fail
        refine hK52.out _ _ (hK.out _ D9_11) (fun hH52 => ?_)
        refine wpAnyH_take (i := 53) (v := ?_) rfl (by as_aux_lemma => kernel_rfl) (by as_aux_lemma => kernel_rfl) (by as_aux_lemma => kernel_rfl) (fun _ _ _ h => h) (Or.inl ⟨by as_aux_lemma => first | kernel_rfl | rfl, ?_⟩) (by assumption) ?_
        rotate_left
        · (intro w hSw; (try dsimp only at hSw); go_simp; try with_reducible rfl)
        simp only [List.getElem_toArray, List.getElem_cons_zero, List.getElem_cons_succ, Act.put, List.setIfInBounds_toArray, List.set_cons_zero, List.set_cons_succ]
        refine wpAnyH_take (i := 54) (v := ?_) rfl (by as_aux_lemma => kernel_rfl) (by as_aux_lemma => kernel_rfl) (by as_aux_lemma => kernel_rfl) (fun _ _ _ h => h) (Or.inl ⟨by as_aux_lemma => first | kernel_rfl | rfl, ?_⟩) (by assumption) ?_
        rotate_left
        · (intro w hSw; (try dsimp only at hSw); go_simp; try with_reducible rfl)
        simp only [List.getElem_toArray, List.getElem_cons_zero, List.getElem_cons_succ, Act.put, List.setIfInBounds_toArray, List.set_cons_zero, List.set_cons_succ]
        refine wpAnyH_take (i := 55) (v := ?_) rfl (by as_aux_lemma => kernel_rfl) (by as_aux_lemma => kernel_rfl) (by as_aux_lemma => kernel_rfl) (fun _ _ _ h => h) (Or.inl ⟨by as_aux_lemma => first | kernel_rfl | rfl, ?_⟩) (by assumption) ?_
        rotate_left
        · (intro w hSw; (try dsimp only at hSw); go_simp; try with_reducible rfl)
        simp only [List.getElem_toArray, List.getElem_cons_zero, List.getElem_cons_succ, Act.put, List.setIfInBounds_toArray, List.set_cons_zero, List.set_cons_succ]
        refine wpAnyH_done (by as_aux_lemma => kernel_rfl) ?_ _
        go_wp2
        go_ret
        exact ⟨rfl, bgo B9 D9_11⟩
end Go.Proofs.Ytknbfohmobjplab
