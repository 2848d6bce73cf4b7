/- The draws of texts: one out of a list, one spoilt. Conditions: codes of at most 2^20 bytes, texts of at most 1000 bytes. -/
import Derived.Test.YtknbfohmobjplabRF
import Derived.Test.YtknbfohmobjplabMRa
import Derived.Test.YtknbfohmobjplabMKt
namespace Go.Proofs.Ytknbfohmobjplab
set_option linter.unusedVariables false
set_option linter.unusedSimpArgs false
open Go.RowKit

theorem sl1Pick_any (c B : Nat) (v : Value) (l : List Int) (L : List ByteArray) (d : Nat) (w : World) (hc : Cur w c B v l) (hl : l.length ≤ 1099511627776) (hB : ∀ x ∈ l, 0 ≤ x ∧ x ≤ 255) (hd : d < w.heap.size) (hdc : d ≠ c)
    (hL : ∀ i (h : i < L.length), w.cell? ⟨d, i, none⟩ = some (.string L[i])) (h0 : 0 < L.length) (h1 : L.length ≤ 1024) (n : Nat) (hn : n = L.length) :
    Calls Try.prog 84 #[.pointer (some ⟨c, 0, none⟩), .slice (some ⟨d, 0, none⟩) n n] w fun e w' => (∃ t : ByteArray, e = .returned (.string t) ∧ t ∈ L) ∧ Cur w' c B v l ∧ w.grownBy w' (some c) := by
  rw [← hn] at h0 h1
  have hY := hid fun w hc => sl1Below_any c B v l n w hc hl hB (by omega) (by omega)
  replace hL := hid hL
  replace hn := hid hn
  go_enter Try.func84, Try.ntmps84
  go_wp2_with fail
  refine (hY.out _ hc).mono ?_
  rintro e w1 ⟨⟨x, rfl, hx0, hx1⟩, hc1, hg1⟩
  obtain ⟨k, rfl⟩ := Int.eq_ofNat_of_zero_le hx0
  have hk : k < L.length := by rw [← hn.out]; omega
  have hcm := (cell_far hg1 ⟨d, k, none⟩ hd (by simp [hdc])).trans (hL.out k hk)
  have hk2 : k < n := by omega
  go_wp2
  go_ret
  exact ⟨⟨_, rfl, List.getElem_mem hk⟩, hc1, hg1⟩
theorem texts_new (w : World) (L : List ByteArray) (e : TypeId) (i : Nat) (h : i < L.length) : (w.alloc (.cells (L.map Value.string).toArray e)).cell? ⟨w.heap.size, i, none⟩ = some (.string L[i]) := by
  simp [go_sem, h]
set_option maxRecDepth 100000 in
set_option maxHeartbeats 1600000 in
theorem sl1Spoil_any (c B : Nat) (v : Value) (l : List Int) (s : ByteArray) (w : World) (hc : Cur w c B v l) (hl : l.length ≤ 1048576) (hB : IsB l) (hs : s.size ≤ 1000) :
    Calls Try.prog 83 #[.pointer (some ⟨c, 0, none⟩), .string s] w fun e w' => (∃ t : ByteArray, e = .returned (.string t) ∧ t.size ≤ 3000) ∧ Cur w' c B v l ∧ w.grownBy w' (some c) := by
  have hY := hid fun n h0 hn w hc => sl1Below_any c B v l n w hc (by omega) hB h0 hn
  have hZ := hid fun w hc => sl1Byte_any c B v l w hc (by omega) hB
  have hT := hid fun w hc => sl1Text_any c B v l 3 w hc (by omega) hB (by omega)
  replace hB := hid hB
  by_cases h0 : s.size = 0
  · go_enter Try.func83, Try.ntmps83
    go_wp2_with fail
    refine (hT.out _ hc).mono ?_
    rintro e w1 ⟨⟨t, rfl, htB, htl⟩, hc1, hg1⟩
    go_wp2
    go_ret
    exact ⟨⟨_, rfl, by rw [strOfNums_size]; omega⟩, hc1, hg1⟩
  · have q0 : ¬ (s.size : Int) = 0 := by omega
    have q1 : ((s.size : Int) == 0) = false := beq_eq_false_iff_ne.2 q0
    go_enter Try.func83, Try.ntmps83
    go_wp2_with fail
    refine (hY.out _ (by omega) (by omega) _ hc).mono ?_
    rintro e w1 ⟨⟨k, rfl, hk0, hk1⟩, hc1, hg1⟩
    obtain ⟨K, rfl⟩ := Int.eq_ofNat_of_zero_le hk0
    have hK : K < s.size := by omega
    go_wp2_with fail
    refine (hY.out _ (by omega) (by omega) _ hc1).mono ?_
    rintro e w2 ⟨⟨z, rfl, hz0, hz1⟩, hc2, hg2⟩
    have G2 := grown_trans hg1 hg2
    have hKw : IntKind.i64.wrap ((K : Int) + 1) = ((K + 1 : Nat) : Int) := by rw [IntWalk.i64_in _ (by omega)]; omega
    have hK1 : K + 1 ≤ s.size := hK
    have hK2 : K ≤ s.size := by omega
    have a1 : ∀ w : World, (Op.stringOp .add (s.extract 0 K) (s.extract (K + 1) s.size)).run Try.prog w = .ok (.string (s.extract 0 K ++ s.extract (K + 1) s.size)) w := fun w => run_string_add_sum w _ _ (by rw [ByteArray.size_extract, ByteArray.size_extract]; omega)
    clear hc1 hg1 hg2 hT
    have a2 : ∀ (w : World) (u : Int), (Op.stringOp .add (s.extract 0 K) (strOfNums [u])).run Try.prog w = .ok (.string (s.extract 0 K ++ strOfNums [u])) w := fun w u => run_string_add_sum w _ _ (by rw [ByteArray.size_extract, strOfNums_size]; simp; omega)
    have a3 : ∀ (w : World) (u : Int), (Op.stringOp .add (s.extract 0 K ++ strOfNums [u]) (s.extract K s.size)).run Try.prog w = .ok (.string (s.extract 0 K ++ strOfNums [u] ++ s.extract K s.size)) w := fun w u => run_string_add_sum w _ _ (by rw [ByteArray.size_append, ByteArray.size_extract, ByteArray.size_extract, strOfNums_size]; simp; omega)
    have a4 : ∀ (w : World) (u : Int), (Op.stringOp .add (s.extract 0 K ++ strOfNums [u]) (s.extract (K + 1) s.size)).run Try.prog w = .ok (.string (s.extract 0 K ++ strOfNums [u] ++ s.extract (K + 1) s.size)) w := fun w u => run_string_add_sum w _ _ (by rw [ByteArray.size_append, ByteArray.size_extract, ByteArray.size_extract, strOfNums_size]; simp; omega)
    have hcv := fun (w : World) (u : Int) => conv_one (P := Try.prog) Try.underlying22 Try.underlying5 Try.underlying9 w u
    by_cases z0 : z = 0
    · subst z0
      clear a2 a3 a4 hcv
      go_wp2_with fail
      go_quiet (fail)
      go_wp2
      go_ret
      exact ⟨⟨_, rfl, by rw [ByteArray.size_append, ByteArray.size_extract, ByteArray.size_extract]; omega⟩, hc2.drewN _, grown_drewN G2 _⟩
    have z0' : (z == 0) = false := beq_eq_false_iff_ne.2 z0
    by_cases z1 : z = 1
    · subst z1
      clear a1 a4
      go_wp2_with fail
      refine wp_region_held_drew (S := fun w' => True) (by kernel_rfl) trivial (fun hH0 => ?_)
      refine wpAnyH_take (i := 0) (v := ?_) rfl (by kernel_rfl) (by kernel_rfl) (by kernel_rfl) (fun _ _ _ h => h) (Or.inl ⟨by first | kernel_rfl | rfl, ?_⟩) (by assumption) ?_
      rotate_left
      · (intro w hSw; (try dsimp only at hSw); go_simp; try with_reducible rfl)
      simp only [List.getElem_toArray, List.getElem_cons_zero, List.getElem_cons_succ, Act.put, List.setIfInBounds_toArray, List.set_cons_zero, List.set_cons_succ]
      refine wpAnyH_take (i := 1) (v := ?_) rfl (by kernel_rfl) (by kernel_rfl) (by kernel_rfl) (fun _ _ _ h => h) (Or.inl ⟨by first | kernel_rfl | rfl, ?_⟩) (by assumption) ?_
      rotate_left
      · (intro w hSw; (try dsimp only at hSw); go_simp; try with_reducible rfl)
      simp only [List.getElem_toArray, List.getElem_cons_zero, List.getElem_cons_succ, Act.put, List.setIfInBounds_toArray, List.set_cons_zero, List.set_cons_succ]
      refine wpAnyH_take (i := 2) (v := ?_) rfl (by kernel_rfl) (by kernel_rfl) (by kernel_rfl) (fun _ _ _ h => h) (Or.inl ⟨by first | kernel_rfl | rfl, ?_⟩) (by assumption) ?_
      rotate_left
      · (intro w hSw; (try dsimp only at hSw); go_simp; try with_reducible rfl)
      simp only [List.getElem_toArray, List.getElem_cons_zero, List.getElem_cons_succ, Act.put, List.setIfInBounds_toArray, List.set_cons_zero, List.set_cons_succ]
      refine wpAnyH_take (i := 3) (v := ?_) rfl (by kernel_rfl) (by kernel_rfl) (by kernel_rfl) (fun _ _ _ h => h) (Or.inl ⟨by first | kernel_rfl | rfl, ?_⟩) (by assumption) ?_
      rotate_left
      · (intro w hSw; (try dsimp only at hSw); go_simp; try with_reducible rfl)
      simp only [List.getElem_toArray, List.getElem_cons_zero, List.getElem_cons_succ, Act.put, List.setIfInBounds_toArray, List.set_cons_zero, List.set_cons_succ]
      refine wpAnyH_take (i := 9) (v := ?_) rfl (by kernel_rfl) (by kernel_rfl) (by kernel_rfl) (fun _ _ _ h => h) (Or.inl ⟨by first | kernel_rfl | rfl, ?_⟩) (by assumption) ?_
      rotate_left
      · (intro w hSw; (try dsimp only at hSw); go_simp; try with_reducible rfl)
      simp only [List.getElem_toArray, List.getElem_cons_zero, List.getElem_cons_succ, Act.put, List.setIfInBounds_toArray, List.set_cons_zero, List.set_cons_succ]
      refine wpAnyH_take (i := 10) (v := ?_) rfl (by kernel_rfl) (by kernel_rfl) (by kernel_rfl) (fun _ _ _ h => h) (Or.inl ⟨by first | kernel_rfl | rfl, ?_⟩) (by assumption) ?_
      rotate_left
      · (intro w hSw; (try dsimp only at hSw); go_simp; try with_reducible rfl)
      simp only [List.getElem_toArray, List.getElem_cons_zero, List.getElem_cons_succ, Act.put, List.setIfInBounds_toArray, List.set_cons_zero, List.set_cons_succ]
      refine wpAnyH_take (i := 11) (v := ?_) rfl (by kernel_rfl) (by kernel_rfl) (by kernel_rfl) (fun _ _ _ h => h) (Or.inl ⟨by first | kernel_rfl | rfl, ?_⟩) (by assumption) ?_
      rotate_left
      · (intro w hSw; (try dsimp only at hSw); go_simp; try with_reducible rfl)
      simp only [List.getElem_toArray, List.getElem_cons_zero, List.getElem_cons_succ, Act.put, List.setIfInBounds_toArray, List.set_cons_zero, List.set_cons_succ]
      refine wpAnyH_ready (rs := [4]) (by kernel_rfl) (by simp) ?_
      refine AllReadyH.cons rfl (fun K4 hK4 => ?_) AllReadyH.nil
      go_simp
      go_at_call 107
      refine (hZ.out _ (hc2.below (Below.refl _ _).drew)).mono ?_
      rintro e w3 ⟨⟨b, rfl, hb0, hb1⟩, hc3, hg3⟩
      have G3 := grown_trans (grown_trans G2 (below_grown (Below.refl w2.heap.size w2).drew (some c))) hg3
      have hwb : IntKind.u8.wrap b = b := IntWalk.u8_in _ (by omega)
      clear hg3 hc2 G2
      go_wp2_with fail
      refine hK4.out _ _ trivial (fun hH4 => ?_)
      refine wpAnyH_take (i := 5) (v := ?_) rfl (by kernel_rfl) (by kernel_rfl) (by kernel_rfl) (fun _ _ _ h => h) (Or.inl ⟨by first | kernel_rfl | rfl, ?_⟩) (by assumption) ?_
      rotate_left
      · (intro w hSw; (try dsimp only at hSw); go_simp; try with_reducible rfl)
      simp only [List.getElem_toArray, List.getElem_cons_zero, List.getElem_cons_succ, Act.put, List.setIfInBounds_toArray, List.set_cons_zero, List.set_cons_succ]
      refine wpAnyH_ready (rs := [6]) (by kernel_rfl) (by simp) ?_
      refine AllReadyH.cons rfl (fun K6 hK6 => ?_) AllReadyH.nil
      go_simp
      refine hK6.out _ _ trivial (fun hH6 => ?_)
      refine wpAnyH_ready (rs := [7]) (by kernel_rfl) (by simp) ?_
      refine AllReadyH.cons rfl (fun K7 hK7 => ?_) AllReadyH.nil
      go_simp
      refine hK7.out _ _ trivial (fun hH7 => ?_)
      refine wpAnyH_take (i := 8) (v := ?_) rfl (by kernel_rfl) (by kernel_rfl) (by kernel_rfl) (fun _ _ _ h => h) (Or.inl ⟨by first | kernel_rfl | rfl, ?_⟩) (by assumption) ?_
      rotate_left
      · (intro w hSw; (try dsimp only at hSw); go_simp; try with_reducible rfl)
      simp only [List.getElem_toArray, List.getElem_cons_zero, List.getElem_cons_succ, Act.put, List.setIfInBounds_toArray, List.set_cons_zero, List.set_cons_succ]
      refine wpAnyH_take (i := 12) (v := ?_) rfl (by kernel_rfl) (by kernel_rfl) (by kernel_rfl) (fun _ _ _ h => h) (Or.inl ⟨by first | kernel_rfl | rfl, ?_⟩) (by assumption) ?_
      rotate_left
      · (intro w hSw; (try dsimp only at hSw); go_simp; try with_reducible rfl)
      simp only [List.getElem_toArray, List.getElem_cons_zero, List.getElem_cons_succ, Act.put, List.setIfInBounds_toArray, List.set_cons_zero, List.set_cons_succ]
      refine wpAnyH_take (i := 13) (v := ?_) rfl (by kernel_rfl) (by kernel_rfl) (by kernel_rfl) (fun _ _ _ h => h) (Or.inl ⟨by first | kernel_rfl | rfl, ?_⟩) (by assumption) ?_
      rotate_left
      · (intro w hSw; (try dsimp only at hSw); go_simp; try with_reducible rfl)
      simp only [List.getElem_toArray, List.getElem_cons_zero, List.getElem_cons_succ, Act.put, List.setIfInBounds_toArray, List.set_cons_zero, List.set_cons_succ]
      refine wpAnyH_done (by kernel_rfl) ?_ _
      go_wp2
      go_ret
      exact ⟨⟨_, rfl, by rw [ByteArray.size_append, ByteArray.size_append, ByteArray.size_extract, ByteArray.size_extract, strOfNums_size]; simp; omega⟩, hc3.below (below_alloc _ _), grown_trans G3 (below_grown (below_alloc _ _) _)⟩
    have z1' : (z == 1) = false := beq_eq_false_iff_ne.2 z1
    by_cases z2 : z = 2
    · subst z2
      clear a1 a2 a3 a4 hcv
      go_wp2
      go_ret
      exact ⟨⟨_, rfl, by rw [ByteArray.size_extract]; omega⟩, hc2, G2⟩
    have z2' : (z == 2) = false := beq_eq_false_iff_ne.2 z2
    clear a1 a3
    have hKp : (0 : Int) ≤ (K : Int) + 1 := by omega
    have hKq : (K : Int) + 1 ≤ (s.size : Int) := by omega
    go_wp2_with fail
    refine wp_region_held_drew (S := fun w' => True) (by kernel_rfl) trivial (fun hH0 => ?_)
    refine wpAnyH_take (i := 0) (v := ?_) rfl (by kernel_rfl) (by kernel_rfl) (by kernel_rfl) (fun _ _ _ h => h) (Or.inl ⟨by first | kernel_rfl | rfl, ?_⟩) (by assumption) ?_
    rotate_left
    · (intro w hSw; (try dsimp only at hSw); go_simp; try with_reducible rfl)
    simp only [List.getElem_toArray, List.getElem_cons_zero, List.getElem_cons_succ, Act.put, List.setIfInBounds_toArray, List.set_cons_zero, List.set_cons_succ]
    refine wpAnyH_take (i := 1) (v := ?_) rfl (by kernel_rfl) (by kernel_rfl) (by kernel_rfl) (fun _ _ _ h => h) (Or.inl ⟨by first | kernel_rfl | rfl, ?_⟩) (by assumption) ?_
    rotate_left
    · (intro w hSw; (try dsimp only at hSw); go_simp; try with_reducible rfl)
    simp only [List.getElem_toArray, List.getElem_cons_zero, List.getElem_cons_succ, Act.put, List.setIfInBounds_toArray, List.set_cons_zero, List.set_cons_succ]
    refine wpAnyH_take (i := 2) (v := ?_) rfl (by kernel_rfl) (by kernel_rfl) (by kernel_rfl) (fun _ _ _ h => h) (Or.inl ⟨by first | kernel_rfl | rfl, ?_⟩) (by assumption) ?_
    rotate_left
    · (intro w hSw; (try dsimp only at hSw); go_simp; try with_reducible rfl)
    simp only [List.getElem_toArray, List.getElem_cons_zero, List.getElem_cons_succ, Act.put, List.setIfInBounds_toArray, List.set_cons_zero, List.set_cons_succ]
    refine wpAnyH_take (i := 3) (v := ?_) rfl (by kernel_rfl) (by kernel_rfl) (by kernel_rfl) (fun _ _ _ h => h) (Or.inl ⟨by first | kernel_rfl | rfl, ?_⟩) (by assumption) ?_
    rotate_left
    · (intro w hSw; (try dsimp only at hSw); go_simp; try with_reducible rfl)
    simp only [List.getElem_toArray, List.getElem_cons_zero, List.getElem_cons_succ, Act.put, List.setIfInBounds_toArray, List.set_cons_zero, List.set_cons_succ]
    refine wpAnyH_take (i := 4) (v := ?_) rfl (by kernel_rfl) (by kernel_rfl) (by kernel_rfl) (fun _ _ _ h => h) (Or.inl ⟨by first | kernel_rfl | rfl, ?_⟩) (by assumption) ?_
    rotate_left
    · (intro w hSw; (try dsimp only at hSw); go_simp; try with_reducible rfl)
    simp only [List.getElem_toArray, List.getElem_cons_zero, List.getElem_cons_succ, Act.put, List.setIfInBounds_toArray, List.set_cons_zero, List.set_cons_succ]
    refine wpAnyH_take (i := 5) (v := ?_) rfl (by kernel_rfl) (by kernel_rfl) (by kernel_rfl) (fun _ _ _ h => h) (Or.inl ⟨by first | kernel_rfl | rfl, ?_⟩) (by assumption) ?_
    rotate_left
    · (intro w hSw; (try dsimp only at hSw); go_simp; try with_reducible rfl)
    simp only [List.getElem_toArray, List.getElem_cons_zero, List.getElem_cons_succ, Act.put, List.setIfInBounds_toArray, List.set_cons_zero, List.set_cons_succ]
    refine wpAnyH_take (i := 6) (v := ?_) rfl (by kernel_rfl) (by kernel_rfl) (by kernel_rfl) (fun _ _ _ h => h) (Or.inl ⟨by first | kernel_rfl | rfl, ?_⟩) (by assumption) ?_
    rotate_left
    · (intro w hSw; (try dsimp only at hSw); go_simp; try with_reducible rfl)
    simp only [List.getElem_toArray, List.getElem_cons_zero, List.getElem_cons_succ, Act.put, List.setIfInBounds_toArray, List.set_cons_zero, List.set_cons_succ]
    refine wpAnyH_take (i := 7) (v := ?_) rfl (by kernel_rfl) (by kernel_rfl) (by kernel_rfl) (fun _ _ _ h => h) (Or.inl ⟨by first | kernel_rfl | rfl, ?_⟩) (by assumption) ?_
    rotate_left
    · (intro w hSw; (try dsimp only at hSw); go_simp; try with_reducible rfl)
    simp only [List.getElem_toArray, List.getElem_cons_zero, List.getElem_cons_succ, Act.put, List.setIfInBounds_toArray, List.set_cons_zero, List.set_cons_succ]
    refine wpAnyH_take (i := 15) (v := ?_) rfl (by kernel_rfl) (by kernel_rfl) (by kernel_rfl) (fun _ _ _ h => h) (Or.inl ⟨by first | kernel_rfl | rfl, ?_⟩) (by assumption) ?_
    rotate_left
    · (intro w hSw; (try dsimp only at hSw); go_simp; try with_reducible rfl)
    simp only [List.getElem_toArray, List.getElem_cons_zero, List.getElem_cons_succ, Act.put, List.setIfInBounds_toArray, List.set_cons_zero, List.set_cons_succ]
    refine wpAnyH_take (i := 16) (v := ?_) rfl (by kernel_rfl) (by kernel_rfl) (by kernel_rfl) (fun _ _ _ h => h) (Or.inl ⟨by first | kernel_rfl | rfl, ?_⟩) (by assumption) ?_
    rotate_left
    · (intro w hSw; (try dsimp only at hSw); go_simp; try with_reducible rfl)
    simp only [List.getElem_toArray, List.getElem_cons_zero, List.getElem_cons_succ, Act.put, List.setIfInBounds_toArray, List.set_cons_zero, List.set_cons_succ]
    refine wpAnyH_take (i := 17) (v := ?_) rfl (by kernel_rfl) (by kernel_rfl) (by kernel_rfl) (fun _ _ _ h => h) (Or.inl ⟨by first | kernel_rfl | rfl, ?_⟩) (by assumption) ?_
    rotate_left
    · (intro w hSw; (try dsimp only at hSw); go_simp; try with_reducible rfl)
    simp only [List.getElem_toArray, List.getElem_cons_zero, List.getElem_cons_succ, Act.put, List.setIfInBounds_toArray, List.set_cons_zero, List.set_cons_succ]
    refine wpAnyH_take (i := 18) (v := ?_) rfl (by kernel_rfl) (by kernel_rfl) (by kernel_rfl) (fun _ _ _ h => h) (Or.inl ⟨by first | kernel_rfl | rfl, ?_⟩) (by assumption) ?_
    rotate_left
    · (intro w hSw; (try dsimp only at hSw); go_simp; try with_reducible rfl)
    simp only [List.getElem_toArray, List.getElem_cons_zero, List.getElem_cons_succ, Act.put, List.setIfInBounds_toArray, List.set_cons_zero, List.set_cons_succ]
    refine wpAnyH_ready (rs := [8]) (by kernel_rfl) (by simp) ?_
    refine AllReadyH.cons rfl (fun K8 hK8 => ?_) AllReadyH.nil
    go_simp
    go_at_call 82
    refine (hY.out _ (by omega) (by omega) _ (hc2.below (Below.refl _ _).drew)).mono ?_
    rintro e w3 ⟨⟨b, rfl, hb0, hb1⟩, hc3, hg3⟩
    have G3 := grown_trans (grown_trans G2 (below_grown (Below.refl w2.heap.size w2).drew (some c))) hg3
    clear hg3 hc2 G2
    go_wp2_with fail
    refine hK8.out _ _ trivial (fun hH8 => ?_)
    refine wpAnyH_take (i := 9) (v := ?_) rfl (by kernel_rfl) (by kernel_rfl) (by kernel_rfl) (fun _ _ _ h => h) (Or.inl ⟨by first | kernel_rfl | rfl, ?_⟩) (by assumption) ?_
    rotate_left
    · (intro w hSw; (try dsimp only at hSw); go_simp; try with_reducible rfl)
    simp only [List.getElem_toArray, List.getElem_cons_zero, List.getElem_cons_succ, Act.put, List.setIfInBounds_toArray, List.set_cons_zero, List.set_cons_succ]
    refine wpAnyH_take (i := 10) (v := ?_) rfl (by kernel_rfl) (by kernel_rfl) (by kernel_rfl) (fun _ _ _ h => h) (Or.inl ⟨by first | kernel_rfl | rfl, ?_⟩) (by assumption) ?_
    rotate_left
    · (intro w hSw; (try dsimp only at hSw); go_simp; try with_reducible rfl)
    simp only [List.getElem_toArray, List.getElem_cons_zero, List.getElem_cons_succ, Act.put, List.setIfInBounds_toArray, List.set_cons_zero, List.set_cons_succ]
    refine wpAnyH_take (i := 11) (v := ?_) rfl (by kernel_rfl) (by kernel_rfl) (by kernel_rfl) (fun _ _ _ h => h) (Or.inl ⟨by first | kernel_rfl | rfl, ?_⟩) (by assumption) ?_
    rotate_left
    · (intro w hSw; (try dsimp only at hSw); go_simp; try with_reducible rfl)
    simp only [List.getElem_toArray, List.getElem_cons_zero, List.getElem_cons_succ, Act.put, List.setIfInBounds_toArray, List.set_cons_zero, List.set_cons_succ]
    refine wpAnyH_ready (rs := [12]) (by kernel_rfl) (by simp) ?_
    refine AllReadyH.cons rfl (fun K12 hK12 => ?_) AllReadyH.nil
    go_simp
    refine hK12.out _ _ trivial (fun hH12 => ?_)
    refine wpAnyH_ready (rs := [13]) (by kernel_rfl) (by simp) ?_
    refine AllReadyH.cons rfl (fun K13 hK13 => ?_) AllReadyH.nil
    go_simp
    refine hK13.out _ _ trivial (fun hH13 => ?_)
    refine wpAnyH_take (i := 14) (v := ?_) rfl (by kernel_rfl) (by kernel_rfl) (by kernel_rfl) (fun _ _ _ h => h) (Or.inl ⟨by first | kernel_rfl | rfl, ?_⟩) (by assumption) ?_
    rotate_left
    · (intro w hSw; (try dsimp only at hSw); go_simp; try with_reducible rfl)
    simp only [List.getElem_toArray, List.getElem_cons_zero, List.getElem_cons_succ, Act.put, List.setIfInBounds_toArray, List.set_cons_zero, List.set_cons_succ]
    refine wpAnyH_take (i := 19) (v := ?_) rfl (by kernel_rfl) (by kernel_rfl) (by kernel_rfl) (fun _ _ _ h => h) (Or.inl ⟨by first | kernel_rfl | rfl, ?_⟩) (by assumption) ?_
    rotate_left
    · (intro w hSw; (try dsimp only at hSw); go_simp; try with_reducible rfl)
    simp only [List.getElem_toArray, List.getElem_cons_zero, List.getElem_cons_succ, Act.put, List.setIfInBounds_toArray, List.set_cons_zero, List.set_cons_succ]
    refine wpAnyH_take (i := 20) (v := ?_) rfl (by kernel_rfl) (by kernel_rfl) (by kernel_rfl) (fun _ _ _ h => h) (Or.inl ⟨by first | kernel_rfl | rfl, ?_⟩) (by assumption) ?_
    rotate_left
    · (intro w hSw; (try dsimp only at hSw); go_simp; try with_reducible rfl)
    simp only [List.getElem_toArray, List.getElem_cons_zero, List.getElem_cons_succ, Act.put, List.setIfInBounds_toArray, List.set_cons_zero, List.set_cons_succ]
    refine wpAnyH_done (by kernel_rfl) ?_ _
    go_wp2
    go_ret
    exact ⟨⟨_, rfl, by rw [ByteArray.size_append, ByteArray.size_append, ByteArray.size_extract, ByteArray.size_extract, strOfNums_size]; simp; omega⟩, hc3.below (below_alloc _ _), grown_trans G3 (below_grown (below_alloc _ _) _)⟩
end Go.Proofs.Ytknbfohmobjplab
