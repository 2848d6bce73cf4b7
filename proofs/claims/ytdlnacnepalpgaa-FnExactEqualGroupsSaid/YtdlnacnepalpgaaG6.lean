/- What EqualGroups computes, the program's and the reference's. Conditions: at most 2^30 orders. -/
import Derived.Test.YtdlnacnepalpgaaG1
import Derived.Test.YtdlnacnepalpgaaLKit
namespace Go.Proofs.Ytdlnacnepalpgaa
open Go.RowKit

theorem eqSl_any (v1 v2 : Value) (l1 l2 : List Int) (w : World) (hr1 : Rd w w.heap.size .i64 v1 l1) (hr2 : Rd w w.heap.size .i64 v2 l2) (hn1 : l1.length ≤ 1073741824) :
    Calls Try.prog 83 #[v1, v2] w fun e w' => e = .returned (.bool (eqL l1 l2)) ∧ Below w.heap.size w w' := by
  obtain ⟨ao1, cap1, rfl, _, _, hrd1⟩ := hr1
  obtain ⟨ao2, cap2, rfl, _, _, hrd2⟩ := hr2
  by_cases hl : l1.length = l2.length
  · obtain ⟨n, hN⟩ : ∃ n, n = l1.length := ⟨_, rfl⟩
    have hN2 : n = l2.length := by omega
    rw [← hN, ← hN2]
    replace hN := hid hN
    replace hN2 := hid hN2
    replace hrd1 := hid hrd1
    replace hrd2 := hid hrd2
    clear hl
    have hn : n ≤ 1073741824 := by rw [hN.out]; exact hn1
    clear hn1
    go_enter Try.func83, Try.ntmps83
    go_wp2
    go_loopw [13] (fun i wr => ∃ j : Nat, j ≤ n ∧ i = .int .i64 j ∧ Hid (l1.take j = l2.take j) ∧ Below w.heap.size w wr) (fun i _ => n - (intOf i).toNat)
    case atStart => exact ⟨0, by omega, rfl, rfl, Below.refl _ _⟩
    case round =>
      obtain ⟨j, hj, rfl, heq, hb⟩ := hrel
      by_cases hlt : j < n
      · obtain ⟨b1, off1, rfl, hB1, hcell1⟩ := hrd1.out (by rw [← hN.out]; omega)
        obtain ⟨b2, off2, rfl, hB2, hcell2⟩ := hrd2.out (by rw [← hN2.out]; omega)
        have hj1 : j < l1.length := by rw [← hN.out]; exact hlt
        have hj2 : j < l2.length := by rw [← hN2.out]; exact hlt
        have hc1 := (hb.cell (p := ⟨b1, off1 + j, none⟩) hB1).trans (hcell1 j hj1)
        have hc2 := (hb.cell (p := ⟨b2, off2 + j, none⟩) hB2).trans (hcell2 j hj2)
        have ht1 := take_succ_get l1 j hj1
        have ht2 := take_succ_get l2 j hj2
        have hmem : l1 = l2 → l1[j] = l2[j] := fun h => by subst h; rfl
        obtain ⟨x, hx⟩ : ∃ x, x = l1[j] := ⟨_, rfl⟩
        obtain ⟨y, hy⟩ : ∃ y, y = l2[j] := ⟨_, rfl⟩
        rw [← hx] at hc1 ht1 hmem
        rw [← hy] at hc2 ht2 hmem
        clear hcell1 hcell2 hx hy
        by_cases hxy : x = y
        · subst hxy
          have hnext := hid (show l1.take (j + 1) = l2.take (j + 1) by rw [ht1, ht2, heq.out])
          clear ht1 ht2 hmem heq
          go_wp2
          go_quiet (fail)
          go_wp2
          go_roundw
          case rel => exact ⟨j + 1, by omega, by go_num, hnext, hb.trans (below_drewN _ _ _)⟩
          case measure => simp [intOf]; omega
        · have hne : eqL l1 l2 = false := decide_eq_false fun h => hxy (hmem h)
          have hbq : (x == y) = false := by rw [beq_eq_false_iff_ne]; exact hxy
          have hbn : (x != y) = true := by rw [bne_iff_ne]; exact hxy
          replace hne := hid hne
          clear ht1 ht2 hmem heq hxy
          go_wp2
          go_quiet (fail)
          go_wp2
          go_ret
          exact ⟨by rw [hne.out]; rfl, hb.trans (below_drewN _ _ _)⟩
      · have hye : eqL l1 l2 = true := by
          refine decide_eq_true ?_
          have h := heq.out
          rw [List.take_of_length_le (by rw [← hN.out]; omega), List.take_of_length_le (by rw [← hN2.out]; omega)] at h
          exact h
        replace hye := hid hye
        go_wp2
        go_ret
        exact ⟨by rw [hye.out]; rfl, hb⟩
  · have hne : eqL l1 l2 = false := decide_eq_false fun h => hl (by rw [h])
    replace hne := hid hne
    have hbq : (((l1.length : Nat) : Int) == ((l2.length : Nat) : Int)) = false := by rw [beq_eq_false_iff_ne]; omega
    have hbn : (((l1.length : Nat) : Int) != ((l2.length : Nat) : Int)) = true := by rw [bne_iff_ne]; omega
    go_enter Try.func83, Try.ntmps83
    go_wp2
    go_ret
    exact ⟨by rw [hne.out]; rfl, Below.refl _ _⟩


theorem iEqualGroups_any (v1 v2 : Value) (l1 l2 : List Int) (w : World) (hr1 : Rd w w.heap.size .i64 v1 l1) (hr2 : Rd w w.heap.size .i64 v2 l2) (hn1 : l1.length ≤ 1073741824) :
    Calls Try.prog 58 #[.agg #[v1], .agg #[v2]] w fun e w' => e = .returned (.bool (eqL l1 l2)) ∧ Below w.heap.size w w' := by
  go_enter Try.func58, Try.ntmps58
  go_wp2_with fail
  refine (eqSl_any _ _ l1 l2 _ ((hr1.below (by go_grown)).more (by go_size)) ((hr2.below (by go_grown)).more (by go_size)) hn1).mono ?_
  rintro e w1 ⟨rfl, hb1⟩
  have D1 : Below w.heap.size w w1 := by refine Below.trans ?_ (hb1.mono ?_) <;> go_grown
  go_wp2
  go_ret
  exact ⟨rfl, D1⟩
theorem sEqualGroups_any (v1 v2 : Value) (l1 l2 : List Int) (w : World) (hr1 : Rd w w.heap.size .i64 v1 l1) (hr2 : Rd w w.heap.size .i64 v2 l2) (hn1 : l1.length ≤ 1073741824) :
    Calls Try.prog 57 #[.agg #[v1], .agg #[v2]] w fun e w' => e = .returned (.bool (eqL l1 l2)) ∧ Below w.heap.size w w' := by
  obtain ⟨ao1, cap1, rfl, _, _, hrd1⟩ := hr1
  obtain ⟨ao2, cap2, rfl, _, _, hrd2⟩ := hr2
  by_cases hl : l1.length = l2.length
  · obtain ⟨n, hN⟩ : ∃ n, n = l1.length := ⟨_, rfl⟩
    have hN2 : n = l2.length := by omega
    rw [← hN, ← hN2]
    replace hN := hid hN
    replace hN2 := hid hN2
    replace hrd1 := hid hrd1
    replace hrd2 := hid hrd2
    clear hl
    have hn : n ≤ 1073741824 := by rw [hN.out]; exact hn1
    clear hn1
    go_enter Try.func57, Try.ntmps57
    go_wp2
    go_loopw [5] (fun i wr => ∃ j : Nat, j ≤ n ∧ i = .int .i64 j ∧ Hid (l1.take j = l2.take j) ∧ Below w.heap.size w wr ∧ wr.cell? ⟨w.heap.size, 0, none⟩ = some (.slice ao1 n cap1) ∧ wr.cell? ⟨w.heap.size + 1, 0, none⟩ = some (.slice ao2 n cap2)) (fun i _ => n - (intOf i).toNat)
    case atStart => exact ⟨0, by omega, rfl, rfl, by go_grown, by simp [go_sem], by simp [go_sem]⟩
    case round =>
      obtain ⟨j, hj, rfl, heq, hb, hg1, hg2⟩ := hrel
      by_cases hlt : j < n
      · obtain ⟨b1, off1, rfl, hB1, hcell1⟩ := hrd1.out (by rw [← hN.out]; omega)
        obtain ⟨b2, off2, rfl, hB2, hcell2⟩ := hrd2.out (by rw [← hN2.out]; omega)
        have hj1 : j < l1.length := by rw [← hN.out]; exact hlt
        have hj2 : j < l2.length := by rw [← hN2.out]; exact hlt
        have hc1 := (hb.cell (p := ⟨b1, off1 + j, none⟩) hB1).trans (hcell1 j hj1)
        have hc2 := (hb.cell (p := ⟨b2, off2 + j, none⟩) hB2).trans (hcell2 j hj2)
        have ht1 := take_succ_get l1 j hj1
        have ht2 := take_succ_get l2 j hj2
        have hmem : l1 = l2 → l1[j] = l2[j] := fun h => by subst h; rfl
        obtain ⟨x, hx⟩ : ∃ x, x = l1[j] := ⟨_, rfl⟩
        obtain ⟨y, hy⟩ : ∃ y, y = l2[j] := ⟨_, rfl⟩
        rw [← hx] at hc1 ht1 hmem
        rw [← hy] at hc2 ht2 hmem
        clear hcell1 hcell2 hx hy
        by_cases hxy : x = y
        · subst hxy
          have hnext := hid (show l1.take (j + 1) = l2.take (j + 1) by rw [ht1, ht2, heq.out])
          clear ht1 ht2 hmem heq
          go_wp2
          go_quiet (fail)
          go_wp2
          go_roundw
          case rel => exact ⟨j + 1, by omega, by go_num, hnext, hb.trans (below_drewN _ _ _), hg1, hg2⟩
          case measure => simp [intOf]; omega
        · have hne : eqL l1 l2 = false := decide_eq_false fun h => hxy (hmem h)
          have hbq : (x == y) = false := by rw [beq_eq_false_iff_ne]; exact hxy
          have hbn : (x != y) = true := by rw [bne_iff_ne]; exact hxy
          replace hne := hid hne
          clear ht1 ht2 hmem heq hxy
          go_wp2
          go_quiet (fail)
          go_wp2
          go_ret
          exact ⟨by rw [hne.out]; rfl, hb.trans (below_drewN _ _ _)⟩
      · have hye : eqL l1 l2 = true := by
          refine decide_eq_true ?_
          have h := heq.out
          rw [List.take_of_length_le (by rw [← hN.out]; omega), List.take_of_length_le (by rw [← hN2.out]; omega)] at h
          exact h
        replace hye := hid hye
        go_wp2
        go_ret
        exact ⟨by rw [hye.out]; rfl, hb⟩
  · have hne : eqL l1 l2 = false := decide_eq_false fun h => hl (by rw [h])
    replace hne := hid hne
    have hbq : (((l1.length : Nat) : Int) == ((l2.length : Nat) : Int)) = false := by rw [beq_eq_false_iff_ne]; omega
    have hbn : (((l1.length : Nat) : Int) != ((l2.length : Nat) : Int)) = true := by rw [bne_iff_ne]; omega
    go_enter Try.func57, Try.ntmps57
    go_wp2
    go_ret
    exact ⟨by rw [hne.out]; rfl, by go_grown⟩

end Go.Proofs.Ytdlnacnepalpgaa
