
/- The draws of integers and texts. Conditions: codes of at most 2^40 bytes. -/
import Derived.Test.YtffbamjfpegndabR1
import Derived.Test.YtffbamjfpegndabW1
namespace Go.Proofs.Ytffbamjfpegndab
set_option linter.unusedVariables false
set_option linter.unusedSimpArgs false
open Go.RowKit

set_option maxRecDepth 100000 in
theorem sl1New_any (v : Value) (l : List Int) (w : World) (hr : Rd w w.heap.size .u8 v l) (hl : l.length ≤ 1099511627776) :
    Calls Try.prog 56 #[v] w fun e w' => e = .returned (.pointer (some ⟨w.heap.size, 0, none⟩)) ∧ Cur w' w.heap.size w.heap.size v l ∧ Below w.heap.size w w' := by
  have hr0 := hid hr
  obtain ⟨ao, cap, rfl, _, _, hrd⟩ := hr
  replace hrd := hid hrd
  obtain ⟨n, hN⟩ : ∃ n, n = l.length := ⟨_, rfl⟩
  rw [← hN] at hl ⊢
  replace hN := hid hN
  go_enter Try.func56, Try.ntmps56
  go_wp2
  go_loopw [3, 4] (fun h i wr => ∃ (H : Int) (k : Nat), k ≤ n ∧ i = .int .i64 k ∧ h = .int .i64 H ∧ wr = w) (fun _ i _ => n - (intOf i).toNat)
  case atStart => exact ⟨_, 0, by omega, rfl, rfl, rfl⟩
  case round =>
    obtain ⟨H, k, hk, rfl, rfl, rfl⟩ := hrel
    by_cases hlt : k < n ∧ k < 4000
    · obtain ⟨hlt, h4⟩ := hlt
      have hj : k < l.length := by rw [← hN.out]; omega
      obtain ⟨b, off, rfl, hB, hcell⟩ := hrd.out (by omega)
      have hcm := hcell k hj
      clear hcell
      go_wp2
      go_roundw
      case rel => exact ⟨_, k + 1, by omega, by go_num, rfl, by trivial⟩
      case measure => simp [intOf]; omega
    · have hx : (decide ((k : Int) < (n : Int)) && decide ((k : Int) < 4000)) = false := by
        rw [← Bool.not_eq_true, Bool.and_eq_true, decide_eq_true_iff, decide_eq_true_iff]; omega
      by_cases hlt2 : k < n
      · have h4 : ¬ k < 4000 := fun h => hlt ⟨hlt2, h⟩
        clear hlt hx
        go_wp2
        go_ret
        exact ⟨rfl, ⟨by simp, Nat.le_refl _, by simp [go_sem], ⟨0, Nat.zero_le _, by simp [go_sem]⟩, ⟨H, by simp [go_sem]⟩, ⟨by simp [go_sem], by simp [go_sem], by simp [go_sem]⟩, hN.out ▸ hr0.out.alloc (Nat.le_refl _) _⟩, below_alloc _ _⟩
      · clear hlt hx
        go_wp2
        go_ret
        exact ⟨rfl, ⟨by simp, Nat.le_refl _, by simp [go_sem], ⟨0, Nat.zero_le _, by simp [go_sem]⟩, ⟨H, by simp [go_sem]⟩, ⟨by simp [go_sem], by simp [go_sem], by simp [go_sem]⟩, hN.out ▸ hr0.out.alloc (Nat.le_refl _) _⟩, below_alloc _ _⟩
theorem sl1PickInt_any (c B : Nat) (v : Value) (l L : List Int) (d : Nat) (w : World) (hc : Cur w c B v l) (hl : l.length ≤ 1099511627776) (hB : ∀ x ∈ l, 0 ≤ x ∧ x ≤ 255) (hd : d < w.heap.size) (hdc : d ≠ c)
    (hL : ∀ i (h : i < L.length), w.cell? ⟨d, i, none⟩ = some (.int .i64 L[i])) (h0 : 0 < L.length) (h1 : L.length ≤ 1024) :
    Calls Try.prog 67 #[.pointer (some ⟨c, 0, none⟩), .slice (some ⟨d, 0, none⟩) L.length L.length] w fun e w' => (∃ x : Int, e = .returned (.int .i64 x) ∧ x ∈ L) ∧ Cur w' c B v l ∧ w.grownBy w' (some c) := by
  have hY := hid fun w hc => sl1Below_any c B v l L.length w hc hl hB (by omega) (by omega)
  replace hL := hid hL
  obtain ⟨n, hN⟩ : ∃ n, n = L.length := ⟨_, rfl⟩
  rw [← hN] at hY h0 h1 ⊢
  replace hN := hid hN
  go_enter Try.func67, Try.ntmps67
  go_wp2_with fail
  refine (hY.out _ hc).mono ?_
  rintro e w1 ⟨⟨x, rfl, hx0, hx1⟩, hc1, hg1⟩
  obtain ⟨k, rfl⟩ := Int.eq_ofNat_of_zero_le hx0
  have hk : k < L.length := by rw [← hN.out]; omega
  have hcm := (cell_far hg1 ⟨d, k, none⟩ hd (by simp [hdc])).trans (hL.out k hk)
  have hk2 : k < n := by omega
  go_wp2
  go_ret
  exact ⟨⟨_, rfl, List.getElem_mem hk⟩, hc1, hg1⟩
theorem cells_new (w : World) (L : List Int) (e : TypeId) (i : Nat) (h : i < L.length) : (w.alloc (.cells (L.map (Value.int .i64)).toArray e)).cell? ⟨w.heap.size, i, none⟩ = some (.int .i64 L[i]) := by
  simp [go_sem, h]
def numsL : List Int := [-1, 0, 127, 128, 255, 256, 16383, 16384, 65535, 65536, 562949953421311, 562949953421312, 999999999, 1000000000, -999999999, 9223372036854775807, -9223372036854775808]
theorem numsL_bd : ∀ x ∈ numsL, -9223372036854775808 ≤ x ∧ x ≤ 9223372036854775807 := by decide
theorem wrap64_bd (z : Int) : -9223372036854775808 ≤ wrap64 z ∧ wrap64 z ≤ 9223372036854775807 := by unfold wrap64; omega
set_option maxRecDepth 100000 in
theorem sl1Num_any (c B : Nat) (v : Value) (l : List Int) (w : World) (hc : Cur w c B v l) (hl : l.length ≤ 1099511627776) (hB : ∀ x ∈ l, 0 ≤ x ∧ x ≤ 255) :
    Calls Try.prog 57 #[.pointer (some ⟨c, 0, none⟩)] w fun e w' => (∃ x : Int, e = .returned (.int .i64 x) ∧ -9223372036854775808 ≤ x ∧ x ≤ 9223372036854775807) ∧ Cur w' c B v l ∧ w.grownBy w' (some c) := by
  have hY := hid fun n h0 hn w hc => sl1Below_any c B v l n w hc hl hB h0 hn
  have hP := hid fun L d w hc => sl1PickInt_any c B v l L d w hc hl hB
  replace hB := hid hB
  go_enter Try.func57, Try.ntmps57
  go_wp2_with fail
  refine (hY.out _ (by omega) (by omega) _ hc).mono ?_
  rintro e w1 ⟨⟨x, rfl, hx0, hx1⟩, hc1, hg1⟩
  have hlt := hc1.lt
  by_cases z0 : x = 0
  · subst z0
    go_wp2_with fail
    refine (hP.out numsL w1.heap.size _ (hc1.below (below_alloc _ _)) (by simp) (by omega) (fun i h => cells_new w1 numsL _ i h) (by decide) (by decide)).mono ?_
    rintro e w2 ⟨⟨y, rfl, hy⟩, hc2, hg2⟩
    have hyb := numsL_bd y hy
    go_wp2
    go_ret
    exact ⟨⟨_, rfl, hyb⟩, hc2, grown_trans hg1 (grown_trans (below_grown (below_alloc _ _) _) hg2)⟩
  · by_cases z1 : x = 1
    · subst z1
      go_wp2_with fail
      refine (hY.out _ (by omega) (by omega) _ hc1).mono ?_
      rintro e w2 ⟨⟨y, rfl, hy0, hy1⟩, hc2, hg2⟩
      go_wp2_with fail
      refine (hY.out _ (by omega) (by omega) _ hc2).mono ?_
      rintro e w3 ⟨⟨z, rfl, hz0, hz1⟩, hc3, hg3⟩
      go_wp2
      go_ret
      exact ⟨⟨_, rfl, wrap64_bd _⟩, hc3, grown_trans hg1 (grown_trans hg2 hg3)⟩
    · by_cases z2 : x = 2
      · subst z2
        go_wp2_with fail
        refine (hY.out _ (by omega) (by omega) _ hc1).mono ?_
        rintro e w2 ⟨⟨y, rfl, hy0, hy1⟩, hc2, hg2⟩
        go_wp2
        go_ret
        exact ⟨⟨_, rfl, by omega, by omega⟩, hc2, grown_trans hg1 hg2⟩
      · have z0' : (x == 0) = false := beq_eq_false_iff_ne.2 z0
        have z1' : (x == 1) = false := beq_eq_false_iff_ne.2 z1
        have z2' : (x == 2) = false := beq_eq_false_iff_ne.2 z2
        go_wp2_with fail
        refine (hY.out _ (by omega) (by omega) _ hc1).mono ?_
        rintro e w2 ⟨⟨y, rfl, hy0, hy1⟩, hc2, hg2⟩
        go_wp2
        go_ret
        exact ⟨⟨_, rfl, by omega, by omega⟩, hc2, grown_trans hg1 hg2⟩
end Go.Proofs.Ytffbamjfpegndab
