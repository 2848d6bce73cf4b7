/- The draw of a set. Conditions: codes of at most 2^40 bytes, at most 2^20 orders. -/
import Derived.Test.YtknbfohmobjplabR5
import Derived.Test.YtknbfohmobjplabMPl
namespace Go.Proofs.Ytknbfohmobjplab
set_option linter.unusedVariables false
set_option linter.unusedSimpArgs false
open Go.RowKit

theorem orS_step {A K : Nat} (hA : A < 16777216) (hK : K < 24) : ∃ T C : Nat, (2 : Int) ^ K = (T : Int) ∧ T ≤ 8388608 ∧ C = A ||| 2 ^ K ∧ C < 16777216 ∧ bits .or .i64 (A : Int) (T : Int) = (C : Int) := by
  have h1 := Nat.pow_le_pow_right (show 0 < 2 by omega) (show K ≤ 23 by omega)
  have h2 : 2 ^ 23 = 8388608 := rfl
  have h3 := or_lt24 hA (show 2 ^ K < 16777216 by omega)
  exact ⟨2 ^ K, _, (Int.natCast_pow 2 _).symm, by omega, rfl, h3, or64 _ _ (by omega) (by omega)⟩
def oddS : List Int := [-1, 16777216, 9223372036854775807]
theorem oddS_bd : ∀ x ∈ oddS, -9223372036854775808 ≤ x ∧ x ≤ 9223372036854775807 := by decide
set_option maxRecDepth 100000 in
set_option maxHeartbeats 1600000 in
theorem sl3Set_y (c B : Nat) (v u : Value) (l g : List Int) (w : World) (hc : Cur w c B v l) (hl : l.length ≤ 1099511627776) (hB : IsB l) (hg : Gd w c u g) (hn : g.length ≤ 1048576) (o : Int) (ho : o = orderOf g) (h1 : 1<o) :
    Calls Try.prog 103 #[.pointer (some ⟨c, 0, none⟩), .agg #[u]] w fun e w' => (∃ x : Int, e = .returned (.int .i64 x) ∧ -9223372036854775808 ≤ x ∧ x ≤ 9223372036854775807) ∧ Cur w' c B v l ∧ w.grownBy w' (some c) := by
  have hY := hid fun n h0 hn w hc => sl1Below_any c B v l n w hc hl hB h0 hn
  have hP := hid fun L d w hc => sl1PickInt_any c B v l L d w hc hl hB
  replace hB := hid hB
  have hcw := hc.lt
  have hob := orderOf_bd g
  have hS := hid fun w h => ho ▸ sOrderOf_any u g w h (by omega)
  rw [← ho] at hob
  clear ho
  go_enter Try.func103, Try.ntmps103
  go_wp2_with fail
  refine (hS.out _ ((hg.below (below_alloc _ _)).rd)).mono ?_
  rintro e w1 ⟨rfl, hb1⟩
  have hc1 := (hc.below (below_alloc _ _)).below hb1
  have G1 := below_grown ((below_alloc w (.cells #[u] 26)).trans (hb1.mono (by simp))) (some c)
  clear hb1
  go_wp2_with fail
  refine (hY.out _ (by omega) (by omega) _ hc1).mono ?_
  rintro e w2 ⟨⟨k, rfl, hk0, hk1⟩, hc2, hg2⟩
  have G2 := grown_trans G1 hg2
  obtain ⟨K, rfl⟩ := Int.eq_ofNat_of_zero_le hk0
  clear hc1 G1 hg2
  go_wp2
  go_loopw [6, 7] (fun a i wr => ∃ k A : Nat, i = .int .i64 k ∧ a = .int .i64 (A : Int) ∧ Hid (A < 16777216) ∧ k ≤ 5 ∧ Cur wr c B v l ∧ w.grownBy wr (some c)) (fun _ i _ => (intOf i).toNat)
  case atStart => exact ⟨K, 0, rfl, rfl, (by decide : 0 < 16777216), by omega, hc2, G2⟩
  case round =>
    obtain ⟨k, A, rfl, rfl, hA, hk, hcr, hgr⟩ := hrel
    clear hc2 G2
    by_cases hk : 0 < k
    · go_wp2_with fail
      refine (hY.out _ (by omega) (by omega) _ hcr).mono ?_
      rintro e w3 ⟨⟨x, rfl, hx0, hx1⟩, hc3, hg3⟩
      obtain ⟨X, rfl⟩ := Int.eq_ofNat_of_zero_le hx0
      obtain ⟨T, C, hT', hT2, hC, hC2, hor⟩ := orS_step hA.out (show X < 24 by omega)
      have hwT : IntKind.i64.wrap (T : Int) = T := IntWalk.i64_in _ (by omega)
      replace hC2 := hid hC2
      replace hC := hid hC
      go_wp2
      go_roundw
      case rel => exact ⟨k - 1, C, by go_num, by rw [← hor], hC2, by omega, hc3, grown_trans hgr hg3⟩
      case measure => simp [intOf]; omega
    · have hk2 : k = 0 := by omega
      subst hk2
      go_wp2_with fail
      refine (hY.out _ (by omega) (by omega) _ hcr).mono ?_
      rintro e w3 ⟨⟨x, rfl, hx0, hx1⟩, hc3, hg3⟩
      have hlt := hc3.lt
      have G3 := grown_trans hgr hg3
      have hA' := hA.out
      by_cases z0 : x = 0
      · subst z0
        go_wp2
        go_ret
        exact ⟨⟨_, rfl, by first | exact wrap64_bd _ | decide⟩, hc3, G3⟩
      · have z0' : (x == 0) = false := beq_eq_false_iff_ne.2 z0
        by_cases z1 : x = 1
        · subst z1
          go_wp2_with fail
          refine (hP.out oddS w3.heap.size _ (hc3.below (below_alloc _ _)) (by simp) (by omega) (fun i h => cells_new w3 oddS _ i h) (by decide) (by decide)).mono ?_
          rintro e w4 ⟨⟨y, rfl, hy⟩, hc4, hg4⟩
          have hyb := oddS_bd y hy
          go_wp2
          go_ret
          exact ⟨⟨_, rfl, hyb⟩, hc4, grown_trans G3 (grown_trans (below_grown (below_alloc _ _) _) hg4)⟩
        · have z1' : (x == 1) = false := beq_eq_false_iff_ne.2 z1
          go_wp2
          go_ret
          exact ⟨⟨_, rfl, by omega, by omega⟩, hc3, G3⟩
set_option maxRecDepth 100000 in
set_option maxHeartbeats 1600000 in
theorem sl3Set_z (c B : Nat) (v u : Value) (l g : List Int) (w : World) (hc : Cur w c B v l) (hl : l.length ≤ 1099511627776) (hB : IsB l) (hg : Gd w c u g) (hn : g.length ≤ 1048576) (o : Int) (ho : o = orderOf g) (h1 : ¬1<o) :
    Calls Try.prog 103 #[.pointer (some ⟨c, 0, none⟩), .agg #[u]] w fun e w' => (∃ x : Int, e = .returned (.int .i64 x) ∧ -9223372036854775808 ≤ x ∧ x ≤ 9223372036854775807) ∧ Cur w' c B v l ∧ w.grownBy w' (some c) := by
  have hY := hid fun n h0 hn w hc => sl1Below_any c B v l n w hc hl hB h0 hn
  have hP := hid fun L d w hc => sl1PickInt_any c B v l L d w hc hl hB
  replace hB := hid hB
  have hcw := hc.lt
  have hob := orderOf_bd g
  have hS := hid fun w h => ho ▸ sOrderOf_any u g w h (by omega)
  rw [← ho] at hob
  clear ho
  go_enter Try.func103, Try.ntmps103
  go_wp2_with fail
  refine (hS.out _ ((hg.below (below_alloc _ _)).rd)).mono ?_
  rintro e w1 ⟨rfl, hb1⟩
  have hc1 := (hc.below (below_alloc _ _)).below hb1
  have G1 := below_grown ((below_alloc w (.cells #[u] 26)).trans (hb1.mono (by simp))) (some c)
  clear hb1
  go_wp2_with fail
  refine (hY.out _ (by omega) (by omega) _ hc1).mono ?_
  rintro e w2 ⟨⟨k, rfl, hk0, hk1⟩, hc2, hg2⟩
  have G2 := grown_trans G1 hg2
  obtain ⟨K, rfl⟩ := Int.eq_ofNat_of_zero_le hk0
  clear hc1 G1 hg2
  go_wp2
  go_loopw [6, 7] (fun a i wr => ∃ k A : Nat, i = .int .i64 k ∧ a = .int .i64 (A : Int) ∧ Hid (A < 16777216) ∧ k ≤ 5 ∧ Cur wr c B v l ∧ w.grownBy wr (some c)) (fun _ i _ => (intOf i).toNat)
  case atStart => exact ⟨K, 0, rfl, rfl, (by decide : 0 < 16777216), by omega, hc2, G2⟩
  case round =>
    obtain ⟨k, A, rfl, rfl, hA, hk, hcr, hgr⟩ := hrel
    clear hc2 G2
    by_cases hk : 0 < k
    · go_wp2_with fail
      refine (hY.out _ (by omega) (by omega) _ hcr).mono ?_
      rintro e w3 ⟨⟨x, rfl, hx0, hx1⟩, hc3, hg3⟩
      obtain ⟨X, rfl⟩ := Int.eq_ofNat_of_zero_le hx0
      obtain ⟨T, C, hT', hT2, hC, hC2, hor⟩ := orS_step hA.out (show X < 24 by omega)
      have hwT : IntKind.i64.wrap (T : Int) = T := IntWalk.i64_in _ (by omega)
      replace hC2 := hid hC2
      replace hC := hid hC
      go_wp2
      go_roundw
      case rel => exact ⟨k - 1, C, by go_num, by rw [← hor], hC2, by omega, hc3, grown_trans hgr hg3⟩
      case measure => simp [intOf]; omega
    · have hk2 : k = 0 := by omega
      subst hk2
      go_wp2_with fail
      refine (hY.out _ (by omega) (by omega) _ hcr).mono ?_
      rintro e w3 ⟨⟨x, rfl, hx0, hx1⟩, hc3, hg3⟩
      have hlt := hc3.lt
      have G3 := grown_trans hgr hg3
      have hA' := hA.out
      by_cases z0 : x = 0
      · subst z0
        go_wp2
        go_ret
        exact ⟨⟨_, rfl, by first | exact wrap64_bd _ | decide⟩, hc3, G3⟩
      · have z0' : (x == 0) = false := beq_eq_false_iff_ne.2 z0
        by_cases z1 : x = 1
        · subst z1
          go_wp2_with fail
          refine (hP.out oddS w3.heap.size _ (hc3.below (below_alloc _ _)) (by simp) (by omega) (fun i h => cells_new w3 oddS _ i h) (by decide) (by decide)).mono ?_
          rintro e w4 ⟨⟨y, rfl, hy⟩, hc4, hg4⟩
          have hyb := oddS_bd y hy
          go_wp2
          go_ret
          exact ⟨⟨_, rfl, hyb⟩, hc4, grown_trans G3 (grown_trans (below_grown (below_alloc _ _) _) hg4)⟩
        · have z1' : (x == 1) = false := beq_eq_false_iff_ne.2 z1
          go_wp2
          go_ret
          exact ⟨⟨_, rfl, by omega, by omega⟩, hc3, G3⟩
theorem sl3Set_any (c B : Nat) (v u : Value) (l g : List Int) (w : World) (hc : Cur w c B v l) (hl : l.length ≤ 1099511627776) (hB : IsB l) (hg : Gd w c u g) (hn : g.length ≤ 1048576) :
    Calls Try.prog 103 #[.pointer (some ⟨c, 0, none⟩), .agg #[u]] w fun e w' => (∃ x : Int, e = .returned (.int .i64 x) ∧ -9223372036854775808 ≤ x ∧ x ≤ 9223372036854775807) ∧ Cur w' c B v l ∧ w.grownBy w' (some c) := by
  by_cases h1 : 1 < orderOf g
  · exact sl3Set_y c B v u l g w hc hl hB hg hn _ rfl h1
  · exact sl3Set_z c B v u l g w hc hl hB hg hn _ rfl h1
end Go.Proofs.Ytknbfohmobjplab
