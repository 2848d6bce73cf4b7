/- The draws of elements and sets. Conditions: codes of at most 2^40 bytes. -/
import Derived.Test.YtknbfohmobjplabMRa
import Derived.Test.YtknbfohmobjplabG1
import Derived.Test.YtknbfohmobjplabS5
namespace Go.Proofs.Ytknbfohmobjplab
set_option linter.unusedVariables false
set_option linter.unusedSimpArgs false
open Go.RowKit

theorem sl1Once_any (c B : Nat) (v : Value) (l : List Int) (n : Int) (w : World) (hc : Cur w c B v l) (hl : l.length ≤ 1099511627776) (hB : IsB l) (h0 : 0 < n) (hn : n ≤ 1000) :
    Calls Try.prog 90 #[.pointer (some ⟨c, 0, none⟩), .int .i64 n] w fun e w' => (∃ b : Bool, e = .returned (.bool b)) ∧ Cur w' c B v l ∧ w.grownBy w' (some c) := by
  have hY := hid fun w hc => sl1Below_any c B v l n w hc hl hB h0 (by omega)
  replace hB := hid hB
  go_enter Try.func90, Try.ntmps90
  go_wp2_with fail
  refine (hY.out _ hc).mono ?_
  rintro e w1 ⟨⟨x, rfl, hx0, hx1⟩, hc1, hg1⟩
  go_wp2
  go_ret
  exact ⟨⟨_, rfl⟩, hc1, hg1⟩
def oddL : List Int := [-1, 24, 9223372036854775807]
theorem oddL_bd : ∀ x ∈ oddL, -9223372036854775808 ≤ x ∧ x ≤ 9223372036854775807 := by decide
set_option maxRecDepth 100000 in
theorem sl2Element_any (c B : Nat) (v u : Value) (l g : List Int) (w : World) (hc : Cur w c B v l) (hl : l.length ≤ 1099511627776) (hB : IsB l) (hg : Gd w c u g) (hn : g.length ≤ 1048576) :
    Calls Try.prog 89 #[.pointer (some ⟨c, 0, none⟩), .agg #[u]] w fun e w' => (∃ x : Int, e = .returned (.int .i64 x) ∧ -9223372036854775808 ≤ x ∧ x ≤ 9223372036854775807) ∧ Cur w' c B v l ∧ w.grownBy w' (some c) := by
  have hY := hid fun n h0 hn w hc => sl1Below_any c B v l n w hc hl hB h0 hn
  have hP := hid fun L d w hc => sl1PickInt_any c B v l L d w hc hl hB
  have hO := hid fun n h0 hn w hc => sl1Once_any c B v l n w hc hl hB h0 hn
  replace hB := hid hB
  have hcw := hc.lt
  have hob := orderOf_bd g
  obtain ⟨o, ho⟩ : ∃ o, o = orderOf g := ⟨_, rfl⟩
  have hS := hid fun w h => ho ▸ sOrderOf_any u g w h (by omega)
  rw [← ho] at hob
  clear ho
  go_enter Try.func89, Try.ntmps89
  go_wp2_with fail
  refine (hO.out _ (by omega) (by omega) _ (hc.below (below_alloc _ _))).mono ?_
  rintro e w1 ⟨⟨b, rfl⟩, hc1, hg1⟩
  have G1 := grown_trans (below_grown (below_alloc w (.cells #[u] 26)) (some c)) hg1
  have k1 : w1.cell? ⟨w.heap.size, 0, none⟩ = some u := (cell_far hg1 ⟨w.heap.size, 0, none⟩ (by simp) (by simp; omega)).trans (by simp [go_sem])
  have gd1 := (hg.below (below_alloc w (.cells #[u] 26))).drawn hg1
  have hlt := hc1.lt
  clear hg1 hO
  cases b
  · go_wp2_with fail
    refine (hS.out _ gd1.rd).mono ?_
    rintro e w2 ⟨rfl, hb2⟩
    have hc2 := hc1.below hb2
    have G2 := grown_trans G1 (below_grown hb2 _)
    by_cases h1 : 1 < o
    · go_wp2_with fail
      refine (hY.out _ (by omega) (by omega) _ hc2).mono ?_
      rintro e w3 ⟨⟨y, rfl, hy0, hy1⟩, hc3, hg3⟩
      go_wp2
      go_ret
      exact ⟨⟨_, rfl, by omega, by omega⟩, hc3, grown_trans G2 hg3⟩
    · go_wp2_with fail
      refine (hY.out _ (by omega) (by omega) _ hc2).mono ?_
      rintro e w3 ⟨⟨y, rfl, hy0, hy1⟩, hc3, hg3⟩
      go_wp2
      go_ret
      exact ⟨⟨_, rfl, by omega, by omega⟩, hc3, grown_trans G2 hg3⟩
  · go_wp2_with fail
    refine (hP.out oddL w1.heap.size _ (hc1.below (below_alloc _ _)) (by simp) (by omega) (fun i h => cells_new w1 oddL _ i h) (by decide) (by decide)).mono ?_
    rintro e w2 ⟨⟨y, rfl, hy⟩, hc2, hg2⟩
    have hyb := oddL_bd y hy
    go_wp2
    go_ret
    exact ⟨⟨_, rfl, hyb⟩, hc2, grown_trans G1 (grown_trans (below_grown (below_alloc _ _) _) hg2)⟩
end Go.Proofs.Ytknbfohmobjplab
