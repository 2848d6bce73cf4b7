/- Parts of the walk in one text: G2, G3. Conditions: each theorem's own. -/
import Derived.Test.YtknbfohmobjplabG1
import Derived.Test.YtknbfohmobjplabMPl
import Derived.Test.YtknbfohmobjplabMKt
namespace Go.Proofs.Ytknbfohmobjplab
open Go.RowKit

/-- one round of a sum over the orders -/
theorem sum_round {l : List Int} (hg : isGroup l = true) {k : Nat} (hk : k < l.length) {s t : Int} (ht : 0 ≤ t ∧ t < l[k]) (hs : 0 ≤ s ∧ s < prodL (l.take k)) :
    1 ≤ prodL (l.take k) ∧ prodL (l.take k) ≤ 24 ∧ prodL (l.take (k + 1)) = prodL (l.take k) * l[k] ∧ prodL (l.take k) * l[k] ≤ 24 ∧ 0 ≤ t * prodL (l.take k) ∧ t * prodL (l.take k) ≤ 24 ∧ 0 ≤ s + t * prodL (l.take k) ∧ s + t * prodL (l.take k) < prodL (l.take (k + 1)) := by
  have hb := isGroup.big hg
  have hp := isGroup.prod hg
  have h1 := prodL_pos (hb.take k)
  have h2 := prodL_take_le hb k
  have h3 := prodL_take_le hb (k + 1)
  have e : prodL (l.take (k + 1)) = prodL (l.take k) * l[k] := by rw [take_succ_get l k hk, prodL_snoc]
  rw [e] at h3 ⊢
  have h4 : 0 ≤ t * prodL (l.take k) := Int.mul_nonneg ht.1 (by omega)
  have h5 : (t + 1) * prodL (l.take k) ≤ l[k] * prodL (l.take k) := Int.mul_le_mul_of_nonneg_right (by omega) (by omega)
  rw [Int.add_mul, Int.one_mul, Int.mul_comm l[k]] at h5
  refine ⟨h1, by omega, rfl, by omega, h4, by omega, by omega, by omega⟩
theorem gadd_drop {l : List Int} {k : Nat} (hk : k < l.length) (x y : Int) : gadd (l.drop k) x y = (x % l[k] + y % l[k]) % l[k] + l[k] * gadd (l.drop (k + 1)) (x / l[k]) (y / l[k]) := by
  rw [List.drop_eq_getElem_cons hk, gadd]
theorem gneg_drop {l : List Int} {k : Nat} (hk : k < l.length) (x : Int) : gneg (l.drop k) x = (l[k] - x % l[k]) % l[k] + l[k] * gneg (l.drop (k + 1)) (x / l[k]) := by
  rw [List.drop_eq_getElem_cons hk, gneg]
theorem sub_mod (o a : Int) : (o - a) % o = -a % o := by
  rw [show o - a = -a + o by omega]
  simp
theorem regroup (s t u o G : Int) : s + t * u + u * o * G = s + u * (t + o * G) := by
  rw [Int.mul_add, Int.mul_comm t u, Int.mul_assoc]
  omega

theorem iadd_any (v : Value) (l : List Int) (x y : Int) (w : World) (hr : Rd w w.heap.size .i64 v l) (hg : isGroup l = true) (hx : 0 ≤ x ∧ x ≤ 1000000) (hy : 0 ≤ y ∧ y ≤ 1000000) :
    Calls Try.prog 66 #[.agg #[v], .int .i64 x, .int .i64 y] w fun e w' => e = .returned (.int .i64 (gadd l x y)) ∧ Below w.heap.size w w' := by
  obtain ⟨ao, cap, rfl, _, _, hrd⟩ := hr
  have hl3 := isGroup.len hg
  replace hg := hid hg
  replace hrd := hid hrd
  go_enter Try.func66, Try.ntmps66
  go_wp2
  go_loopw [7, 8, 1, 2, 14] (fun s u xk yk i wr => ∃ (k : Nat) (S X Y : Int), k ≤ l.length ∧ i = .int .i64 k ∧ s = .int .i64 S ∧ u = .int .i64 (prodL (l.take k)) ∧ xk = .int .i64 X ∧ yk = .int .i64 Y ∧ 0 ≤ S ∧ Hid (S < prodL (l.take k)) ∧ 0 ≤ X ∧ X ≤ 1000000 ∧ 0 ≤ Y ∧ Y ≤ 1000000 ∧ Hid (S + prodL (l.take k) * gadd (l.drop k) X Y = gadd l x y) ∧ Below w.heap.size w wr) (fun _ _ _ _ i _ => l.length - (intOf i).toNat)
  case atStart => exact ⟨0, 0, x, y, by omega, rfl, rfl, rfl, rfl, rfl, by omega, Int.one_pos, hx.1, hx.2, hy.1, hy.2, by show 0 + prodL [] * gadd l x y = gadd l x y; rw [prodL_nil, Int.one_mul, Int.zero_add], below_alloc _ _⟩
  case round =>
    obtain ⟨k, S, X, Y, hk, rfl, rfl, rfl, rfl, rfl, hS0, hS1, hX0, hX1, hY0, hY1, heq, hb⟩ := hrel
    by_cases hlt : k < l.length
    · obtain ⟨b, off, rfl, hB, hcell⟩ := hrd.out (by omega)
      have hc := (hb.cell (p := ⟨b, off + k, none⟩) hB).trans (hcell k hlt)
      have ho := ((isGroup_iff l).1 hg.out).2.1 _ (List.getElem_mem hlt)
      have htb := emod_bd (X % l[k] + Y % l[k]) ho.1
      have hx1 := emod_bd X ho.1
      have hy1 := emod_bd Y ho.1
      have hdx : 0 ≤ X / l[k] ∧ X / l[k] ≤ X := ⟨Int.ediv_nonneg hX0 (by omega), Int.ediv_le_self _ hX0⟩
      have hdy : 0 ≤ Y / l[k] ∧ Y / l[k] ≤ Y := ⟨Int.ediv_nonneg hY0 (by omega), Int.ediv_le_self _ hY0⟩
      obtain ⟨q1, q2, q3, q4, q5, q6, q7, q8⟩ := sum_round hg.out hlt htb ⟨hS0, hS1.out⟩
      have hgd := gadd_drop hlt X Y
      have heq2 := heq.out
      rw [hgd, ← regroup, ← q3] at heq2
      obtain ⟨o, hO⟩ : ∃ o, o = l[k] := ⟨_, rfl⟩
      obtain ⟨u, hU⟩ : ∃ u, u = prodL (l.take k) := ⟨_, rfl⟩
      rw [← hO] at hc ho htb hx1 hy1 hdx hdy q3 q4 q5 q6 q7 q8 heq2
      rw [← hU] at q1 q2 q3 q4 q5 q6 q7 q8 heq2 ⊢
      replace q3 := hid q3
      clear hcell hgd hO hU heq hS1
      have z1 : ¬ o = 0 := by omega
      have z2 : (o == 0) = false := by rw [beq_eq_false_iff_ne]; exact z1
      have e1 : X.tmod o = X % o := Int.tmod_eq_emod_of_nonneg hX0
      have e2 : Y.tmod o = Y % o := Int.tmod_eq_emod_of_nonneg hY0
      rw [← Int.add_emod] at htb q5 q6 q7 q8 heq2
      have hSu : S ≤ 24 := by rw [q3.out] at q8; omega
      have e5 : IntKind.i64.wrap ((X + Y) % o * u) = (X + Y) % o * u := IntWalk.i64_in _ (by omega)
      have e6 : IntKind.i64.wrap (S + (X + Y) % o * u) = S + (X + Y) % o * u := IntWalk.i64_in _ (by omega)
      replace heq2 := hid heq2
      replace q8 := hid q8
      have q9 : 0 ≤ u * o := Int.mul_nonneg (by omega) (by omega)
      have e7 : IntKind.i64.wrap (X.tdiv o) = X / o := IntWalk.i64_quo _ _ (by omega)
      have e8 : IntKind.i64.wrap (Y.tdiv o) = Y / o := IntWalk.i64_quo _ _ (by omega)
      go_wp2
      go_quiet (fail)
      go_wp2
      go_quiet (fail)
      go_wp2
      go_roundw
      case rel => exact ⟨k + 1, _, _, _, by omega, by go_num, rfl, by rw [q3.out], rfl, rfl, by omega, q8, by omega, by omega, by omega, by omega, heq2, hb.trans (below_drewN _ _ _)⟩
      case measure => simp [intOf]; omega
    · have hfin : S = gadd l x y := by
        have h := heq.out
        rw [List.drop_eq_nil_of_le (by omega), gadd] at h
        omega
      replace hfin := hid hfin
      go_wp2
      go_ret
      exact ⟨by rw [← hfin.out]; rfl, hb⟩

theorem inegate_any (v : Value) (l : List Int) (x : Int) (w : World) (hr : Rd w w.heap.size .i64 v l) (hg : isGroup l = true) (hx : 0 ≤ x ∧ x ≤ 1000000) :
    Calls Try.prog 71 #[.agg #[v], .int .i64 x] w fun e w' => e = .returned (.int .i64 (gneg l x)) ∧ Below w.heap.size w w' := by
  obtain ⟨ao, cap, rfl, _, _, hrd⟩ := hr
  have hl3 := isGroup.len hg
  replace hg := hid hg
  replace hrd := hid hrd
  go_enter Try.func71, Try.ntmps71
  go_wp2
  go_loopw [5, 6, 1, 12] (fun s u xk i wr => ∃ (k : Nat) (S X : Int), k ≤ l.length ∧ i = .int .i64 k ∧ s = .int .i64 S ∧ u = .int .i64 (prodL (l.take k)) ∧ xk = .int .i64 X ∧ 0 ≤ S ∧ Hid (S < prodL (l.take k)) ∧ 0 ≤ X ∧ X ≤ 1000000 ∧ Hid (S + prodL (l.take k) * gneg (l.drop k) X = gneg l x) ∧ Below w.heap.size w wr) (fun _ _ _ i _ => l.length - (intOf i).toNat)
  case atStart => exact ⟨0, 0, x, by omega, rfl, rfl, rfl, rfl, by omega, Int.one_pos, hx.1, hx.2, by show 0 + prodL [] * gneg l x = gneg l x; rw [prodL_nil, Int.one_mul, Int.zero_add], below_alloc _ _⟩
  case round =>
    obtain ⟨k, S, X, hk, rfl, rfl, rfl, rfl, hS0, hS1, hX0, hX1, heq, hb⟩ := hrel
    by_cases hlt : k < l.length
    · obtain ⟨b, off, rfl, hB, hcell⟩ := hrd.out (by omega)
      have hc := (hb.cell (p := ⟨b, off + k, none⟩) hB).trans (hcell k hlt)
      have ho := ((isGroup_iff l).1 hg.out).2.1 _ (List.getElem_mem hlt)
      have htb := emod_bd (l[k] - X % l[k]) ho.1
      have hx1 := emod_bd X ho.1
      have hdx : 0 ≤ X / l[k] ∧ X / l[k] ≤ X := ⟨Int.ediv_nonneg hX0 (by omega), Int.ediv_le_self _ hX0⟩
      obtain ⟨q1, q2, q3, q4, q5, q6, q7, q8⟩ := sum_round hg.out hlt htb ⟨hS0, hS1.out⟩
      have hgd := gneg_drop hlt X
      have heq2 := heq.out
      rw [hgd, ← regroup, ← q3] at heq2
      obtain ⟨o, hO⟩ : ∃ o, o = l[k] := ⟨_, rfl⟩
      obtain ⟨u, hU⟩ : ∃ u, u = prodL (l.take k) := ⟨_, rfl⟩
      rw [← hO] at hc ho htb hx1 hdx q3 q4 q5 q6 q7 q8 heq2
      rw [← hU] at q1 q2 q3 q4 q5 q6 q7 q8 heq2 ⊢
      replace q3 := hid q3
      clear hcell hgd hO hU heq hS1
      have z1 : ¬ o = 0 := by omega
      have z2 : (o == 0) = false := by rw [beq_eq_false_iff_ne]; exact z1
      have e1 : X.tmod o = X % o := Int.tmod_eq_emod_of_nonneg hX0
      have e2 : (o - X % o).tmod o = -(X % o) % o := by rw [Int.tmod_eq_emod_of_nonneg (by omega), sub_mod]
      rw [sub_mod] at htb q5 q6 q7 q8 heq2
      have e3 : IntKind.i64.wrap (o - X % o) = o - X % o := IntWalk.i64_in _ (by omega)
      have hSu : S ≤ 24 := by rw [q3.out] at q8; omega
      have e5 : IntKind.i64.wrap (-(X % o) % o * u) = -(X % o) % o * u := IntWalk.i64_in _ (by omega)
      have e6 : IntKind.i64.wrap (S + -(X % o) % o * u) = S + -(X % o) % o * u := IntWalk.i64_in _ (by omega)
      replace heq2 := hid heq2
      replace q8 := hid q8
      have q9 : 0 ≤ u * o := Int.mul_nonneg (by omega) (by omega)
      have e7 : IntKind.i64.wrap (X.tdiv o) = X / o := IntWalk.i64_quo _ _ (by omega)
      go_wp2
      go_roundw
      case rel => exact ⟨k + 1, _, _, by omega, by go_num, rfl, by rw [q3.out], rfl, by omega, q8, by omega, by omega, heq2, hb⟩
      case measure => simp [intOf]; omega
    · have hfin : S = gneg l x := by
        have h := heq.out
        rw [List.drop_eq_nil_of_le (by omega), gneg] at h
        omega
      replace hfin := hid hfin
      go_wp2
      go_ret
      exact ⟨by rw [← hfin.out]; rfl, hb⟩

theorem sl2Add_any (v : Value) (l : List Int) (x y : Int) (w : World) (hr : Rd w w.heap.size .i64 v l) (hg : isGroup l = true) (hx : 0 ≤ x ∧ x ≤ 1000000) (hy : 0 ≤ y ∧ y ≤ 1000000) :
    Calls Try.prog 68 #[.agg #[v], .int .i64 x, .int .i64 y] w fun e w' => e = .returned (.int .i64 (gadd l x y)) ∧ Below w.heap.size w w' := by
  obtain ⟨ao, cap, rfl, _, _, hrd⟩ := hr
  have hl3 := isGroup.len hg
  replace hg := hid hg
  replace hrd := hid hrd
  go_enter Try.func68, Try.ntmps68
  go_wp2
  go_loopw [7, 8, 1, 2, 9] (fun s u xk yk i wr => ∃ (k : Nat) (S X Y : Int), k ≤ l.length ∧ i = .int .i64 k ∧ s = .int .i64 S ∧ u = .int .i64 (prodL (l.take k)) ∧ xk = .int .i64 X ∧ yk = .int .i64 Y ∧ 0 ≤ S ∧ Hid (S < prodL (l.take k)) ∧ 0 ≤ X ∧ X ≤ 1000000 ∧ 0 ≤ Y ∧ Y ≤ 1000000 ∧ Hid (S + prodL (l.take k) * gadd (l.drop k) X Y = gadd l x y) ∧ ∃ m, wr = (w.alloc (.cells #[.slice ao l.length cap] 26)).drewN m) (fun _ _ _ _ i _ => l.length - (intOf i).toNat)
  case atStart => exact ⟨0, 0, x, y, by omega, rfl, rfl, rfl, rfl, rfl, by omega, Int.one_pos, hx.1, hx.2, hy.1, hy.2, by show 0 + prodL [] * gadd l x y = gadd l x y; rw [prodL_nil, Int.one_mul, Int.zero_add], 0, rfl⟩
  case round =>
    obtain ⟨k, S, X, Y, hk, rfl, rfl, rfl, rfl, rfl, hS0, hS1, hX0, hX1, hY0, hY1, heq, m, rfl⟩ := hrel
    have hb := (below_alloc w (.cells #[.slice ao l.length cap] 26)).trans (below_drewN _ _ m)
    by_cases hlt : k < l.length
    · obtain ⟨b, off, rfl, hB, hcell⟩ := hrd.out (by omega)
      have hc := (hb.cell (p := ⟨b, off + k, none⟩) hB).trans (hcell k hlt)
      have ho := ((isGroup_iff l).1 hg.out).2.1 _ (List.getElem_mem hlt)
      have htb := emod_bd (X % l[k] + Y % l[k]) ho.1
      have hx1 := emod_bd X ho.1
      have hy1 := emod_bd Y ho.1
      have hdx : 0 ≤ X / l[k] ∧ X / l[k] ≤ X := ⟨Int.ediv_nonneg hX0 (by omega), Int.ediv_le_self _ hX0⟩
      have hdy : 0 ≤ Y / l[k] ∧ Y / l[k] ≤ Y := ⟨Int.ediv_nonneg hY0 (by omega), Int.ediv_le_self _ hY0⟩
      obtain ⟨q1, q2, q3, q4, q5, q6, q7, q8⟩ := sum_round hg.out hlt htb ⟨hS0, hS1.out⟩
      have hgd := gadd_drop hlt X Y
      have heq2 := heq.out
      rw [hgd, ← regroup, ← q3] at heq2
      obtain ⟨o, hO⟩ : ∃ o, o = l[k] := ⟨_, rfl⟩
      obtain ⟨u, hU⟩ : ∃ u, u = prodL (l.take k) := ⟨_, rfl⟩
      rw [← hO] at hc ho htb hx1 hy1 hdx hdy q3 q4 q5 q6 q7 q8 heq2
      rw [← hU] at q1 q2 q3 q4 q5 q6 q7 q8 heq2 ⊢
      replace q3 := hid q3
      clear hcell hgd hO hU heq hS1
      have z1 : ¬ o = 0 := by omega
      have z2 : (o == 0) = false := by rw [beq_eq_false_iff_ne]; exact z1
      have e1 : X.tmod o = X % o := Int.tmod_eq_emod_of_nonneg hX0
      have e2 : Y.tmod o = Y % o := Int.tmod_eq_emod_of_nonneg hY0
      rw [← Int.add_emod] at htb q5 q6 q7 q8 heq2
      have hSu : S ≤ 24 := by rw [q3.out] at q8; omega
      have e5 : IntKind.i64.wrap ((X + Y) % o * u) = (X + Y) % o * u := IntWalk.i64_in _ (by omega)
      have e6 : IntKind.i64.wrap (S + (X + Y) % o * u) = S + (X + Y) % o * u := IntWalk.i64_in _ (by omega)
      replace heq2 := hid heq2
      replace q8 := hid q8
      have q9 : 0 ≤ u * o := Int.mul_nonneg (by omega) (by omega)
      have e7 : IntKind.i64.wrap (X.tdiv o) = X / o := IntWalk.i64_quo _ _ (by omega)
      have e8 : IntKind.i64.wrap (Y.tdiv o) = Y / o := IntWalk.i64_quo _ _ (by omega)
      go_wp2
      go_quiet (fail)
      go_wp2
      go_roundw
      case rel => exact ⟨k + 1, _, _, _, by omega, by go_num, rfl, by rw [q3.out], rfl, rfl, by omega, q8, by omega, by omega, by omega, by omega, heq2, m + nq, rfl⟩
      case measure => simp [intOf]; omega
    · have hfin : S = gadd l x y := by
        have h := heq.out
        rw [List.drop_eq_nil_of_le (by omega), gadd] at h
        omega
      replace hfin := hid hfin
      go_wp2
      go_ret
      exact ⟨by rw [← hfin.out]; rfl, hb⟩

theorem sl2Negate_any (v : Value) (l : List Int) (x : Int) (w : World) (hr : Rd w w.heap.size .i64 v l) (hg : isGroup l = true) (hx : 0 ≤ x ∧ x ≤ 1000000) :
    Calls Try.prog 92 #[.agg #[v], .int .i64 x] w fun e w' => e = .returned (.int .i64 (gneg l x)) ∧ Below w.heap.size w w' := by
  obtain ⟨ao, cap, rfl, _, _, hrd⟩ := hr
  have hl3 := isGroup.len hg
  replace hg := hid hg
  replace hrd := hid hrd
  go_enter Try.func92, Try.ntmps92
  go_wp2
  go_loopw [5, 6, 1, 7] (fun s u xk i wr => ∃ (k : Nat) (S X : Int), k ≤ l.length ∧ i = .int .i64 k ∧ s = .int .i64 S ∧ u = .int .i64 (prodL (l.take k)) ∧ xk = .int .i64 X ∧ 0 ≤ S ∧ Hid (S < prodL (l.take k)) ∧ 0 ≤ X ∧ X ≤ 1000000 ∧ Hid (S + prodL (l.take k) * gneg (l.drop k) X = gneg l x) ∧ ∃ m, wr = (w.alloc (.cells #[.slice ao l.length cap] 26)).drewN m) (fun _ _ _ i _ => l.length - (intOf i).toNat)
  case atStart => exact ⟨0, 0, x, by omega, rfl, rfl, rfl, rfl, by omega, Int.one_pos, hx.1, hx.2, by show 0 + prodL [] * gneg l x = gneg l x; rw [prodL_nil, Int.one_mul, Int.zero_add], 0, rfl⟩
  case round =>
    obtain ⟨k, S, X, hk, rfl, rfl, rfl, rfl, hS0, hS1, hX0, hX1, heq, m, rfl⟩ := hrel
    have hb := (below_alloc w (.cells #[.slice ao l.length cap] 26)).trans (below_drewN _ _ m)
    by_cases hlt : k < l.length
    · obtain ⟨b, off, rfl, hB, hcell⟩ := hrd.out (by omega)
      have hc := (hb.cell (p := ⟨b, off + k, none⟩) hB).trans (hcell k hlt)
      have ho := ((isGroup_iff l).1 hg.out).2.1 _ (List.getElem_mem hlt)
      have htb := emod_bd (l[k] - X % l[k]) ho.1
      have hx1 := emod_bd X ho.1
      have hdx : 0 ≤ X / l[k] ∧ X / l[k] ≤ X := ⟨Int.ediv_nonneg hX0 (by omega), Int.ediv_le_self _ hX0⟩
      obtain ⟨q1, q2, q3, q4, q5, q6, q7, q8⟩ := sum_round hg.out hlt htb ⟨hS0, hS1.out⟩
      have hgd := gneg_drop hlt X
      have heq2 := heq.out
      rw [hgd, ← regroup, ← q3] at heq2
      obtain ⟨o, hO⟩ : ∃ o, o = l[k] := ⟨_, rfl⟩
      obtain ⟨u, hU⟩ : ∃ u, u = prodL (l.take k) := ⟨_, rfl⟩
      rw [← hO] at hc ho htb hx1 hdx q3 q4 q5 q6 q7 q8 heq2
      rw [← hU] at q1 q2 q3 q4 q5 q6 q7 q8 heq2 ⊢
      replace q3 := hid q3
      clear hcell hgd hO hU heq hS1
      have z1 : ¬ o = 0 := by omega
      have z2 : (o == 0) = false := by rw [beq_eq_false_iff_ne]; exact z1
      have e1 : X.tmod o = X % o := Int.tmod_eq_emod_of_nonneg hX0
      have e2 : (o - X % o).tmod o = -(X % o) % o := by rw [Int.tmod_eq_emod_of_nonneg (by omega), sub_mod]
      rw [sub_mod] at htb q5 q6 q7 q8 heq2
      have e3 : IntKind.i64.wrap (o - X % o) = o - X % o := IntWalk.i64_in _ (by omega)
      have hSu : S ≤ 24 := by rw [q3.out] at q8; omega
      have e5 : IntKind.i64.wrap (-(X % o) % o * u) = -(X % o) % o * u := IntWalk.i64_in _ (by omega)
      have e6 : IntKind.i64.wrap (S + -(X % o) % o * u) = S + -(X % o) % o * u := IntWalk.i64_in _ (by omega)
      replace heq2 := hid heq2
      replace q8 := hid q8
      have q9 : 0 ≤ u * o := Int.mul_nonneg (by omega) (by omega)
      have e7 : IntKind.i64.wrap (X.tdiv o) = X / o := IntWalk.i64_quo _ _ (by omega)
      go_wp2
      go_roundw
      case rel => exact ⟨k + 1, _, _, by omega, by go_num, rfl, by rw [q3.out], rfl, by omega, q8, by omega, by omega, heq2, m, rfl⟩
      case measure => simp [intOf]; omega
    · have hfin : S = gneg l x := by
        have h := heq.out
        rw [List.drop_eq_nil_of_le (by omega), gneg] at h
        omega
      replace hfin := hid hfin
      go_wp2
      go_ret
      exact ⟨by rw [← hfin.out]; rfl, hb⟩

end Go.Proofs.Ytknbfohmobjplab

namespace Go.Proofs.Ytknbfohmobjplab
open Go.RowKit

theorem ihas_at {v : Value} {l : List Int} {x : Int} {b : Bool} {w : World} (hE : isEl l x = b) (hr : Rd w w.heap.size .i64 v l) (hn : l.length ≤ 1073741824) :
    Calls Try.prog 65 #[.agg #[v], .int .i64 x] w fun e w' => e = .returned (.bool b) ∧ Below w.heap.size w w' := by
  rw [← hE]; exact ihas_any v l x w hr hn
theorem sl2Is_at {v : Value} {l : List Int} {x : Int} {b : Bool} {w : World} (hE : isEl l x = b) (hr : Rd w w.heap.size .i64 v l) (hn : l.length ≤ 1073741824) :
    Calls Try.prog 67 #[.agg #[v], .int .i64 x] w fun e w' => e = .returned (.bool b) ∧ Below w.heap.size w w' := by
  rw [← hE]; exact sl2Is_any v l x w hr hn

theorem iAddElements_any (v : Value) (l : List Int) (x y : Int) (w : World) (hr : Rd w w.heap.size .i64 v l) (hn : l.length ≤ 1048576) (hx : -9223372036854775808 ≤ x ∧ x ≤ 9223372036854775807) (hy : -9223372036854775808 ≤ y ∧ y ≤ 9223372036854775807) :
    Calls Try.prog 7 #[.agg #[v], .int .i64 x, .int .i64 y] w fun e w' => e = .returned (.int .i64 (addE l x y)) ∧ Below w.heap.size w w' := by
  cases hE : isEl l x
  · have hA : addE l x y = -1 := by unfold addE; rw [hE]; rfl
    rw [hA]
    go_enter Try.func7, Try.ntmps7
    go_wp2_with fail
    refine (ihas_at hE ((hr.alloc (Nat.le_refl _) _).more (by go_size)) (by omega)).mono ?_
    rintro e w1 ⟨rfl, hb1⟩
    have D1 : Below w.heap.size w w1 := by refine Below.trans ?_ (hb1.mono ?_) <;> go_grown
    clear hE hA
    go_wp2
    go_ret
    exact ⟨rfl, D1⟩
  · cases hF : isEl l y
    · have hA : addE l x y = -1 := by unfold addE; rw [hE, hF]; rfl
      rw [hA]
      go_enter Try.func7, Try.ntmps7
      go_wp2_with fail
      refine (ihas_at hE ((hr.alloc (Nat.le_refl _) _).more (by go_size)) (by omega)).mono ?_
      rintro e w1 ⟨rfl, hb1⟩
      obtain ⟨hc1, hf1⟩ := bcell hb1
      have D1 : Below w.heap.size w w1 := by refine Below.trans ?_ (hb1.mono ?_) <;> go_grown
      have hz1 : w.heap.size < w1.heap.size := by have := hb1.size; simp at this; omega
      clear hE hA
      go_wp2_with fail
      refine (ihas_at hF ((hr.below D1).more (by go_size)) (by omega)).mono ?_
      rintro e w2 ⟨rfl, hb2⟩
      clear hF
      go_wp2
      go_ret
      exact ⟨rfl, bgo D1 hb2⟩
    · have hA : addE l x y = gadd l x y := by unfold addE; rw [hE, hF]; rfl
      rw [hA]
      have hg := isEl.group hE
      have bx := isEl.small hE
      have by' := isEl.small hF
      replace hg := hid hg
      go_enter Try.func7, Try.ntmps7
      go_wp2_with fail
      refine (ihas_at hE ((hr.alloc (Nat.le_refl _) _).more (by go_size)) (by omega)).mono ?_
      rintro e w1 ⟨rfl, hb1⟩
      obtain ⟨hc1, hf1⟩ := bcell hb1
      have D1 : Below w.heap.size w w1 := by refine Below.trans ?_ (hb1.mono ?_) <;> go_grown
      have hz1 : w.heap.size < w1.heap.size := by have := hb1.size; simp at this; omega
      clear hE hA
      go_wp2_with fail
      refine (ihas_at hF ((hr.below D1).more (by go_size)) (by omega)).mono ?_
      rintro e w2 ⟨rfl, hb2⟩
      obtain ⟨hc2, hf2⟩ := bcell hb2
      have D2 := bgo D1 hb2
      have hz2 : w.heap.size < w2.heap.size := by have := hb2.size; omega
      clear hF
      go_wp2_with fail
      refine (iadd_any _ l x y _ ((hr.below D2).more (by go_size)) hg.out (by omega) (by omega)).mono ?_
      rintro e w3 ⟨rfl, hb3⟩
      go_wp2
      go_ret
      exact ⟨rfl, bgo D2 hb3⟩
theorem sAddElements_any (v : Value) (l : List Int) (x y : Int) (w : World) (hr : Rd w w.heap.size .i64 v l) (hn : l.length ≤ 1048576) (hx : -9223372036854775808 ≤ x ∧ x ≤ 9223372036854775807) (hy : -9223372036854775808 ≤ y ∧ y ≤ 9223372036854775807) :
    Calls Try.prog 9 #[.agg #[v], .int .i64 x, .int .i64 y] w fun e w' => e = .returned (.int .i64 (addE l x y)) ∧ Below w.heap.size w w' := by
  cases hE : isEl l x
  · have hA : addE l x y = -1 := by unfold addE; rw [hE]; rfl
    rw [hA]
    go_enter Try.func9, Try.ntmps9
    go_wp2_with fail
    refine (sl2Is_at hE ((hr.alloc (Nat.le_refl _) _).more (by go_size)) (by omega)).mono ?_
    rintro e w1 ⟨rfl, hb1⟩
    have D1 : Below w.heap.size w w1 := by refine Below.trans ?_ (hb1.mono ?_) <;> go_grown
    clear hE hA
    go_wp2
    go_ret
    exact ⟨rfl, D1⟩
  · cases hF : isEl l y
    · have hA : addE l x y = -1 := by unfold addE; rw [hE, hF]; rfl
      rw [hA]
      go_enter Try.func9, Try.ntmps9
      go_wp2_with fail
      refine (sl2Is_at hE ((hr.alloc (Nat.le_refl _) _).more (by go_size)) (by omega)).mono ?_
      rintro e w1 ⟨rfl, hb1⟩
      obtain ⟨hc1, hf1⟩ := bcell hb1
      have D1 : Below w.heap.size w w1 := by refine Below.trans ?_ (hb1.mono ?_) <;> go_grown
      have hz1 : w.heap.size < w1.heap.size := by have := hb1.size; simp at this; omega
      clear hE hA
      go_wp2_with fail
      refine (sl2Is_at hF ((hr.below D1).more (by go_size)) (by omega)).mono ?_
      rintro e w2 ⟨rfl, hb2⟩
      clear hF
      go_wp2
      go_ret
      exact ⟨rfl, bgo D1 hb2⟩
    · have hA : addE l x y = gadd l x y := by unfold addE; rw [hE, hF]; rfl
      rw [hA]
      have hg := isEl.group hE
      have bx := isEl.small hE
      have by' := isEl.small hF
      replace hg := hid hg
      go_enter Try.func9, Try.ntmps9
      go_wp2_with fail
      refine (sl2Is_at hE ((hr.alloc (Nat.le_refl _) _).more (by go_size)) (by omega)).mono ?_
      rintro e w1 ⟨rfl, hb1⟩
      obtain ⟨hc1, hf1⟩ := bcell hb1
      have D1 : Below w.heap.size w w1 := by refine Below.trans ?_ (hb1.mono ?_) <;> go_grown
      have hz1 : w.heap.size < w1.heap.size := by have := hb1.size; simp at this; omega
      clear hE hA
      go_wp2_with fail
      refine (sl2Is_at hF ((hr.below D1).more (by go_size)) (by omega)).mono ?_
      rintro e w2 ⟨rfl, hb2⟩
      obtain ⟨hc2, hf2⟩ := bcell hb2
      have D2 := bgo D1 hb2
      have hz2 : w.heap.size < w2.heap.size := by have := hb2.size; omega
      clear hF
      go_wp2_with fail
      refine (sl2Add_any _ l x y _ ((hr.below D2).more (by go_size)) hg.out (by omega) (by omega)).mono ?_
      rintro e w3 ⟨rfl, hb3⟩
      go_wp2
      go_ret
      exact ⟨rfl, bgo D2 hb3⟩
theorem iNegateElement_any (v : Value) (l : List Int) (x : Int) (w : World) (hr : Rd w w.heap.size .i64 v l) (hn : l.length ≤ 1048576) (hx : -9223372036854775808 ≤ x ∧ x ≤ 9223372036854775807) :
    Calls Try.prog 13 #[.agg #[v], .int .i64 x] w fun e w' => e = .returned (.int .i64 (negE l x)) ∧ Below w.heap.size w w' := by
  cases hE : isEl l x
  · have hA : negE l x = -1 := by unfold negE; rw [hE]; rfl
    rw [hA]
    go_enter Try.func13, Try.ntmps13
    go_wp2_with fail
    refine (ihas_at hE ((hr.alloc (Nat.le_refl _) _).more (by go_size)) (by omega)).mono ?_
    rintro e w1 ⟨rfl, hb1⟩
    have D1 : Below w.heap.size w w1 := by refine Below.trans ?_ (hb1.mono ?_) <;> go_grown
    clear hE hA
    go_wp2
    go_ret
    exact ⟨rfl, D1⟩
  · have hA : negE l x = gneg l x := by unfold negE; rw [hE]; rfl
    rw [hA]
    have hg := isEl.group hE
    have bx := isEl.small hE
    replace hg := hid hg
    go_enter Try.func13, Try.ntmps13
    go_wp2_with fail
    refine (ihas_at hE ((hr.alloc (Nat.le_refl _) _).more (by go_size)) (by omega)).mono ?_
    rintro e w1 ⟨rfl, hb1⟩
    obtain ⟨hc1, hf1⟩ := bcell hb1
    have D1 : Below w.heap.size w w1 := by refine Below.trans ?_ (hb1.mono ?_) <;> go_grown
    have hz1 : w.heap.size < w1.heap.size := by have := hb1.size; simp at this; omega
    clear hE hA
    go_wp2_with fail
    refine (inegate_any _ l x _ ((hr.below D1).more (by go_size)) hg.out (by omega)).mono ?_
    rintro e w2 ⟨rfl, hb2⟩
    go_wp2
    go_ret
    exact ⟨rfl, bgo D1 hb2⟩
theorem sNegateElement_any (v : Value) (l : List Int) (x : Int) (w : World) (hr : Rd w w.heap.size .i64 v l) (hn : l.length ≤ 1048576) (hx : -9223372036854775808 ≤ x ∧ x ≤ 9223372036854775807) :
    Calls Try.prog 36 #[.agg #[v], .int .i64 x] w fun e w' => e = .returned (.int .i64 (negE l x)) ∧ Below w.heap.size w w' := by
  cases hE : isEl l x
  · have hA : negE l x = -1 := by unfold negE; rw [hE]; rfl
    rw [hA]
    go_enter Try.func36, Try.ntmps36
    go_wp2_with fail
    refine (sl2Is_at hE ((hr.alloc (Nat.le_refl _) _).more (by go_size)) (by omega)).mono ?_
    rintro e w1 ⟨rfl, hb1⟩
    have D1 : Below w.heap.size w w1 := by refine Below.trans ?_ (hb1.mono ?_) <;> go_grown
    clear hE hA
    go_wp2
    go_ret
    exact ⟨rfl, D1⟩
  · have hA : negE l x = gneg l x := by unfold negE; rw [hE]; rfl
    rw [hA]
    have hg := isEl.group hE
    have bx := isEl.small hE
    replace hg := hid hg
    go_enter Try.func36, Try.ntmps36
    go_wp2_with fail
    refine (sl2Is_at hE ((hr.alloc (Nat.le_refl _) _).more (by go_size)) (by omega)).mono ?_
    rintro e w1 ⟨rfl, hb1⟩
    obtain ⟨hc1, hf1⟩ := bcell hb1
    have D1 : Below w.heap.size w w1 := by refine Below.trans ?_ (hb1.mono ?_) <;> go_grown
    have hz1 : w.heap.size < w1.heap.size := by have := hb1.size; simp at this; omega
    clear hE hA
    go_wp2_with fail
    refine (sl2Negate_any _ l x _ ((hr.below D1).more (by go_size)) hg.out (by omega)).mono ?_
    rintro e w2 ⟨rfl, hb2⟩
    go_wp2
    go_ret
    exact ⟨rfl, bgo D1 hb2⟩
end Go.Proofs.Ytknbfohmobjplab
