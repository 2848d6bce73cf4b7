/- What PlacesOf computes, the program's and the reference's. Conditions: at most 2^20 orders. -/
import Derived.Test.YtknbfohmobjplabMGa
import Derived.Test.YtknbfohmobjplabMPl
namespace Go.Proofs.Ytknbfohmobjplab
open Go.RowKit

def plcE (l : List Int) (x : Int) : List Int := if isEl l x then places l x else []
theorem plcE_len {l : List Int} (x : Int) : (plcE l x).length ≤ 1048576 := by
  unfold plcE
  split
  · rename_i h
    rw [places_length]
    have := isGroup.len (isEl.group h)
    omega
  · simp
theorem places_drop {l : List Int} {k : Nat} (hk : k < l.length) (x : Int) : places (l.drop k) x = x % l[k] :: places (l.drop (k + 1)) (x / l[k]) := by
  rw [List.drop_eq_getElem_cons hk, places]
theorem isEl_div {l : List Int} {x o : Int} (h : isEl l x = true) (ho : 2 ≤ o) : isEl l (x / o) = true := by
  rw [isEl_iff] at h ⊢
  have h1 := Int.ediv_nonneg h.1 (show 0 ≤ o by omega)
  have h2 := Int.ediv_le_self o h.1
  omega

theorem own_empty1 (w : World) (o : Obj) (e : TypeId) (k : IntKind) : Own ((w.alloc o).alloc (.cells #[] e)) w.heap.size e k (.slice (some ⟨w.heap.size + 1, 0, none⟩) 0 0) [] := by
  have := Own.empty (w.alloc o) w.heap.size e k (below_alloc w o).size
  simpa using this
theorem own_empty2 (w : World) (o : Obj) (e : TypeId) (k : IntKind) : Own ((w.alloc o).alloc (.cells #[] e)) (w.heap.size + 1) e k (.slice (some ⟨w.heap.size + 1, 0, none⟩) 0 0) [] := by
  have := Own.empty (w.alloc o) (w.heap.size + 1) e k (by simp)
  simpa using this
theorem iplaces_any (v : Value) (l : List Int) (x : Int) (w : World) (hr : Rd w w.heap.size .i64 v l) (hg : isGroup l = true) (hx : 0 ≤ x ∧ x ≤ 1000000) :
    Calls Try.prog 74 #[.agg #[v], .int .i64 x] w fun e w' => ∃ ao cap, e = .returned (.slice ao (places l x).length cap) ∧ Own w' w.heap.size 3 .i64 (.slice ao (places l x).length cap) (places l x) ∧ Below w.heap.size w w' := by
  obtain ⟨ao, cap, rfl, _, _, hrd⟩ := hr
  have hl3 := isGroup.len hg
  obtain ⟨R, hRR⟩ : ∃ R, R = places l x := ⟨_, rfl⟩
  rw [← hRR]
  replace hRR := hid hRR
  replace hg := hid hg
  replace hrd := hid hrd
  go_enter Try.func74, Try.ntmps74
  go_wp2
  go_loopw [5, 1, 12] (fun o xk i wr => ∃ (k : Nat) (X : Int) (P : List Int), k ≤ l.length ∧ i = .int .i64 k ∧ xk = .int .i64 X ∧ 0 ≤ X ∧ X ≤ 1000000 ∧ P.length ≤ k ∧ Own wr w.heap.size 3 .i64 o P ∧ Hid (R = P ++ places (l.drop k) X) ∧ Below w.heap.size w wr) (fun _ _ i _ => l.length - (intOf i).toNat)
  case atStart => exact ⟨0, x, [], by omega, rfl, rfl, hx.1, hx.2, by simp, own_empty1 _ _ _ _, hRR, by go_grown⟩
  case round =>
    obtain ⟨k, X, P, hk, rfl, rfl, hX0, hX1, hP, hown, heq, hb⟩ := hrel
    have hsz := hb.size
    by_cases hlt : k < l.length
    · obtain ⟨b, off, rfl, hB, hcell⟩ := hrd.out (by omega)
      have hc := (hb.cell (p := ⟨b, off + k, none⟩) hB).trans (hcell k hlt)
      have ho := ((isGroup_iff l).1 hg.out).2.1 _ (List.getElem_mem hlt)
      have hgd := places_drop hlt X
      have heq2 := heq.out
      rw [hgd] at heq2
      have hx1 := emod_bd X ho.1
      have hdx : 0 ≤ X / l[k] ∧ X / l[k] ≤ X := ⟨Int.ediv_nonneg hX0 (by omega), Int.ediv_le_self _ hX0⟩
      obtain ⟨o, hO⟩ : ∃ o, o = l[k] := ⟨_, rfl⟩
      rw [← hO] at hc ho heq2 hx1 hdx
      have z1 : ¬ o = 0 := by omega
      have z2 : (o == 0) = false := by rw [beq_eq_false_iff_ne]; exact z1
      have e1 : X.tmod o = X % o := Int.tmod_eq_emod_of_nonneg hX0
      have e7 : IntKind.i64.wrap (X.tdiv o) = X / o := IntWalk.i64_quo _ _ (by omega)
      rw [show P ++ X % o :: places (l.drop (k + 1)) (X / o) = (P ++ [X % o]) ++ places (l.drop (k + 1)) (X / o) by simp] at heq2
      have hPl : (P ++ [X % o]).length ≤ k + 1 := by simp; omega
      replace heq2 := hid heq2
      replace hPl := hid hPl
      clear hcell hgd hO heq
      go_wp2_with (at_builtin; refine app1 rfl _ _ rfl Try.underlying24 info_int (by decide) rfl hown rfl (by omega) (by omega) ?_)
      intro v' w' hown' hb' _
      clear hown
      go_wp2
      go_roundw
      case rel => exact ⟨k + 1, _, _, by omega, by go_num, rfl, by omega, by omega, hPl.out, hown', heq2, hb.trans hb'⟩
      case measure => simp [intOf]; omega
    · have hfin : R = P := by
        have h := heq.out
        rw [List.drop_eq_nil_of_le (by omega), places, List.append_nil] at h
        exact h
      subst hfin
      obtain ⟨ao2, cap2, rfl, hc1, hc2⟩ := hown.shape
      clear heq
      go_wp2
      go_ret
      exact ⟨_, _, rfl, hown, hb⟩
set_option maxRecDepth 100000 in
theorem sPlacesOf_any (v : Value) (l : List Int) (x : Int) (w : World) (hr : Rd w w.heap.size .i64 v l) (hn : l.length ≤ 1048576) (hx : -9223372036854775808 ≤ x ∧ x ≤ 9223372036854775807) :
    Calls Try.prog 33 #[.agg #[v], .int .i64 x] w fun e w' => ∃ ao cap, e = .returned (.slice ao (plcE l x).length cap) ∧ Own w' w.heap.size 3 .i64 (.slice ao (plcE l x).length cap) (plcE l x) ∧ Below w.heap.size w w' := by
  obtain ⟨R, hRR⟩ : ∃ R, R = plcE l x := ⟨_, rfl⟩
  rw [← hRR]
  cases hE : isEl l x
  · have hR0 : R = [] := by rw [hRR]; unfold plcE; rw [hE]; rfl
    subst hR0
    have hH := fun w h1 => sl2Is_at (v := v) (w := w) hE h1 (by omega)
    clear hRR hE
    obtain ⟨ao, cap, rfl, _, _, hrd⟩ := id hr
    clear hrd
    go_enter Try.func33, Try.ntmps33
    go_wp2
    go_loopw [5, 1, 6] (fun o xk i wr => i = .int .i64 0 ∧ xk = .int .i64 x ∧ Own wr w.heap.size 3 .i64 o [] ∧ Below w.heap.size w wr ∧ wr.cell? ⟨w.heap.size, 0, none⟩ = some (.slice ao l.length cap)) (fun _ _ i _ => l.length - (intOf i).toNat)
    case atStart => exact ⟨rfl, rfl, own_empty1 _ _ _ _, by go_grown, by simp [go_sem]⟩
    case round =>
      obtain ⟨rfl, rfl, hown, hb, hc⟩ := hrel
      have hsz := hb.size
      obtain ⟨ao2, cap2, rfl, hc1, hc2⟩ := hown.shape
      by_cases hlt : 0 < l.length
      · have hlt' : (0 : Int) < l.length := by omega
        go_wp2_with fail
        refine (hH _ ((hr.below hb).more hsz)).mono ?_
        rintro e w2 ⟨rfl, hb2⟩
        have hown2 := hown.below hb2
        go_wp2
        go_ret
        exact ⟨_, _, rfl, hown2, bgo hb hb2⟩
      · have hlt' : ¬ (0 : Int) < l.length := by omega
        go_wp2
        go_ret
        exact ⟨_, _, rfl, hown, hb⟩
  · have hRp : R = places l x := by rw [hRR]; unfold plcE; rw [hE]; rfl
    have hg := hid (isEl.group hE)
    have hx0 := isEl.small hE
    clear hRR
    replace hRp := hid hRp
    replace hE := hid hE
    have hr0 := hid hr
    obtain ⟨ao, cap, rfl, _, _, hrd⟩ := hr
    replace hrd := hid hrd
    go_enter Try.func33, Try.ntmps33
    go_wp2
    go_loopw [5, 1, 6] (fun o xk i wr => ∃ (k : Nat) (X : Int) (P : List Int), k ≤ l.length ∧ i = .int .i64 k ∧ xk = .int .i64 X ∧ 0 ≤ X ∧ X ≤ 1000000 ∧ Hid (isEl l X = true) ∧ P.length ≤ k ∧ Own wr (w.heap.size + 1) 3 .i64 o P ∧ Hid (R = P ++ places (l.drop k) X) ∧ Below w.heap.size w wr ∧ w.heap.size < wr.heap.size ∧ wr.cell? ⟨w.heap.size, 0, none⟩ = some (.slice ao l.length cap)) (fun _ _ i _ => l.length - (intOf i).toNat)
    case atStart => exact ⟨0, x, [], by omega, rfl, rfl, hx0.1, by omega, hE, by simp, own_empty2 _ _ _ _, hRp, by go_grown, by simp; omega, by simp [go_sem]⟩
    case round =>
      obtain ⟨k, X, P, hk, rfl, rfl, hX0, hX1, hEX, hP, hown, heq, hb, hz, hc⟩ := hrel
      have hsz := hb.size
      by_cases hlt : k < l.length
      · have hlt' : (k : Int) < l.length := by omega
        obtain ⟨b, off, rfl, hB, hcell⟩ := hrd.out (by omega)
        have hcm := (hb.cell (p := ⟨b, off + k, none⟩) hB).trans (hcell k hlt)
        have ho := ((isGroup_iff l).1 hg.out).2.1 _ (List.getElem_mem hlt)
        have hgd := places_drop hlt X
        have heq2 := heq.out
        rw [hgd] at heq2
        have hx1 := emod_bd X ho.1
        have hdx : 0 ≤ X / l[k] ∧ X / l[k] ≤ X := ⟨Int.ediv_nonneg hX0 (by omega), Int.ediv_le_self _ hX0⟩
        have hEX2 := hid (isEl_div hEX.out ho.1)
        obtain ⟨o, hO⟩ : ∃ o, o = l[k] := ⟨_, rfl⟩
        rw [← hO] at hcm ho heq2 hx1 hdx hEX2
        have z1 : ¬ o = 0 := by omega
        have z2 : (o == 0) = false := by rw [beq_eq_false_iff_ne]; exact z1
        have e1 : X.tmod o = X % o := Int.tmod_eq_emod_of_nonneg hX0
        have e7 : IntKind.i64.wrap (X.tdiv o) = X / o := IntWalk.i64_quo _ _ (by omega)
        rw [show P ++ X % o :: places (l.drop (k + 1)) (X / o) = (P ++ [X % o]) ++ places (l.drop (k + 1)) (X / o) by simp] at heq2
        have hPl : (P ++ [X % o]).length ≤ k + 1 := by simp; omega
        replace heq2 := hid heq2
        replace hPl := hid hPl
        clear hcell hgd hO heq
        go_wp2_with fail
        refine (sl2Is_at hEX.out ((hr0.out.below hb).more hsz) (by omega)).mono ?_
        rintro e w2 ⟨rfl, hb2⟩
        have hc2 := (hb2.cell hz).trans hc
        have hcm2 := (hb2.cell (p := ⟨b, off + k, none⟩) (Nat.lt_of_lt_of_le hB hsz)).trans hcm
        have hown2 := hown.below hb2
        have hz2 := hb2.size
        clear hown
        go_wp2_with (at_builtin; refine app1 rfl _ _ rfl Try.underlying24 info_int (by decide) rfl hown2 rfl (by omega) (by omega) ?_)
        intro v' w' hown' hb' _
        have hc3 := (hb'.cell (p := ⟨w.heap.size, 0, none⟩) (Nat.lt_succ_self _)).trans hc2
        have hcm3 := (hb'.cell (p := ⟨b, off + k, none⟩) (Nat.lt_succ_of_lt hB)).trans hcm2
        have hz3 := hb'.size
        clear hown2
        go_wp2
        go_roundw
        case rel => exact ⟨k + 1, _, _, by omega, by go_num, rfl, by omega, by omega, hEX2, hPl.out, hown', heq2, (bgo hb hb2).trans (hb'.mono (Nat.le_succ _)), by omega, hc3⟩
        case measure => simp [intOf]; omega
      · have hlt' : ¬ (k : Int) < l.length := by omega
        have hfin : R = P := by
          have h := heq.out
          rw [List.drop_eq_nil_of_le (by omega), places, List.append_nil] at h
          exact h
        subst hfin
        obtain ⟨ao2, cap2, rfl, hc1, hc2⟩ := hown.shape
        clear heq
        go_wp2
        go_ret
        exact ⟨_, _, rfl, hown.lower (Nat.le_succ _), hb⟩
theorem iPlacesOf_any (v : Value) (l : List Int) (x : Int) (w : World) (hr : Rd w w.heap.size .i64 v l) (hn : l.length ≤ 1048576) (_ : -9223372036854775808 ≤ x ∧ x ≤ 9223372036854775807) :
    Calls Try.prog 17 #[.agg #[v], .int .i64 x] w fun e w' => ∃ ao cap, e = .returned (.slice ao (plcE l x).length cap) ∧ Own w' w.heap.size 3 .i64 (.slice ao (plcE l x).length cap) (plcE l x) ∧ Below w.heap.size w w' := by
  cases hE : isEl l x
  · have hA : plcE l x = [] := by unfold plcE; rw [hE]; rfl
    rw [hA]
    go_enter Try.func17, Try.ntmps17
    go_wp2_with fail
    refine (ihas_at hE ((hr.alloc (Nat.le_refl _) _).more (by go_size)) (by omega)).mono ?_
    rintro e w1 ⟨rfl, hb1⟩
    have D1 : Below w.heap.size w w1 := by refine Below.trans ?_ (hb1.mono ?_) <;> go_grown
    clear hE hA
    go_wp2
    go_ret
    exact ⟨_, _, rfl, Own.empty _ _ _ _ D1.size, D1.trans ((below_alloc _ _).mono D1.size)⟩
  · have hA : plcE l x = places l x := by unfold plcE; rw [hE]; rfl
    rw [hA]
    have hg := hid (isEl.group hE)
    have bx := isEl.small hE
    obtain ⟨R, hR⟩ : ∃ R, R = places l x := ⟨_, rfl⟩
    have hP := fun w hr => iplaces_any v l x w hr hg.out (by omega)
    rw [← hR] at hP ⊢
    go_enter Try.func17, Try.ntmps17
    go_wp2_with fail
    refine (ihas_at hE ((hr.alloc (Nat.le_refl _) _).more (by go_size)) (by omega)).mono ?_
    rintro e w1 ⟨rfl, hb1⟩
    obtain ⟨hc1, hf1⟩ := bcell hb1
    have D1 : Below w.heap.size w w1 := by refine Below.trans ?_ (hb1.mono ?_) <;> go_grown
    have hz1 : w.heap.size < w1.heap.size := by have := hb1.size; simp at this; omega
    clear hE hA hR
    go_wp2_with fail
    refine (hP _ ((hr.below D1).more (by go_size))).mono ?_
    rintro e w2 ⟨ao2, cap2, rfl, ho2, hb2⟩
    go_wp2
    go_ret
    exact ⟨_, _, rfl, ho2.lower D1.size, bgo D1 hb2⟩
end Go.Proofs.Ytknbfohmobjplab
