/- What MultipleOf and OrderOfElement compute, the program's and the reference's. Conditions: at most 2^20 orders. -/
import Derived.Test.YtknbfohmobjplabMGa
namespace Go.Proofs.Ytknbfohmobjplab
open Go.RowKit

theorem itimes_any (v : Value) (l : List Int) (x n : Int) (w : World) (hr : Rd w w.heap.size .i64 v l) (hg : isGroup l = true) (hx : 0 ≤ x ∧ x ≤ 1000000) (hn : -1000000 ≤ n ∧ n ≤ 1000000) :
    Calls Try.prog 75 #[.agg #[v], .int .i64 x, .int .i64 n] w fun e w' => e = .returned (.int .i64 (gmul l n x)) ∧ Below w.heap.size w w' := by
  replace hg := hid hg
  by_cases h0 : n < 0
  · have hb1 := gneg_small hg.out x
    have hgm := hid (gmul_neg l n x (isGroup.big hg.out))
    obtain ⟨y, hy⟩ : ∃ y, y = gneg l x := ⟨_, rfl⟩
    rw [← hy] at hb1 hgm
    replace hy := hid hy
    obtain ⟨m, hm⟩ : ∃ m : Nat, n = -(m : Int) := ⟨n.natAbs, by omega⟩
    subst hm
    rw [Int.neg_neg] at hgm
    go_enter Try.func75, Try.ntmps75
    go_wp2_with fail
    refine (inegate_any v l x _ ((hr.alloc (Nat.le_refl _) _).more (by go_size)) hg.out hx).mono ?_
    rintro e w1 ⟨rfl, hbw⟩
    rw [← hy.out]
    obtain ⟨hc1, hf1⟩ := bcell hbw
    have D1 : Below w.heap.size w w1 := by refine Below.trans ?_ (hbw.mono ?_) <;> go_grown
    have hz1 : w.heap.size < w1.heap.size := by have := hbw.size; simp at this; omega
    have c1 : w1.cell? ⟨w.heap.size, 0, none⟩ = some v := by rw [hc1 _ _ (by go_size)]; simp [go_sem]
    clear hc1 hf1
    go_wp2
    go_loopw [7, 16] (fun s i wr => ∃ k : Nat, k ≤ m ∧ i = .int .i64 k ∧ s = .int .i64 (gmul l k y) ∧ Below w.heap.size w wr ∧ w.heap.size < wr.heap.size ∧ wr.cell? ⟨w.heap.size, 0, none⟩ = some v) (fun _ i _ => m - (intOf i).toNat)
    case atStart => exact ⟨0, by omega, rfl, by rw [show ((0 : Nat) : Int) = 0 from rfl, gmul_zero], D1, hz1, c1⟩
    case round =>
      obtain ⟨k, hk, rfl, rfl, hb, hz, hc⟩ := hrel
      by_cases hlt : k < m
      · have hs := hid (gmul_succ l k y (isGroup.big hg.out))
        have hsm := gmul_small hg.out k y
        obtain ⟨s, hS⟩ : ∃ s, s = gmul l k y := ⟨_, rfl⟩
        rw [← hS] at hs hsm ⊢
        clear hS
        go_wp2_with fail
        refine (iadd_any _ l s y _ ((hr.below hb).more (by go_size)) hg.out (by omega) (by omega)).mono ?_
        rintro e w2 ⟨rfl, hb2⟩
        obtain ⟨hc2, hf2⟩ := bcell hb2
        go_wp2
        go_roundw
        case rel => exact ⟨k + 1, by omega, by go_num, by rw [hs.out]; rfl, bgo hb hb2, by have := hb2.size; omega, by rw [hc2 _ _ hz, hc]⟩
        case measure => simp [intOf]; omega
      · have e : k = m := by omega
        subst e
        go_wp2
        go_ret
        exact ⟨by rw [hgm.out]; rfl, hb⟩
  · obtain ⟨m, hm⟩ : ∃ m : Nat, n = (m : Int) := ⟨n.natAbs, by omega⟩
    subst hm
    go_enter Try.func75, Try.ntmps75
    go_wp2
    go_loopw [7, 16] (fun s i wr => ∃ k : Nat, k ≤ m ∧ i = .int .i64 k ∧ s = .int .i64 (gmul l k x) ∧ Below w.heap.size w wr ∧ w.heap.size < wr.heap.size ∧ wr.cell? ⟨w.heap.size, 0, none⟩ = some v) (fun _ i _ => m - (intOf i).toNat)
    case atStart => exact ⟨0, by omega, rfl, by rw [show ((0 : Nat) : Int) = 0 from rfl, gmul_zero], below_alloc _ _, by simp, by simp [go_sem]⟩
    case round =>
      obtain ⟨k, hk, rfl, rfl, hb, hz, hc⟩ := hrel
      by_cases hlt : k < m
      · have hs := hid (gmul_succ l k x (isGroup.big hg.out))
        have hsm := gmul_small hg.out k x
        obtain ⟨s, hS⟩ : ∃ s, s = gmul l k x := ⟨_, rfl⟩
        rw [← hS] at hs hsm ⊢
        clear hS
        go_wp2_with fail
        refine (iadd_any _ l s x _ ((hr.below hb).more (by go_size)) hg.out (by omega) (by omega)).mono ?_
        rintro e w2 ⟨rfl, hb2⟩
        obtain ⟨hc2, hf2⟩ := bcell hb2
        go_wp2
        go_roundw
        case rel => exact ⟨k + 1, by omega, by go_num, by rw [hs.out]; rfl, bgo hb hb2, by have := hb2.size; omega, by rw [hc2 _ _ hz, hc]⟩
        case measure => simp [intOf]; omega
      · have e : k = m := by omega
        subst e
        go_wp2
        go_ret
        exact ⟨rfl, hb⟩

theorem mulE_bad {l : List Int} {x n : Int} (h : ¬ (-100 ≤ n ∧ n ≤ 100)) : mulE l x n = -1 := by
  unfold mulE
  rw [decide_eq_false h, Bool.and_false]
  rfl
theorem iMultipleOf_any (v : Value) (l : List Int) (x n : Int) (w : World) (hr : Rd w w.heap.size .i64 v l) (hn : l.length ≤ 1048576) (hx : -9223372036854775808 ≤ x ∧ x ≤ 9223372036854775807) (hy : -9223372036854775808 ≤ n ∧ n ≤ 9223372036854775807) :
    Calls Try.prog 18 #[.agg #[v], .int .i64 x, .int .i64 n] w fun e w' => e = .returned (.int .i64 (mulE l x n)) ∧ Below w.heap.size w w' := by
  cases hE : isEl l x
  · have hA : mulE l x n = -1 := by unfold mulE; rw [hE]; rfl
    rw [hA]
    go_enter Try.func18, Try.ntmps18
    go_wp2_with fail
    refine (ihas_at hE ((hr.alloc (Nat.le_refl _) _).more (by go_size)) (by omega)).mono ?_
    rintro e w1 ⟨rfl, hb1⟩
    have D1 : Below w.heap.size w w1 := by refine Below.trans ?_ (hb1.mono ?_) <;> go_grown
    clear hE hA
    go_wp2
    go_ret
    exact ⟨rfl, D1⟩
  · have hg := hid (isEl.group hE)
    have bx := isEl.small hE
    by_cases hb : -100 ≤ n ∧ n ≤ 100
    · have hA : mulE l x n = gmul l n x := by unfold mulE; rw [hE, decide_eq_true hb]; rfl
      rw [hA]
      go_enter Try.func18, Try.ntmps18
      go_wp2_with fail
      refine (ihas_at hE ((hr.alloc (Nat.le_refl _) _).more (by go_size)) (by omega)).mono ?_
      rintro e w1 ⟨rfl, hb1⟩
      obtain ⟨hc1, hf1⟩ := bcell hb1
      have D1 : Below w.heap.size w w1 := by refine Below.trans ?_ (hb1.mono ?_) <;> go_grown
      have hz1 : w.heap.size < w1.heap.size := by have := hb1.size; simp at this; omega
      clear hE hA
      go_wp2_with (go_at_call 72; refine (iwithin_yes _ _ _ hb _).mono ?_; rintro e w' ⟨rfl, rfl⟩)
      refine (itimes_any _ l x n _ ((hr.below D1).more (by go_size)) hg.out (by omega) (by omega)).mono ?_
      rintro e w2 ⟨rfl, hb2⟩
      go_wp2
      go_ret
      exact ⟨rfl, bgo D1 hb2⟩
    · have hA := mulE_bad (l := l) (x := x) hb
      rw [hA]
      go_enter Try.func18, Try.ntmps18
      go_wp2_with fail
      refine (ihas_at hE ((hr.alloc (Nat.le_refl _) _).more (by go_size)) (by omega)).mono ?_
      rintro e w1 ⟨rfl, hb1⟩
      obtain ⟨hc1, hf1⟩ := bcell hb1
      have D1 : Below w.heap.size w w1 := by refine Below.trans ?_ (hb1.mono ?_) <;> go_grown
      have hz1 : w.heap.size < w1.heap.size := by have := hb1.size; simp at this; omega
      clear hE hA
      go_wp2_with (go_at_call 72; refine (iwithin_no _ _ _ hb _).mono ?_; rintro e w' ⟨rfl, rfl⟩)
      go_ret
      exact ⟨rfl, D1⟩
theorem sMultipleOf_any (v : Value) (l : List Int) (x n : Int) (w : World) (hr : Rd w w.heap.size .i64 v l) (hn : l.length ≤ 1048576) (hx : -9223372036854775808 ≤ x ∧ x ≤ 9223372036854775807) (hy : -9223372036854775808 ≤ n ∧ n ≤ 9223372036854775807) :
    Calls Try.prog 34 #[.agg #[v], .int .i64 x, .int .i64 n] w fun e w' => e = .returned (.int .i64 (mulE l x n)) ∧ Below w.heap.size w w' := by
  cases hE : isEl l x
  · have hA : mulE l x n = -1 := by unfold mulE; rw [hE]; rfl
    rw [hA]
    go_enter Try.func34, Try.ntmps34
    go_wp2_with fail
    refine (sl2Is_at hE ((hr.alloc (Nat.le_refl _) _).more (by go_size)) (by omega)).mono ?_
    rintro e w1 ⟨rfl, hb1⟩
    have D1 : Below w.heap.size w w1 := by refine Below.trans ?_ (hb1.mono ?_) <;> go_grown
    clear hE hA
    go_wp2
    go_ret
    exact ⟨rfl, D1⟩
  · have hg := hid (isEl.group hE)
    have bx := isEl.small hE
    by_cases hb : -100 ≤ n ∧ n ≤ 100
    · have hA : mulE l x n = gmul l n x := by unfold mulE; rw [hE, decide_eq_true hb]; rfl
      rw [hA]
      by_cases h0 : n < 0
      · have hb1 := gneg_small hg.out x
        have hgm := hid (gmul_neg l n x (isGroup.big hg.out))
        obtain ⟨y, hyy⟩ : ∃ y, y = gneg l x := ⟨_, rfl⟩
        rw [← hyy] at hb1 hgm
        replace hyy := hid hyy
        obtain ⟨m, hm⟩ : ∃ m : Nat, n = -(m : Int) := ⟨n.natAbs, by omega⟩
        subst hm
        rw [Int.neg_neg] at hgm
        go_enter Try.func34, Try.ntmps34
        go_wp2_with fail
        refine (sl2Is_at hE ((hr.alloc (Nat.le_refl _) _).more (by go_size)) (by omega)).mono ?_
        rintro e w1 ⟨rfl, hb1⟩
        obtain ⟨hc1, hf1⟩ := bcell hb1
        have D1 : Below w.heap.size w w1 := by refine Below.trans ?_ (hb1.mono ?_) <;> go_grown
        have hz1 : w.heap.size < w1.heap.size := by have := hb1.size; simp at this; omega
        have c1 : w1.cell? ⟨w.heap.size, 0, none⟩ = some v := by rw [hc1 _ _ (by go_size)]; simp [go_sem]
        clear hE hA hc1 hf1
        go_wp2_with (go_at_call 87; refine (sl1In_yes _ _ _ hb _).mono ?_; rintro e w' ⟨rfl, rfl⟩)
        refine (sl2Negate_any _ l x _ ((hr.below D1).more (by go_size)) hg.out (by omega)).mono ?_
        rintro e w2 ⟨rfl, hb2⟩
        obtain ⟨hc2, hf2⟩ := bcell hb2
        have D2 := bgo D1 hb2
        have hz2 : w.heap.size < w2.heap.size := by have := hb2.size; omega
        have c2 : w2.cell? ⟨w.heap.size, 0, none⟩ = some v := by rw [hc2 _ _ hz1, c1]
        rw [← hyy.out]
        clear hc2 hf2
        go_wp2
        go_loopw [7, 8] (fun s i wr => ∃ k : Nat, k ≤ m ∧ i = .int .i64 k ∧ s = .int .i64 (gmul l k y) ∧ Below w.heap.size w wr ∧ w.heap.size < wr.heap.size ∧ wr.cell? ⟨w.heap.size, 0, none⟩ = some v) (fun _ i _ => m - (intOf i).toNat)
        case atStart => exact ⟨0, by omega, rfl, by rw [show ((0 : Nat) : Int) = 0 from rfl, gmul_zero], D2, hz2, c2⟩
        case round =>
          obtain ⟨k, hk, rfl, rfl, hbw, hz, hc⟩ := hrel
          by_cases hlt : k < m
          · have hs := hid (gmul_succ l k y (isGroup.big hg.out))
            have hsm := gmul_small hg.out k y
            obtain ⟨s, hS⟩ : ∃ s, s = gmul l k y := ⟨_, rfl⟩
            rw [← hS] at hs hsm ⊢
            clear hS
            go_wp2_with fail
            refine (sl2Add_any _ l s y _ ((hr.below hbw).more (by go_size)) hg.out (by omega) (by omega)).mono ?_
            rintro e w5 ⟨rfl, hb5⟩
            obtain ⟨hc5, hf5⟩ := bcell hb5
            go_wp2
            go_roundw
            case rel => exact ⟨k + 1, by omega, by go_num, by rw [hs.out]; rfl, bgo hbw hb5, by have := hb5.size; omega, by rw [hc5 _ _ hz, hc]⟩
            case measure => simp [intOf]; omega
          · have e : k = m := by omega
            subst e
            go_wp2
            go_ret
            exact ⟨by rw [hgm.out]; rfl, hbw⟩
      · obtain ⟨m, hm⟩ : ∃ m : Nat, n = (m : Int) := ⟨n.natAbs, by omega⟩
        subst hm
        go_enter Try.func34, Try.ntmps34
        go_wp2_with fail
        refine (sl2Is_at hE ((hr.alloc (Nat.le_refl _) _).more (by go_size)) (by omega)).mono ?_
        rintro e w1 ⟨rfl, hb1⟩
        obtain ⟨hc1, hf1⟩ := bcell hb1
        have D1 : Below w.heap.size w w1 := by refine Below.trans ?_ (hb1.mono ?_) <;> go_grown
        have hz1 : w.heap.size < w1.heap.size := by have := hb1.size; simp at this; omega
        have c1 : w1.cell? ⟨w.heap.size, 0, none⟩ = some v := by rw [hc1 _ _ (by go_size)]; simp [go_sem]
        clear hE hA hc1 hf1
        go_wp2_with (go_at_call 87; refine (sl1In_yes _ _ _ hb _).mono ?_; rintro e w' ⟨rfl, rfl⟩)
        go_wp2
        go_loopw [7, 8] (fun s i wr => ∃ k : Nat, k ≤ m ∧ i = .int .i64 k ∧ s = .int .i64 (gmul l k x) ∧ Below w.heap.size w wr ∧ w.heap.size < wr.heap.size ∧ wr.cell? ⟨w.heap.size, 0, none⟩ = some v) (fun _ i _ => m - (intOf i).toNat)
        case atStart => exact ⟨0, by omega, rfl, by rw [show ((0 : Nat) : Int) = 0 from rfl, gmul_zero], D1, hz1, c1⟩
        case round =>
          obtain ⟨k, hk, rfl, rfl, hbw, hz, hc⟩ := hrel
          by_cases hlt : k < m
          · have hs := hid (gmul_succ l k x (isGroup.big hg.out))
            have hsm := gmul_small hg.out k x
            obtain ⟨s, hS⟩ : ∃ s, s = gmul l k x := ⟨_, rfl⟩
            rw [← hS] at hs hsm ⊢
            clear hS
            go_wp2_with fail
            refine (sl2Add_any _ l s x _ ((hr.below hbw).more (by go_size)) hg.out (by omega) (by omega)).mono ?_
            rintro e w5 ⟨rfl, hb5⟩
            obtain ⟨hc5, hf5⟩ := bcell hb5
            go_wp2
            go_roundw
            case rel => exact ⟨k + 1, by omega, by go_num, by rw [hs.out]; rfl, bgo hbw hb5, by have := hb5.size; omega, by rw [hc5 _ _ hz, hc]⟩
            case measure => simp [intOf]; omega
          · have e : k = m := by omega
            subst e
            go_wp2
            go_ret
            exact ⟨rfl, hbw⟩
    · have hA := mulE_bad (l := l) (x := x) hb
      rw [hA]
      go_enter Try.func34, Try.ntmps34
      go_wp2_with fail
      refine (sl2Is_at hE ((hr.alloc (Nat.le_refl _) _).more (by go_size)) (by omega)).mono ?_
      rintro e w1 ⟨rfl, hb1⟩
      obtain ⟨hc1, hf1⟩ := bcell hb1
      have D1 : Below w.heap.size w w1 := by refine Below.trans ?_ (hb1.mono ?_) <;> go_grown
      have hz1 : w.heap.size < w1.heap.size := by have := hb1.size; simp at this; omega
      clear hE hA
      go_wp2_with (go_at_call 87; refine (sl1In_no _ _ _ hb _).mono ?_; rintro e w' ⟨rfl, rfl⟩)
      go_ret
      exact ⟨rfl, D1⟩

/-- the order's search does not run past the group's order -/
theorem ordGo_step {l : List Int} {x : Int} {f : Nat} {n : Int} : ordGo l x (f + 1) n = if gmul l n x = 0 then n else ordGo l x f (n + 1) := rfl
theorem iOrderOfElement_any (v : Value) (l : List Int) (x : Int) (w : World) (hr : Rd w w.heap.size .i64 v l) (hn : l.length ≤ 1048576) (hx : -9223372036854775808 ≤ x ∧ x ≤ 9223372036854775807) :
    Calls Try.prog 15 #[.agg #[v], .int .i64 x] w fun e w' => e = .returned (.int .i64 (ordE l x)) ∧ Below w.heap.size w w' := by
  cases hE : isEl l x
  · have hA : ordE l x = 0 := by unfold ordE; rw [hE]; rfl
    rw [hA]
    go_enter Try.func15, Try.ntmps15
    go_wp2_with fail
    refine (ihas_at hE ((hr.alloc (Nat.le_refl _) _).more (by go_size)) (by omega)).mono ?_
    rintro e w1 ⟨rfl, hb1⟩
    have D1 : Below w.heap.size w w1 := by refine Below.trans ?_ (hb1.mono ?_) <;> go_grown
    clear hE hA
    go_wp2
    go_ret
    exact ⟨rfl, D1⟩
  · have hA : ordE l x = ordGo l x 24 1 := by unfold ordE; rw [hE]; rfl
    rw [hA]
    have hg := hid (isEl.group hE)
    have bx := isEl.small hE
    have h1 := hid (gmul_one l x (isGroup.big hg.out) (isEl.bd hE).1 (isEl.bd hE).2)
    go_enter Try.func15, Try.ntmps15
    go_wp2_with fail
    refine (ihas_at hE ((hr.alloc (Nat.le_refl _) _).more (by go_size)) (by omega)).mono ?_
    rintro e w1 ⟨rfl, hb1⟩
    obtain ⟨hc1, hf1⟩ := bcell hb1
    have D1 : Below w.heap.size w w1 := by refine Below.trans ?_ (hb1.mono ?_) <;> go_grown
    have hz1 : w.heap.size < w1.heap.size := by have := hb1.size; simp at this; omega
    have c1 : w1.cell? ⟨w.heap.size, 0, none⟩ = some v := by rw [hc1 _ _ (by go_size)]; simp [go_sem]
    clear hE hA hc1 hf1
    go_wp2
    go_loopw [5, 6] (fun n y wr => ∃ (k f : Nat), k + f = 25 ∧ 1 ≤ k ∧ k ≤ 24 ∧ Hid ((k : Int) ≤ prodL l) ∧ n = .int .i64 k ∧ y = .int .i64 (gmul l k x) ∧ Hid (ordGo l x f k = ordGo l x 24 1) ∧ Below w.heap.size w wr ∧ w.heap.size < wr.heap.size ∧ wr.cell? ⟨w.heap.size, 0, none⟩ = some v) (fun n _ _ => 24 - (intOf n).toNat)
    case atStart => exact ⟨1, 24, rfl, by omega, by omega, prodL_pos (isGroup.big hg.out), rfl, by rw [show ((1 : Nat) : Int) = 1 from rfl, h1.out], rfl, D1, hz1, c1⟩
    case round =>
      obtain ⟨k, f, hkf, hk1, hk, hkp, rfl, rfl, hgo, hb, hz, hc⟩ := hrel
      have hs := hid (gmul_succ l k x (isGroup.big hg.out))
      have hsm := gmul_small hg.out k x
      have hpd := hid (gmul_prod l x)
      have hp24 := hid (isGroup.prod hg.out)
      obtain ⟨f, rfl⟩ : ∃ g, f = g + 1 := ⟨f - 1, by omega⟩
      have hst := hid (@ordGo_step l x f k)
      by_cases h0 : gmul l k x = 0
      · have hfin := hst.out
        rw [hgo.out, if_pos h0] at hfin
        replace hfin := hid hfin
        have hz0 : (gmul l k x == 0) = true := beq_iff_eq.2 h0
        clear hs hsm
        rw [h0]
        go_wp2
        go_ret
        exact ⟨by rw [hfin.out]; rfl, hb⟩
      · have hfin := hst.out
        rw [hgo.out, if_neg h0] at hfin
        replace hfin := hid hfin
        have hlt : (k : Int) + 1 ≤ prodL l := by
          have h1 := hkp.out
          rcases Int.lt_or_eq_of_le h1 with h2 | h2
          · omega
          · rw [h2] at h0; exact absurd hpd.out h0
        have hk23 : k + 1 ≤ 24 := by have := hp24.out; omega
        replace hlt := hid hlt
        obtain ⟨s, hS⟩ : ∃ s, s = gmul l k x := ⟨_, rfl⟩
        rw [← hS] at hs hsm h0 ⊢
        have hz0 : (s == 0) = false := by rw [beq_eq_false_iff_ne]; exact h0
        clear hS hst
        go_wp2_with fail
        refine (iadd_any _ l s x _ ((hr.below hb).more (by go_size)) hg.out (by omega) (by omega)).mono ?_
        rintro e w2 ⟨rfl, hb2⟩
        obtain ⟨hc2, hf2⟩ := bcell hb2
        go_wp2
        go_roundw
        case rel => exact ⟨k + 1, f, by omega, by omega, by omega, hlt, by go_num, by rw [hs.out]; rfl, by rw [hfin.out]; rfl, bgo hb hb2, by have := hb2.size; omega, by rw [hc2 _ _ hz, hc]⟩
        case measure => simp [intOf]; omega
theorem sOrderOfElement_any (v : Value) (l : List Int) (x : Int) (w : World) (hr : Rd w w.heap.size .i64 v l) (hn : l.length ≤ 1048576) (hx : -9223372036854775808 ≤ x ∧ x ≤ 9223372036854775807) :
    Calls Try.prog 35 #[.agg #[v], .int .i64 x] w fun e w' => e = .returned (.int .i64 (ordE l x)) ∧ Below w.heap.size w w' := by
  cases hE : isEl l x
  · have hA : ordE l x = 0 := by unfold ordE; rw [hE]; rfl
    rw [hA]
    go_enter Try.func35, Try.ntmps35
    go_wp2_with fail
    refine (sl2Is_at hE ((hr.alloc (Nat.le_refl _) _).more (by go_size)) (by omega)).mono ?_
    rintro e w1 ⟨rfl, hb1⟩
    have D1 : Below w.heap.size w w1 := by refine Below.trans ?_ (hb1.mono ?_) <;> go_grown
    clear hE hA
    go_wp2
    go_ret
    exact ⟨rfl, D1⟩
  · have hA : ordE l x = ordGo l x 24 1 := by unfold ordE; rw [hE]; rfl
    rw [hA]
    have hg := hid (isEl.group hE)
    have bx := isEl.small hE
    have h1 := hid (gmul_one l x (isGroup.big hg.out) (isEl.bd hE).1 (isEl.bd hE).2)
    go_enter Try.func35, Try.ntmps35
    go_wp2_with fail
    refine (sl2Is_at hE ((hr.alloc (Nat.le_refl _) _).more (by go_size)) (by omega)).mono ?_
    rintro e w1 ⟨rfl, hb1⟩
    obtain ⟨hc1, hf1⟩ := bcell hb1
    have D1 : Below w.heap.size w w1 := by refine Below.trans ?_ (hb1.mono ?_) <;> go_grown
    have hz1 : w.heap.size < w1.heap.size := by have := hb1.size; simp at this; omega
    have c1 : w1.cell? ⟨w.heap.size, 0, none⟩ = some v := by rw [hc1 _ _ (by go_size)]; simp [go_sem]
    clear hE hA hc1 hf1
    go_wp2
    go_loopw [5, 6] (fun n y wr => ∃ (k f : Nat), k + f = 25 ∧ 1 ≤ k ∧ k ≤ 24 ∧ Hid ((k : Int) ≤ prodL l) ∧ n = .int .i64 k ∧ y = .int .i64 (gmul l k x) ∧ Hid (ordGo l x f k = ordGo l x 24 1) ∧ Below w.heap.size w wr ∧ w.heap.size < wr.heap.size ∧ wr.cell? ⟨w.heap.size, 0, none⟩ = some v) (fun n _ _ => 24 - (intOf n).toNat)
    case atStart => exact ⟨1, 24, rfl, by omega, by omega, prodL_pos (isGroup.big hg.out), rfl, by rw [show ((1 : Nat) : Int) = 1 from rfl, h1.out], rfl, D1, hz1, c1⟩
    case round =>
      obtain ⟨k, f, hkf, hk1, hk, hkp, rfl, rfl, hgo, hb, hz, hc⟩ := hrel
      have hs := hid (gmul_succ l k x (isGroup.big hg.out))
      have hsm := gmul_small hg.out k x
      have hpd := hid (gmul_prod l x)
      have hp24 := hid (isGroup.prod hg.out)
      obtain ⟨f, rfl⟩ : ∃ g, f = g + 1 := ⟨f - 1, by omega⟩
      have hst := hid (@ordGo_step l x f k)
      by_cases h0 : gmul l k x = 0
      · have hfin := hst.out
        rw [hgo.out, if_pos h0] at hfin
        replace hfin := hid hfin
        have hz0 : (gmul l k x == 0) = true := beq_iff_eq.2 h0
        clear hs hsm
        rw [h0]
        go_wp2
        go_ret
        exact ⟨by rw [hfin.out]; rfl, hb⟩
      · have hfin := hst.out
        rw [hgo.out, if_neg h0] at hfin
        replace hfin := hid hfin
        have hlt : (k : Int) + 1 ≤ prodL l := by
          have h1 := hkp.out
          rcases Int.lt_or_eq_of_le h1 with h2 | h2
          · omega
          · rw [h2] at h0; exact absurd hpd.out h0
        have hk23 : k + 1 ≤ 24 := by have := hp24.out; omega
        replace hlt := hid hlt
        obtain ⟨s, hS⟩ : ∃ s, s = gmul l k x := ⟨_, rfl⟩
        rw [← hS] at hs hsm h0 ⊢
        have hz0 : (s == 0) = false := by rw [beq_eq_false_iff_ne]; exact h0
        clear hS hst
        go_wp2_with fail
        refine (sl2Add_any _ l s x _ ((hr.below hb).more (by go_size)) hg.out (by omega) (by omega)).mono ?_
        rintro e w2 ⟨rfl, hb2⟩
        obtain ⟨hc2, hf2⟩ := bcell hb2
        go_wp2
        go_roundw
        case rel => exact ⟨k + 1, f, by omega, by omega, by omega, hlt, by go_num, by rw [hs.out]; rfl, by rw [hfin.out]; rfl, bgo hb hb2, by have := hb2.size; omega, by rw [hc2 _ _ hz, hc]⟩
        case measure => simp [intOf]; omega
end Go.Proofs.Ytknbfohmobjplab
