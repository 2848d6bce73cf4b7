/- What IsGroup, OrderOf and the element tests compute, the program's and the reference's. Conditions: at most 2^30 orders. -/
import Derived.Test.YtffbamjfpegndabH1
import Derived.Test.YtffbamjfpegndabIn
import Derived.Test.YtffbamjfpegndabPlG
namespace Go.Proofs.Ytffbamjfpegndab
open Go.RowKit

/-- the orders up to here are in range -/
def Fine (l : List Int) : Prop := ∀ o ∈ l, 2 ≤ o ∧ o ≤ 24
theorem prod_small (l : List Int) (h : Fine l) (hl : l.length ≤ 3) : 1 ≤ prodL l ∧ prodL l ≤ 13824 := by
  refine ⟨prodL_pos fun o ho => (h o ho).1, ?_⟩
  match l, hl with
  | [], _ => decide
  | [a], _ =>
    have ha := h a (by simp)
    rw [prodL_cons, prodL_nil]
    omega
  | [a, b], _ =>
    have ha := h a (by simp)
    have hb := h b (by simp)
    rw [prodL_cons, prodL_cons, prodL_nil, Int.mul_one]
    have := Int.mul_le_mul ha.2 hb.2 (by omega) (by omega)
    omega
  | [a, b, c], _ =>
    have ha := h a (by simp)
    have hb := h b (by simp)
    have hc := h c (by simp)
    rw [prodL_cons, prodL_cons, prodL_cons, prodL_nil]
    have h1 := Int.mul_le_mul hb.2 hc.2 (by omega) (by omega)
    have h2 : 0 ≤ b * c := Int.mul_nonneg (by omega) (by omega)
    have h3 := Int.mul_le_mul ha.2 h1 h2 (by omega)
    rw [Int.mul_one]
    omega
theorem Fine.snoc {l : List Int} {k : Nat} (hk : k < l.length) (h : Fine (l.take k)) (ho : 2 ≤ l[k] ∧ l[k] ≤ 24) : Fine (l.take (k + 1)) := by
  intro x hx
  rw [take_succ_get l k hk] at hx
  rcases List.mem_append.1 hx with hx | hx
  · exact h x hx
  · rw [List.mem_singleton.1 hx]; exact ho
theorem isGroup_bad {l : List Int} {k : Nat} (hk : k < l.length) (h : ¬ (2 ≤ l[k] ∧ l[k] ≤ 24)) : isGroup l = false :=
  decide_eq_false fun hc => h (hc.2.1 _ (List.getElem_mem hk))
theorem isGroup_long {l : List Int} (h : ¬ l.length ≤ 3) : isGroup l = false := decide_eq_false fun hc => h hc.1
theorem isGroup_end {l : List Int} (h : l.length ≤ 3) (hf : Fine l) : isGroup l = decide (prodL l ≤ 24) := by
  unfold isGroup
  rw [Bool.eq_iff_iff, decide_eq_true_iff, decide_eq_true_iff]
  exact ⟨fun hc => hc.2.2, fun hc => ⟨h, hf, hc⟩⟩

theorem iIsGroup_any (v : Value) (l : List Int) (w : World) (hr : Rd w w.heap.size .i64 v l) (hn : l.length ≤ 1073741824) :
    Calls Try.prog 45 #[.agg #[v]] w fun e w' => e = .returned (.bool (isGroup l)) ∧ Below w.heap.size w w' := by
  obtain ⟨ao, cap, rfl, _, _, hrd⟩ := hr
  by_cases h3 : l.length ≤ 3
  · have hlong : ¬ (3 < (l.length : Int)) := by omega
    have hend := isGroup_end h3
    obtain ⟨n, hN⟩ : ∃ n, n = l.length := ⟨_, rfl⟩
    rw [← hN] at hn h3 hlong ⊢
    replace hN := hid hN
    replace hrd := hid hrd
    replace hend := hid hend
    go_enter Try.func45, Try.ntmps45
    go_wp2
    go_loop [3, 13] (fun p i => ∃ k : Nat, k ≤ n ∧ i = .int .i64 k ∧ p = .int .i64 (prodL (l.take k)) ∧ Hid (Fine (l.take k))) (fun _ i => n - (intOf i).toNat)
    case atStart => exact ⟨0, by omega, rfl, rfl, fun x hx => by simp at hx⟩
    case round =>
      obtain ⟨k, hk, rfl, rfl, hf⟩ := hrel
      have hp := prod_small _ hf.out (by rw [List.length_take]; omega)
      by_cases hlt : k < n
      · have hkl : k < l.length := by rw [← hN.out]; exact hlt
        obtain ⟨b, off, rfl, hB, hcell⟩ := hrd.out (by omega)
        have hc : ∀ o, (w.alloc o).cell? ⟨b, off + k, none⟩ = some (.int .i64 l[k]) := fun o => ((below_alloc w o).cell (p := ⟨b, off + k, none⟩) hB).trans (hcell k hkl)
        have hs := prodL_snoc (l.take k) l[k]
        rw [← take_succ_get l k hkl] at hs
        have hF := hid (Fine.snoc hkl hf.out)
        have hbad := hid (isGroup_bad hkl)
        obtain ⟨x, hx⟩ : ∃ x, x = l[k] := ⟨_, rfl⟩
        obtain ⟨p, hpp⟩ : ∃ p, p = prodL (l.take k) := ⟨_, rfl⟩
        rw [← hx] at hc hs hF hbad
        rw [← hpp] at hp hs ⊢
        replace hs := hid hs
        clear hx hpp hcell hf
        by_cases ho : 2 ≤ x ∧ x ≤ 24
        · have hm : 0 ≤ p * x ∧ p * x ≤ 13824 * 24 := ⟨Int.mul_nonneg (by omega) (by omega), Int.mul_le_mul hp.2 ho.2 (by omega) (by omega)⟩
          go_wp2_with (go_at_call 59; refine (iwithin_yes _ _ _ ho _).mono ?_; rintro e w' ⟨rfl, rfl⟩)
          go_round
          case rel => exact ⟨k + 1, by omega, by go_num, by rw [hs.out], hF.out ho⟩
          case measure => simp [intOf]; omega
        · have hb := hid (hbad.out ho)
          go_wp2_with (go_at_call 59; refine (iwithin_no _ _ _ ho _).mono ?_; rintro e w' ⟨rfl, rfl⟩)
          go_ret
          exact ⟨by rw [hb.out]; rfl, below_alloc _ _⟩
      · have e : l.take k = l := List.take_of_length_le (by rw [← hN.out]; omega)
        rw [e] at hp hf ⊢
        have hE := hid (hend.out hf.out)
        go_wp2
        go_ret
        exact ⟨by rw [hE.out]; rfl, below_alloc _ _⟩
  · have hE := hid (isGroup_long h3)
    have hlong : (3 < (l.length : Int)) := by omega
    go_enter Try.func45, Try.ntmps45
    go_wp2
    go_ret
    exact ⟨by rw [hE.out]; rfl, below_alloc _ _⟩

theorem sIsGroup_any (v : Value) (l : List Int) (w : World) (hr : Rd w w.heap.size .i64 v l) (hn : l.length ≤ 1073741824) :
    Calls Try.prog 42 #[.agg #[v]] w fun e w' => e = .returned (.bool (isGroup l)) ∧ Below w.heap.size w w' := by
  obtain ⟨ao, cap, rfl, _, _, hrd⟩ := hr
  have hend := @isGroup_end l
  have hlong := @isGroup_long l
  obtain ⟨n, hN⟩ : ∃ n, n = l.length := ⟨_, rfl⟩
  rw [← hN] at hn hend hlong ⊢
  replace hN := hid hN
  replace hrd := hid hrd
  replace hend := hid hend
  replace hlong := hid hlong
  go_enter Try.func42, Try.ntmps42
  go_wp2
  go_loopw [3, 4] (fun p i wr => ∃ k : Nat, k ≤ n ∧ k ≤ 3 ∧ i = .int .i64 k ∧ p = .int .i64 (prodL (l.take k)) ∧ Hid (Fine (l.take k)) ∧ ∃ m, wr = (w.alloc (.cells #[.slice ao n cap] 28)).drewN m) (fun _ i _ => n - (intOf i).toNat)
  case atStart => exact ⟨0, by omega, by omega, rfl, rfl, fun x hx => by simp at hx, 0, rfl⟩
  case round =>
    obtain ⟨k, hk, hk3, rfl, rfl, hf, m, rfl⟩ := hrel
    have hp := prod_small _ hf.out (by rw [List.length_take]; omega)
    have hbe := (below_alloc w (.cells #[.slice ao n cap] 28)).trans (below_drewN _ _ m)
    by_cases hlt : k < n
    · have hkl : k < l.length := by rw [← hN.out]; exact hlt
      obtain ⟨b, off, rfl, hB, hcell⟩ := hrd.out (by rw [← hN.out]; omega)
      have hc := (hbe.cell (p := ⟨b, off + k, none⟩) hB).trans (hcell k hkl)
      have hs := prodL_snoc (l.take k) l[k]
      rw [← take_succ_get l k hkl] at hs
      have hF := hid (Fine.snoc hkl hf.out)
      have hbad := hid (isGroup_bad hkl)
      obtain ⟨x, hx⟩ : ∃ x, x = l[k] := ⟨_, rfl⟩
      obtain ⟨p, hpp⟩ : ∃ p, p = prodL (l.take k) := ⟨_, rfl⟩
      rw [← hx] at hc hs hF hbad
      rw [← hpp] at hp hs ⊢
      replace hs := hid hs
      clear hx hpp hcell hf
      by_cases ho : 2 ≤ x ∧ x ≤ 24
      · by_cases h3 : k < 3
        · have hm : 0 ≤ p * x ∧ p * x ≤ 13824 * 24 := ⟨Int.mul_nonneg (by omega) (by omega), Int.mul_le_mul hp.2 ho.2 (by omega) (by omega)⟩
          go_wp2_with (go_at_call 61; refine (sl1In_yes _ _ _ ho _).mono ?_; rintro e w' ⟨rfl, rfl⟩)
          go_roundw
          case rel => exact ⟨k + 1, by omega, by omega, by go_num, by rw [hs.out], hF.out ho, m, rfl⟩
          case measure => simp [intOf]; omega
        · have hL := hid (hlong.out (by omega))
          go_wp2_with (go_at_call 61; refine (sl1In_yes _ _ _ ho _).mono ?_; rintro e w' ⟨rfl, rfl⟩)
          go_ret
          exact ⟨by rw [hL.out]; rfl, hbe⟩
      · have hb := hid (hbad.out ho)
        go_wp2_with (go_at_call 61; refine (sl1In_no _ _ _ ho _).mono ?_; rintro e w' ⟨rfl, rfl⟩)
        go_ret
        exact ⟨by rw [hb.out]; rfl, hbe⟩
    · have e : l.take k = l := List.take_of_length_le (by rw [← hN.out]; omega)
      rw [e] at hp hf ⊢
      have hE := hid (hend.out (by omega) hf.out)
      go_wp2
      go_ret
      exact ⟨by rw [hE.out]; rfl, hbe⟩

theorem sl2Order_any (v : Value) (l : List Int) (w : World) (hr : Rd w w.heap.size .i64 v l) (hg : isGroup l = true) :
    Calls Try.prog 66 #[.agg #[v]] w fun e w' => e = .returned (.int .i64 (prodL l)) ∧ Below w.heap.size w w' := by
  obtain ⟨ao, cap, rfl, _, _, hrd⟩ := hr
  have hl3 := isGroup.len hg
  have hpb := isGroup.prod hg
  have hbig := isGroup.big hg
  obtain ⟨n, hN⟩ : ∃ n, n = l.length := ⟨_, rfl⟩
  rw [← hN] at hl3 ⊢
  replace hN := hid hN
  replace hrd := hid hrd
  replace hbig := hid hbig
  clear hg
  go_enter Try.func66, Try.ntmps66
  go_wp2
  go_loop [3, 4] (fun p i => ∃ k : Nat, k ≤ n ∧ i = .int .i64 k ∧ p = .int .i64 (prodL (l.take k))) (fun _ i => n - (intOf i).toNat)
  case atStart => exact ⟨0, by omega, rfl, rfl⟩
  case round =>
    obtain ⟨k, hk, rfl, rfl⟩ := hrel
    by_cases hlt : k < n
    · have hkl : k < l.length := by rw [← hN.out]; exact hlt
      obtain ⟨b, off, rfl, hB, hcell⟩ := hrd.out (by rw [← hN.out]; omega)
      have hc : ∀ o, (w.alloc o).cell? ⟨b, off + k, none⟩ = some (.int .i64 l[k]) := fun o => ((below_alloc w o).cell (p := ⟨b, off + k, none⟩) hB).trans (hcell k hkl)
      have hs := prodL_snoc (l.take k) l[k]
      rw [← take_succ_get l k hkl] at hs
      have hm := prodL_take_le hbig.out (k + 1)
      have hm2 := prodL_pos (hbig.out.take (k + 1))
      rw [hs] at hm hm2
      obtain ⟨x, hx⟩ : ∃ x, x = l[k] := ⟨_, rfl⟩
      obtain ⟨p, hpp⟩ : ∃ p, p = prodL (l.take k) := ⟨_, rfl⟩
      rw [← hx] at hc hs hm hm2
      rw [← hpp] at hs hm hm2 ⊢
      replace hs := hid hs
      have hm3 : p * x ≤ 24 := by omega
      clear hx hpp hcell hm
      go_wp2
      go_round
      case rel => exact ⟨k + 1, by omega, by go_num, by rw [hs.out]⟩
      case measure => simp [intOf]; omega
    · have e : l.take k = l := List.take_of_length_le (by rw [← hN.out]; omega)
      rw [e]
      go_wp2
      go_ret
      exact ⟨rfl, below_alloc _ _⟩

theorem iOrderOf_any (v : Value) (l : List Int) (w : World) (hr : Rd w w.heap.size .i64 v l) (hn : l.length ≤ 1073741824) :
    Calls Try.prog 64 #[.agg #[v]] w fun e w' => e = .returned (.int .i64 (orderOf l)) ∧ Below w.heap.size w w' := by
  cases hg : isGroup l
  · rw [orderOf_no hg]
    go_enter Try.func64, Try.ntmps64
    go_wp2_with (go_at_call 45; refine (iIsGroup_any v l _ ((hr.alloc (Nat.le_refl _) _).more (by simp)) hn).mono ?_; rintro e w1 ⟨rfl, hb⟩)
    go_ret
    exact ⟨rfl, (below_alloc _ _).trans (hb.mono (by simp))⟩
  · rw [orderOf_yes hg]
    have hr0 := hr
    obtain ⟨ao, cap, rfl, _, _, hrd⟩ := hr
    have hl3 := isGroup.len hg
    have hpb := isGroup.prod hg
    have hbig := isGroup.big hg
    obtain ⟨n, hN⟩ : ∃ n, n = l.length := ⟨_, rfl⟩
    rw [← hN] at hl3 ⊢
    replace hr0 := hid hr0
    replace hN := hid hN
    replace hrd := hid hrd
    replace hbig := hid hbig
    go_enter Try.func64, Try.ntmps64
    go_wp2_with fail
    rw [hN.out]
    refine (iIsGroup_any _ l _ ((hr0.out.alloc (Nat.le_refl _) _).more (by simp)) hn).mono ?_
    rw [← hN.out]
    rintro e w1 ⟨rfl, hb⟩
    obtain ⟨hbc, hbf⟩ := bcell hb
    replace hb := hid ((below_alloc w (.cells #[.slice ao n cap] 28)).trans (hb.mono (by simp)))
    go_wp2
    go_loop [3, 12] (fun p i => ∃ k : Nat, k ≤ n ∧ i = .int .i64 k ∧ p = .int .i64 (prodL (l.take k))) (fun _ i => n - (intOf i).toNat)
    case atStart => exact ⟨0, by omega, rfl, rfl⟩
    case round =>
      obtain ⟨k, hk, rfl, rfl⟩ := hrel
      by_cases hlt : k < n
      · have hkl : k < l.length := by rw [← hN.out]; exact hlt
        obtain ⟨b, off, rfl, hB, hcell⟩ := hrd.out (by rw [← hN.out]; omega)
        have hc := (hb.out.cell (p := ⟨b, off + k, none⟩) hB).trans (hcell k hkl)
        have hs := prodL_snoc (l.take k) l[k]
        rw [← take_succ_get l k hkl] at hs
        have hm := prodL_take_le hbig.out (k + 1)
        have hm2 := prodL_pos (hbig.out.take (k + 1))
        rw [hs] at hm hm2
        obtain ⟨x, hx⟩ : ∃ x, x = l[k] := ⟨_, rfl⟩
        obtain ⟨p, hpp⟩ : ∃ p, p = prodL (l.take k) := ⟨_, rfl⟩
        rw [← hx] at hc hs hm hm2
        rw [← hpp] at hs hm hm2 ⊢
        replace hs := hid hs
        have hm3 : p * x ≤ 24 := by omega
        clear hx hpp hcell hm hbc hbf
        go_wp2
        go_round
        case rel => exact ⟨k + 1, by omega, by go_num, by rw [hs.out]⟩
        case measure => simp [intOf]; omega
      · have e : l.take k = l := List.take_of_length_le (by rw [← hN.out]; omega)
        rw [e]
        go_wp2
        go_ret
        exact ⟨rfl, hb.out⟩
theorem sOrderOf_any (v : Value) (l : List Int) (w : World) (hr : Rd w w.heap.size .i64 v l) (hn : l.length ≤ 1073741824) :
    Calls Try.prog 63 #[.agg #[v]] w fun e w' => e = .returned (.int .i64 (orderOf l)) ∧ Below w.heap.size w w' := by
  cases hg : isGroup l
  · rw [orderOf_no hg]
    go_enter Try.func63, Try.ntmps63
    go_wp2_with (go_at_call 42; refine (sIsGroup_any v l _ ((hr.alloc (Nat.le_refl _) _).more (by simp)) hn).mono ?_; rintro e w1 ⟨rfl, hb⟩)
    go_ret
    exact ⟨rfl, (below_alloc _ _).trans (hb.mono (by simp))⟩
  · rw [orderOf_yes hg]
    go_enter Try.func63, Try.ntmps63
    go_wp2_with fail
    refine (sIsGroup_any v l _ ((hr.alloc (Nat.le_refl _) _).more (by simp)) hn).mono ?_
    rintro e w1 ⟨rfl, hb⟩
    obtain ⟨hbc, hbf⟩ := bcell hb
    replace hb := hid ((below_alloc w (.cells #[v] 28)).trans (hb.mono (by simp)))
    go_wp2_with fail
    refine (sl2Order_any v l _ ((hr.below hb.out).more hb.out.size) hg).mono ?_
    rintro e w2 ⟨rfl, hb2⟩
    go_wp2
    go_ret
    exact ⟨rfl, hb.out.trans (hb2.mono hb.out.size)⟩

theorem isEl_no {l : List Int} {x : Int} (h : isEl l x = false) : ¬ (0 ≤ x ∧ x ≤ orderOf l - 1) := by
  intro hc
  have : isEl l x = true := (isEl_iff l x).2 (by omega)
  rw [h] at this
  cases this
theorem isEl_yes {l : List Int} {x : Int} (h : isEl l x = true) : 0 ≤ x ∧ x ≤ orderOf l - 1 := by
  have := (isEl_iff l x).1 h
  omega
theorem ihas_any (v : Value) (l : List Int) (x : Int) (w : World) (hr : Rd w w.heap.size .i64 v l) (hn : l.length ≤ 1073741824) :
    Calls Try.prog 43 #[.agg #[v], .int .i64 x] w fun e w' => e = .returned (.bool (isEl l x)) ∧ Below w.heap.size w w' := by
  have hob := orderOf_bd l
  cases hE : isEl l x
  · have hno := isEl_no hE
    replace hE := hid hE
    go_enter Try.func43, Try.ntmps43
    go_wp2_with fail
    refine (iOrderOf_any v l _ ((hr.alloc (Nat.le_refl _) _).more (by simp)) hn).mono ?_
    rintro e w1 ⟨rfl, hb⟩
    replace hb := hid ((below_alloc w (.cells #[v] 28)).trans (hb.mono (by simp)))
    go_wp2_with (go_at_call 59; refine (iwithin_no _ _ _ hno _).mono ?_; rintro e w' ⟨rfl, rfl⟩)
    go_ret
    exact ⟨rfl, hb.out⟩
  · have hyes := isEl_yes hE
    replace hE := hid hE
    go_enter Try.func43, Try.ntmps43
    go_wp2_with fail
    refine (iOrderOf_any v l _ ((hr.alloc (Nat.le_refl _) _).more (by simp)) hn).mono ?_
    rintro e w1 ⟨rfl, hb⟩
    replace hb := hid ((below_alloc w (.cells #[v] 28)).trans (hb.mono (by simp)))
    go_wp2_with (go_at_call 59; refine (iwithin_yes _ _ _ hyes _).mono ?_; rintro e w' ⟨rfl, rfl⟩)
    go_ret
    exact ⟨rfl, hb.out⟩
theorem sl2Is_any (v : Value) (l : List Int) (x : Int) (w : World) (hr : Rd w w.heap.size .i64 v l) (hn : l.length ≤ 1073741824) :
    Calls Try.prog 41 #[.agg #[v], .int .i64 x] w fun e w' => e = .returned (.bool (isEl l x)) ∧ Below w.heap.size w w' := by
  have hob := orderOf_bd l
  have hdef : isEl l x = (decide (0 ≤ x) && decide (x < orderOf l)) := by
    rw [Bool.eq_iff_iff, isEl_iff, Bool.and_eq_true, decide_eq_true_iff, decide_eq_true_iff]
  replace hdef := hid hdef
  by_cases h0 : 0 ≤ x
  · have hd0 := decide_eq_true h0
    go_enter Try.func41, Try.ntmps41
    go_wp2_with fail
    refine (sOrderOf_any v l _ ((hr.alloc (Nat.le_refl _) _).more (by simp)) hn).mono ?_
    rintro e w1 ⟨rfl, hb⟩
    replace hb := hid ((below_alloc w (.cells #[v] 28)).trans (hb.mono (by simp)))
    clear hd0
    go_wp2
    go_ret
    exact ⟨by rw [hdef.out, decide_eq_true h0]; rfl, hb.out⟩
  · go_enter Try.func41, Try.ntmps41
    go_wp2_with fail
    go_ret
    exact ⟨by rw [hdef.out, decide_eq_false (by omega)]; rfl, below_alloc _ _⟩

end Go.Proofs.Ytffbamjfpegndab
