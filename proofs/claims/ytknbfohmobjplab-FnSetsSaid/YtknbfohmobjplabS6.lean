/- What DilateSet computes, the program's and the reference's. Conditions: at most 2^20 orders. -/
import Derived.Test.YtknbfohmobjplabS5
namespace Go.Proofs.Ytknbfohmobjplab
open Go.RowKit

theorem memL_el {l : List Int} {A : Nat} (h : isSet l (A : Int) = true) {x : Int} (hx : x ∈ memL A) : isEl l x = true := by
  have hg := isSet.group h
  have hp := isGroup.prod hg
  have hb := isSet.bd h
  unfold memL memTo at hx
  obtain ⟨i, hi, rfl⟩ := List.mem_map.1 hx
  have hbit := (List.mem_filter.1 hi).2
  rw [isEl_iff, orderOf_yes hg]
  refine ⟨by omega, ?_⟩
  have h2 : A < 2 ^ (prodL l).toNat := by have := hb.2; unfold topOf at this; omega
  rcases Nat.lt_or_ge i (prodL l).toNat with h3 | h3
  · omega
  · have : A < 2 ^ i := Nat.lt_of_lt_of_le h2 (Nat.pow_le_pow_right (by omega) h3)
    rw [Nat.testBit_lt_two_pow this] at hbit
    cases hbit
theorem dilS_bad {l : List Int} {a n : Int} (h : ¬ (-100 ≤ n ∧ n ≤ 100)) : dilS l a n = -1 := by
  unfold dilS
  rw [decide_eq_false h, Bool.and_false]
  rfl
theorem iDilateSet_no (v : Value) (l : List Int) (a n : Int) (w : World) (hr : Rd w w.heap.size .i64 v l) (hn : l.length ≤ 1048576) (ha : -9223372036854775808 ≤ a ∧ a ≤ 9223372036854775807) (hE : isSet l a = false) :
    Calls Try.prog 60 #[.agg #[v], .int .i64 a, .int .i64 n] w fun e w' => e = .returned (.int .i64 (-1)) ∧ Below w.heap.size w w' := by
  have hH := fun w h1 => iIsSet_at (v := v) (w := w) hE h1 hn ha
  clear hE ha
  go_enter Try.func60, Try.ntmps60
  go_wp2_with fail
  refine (hH _ ((hr.alloc (Nat.le_refl _) _).more (by go_size))).mono ?_
  rintro e w1 ⟨rfl, hb1⟩
  have D1 : Below w.heap.size w w1 := by refine Below.trans ?_ (hb1.mono ?_) <;> go_grown
  go_wp2
  go_ret
  exact ⟨rfl, D1⟩
theorem iDilateSet_bad (v : Value) (l : List Int) (a n : Int) (w : World) (hr : Rd w w.heap.size .i64 v l) (hn : l.length ≤ 1048576) (ha : -9223372036854775808 ≤ a ∧ a ≤ 9223372036854775807) (hE : isSet l a = true) (hb : ¬ (-100 ≤ n ∧ n ≤ 100)) :
    Calls Try.prog 60 #[.agg #[v], .int .i64 a, .int .i64 n] w fun e w' => e = .returned (.int .i64 (-1)) ∧ Below w.heap.size w w' := by
  have hH := fun w h1 => iIsSet_at (v := v) (w := w) hE h1 hn ha
  clear hE ha
  go_enter Try.func60, Try.ntmps60
  go_wp2_with fail
  refine (hH _ ((hr.alloc (Nat.le_refl _) _).more (by go_size))).mono ?_
  rintro e w1 ⟨rfl, hb1⟩
  obtain ⟨hc1, hf1⟩ := bcell hb1
  have D1 : Below w.heap.size w w1 := by refine Below.trans ?_ (hb1.mono ?_) <;> go_grown
  have hz1 : w.heap.size < w1.heap.size := by have := hb1.size; simp at this; omega
  go_wp2_with (go_at_call 72; refine (iwithin_no _ _ _ hb _).mono ?_; rintro e w' ⟨rfl, rfl⟩)
  go_ret
  exact ⟨rfl, D1⟩
theorem sDilateSet_no (v : Value) (l : List Int) (a n : Int) (w : World) (hr : Rd w w.heap.size .i64 v l) (hn : l.length ≤ 1048576) (ha : -9223372036854775808 ≤ a ∧ a ≤ 9223372036854775807) (hE : isSet l a = false) :
    Calls Try.prog 61 #[.agg #[v], .int .i64 a, .int .i64 n] w fun e w' => e = .returned (.int .i64 (-1)) ∧ Below w.heap.size w w' := by
  have hH := fun w h1 => sIsSet_at (v := v) (w := w) hE h1 hn ha
  clear hE ha
  go_enter Try.func61, Try.ntmps61
  go_wp2_with fail
  refine (hH _ ((hr.alloc (Nat.le_refl _) _).more (by go_size))).mono ?_
  rintro e w1 ⟨rfl, hb1⟩
  have D1 : Below w.heap.size w w1 := by refine Below.trans ?_ (hb1.mono ?_) <;> go_grown
  go_wp2
  go_ret
  exact ⟨rfl, D1⟩
theorem sDilateSet_bad (v : Value) (l : List Int) (a n : Int) (w : World) (hr : Rd w w.heap.size .i64 v l) (hn : l.length ≤ 1048576) (ha : -9223372036854775808 ≤ a ∧ a ≤ 9223372036854775807) (hE : isSet l a = true) (hb : ¬ (-100 ≤ n ∧ n ≤ 100)) :
    Calls Try.prog 61 #[.agg #[v], .int .i64 a, .int .i64 n] w fun e w' => e = .returned (.int .i64 (-1)) ∧ Below w.heap.size w w' := by
  have hH := fun w h1 => sIsSet_at (v := v) (w := w) hE h1 hn ha
  clear hE ha
  go_enter Try.func61, Try.ntmps61
  go_wp2_with fail
  refine (hH _ ((hr.alloc (Nat.le_refl _) _).more (by go_size))).mono ?_
  rintro e w1 ⟨rfl, hb1⟩
  obtain ⟨hc1, hf1⟩ := bcell hb1
  have D1 : Below w.heap.size w w1 := by refine Below.trans ?_ (hb1.mono ?_) <;> go_grown
  have hz1 : w.heap.size < w1.heap.size := by have := hb1.size; simp at this; omega
  go_wp2_with (go_at_call 87; refine (sl1In_no _ _ _ hb _).mono ?_; rintro e w' ⟨rfl, rfl⟩)
  go_ret
  exact ⟨rfl, D1⟩
theorem iDilateSet_yes (v : Value) (l : List Int) (A : Nat) (n : Int) (w : World) (hr : Rd w w.heap.size .i64 v l) (hn : l.length ≤ 1048576) (hA : A < 16777216) (hE : isSet l A = true) (hnb : -100 ≤ n ∧ n ≤ 100) :
    Calls Try.prog 60 #[.agg #[v], .int .i64 (A : Int), .int .i64 n] w fun e w' => e = .returned (.int .i64 (orL (gmul l n) (memL A) : Nat)) ∧ Below w.heap.size w w' := by
  have hH := fun w h1 => iIsSet_at (v := v) (w := w) hE h1 hn (by omega)
  have hM := fun w => imembers_any A hA w
  have hML := memL_len A
  have hMb := hid (fun x => @memL_bd A x)
  have hMe := hid (fun x => @memL_el l A hE x)
  have hg := hid (isSet.group hE)
  obtain ⟨M, hMM⟩ : ∃ M, M = memL A := ⟨_, rfl⟩
  rw [← hMM] at hM hML hMb hMe ⊢
  clear hMM hE hA
  go_enter Try.func60, Try.ntmps60
  go_wp2_with fail
  refine (hH _ ((hr.alloc (Nat.le_refl _) _).more (by go_size))).mono ?_
  rintro e w0 ⟨rfl, hb0⟩
  obtain ⟨hc0, hf0⟩ := bcell hb0
  have D0 : Below w.heap.size w w0 := by refine Below.trans ?_ (hb0.mono ?_) <;> go_grown
  have hz0 : w.heap.size < w0.heap.size := by have := hb0.size; simp at this; omega
  have c0 : w0.cell? ⟨w.heap.size, 0, none⟩ = some v := by rw [hc0 _ _ (by go_size)]; simp [go_sem]
  clear hc0 hf0 hb0 hH
  go_wp2_with (go_at_call 72; refine (iwithin_yes _ _ _ hnb _).mono ?_; rintro e w' ⟨rfl, rfl⟩)
  refine (hM _).mono ?_
  rintro e w1 ⟨ao1, cap1, rfl, ho1, hb1⟩
  obtain ⟨hc1, hf1⟩ := bcell hb1
  have D1 := bgo D0 hb1
  have hz1 : w.heap.size < w1.heap.size := by have := hb1.size; omega
  have c1 : w1.cell? ⟨w.heap.size, 0, none⟩ = some v := by rw [hc1 _ _ hz0, c0]
  have hrM := Rd.of_own ho1
  clear hc1 hf1 hb1 ho1 c0 hz0 D0 hM
  go_wp2
  go_loopw [7, 22] (fun o i wr => ∃ k : Nat, k ≤ M.length ∧ i = .int .i64 k ∧ o = .int .i64 (orL (gmul l n) (M.take k) : Nat) ∧ Below w.heap.size w wr ∧ Below w1.heap.size w1 wr) (fun _ i _ => M.length - (intOf i).toNat)
  case atStart => exact ⟨0, by omega, rfl, rfl, D1, Below.refl _ _⟩
  case round =>
    obtain ⟨k, hk, rfl, rfl, hb, hbm⟩ := hrel
    have hz : w.heap.size < wr.heap.size := by have := hbm.size; omega
    have hc := (hbm.cell hz1).trans c1
    by_cases hlt : k < M.length
    · obtain ⟨b, off, rfl, hB, hcell⟩ := hrM.cells (by omega)
      have hcm := (hbm.cell (p := ⟨b, off + k, none⟩) hB).trans (hcell k hlt)
      have hxb := hMb.out _ (List.getElem_mem hlt)
      have hxe := hMe.out _ (List.getElem_mem hlt)
      obtain ⟨K, T, A', B, hK, hK24, hT, hT1, hT2, hA1, hA2, hB1, hor⟩ := or_round (f := gmul l n) hlt (fun x _ => gmul_small hg.out n x)
      rw [← hA1]
      obtain ⟨x, hx⟩ : ∃ x, x = M[k] := ⟨_, rfl⟩
      rw [← hx] at hcm hxb hK hxe
      replace hA2 := hid hA2
      replace hB1 := hid hB1
      replace hxe := hid hxe
      clear hx hA1 hcell
      go_wp2_with fail
      refine (itimes_any _ l x n _ ((hr.below hb).more (by go_size)) hg.out (by omega) (by omega)).mono ?_
      rintro e w2 ⟨rfl, hb2⟩
      rw [hK]
      go_wp2
      go_roundw
      case rel => exact ⟨k + 1, by omega, by go_num, by rw [← hB1.out], bgo hb hb2, bgo hbm hb2⟩
      case measure => simp [intOf]; omega
    · have e : M.take k = M := List.take_of_length_le (by omega)
      rw [e]
      go_wp2
      go_ret
      exact ⟨rfl, hb⟩
theorem sDilateSet_yes (v : Value) (l : List Int) (A : Nat) (n : Int) (w : World) (hr : Rd w w.heap.size .i64 v l) (hn : l.length ≤ 1048576) (hA : A < 16777216) (hE : isSet l A = true) (hnb : -100 ≤ n ∧ n ≤ 100) :
    Calls Try.prog 61 #[.agg #[v], .int .i64 (A : Int), .int .i64 n] w fun e w' => e = .returned (.int .i64 (orL (gmul l n) (memL A) : Nat)) ∧ Below w.heap.size w w' := by
  have hH := fun w h1 => sIsSet_at (v := v) (w := w) hE h1 hn (by omega)
  have hM := fun w => sl3List_any A hA w
  have hML := memL_len A
  have hMb := hid (fun x => @memL_bd A x)
  have hMe := hid (fun x => @memL_el l A hE x)
  have hg := hid (isSet.group hE)
  obtain ⟨M, hMM⟩ : ∃ M, M = memL A := ⟨_, rfl⟩
  rw [← hMM] at hM hML hMb hMe ⊢
  clear hMM hE hA
  go_enter Try.func61, Try.ntmps61
  go_wp2_with fail
  refine (hH _ ((hr.alloc (Nat.le_refl _) _).more (by go_size))).mono ?_
  rintro e w0 ⟨rfl, hb0⟩
  obtain ⟨hc0, hf0⟩ := bcell hb0
  have D0 : Below w.heap.size w w0 := by refine Below.trans ?_ (hb0.mono ?_) <;> go_grown
  have hz0 : w.heap.size < w0.heap.size := by have := hb0.size; simp at this; omega
  have c0 : w0.cell? ⟨w.heap.size, 0, none⟩ = some v := by rw [hc0 _ _ (by go_size)]; simp [go_sem]
  clear hc0 hf0 hb0 hH
  go_wp2_with (go_at_call 87; refine (sl1In_yes _ _ _ hnb _).mono ?_; rintro e w' ⟨rfl, rfl⟩)
  refine (hM _).mono ?_
  rintro e w1 ⟨ao1, cap1, rfl, ho1, hb1⟩
  obtain ⟨hc1, hf1⟩ := bcell hb1
  have D1 := bgo D0 hb1
  have hz1 : w.heap.size < w1.heap.size := by have := hb1.size; omega
  have c1 : w1.cell? ⟨w.heap.size, 0, none⟩ = some v := by rw [hc1 _ _ hz0, c0]
  have hrM := Rd.of_own ho1
  clear hc1 hf1 hb1 ho1 c0 hz0 D0 hM
  go_wp2
  go_loopw [7, 9] (fun o i wr => ∃ k : Nat, k ≤ M.length ∧ i = .int .i64 k ∧ o = .int .i64 (orL (gmul l n) (M.take k) : Nat) ∧ Below w.heap.size w wr ∧ Below w1.heap.size w1 wr) (fun _ i _ => M.length - (intOf i).toNat)
  case atStart => exact ⟨0, by omega, rfl, rfl, D1, Below.refl _ _⟩
  case round =>
    obtain ⟨k, hk, rfl, rfl, hb, hbm⟩ := hrel
    have hz : w.heap.size < wr.heap.size := by have := hbm.size; omega
    have hc := (hbm.cell hz1).trans c1
    by_cases hlt : k < M.length
    · obtain ⟨b, off, rfl, hB, hcell⟩ := hrM.cells (by omega)
      have hcm := (hbm.cell (p := ⟨b, off + k, none⟩) hB).trans (hcell k hlt)
      have hxb := hMb.out _ (List.getElem_mem hlt)
      have hxe := hMe.out _ (List.getElem_mem hlt)
      obtain ⟨K, T, A', B, hK, hK24, hT, hT1, hT2, hA1, hA2, hB1, hor⟩ := or_round (f := gmul l n) hlt (fun x _ => gmul_small hg.out n x)
      rw [← hA1]
      obtain ⟨x, hx⟩ : ∃ x, x = M[k] := ⟨_, rfl⟩
      rw [← hx] at hcm hxb hK hxe
      replace hA2 := hid hA2
      replace hB1 := hid hB1
      replace hxe := hid hxe
      clear hx hA1 hcell
      have hwT : IntKind.i64.wrap (T : Int) = T := IntWalk.i64_in _ (by omega)
      have hmu : mulE l x n = (K : Int) := by
        unfold mulE
        rw [hxe.out, decide_eq_true hnb, ← hK]
        rfl
      have hBr : b < wr.heap.size := Nat.lt_of_lt_of_le hB hbm.size
      go_wp2_with fail
      go_region_held3 (fun w' => w'.cell? ⟨w.heap.size, 0, none⟩ = some v ∧ w'.cell? ⟨b, off + k, none⟩ = some (.int .i64 x)) (first | go_keep | exact ⟨(hb2.cell hz).trans hc, (hb2.cell (p := ⟨b, off + k, none⟩) hBr).trans hcm⟩) ((go_at_call 34; refine (sMultipleOf_any _ l x n _ ((hr.below (by go_grown)).more (by go_size)) hn (by omega) (by omega)).mono ?_; rintro e w2 ⟨rfl, hb2⟩; rw [hmu]; replace hb2 : Below wr.heap.size wr w2 := (Below.refl wr.heap.size wr).drew.trans hb2))
      go_wp2
      go_roundw
      case rel => exact ⟨k + 1, by omega, by go_num, by rw [← hB1.out], bgo hb hb2, bgo hbm hb2⟩
      case measure => simp [intOf]; omega
    · have e : M.take k = M := List.take_of_length_le (by omega)
      rw [e]
      go_wp2
      go_ret
      exact ⟨rfl, hb⟩
theorem iDilateSet_any (v : Value) (l : List Int) (a n : Int) (w : World) (hr : Rd w w.heap.size .i64 v l) (hn : l.length ≤ 1048576) (ha : -9223372036854775808 ≤ a ∧ a ≤ 9223372036854775807) (_ : -9223372036854775808 ≤ n ∧ n ≤ 9223372036854775807) :
    Calls Try.prog 60 #[.agg #[v], .int .i64 a, .int .i64 n] w fun e w' => e = .returned (.int .i64 (dilS l a n)) ∧ Below w.heap.size w w' := by
  cases hE : isSet l a
  · have hA : dilS l a n = -1 := by unfold dilS; rw [hE]; rfl
    rw [hA]
    exact iDilateSet_no v l a n w hr hn ha hE
  · by_cases hb : -100 ≤ n ∧ n ≤ 100
    · obtain ⟨A, rfl, hA⟩ := isSet.nat hE
      have hc : dilS l A n = (orL (gmul l n) (memL A) : Nat) := by unfold dilS; rw [hE, decide_eq_true hb]; rfl
      rw [hc]
      exact iDilateSet_yes v l A n w hr hn hA hE hb
    · rw [dilS_bad hb]
      exact iDilateSet_bad v l a n w hr hn ha hE hb
theorem sDilateSet_any (v : Value) (l : List Int) (a n : Int) (w : World) (hr : Rd w w.heap.size .i64 v l) (hn : l.length ≤ 1048576) (ha : -9223372036854775808 ≤ a ∧ a ≤ 9223372036854775807) (_ : -9223372036854775808 ≤ n ∧ n ≤ 9223372036854775807) :
    Calls Try.prog 61 #[.agg #[v], .int .i64 a, .int .i64 n] w fun e w' => e = .returned (.int .i64 (dilS l a n)) ∧ Below w.heap.size w w' := by
  cases hE : isSet l a
  · have hA : dilS l a n = -1 := by unfold dilS; rw [hE]; rfl
    rw [hA]
    exact sDilateSet_no v l a n w hr hn ha hE
  · by_cases hb : -100 ≤ n ∧ n ≤ 100
    · obtain ⟨A, rfl, hA⟩ := isSet.nat hE
      have hc : dilS l A n = (orL (gmul l n) (memL A) : Nat) := by unfold dilS; rw [hE, decide_eq_true hb]; rfl
      rw [hc]
      exact sDilateSet_yes v l A n w hr hn hA hE hb
    · rw [dilS_bad hb]
      exact sDilateSet_bad v l a n w hr hn ha hE hb
end Go.Proofs.Ytknbfohmobjplab
