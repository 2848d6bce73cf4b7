/- The sets of shifted, negated and multiplied elements, the program's and the reference's. Conditions: a number below 2^24, a group. -/
import Derived.Test.YtknbfohmobjplabS3
import Derived.Test.YtknbfohmobjplabG4
import Derived.Deep.RegionWith
import Derived.Deep.RegionHeld3
namespace Go.Proofs.Ytknbfohmobjplab
open Go.RowKit

theorem Rd.cells {w : World} {B : Nat} {k : IntKind} {ao : Option Addr} {n cap : Nat} {l : List Int} (h : Rd w B k (.slice ao n cap) l) (hl : 0 < l.length) : ∃ b off, ao = some ⟨b, off, none⟩ ∧ b < B ∧ ∀ i (h : i < l.length), w.cell? ⟨b, off + i, none⟩ = some (.int k l[i]) := by
  obtain ⟨ao', cap', hv, _, _, hc⟩ := h
  injection hv with h1 h2 h3
  subst h1
  exact hc hl
/-- one more value of a function: the numbers of the walk -/
theorem or_step {f : Int → Int} {M : List Int} {z : Int} (hf : ∀ x ∈ M, 0 ≤ f x ∧ f x < 24) (hz : 0 ≤ f z ∧ f z < 24) :
    ∃ (K T A B : Nat), f z = (K : Int) ∧ K < 24 ∧ (2 : Int) ^ K = (T : Int) ∧ 1 ≤ T ∧ T ≤ 8388608 ∧ A = orL f M ∧ A < 16777216 ∧ B = orL f (M ++ [z]) ∧ bits .or .i64 (A : Int) (T : Int) = (B : Int) := by
  have hA : orL f M < 16777216 := orL_lt fun x hx => by have := hf x hx; omega
  have h1 := Nat.pow_le_pow_right (show 0 < 2 by omega) (show (f z).toNat ≤ 23 by omega)
  have h2 : 0 < 2 ^ (f z).toNat := Nat.pow_pos (by omega)
  have h3 : 2 ^ 23 = 8388608 := rfl
  refine ⟨(f z).toNat, 2 ^ (f z).toNat, _, _, by omega, by omega, (Int.natCast_pow 2 _).symm, h2, by omega, rfl, hA, rfl, ?_⟩
  rw [or64 _ _ (by omega) (by omega), orL_snoc]
theorem or_round {f : Int → Int} {M : List Int} {k : Nat} (hk : k < M.length) (hf : ∀ x ∈ M, 0 ≤ f x ∧ f x < 24) :
    ∃ (K T A B : Nat), f M[k] = (K : Int) ∧ K < 24 ∧ (2 : Int) ^ K = (T : Int) ∧ 1 ≤ T ∧ T ≤ 8388608 ∧ A = orL f (M.take k) ∧ A < 16777216 ∧ B = orL f (M.take (k + 1)) ∧ bits .or .i64 (A : Int) (T : Int) = (B : Int) := by
  rw [take_succ_get M k hk]
  exact or_step (fun x hx => hf x (List.mem_of_mem_take hx)) (hf _ (List.getElem_mem hk))
theorem iopposite_any (v : Value) (l : List Int) (A : Nat) (w : World) (hr : Rd w w.heap.size .i64 v l) (hg : isGroup l = true) (hA : A < 16777216) :
    Calls Try.prog 101 #[.agg #[v], .int .i64 (A : Int)] w fun e w' => e = .returned (.int .i64 (orL (gneg l) (memL A) : Nat)) ∧ Below w.heap.size w w' := by
  have hM := fun w => imembers_any A hA w
  have hML := memL_len A
  have hMb := hid (fun x => @memL_bd A x)
  obtain ⟨M, hMM⟩ : ∃ M, M = memL A := ⟨_, rfl⟩
  rw [← hMM] at hM hML hMb ⊢
  replace hg := hid hg
  clear hMM
  go_enter Try.func101, Try.ntmps101
  go_wp2_with fail
  refine (hM _).mono ?_
  rintro e w1 ⟨ao1, cap1, rfl, ho1, hb1⟩
  obtain ⟨hc1, hf1⟩ := bcell hb1
  have D1 : Below w.heap.size w w1 := by refine Below.trans ?_ (hb1.mono ?_) <;> go_grown
  have hz1 : w.heap.size < w1.heap.size := by have := hb1.size; simp at this; omega
  have c1 : w1.cell? ⟨w.heap.size, 0, none⟩ = some v := by rw [hc1 _ _ (by go_size)]; simp [go_sem]
  have hrM := Rd.of_own ho1
  clear hc1 hf1 hb1 ho1
  go_wp2
  go_loopw [5, 11] (fun o i wr => ∃ k : Nat, k ≤ M.length ∧ i = .int .i64 k ∧ o = .int .i64 (orL (gneg l) (M.take k) : Nat) ∧ Below w.heap.size w wr ∧ Below w1.heap.size w1 wr) (fun _ i _ => M.length - (intOf i).toNat)
  case atStart => exact ⟨0, by omega, rfl, rfl, D1, Below.refl _ _⟩
  case round =>
    obtain ⟨k, hk, rfl, rfl, hb, hbm⟩ := hrel
    have hz : w.heap.size < wr.heap.size := by have := hbm.size; omega
    have hc := (hbm.cell hz1).trans c1
    by_cases hlt : k < M.length
    · obtain ⟨b, off, rfl, hB, hcell⟩ := hrM.cells (by omega)
      have hcm := (hbm.cell (p := ⟨b, off + k, none⟩) hB).trans (hcell k hlt)
      have hxb := hMb.out _ (List.getElem_mem hlt)
      obtain ⟨K, T, A', B, hK, hK24, hT, hT1, hT2, hA1, hA2, hB1, hor⟩ := or_round (f := (gneg l)) hlt (fun x _ => gneg_small hg.out x)
      rw [← hA1]
      obtain ⟨x, hx⟩ : ∃ x, x = M[k] := ⟨_, rfl⟩
      rw [← hx] at hcm hxb hK
      replace hA2 := hid hA2
      replace hB1 := hid hB1
      clear hx hA1 hcell
      go_wp2_with fail
      refine (inegate_any _ l x _ ((hr.below hb).more (by go_size)) hg.out (by omega)).mono ?_
      rintro e w2 ⟨rfl, hb2⟩
      rw [hK]
      go_wp2
      go_roundw
      case rel => exact ⟨k + 1, by omega, by go_num, by rw [← hB1.out], bgo hb hb2, bgo hbm hb2⟩
      case measure => simp [intOf]; omega
    · have e : M.take k = M := List.take_of_length_le (by omega)
      rw [e]
      go_wp2
      go_ret
      exact ⟨rfl, hb⟩
theorem sl3Negate_any (v : Value) (l : List Int) (A : Nat) (w : World) (hr : Rd w w.heap.size .i64 v l) (hg : isGroup l = true) (hA : A < 16777216) :
    Calls Try.prog 102 #[.agg #[v], .int .i64 (A : Int)] w fun e w' => e = .returned (.int .i64 (orL (gneg l) (memL A) : Nat)) ∧ Below w.heap.size w w' := by
  have hM := fun w => sl3List_any A hA w
  have hML := memL_len A
  have hMb := hid (fun x => @memL_bd A x)
  obtain ⟨M, hMM⟩ : ∃ M, M = memL A := ⟨_, rfl⟩
  rw [← hMM] at hM hML hMb ⊢
  replace hg := hid hg
  clear hMM
  go_enter Try.func102, Try.ntmps102
  go_wp2_with fail
  refine (hM _).mono ?_
  rintro e w1 ⟨ao1, cap1, rfl, ho1, hb1⟩
  obtain ⟨hc1, hf1⟩ := bcell hb1
  have D1 : Below w.heap.size w w1 := by refine Below.trans ?_ (hb1.mono ?_) <;> go_grown
  have hz1 : w.heap.size < w1.heap.size := by have := hb1.size; simp at this; omega
  have c1 : w1.cell? ⟨w.heap.size, 0, none⟩ = some v := by rw [hc1 _ _ (by go_size)]; simp [go_sem]
  have hrM := Rd.of_own ho1
  clear hc1 hf1 hb1 ho1
  go_wp2
  go_loopw [5, 7] (fun o i wr => ∃ k : Nat, k ≤ M.length ∧ i = .int .i64 k ∧ o = .int .i64 (orL (gneg l) (M.take k) : Nat) ∧ Below w.heap.size w wr ∧ Below w1.heap.size w1 wr) (fun _ i _ => M.length - (intOf i).toNat)
  case atStart => exact ⟨0, by omega, rfl, rfl, D1, Below.refl _ _⟩
  case round =>
    obtain ⟨k, hk, rfl, rfl, hb, hbm⟩ := hrel
    have hz : w.heap.size < wr.heap.size := by have := hbm.size; omega
    have hc := (hbm.cell hz1).trans c1
    by_cases hlt : k < M.length
    · obtain ⟨b, off, rfl, hB, hcell⟩ := hrM.cells (by omega)
      have hcm := (hbm.cell (p := ⟨b, off + k, none⟩) hB).trans (hcell k hlt)
      have hxb := hMb.out _ (List.getElem_mem hlt)
      obtain ⟨K, T, A', B, hK, hK24, hT, hT1, hT2, hA1, hA2, hB1, hor⟩ := or_round (f := (gneg l)) hlt (fun x _ => gneg_small hg.out x)
      rw [← hA1]
      obtain ⟨x, hx⟩ : ∃ x, x = M[k] := ⟨_, rfl⟩
      rw [← hx] at hcm hxb hK
      replace hA2 := hid hA2
      replace hB1 := hid hB1
      clear hx hA1 hcell
      have hwT : IntKind.i64.wrap (T : Int) = T := IntWalk.i64_in _ (by omega)
      have hBr : b < wr.heap.size := Nat.lt_of_lt_of_le hB hbm.size
      go_wp2_with fail
      go_region_held3 (fun w' => w'.cell? ⟨w.heap.size, 0, none⟩ = some v ∧ w'.cell? ⟨b, off + k, none⟩ = some (.int .i64 x)) (first | go_keep | exact ⟨(hb2.cell hz).trans hc, (hb2.cell (p := ⟨b, off + k, none⟩) hBr).trans hcm⟩) ((go_at_call 92; refine (sl2Negate_any _ l x _ ((hr.below (by go_grown)).more (by go_size)) hg.out (by omega)).mono ?_; rintro e w2 ⟨rfl, hb2⟩; rw [hK]; replace hb2 : Below wr.heap.size wr w2 := (Below.refl wr.heap.size wr).drew.trans hb2))
      go_wp2
      go_roundw
      case rel => exact ⟨k + 1, by omega, by go_num, by rw [← hB1.out, ← hor], bgo hb hb2, bgo hbm hb2⟩
      case measure => simp [intOf]; omega
    · have e : M.take k = M := List.take_of_length_le (by omega)
      rw [e]
      go_wp2
      go_ret
      exact ⟨rfl, hb⟩
theorem sl3Shift_any (v : Value) (l : List Int) (A : Nat) (y : Int) (w : World) (hr : Rd w w.heap.size .i64 v l) (hg : isGroup l = true) (hA : A < 16777216) (hy : 0 ≤ y ∧ y < 24) :
    Calls Try.prog 105 #[.agg #[v], .int .i64 (A : Int), .int .i64 y] w fun e w' => e = .returned (.int .i64 (orL (fun z => gadd l z y) (memL A) : Nat)) ∧ Below w.heap.size w w' := by
  have hM := fun w => sl3List_any A hA w
  have hML := memL_len A
  have hMb := hid (fun x => @memL_bd A x)
  obtain ⟨M, hMM⟩ : ∃ M, M = memL A := ⟨_, rfl⟩
  rw [← hMM] at hM hML hMb ⊢
  replace hg := hid hg
  clear hMM
  go_enter Try.func105, Try.ntmps105
  go_wp2_with fail
  refine (hM _).mono ?_
  rintro e w1 ⟨ao1, cap1, rfl, ho1, hb1⟩
  obtain ⟨hc1, hf1⟩ := bcell hb1
  have D1 : Below w.heap.size w w1 := by refine Below.trans ?_ (hb1.mono ?_) <;> go_grown
  have hz1 : w.heap.size < w1.heap.size := by have := hb1.size; simp at this; omega
  have c1 : w1.cell? ⟨w.heap.size, 0, none⟩ = some v := by rw [hc1 _ _ (by go_size)]; simp [go_sem]
  have hrM := Rd.of_own ho1
  clear hc1 hf1 hb1 ho1
  go_wp2
  go_loopw [7, 9] (fun o i wr => ∃ k : Nat, k ≤ M.length ∧ i = .int .i64 k ∧ o = .int .i64 (orL (fun z => gadd l z y) (M.take k) : Nat) ∧ Below w.heap.size w wr ∧ Below w1.heap.size w1 wr) (fun _ i _ => M.length - (intOf i).toNat)
  case atStart => exact ⟨0, by omega, rfl, rfl, D1, Below.refl _ _⟩
  case round =>
    obtain ⟨k, hk, rfl, rfl, hb, hbm⟩ := hrel
    have hz : w.heap.size < wr.heap.size := by have := hbm.size; omega
    have hc := (hbm.cell hz1).trans c1
    by_cases hlt : k < M.length
    · obtain ⟨b, off, rfl, hB, hcell⟩ := hrM.cells (by omega)
      have hcm := (hbm.cell (p := ⟨b, off + k, none⟩) hB).trans (hcell k hlt)
      have hxb := hMb.out _ (List.getElem_mem hlt)
      obtain ⟨K, T, A', B, hK, hK24, hT, hT1, hT2, hA1, hA2, hB1, hor⟩ := or_round (f := (fun z => gadd l z y)) hlt (fun x _ => gadd_small hg.out x y)
      rw [← hA1]
      replace hK : gadd l M[k] y = (K : Int) := hK
      obtain ⟨x, hx⟩ : ∃ x, x = M[k] := ⟨_, rfl⟩
      rw [← hx] at hcm hxb hK
      replace hA2 := hid hA2
      replace hB1 := hid hB1
      clear hx hA1 hcell
      have hwT : IntKind.i64.wrap (T : Int) = T := IntWalk.i64_in _ (by omega)
      have hBr : b < wr.heap.size := Nat.lt_of_lt_of_le hB hbm.size
      go_wp2_with fail
      go_region_held3 (fun w' => w'.cell? ⟨w.heap.size, 0, none⟩ = some v ∧ w'.cell? ⟨b, off + k, none⟩ = some (.int .i64 x)) (first | go_keep | exact ⟨(hb2.cell hz).trans hc, (hb2.cell (p := ⟨b, off + k, none⟩) hBr).trans hcm⟩) ((go_at_call 68; refine (sl2Add_any _ l x y _ ((hr.below (by go_grown)).more (by go_size)) hg.out (by omega) (by omega)).mono ?_; rintro e w2 ⟨rfl, hb2⟩; rw [hK]; replace hb2 : Below wr.heap.size wr w2 := (Below.refl wr.heap.size wr).drew.trans hb2))
      go_wp2
      go_roundw
      case rel => exact ⟨k + 1, by omega, by go_num, by rw [← hB1.out, ← hor], bgo hb hb2, bgo hbm hb2⟩
      case measure => simp [intOf]; omega
    · have e : M.take k = M := List.take_of_length_le (by omega)
      rw [e]
      go_wp2
      go_ret
      exact ⟨rfl, hb⟩
theorem ishift_any (v : Value) (l : List Int) (A : Nat) (y : Int) (w : World) (hr : Rd w w.heap.size .i64 v l) (hg : isGroup l = true) (hA : A < 16777216) (hy : 0 ≤ y ∧ y < 24) :
    Calls Try.prog 104 #[.agg #[v], .int .i64 (A : Int), .int .i64 y] w fun e w' => e = .returned (.int .i64 (orL (gadd l y) (memL A) : Nat)) ∧ Below w.heap.size w w' := by
  replace hA := hid hA
  replace hg := hid hg
  go_enter Try.func104, Try.ntmps104
  go_wp2
  go_loopw [7, 8] (fun o i wr => ∃ x : Nat, x ≤ 24 ∧ i = .int .i64 x ∧ o = .int .i64 (orL (gadd l y) (memTo A x) : Nat) ∧ Below w.heap.size w wr ∧ w.heap.size < wr.heap.size ∧ wr.cell? ⟨w.heap.size, 0, none⟩ = some v) (fun _ i _ => 24 - (intOf i).toNat)
  case atStart => exact ⟨0, by omega, rfl, rfl, below_alloc _ _, by simp, by simp [go_sem]⟩
  case round =>
    obtain ⟨x, hx, rfl, rfl, hb, hz, hc⟩ := hrel
    have htb := hid (bit_div A x)
    have e1 : (A : Int) / 2 ^ x = ((A / 2 ^ x : Nat) : Int) := by
      rw [Int.natCast_ediv, Int.natCast_pow]; rfl
    have hSA : A / 2 ^ x ≤ A := Nat.div_le_self _ _
    have hof := @memL_of A x
    have htop : x = 24 → A / 2 ^ x = 0 := fun h => by rw [h]; exact div_top hA.out
    obtain ⟨S, hS⟩ : ∃ S, S = A / 2 ^ x := ⟨_, rfl⟩
    rw [← hS] at htb e1 hSA htop hof
    have hA2 := hA.out
    by_cases h0 : S = 0
    · subst h0
      rw [← hof rfl hx]
      clear htop hS hA2 hof hSA
      go_wp2
      go_ret
      exact ⟨rfl, hb⟩
    · have hx2 : x < 24 := by
        rcases Nat.lt_or_eq_of_le hx with h | h
        · exact h
        · exact absurd (htop h) h0
      have z1 : ¬ (S : Int) = 0 := by omega
      have z2 : ((S : Int) == 0) = false := by rw [beq_eq_false_iff_ne]; exact z1
      have e2 : bits .and .i64 (S : Int) 1 = ((S % 2 : Nat) : Int) := by
        have := and64_low 1 (S : Int) (by omega) (by omega) (by omega)
        simpa using this
      cases hbit : A.testBit x
      · have hs := hid (memTo_no hbit)
        have hm : S % 2 = 0 := by
          have h := htb.out
          rw [hbit] at h
          have := of_decide_eq_false h.symm
          omega
        rw [hm] at e2
        clear hm htop hS hA2 hof hSA hbit h0
        go_wp2
        go_roundw
        case rel => exact ⟨x + 1, by omega, by go_num, by rw [hs.out], hb, hz, hc⟩
        case measure => simp [intOf]; omega
      · have hs := hid (memTo_yes hbit)
        have hm : S % 2 = 1 := by
          have h := htb.out
          rw [hbit] at h
          exact of_decide_eq_true h.symm
        rw [hm] at e2
        obtain ⟨K, T, A', B, hK, hK24, hT, hT1, hT2, hA1, hA2', hB1, hor⟩ := or_step (f := gadd l y) (M := memTo A x) (z := (x : Int)) (fun z _ => gadd_small hg.out y z) (gadd_small hg.out y x)
        rw [← hs.out] at hB1
        rw [← hA1]
        replace hA2' := hid hA2'
        replace hB1 := hid hB1
        clear hm htop hS hA2 hof hSA hbit h0 hA1
        go_wp2_with fail
        refine (iadd_any _ l y x _ ((hr.below hb).more (by go_size)) hg.out (by omega) (by omega)).mono ?_
        rintro e w2 ⟨rfl, hb2⟩
        rw [hK]
        go_wp2
        go_roundw
        case rel => exact ⟨x + 1, by omega, by go_num, by rw [← hB1.out], bgo hb hb2, by have := hb2.size; omega, (hb2.cell hz).trans hc⟩
        case measure => simp [intOf]; omega
end Go.Proofs.Ytknbfohmobjplab
