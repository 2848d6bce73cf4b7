
/- The sum of two sets, the program's and the reference's. Conditions: numbers below 2^24, a group. -/
import Derived.Test.YtffbamjfpegndaaS5
import Derived.Test.YtffbamjfpegndaaPlX
namespace Go.Proofs.Ytffbamjfpegndaa
set_option linter.unusedVariables false
set_option linter.unusedSimpArgs false
open Go.RowKit

/-- one more set: the numbers of the walk -/
theorem orU_round {F : Int → Nat} {M : List Int} {k : Nat} (hk : k < M.length) (hF : ∀ x ∈ M, F x < 16777216) :
    ∃ (S A B : Nat), S = F M[k] ∧ S < 16777216 ∧ A = orU F (M.take k) ∧ A < 16777216 ∧ B = orU F (M.take (k + 1)) ∧ B < 16777216 ∧ bits .or .i64 (A : Int) (S : Int) = (B : Int) := by
  have hA : orU F (M.take k) < 16777216 := orU_lt fun x hx => hF x (List.mem_of_mem_take hx)
  have hB : orU F (M.take (k + 1)) < 16777216 := orU_lt fun x hx => hF x (List.mem_of_mem_take hx)
  have hS := hF _ (List.getElem_mem hk)
  refine ⟨_, _, _, rfl, hS, rfl, hA, rfl, hB, ?_⟩
  rw [or64 _ _ (by omega) (by omega), take_succ_get M k hk, orU_snoc]
theorem isum_any (v : Value) (l : List Int) (A B : Nat) (w : World) (hr : Rd w w.heap.size .i64 v l) (hg : isGroup l = true) (hA : A < 16777216) (hB : B < 16777216) :
    Calls Try.prog 69 #[.agg #[v], .int .i64 (A : Int), .int .i64 (B : Int)] w fun e w' => e = .returned (.int .i64 (sumN l A B : Nat)) ∧ Below w.heap.size w w' := by
  have hM := fun w => imembers_any A hA w
  have hML := memL_len A
  have hMb := hid (fun x => @memL_bd A x)
  show Calls _ _ _ _ fun e w' => e = .returned (.int .i64 (orU (shN l B) (memL A) : Nat)) ∧ Below w.heap.size w w'
  have hF := hid (fun x (_ : x ∈ memL A) => shN_lt hg B x)
  have hD := fun y w hr hy => ishift_any v l B y w hr hg hB hy
  obtain ⟨F, hFF⟩ : ∃ F, F = shN l B := ⟨_, rfl⟩
  have hD2 : ∀ (y : Int) (w : World), Rd w w.heap.size .i64 v l → 0 ≤ y ∧ y < 24 → Calls Try.prog 78 #[.agg #[v], .int .i64 (B : Int), .int .i64 y] w fun e w' => e = .returned (.int .i64 (F y : Nat)) ∧ Below w.heap.size w w' := by rw [hFF]; exact hD
  rw [← hFF] at hF ⊢
  obtain ⟨M, hMM⟩ : ∃ M, M = memL A := ⟨_, rfl⟩
  rw [← hMM] at hM hML hMb hF ⊢
  clear hMM hFF hD hA
  replace hB := hid hB
  go_enter Try.func69, Try.ntmps69
  go_wp2_with fail
  refine (hM _).mono ?_
  rintro e w1 ⟨ao1, cap1, rfl, ho1, hb1⟩
  obtain ⟨hc1, hf1⟩ := bcell hb1
  have D1 : Below w.heap.size w w1 := by refine Below.trans ?_ (hb1.mono ?_) <;> go_grown
  have hz1 : w.heap.size < w1.heap.size := by have := hb1.size; simp at this; omega
  have c1 : w1.cell? ⟨w.heap.size, 0, none⟩ = some v := by rw [hc1 _ _ (by go_size)]; simp [go_sem]
  have hrM := Rd.of_own ho1
  clear hc1 hf1 hb1 ho1
  go_wp2
  go_loopw [7, 13] (fun o i wr => ∃ k : Nat, k ≤ M.length ∧ i = .int .i64 k ∧ o = .int .i64 (orU F (M.take k) : Nat) ∧ Below w.heap.size w wr ∧ Below w1.heap.size w1 wr) (fun _ i _ => M.length - (intOf i).toNat)
  case atStart => exact ⟨0, by omega, rfl, rfl, D1, Below.refl _ _⟩
  case round =>
    obtain ⟨k, hk, rfl, rfl, hb, hbm⟩ := hrel
    have hz : w.heap.size < wr.heap.size := by have := hbm.size; omega
    have hc := (hbm.cell hz1).trans c1
    by_cases hlt : k < M.length
    · obtain ⟨b, off, rfl, hBk, hcell⟩ := hrM.cells (by omega)
      have hcm := (hbm.cell (p := ⟨b, off + k, none⟩) hBk).trans (hcell k hlt)
      have hxb := hMb.out _ (List.getElem_mem hlt)
      obtain ⟨S, A1, B1, hS, hS2, hA1, hA2, hB1, hB2, hor⟩ := orU_round hlt hF.out
      rw [← hA1]
      obtain ⟨x, hx⟩ : ∃ x, x = M[k] := ⟨_, rfl⟩
      rw [← hx] at hcm hxb hS
      replace hS2 := hid hS2
      replace hA2 := hid hA2
      replace hB2 := hid hB2
      replace hB1 := hid hB1
      clear hx hA1 hcell
      go_wp2_with fail
      refine (hD2 x _ ((hr.below hb).more (by go_size)) hxb).mono ?_
      rintro e w2 ⟨rfl, hb2⟩
      rw [← hS]
      go_wp2
      go_roundw
      case rel => exact ⟨k + 1, by omega, by go_num, by rw [← hB1.out, ← hor, hS], bgo hb hb2, bgo hbm hb2⟩
      case measure => simp [intOf]; omega
    · have e : M.take k = M := List.take_of_length_le (by omega)
      rw [e]
      go_wp2
      go_ret
      exact ⟨rfl, hb⟩
theorem sl4Sum_any (v : Value) (l : List Int) (A B : Nat) (w : World) (hr : Rd w w.heap.size .i64 v l) (hg : isGroup l = true) (hA : A < 16777216) (hB : B < 16777216) :
    Calls Try.prog 66 #[.agg #[v], .int .i64 (A : Int), .int .i64 (B : Int)] w fun e w' => e = .returned (.int .i64 (sumN l A B : Nat)) ∧ Below w.heap.size w w' := by
  rw [← sumN_swap hg hA hB]
  have hM := fun w => sl3List_any B hB w
  have hML := memL_len B
  have hMb := hid (fun x => @memL_bd B x)
  have hF := hid (fun x (_ : x ∈ memL B) => shN_lt hg A x)
  have hD := fun y w hr hy => sl3Shift_same v l A y w hr hg hA hy
  obtain ⟨F, hFF⟩ : ∃ F, F = shN l A := ⟨_, rfl⟩
  have hD2 : ∀ (y : Int) (w : World), Rd w w.heap.size .i64 v l → 0 ≤ y ∧ y < 24 → Calls Try.prog 83 #[.agg #[v], .int .i64 (A : Int), .int .i64 y] w fun e w' => e = .returned (.int .i64 (F y : Nat)) ∧ Below w.heap.size w w' := by rw [hFF]; exact hD
  rw [← hFF] at hF ⊢
  obtain ⟨M, hMM⟩ : ∃ M, M = memL B := ⟨_, rfl⟩
  rw [← hMM] at hM hML hMb hF ⊢
  clear hMM hFF hD hB
  replace hA := hid hA
  go_enter Try.func66, Try.ntmps66
  go_wp2_with fail
  refine (hM _).mono ?_
  rintro e w1 ⟨ao1, cap1, rfl, ho1, hb1⟩
  obtain ⟨hc1, hf1⟩ := bcell hb1
  have D1 : Below w.heap.size w w1 := by refine Below.trans ?_ (hb1.mono ?_) <;> go_grown
  have hz1 : w.heap.size < w1.heap.size := by have := hb1.size; simp at this; omega
  have c1 : w1.cell? ⟨w.heap.size, 0, none⟩ = some v := by rw [hc1 _ _ (by go_size)]; simp [go_sem]
  have hrM := Rd.of_own ho1
  clear hc1 hf1 hb1 ho1
  go_wp2
  go_loopw [7, 9] (fun o i wr => ∃ k : Nat, k ≤ M.length ∧ i = .int .i64 k ∧ o = .int .i64 (orU F (M.take k) : Nat) ∧ Below w.heap.size w wr ∧ Below w1.heap.size w1 wr) (fun _ i _ => M.length - (intOf i).toNat)
  case atStart => exact ⟨0, by omega, rfl, rfl, D1, Below.refl _ _⟩
  case round =>
    obtain ⟨k, hk, rfl, rfl, hb, hbm⟩ := hrel
    have hz : w.heap.size < wr.heap.size := by have := hbm.size; omega
    have hc := (hbm.cell hz1).trans c1
    by_cases hlt : k < M.length
    · obtain ⟨b, off, rfl, hBk, hcell⟩ := hrM.cells (by omega)
      have hcm := (hbm.cell (p := ⟨b, off + k, none⟩) hBk).trans (hcell k hlt)
      have hxb := hMb.out _ (List.getElem_mem hlt)
      obtain ⟨S, A1, B1, hS, hS2, hA1, hA2, hB1, hB2, hor⟩ := orU_round hlt hF.out
      rw [← hA1]
      obtain ⟨x, hx⟩ : ∃ x, x = M[k] := ⟨_, rfl⟩
      rw [← hx] at hcm hxb hS
      replace hS2 := hid hS2
      replace hA2 := hid hA2
      replace hB2 := hid hB2
      replace hB1 := hid hB1
      clear hx hA1 hcell
      have hBr : b < wr.heap.size := Nat.lt_of_lt_of_le hBk hbm.size
      go_wp2_with fail
      go_region_held3 (fun w' => w'.cell? ⟨w.heap.size, 0, none⟩ = some v ∧ w'.cell? ⟨b, off + k, none⟩ = some (.int .i64 x)) (first | go_keep | exact ⟨(hb2.cell hz).trans hc, (hb2.cell (p := ⟨b, off + k, none⟩) hBr).trans hcm⟩) ((go_at_call 83; refine (hD2 x _ ((hr.below (by go_grown)).more (by go_size)) hxb).mono ?_; rintro e w2 ⟨rfl, hb2⟩; rw [← hS]; replace hb2 : Below wr.heap.size wr w2 := (Below.refl wr.heap.size wr).drew.trans hb2))
      go_wp2
      go_roundw
      case rel => exact ⟨k + 1, by omega, by go_num, by rw [← hB1.out, ← hor, hS], bgo hb hb2, bgo hbm hb2⟩
      case measure => simp [intOf]; omega
    · have e : M.take k = M := List.take_of_length_le (by omega)
      rw [e]
      go_wp2
      go_ret
      exact ⟨rfl, hb⟩
end Go.Proofs.Ytffbamjfpegndaa
