
/- What SubsetSums computes, the program's and the reference's. Conditions: at most 2^20 orders. -/
import Derived.Test.YtffbamjfpegndaaSC
namespace Go.Proofs.Ytffbamjfpegndaa
set_option linter.unusedVariables false
set_option linter.unusedSimpArgs false
open Go.RowKit

/-- a number made of one set, -1 where it is none -/
def one (E : List Int → Nat → Nat) (l : List Int) (a : Int) : Int := if isSet l a then (E l a.toNat : Nat) else -1
theorem one_no {E : List Int → Nat → Nat} {l : List Int} {a : Int} (h : isSet l a = false) : one E l a = -1 := by unfold one; rw [h]; rfl
theorem one_yes {E : List Int → Nat → Nat} {l : List Int} {A : Nat} (h : isSet l (A : Int) = true) : one E l A = (E l A : Nat) := by unfold one; rw [h]; rfl
theorem ss_round {l M : List Int} (hg : isGroup l = true) {k : Nat} (hk : k < M.length) :
    ∃ (S A B : Nat), S = shN l A M[k] ∧ S < 16777216 ∧ A = ssTo l (M.take k) ∧ A < 16777216 ∧ B = ssTo l (M.take (k + 1)) ∧ B < 16777216 ∧ bits .or .i64 (A : Int) (S : Int) = (B : Int) := by
  have hA := ssTo_lt hg (M.take k)
  have hB := ssTo_lt hg (M.take (k + 1))
  have hS := shN_lt hg (ssTo l (M.take k)) M[k]
  refine ⟨_, _, _, rfl, hS, rfl, hA, rfl, hB, ?_⟩
  rw [or64 _ _ (by omega) (by omega), take_succ_get M k hk, ssTo_snoc]
theorem iSubsetSums_any (v : Value) (l : List Int) (a : Int) (w : World) (hr : Rd w w.heap.size .i64 v l) (hn : l.length ≤ 1048576) (ha : -9223372036854775808 ≤ a ∧ a ≤ 9223372036854775807) :
    Calls Try.prog 41 #[.agg #[v], .int .i64 a] w fun e w' => e = .returned (.int .i64 (one ssN l a)) ∧ Below w.heap.size w w' := by
  cases hE : isSet l a
  · rw [one_no hE]
    replace ha := hid ha
    replace hE := hid hE
    go_enter Try.func41, Try.ntmps41
    go_wp2_with fail
    refine (iIsSet_at hE.out ((hr.alloc (Nat.le_refl _) _).more (by go_size)) hn ha.out).mono ?_
    rintro e w1 ⟨rfl, hb1⟩
    have D1 : Below w.heap.size w w1 := by refine Below.trans ?_ (hb1.mono ?_) <;> go_grown
    have hz1 : w.heap.size < w1.heap.size := by have := hb1.size; simp at this; omega
    obtain ⟨hc1, hf1⟩ := bcell hb1
    go_wp2
    go_ret
    exact ⟨rfl, D1⟩
  · obtain ⟨A, rfl, hA⟩ := isSet.nat hE
    rw [one_yes hE]
    show Calls _ _ _ _ fun e w' => e = .returned (.int .i64 (ssTo l (memL A) : Nat)) ∧ Below w.heap.size w w'
    have hg := hid (isSet.group hE)
    have hM := fun w => imembers_any A hA w
    have hML := memL_len A
    have hMb := hid (fun x => @memL_bd A x)
    obtain ⟨M, hMM⟩ : ∃ M, M = memL A := ⟨_, rfl⟩
    rw [← hMM] at hM hML hMb ⊢
    replace ha := hid ha
    replace hE := hid hE
    clear hMM hA
    go_enter Try.func41, Try.ntmps41
    go_wp2_with fail
    refine (iIsSet_at hE.out ((hr.alloc (Nat.le_refl _) _).more (by go_size)) hn ha.out).mono ?_
    rintro e w1 ⟨rfl, hb1⟩
    have D1 : Below w.heap.size w w1 := by refine Below.trans ?_ (hb1.mono ?_) <;> go_grown
    have hz1 : w.heap.size < w1.heap.size := by have := hb1.size; simp at this; omega
    obtain ⟨hc1, hf1⟩ := bcell hb1
    have c1 : w1.cell? ⟨w.heap.size, 0, none⟩ = some v := by rw [hc1 _ _ (by go_size)]; simp [go_sem]
    clear hc1 hf1 hb1
    go_wp2_with fail
    refine (hM _).mono ?_
    rintro e w2 ⟨ao2, cap2, rfl, ho2, hb2⟩
    have D2 := bgo D1 hb2
    have hz2 : w.heap.size < w2.heap.size := by have := hb2.size; omega
    have c2 := (hb2.cell hz1).trans c1
    have hrM := Rd.of_own ho2
    clear hb2 ho2 c1
    go_wp2
    go_loopw [5, 15] (fun o i wr => ∃ k : Nat, k ≤ M.length ∧ i = .int .i64 k ∧ o = .int .i64 (ssTo l (M.take k) : Nat) ∧ Below w.heap.size w wr ∧ Below w2.heap.size w2 wr) (fun _ i _ => M.length - (intOf i).toNat)
    case atStart => exact ⟨0, by omega, rfl, rfl, D2, Below.refl _ _⟩
    case round =>
      obtain ⟨k, hk, rfl, rfl, hb, hbm⟩ := hrel
      have hz : w.heap.size < wr.heap.size := by have := hbm.size; omega
      have hc := (hbm.cell hz2).trans c2
      by_cases hlt : k < M.length
      · obtain ⟨b, off, rfl, hBk, hcell⟩ := hrM.cells (by omega)
        have hcm := (hbm.cell (p := ⟨b, off + k, none⟩) hBk).trans (hcell k hlt)
        have hxb := hMb.out _ (List.getElem_mem hlt)
        obtain ⟨S, A1, B1, hS, hS2, hA1, hA2, hB1, hB2, hor⟩ := ss_round hg.out hlt
        rw [← hA1]
        obtain ⟨x, hx⟩ : ∃ x, x = M[k] := ⟨_, rfl⟩
        rw [← hx] at hcm hxb hS
        have hD := hid fun w hr => ishift_any v l A1 x w hr hg.out hA2 hxb
        replace hS2 := hid hS2
        replace hA2 := hid hA2
        replace hB2 := hid hB2
        replace hB1 := hid hB1
        replace hS := hid hS
        clear hx hA1 hcell
        go_wp2_with fail
        refine (hD.out _ ((hr.below hb).more (by go_size))).mono ?_
        rintro e w3 ⟨rfl, hb3⟩
        change bits .or .i64 (A1 : Int) (S : Int) = _ at hor
        rw [show orL (gadd l x) (memL A1) = S from hS.out.symm]
        go_wp2
        go_roundw
        case rel => exact ⟨k + 1, by omega, by go_num, by rw [← hB1.out], bgo hb hb3, bgo hbm hb3⟩
        case measure => simp [intOf]; omega
      · have e : M.take k = M := List.take_of_length_le (by omega)
        rw [e]
        go_wp2
        go_ret
        exact ⟨rfl, hb⟩
theorem sSubsetSums_any (v : Value) (l : List Int) (a : Int) (w : World) (hr : Rd w w.heap.size .i64 v l) (hn : l.length ≤ 1048576) (ha : -9223372036854775808 ≤ a ∧ a ≤ 9223372036854775807) :
    Calls Try.prog 40 #[.agg #[v], .int .i64 a] w fun e w' => e = .returned (.int .i64 (one ssN l a)) ∧ Below w.heap.size w w' := by
  cases hE : isSet l a
  · rw [one_no hE]
    replace ha := hid ha
    replace hE := hid hE
    go_enter Try.func40, Try.ntmps40
    go_wp2_with fail
    refine (sIsSet_at hE.out ((hr.alloc (Nat.le_refl _) _).more (by go_size)) hn ha.out).mono ?_
    rintro e w1 ⟨rfl, hb1⟩
    have D1 : Below w.heap.size w w1 := by refine Below.trans ?_ (hb1.mono ?_) <;> go_grown
    have hz1 : w.heap.size < w1.heap.size := by have := hb1.size; simp at this; omega
    obtain ⟨hc1, hf1⟩ := bcell hb1
    go_wp2
    go_ret
    exact ⟨rfl, D1⟩
  · obtain ⟨A, rfl, hA⟩ := isSet.nat hE
    rw [one_yes hE]
    show Calls _ _ _ _ fun e w' => e = .returned (.int .i64 (ssTo l (memL A) : Nat)) ∧ Below w.heap.size w w'
    have hg := hid (isSet.group hE)
    have hM := fun w => sl3List_any A hA w
    have hML := memL_len A
    have hMb := hid (fun x => @memL_bd A x)
    obtain ⟨M, hMM⟩ : ∃ M, M = memL A := ⟨_, rfl⟩
    rw [← hMM] at hM hML hMb ⊢
    replace ha := hid ha
    replace hE := hid hE
    clear hMM hA
    go_enter Try.func40, Try.ntmps40
    go_wp2_with fail
    refine (sIsSet_at hE.out ((hr.alloc (Nat.le_refl _) _).more (by go_size)) hn ha.out).mono ?_
    rintro e w1 ⟨rfl, hb1⟩
    have D1 : Below w.heap.size w w1 := by refine Below.trans ?_ (hb1.mono ?_) <;> go_grown
    have hz1 : w.heap.size < w1.heap.size := by have := hb1.size; simp at this; omega
    obtain ⟨hc1, hf1⟩ := bcell hb1
    have c1 : w1.cell? ⟨w.heap.size, 0, none⟩ = some v := by rw [hc1 _ _ (by go_size)]; simp [go_sem]
    clear hc1 hf1 hb1
    go_wp2_with fail
    refine (hM _).mono ?_
    rintro e w2 ⟨ao2, cap2, rfl, ho2, hb2⟩
    have D2 := bgo D1 hb2
    have hz2 : w.heap.size < w2.heap.size := by have := hb2.size; omega
    have c2 := (hb2.cell hz1).trans c1
    have hrM := Rd.of_own ho2
    clear hb2 ho2 c1
    go_wp2
    go_loopw [5, 7] (fun o i wr => ∃ k : Nat, k ≤ M.length ∧ i = .int .i64 k ∧ o = .int .i64 (ssTo l (M.take k) : Nat) ∧ Below w.heap.size w wr ∧ Below w2.heap.size w2 wr) (fun _ i _ => M.length - (intOf i).toNat)
    case atStart => exact ⟨0, by omega, rfl, rfl, D2, Below.refl _ _⟩
    case round =>
      obtain ⟨k, hk, rfl, rfl, hb, hbm⟩ := hrel
      have hz : w.heap.size < wr.heap.size := by have := hbm.size; omega
      have hc := (hbm.cell hz2).trans c2
      by_cases hlt : k < M.length
      · obtain ⟨b, off, rfl, hBk, hcell⟩ := hrM.cells (by omega)
        have hcm := (hbm.cell (p := ⟨b, off + k, none⟩) hBk).trans (hcell k hlt)
        have hxb := hMb.out _ (List.getElem_mem hlt)
        obtain ⟨S, A1, B1, hS, hS2, hA1, hA2, hB1, hB2, hor⟩ := ss_round hg.out hlt
        rw [← hA1]
        obtain ⟨x, hx⟩ : ∃ x, x = M[k] := ⟨_, rfl⟩
        rw [← hx] at hcm hxb hS
        have hD := hid fun w hr => sl3Shift_same v l A1 x w hr hg.out hA2 hxb
        replace hS2 := hid hS2
        replace hA2 := hid hA2
        replace hB2 := hid hB2
        replace hB1 := hid hB1
        replace hS := hid hS
        clear hx hA1 hcell
        have hBr : b < wr.heap.size := Nat.lt_of_lt_of_le hBk hbm.size
        change bits .or .i64 (A1 : Int) (S : Int) = _ at hor
        go_wp2_with fail
        go_region_held3 (fun w' => w'.cell? ⟨w.heap.size, 0, none⟩ = some v ∧ w'.cell? ⟨b, off + k, none⟩ = some (.int .i64 x)) (first | go_keep | exact ⟨(hb3.cell hz).trans hc, (hb3.cell (p := ⟨b, off + k, none⟩) hBr).trans hcm⟩) ((go_at_call 83; refine (hD.out _ ((hr.below (by go_grown)).more (by go_size))).mono ?_; rintro e w3 ⟨rfl, hb3⟩; rw [show orL (gadd l x) (memL A1) = S from hS.out.symm]; replace hb3 : Below wr.heap.size wr w3 := (Below.refl wr.heap.size wr).drew.trans hb3))
        go_wp2
        go_roundw
        case rel => exact ⟨k + 1, by omega, by go_num, by rw [← hB1.out, ← hor], bgo hb hb3, bgo hbm hb3⟩
        case measure => simp [intOf]; omega
      · have e : M.take k = M := List.take_of_length_le (by omega)
        rw [e]
        go_wp2
        go_ret
        exact ⟨rfl, hb⟩
end Go.Proofs.Ytffbamjfpegndaa
