/- What RestrictedSum computes, the program's and the reference's. Conditions: at most 2^20 orders. -/
import Derived.Test.YtknbfohmobjplaaMSb
namespace Go.Proofs.Ytknbfohmobjplaa
set_option linter.unusedVariables false
set_option linter.unusedSimpArgs false
open Go.RowKit

theorem bv_andNot (a b : BitVec 64) : a &&& ~~~b = a ^^^ (a &&& b) := by
  apply BitVec.eq_of_getLsbD_eq
  intro i hi
  rw [BitVec.getLsbD_and, BitVec.getLsbD_not, BitVec.getLsbD_xor, BitVec.getLsbD_and]
  cases a.getLsbD i <;> cases b.getLsbD i <;> simp [hi]
theorem andNot64 (B x : Nat) (hB : B < 16777216) (hx : x < 24) : bits .andNot .i64 (B : Int) ((2 ^ x : Nat) : Int) = (remN B x : Int) := by
  have h1 : 2 ^ x ≤ 2 ^ 23 := Nat.pow_le_pow_right (by omega) (by omega)
  have h2 : 2 ^ 23 = 8388608 := rfl
  have h3 := remN_lt hB x
  show IntKind.i64.wrap ((BitVec.ofInt 64 (B : Int) &&& ~~~ BitVec.ofInt 64 ((2 ^ x : Nat) : Int)).toNat : Int) = _
  rw [bv_andNot, BitVec.toNat_xor, BitVec.toNat_and, bv64 B (by omega), bv64 (2 ^ x) (by omega)]
  exact IntWalk.i64_in _ (by unfold remN at h3; omega)
theorem iRestrictedSum_any (v : Value) (l : List Int) (a b : Int) (w : World) (hr : Rd w w.heap.size .i64 v l) (hn : l.length ≤ 1048576) (ha : -9223372036854775808 ≤ a ∧ a ≤ 9223372036854775807) (hb : -9223372036854775808 ≤ b ∧ b ≤ 9223372036854775807) :
    Calls Try.prog 7 #[.agg #[v], .int .i64 a, .int .i64 b] w fun e w' => e = .returned (.int .i64 (two resN l a b)) ∧ Below w.heap.size w w' := by
  cases hE : areS l [a, b]
  · rw [two_no (by rw [← areS2]; exact hE)]
    replace ha := hid ha
    replace hb := hid hb
    replace hE := hid hE
    go_enter Try.func7, Try.ntmps7
    go_wp2_with fail
    refine (iareSets_at hE.out (((hr.alloc (Nat.le_refl _) _).alloc (by go_size) _).more (by go_size)) (Rd.pair (by simp) _ _ _) hn ha.out hb.out).mono ?_
    rintro e w1 ⟨rfl, hb1⟩
    have D1 : Below w.heap.size w w1 := by refine Below.trans ?_ (hb1.mono ?_) <;> go_grown
    have hz1 : w.heap.size < w1.heap.size := by have := hb1.size; simp at this; omega
    obtain ⟨hc1, hf1⟩ := bcell hb1
    go_wp2
    go_ret
    exact ⟨rfl, D1⟩
  · have h2 := areS2 l a b
    rw [hE] at h2
    have h3 := (Bool.and_eq_true _ _).mp h2.symm
    obtain ⟨A, rfl, hA⟩ := isSet.nat h3.1
    obtain ⟨B, rfl, hB⟩ := isSet.nat h3.2
    rw [two_yes h3.1 h3.2]
    have hg := hid (isSet.group h3.1)
    have hM := fun w => imembers_any A hA w
    have hML := memL_len A
    have hMb := hid (fun x => @memL_bd A x)
    show Calls _ _ _ _ fun e w' => e = .returned (.int .i64 (orU (fun x => shN l (remN B x.toNat) x) (memL A) : Nat)) ∧ Below w.heap.size w w'
    have hF := hid (fun x (_ : x ∈ memL A) => shN_lt hg.out (remN B x.toNat) x)
    obtain ⟨F, hFF⟩ : ∃ F : Int → Nat, F = fun x => shN l (remN B x.toNat) x := ⟨_, rfl⟩
    have hFx : Hid (∀ x, F x = orL (gadd l x) (memL (remN B x.toNat))) := hid (by intro x; rw [hFF]; rfl)
    have hF2 : Hid (∀ x ∈ memL A, F x < 16777216) := by rw [hFF]; exact hF
    rw [← hFF]
    obtain ⟨M, hMM⟩ : ∃ M, M = memL A := ⟨_, rfl⟩
    rw [← hMM] at hM hML hMb hF2 ⊢
    replace ha := hid ha
    replace hb := hid hb
    replace hE := hid hE
    replace hB := hid hB
    clear hMM hA h2 h3 hF hFF
    go_enter Try.func7, Try.ntmps7
    go_wp2_with fail
    refine (iareSets_at hE.out (((hr.alloc (Nat.le_refl _) _).alloc (by go_size) _).more (by go_size)) (Rd.pair (by simp) _ _ _) hn ha.out hb.out).mono ?_
    rintro e w1 ⟨rfl, hb1⟩
    have D1 : Below w.heap.size w w1 := by refine Below.trans ?_ (hb1.mono ?_) <;> go_grown
    have hz1 : w.heap.size < w1.heap.size := by have := hb1.size; simp at this; omega
    obtain ⟨hc1, hf1⟩ := bcell hb1
    have c1 : w1.cell? ⟨w.heap.size, 0, none⟩ = some v := by rw [hc1 _ _ (by go_size)]; simp [go_sem]
    clear hc1 hf1 hb1
    go_wp2_with fail
    refine (hM _).mono ?_
    rintro e w2 ⟨ao2, cap2, rfl, ho2, hb2⟩
    have D2 := bgo D1 hb2
    have hz2 : w.heap.size < w2.heap.size := by have := hb2.size; omega
    have c2 := (hb2.cell hz1).trans c1
    have hrM := Rd.of_own ho2
    clear hb2 ho2 c1
    go_wp2
    go_loopw [7, 19] (fun o i wr => ∃ k : Nat, k ≤ M.length ∧ i = .int .i64 k ∧ o = .int .i64 (orU F (M.take k) : Nat) ∧ Below w.heap.size w wr ∧ Below w2.heap.size w2 wr) (fun _ i _ => M.length - (intOf i).toNat)
    case atStart => exact ⟨0, by omega, rfl, rfl, D2, Below.refl _ _⟩
    case round =>
      obtain ⟨k, hk, rfl, rfl, hb, hbm⟩ := hrel
      have hz : w.heap.size < wr.heap.size := by have := hbm.size; omega
      have hc := (hbm.cell hz2).trans c2
      by_cases hlt : k < M.length
      · obtain ⟨b, off, rfl, hBk, hcell⟩ := hrM.cells (by omega)
        have hcm := (hbm.cell (p := ⟨b, off + k, none⟩) hBk).trans (hcell k hlt)
        have hxb := hMb.out _ (List.getElem_mem hlt)
        obtain ⟨S, A1, B1, hS, hS2, hA1, hA2, hB1, hB2, hor⟩ := orU_round hlt hF2.out
        rw [← hA1]
        obtain ⟨x, hx⟩ : ∃ x, x = M[k] := ⟨_, rfl⟩
        rw [← hx] at hcm hxb hS
        have hD := hid fun w hr => ishift_any v l (remN B x.toNat) x w hr hg.out (remN_lt hB.out _) hxb
        have hSx := hid (hS.trans (hFx.out x))
        have han := andNot64 B x.toNat hB.out (by omega)
        obtain ⟨R, hR⟩ : ∃ R, R = remN B x.toNat := ⟨_, rfl⟩
        rw [← hR] at hD hSx han
        have hRlt := hid (show R < 16777216 by rw [hR]; exact remN_lt hB.out _)
        obtain ⟨K, rfl⟩ := Int.eq_ofNat_of_zero_le hxb.1
        rw [Int.toNat_natCast] at han
        have hT1 : 2 ^ K ≤ 2 ^ 23 := Nat.pow_le_pow_right (by omega) (by omega)
        have hT2 : 2 ^ 23 = 8388608 := rfl
        have hpw : (2 : Int) ^ K = ((2 ^ K : Nat) : Int) := (Int.natCast_pow 2 _).symm
        obtain ⟨T, hT⟩ : ∃ T, T = 2 ^ K := ⟨_, rfl⟩
        rw [← hT] at hT1 hpw han
        have hT3 : T ≤ 8388608 := by omega
        have hwT : IntKind.i64.wrap (T : Int) = T := IntWalk.i64_in _ (by omega)
        replace hS2 := hid hS2
        replace hA2 := hid hA2
        replace hB2 := hid hB2
        replace hB1 := hid hB1
        replace hS := hid hS
        clear hx hA1 hcell hR hT hT1 hT2
        go_wp2_with fail
        go_region_held3 (fun w' => w'.cell? ⟨w.heap.size, 0, none⟩ = some v) (first | go_keep | exact (hb3.cell hz).trans hc) ((go_at_call 49; refine (hD.out _ ((hr.below (by go_grown)).more (by go_size))).mono ?_; rintro e w3 ⟨rfl, hb3⟩; rw [← hSx.out]; replace hb3 : Below wr.heap.size wr w3 := (Below.refl wr.heap.size wr).drew.trans hb3))
        go_wp2
        go_roundw
        case rel => exact ⟨k + 1, by omega, by go_num, by rw [← hB1.out, ← hor], bgo hb hb3, bgo hbm hb3⟩
        case measure => simp [intOf]; omega
      · have e : M.take k = M := List.take_of_length_le (by omega)
        rw [e]
        go_wp2
        go_ret
        exact ⟨rfl, hb⟩
end Go.Proofs.Ytknbfohmobjplaa
