/- What SetOf computes, the program's and the reference's. Conditions: at most 2^20 orders and numbers. -/
import Derived.Test.YtknbfohmobjplabS5
import Derived.Test.YtknbfohmobjplabMPl
import Derived.Test.YtknbfohmobjplabSP0
namespace Go.Proofs.Ytknbfohmobjplab
set_option linter.unusedVariables false
set_option linter.unusedSimpArgs false
open Go.RowKit

theorem so_step {A K : Nat} (hA : A < 16777216) (hK : K < 24) : ∃ T C : Nat, (2 : Int) ^ K = (T : Int) ∧ T ≤ 8388608 ∧ C = A ||| 2 ^ K ∧ C < 16777216 ∧ bits .or .i64 (A : Int) (T : Int) = (C : Int) ∧ (A.testBit K = false → (A : Int) + (T : Int) = (C : Int)) := by
  have h1 := Nat.pow_le_pow_right (show 0 < 2 by omega) (show K ≤ 23 by omega)
  have h2 : 2 ^ 23 = 8388608 := rfl
  have h3 := or_lt24 hA (show 2 ^ K < 16777216 by omega)
  refine ⟨2 ^ K, _, (Int.natCast_pow 2 _).symm, by omega, rfl, h3, or64 _ _ (by omega) (by omega), fun h => ?_⟩
  rw [← add_bit hA hK h]
  omega
set_option maxHeartbeats 800000 in
theorem iSetOf_any (v u : Value) (l m : List Int) (w : World) (hr : Rd w w.heap.size .i64 v l) (hs : Rd w w.heap.size .i64 u m) (hn : l.length ≤ 1048576) (hm : m.length ≤ 1048576) :
    Calls Try.prog 42 #[.agg #[v], u] w fun e w' => e = .returned (.tuple #[.int .i64 (soE l m).1, .bool (soE l m).2]) ∧ Below w.heap.size w w' := by
  obtain ⟨bo, dap, rfl, _, _, hsd⟩ := hs
  have hnone := hid fun h => @soE_none l m h
  have hsome := hid fun A h => @soE_some l m A h
  have hI := hid fun w h => iIsGroup_any v l w h (by omega)
  obtain ⟨V, hV⟩ : ∃ V, V = soE l m := ⟨_, rfl⟩
  rw [← hV] at hnone hsome ⊢
  obtain ⟨n, hN⟩ : ∃ n, n = m.length := ⟨_, rfl⟩
  rw [← hN] at hm ⊢
  replace hN := hid hN
  replace hsd := hid hsd
  clear hV
  go_enter Try.func42, Try.ntmps42
  go_wp2
  go_loopw [6, 11] (fun a i wr => ∃ k A : Nat, k ≤ n ∧ i = .int .i64 k ∧ a = .int .i64 (A : Int) ∧ Hid (A < 16777216) ∧ Hid (soTo l (m.drop k) A = soTo l m 0) ∧ Below w.heap.size w wr ∧ w.heap.size < wr.heap.size ∧ wr.cell? ⟨w.heap.size, 0, none⟩ = some v) (fun _ i _ => n - (intOf i).toNat)
  case atStart => exact ⟨0, 0, by omega, rfl, rfl, (by decide : 0 < 16777216), rfl, below_alloc _ _, by simp, by simp [go_sem]⟩
  case round =>
    obtain ⟨k, A, hk, rfl, rfl, hA, hso, hb, hz, hc⟩ := hrel
    by_cases hlt : k < n
    · have hj : k < m.length := by rw [← hN.out]; omega
      obtain ⟨b, off, rfl, hB, hcell⟩ := hsd.out (by omega)
      have hcm := (hb.cell (p := ⟨b, off + k, none⟩) hB).trans (hcell k hj)
      have hbad := fun h => @soTo_bad l m k hj A h
      have hgood := fun h => @soTo_good l m k hj A h
      obtain ⟨x, hx⟩ : ∃ x, x = m[k] := ⟨_, rfl⟩
      rw [← hx] at hcm hbad hgood
      clear hcell hx
      cases hE : isEl l x
      · have hf := hid (hnone.out (by rw [← hso.out]; exact hbad (by rw [hE]; rfl)))
        replace hE := hid hE
        clear hbad hgood
        go_wp2_with fail
        refine (ihas_at hE.out ((hr.below hb).more (by go_size)) (by omega)).mono ?_
        rintro e w2 ⟨rfl, hb2⟩
        go_wp2
        go_ret2
        exact ⟨by rw [hf.out]; rfl, bgo hb hb2⟩
      · obtain ⟨K, rfl⟩ := Int.eq_ofNat_of_zero_le (isEl.bd hE).1
        have hK : K < 24 := by
          have h1 := isEl.bd hE
          have h2 := isGroup.prod (isEl.group hE)
          omega
        have hIn := hid fun w => iin_any A K hA.out hK w
        cases hbit : A.testBit K
        · obtain ⟨T, C, hT, hT2, hC, hC2, hor, _⟩ := so_step hA.out hK
          have hnext := hgood (by rw [hE, Int.toNat_natCast, hbit]; rfl)
          rw [Int.toNat_natCast, ← hC] at hnext
          replace hnext := hid (hnext.symm.trans hso.out)
          replace hE := hid hE
          replace hC2 := hid hC2
          replace hC := hid hC
          rw [hbit] at hIn
          have hwT : IntKind.i64.wrap (T : Int) = T := IntWalk.i64_in _ (by omega)
          clear hbad hgood hbit hso
          go_wp2_with fail
          refine (ihas_at hE.out ((hr.below hb).more (by go_size)) (by omega)).mono ?_
          rintro e w2 ⟨rfl, hb2⟩
          go_wp2_with fail
          refine (hIn.out _).mono ?_
          rintro e w3 ⟨rfl, rfl⟩
          go_wp2
          go_roundw
          case rel => exact ⟨k + 1, C, by omega, by go_num, by rw [← hor], hC2, hnext, bgo hb hb2, by have := hb2.size; omega, (hb2.cell hz).trans hc⟩
          case measure => simp [intOf]; omega
        · have hf := hid (hnone.out (by rw [← hso.out]; exact hbad (by rw [hE, Int.toNat_natCast, hbit]; rfl)))
          replace hE := hid hE
          rw [hbit] at hIn
          clear hbad hgood hbit
          go_wp2_with fail
          refine (ihas_at hE.out ((hr.below hb).more (by go_size)) (by omega)).mono ?_
          rintro e w2 ⟨rfl, hb2⟩
          go_wp2_with fail
          refine (hIn.out _).mono ?_
          rintro e w3 ⟨rfl, rfl⟩
          go_wp2
          go_ret2
          exact ⟨by rw [hf.out]; rfl, bgo hb hb2⟩
    · have hf := hid (hsome.out A (by rw [← hso.out]; exact soTo_end (by rw [← hN.out]; omega) A))
      go_wp2_with fail
      refine (hI.out _ ((hr.below hb).more (by go_size))).mono ?_
      rintro e w2 ⟨rfl, hb2⟩
      go_wp2
      go_ret2
      exact ⟨by rw [hf.out]; rfl, bgo hb hb2⟩
end Go.Proofs.Ytknbfohmobjplab
