/- What the reference's FormatSet computes. Conditions: at most 2^20 orders. -/
import Derived.Test.YtknbfohmobjplabT4
import Derived.Test.YtknbfohmobjplabMKt
namespace Go.Proofs.Ytknbfohmobjplab
set_option linter.unusedVariables false
set_option linter.unusedSimpArgs false
open Go.RowKit

theorem sFormatSet_any (v : Value) (l : List Int) (a : Int) (w : World) (hr : Rd w w.heap.size .i64 v l) (hn : l.length ≤ 1048576) (ha : -9223372036854775808 ≤ a ∧ a ≤ 9223372036854775807) :
    Calls Try.prog 43 #[.agg #[v], .int .i64 a] w fun e w' => e = .returned (.string (strOfNums (fsE l a))) ∧ Below w.heap.size w w' := by
  have hLs := hid fun w hr => sListOf_any v l a w hr hn ha
  obtain ⟨M, hM⟩ : ∃ M, M = lstE l a := ⟨_, rfl⟩
  have hML : M.length ≤ 24 := by rw [hM]; exact lstE_len l a
  have hMb : Hid (∀ x ∈ M, 0 ≤ x ∧ x < 24) := hid fun x hx => by
    rw [hM] at hx
    unfold lstE at hx
    split at hx
    · exact memL_bd hx
    · cases hx
  have hfin : (0 < M.length → fsE l a = joinI 44 M ∧ joinI 44 M ≠ []) ∧ (M.length = 0 → fsE l a = if isSet l a then [110, 111, 110, 101] else []) := by
    unfold fsE
    unfold lstE at hM
    cases hE : isSet l a
    · rw [hE] at hM
      rw [hM]
      exact ⟨fun h => by simp at h, fun _ => rfl⟩
    · rw [hE] at hM
      rw [hM]
      exact ⟨fun h => ⟨nums_cons h, joinI_ne h⟩, fun h => by
        have := List.eq_nil_of_length_eq_zero h
        rw [if_pos rfl] at this
        rw [if_pos rfl, if_pos rfl, this]
        rfl⟩
  have hI := hid fun w h => sIsSet_any v l a w h hn ha
  have hstep := hid fun k h1 h2 => @joinI_step 44 M k h1 h2
  have hone := hid fun h => @joinI_one 44 M h
  have hsmall := hid (@joinI_small 44 M (by omega))
  rw [← hM] at hLs
  obtain ⟨V, hV⟩ : ∃ V, V = fsE l a := ⟨_, rfl⟩
  rw [← hV] at hfin ⊢
  obtain ⟨B, hB⟩ : ∃ B, B = isSet l a := ⟨_, rfl⟩
  rw [← hB] at hI hfin
  replace hfin := hid hfin
  replace ha := hid ha
  clear hV hM hB
  go_enter Try.func43, Try.ntmps43
  go_wp2_with fail
  refine (hLs.out _ ((hr.alloc (Nat.le_refl _) _).more (by go_size))).mono ?_
  rintro e w1 ⟨ao1, cap1, rfl, ho1, hb1⟩
  have D1 : Below w.heap.size w w1 := by refine Below.trans ?_ (hb1.mono ?_) <;> go_grown
  have hz1 : w.heap.size < w1.heap.size := by have := hb1.size; simp at this; omega
  have c1 : w1.cell? ⟨w.heap.size, 0, none⟩ = some v := by rw [hb1.cell (show w.heap.size < _ by simp)]; simp [go_sem]
  clear hb1
  go_wp2
  go_loopw [5, 7] (fun s i wr => ∃ k : Nat, k ≤ M.length ∧ i = .int .i64 k ∧ s = .string (strOfNums (joinI 44 (M.take k))) ∧ Below w.heap.size w wr ∧ Below w1.heap.size w1 wr) (fun _ i _ => M.length - (intOf i).toNat)
  case atStart => exact ⟨0, by omega, rfl, rfl, D1, Below.refl _ _⟩
  case round =>
    obtain ⟨k, hk, rfl, rfl, hb, hbm⟩ := hrel
    have hz : w.heap.size < wr.heap.size := by have := hbm.size; omega
    have hc := (hbm.cell hz1).trans c1
    by_cases hlt : k < M.length
    · obtain ⟨b, rfl, hB1, hB2, hcell⟩ := ho1.cells (by omega)
      have hxb : 0 ≤ M[k] ∧ M[k] < 24 := hMb.out _ (List.getElem_mem hlt)
      have hS := fun h => hstep.out k hlt h
      have hO := hone.out (by omega)
      have hsm := hsmall.out k
      have hcm := (hbm.cell (p := ⟨b, k, none⟩) hB2).trans (hcell k hlt)
      have hfl := fmtI_length M[k]
      have hF := hid fun w => sFormatInt_any M[k] w (Int.le_trans (by decide) hxb.1) (Int.le_of_lt (Int.lt_trans hxb.2 (by decide)))
      clear hcell
      by_cases h0 : k = 0
      · subst h0
        have hj0 : joinI 44 (M.take 0) = [] := rfl
        rw [hj0]
        obtain ⟨x, hx⟩ : ∃ x, x = M[0] := ⟨_, rfl⟩
        rw [← hx] at hF hO hcm hxb hfl
        have hadd := add_strs (P := Try.prog) [] (fmtI x) (by simp; omega)
        rw [List.nil_append] at hadd
        replace hO := hid hO
        replace hxb := hid hxb
        clear hS hx hj0 hsm
        go_wp2_with fail
        refine (hF.out _).mono ?_
        rintro e w3 ⟨rfl, hb3⟩
        go_wp2
        go_roundw
        case rel => exact ⟨1, by omega, by go_num, by rw [hO.out], bgo hb hb3, bgo hbm hb3⟩
        case measure => simp [intOf]; omega
      · have hS2 := hS (by omega)
        obtain ⟨x, hx⟩ : ∃ x, x = M[k] := ⟨_, rfl⟩
        rw [← hx] at hF hS2 hcm hxb hfl
        obtain ⟨J, hJ⟩ : ∃ J, J = joinI 44 (M.take k) := ⟨_, rfl⟩
        rw [← hJ] at hS2 hsm
        rw [← hJ]
        have ha1 := add_strs (P := Try.prog) J [44] (by simp; omega)
        have hc120 : strOfNums [44] = ByteArray.mk #[44] := rfl
        rw [hc120] at ha1
        have ha2 := add_strs (P := Try.prog) (J ++ [44]) (fmtI x) (by simp; omega)
        have z2 : 0 < k := by omega
        have z1 : decide ((k : Int) > 0) = true := decide_eq_true (by omega)
        replace hS2 := hid hS2
        replace hxb := hid hxb
        clear hS hx hJ hO h0 hc120
        go_wp2_with fail
        refine (hF.out _).mono ?_
        rintro e w3 ⟨rfl, hb3⟩
        go_wp2
        go_roundw
        case rel => exact ⟨k + 1, by omega, by go_num, by rw [hS2.out]; first | rfl | (rw [List.append_assoc]; rfl), bgo hb hb3, bgo hbm hb3⟩
        case measure => simp [intOf]; omega
    · have hjk : joinI 44 (M.take k) = joinI 44 M := by rw [List.take_of_length_le (by omega)]
      rw [hjk]
      by_cases hpos : 0 < M.length
      · obtain ⟨h1, h2⟩ := hfin.out.1 hpos
        rw [← h1]
        rw [← h1] at h2
        have he := empty_text V
        rw [decide_eq_false h2] at he
        clear h1 hjk h2
        go_wp2
        go_ret
        exact ⟨rfl, hb⟩
      · have h1 := hfin.out.2 (by omega)
        have hnil : M = [] := List.eq_nil_of_length_eq_zero (by omega)
        have hj0 : joinI 44 M = [] := by rw [hnil]; rfl
        rw [hj0]
        have he := empty_text []
        rw [decide_eq_true rfl] at he
        clear hjk hj0 hnil
        cases B
        · rw [if_neg (by decide)] at h1
          replace h1 := hid h1
          go_wp2_with fail
          refine (hI.out _ ((hr.below hb).more hb.size)).mono ?_
          rintro e w2 ⟨rfl, hb2⟩
          go_wp2
          go_ret
          exact ⟨by rw [h1.out]; rfl, bgo hb hb2⟩
        · rw [if_pos rfl] at h1
          replace h1 := hid h1
          go_wp2_with fail
          refine (hI.out _ ((hr.below hb).more hb.size)).mono ?_
          rintro e w2 ⟨rfl, hb2⟩
          go_wp2
          go_ret
          exact ⟨by rw [h1.out]; rfl, bgo hb hb2⟩
end Go.Proofs.Ytknbfohmobjplab
