/- What the reference's FormatGroup and FormatSet compute. Conditions: at most 2^20 orders. -/
import Derived.Test.YtknbfohmobjplabMTa
import Derived.Test.YtknbfohmobjplabS7
namespace Go.Proofs.Ytknbfohmobjplab
set_option linter.unusedVariables false
set_option linter.unusedSimpArgs false
open Go.RowKit

theorem sFormatGroup_any (v : Value) (l : List Int) (w : World) (hr : Rd w w.heap.size .i64 v l) (hn : l.length ≤ 1048576) :
    Calls Try.prog 23 #[.agg #[v]] w fun e w' => e = .returned (.string (strOfNums (fgE l))) ∧ Below w.heap.size w w' := by
  have hr0 := hid hr
  obtain ⟨ao, cap, rfl, _, _, hrd⟩ := hr
  cases hE : isGroup l
  · rw [fgE_no hE]
    have hpos : 0 < l.length := by
      cases l with
      | nil => exact absurd hE (by decide)
      | cons x r => simp
    replace hE := hid hE
    have he := empty_text []
    rw [decide_eq_true rfl] at he
    clear hrd
    go_enter Try.func23, Try.ntmps23
    go_wp2
    go_loopw [3, 4] (fun s i wr => i = .int .i64 0 ∧ s = .string (strOfNums []) ∧ Below w.heap.size w wr ∧ w.heap.size < wr.heap.size ∧ wr.cell? ⟨w.heap.size, 0, none⟩ = some (.slice ao l.length cap)) (fun _ _ _ => 0)
    case atStart => exact ⟨rfl, rfl, below_alloc _ _, by simp, by simp [go_sem]⟩
    case round =>
      obtain ⟨rfl, rfl, hb, hz, hc⟩ := hrel
      go_wp2_with fail
      refine (sIsGroup_at' hE.out ((hr0.out.below hb).more hb.size) hn).mono ?_
      rintro e w2 ⟨rfl, hb2⟩
      have D2 := bgo hb hb2
      have c2 := (hb2.cell hz).trans hc
      have hz2 : w.heap.size < w2.heap.size := by have := hb2.size; omega
      clear hc hb2
      go_wp2_with fail
      refine (sIsGroup_at' hE.out ((hr0.out.below D2).more D2.size) hn).mono ?_
      rintro e w3 ⟨rfl, hb3⟩
      go_wp2
      go_ret
      exact ⟨rfl, bgo D2 hb3⟩
  · have hbd := hid fun x (hx : x ∈ l) => ((isGroup_iff l).1 hE).2.1 x hx
    have hfin : (0 < l.length → fgE l = joinI 120 l ∧ joinI 120 l ≠ []) ∧ (l.length = 0 → fgE l = [49]) := by
      refine ⟨fun h => ⟨fgE_yes hE h, joinI_ne h⟩, fun h => ?_⟩
      have := List.eq_nil_of_length_eq_zero h
      subst this
      rfl
    have hstep := hid fun k h1 h2 => @joinI_step 120 l k h1 h2
    have hone := hid fun h => @joinI_one 120 l h
    have hsmall := hid (@joinI_small 120 l hn)
    obtain ⟨n, hN⟩ : ∃ n, n = l.length := ⟨_, rfl⟩
    have hI := hid fun w h => sIsGroup_at' (v := .slice ao l.length cap) (w := w) hE h hn
    rw [← hN] at hn hr0 hI ⊢
    obtain ⟨V, hV⟩ : ∃ V, V = fgE l := ⟨_, rfl⟩
    rw [← hV] at hfin ⊢
    replace hfin := hid hfin
    replace hN := hid hN
    replace hrd := hid hrd
    clear hE hV
    go_enter Try.func23, Try.ntmps23
    go_wp2
    go_loopw [3, 4] (fun s i wr => ∃ k : Nat, k ≤ n ∧ i = .int .i64 k ∧ s = .string (strOfNums (joinI 120 (l.take k))) ∧ Below w.heap.size w wr ∧ w.heap.size < wr.heap.size ∧ wr.cell? ⟨w.heap.size, 0, none⟩ = some (.slice ao n cap)) (fun _ i _ => n - (intOf i).toNat)
    case atStart => exact ⟨0, by omega, rfl, rfl, below_alloc _ _, by simp, by simp [go_sem]⟩
    case round =>
      obtain ⟨k, hk, rfl, rfl, hb, hz, hc⟩ := hrel
      by_cases hlt : k < n
      · have hj : k < l.length := by rw [← hN.out]; omega
        obtain ⟨b, off, rfl, hB, hcell⟩ := hrd.out (by omega)
        have hxb := hbd.out _ (List.getElem_mem hj)
        have hS := fun h => hstep.out k hj h
        have hO := hone.out (by omega)
        have hsm := hsmall.out k
        have hcm := (hb.cell (p := ⟨b, off + k, none⟩) hB).trans (hcell k hj)
        have hfl := fmtI_length l[k]
        have hF := hid fun w => sFormatInt_any l[k] w (by omega) (by omega)
        go_wp2_with fail
        refine (hI.out _ ((hr0.out.below hb).more hb.size)).mono ?_
        rintro e w2 ⟨rfl, hb2⟩
        have D2 := bgo hb hb2
        have c2 := (hb2.cell hz).trans hc
        have hz2 : w.heap.size < w2.heap.size := by have := hb2.size; omega
        have cm2 := (hb2.cell (p := ⟨b, off + k, none⟩) (Nat.lt_of_lt_of_le hB hb.size)).trans hcm
        clear hc hb2 hcm hcell
        by_cases h0 : k = 0
        · subst h0
          have hj0 : joinI 120 (l.take 0) = [] := rfl
          rw [hj0]
          obtain ⟨x, hx⟩ : ∃ x, x = l[0] := ⟨_, rfl⟩
          rw [← hx] at hF hO cm2 hxb hfl
          have cm0 : w2.cell? ⟨b, off, none⟩ = some (.int .i64 x) := cm2
          have ha := add_strs (P := Try.prog) [] (fmtI x) (by simp; omega)
          rw [List.nil_append] at ha
          replace hO := hid hO
          replace hxb := hid hxb
          clear hS hx hj0 hsm
          go_wp2_with fail
          refine (hF.out _).mono ?_
          rintro e w3 ⟨rfl, hb3⟩
          go_wp2
          go_roundw
          case rel => exact ⟨1, by omega, by go_num, by rw [hO.out], bgo D2 hb3, by have := hb3.size; omega, (hb3.cell hz2).trans c2⟩
          case measure => simp [intOf]; omega
        · have hS2 := hS (by omega)
          obtain ⟨x, hx⟩ : ∃ x, x = l[k] := ⟨_, rfl⟩
          rw [← hx] at hF hS2 cm2 hxb hfl
          obtain ⟨J, hJ⟩ : ∃ J, J = joinI 120 (l.take k) := ⟨_, rfl⟩
          rw [← hJ] at hS2 hsm
          rw [← hJ]
          have ha1 := add_strs (P := Try.prog) J [120] (by simp; omega)
          have hc120 : strOfNums [120] = ByteArray.mk #[120] := rfl
          rw [hc120] at ha1
          have ha2 := add_strs (P := Try.prog) (J ++ [120]) (fmtI x) (by simp; omega)
          have z2 : 0 < k := by omega
          have z1 : decide ((k : Int) > 0) = true := decide_eq_true (by omega)
          replace hS2 := hid hS2
          replace hxb := hid hxb
          clear hS hx hJ hO h0 hc120
          go_wp2_with fail
          refine (hF.out _).mono ?_
          rintro e w3 ⟨rfl, hb3⟩
          go_wp2
          go_roundw
          case rel => exact ⟨k + 1, by omega, by go_num, by rw [hS2.out]; first | rfl | (rw [List.append_assoc]; rfl), bgo D2 hb3, by have := hb3.size; omega, (hb3.cell hz2).trans c2⟩
          case measure => simp [intOf]; omega
      · have hjk : joinI 120 (l.take k) = joinI 120 l := by rw [List.take_of_length_le (by rw [← hN.out]; omega)]
        rw [hjk]
        by_cases hpos : 0 < n
        · obtain ⟨h1, h2⟩ := hfin.out.1 (by rw [← hN.out]; exact hpos)
          rw [← h1]
          rw [← h1] at h2
          have he := empty_text V
          rw [decide_eq_false h2] at he
          clear h1 hjk h2
          go_wp2
          go_ret
          exact ⟨rfl, hb⟩
        · have h1 := hid (hfin.out.2 (by rw [← hN.out]; omega))
          have hnil : l = [] := List.eq_nil_of_length_eq_zero (by rw [← hN.out]; omega)
          have hj0 : joinI 120 l = [] := by rw [hnil]; rfl
          rw [hj0]
          have he := empty_text []
          rw [decide_eq_true rfl] at he
          clear hjk hj0 hnil
          go_wp2_with fail
          refine (hI.out _ ((hr0.out.below hb).more hb.size)).mono ?_
          rintro e w2 ⟨rfl, hb2⟩
          go_wp2
          go_ret
          exact ⟨by rw [h1.out]; rfl, bgo hb hb2⟩
end Go.Proofs.Ytknbfohmobjplab
