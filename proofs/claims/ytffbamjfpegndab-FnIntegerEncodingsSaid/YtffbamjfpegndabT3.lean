
/- What FormatGroup computes, the program's and the reference's. Conditions: at most 2^20 orders. -/
import Derived.Test.YtffbamjfpegndabT2
import Derived.Test.YtffbamjfpegndabW7
namespace Go.Proofs.Ytffbamjfpegndab
set_option linter.unusedVariables false
set_option linter.unusedSimpArgs false
open Go.RowKit

theorem iIsGroup_at' {v : Value} {l : List Int} {b : Bool} {w : World} (hE : isGroup l = b) (hr : Rd w w.heap.size .i64 v l) (hn : l.length ≤ 1048576) :
    Calls Try.prog 45 #[.agg #[v]] w fun e w' => e = .returned (.bool b) ∧ Below w.heap.size w w' := by
  rw [← hE]; exact iIsGroup_any v l w hr (by omega)
theorem sIsGroup_at' {v : Value} {l : List Int} {b : Bool} {w : World} (hE : isGroup l = b) (hr : Rd w w.heap.size .i64 v l) (hn : l.length ≤ 1048576) :
    Calls Try.prog 42 #[.agg #[v]] w fun e w' => e = .returned (.bool b) ∧ Below w.heap.size w w' := by
  rw [← hE]; exact sIsGroup_any v l w hr (by omega)
theorem iFormatGroup_any (v : Value) (l : List Int) (w : World) (hr : Rd w w.heap.size .i64 v l) (hn : l.length ≤ 1048576) :
    Calls Try.prog 17 #[.agg #[v]] w fun e w' => e = .returned (.string (strOfNums (fgE l))) ∧ Below w.heap.size w w' := by
  have hr0 := hid hr
  obtain ⟨ao, cap, rfl, _, _, hrd⟩ := hr
  cases hE : isGroup l
  · rw [fgE_no hE]
    replace hE := hid hE
    clear hrd
    go_enter Try.func17, Try.ntmps17
    go_wp2_with fail
    refine (iIsGroup_at' hE.out ((hr0.out.alloc (Nat.le_refl _) _).more (by go_size)) hn).mono ?_
    rintro e w1 ⟨rfl, hb1⟩
    have D1 : Below w.heap.size w w1 := by refine Below.trans ?_ (hb1.mono ?_) <;> go_grown
    have hz1 : w.heap.size < w1.heap.size := by have := hb1.size; simp at this; omega
    obtain ⟨hc1, hf1⟩ := bcell hb1
    go_wp2
    go_ret
    exact ⟨rfl, D1⟩
  · by_cases hpos : 0 < l.length
    · rw [fgE_yes hE hpos]
      have hbd := hid fun x (hx : x ∈ l) => ((isGroup_iff l).1 hE).2.1 x hx
      obtain ⟨n, hN⟩ : ∃ n, n = l.length := ⟨_, rfl⟩
      rw [← hN] at hpos hn hr0 ⊢
      obtain ⟨V, hV⟩ : ∃ V, V = joinI 120 l := ⟨_, rfl⟩
      rw [← hV]
      replace hV := hid hV
      replace hN := hid hN
      replace hrd := hid hrd
      replace hE := hid hE
      have z1 : ((n : Int) == 0) = false := by rw [beq_eq_false_iff_ne]; omega
      have z2 : ¬ n = 0 := by omega
      have hI := hid fun w h => iIsGroup_at' (v := .slice ao n cap) (w := w) hE.out h (by rw [← hN.out]; exact hn)
      go_enter Try.func17, Try.ntmps17
      go_wp2_with fail
      refine (hI.out _ ((hr0.out.alloc (Nat.le_refl _) _).more (by go_size))).mono ?_
      rintro e w1 ⟨rfl, hb1⟩
      have D1 : Below w.heap.size w w1 := by refine Below.trans ?_ (hb1.mono ?_) <;> go_grown
      have hz1 : w.heap.size < w1.heap.size := by have := hb1.size; simp at this; omega
      obtain ⟨hc1, hf1⟩ := bcell hb1
      have c1 : w1.cell? ⟨w.heap.size, 0, none⟩ = some (.slice ao n cap) := by rw [hc1 _ _ (by go_size)]; simp [go_sem]
      clear hc1 hf1 hb1
      have D2 : Below w.heap.size w (w1.alloc (.cells #[] 9)) := D1.trans ((below_alloc _ _).mono D1.size)
      go_wp2
      go_loopw [3, 17] (fun o i wr => ∃ k : Nat, k ≤ n ∧ i = .int .i64 k ∧ OwnS wr (w.heap.size + 1) 9 o (fmts (l.take k)) ∧ Below w.heap.size w wr ∧ w.heap.size < wr.heap.size) (fun _ i _ => n - (intOf i).toNat)
      case atStart => exact ⟨0, by omega, rfl, OwnS.empty _ _ _ hz1, D2, by simp; omega⟩
      case round =>
        obtain ⟨k, hk, rfl, hown, hbw, hz⟩ := hrel
        by_cases hlt : k < n
        · have hj : k < l.length := by rw [← hN.out]; omega
          obtain ⟨b, off, rfl, hB, hcell⟩ := hrd.out (by omega)
          have hcm := (hbw.cell (p := ⟨b, off + k, none⟩) hB).trans (hcell k hj)
          have hxb := hbd.out _ (List.getElem_mem hj)
          have hsn := fmts_snoc l k hj
          have hfl := fmts_length (l.take k)
          rw [List.length_take] at hfl
          obtain ⟨x, hx⟩ : ∃ x, x = l[k] := ⟨_, rfl⟩
          rw [← hx] at hcm hxb hsn
          have hF := hid fun w => iFormatInt_any x w (by omega) (by omega)
          replace hsn := hid hsn
          replace hxb := hid hxb
          clear hcell hx
          go_wp2_with fail
          refine (hF.out _).mono ?_
          rintro e w2 ⟨rfl, hb2⟩
          have hown2 := hown.below hb2
          have D3 := bgo hbw hb2
          have hz2 : w.heap.size < w2.heap.size := by have := hb2.size; omega
          clear hown hb2
          go_wp2_with (at_builtin; refine appS rfl _ _ rfl Try.underlying63 info_str (by decide) rfl hown2 rfl (by omega) hz2 ?_)
          intro v' w' hown' hb' _
          rw [← hsn.out] at hown'
          have hsz := hb'.size
          clear hown2
          go_wp2
          go_roundw
          case rel => exact ⟨k + 1, by omega, by go_num, hown', D3.trans (hb'.mono (Nat.le_succ _)), by omega⟩
          case measure => simp [intOf]; omega
        · rw [List.take_of_length_le (by rw [← hN.out]; omega)] at hown
          have hG := hid (iglued_any _ (fmts l) [120] ⟨#[120]⟩ _ _ rfl hown (by decide) (by rw [fmts_length, ← hN.out]; exact hn) (fun t h => fmts_len h))
          have hV2 : joinL [120] (fmts l) = V := hV.out.symm
          rw [hV2] at hG
          go_wp2_with fail
          refine hG.out.mono ?_
          rintro e w2 ⟨rfl, rfl⟩
          go_wp2
          go_ret
          exact ⟨rfl, hbw⟩
    · have hnil : l = [] := List.eq_nil_of_length_eq_zero (by omega)
      subst hnil
      rw [show fgE [] = [49] from rfl]
      replace hE := hid hE
      have hI := hid fun w h => iIsGroup_at' (v := .slice ao 0 cap) (l := []) (w := w) hE.out h (by simp)
      clear hrd
      go_enter Try.func17, Try.ntmps17
      go_wp2_with fail
      refine (hI.out _ ((hr0.out.alloc (Nat.le_refl _) _).more (by go_size))).mono ?_
      rintro e w1 ⟨rfl, hb1⟩
      have D1 : Below w.heap.size w w1 := by refine Below.trans ?_ (hb1.mono ?_) <;> go_grown
      have hz1 : w.heap.size < w1.heap.size := by have := hb1.size; simp at this; omega
      obtain ⟨hc1, hf1⟩ := bcell hb1
      go_wp2
      go_ret
      exact ⟨rfl, D1⟩
/-- whether a text is empty -/
theorem empty_text (V : List Int) : (strOfNums V).toList.isEmpty = decide (V = []) := by
  rw [toList_strOfNums]
  cases V with
  | nil => rfl
  | cons x r => simp [toB]
theorem joinI_cons (b x : Int) (r : List Int) (h : fmtI x ≠ []) : joinI b (x :: r) ≠ [] := by
  unfold joinI fmts
  cases r with
  | nil => exact h
  | cons y r =>
    intro he
    rw [List.map_cons, List.map_cons, joinL] at he
    exact h (List.append_eq_nil_iff.1 he).1
theorem fmtI_ne (x : Int) : fmtI x ≠ [] := by
  unfold fmtI
  split
  · simp
  · rename_i h
    intro he
    have h2 := (List.append_eq_nil_iff.1 he).2
    have h3 : digs 20 (absI x) ≠ [] := by
      have h4 : absI x ≠ 0 := by unfold absI; split <;> omega
      simp [digs, h4]
    exact h3 (by simpa using h2)
theorem joinI_ne {b : Int} {l : List Int} (h : 0 < l.length) : joinI b l ≠ [] := by
  cases l with
  | nil => simp at h
  | cons x r => exact joinI_cons b x r (fmtI_ne x)
theorem joinI_step {b : Int} {l : List Int} {k : Nat} (hk : k < l.length) (h0 : 0 < k) : joinI b (l.take (k + 1)) = joinI b (l.take k) ++ [b] ++ fmtI l[k] := by
  unfold joinI
  rw [fmts_snoc l k hk, joinL_snoc]
  intro h
  have h2 : (fmts (l.take k)).length = 0 := by rw [h]; rfl
  rw [fmts_length, List.length_take] at h2
  omega
theorem joinI_one {b : Int} {l : List Int} (hk : 0 < l.length) : joinI b (l.take 1) = fmtI l[0] := by
  unfold joinI
  rw [show l.take 1 = l.take (0 + 1) from rfl, fmts_snoc l 0 hk]
  rfl
theorem joinI_small {b : Int} {l : List Int} (hl : l.length ≤ 1048576) (k : Nat) : (joinI b (l.take k)).length ≤ 1073741824 := join_small (Nat.le_refl 1) (by rw [fmts_length, List.length_take]; omega) (fun t h => fmts_len h)
end Go.Proofs.Ytffbamjfpegndab
