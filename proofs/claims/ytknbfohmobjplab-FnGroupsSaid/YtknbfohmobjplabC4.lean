/- What the reference's ParseGroup computes, texts of at most ten bytes too. Conditions: texts of at most 2^20 bytes. -/
import Derived.Test.YtknbfohmobjplabC3
namespace Go.Proofs.Ytknbfohmobjplab
set_option linter.unusedVariables false
set_option linter.unusedSimpArgs false
open Go.RowKit

theorem sParse_nums (t : List Int) (w : World) (hb : IsB t) (hl : t.length ≤ 1099511627776) :
    Calls Try.prog 85 #[.string (strOfNums t)] w fun e w' => e = .returned (.tuple #[.int .i64 (parseR t).1, .bool (parseR t).2]) ∧ Below w.heap.size w w' := by
  have h := sParseInt_any (strOfNums t) w (by rw [strOfNums_size]; exact hl)
  rw [sI_nums hb] at h
  exact h
set_option maxRecDepth 100000 in
set_option maxHeartbeats 3200000 in
theorem sParseGroup_small (s : ByteArray) (w : World) (hs : s.size ≤ 10) (h1 : sI s ≠ [49]) :
    Calls Try.prog 22 #[.string s] w fun e w' => (∃ ao cap, e = .returned (.tuple #[.agg #[.slice ao (pgE (sI s)).1.length cap], .bool (pgE (sI s)).2]) ∧ Own w' w.heap.size 3 .i64 (.slice ao (pgE (sI s)).1.length cap) (pgE (sI s)).1) ∧ Below w.heap.size w w' := by
  have hL : pgL (sI s) = (cutP 120 (sI s)).map fun u => (parseR u).1 := by unfold pgL; rw [if_neg h1]; rfl
  obtain ⟨V, hV⟩ : ∃ V, V = pgE (sI s) := ⟨_, rfl⟩
  have hno := hid fun h => hV.trans (pgE_no (t := sI s) h)
  have hyes := hid fun h0 h => hV.trans (pgE_yes (t := sI s) h0 h)
  have hnil := hid fun h0 : sI s = [] => show V = ([], false) from hV.trans (by rw [h0]; exact pgE_nil)
  have hbad := hid fun u (hu : u ∈ cutP 120 (sI s)) (hp : (parseR u).2 = false) => show V = ([], false) from by
    by_cases h0 : sI s = []
    · exact hnil.out h0
    · exact hno.out fun h => by rw [(fgE_facts h0 h1 h).2 u hu] at hp; cases hp
  rw [← hV]
  rw [hL] at hno hyes
  obtain ⟨T, hT⟩ : ∃ T, T = sI s ++ [120] := ⟨_, rfl⟩
  have hTl : T.length = s.size + 1 := by rw [hT, List.length_append, sI_length]; rfl
  have hTe : (cutS 120 T).1 = cutP 120 (sI s) := by rw [hT]; exact cutS_end 120 (sI s)
  have hTB : IsB T := by rw [hT]; exact isB_append (isB_sI s) (isB_cons (by decide) isB_nil)
  have hTg := hid fun k (hk : k < s.size) => show T[k]'(by omega) = (s[k].toNat : Int) by
    subst hT
    rw [List.getElem_append_left (by rw [sI_length]; exact hk), sI_get s k hk]
  have hTz : T[s.size]'(by omega) = (120 : Int) := by
    subst hT
    rw [List.getElem_append_right (by rw [sI_length]; exact Nat.le_refl _)]
    simp
  have hTm := hid fun u k (h : u ∈ (cutS 120 (T.take k)).1) => show u ∈ cutP 120 (sI s) from hTe ▸ cutS_mono h
  rw [← hTe] at hno hyes
  have q0 := s_empty s
  have q1 : (s.toList == [49]) = false := by rw [s_one]; exact decide_eq_false h1
  replace hTe := hid hTe
  replace hTl := hid hTl
  replace hTz := hid hTz
  replace hTB := hid hTB
  clear hL hV h1 hT
  go_enter Try.func22, Try.ntmps22
  go_wp2
  go_loopw [5, 6] (fun p i wr => ∃ (k : Nat) (v : Value), k ≤ s.size + 1 ∧ i = .int .i64 k ∧ p = .string (strOfNums (cutS 120 (T.take k)).2) ∧ wr.cell? ⟨w.heap.size + 1, 0, none⟩ = some v ∧ wr.frozen? ⟨w.heap.size + 1, 0, none⟩ = false ∧ wr.cell? ⟨w.heap.size, 0, none⟩ = some (.slice none 0 0) ∧ wr.frozen? ⟨w.heap.size, 0, none⟩ = false ∧ Own wr (w.heap.size + 2) 3 .i64 v ((cutS 120 (T.take k)).1.map fun u => (parseR u).1) ∧ Below w.heap.size w wr ∧ w.heap.size + 2 ≤ wr.heap.size) (fun _ i _ => s.size + 1 - (intOf i).toNat)
  case atStart => exact ⟨0, .slice none 0 0, by omega, rfl, rfl, by simp [go_sem], by simp [go_sem], by simp [go_sem], by simp [go_sem], Own.none_ _ _ _ _, (below_alloc w _).alloc (by simp) _, by simp⟩
  case round =>
    obtain ⟨k, v, hk, rfl, rfl, cv, rv, e0, s0, hown, hbw, hz⟩ := hrel
    obtain ⟨aov, capv, rfl, _, _⟩ := hown.shape
    obtain ⟨mv, hmv⟩ : ∃ mv, mv = ((cutS 120 (T.take k)).1.map fun u => (parseR u).1).length := ⟨_, rfl⟩
    rw [← hmv] at hown cv
    replace hmv := hid hmv
    have hls := cutS_lens 120 T k
    have hcB : IsB (cutS 120 (T.take k)).2 := fun x hx => hTB.out x ((cutS_mem 120 T k).2 x hx)
    have hcm := fun h => hTm.out (cutS 120 (T.take k)).2 (k + 1) h
    by_cases hlt : k < s.size
    · have hst := cutS_take 120 T k (by rw [hTl.out]; omega)
      rw [hTg.out k hlt] at hst
      have hex := extract_nums s k (k + 1)
      have hb := digB s[k]
      rw [sI_take s k hlt, List.drop_append_of_le_length (by rw [List.length_take, sI_length]; omega), List.drop_eq_nil_of_le (by rw [List.length_take, sI_length]; omega), List.nil_append] at hex
      by_cases he : (s[k].toNat : Int) = 120
      · have qx : ((s[k].toNat : Int) == 120) = true := by rw [he]; rfl
        have hst2 := hst
        unfold cutF at hst2
        rw [if_pos he] at hst2
        have hPI := hid fun w => sParse_nums (cutS 120 (T.take k)).2 w hcB (by omega)
        have hbp := hid fun hp => hbad.out (cutS 120 (T.take k)).2 (hcm (by rw [hst2]; simp)) hp
        obtain ⟨D, hD⟩ : ∃ D, D = cutS 120 (T.take k) := ⟨_, rfl⟩
        rw [← hD] at hown hst2 hPI hbp hls
        rw [← hD]
        have hdm : (D.1.map fun u => (parseR u).1).length ≤ 100 := by rw [List.length_map]; omega
        replace hst2 := hid hst2
        clear hst hD hcB hcm he hls hex
        go_wp2_with fail
        refine (hPI.out _).mono ?_
        rintro e w2 ⟨rfl, hb2⟩
        have hown2 := hown.below hb2
        have sz2 := hb2.size
        have cv2 := (hb2.cell (p := ⟨w.heap.size + 1, 0, none⟩) (show w.heap.size + 1 < wr.heap.size by omega)).trans cv
        have rv2 := (hb2.frozen (p := ⟨w.heap.size + 1, 0, none⟩) (show w.heap.size + 1 < wr.heap.size by omega)).trans rv
        have e2 := (hb2.cell (p := ⟨w.heap.size, 0, none⟩) (show w.heap.size < wr.heap.size by omega)).trans e0
        have s2 := (hb2.frozen (p := ⟨w.heap.size, 0, none⟩) (show w.heap.size < wr.heap.size by omega)).trans s0
        have B2 := bgo hbw hb2
        clear hown hb2 cv rv e0 s0 hbw hPI
        cases hp : (parseR D.2).2
        · have hVV := hbp.out hp
          subst hVV
          clear hbp
          replace hp := hid hp
          go_wp2
          refine bodyPost_ret (v := .tuple #[.agg #[.slice none 0 0], .bool false]) (by simp [results, Try.results22, go_sem, e2]) rfl ?_
          exact ⟨⟨_, _, rfl, Own.none_ _ _ _ _⟩, B2.setCell (Nat.le_refl _) _⟩
        · clear hbp
          replace hp := hid hp
          go_wp2_with (at_builtin; refine app1 rfl _ _ rfl Try.underlying24 info_int (by decide) rfl hown2 rfl (by omega) (by omega) ?_)
          intro v' w' hown' hb' hgr'
          have hsn : (D.1.map fun u => (parseR u).1) ++ [(parseR D.2).1] = (cutS 120 (T.take (k + 1))).1.map fun u => (parseR u).1 := by rw [hst2.out]; simp
          rw [hsn] at hown'
          obtain ⟨ao', cap', rfl, _, _⟩ := hown'.shape
          obtain ⟨m', hm'⟩ : ∃ m', m' = ((cutS 120 (T.take (k + 1))).1.map fun u => (parseR u).1).length := ⟨_, rfl⟩
          rw [← hm'] at hown' ⊢
          clear hm'
          have sz3 := hb'.size
          have cv3 := (hb'.cell (p := ⟨w.heap.size + 1, 0, none⟩) (show w.heap.size + 1 < w.heap.size + 2 by omega)).trans cv2
          have rv3 := (hb'.frozen (p := ⟨w.heap.size + 1, 0, none⟩) (show w.heap.size + 1 < w.heap.size + 2 by omega)).trans rv2
          have e3 := (hb'.cell (p := ⟨w.heap.size, 0, none⟩) (show w.heap.size < w.heap.size + 2 by omega)).trans e2
          have s3 := (hb'.frozen (p := ⟨w.heap.size, 0, none⟩) (show w.heap.size < w.heap.size + 2 by omega)).trans s2
          go_wp2
          go_roundw
          case rel => exact ⟨k + 1, _, by omega, by go_num, by rw [hst2.out]; rfl, by simp [go_sem, cv3], by simp [go_sem, rv3], by simp [go_sem, e3], by simp [go_sem, s3], hown'.under (show w.heap.size + 1 < w.heap.size + 2 by omega) _, (B2.trans (hb'.mono (by omega))).setCell (show w.heap.size ≤ w.heap.size + 1 by omega) _, by simp; omega⟩
          case measure => first | (simp [intOf]; done) | (simp [intOf]; omega)
      · have qx : ((s[k].toNat : Int) == 120) = false := beq_eq_false_iff_ne.2 he
        unfold cutF at hst
        rw [if_neg he] at hst
        have had := add_strs (P := Try.prog) (cutS 120 (T.take k)).2 [(s[k].toNat : Int)] (by simp; omega)
        have hst1 := hid (congrArg Prod.fst hst)
        have hst2 := hid (congrArg Prod.snd hst)
        clear hst hcm hcB hTg hTm hls
        go_wp2
        go_roundw
        case rel => exact ⟨k + 1, _, by omega, by go_num, by rw [hst2.out], cv, rv, e0, s0, by rw [hst1.out]; exact hown, hbw, hz⟩
        case measure => simp [intOf]; omega
    · by_cases hke : k = s.size
      · subst hke
        have hst := cutS_take 120 T s.size (by rw [hTl.out]; omega)
        rw [hTz.out] at hst
        have he : (120 : Int) = 120 := rfl
        have hex : True := trivial
        have hst2 := hst
        unfold cutF at hst2
        rw [if_pos he] at hst2
        have hPI := hid fun w => sParse_nums (cutS 120 (T.take s.size)).2 w hcB (by omega)
        have hbp := hid fun hp => hbad.out (cutS 120 (T.take s.size)).2 (hcm (by rw [hst2]; simp)) hp
        obtain ⟨D, hD⟩ : ∃ D, D = cutS 120 (T.take s.size) := ⟨_, rfl⟩
        rw [← hD] at hown hst2 hPI hbp hls
        rw [← hD]
        have hdm : (D.1.map fun u => (parseR u).1).length ≤ 100 := by rw [List.length_map]; omega
        replace hst2 := hid hst2
        clear hst hD hcB hcm he hls hex
        go_wp2_with fail
        refine (hPI.out _).mono ?_
        rintro e w2 ⟨rfl, hb2⟩
        have hown2 := hown.below hb2
        have sz2 := hb2.size
        have cv2 := (hb2.cell (p := ⟨w.heap.size + 1, 0, none⟩) (show w.heap.size + 1 < wr.heap.size by omega)).trans cv
        have rv2 := (hb2.frozen (p := ⟨w.heap.size + 1, 0, none⟩) (show w.heap.size + 1 < wr.heap.size by omega)).trans rv
        have e2 := (hb2.cell (p := ⟨w.heap.size, 0, none⟩) (show w.heap.size < wr.heap.size by omega)).trans e0
        have s2 := (hb2.frozen (p := ⟨w.heap.size, 0, none⟩) (show w.heap.size < wr.heap.size by omega)).trans s0
        have B2 := bgo hbw hb2
        clear hown hb2 cv rv e0 s0 hbw hPI
        cases hp : (parseR D.2).2
        · have hVV := hbp.out hp
          subst hVV
          clear hbp
          replace hp := hid hp
          go_wp2
          refine bodyPost_ret (v := .tuple #[.agg #[.slice none 0 0], .bool false]) (by simp [results, Try.results22, go_sem, e2]) rfl ?_
          exact ⟨⟨_, _, rfl, Own.none_ _ _ _ _⟩, B2.setCell (Nat.le_refl _) _⟩
        · clear hbp
          replace hp := hid hp
          go_wp2_with (at_builtin; refine app1 rfl _ _ rfl Try.underlying24 info_int (by decide) rfl hown2 rfl (by omega) (by omega) ?_)
          intro v' w' hown' hb' hgr'
          have hsn : (D.1.map fun u => (parseR u).1) ++ [(parseR D.2).1] = (cutS 120 (T.take (s.size + 1))).1.map fun u => (parseR u).1 := by rw [hst2.out]; simp
          rw [hsn] at hown'
          obtain ⟨ao', cap', rfl, _, _⟩ := hown'.shape
          obtain ⟨m', hm'⟩ : ∃ m', m' = ((cutS 120 (T.take (s.size + 1))).1.map fun u => (parseR u).1).length := ⟨_, rfl⟩
          rw [← hm'] at hown' ⊢
          clear hm'
          have sz3 := hb'.size
          have cv3 := (hb'.cell (p := ⟨w.heap.size + 1, 0, none⟩) (show w.heap.size + 1 < w.heap.size + 2 by omega)).trans cv2
          have rv3 := (hb'.frozen (p := ⟨w.heap.size + 1, 0, none⟩) (show w.heap.size + 1 < w.heap.size + 2 by omega)).trans rv2
          have e3 := (hb'.cell (p := ⟨w.heap.size, 0, none⟩) (show w.heap.size < w.heap.size + 2 by omega)).trans e2
          have s3 := (hb'.frozen (p := ⟨w.heap.size, 0, none⟩) (show w.heap.size < w.heap.size + 2 by omega)).trans s2
          go_wp2
          go_roundw
          case rel => exact ⟨s.size + 1, _, by omega, by go_num, by rw [hst2.out]; rfl, by simp [go_sem, cv3], by simp [go_sem, rv3], by simp [go_sem, e3], by simp [go_sem, s3], hown'.under (show w.heap.size + 1 < w.heap.size + 2 by omega) _, (B2.trans (hb'.mono (by omega))).setCell (show w.heap.size ≤ w.heap.size + 1 by omega) _, by simp; omega⟩
          case measure => first | (simp [intOf]; done) | (simp [intOf]; omega)
      · obtain rfl : k = s.size + 1 := by omega
        have e1 : T.take (s.size + 1) = T := List.take_of_length_le (by rw [hTl.out]; omega)
        rw [e1] at hown ⊢
        obtain ⟨O, hO⟩ : ∃ O, O = (cutS 120 T).1.map fun u => (parseR u).1 := ⟨_, rfl⟩
        have hOl : O.length ≤ 100 := by rw [hO, List.length_map]; rw [e1] at hls; omega
        have hol' := hmv.out
        rw [e1, ← hO] at hol'
        replace hol' := hid hol'
        rw [← hO] at hown hno hyes
        have hF := hid fun v w h => sFormatGroup_any v O w h (by omega)
        have hcmp := eq_whole (fgE O) (isB_fgE O) s
        obtain ⟨P, hP⟩ : ∃ P, P = (cutS 120 T).2 := ⟨_, rfl⟩
        rw [← hP]
        have hr := Rd.of_own hown
        clear hls hcB hcm hlt hke hTl hTe hTB hTg hTz hTm hbad e1 hO hP
        by_cases h0 : sI s = []
        · have hVV := hnil.out h0
          subst hVV
          rw [decide_eq_true h0] at q0
          replace h0 := hid h0
          clear hno hyes hnil hcmp hF
          go_wp2
          refine bodyPost_ret (v := .tuple #[.agg #[.slice none 0 0], .bool false]) (by simp [results, Try.results22, go_sem, e0]) rfl ?_
          exact ⟨⟨_, _, rfl, Own.none_ _ _ _ _⟩, hbw.setCell (Nat.le_refl _) _⟩
        rw [decide_eq_false h0] at q0
        replace hyes := hid (hyes.out h0)
        clear hnil
        replace h0 := hid h0
        by_cases hf : fgE O = sI s
        · have hVV := hyes.out hf
          subst hVV
          rw [decide_eq_true hf] at hcmp
          replace hf := hid hf
          clear hno hyes
          go_wp2_with fail
          refine (hF.out _ _ hr).mono ?_
          rintro e w6 ⟨rfl, hb6⟩
          have e6 := (hb6.cell (p := ⟨w.heap.size, 0, none⟩) (show w.heap.size < wr.heap.size by omega)).trans e0
          have s6 := (hb6.frozen (p := ⟨w.heap.size, 0, none⟩) (show w.heap.size < wr.heap.size by omega)).trans s0
          have c6 := (hb6.cell (p := ⟨w.heap.size + 1, 0, none⟩) (show w.heap.size + 1 < wr.heap.size by omega)).trans cv
          have hown6 := hown.below hb6
          have D6 := bgo hbw hb6
          clear hown hb6 e0 s0 cv hF hr
          go_wp2
          have hol := hol'.out
          rw [hol] at hown6 ⊢
          refine bodyPost_ret (v := .tuple #[.agg #[.slice aov O.length capv], .bool true]) (by simp [results, Try.results22, go_sem, e6, hol]) rfl ?_
          exact ⟨⟨_, _, rfl, (hown6.under (show w.heap.size < w.heap.size + 2 by omega) _).lower (by omega)⟩, D6.setCell (Nat.le_refl _) _⟩
        · have hVV := hno.out hf
          subst hVV
          rw [decide_eq_false hf] at hcmp
          replace hf := hid hf
          clear hno hyes
          go_wp2_with fail
          refine (hF.out _ _ hr).mono ?_
          rintro e w6 ⟨rfl, hb6⟩
          have e6 := (hb6.cell (p := ⟨w.heap.size, 0, none⟩) (show w.heap.size < wr.heap.size by omega)).trans e0
          have s6 := (hb6.frozen (p := ⟨w.heap.size, 0, none⟩) (show w.heap.size < wr.heap.size by omega)).trans s0
          have D6 := bgo hbw hb6
          clear hown hb6 e0 s0 cv hF hr
          go_wp2
          refine bodyPost_ret (v := .tuple #[.agg #[.slice none 0 0], .bool false]) (by simp [results, Try.results22, go_sem, e6]) rfl ?_
          exact ⟨⟨_, _, rfl, Own.none_ _ _ _ _⟩, D6.setCell (Nat.le_refl _) _⟩
theorem sParseGroup_any (s : ByteArray) (w : World) (hs : s.size ≤ 1048576) :
    Calls Try.prog 22 #[.string s] w fun e w' => (∃ ao cap, e = .returned (.tuple #[.agg #[.slice ao (pgE (sI s)).1.length cap], .bool (pgE (sI s)).2]) ∧ Own w' w.heap.size 3 .i64 (.slice ao (pgE (sI s)).1.length cap) (pgE (sI s)).1) ∧ Below w.heap.size w w' := by
  by_cases h1 : sI s = [49]
  · exact sParseGroup_one s w h1
  · by_cases hb : s.size ≤ 10
    · exact sParseGroup_small s w hb h1
    · exact sParseGroup_big s w hs (by omega)
theorem pgE_len (t : List Int) : (pgE t).1.length ≤ t.length + 1 := by
  have h := (cutP_facts 120 t).1
  unfold pgE
  split
  · show (pgL t).length ≤ _
    unfold pgL pgO
    split
    · simp
    · rw [List.length_map]; exact h
  · simp
end Go.Proofs.Ytknbfohmobjplab
