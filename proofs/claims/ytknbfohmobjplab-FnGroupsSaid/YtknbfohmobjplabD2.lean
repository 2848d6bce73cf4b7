/- What the reference's ParseSet computes: what the program's does. Conditions: at most 2^20 orders, texts of at most 2^20 bytes. -/
import Derived.Test.YtknbfohmobjplabD1
namespace Go.Proofs.Ytknbfohmobjplab
set_option linter.unusedVariables false
set_option linter.unusedSimpArgs false
open Go.RowKit

theorem cutF_pre {b : Int} : ∀ (l : List Int) (p : List (List Int) × List Int), ∃ E, (l.foldl (cutF b) p).1 = p.1 ++ E := by
  intro l
  induction l with
  | nil => intro p; exact ⟨[], by simp⟩
  | cons x r ih =>
    intro p
    rw [List.foldl_cons]
    obtain ⟨E, hE⟩ := ih (cutF b p x)
    rw [hE]
    unfold cutF
    split
    · exact ⟨[p.2] ++ E, by simp⟩
    · exact ⟨E, rfl⟩
theorem cutS_pre (b : Int) (l : List Int) (k : Nat) : ∃ E, (cutS b l).1 = (cutS b (l.take k)).1 ++ E := by
  have e : cutS b l = (l.drop k).foldl (cutF b) (cutS b (l.take k)) := by
    show l.foldl (cutF b) ([], []) = (l.drop k).foldl (cutF b) ((l.take k).foldl (cutF b) ([], []))
    rw [← List.foldl_append, List.take_append_drop]
  rw [e]
  exact cutF_pre _ _
theorem psTo_append {l : List Int} : ∀ (D E : List (List Int)) (A : Nat), psTo l (D ++ E) A = (psTo l D A).bind (psTo l E) := by
  intro D
  induction D with
  | nil => intro E A; rfl
  | cons u r ih =>
    intro E A
    rw [List.cons_append, psTo, psTo]
    split
    · exact ih E _
    · rfl
theorem psTo_snoc {l : List Int} {D : List (List Int)} {u : List Int} {A B : Nat} (h : psTo l D B = some A) : psTo l (D ++ [u]) B = if (parseR u).2 && isEl l (parseR u).1 then some (A ||| 2 ^ (parseR u).1.toNat) else none := by
  rw [psTo_append, h]
  rfl
theorem fsE_len (l : List Int) (a : Int) : (fsE l a).length ≤ 80 := by
  unfold fsE
  split
  · unfold nums
    split
    · simp
    · have h := joinI_len2 (b := 44) (l := memL a.toNat) fun x hx => by have := memL_bd hx; omega
      have h2 := memL_len a.toNat
      omega
  · simp
theorem sFormatSet_at {v : Value} {l : List Int} {a : Int} {t : List Int} {w : World} (hE : fsE l a = t) (hr : Rd w w.heap.size .i64 v l) (hn : l.length ≤ 1048576) (ha : -9223372036854775808 ≤ a ∧ a ≤ 9223372036854775807) :
    Calls Try.prog 43 #[.agg #[v], .int .i64 a] w fun e w' => e = .returned (.string (strOfNums t)) ∧ Below w.heap.size w w' := by
  rw [← hE]; exact sFormatSet_any v l a w hr hn ha
set_option maxRecDepth 100000 in
theorem sParseSet_none (v : Value) (l : List Int) (s : ByteArray) (w : World) (hr : Rd w w.heap.size .i64 v l) (hn : l.length ≤ 1048576) (h1 : sI s = noneT) :
    Calls Try.prog 55 #[.agg #[v], .string s] w fun e w' => e = .returned (.tuple #[.int .i64 (psE l (sI s)).1, .bool (psE l (sI s)).2]) ∧ Below w.heap.size w w' := by
  have q1 : (s.toList == [110, 111, 110, 101]) = true := by rw [s_none]; exact decide_eq_true h1
  have hE : psE l noneT = (0, isGroup l) := if_pos rfl
  rw [h1, hE]
  replace h1 := hid h1
  clear hE
  go_enter Try.func55, Try.ntmps55
  go_wp2_with fail
  refine (sIsGroup_any v l _ ((hr.alloc (Nat.le_refl _) _).more (by simp)) (by omega)).mono ?_
  rintro e w1 ⟨rfl, hb1⟩
  have D1 : Below w.heap.size w w1 := by refine Below.trans ?_ (hb1.mono ?_) <;> go_grown
  go_wp2
  go_ret2
  exact ⟨rfl, D1⟩
set_option maxRecDepth 100000 in
theorem sParseSet_big (v : Value) (l : List Int) (s : ByteArray) (w : World) (hr : Rd w w.heap.size .i64 v l) (hn : l.length ≤ 1048576) (hs : s.size ≤ 1048576) (hb : 80 < s.size) :
    Calls Try.prog 55 #[.agg #[v], .string s] w fun e w' => e = .returned (.tuple #[.int .i64 (psE l (sI s)).1, .bool (psE l (sI s)).2]) ∧ Below w.heap.size w w' := by
  have hlen := sI_length s
  have h1 : sI s ≠ noneT := fun e => by rw [e] at hlen; simp [noneT] at hlen; omega
  have q1 : (s.toList == [110, 111, 110, 101]) = false := by rw [s_none]; exact decide_eq_false h1
  have hfl : ∀ a, fsE l a ≠ sI s := fun a h => by have := fsE_len l a; rw [h] at this; omega
  have hE : psE l (sI s) = (0, false) := by
    cases h : psTo l (cutP 44 (sI s)) 0 with
    | none => exact psE_none h1 h
    | some A => exact psE_no h1 h (hfl _)
  have hcmp := eq_whole (fsE l 0) (isB_fsE l 0) s
  rw [decide_eq_false (hfl 0)] at hcmp
  have hF := hid fun w h => sFormatSet_any v l 0 w h hn (by omega)
  rw [hE]
  replace h1 := hid h1
  clear hE hlen hfl
  go_enter Try.func55, Try.ntmps55
  go_wp2
  go_loopw [6, 7, 8] (fun a p i wr => a = .int .i64 0 ∧ i = .int .i64 0 ∧ wr = w.alloc (.cells #[v] 26)) (fun _ _ _ _ => 0)
  case atStart => exact ⟨rfl, rfl, rfl⟩
  case round =>
    obtain ⟨rfl, rfl, rfl⟩ := hrel
    go_wp2_with fail
    refine (hF.out _ ((hr.alloc (Nat.le_refl _) _).more (by simp))).mono ?_
    rintro e w1 ⟨rfl, hb1⟩
    have D1 : Below w.heap.size w w1 := by refine Below.trans ?_ (hb1.mono ?_) <;> go_grown
    go_wp2
    go_ret2
    exact ⟨rfl, D1⟩
set_option maxRecDepth 100000 in
set_option maxHeartbeats 3200000 in
theorem sParseSet_small (v : Value) (l : List Int) (s : ByteArray) (w : World) (hr : Rd w w.heap.size .i64 v l) (hn : l.length ≤ 1048576) (hs : s.size ≤ 80) (h1 : sI s ≠ noneT) :
    Calls Try.prog 55 #[.agg #[v], .string s] w fun e w' => e = .returned (.tuple #[.int .i64 (psE l (sI s)).1, .bool (psE l (sI s)).2]) ∧ Below w.heap.size w w' := by
  obtain ⟨V, hV⟩ : ∃ V, V = psE l (sI s) := ⟨_, rfl⟩
  obtain ⟨T, hT⟩ : ∃ T, T = sI s ++ [44] := ⟨_, rfl⟩
  have hTe : (cutS 44 T).1 = cutP 44 (sI s) := by rw [hT]; exact cutS_end 44 (sI s)
  have hnone := hid fun h => hV.trans (psE_none h1 (hTe ▸ h))
  have hyes := hid fun A h hf => hV.trans (@psE_yes l (sI s) A h1 (hTe ▸ h) hf)
  have hno := hid fun A h hf => hV.trans (@psE_no l (sI s) A h1 (hTe ▸ h) hf)
  rw [← hV]
  have hTl : T.length = s.size + 1 := by rw [hT, List.length_append, sI_length]; rfl
  have hTB : IsB T := by rw [hT]; exact isB_append (isB_sI s) (isB_cons (by decide) isB_nil)
  have hTg := hid fun k (hk : k < s.size) => show T[k]'(by omega) = (s[k].toNat : Int) by
    subst hT
    rw [List.getElem_append_left (by rw [sI_length]; exact hk), sI_get s k hk]
  have hTz : T[s.size]'(by omega) = (44 : Int) := by
    subst hT
    rw [List.getElem_append_right (by rw [sI_length]; exact Nat.le_refl _)]
    simp
  have hpre := hid (cutS_pre 44 T)
  have q1 : (s.toList == [110, 111, 110, 101]) = false := by rw [s_none]; exact decide_eq_false h1
  replace hTl := hid hTl
  replace hTz := hid hTz
  replace hTB := hid hTB
  clear hV h1 hT hTe
  go_enter Try.func55, Try.ntmps55
  go_wp2
  go_loopw [6, 7, 8] (fun a p i wr => ∃ k A : Nat, k ≤ s.size + 1 ∧ i = .int .i64 k ∧ a = .int .i64 (A : Int) ∧ p = .string (strOfNums (cutS 44 (T.take k)).2) ∧ Hid (A < 16777216) ∧ Hid (psTo l (cutS 44 (T.take k)).1 0 = some A) ∧ Below w.heap.size w wr ∧ w.heap.size < wr.heap.size ∧ wr.cell? ⟨w.heap.size, 0, none⟩ = some v) (fun _ _ i _ => s.size + 1 - (intOf i).toNat)
  case atStart => exact ⟨0, 0, by omega, rfl, rfl, rfl, (by decide : 0 < 16777216), rfl, below_alloc _ _, by simp, by simp [go_sem]⟩
  case round =>
    obtain ⟨k, A, hk, rfl, rfl, rfl, hA, hps, hb, hz, hc⟩ := hrel
    have hls := cutS_lens 44 T k
    have hcB : IsB (cutS 44 (T.take k)).2 := fun x hx => hTB.out x ((cutS_mem 44 T k).2 x hx)
    by_cases hlt : k < s.size
    · have hst := cutS_take 44 T k (by rw [hTl.out]; omega)
      rw [hTg.out k hlt] at hst
      have hex := extract_nums s k (k + 1)
      have hbd := digB s[k]
      rw [sI_take s k hlt, List.drop_append_of_le_length (by rw [List.length_take, sI_length]; omega), List.drop_eq_nil_of_le (by rw [List.length_take, sI_length]; omega), List.nil_append] at hex
      by_cases he : (s[k].toNat : Int) = 44
      · have qx : ((s[k].toNat : Int) == 44) = true := by rw [he]; rfl
        clear hex
        have hst2 := hst
        unfold cutF at hst2
        rw [if_pos he] at hst2
        have hPI := hid fun w => sParse_nums (cutS 44 (T.take k)).2 w hcB (by omega)
        obtain ⟨E, hE⟩ := hpre.out (k + 1)
        obtain ⟨D, hD⟩ : ∃ D, D = cutS 44 (T.take k) := ⟨_, rfl⟩
        rw [← hD] at hst2 hPI hps hls
        rw [← hD]
        have hst1 := congrArg Prod.fst hst2
        have hone := psTo_snoc (l := l) (u := D.2) hps.out
        have hbadf := hid fun h : psTo l (D.1 ++ [D.2]) 0 = none => hnone.out (by rw [hE, hst1, psTo_append, h]; rfl)
        have hst3 := hid (congrArg Prod.snd hst2)
        replace hst1 := hid hst1
        obtain ⟨x, hx⟩ : ∃ x, x = (parseR D.2).1 := ⟨_, rfl⟩
        obtain ⟨ok, hok⟩ : ∃ ok, ok = (parseR D.2).2 := ⟨_, rfl⟩
        rw [← hx, ← hok] at hPI hone
        clear hst hst2 hD hcB he hls hE hx hok hps
        go_wp2_with fail
        refine (hPI.out _).mono ?_
        rintro e w2 ⟨rfl, hb2⟩
        have c2 := (hb2.cell (p := ⟨w.heap.size, 0, none⟩) hz).trans hc
        have B2 := bgo hb hb2
        have z2 : w.heap.size < w2.heap.size := Nat.lt_of_lt_of_le hz hb2.size
        clear hb2 hPI hc
        cases ok
        · have hf := hid (hbadf.out hone)
          clear hone
          go_wp2
          go_ret2
          exact ⟨by rw [hf.out]; rfl, B2⟩
        · cases hE : isEl l x
          · rw [hE] at hone
            have hf := hid (hbadf.out hone)
            replace hE := hid hE
            clear hone
            go_wp2_with fail
            refine (sl2Is_at hE.out ((hr.below B2).more B2.size) (by omega)).mono ?_
            rintro e w3 ⟨rfl, hb3⟩
            go_wp2
            go_ret2
            exact ⟨by rw [hf.out]; rfl, bgo B2 hb3⟩
          · rw [hE] at hone
            obtain ⟨K, rfl⟩ := Int.eq_ofNat_of_zero_le (isEl.bd hE).1
            have hK : K < 24 := by
              have h1 := isEl.bd hE
              have h2 := isGroup.prod (isEl.group hE)
              omega
            obtain ⟨TT, C, hT', hT2, hC, hC2, hor, _⟩ := so_step hA.out hK
            simp only [Bool.and_self, if_true, Int.toNat_natCast] at hone
            rw [← hC] at hone
            replace hone := hid hone
            replace hE := hid hE
            replace hC2 := hid hC2
            replace hC := hid hC
            have hwT : IntKind.i64.wrap (TT : Int) = TT := IntWalk.i64_in _ (by omega)
            clear hbadf
            go_wp2_with fail
            refine (sl2Is_at hE.out ((hr.below B2).more B2.size) (by omega)).mono ?_
            rintro e w3 ⟨rfl, hb3⟩
            go_wp2
            go_roundw
            case rel => exact ⟨k + 1, C, by omega, by go_num, by rw [← hor], by rw [hst3.out]; rfl, hC2, by rw [hst1.out]; exact hone, bgo B2 hb3, Nat.lt_of_lt_of_le z2 hb3.size, (hb3.cell (p := ⟨w.heap.size, 0, none⟩) z2).trans c2⟩
            case measure => first | (simp [intOf]; done) | (simp [intOf]; omega)
      · have qx : ((s[k].toNat : Int) == 44) = false := beq_eq_false_iff_ne.2 he
        unfold cutF at hst
        rw [if_neg he] at hst
        have had := add_strs (P := Try.prog) (cutS 44 (T.take k)).2 [(s[k].toNat : Int)] (by simp; omega)
        have hst1 := hid (congrArg Prod.fst hst)
        have hst2 := hid (congrArg Prod.snd hst)
        clear hst hcB hTg hpre hls
        go_wp2
        go_roundw
        case rel => exact ⟨k + 1, A, by omega, by go_num, rfl, by rw [hst2.out], hA, by rw [hst1.out]; exact hps, hb, hz, hc⟩
        case measure => first | (simp [intOf]; done) | (simp [intOf]; omega)
    · by_cases hke : k = s.size
      · subst hke
        have hst := cutS_take 44 T s.size (by rw [hTl.out]; omega)
        rw [hTz.out] at hst
        have he : (44 : Int) = 44 := rfl
        have hst2 := hst
        unfold cutF at hst2
        rw [if_pos he] at hst2
        have hPI := hid fun w => sParse_nums (cutS 44 (T.take s.size)).2 w hcB (by omega)
        obtain ⟨E, hE⟩ := hpre.out (s.size + 1)
        obtain ⟨D, hD⟩ : ∃ D, D = cutS 44 (T.take s.size) := ⟨_, rfl⟩
        rw [← hD] at hst2 hPI hps hls
        rw [← hD]
        have hst1 := congrArg Prod.fst hst2
        have hone := psTo_snoc (l := l) (u := D.2) hps.out
        have hbadf := hid fun h : psTo l (D.1 ++ [D.2]) 0 = none => hnone.out (by rw [hE, hst1, psTo_append, h]; rfl)
        have hst3 := hid (congrArg Prod.snd hst2)
        replace hst1 := hid hst1
        obtain ⟨x, hx⟩ : ∃ x, x = (parseR D.2).1 := ⟨_, rfl⟩
        obtain ⟨ok, hok⟩ : ∃ ok, ok = (parseR D.2).2 := ⟨_, rfl⟩
        rw [← hx, ← hok] at hPI hone
        clear hst hst2 hD hcB he hls hE hx hok hps
        go_wp2_with fail
        refine (hPI.out _).mono ?_
        rintro e w2 ⟨rfl, hb2⟩
        have c2 := (hb2.cell (p := ⟨w.heap.size, 0, none⟩) hz).trans hc
        have B2 := bgo hb hb2
        have z2 : w.heap.size < w2.heap.size := Nat.lt_of_lt_of_le hz hb2.size
        clear hb2 hPI hc
        cases ok
        · have hf := hid (hbadf.out hone)
          clear hone
          go_wp2
          go_ret2
          exact ⟨by rw [hf.out]; rfl, B2⟩
        · cases hE : isEl l x
          · rw [hE] at hone
            have hf := hid (hbadf.out hone)
            replace hE := hid hE
            clear hone
            go_wp2_with fail
            refine (sl2Is_at hE.out ((hr.below B2).more B2.size) (by omega)).mono ?_
            rintro e w3 ⟨rfl, hb3⟩
            go_wp2
            go_ret2
            exact ⟨by rw [hf.out]; rfl, bgo B2 hb3⟩
          · rw [hE] at hone
            obtain ⟨K, rfl⟩ := Int.eq_ofNat_of_zero_le (isEl.bd hE).1
            have hK : K < 24 := by
              have h1 := isEl.bd hE
              have h2 := isGroup.prod (isEl.group hE)
              omega
            obtain ⟨TT, C, hT', hT2, hC, hC2, hor, _⟩ := so_step hA.out hK
            simp only [Bool.and_self, if_true, Int.toNat_natCast] at hone
            rw [← hC] at hone
            replace hone := hid hone
            replace hE := hid hE
            replace hC2 := hid hC2
            replace hC := hid hC
            have hwT : IntKind.i64.wrap (TT : Int) = TT := IntWalk.i64_in _ (by omega)
            clear hbadf
            go_wp2_with fail
            refine (sl2Is_at hE.out ((hr.below B2).more B2.size) (by omega)).mono ?_
            rintro e w3 ⟨rfl, hb3⟩
            go_wp2
            go_roundw
            case rel => exact ⟨s.size + 1, C, by omega, by go_num, by rw [← hor], by rw [hst3.out]; rfl, hC2, by rw [hst1.out]; exact hone, bgo B2 hb3, Nat.lt_of_lt_of_le z2 hb3.size, (hb3.cell (p := ⟨w.heap.size, 0, none⟩) z2).trans c2⟩
            case measure => first | (simp [intOf]; done) | (simp [intOf]; omega)
      · obtain rfl : k = s.size + 1 := by omega
        have e1 : T.take (s.size + 1) = T := List.take_of_length_le (by rw [hTl.out]; omega)
        rw [e1] at hps ⊢
        have hA' := hA.out
        have hcmp := eq_whole (fsE l A) (isB_fsE l A) s
        have hyes' := hid (hyes.out A hps.out)
        have hno' := hid (hno.out A hps.out)
        obtain ⟨P, hP⟩ : ∃ P, P = (cutS 44 T).2 := ⟨_, rfl⟩
        rw [← hP]
        have hF := hid fun w h => sFormatSet_any v l A w h hn (by omega)
        clear hls hcB hTl hTg hTz hTB hpre hnone hyes hno hps e1 hP
        by_cases hf : fsE l A = sI s
        · have hVV := hid (hyes'.out hf)
          rw [decide_eq_true hf] at hcmp
          replace hf := hid hf
          go_wp2_with fail
          refine (hF.out _ ((hr.below hb).more hb.size)).mono ?_
          rintro e w3 ⟨rfl, hb3⟩
          go_wp2
          go_ret2
          exact ⟨by rw [hVV.out]; rfl, bgo hb hb3⟩
        · have hVV := hid (hno'.out hf)
          rw [decide_eq_false hf] at hcmp
          replace hf := hid hf
          go_wp2_with fail
          refine (hF.out _ ((hr.below hb).more hb.size)).mono ?_
          rintro e w3 ⟨rfl, hb3⟩
          go_wp2
          go_ret2
          exact ⟨by rw [hVV.out]; rfl, bgo hb hb3⟩
theorem sParseSet_any (v : Value) (l : List Int) (s : ByteArray) (w : World) (hr : Rd w w.heap.size .i64 v l) (hn : l.length ≤ 1048576) (hs : s.size ≤ 1048576) :
    Calls Try.prog 55 #[.agg #[v], .string s] w fun e w' => e = .returned (.tuple #[.int .i64 (psE l (sI s)).1, .bool (psE l (sI s)).2]) ∧ Below w.heap.size w w' := by
  by_cases h1 : sI s = noneT
  · exact sParseSet_none v l s w hr hn h1
  · by_cases hb : s.size ≤ 80
    · exact sParseSet_small v l s w hr hn hb h1
    · exact sParseSet_big v l s w hr hn hs (by omega)
end Go.Proofs.Ytknbfohmobjplab
