/- What the program's ParseSet computes. Conditions: at most 2^20 orders, texts of at most 2^20 bytes. -/
import Derived.Test.YtknbfohmobjplabC4
import Derived.Test.YtknbfohmobjplabG9
import Derived.Test.YtknbfohmobjplabT5
namespace Go.Proofs.Ytknbfohmobjplab
set_option linter.unusedVariables false
set_option linter.unusedSimpArgs false
open Go.RowKit

/-- the set that some parts tell, on top of A -/
def psTo (l : List Int) : List (List Int) → Nat → Option Nat
  | [], A => some A
  | u :: r, A => if (parseR u).2 && isEl l (parseR u).1 then psTo l r (A ||| 2 ^ (parseR u).1.toNat) else none
theorem psTo_drop {l : List Int} {ss : List (List Int)} {k : Nat} (hk : k < ss.length) (A : Nat) :
    psTo l (ss.drop k) A = if (parseR ss[k]).2 && isEl l (parseR ss[k]).1 then psTo l (ss.drop (k + 1)) (A ||| 2 ^ (parseR ss[k]).1.toNat) else none := by
  rw [List.drop_eq_getElem_cons hk, psTo]
theorem psTo_end {l : List Int} {ss : List (List Int)} {k : Nat} (hk : ss.length ≤ k) (A : Nat) : psTo l (ss.drop k) A = some A := by
  rw [List.drop_eq_nil_of_le hk]; rfl
def noneT : List Int := [110, 111, 110, 101]
/-- the set that a text tells -/
def psE (l t : List Int) : Int × Bool := if t = noneT then (0, isGroup l) else match psTo l (cutP 44 t) 0 with | none => (0, false) | some A => if fsE l A = t then ((A : Int), true) else (0, false)
theorem psE_none {l t : List Int} (h1 : t ≠ noneT) (h : psTo l (cutP 44 t) 0 = none) : psE l t = (0, false) := by unfold psE; rw [if_neg h1, h]
theorem psE_yes {l t : List Int} {A : Nat} (h1 : t ≠ noneT) (h : psTo l (cutP 44 t) 0 = some A) (hf : fsE l A = t) : psE l t = ((A : Int), true) := by unfold psE; rw [if_neg h1, h]; exact if_pos hf
theorem psE_no {l t : List Int} {A : Nat} (h1 : t ≠ noneT) (h : psTo l (cutP 44 t) 0 = some A) (hf : fsE l A ≠ t) : psE l t = (0, false) := by unfold psE; rw [if_neg h1, h]; exact if_neg hf
theorem psTo_nil {l t : List Int} {A : Nat} (h : psTo l (cutP 44 t) 0 = some A) : t ≠ [] := by
  rintro rfl
  have e : psTo l (cutP 44 []) 0 = none := rfl
  rw [e] at h
  cases h
theorem isB_nums (l : List Int) : IsB (nums l) := by
  unfold nums
  split
  · exact isB_cons (by decide) (isB_cons (by decide) (isB_cons (by decide) (isB_cons (by decide) isB_nil)))
  · exact isB_joinI (by decide) l
theorem isB_fsE (l : List Int) (a : Int) : IsB (fsE l a) := by
  unfold fsE
  split
  · exact isB_nums _
  · exact isB_nil
theorem isB_noneT : IsB noneT := isB_cons (by decide) (isB_cons (by decide) (isB_cons (by decide) (isB_cons (by decide) isB_nil)))
theorem s_none (s : ByteArray) : (s.toList == [110, 111, 110, 101]) = decide (sI s = noneT) := s_list s noneT isB_noneT
theorem fsE_zero (l : List Int) : fsE l 0 = if isGroup l then noneT else [] := by
  cases hg : isGroup l with
  | false => exact fsE_no (isSet_no hg)
  | true =>
    have hz : isSet l ((0 : Nat) : Int) = true := (isSet_nat hg 0).2 (by have := (topOf_bd hg).1; omega)
    rw [if_pos rfl]
    exact fsE_yes hz
set_option maxRecDepth 100000 in
set_option maxHeartbeats 1600000 in
theorem iParseSet_some (v : Value) (l : List Int) (s : ByteArray) (w : World) (hr : Rd w w.heap.size .i64 v l) (hn : l.length ≤ 1048576) (hs : s.size ≤ 1048576) (h1 : sI s ≠ noneT) :
    Calls Try.prog 40 #[.agg #[v], .string s] w fun e w' => e = .returned (.tuple #[.int .i64 (psE l (sI s)).1, .bool (psE l (sI s)).2]) ∧ Below w.heap.size w w' := by
  obtain ⟨f1, f2, f3⟩ := cutP_facts 44 (sI s)
  rw [sI_length] at f1 f3
  have hC := hid fun w => icut_any s 44 w hs (by decide)
  obtain ⟨V, hV⟩ : ∃ V, V = psE l (sI s) := ⟨_, rfl⟩
  have hnone := hid fun h => hV.trans (psE_none h1 h)
  have hyes := hid fun A h hf => hV.trans (@psE_yes l (sI s) A h1 h hf)
  have hno := hid fun A h hf => hV.trans (@psE_no l (sI s) A h1 h hf)
  have hne := hid fun A h => @psTo_nil l (sI s) A h
  rw [← hV]
  obtain ⟨ss, hss⟩ : ∃ ss, ss = cutP 44 (sI s) := ⟨_, rfl⟩
  rw [← hss] at f1 f2 f3 hC hnone hno hyes hne
  have hB := hid fun t ht => isB_sub (f3 t ht).2
  have hT := hid fun t ht => (f3 t ht).1
  obtain ⟨n, hN⟩ : ∃ n, n = ss.length := ⟨_, rfl⟩
  rw [← hN] at f1 f2
  replace hN := hid hN
  have q0 := s_empty s
  have q1 : (s.toList == [110, 111, 110, 101]) = false := by rw [s_none]; exact decide_eq_false h1
  clear f3 hV hss h1
  go_enter Try.func40, Try.ntmps40
  go_wp2_with fail
  refine (hC.out _).mono ?_
  rintro e w1 ⟨⟨vs, rfl, hown⟩, hb1⟩
  obtain ⟨hc1, hf1⟩ := bcell hb1
  have D1 : Below w.heap.size w w1 := by refine Below.trans ?_ (hb1.mono ?_) <;> go_grown
  have hz1 : w.heap.size < w1.heap.size := by have := hb1.size; simp at this; omega
  have c1 : w1.cell? ⟨w.heap.size, 0, none⟩ = some v := by rw [hc1 _ _ (by go_size)]; simp [go_sem]
  obtain ⟨aos, caps, rfl, _, _⟩ := hown.shape
  have hcl := hid fun h => hown.cells h
  rw [show ss.length = n from hN.out.symm]
  clear hown hb1 hc1 hf1 hC
  go_wp2
  go_loopw [6, 16] (fun a i wr => ∃ k A : Nat, k ≤ n ∧ i = .int .i64 k ∧ a = .int .i64 (A : Int) ∧ Hid (A < 16777216) ∧ Hid (psTo l (ss.drop k) A = psTo l ss 0) ∧ Below w1.heap.size w1 wr) (fun _ i _ => n - (intOf i).toNat)
  case atStart => exact ⟨0, 0, by omega, rfl, rfl, (by decide : 0 < 16777216), rfl, Below.refl _ _⟩
  case round =>
    obtain ⟨k, A, hk, rfl, rfl, hA, hso, hb⟩ := hrel
    have hc := (hb.cell (p := ⟨w.heap.size, 0, none⟩) hz1).trans c1
    have B1 := bgo D1 hb
    have zr : w.heap.size < wr.heap.size := Nat.lt_of_lt_of_le hz1 hb.size
    by_cases hlt : k < n
    · have hj : k < ss.length := by rw [← hN.out]; omega
      obtain ⟨b, rfl, hb0, hb1, _, hcell⟩ := hcl.out (by omega)
      have hcm := (hb.cell (p := ⟨b, k, none⟩) hb1).trans (hcell k hj)
      have hP := hid fun w => iParse_nums ss[k] w (hB.out _ (List.getElem_mem hj)) (by have := hT.out _ (List.getElem_mem hj); omega)
      have hst := psTo_drop (l := l) hj A
      rw [hso.out] at hst
      obtain ⟨u, hu⟩ : ∃ u, u = ss[k] := ⟨_, rfl⟩
      rw [← hu] at hcm hP hst
      obtain ⟨x, hx⟩ : ∃ x, x = (parseR u).1 := ⟨_, rfl⟩
      obtain ⟨ok, hok⟩ : ∃ ok, ok = (parseR u).2 := ⟨_, rfl⟩
      rw [← hx, ← hok] at hP hst
      clear hcell hu hx hok
      go_wp2_with fail
      refine (hP.out _).mono ?_
      rintro e w2 ⟨rfl, hb2⟩
      have sz2 := hb2.size
      have cv2 := (hb2.cell (p := ⟨w.heap.size, 0, none⟩) zr).trans hc
      have B2 := bgo B1 hb2
      have E2 := bgo hb hb2
      have z2 : w.heap.size < w2.heap.size := by omega
      clear hb2 hc hcm hP
      cases ok
      · have hf := hid (hnone.out hst)
        clear hst
        go_wp2
        go_ret2
        exact ⟨by rw [hf.out]; rfl, B2⟩
      · cases hE : isEl l x
        · rw [hE] at hst
          have hf := hid (hnone.out hst)
          replace hE := hid hE
          clear hst
          go_wp2_with fail
          refine (ihas_at hE.out ((hr.below B2).more B2.size) (by omega)).mono ?_
          rintro e w3 ⟨rfl, hb3⟩
          go_wp2
          go_ret2
          exact ⟨by rw [hf.out]; rfl, bgo B2 hb3⟩
        · rw [hE] at hst
          obtain ⟨K, rfl⟩ := Int.eq_ofNat_of_zero_le (isEl.bd hE).1
          have hK : K < 24 := by
            have h1 := isEl.bd hE
            have h2 := isGroup.prod (isEl.group hE)
            omega
          obtain ⟨T, C, hT', hT2, hC, hC2, hor, _⟩ := so_step hA.out hK
          simp only [Bool.and_self, if_true, Int.toNat_natCast] at hst
          rw [← hC] at hst
          replace hst := hid hst.symm
          replace hE := hid hE
          replace hC2 := hid hC2
          replace hC := hid hC
          have hwT : IntKind.i64.wrap (T : Int) = T := IntWalk.i64_in _ (by omega)
          go_wp2_with fail
          refine (ihas_at hE.out ((hr.below B2).more B2.size) (by omega)).mono ?_
          rintro e w3 ⟨rfl, hb3⟩
          go_wp2
          go_roundw
          case rel => exact ⟨k + 1, C, by omega, by go_num, by rw [← hor], hC2, hst, bgo E2 hb3⟩
          case measure => simp [intOf]; omega
    · have hst := psTo_end (l := l) (ss := ss) (k := k) (by rw [← hN.out]; omega) A
      rw [hso.out] at hst
      have q0' := hne.out A hst
      rw [decide_eq_false q0'] at q0
      replace q0' := hid q0'
      have hA' := hA.out
      have hF := hid fun w h => iFormatSet_any v l A w h hn (by omega)
      have hcmp := eq_whole (fsE l A) (isB_fsE l A) s
      have hyes' := hid (hyes.out A hst)
      have hno' := hid (hno.out A hst)
      replace hst := hid hst
      clear hcl hB hT hnone hyes hno hne
      by_cases hf : fsE l A = sI s
      · have hVV := hid (hyes'.out hf)
        rw [decide_eq_true hf] at hcmp
        replace hf := hid hf
        go_wp2_with fail
        refine (hF.out _ ((hr.below B1).more B1.size)).mono ?_
        rintro e w3 ⟨rfl, hb3⟩
        go_wp2
        go_ret2
        exact ⟨by rw [hVV.out]; rfl, bgo B1 hb3⟩
      · have hVV := hid (hno'.out hf)
        rw [decide_eq_false hf] at hcmp
        replace hf := hid hf
        go_wp2_with fail
        refine (hF.out _ ((hr.below B1).more B1.size)).mono ?_
        rintro e w3 ⟨rfl, hb3⟩
        go_wp2
        go_ret2
        exact ⟨by rw [hVV.out]; rfl, bgo B1 hb3⟩
theorem iParseSet_any (v : Value) (l : List Int) (s : ByteArray) (w : World) (hr : Rd w w.heap.size .i64 v l) (hn : l.length ≤ 1048576) (hs : s.size ≤ 1048576) :
    Calls Try.prog 40 #[.agg #[v], .string s] w fun e w' => e = .returned (.tuple #[.int .i64 (psE l (sI s)).1, .bool (psE l (sI s)).2]) ∧ Below w.heap.size w w' := by
  by_cases h1 : sI s = noneT
  · have q1 : (s.toList == [110, 111, 110, 101]) = true := by rw [s_none]; exact decide_eq_true h1
    have q0 : s.toList.isEmpty = false := by rw [s_empty]; exact decide_eq_false (by rw [h1]; simp [noneT])
    have hE : psE l noneT = (0, isGroup l) := if_pos rfl
    have hcmp := eq_whole (fsE l 0) (isB_fsE l 0) s
    have hF := hid fun w h => iFormatSet_any v l 0 w h hn (by omega)
    rw [h1] at hcmp ⊢
    rw [hE]
    cases hg : isGroup l
    · rw [fsE_zero, hg] at hcmp hF
      rw [decide_eq_false (by simp [noneT])] at hcmp
      simp only [Bool.false_eq_true, if_false] at hcmp hF
      replace h1 := hid h1
      clear hE
      go_enter Try.func40, Try.ntmps40
      go_wp2_with fail
      refine (hF.out _ ((hr.alloc (Nat.le_refl _) _).more (by simp))).mono ?_
      rintro e w1 ⟨rfl, hb1⟩
      have D1 : Below w.heap.size w w1 := by refine Below.trans ?_ (hb1.mono ?_) <;> go_grown
      go_wp2
      go_ret2
      exact ⟨rfl, D1⟩
    · rw [fsE_zero, hg] at hcmp hF
      simp only [if_true, decide_true] at hcmp hF
      replace h1 := hid h1
      clear hE
      go_enter Try.func40, Try.ntmps40
      go_wp2_with fail
      refine (hF.out _ ((hr.alloc (Nat.le_refl _) _).more (by simp))).mono ?_
      rintro e w1 ⟨rfl, hb1⟩
      have D1 : Below w.heap.size w w1 := by refine Below.trans ?_ (hb1.mono ?_) <;> go_grown
      go_wp2
      go_ret2
      exact ⟨rfl, D1⟩
  · exact iParseSet_some v l s w hr hn hs h1
end Go.Proofs.Ytknbfohmobjplab
