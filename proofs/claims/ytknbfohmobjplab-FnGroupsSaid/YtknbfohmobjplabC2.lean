/- What the program's ParseGroup computes. Conditions: texts of at most 2^20 bytes. -/
import Derived.Test.YtknbfohmobjplabC1
import Derived.Test.YtknbfohmobjplabT4
import Derived.Test.YtknbfohmobjplabMKt
import Derived.Deep.RegionHeld3
namespace Go.Proofs.Ytknbfohmobjplab
set_option linter.unusedVariables false
set_option linter.unusedSimpArgs false
open Go.RowKit

theorem sI_nums {t : List Int} (h : IsB t) : sI (strOfNums t) = t := by
  show bI (strOfNums t).data.toList = t
  rw [show (strOfNums t).data.toList = toB t from by rw [← toList_strOfNums]; obtain ⟨⟨d⟩⟩ := strOfNums t; rw [ByteArray.toList_mk]]
  exact bI_toB t h
theorem isB_sub {s : ByteArray} {t : List Int} (h : ∀ x ∈ t, x ∈ sI s) : IsB t := fun x hx => isB_sI s x (h x hx)
/-- the numbers that the parts of a text tell -/
def pgO (b : Int) (t : List Int) : List Int := (cutP b t).map fun u => (parseR u).1
/-- the group that a text tells -/
def pgL (t : List Int) : List Int := if t = [49] then [] else pgO 120 t
def pgE (t : List Int) : List Int × Bool := if t ≠ [] ∧ fgE (pgL t) = t then (pgL t, true) else ([], false)
theorem pgE_no {t : List Int} (h : fgE (pgL t) ≠ t) : pgE t = ([], false) := if_neg fun h' => h h'.2
theorem pgE_nil : pgE [] = ([], false) := if_neg fun h' => h'.1 rfl
theorem pgE_yes {t : List Int} (h1 : t ≠ []) (h : fgE (pgL t) = t) : pgE t = (pgL t, true) := if_pos ⟨h1, h⟩
theorem iFormatGroup_all (v : Value) (l : List Int) (w : World) (hr : Rd w w.heap.size .i64 v l) (hn : l.length ≤ 1073741824) :
    Calls Try.prog 19 #[.agg #[v]] w fun e w' => e = .returned (.string (strOfNums (fgE l))) ∧ Below w.heap.size w w' := by
  by_cases hm : l.length ≤ 1048576
  · exact iFormatGroup_any v l w hr hm
  · have hE : isGroup l = false := by
      cases h : isGroup l with
      | false => rfl
      | true => have := isGroup.len h; omega
    rw [fgE_no hE]
    have hI := hid fun w h => hE ▸ iIsGroup_any v l w h hn
    have hr0 := hid hr
    obtain ⟨ao, cap, rfl, _, _, hrd⟩ := hr
    clear hrd hE
    go_enter Try.func19, Try.ntmps19
    go_wp2_with fail
    refine (hI.out _ ((hr0.out.alloc (Nat.le_refl _) _).more (by go_size))).mono ?_
    rintro e w1 ⟨rfl, hb1⟩
    have D1 : Below w.heap.size w w1 := by refine Below.trans ?_ (hb1.mono ?_) <;> go_grown
    have hz1 : w.heap.size < w1.heap.size := by have := hb1.size; simp at this; omega
    obtain ⟨hc1, hf1⟩ := bcell hb1
    go_wp2
    go_ret
    exact ⟨rfl, D1⟩
theorem iParse_nums (t : List Int) (w : World) (hb : IsB t) (hl : t.length ≤ 1099511627776) :
    Calls Try.prog 79 #[.string (strOfNums t)] w fun e w' => e = .returned (.tuple #[.int .i64 (parseR t).1, .bool (parseR t).2]) ∧ Below w.heap.size w w' := by
  have h := iParseInt_any (strOfNums t) w (by rw [strOfNums_size]; exact hl)
  rw [sI_nums hb] at h
  exact h
theorem pgO_take (ss : List (List Int)) (k : Nat) (hk : k < ss.length) : (ss.map fun u => (parseR u).1).take (k + 1) = (ss.map fun u => (parseR u).1).take k ++ [(parseR ss[k]).1] := by
  rw [← List.take_append_getElem (by rw [List.length_map]; exact hk), List.getElem_map]

theorem grown_refl (a : World) (row : Option Nat) : a.grownBy a row := ⟨rfl, rfl, rfl, Nat.le_refl _, fun _ _ _ => rfl⟩
theorem grown_below {a b c : World} {row : Option Nat} (h1 : a.grownBy b row) (h2 : Below a.heap.size b c) : a.grownBy c row :=
  ⟨h2.os.trans h1.os, h2.tape.trans h1.tape, h2.output.trans h1.output, Nat.le_trans h1.size h2.size, fun k hk hne => (h2.block k hk).trans (h1.block k hk hne)⟩
theorem frozen_far {w w' : World} {row : Option Nat} (hg : w.grownBy w' row) (a : Addr) (hlt : a.block < w.heap.size) (hne : some a.block ≠ row) : w'.frozen? a = w.frozen? a := World.frozen?_of_block (w := w) (hg.block a.block hlt hne)
theorem isB_joinL {b : List Int} (hb : IsB b) : ∀ (ss : List (List Int)), (∀ t ∈ ss, IsB t) → IsB (joinL b ss) := by
  intro ss
  induction ss with
  | nil => intro _; exact isB_nil
  | cons x r ih =>
    intro h
    cases r with
    | nil => exact h x (by simp)
    | cons y r => exact isB_append (h x (by simp)) (isB_append hb (ih fun t ht => h t (by simp [ht])))
theorem isB_joinI {b : Int} (hb : 0 ≤ b ∧ b ≤ 255) (l : List Int) : IsB (joinI b l) := isB_joinL (isB_cons hb isB_nil) _ fun t ht => by
  obtain ⟨x, _, rfl⟩ := List.mem_map.1 ht
  exact fmtI_isB x
theorem isB_fgE (l : List Int) : IsB (fgE l) := by
  unfold fgE
  split
  · split
    · exact isB_cons (by decide) isB_nil
    · exact isB_joinI (by decide) l
  · exact isB_nil
theorem s_list (s : ByteArray) (l : List Int) (hl : IsB l) : (s.toList == toB l) = decide (sI s = l) := by
  have h := eq_whole l hl s
  rw [toList_strOfNums] at h
  rw [Bool.eq_iff_iff, beq_iff_eq, decide_eq_true_iff] at h ⊢
  exact ⟨fun e => (h.1 e.symm).symm, fun e => (h.2 e.symm).symm⟩
theorem s_empty (s : ByteArray) : s.toList.isEmpty = decide (sI s = []) := by
  rw [← s_list s [] isB_nil]
  show _ = (s.toList == [])
  cases s.toList <;> rfl
theorem s_one (s : ByteArray) : (s.toList == [49]) = decide (sI s = [49]) := s_list s [49] (isB_cons (by decide) isB_nil)
set_option maxRecDepth 100000 in
theorem iParseGroup_some (s : ByteArray) (w : World) (hs : s.size ≤ 1048576) (h1 : sI s ≠ [49]) :
    Calls Try.prog 20 #[.string s] w fun e w' => (∃ ao cap, e = .returned (.tuple #[.agg #[.slice ao (pgE (sI s)).1.length cap], .bool (pgE (sI s)).2]) ∧ Own w' w.heap.size 3 .i64 (.slice ao (pgE (sI s)).1.length cap) (pgE (sI s)).1) ∧ Below w.heap.size w w' := by
  obtain ⟨f1, f2, f3⟩ := cutP_facts 120 (sI s)
  rw [sI_length] at f1 f3
  have hC := hid fun w => icut_any s 120 w hs (by decide)
  have hL : pgL (sI s) = (cutP 120 (sI s)).map fun u => (parseR u).1 := by unfold pgL; rw [if_neg h1]; rfl
  obtain ⟨V, hV⟩ : ∃ V, V = pgE (sI s) := ⟨_, rfl⟩
  have hno := hid fun h => hV.trans (pgE_no (t := sI s) h)
  have hyes := hid fun h0 h => hV.trans (pgE_yes (t := sI s) h0 h)
  have hnil := hid fun h0 : sI s = [] => show V = ([], false) from hV.trans (by rw [h0]; exact pgE_nil)
  rw [← hV]
  rw [hL] at hno hyes
  obtain ⟨ss, hss⟩ : ∃ ss, ss = cutP 120 (sI s) := ⟨_, rfl⟩
  rw [← hss] at f1 f2 f3 hC hno hyes
  have hB := hid fun t ht => isB_sub (f3 t ht).2
  have hT := hid fun t ht => (f3 t ht).1
  obtain ⟨n, hN⟩ : ∃ n, n = ss.length := ⟨_, rfl⟩
  rw [← hN] at f1 f2
  replace hN := hid hN
  have q0 := s_empty s
  have q1 : (s.toList == [49]) = false := by rw [s_one]; exact decide_eq_false h1
  clear f3 hL hV hss h1
  go_enter Try.func20, Try.ntmps20
  go_wp2_with fail
  refine (hC.out _).mono ?_
  rintro e w1 ⟨⟨vs, rfl, hown⟩, hb1⟩
  obtain ⟨hc1, hf1⟩ := bcell hb1
  have D1 : Below w.heap.size w w1 := by refine Below.trans ?_ (hb1.mono ?_) <;> go_grown
  have hz1 : w.heap.size + 2 ≤ w1.heap.size := by have := hb1.size; simp at this; omega
  have c0 : w1.cell? ⟨w.heap.size, 0, none⟩ = some (.slice none 0 0) := by rw [hc1 _ _ (by go_size)]; simp [go_sem]
  have c1 : w1.cell? ⟨w.heap.size + 1, 0, none⟩ = some (.slice none 0 0) := by rw [hc1 _ _ (by go_size)]; simp [go_sem]
  have r0 : w1.frozen? ⟨w.heap.size, 0, none⟩ = false := by rw [hf1 _ _ (by go_size)]; simp [go_sem]
  have r1 : w1.frozen? ⟨w.heap.size + 1, 0, none⟩ = false := by rw [hf1 _ _ (by go_size)]; simp [go_sem]
  obtain ⟨aos, caps, rfl, _, _⟩ := hown.shape
  have hcl := hid fun h => hown.cells h
  rw [show ss.length = n from hN.out.symm]
  clear hown hb1 hc1 hf1 hC
  go_wp2
  go_loopw [15] (fun i wr => ∃ (k : Nat) (v : Value), k ≤ n ∧ i = .int .i64 k ∧ wr.cell? ⟨w.heap.size + 1, 0, none⟩ = some v ∧ wr.frozen? ⟨w.heap.size + 1, 0, none⟩ = false ∧ Own wr w1.heap.size 3 .i64 v ((ss.map fun u => (parseR u).1).take k) ∧ w1.grownBy wr (some (w.heap.size + 1))) (fun i _ => n - (intOf i).toNat)
  case atStart => exact ⟨0, _, by omega, rfl, c1, r1, Own.none_ _ _ _ _, grown_refl _ _⟩
  case round =>
    obtain ⟨k, v, hk, rfl, cv, rv, hown, hg⟩ := hrel
    have hgs := hg.size
    by_cases hlt : k < n
    · have hj : k < ss.length := by rw [← hN.out]; omega
      obtain ⟨b, rfl, hb0, hb1, _, hcell⟩ := hcl.out (by omega)
      have hb3 : w.heap.size + 1 < b := by simp at hb0; omega
      have hcm := hcell k hj
      rw [← cell_far hg ⟨b, k, none⟩ hb1 (by simp; omega)] at hcm
      have hP := hid fun w => iParse_nums ss[k] w (hB.out _ (List.getElem_mem hj)) (by have := hT.out _ (List.getElem_mem hj); omega)
      have hsn := pgO_take ss k hj
      obtain ⟨x, hx⟩ : ∃ x, x = ss[k] := ⟨_, rfl⟩
      rw [← hx] at hcm hP hsn
      have hml : ((ss.map fun u => (parseR u).1).take k).length ≤ 1048577 := by rw [List.length_take, List.length_map]; omega
      clear hcell hx
      go_wp2_with fail
      refine (hP.out _).mono ?_
      rintro e w2 ⟨rfl, hb2⟩
      have hown2 := hown.below hb2
      have sz2 := hb2.size
      have cv2 := (hb2.cell (p := ⟨w.heap.size + 1, 0, none⟩) (show w.heap.size + 1 < wr.heap.size by omega)).trans cv
      have rv2 := (hb2.frozen (p := ⟨w.heap.size + 1, 0, none⟩) (show w.heap.size + 1 < wr.heap.size by omega)).trans rv
      have hg2 := grown_trans hg (below_grown hb2 _)
      clear hown hb2 cv rv hg hcm
      go_wp2_with (at_builtin; refine app1 rfl _ _ rfl Try.underlying24 info_int (by decide) rfl hown2 rfl (by omega) (by omega) ?_)
      intro v' w' hown' hb' hgr'
      rw [← hsn] at hown'
      obtain ⟨ao', cap', rfl, _, _⟩ := hown'.shape
      obtain ⟨m', hm'⟩ : ∃ m', m' = ((ss.map fun u => (parseR u).1).take (k + 1)).length := ⟨_, rfl⟩
      rw [← hm'] at hown' ⊢
      clear hm'
      have sz3 := hb'.size
      have cv3 := (hb'.cell (p := ⟨w.heap.size + 1, 0, none⟩) (show w.heap.size + 1 < w1.heap.size by omega)).trans cv2
      have rv3 := (hb'.frozen (p := ⟨w.heap.size + 1, 0, none⟩) (show w.heap.size + 1 < w1.heap.size by omega)).trans rv2
      go_wp2
      go_roundw
      case rel => exact ⟨k + 1, _, by omega, by go_num, by simp [go_sem, cv3], by simp [go_sem, rv3], hown'.under (show w.heap.size + 1 < w1.heap.size by omega) _, grown_trans (grown_below hg2 hb') grown_set⟩
      case measure => simp [intOf]; omega
    · have hfin := List.take_of_length_le (l := ss.map fun u => (parseR u).1) (i := k) (by rw [List.length_map, ← hN.out]; omega)
      rw [hfin] at hown
      obtain ⟨O, hO⟩ : ∃ O, O = ss.map fun u => (parseR u).1 := ⟨_, rfl⟩
      have hOl : O.length = n := by rw [hO, List.length_map]; exact hN.out.symm
      rw [← hO] at hown hno hyes
      have hF := hid fun v w h => iFormatGroup_all v O w h (by omega)
      obtain ⟨ao, cap, rfl, _, _⟩ := hown.shape
      have hcmp := eq_whole (fgE O) (isB_fgE O) s
      have e0 := (cell_far hg ⟨w.heap.size, 0, none⟩ (show w.heap.size < w1.heap.size by omega) (by simp)).trans c0
      have s0 := (frozen_far hg ⟨w.heap.size, 0, none⟩ (show w.heap.size < w1.heap.size by omega) (by simp)).trans r0
      have DD : Below w.heap.size w wr := D1.grown hg (by omega) fun g hg => by have := Option.some.inj hg; omega
      have zr : w.heap.size + 1 < wr.heap.size := by omega
      clear hcl hO hg hB hT hfin c0 c1 r0 r1
      by_cases h0 : sI s = []
      · have hVV := hnil.out h0
        subst hVV
        rw [decide_eq_true h0] at q0
        replace h0 := hid h0
        clear hno hyes hnil hcmp hF hown
        go_wp2
        refine bodyPost_ret (v := .tuple #[.agg #[.slice none 0 0], .bool false]) (by simp [results, Try.results20, go_sem, e0]) rfl ?_
        exact ⟨⟨_, _, rfl, Own.none_ _ _ _ _⟩, DD.setCell (Nat.le_refl _) _⟩
      rw [decide_eq_false h0] at q0
      replace hyes := hid (hyes.out h0)
      clear hnil
      replace h0 := hid h0
      by_cases hf : fgE O = sI s
      · have hVV := hyes.out hf
        subst hVV
        rw [decide_eq_true hf] at hcmp
        replace hf := hid hf
        clear hno hyes
        go_wp2_with fail
        refine (hF.out _ _ (hOl ▸ Rd.of_own hown)).mono ?_
        rintro e w6 ⟨rfl, hb6⟩
        have e6 := (hb6.cell (p := ⟨w.heap.size, 0, none⟩) (show w.heap.size < wr.heap.size by omega)).trans e0
        have s6 := (hb6.frozen (p := ⟨w.heap.size, 0, none⟩) (show w.heap.size < wr.heap.size by omega)).trans s0
        have c6 := (hb6.cell (p := ⟨w.heap.size + 1, 0, none⟩) zr).trans cv
        have hown6 := hown.below hb6
        have D6 := bgo DD hb6
        clear hown hb6 e0 s0 cv hF
        go_wp2
        rw [hOl] at hown6
        refine bodyPost_ret (v := .tuple #[.agg #[.slice ao n cap], .bool true]) (by simp [results, Try.results20, go_sem, e6]) rfl ?_
        exact ⟨⟨_, _, rfl, (hown6.under (show w.heap.size < w1.heap.size by omega) _).lower (by omega)⟩, D6.setCell (Nat.le_refl _) _⟩
      · have hVV := hno.out hf
        subst hVV
        rw [decide_eq_false hf] at hcmp
        replace hf := hid hf
        clear hno hyes
        go_wp2_with fail
        refine (hF.out _ _ (hOl ▸ Rd.of_own hown)).mono ?_
        rintro e w6 ⟨rfl, hb6⟩
        have e6 := (hb6.cell (p := ⟨w.heap.size, 0, none⟩) (show w.heap.size < wr.heap.size by omega)).trans e0
        have s6 := (hb6.frozen (p := ⟨w.heap.size, 0, none⟩) (show w.heap.size < wr.heap.size by omega)).trans s0
        have c6 := (hb6.cell (p := ⟨w.heap.size + 1, 0, none⟩) zr).trans cv
        have D6 := bgo DD hb6
        clear hown hb6 e0 s0 cv hF
        go_wp2
        refine bodyPost_ret (v := .tuple #[.agg #[.slice none 0 0], .bool false]) (by simp [results, Try.results20, go_sem, e6]) rfl ?_
        exact ⟨⟨_, _, rfl, Own.none_ _ _ _ _⟩, D6.setCell (Nat.le_refl _) _⟩
set_option maxRecDepth 100000 in
theorem iParseGroup_any (s : ByteArray) (w : World) (hs : s.size ≤ 1048576) :
    Calls Try.prog 20 #[.string s] w fun e w' => (∃ ao cap, e = .returned (.tuple #[.agg #[.slice ao (pgE (sI s)).1.length cap], .bool (pgE (sI s)).2]) ∧ Own w' w.heap.size 3 .i64 (.slice ao (pgE (sI s)).1.length cap) (pgE (sI s)).1) ∧ Below w.heap.size w w' := by
  by_cases h1 : sI s = [49]
  · have q1 : (s.toList == [49]) = true := by rw [s_one]; exact decide_eq_true h1
    have q0 : s.toList.isEmpty = false := by rw [s_empty]; exact decide_eq_false (by rw [h1]; simp)
    have hcmp : ((strOfNums [49]).toList == s.toList) = true := by rw [eq_whole [49] (isB_cons (by decide) isB_nil) s]; exact decide_eq_true h1.symm
    have hF := hid fun w h => iFormatGroup_all (.slice none 0 0) [] w h (by simp)
    have hE : pgE [49] = ([], true) := rfl
    rw [h1, hE]
    replace h1 := hid h1
    clear hE
    go_enter Try.func20, Try.ntmps20
    go_wp2_with fail
    refine (hF.out _ (Rd.nil _ _ _)).mono ?_
    rintro e w6 ⟨rfl, hb6⟩
    obtain ⟨hc6, hf6⟩ := bcell hb6
    have D6 : Below w.heap.size w w6 := by refine Below.trans ?_ (hb6.mono ?_) <;> go_grown
    have e6 : w6.cell? ⟨w.heap.size, 0, none⟩ = some (.slice none 0 0) := by rw [hc6 _ _ (by go_size)]; simp [go_sem]
    have s6 : w6.frozen? ⟨w.heap.size, 0, none⟩ = false := by rw [hf6 _ _ (by go_size)]; simp [go_sem]
    have c6 : w6.cell? ⟨w.heap.size + 1, 0, none⟩ = some (.slice none 0 0) := by rw [hc6 _ _ (by go_size)]; simp [go_sem]
    rw [show fgE [] = [49] from rfl]
    clear hc6 hf6 hb6 hF
    go_wp2
    refine bodyPost_ret (v := .tuple #[.agg #[.slice none 0 0], .bool true]) (by simp [results, Try.results20, go_sem, e6]) rfl ?_
    exact ⟨⟨_, _, rfl, Own.none_ _ _ _ _⟩, D6.setCell (Nat.le_refl _) _⟩
  · exact iParseGroup_some s w hs h1
end Go.Proofs.Ytknbfohmobjplab
