/- Parts of the walk in one text: T1, T2, T3. Conditions: each theorem's own. -/
import Derived.Test.YtknbfohmobjplabMKt
import Derived.Test.YtknbfohmobjplabW3
import Derived.Test.YtknbfohmobjplabS3
import Derived.Test.YtknbfohmobjplabMGa
import Derived.Test.YtknbfohmobjplabMWa
namespace Go.Proofs.Ytknbfohmobjplab
set_option linter.unusedVariables false
set_option linter.unusedSimpArgs false
open Go.RowKit

theorem info_str : (Try.prog.info? 9).map (fun i => (i.zero, i.size, i.bytes)) = some (some (.string ByteArray.empty), 1, 16) := by kernel_rfl
theorem join_small {b : List Int} {ss : List (List Int)} (hb : b.length ≤ 1) (hs : ss.length ≤ 1048576) (ht : ∀ t ∈ ss, t.length ≤ 1023) : (joinL b ss).length ≤ 1073741824 := by
  have h1 := joinL_len b 1023 hb ss ht
  have h2 : ss.length * 1024 ≤ 1048576 * 1024 := Nat.mul_le_mul_right _ hs
  omega
theorem iglued_any (v : Value) (ss : List (List Int)) (b : List Int) (bs : ByteArray) (base : Nat) (w : World) (hbs : bs = strOfNums b) (hown : OwnS w base 9 v ss) (hb : b.length ≤ 1) (hs : ss.length ≤ 1048576) (ht : ∀ t ∈ ss, t.length ≤ 1023) :
    Calls Try.prog 77 #[v, .string bs] w fun e w' => e = .returned (.string (strOfNums (joinL b ss))) ∧ w = w' := by
  subst hbs
  obtain ⟨ao, cap, rfl, _, _⟩ := hown.shape
  obtain ⟨n, hN⟩ : ∃ n, n = ss.length := ⟨_, rfl⟩
  have hcl := hid fun h => hown.cells h
  rw [← hN] at hs ⊢
  obtain ⟨V, hV⟩ : ∃ V, V = joinL b ss := ⟨_, rfl⟩
  rw [← hV]
  replace hV := hid hV
  replace hN := hid hN
  replace ht := hid ht
  clear hown
  go_enter Try.func77, Try.ntmps77
  go_wp2
  go_loopw [5, 10] (fun s i wr => ∃ k : Nat, k ≤ n ∧ i = .int .i64 k ∧ s = .string (strOfNums (joinL b (ss.take k))) ∧ wr = w) (fun _ i _ => n - (intOf i).toNat)
  case atStart => exact ⟨0, by omega, rfl, rfl, rfl⟩
  case round =>
    obtain ⟨k, hk, rfl, rfl, rfl⟩ := hrel
    by_cases hlt : k < n
    · have hj : k < ss.length := by rw [← hN.out]; omega
      obtain ⟨g, rfl, hg1, hg2, _, hcell⟩ := hcl.out (by have := hN.out; omega)
      have hcm := hcell k hj
      have hJ := join_small (b := b) (ss := ss.take k) hb (by rw [List.length_take]; omega) (fun t h => ht.out t (List.mem_of_mem_take h))
      have htl := ht.out _ (List.getElem_mem hj)
      have hts : ss.take (k + 1) = ss.take k ++ [ss[k]] := by rw [List.take_append_getElem]
      have hsn := joinL_snoc b (ss.take k) ss[k]
      rw [← hts] at hsn
      obtain ⟨t, hT⟩ : ∃ t, t = ss[k] := ⟨_, rfl⟩
      rw [← hT] at hcm htl hts hsn
      by_cases h0 : k = 0
      · subst h0
        have hj1 : joinL b (ss.take 1) = t := by rw [hts]; rfl
        replace hj1 := hid hj1
        have ha1 := add_strs (P := Try.prog) [] t (by simp; omega)
        have hj0 : strOfNums (joinL b (ss.take 0)) = strOfNums [] := rfl
        rw [hj0]
        rw [List.nil_append] at ha1
        clear hcell hT hts hsn hj0
        go_wp2
        go_roundw
        case rel => exact ⟨1, by omega, by go_num, by rw [hj1.out], by trivial⟩
        case measure => simp [intOf]; omega
      · have hne : ss.take k ≠ [] := fun h => by
          have h2 : (ss.take k).length = 0 := by rw [h]; rfl
          rw [List.length_take] at h2
          omega
        have hsn2 := hid (hsn hne)
        obtain ⟨J, hJJ⟩ : ∃ J, J = joinL b (ss.take k) := ⟨_, rfl⟩
        rw [← hJJ] at hJ hsn2
        rw [← hJJ]
        have ha1 := add_strs (P := Try.prog) J b (by omega)
        have ha2 := add_strs (P := Try.prog) (J ++ b) t (by simp; omega)
        have z1 : decide ((k : Int) > 0) = true := decide_eq_true (by omega)
        have z2 : 0 < k := by omega
        clear hcell hT hts hsn hJJ h0
        go_wp2
        go_roundw
        case rel => exact ⟨k + 1, by omega, by go_num, by rw [hsn2.out, List.append_assoc], by trivial⟩
        case measure => simp [intOf]; omega
    · have hf : joinL b (ss.take k) = V := by rw [List.take_of_length_le (by rw [← hN.out]; omega), hV.out]
      rw [hf]
      go_wp2
      go_ret
      exact ⟨rfl, rfl⟩
/-- the texts of some numbers -/
def fmts (l : List Int) : List (List Int) := l.map fmtI
theorem fmts_len {l : List Int} {t : List Int} (h : t ∈ fmts l) : t.length ≤ 1023 := by
  obtain ⟨x, _, rfl⟩ := List.mem_map.1 h
  have := fmtI_length x
  omega
def joinI (b : Int) (l : List Int) : List Int := joinL [b] (fmts l)
end Go.Proofs.Ytknbfohmobjplab

namespace Go.Proofs.Ytknbfohmobjplab
set_option linter.unusedVariables false
set_option linter.unusedSimpArgs false
open Go.RowKit

def nums (l : List Int) : List Int := if l = [] then [110, 111, 110, 101] else joinI 44 l
theorem nums_cons {l : List Int} (h : 0 < l.length) : nums l = joinI 44 l := by
  unfold nums
  rw [if_neg]
  intro e
  rw [e] at h
  simp at h
def fsE (l : List Int) (a : Int) : List Int := if isSet l a then nums (memL a.toNat) else []
theorem fsE_no {l : List Int} {a : Int} (h : isSet l a = false) : fsE l a = [] := by unfold fsE; rw [h]; rfl
theorem fsE_yes {l : List Int} {A : Nat} (h : isSet l (A : Int) = true) : fsE l A = nums (memL A) := by unfold fsE; rw [h]; rfl
def fgE (l : List Int) : List Int := if isGroup l then (if l = [] then [49] else joinI 120 l) else []
theorem fgE_no {l : List Int} (h : isGroup l = false) : fgE l = [] := by unfold fgE; rw [h]; rfl
theorem fgE_yes {l : List Int} (h : isGroup l = true) (hp : 0 < l.length) : fgE l = joinI 120 l := by
  unfold fgE
  rw [h, if_pos rfl, if_neg]
  intro e
  rw [e] at hp
  simp at hp
theorem fmts_snoc (l : List Int) (k : Nat) (hk : k < l.length) : fmts (l.take (k + 1)) = fmts (l.take k) ++ [fmtI l[k]] := by
  unfold fmts
  rw [take_succ_get l k hk, List.map_append]
  rfl
theorem fmts_length (l : List Int) : (fmts l).length = l.length := by simp [fmts]
theorem inumbers_any (v : Value) (l : List Int) (w : World) (hr : Rd w w.heap.size .i64 v l) (hn : l.length ≤ 1048576) (hb : ∀ x ∈ l, -9223372036854775808 ≤ x ∧ x ≤ 9223372036854775807) :
    Calls Try.prog 95 #[v] w fun e w' => e = .returned (.string (strOfNums (nums l))) ∧ Below w.heap.size w w' := by
  obtain ⟨ao, cap, rfl, _, _, hrd⟩ := hr
  by_cases hpos : 0 < l.length
  · rw [nums_cons hpos]
    obtain ⟨n, hN⟩ : ∃ n, n = l.length := ⟨_, rfl⟩
    rw [← hN] at hpos hn ⊢
    obtain ⟨V, hV⟩ : ∃ V, V = joinI 44 l := ⟨_, rfl⟩
    rw [← hV]
    replace hV := hid hV
    replace hN := hid hN
    replace hrd := hid hrd
    replace hb := hid hb
    have z1 : ((n : Int) == 0) = false := by rw [beq_eq_false_iff_ne]; omega
    have z2 : ¬ n = 0 := by omega
    go_enter Try.func95, Try.ntmps95
    go_wp2
    go_loopw [3, 12] (fun o i wr => ∃ k : Nat, k ≤ n ∧ i = .int .i64 k ∧ OwnS wr w.heap.size 9 o (fmts (l.take k)) ∧ Below w.heap.size w wr) (fun _ i _ => n - (intOf i).toNat)
    case atStart => exact ⟨0, by omega, rfl, OwnS.empty _ _ _ (Nat.le_refl _), below_alloc _ _⟩
    case round =>
      obtain ⟨k, hk, rfl, hown, hbw⟩ := hrel
      by_cases hlt : k < n
      · have hj : k < l.length := by rw [← hN.out]; omega
        obtain ⟨b, off, rfl, hB, hcell⟩ := hrd.out (by omega)
        have hcm := (hbw.cell (p := ⟨b, off + k, none⟩) hB).trans (hcell k hj)
        have hxb := hb.out _ (List.getElem_mem hj)
        have hsn := fmts_snoc l k hj
        have hfl := fmts_length (l.take k)
        rw [List.length_take] at hfl
        obtain ⟨x, hx⟩ : ∃ x, x = l[k] := ⟨_, rfl⟩
        rw [← hx] at hcm hxb hsn
        have hF := hid fun w => iFormatInt_any x w hxb.1 hxb.2
        replace hsn := hid hsn
        replace hxb := hid hxb
        clear hcell hx
        go_wp2_with fail
        refine (hF.out _).mono ?_
        rintro e w2 ⟨rfl, hb2⟩
        have hown2 := hown.below hb2
        have D2 := bgo hbw hb2
        clear hown hb2
        go_wp2_with (at_builtin; refine appS rfl _ _ rfl Try.underlying61 info_str (by decide) rfl hown2 rfl (by omega) D2.size ?_)
        intro v' w' hown' hb' _
        rw [← hsn.out] at hown'
        clear hown2
        go_wp2
        go_roundw
        case rel => exact ⟨k + 1, by omega, by go_num, hown', D2.trans hb'⟩
        case measure => simp [intOf]; omega
      · rw [List.take_of_length_le (by rw [← hN.out]; omega)] at hown
        have hG := hid (iglued_any _ (fmts l) [44] ⟨#[44]⟩ _ _ rfl hown (by decide) (by rw [fmts_length, ← hN.out]; exact hn) (fun t h => fmts_len h))
        have hV2 : joinL [44] (fmts l) = V := hV.out.symm
        rw [hV2] at hG
        go_wp2_with fail
        refine hG.out.mono ?_
        rintro e w2 ⟨rfl, rfl⟩
        go_wp2
        go_ret
        exact ⟨rfl, hbw⟩
  · have hnil : l = [] := List.eq_nil_of_length_eq_zero (by omega)
    subst hnil
    rw [show nums [] = [110, 111, 110, 101] from rfl]
    clear hrd hb
    go_enter Try.func95, Try.ntmps95
    go_wp2
    go_ret
    exact ⟨rfl, Below.refl _ _⟩
theorem iFormatSet_any (v : Value) (l : List Int) (a : Int) (w : World) (hr : Rd w w.heap.size .i64 v l) (hn : l.length ≤ 1048576) (ha : -9223372036854775808 ≤ a ∧ a ≤ 9223372036854775807) :
    Calls Try.prog 39 #[.agg #[v], .int .i64 a] w fun e w' => e = .returned (.string (strOfNums (fsE l a))) ∧ Below w.heap.size w w' := by
  cases hE : isSet l a
  · rw [fsE_no hE]
    replace ha := hid ha
    replace hE := hid hE
    go_enter Try.func39, Try.ntmps39
    go_wp2_with fail
    refine (iIsSet_at hE.out ((hr.alloc (Nat.le_refl _) _).more (by go_size)) hn ha.out).mono ?_
    rintro e w1 ⟨rfl, hb1⟩
    have D1 : Below w.heap.size w w1 := by refine Below.trans ?_ (hb1.mono ?_) <;> go_grown
    have hz1 : w.heap.size < w1.heap.size := by have := hb1.size; simp at this; omega
    obtain ⟨hc1, hf1⟩ := bcell hb1
    go_wp2
    go_ret
    exact ⟨rfl, D1⟩
  · obtain ⟨A, rfl, hA⟩ := isSet.nat hE
    rw [fsE_yes hE]
    have hM := hid fun w => imembers_any A hA w
    have hML := memL_len A
    have hNm := hid fun v w h => inumbers_any v (memL A) w h (by omega) (fun x hx => by have := memL_bd hx; omega)
    obtain ⟨V, hV⟩ : ∃ V, V = nums (memL A) := ⟨_, rfl⟩
    rw [← hV] at hNm ⊢
    obtain ⟨M, hMM⟩ : ∃ M, M = memL A := ⟨_, rfl⟩
    rw [← hMM] at hM hML hNm
    replace ha := hid ha
    replace hE := hid hE
    clear hV hMM hA
    go_enter Try.func39, Try.ntmps39
    go_wp2_with fail
    refine (iIsSet_at hE.out ((hr.alloc (Nat.le_refl _) _).more (by go_size)) hn ha.out).mono ?_
    rintro e w1 ⟨rfl, hb1⟩
    have D1 : Below w.heap.size w w1 := by refine Below.trans ?_ (hb1.mono ?_) <;> go_grown
    have hz1 : w.heap.size < w1.heap.size := by have := hb1.size; simp at this; omega
    obtain ⟨hc1, hf1⟩ := bcell hb1
    go_wp2_with fail
    refine (hM.out _).mono ?_
    rintro e w2 ⟨ao2, cap2, rfl, ho2, hb2⟩
    go_wp2_with fail
    refine (hNm.out _ _ (Rd.of_own ho2)).mono ?_
    rintro e w3 ⟨rfl, hb3⟩
    go_wp2
    go_ret
    exact ⟨rfl, bgo (bgo D1 hb2) hb3⟩
end Go.Proofs.Ytknbfohmobjplab

namespace Go.Proofs.Ytknbfohmobjplab
set_option linter.unusedVariables false
set_option linter.unusedSimpArgs false
open Go.RowKit

theorem iIsGroup_at' {v : Value} {l : List Int} {b : Bool} {w : World} (hE : isGroup l = b) (hr : Rd w w.heap.size .i64 v l) (hn : l.length ≤ 1048576) :
    Calls Try.prog 25 #[.agg #[v]] w fun e w' => e = .returned (.bool b) ∧ Below w.heap.size w w' := by
  rw [← hE]; exact iIsGroup_any v l w hr (by omega)
theorem sIsGroup_at' {v : Value} {l : List Int} {b : Bool} {w : World} (hE : isGroup l = b) (hr : Rd w w.heap.size .i64 v l) (hn : l.length ≤ 1048576) :
    Calls Try.prog 24 #[.agg #[v]] w fun e w' => e = .returned (.bool b) ∧ Below w.heap.size w w' := by
  rw [← hE]; exact sIsGroup_any v l w hr (by omega)
theorem iFormatGroup_any (v : Value) (l : List Int) (w : World) (hr : Rd w w.heap.size .i64 v l) (hn : l.length ≤ 1048576) :
    Calls Try.prog 19 #[.agg #[v]] w fun e w' => e = .returned (.string (strOfNums (fgE l))) ∧ Below w.heap.size w w' := by
  have hr0 := hid hr
  obtain ⟨ao, cap, rfl, _, _, hrd⟩ := hr
  cases hE : isGroup l
  · rw [fgE_no hE]
    replace hE := hid hE
    clear hrd
    go_enter Try.func19, Try.ntmps19
    go_wp2_with fail
    refine (iIsGroup_at' hE.out ((hr0.out.alloc (Nat.le_refl _) _).more (by go_size)) hn).mono ?_
    rintro e w1 ⟨rfl, hb1⟩
    have D1 : Below w.heap.size w w1 := by refine Below.trans ?_ (hb1.mono ?_) <;> go_grown
    have hz1 : w.heap.size < w1.heap.size := by have := hb1.size; simp at this; omega
    obtain ⟨hc1, hf1⟩ := bcell hb1
    go_wp2
    go_ret
    exact ⟨rfl, D1⟩
  · by_cases hpos : 0 < l.length
    · rw [fgE_yes hE hpos]
      have hbd := hid fun x (hx : x ∈ l) => ((isGroup_iff l).1 hE).2.1 x hx
      obtain ⟨n, hN⟩ : ∃ n, n = l.length := ⟨_, rfl⟩
      rw [← hN] at hpos hn hr0 ⊢
      obtain ⟨V, hV⟩ : ∃ V, V = joinI 120 l := ⟨_, rfl⟩
      rw [← hV]
      replace hV := hid hV
      replace hN := hid hN
      replace hrd := hid hrd
      replace hE := hid hE
      have z1 : ((n : Int) == 0) = false := by rw [beq_eq_false_iff_ne]; omega
      have z2 : ¬ n = 0 := by omega
      have hI := hid fun w h => iIsGroup_at' (v := .slice ao n cap) (w := w) hE.out h (by rw [← hN.out]; exact hn)
      go_enter Try.func19, Try.ntmps19
      go_wp2_with fail
      refine (hI.out _ ((hr0.out.alloc (Nat.le_refl _) _).more (by go_size))).mono ?_
      rintro e w1 ⟨rfl, hb1⟩
      have D1 : Below w.heap.size w w1 := by refine Below.trans ?_ (hb1.mono ?_) <;> go_grown
      have hz1 : w.heap.size < w1.heap.size := by have := hb1.size; simp at this; omega
      obtain ⟨hc1, hf1⟩ := bcell hb1
      have c1 : w1.cell? ⟨w.heap.size, 0, none⟩ = some (.slice ao n cap) := by rw [hc1 _ _ (by go_size)]; simp [go_sem]
      clear hc1 hf1 hb1
      have D2 : Below w.heap.size w (w1.alloc (.cells #[] 9)) := D1.trans ((below_alloc _ _).mono D1.size)
      go_wp2
      go_loopw [3, 17] (fun o i wr => ∃ k : Nat, k ≤ n ∧ i = .int .i64 k ∧ OwnS wr (w.heap.size + 1) 9 o (fmts (l.take k)) ∧ Below w.heap.size w wr ∧ w.heap.size < wr.heap.size) (fun _ i _ => n - (intOf i).toNat)
      case atStart => exact ⟨0, by omega, rfl, OwnS.empty _ _ _ hz1, D2, by simp; omega⟩
      case round =>
        obtain ⟨k, hk, rfl, hown, hbw, hz⟩ := hrel
        by_cases hlt : k < n
        · have hj : k < l.length := by rw [← hN.out]; omega
          obtain ⟨b, off, rfl, hB, hcell⟩ := hrd.out (by omega)
          have hcm := (hbw.cell (p := ⟨b, off + k, none⟩) hB).trans (hcell k hj)
          have hxb := hbd.out _ (List.getElem_mem hj)
          have hsn := fmts_snoc l k hj
          have hfl := fmts_length (l.take k)
          rw [List.length_take] at hfl
          obtain ⟨x, hx⟩ : ∃ x, x = l[k] := ⟨_, rfl⟩
          rw [← hx] at hcm hxb hsn
          have hF := hid fun w => iFormatInt_any x w (by omega) (by omega)
          replace hsn := hid hsn
          replace hxb := hid hxb
          clear hcell hx
          go_wp2_with fail
          refine (hF.out _).mono ?_
          rintro e w2 ⟨rfl, hb2⟩
          have hown2 := hown.below hb2
          have D3 := bgo hbw hb2
          have hz2 : w.heap.size < w2.heap.size := by have := hb2.size; omega
          clear hown hb2
          go_wp2_with (at_builtin; refine appS rfl _ _ rfl Try.underlying61 info_str (by decide) rfl hown2 rfl (by omega) hz2 ?_)
          intro v' w' hown' hb' _
          rw [← hsn.out] at hown'
          have hsz := hb'.size
          clear hown2
          go_wp2
          go_roundw
          case rel => exact ⟨k + 1, by omega, by go_num, hown', D3.trans (hb'.mono (Nat.le_succ _)), by omega⟩
          case measure => simp [intOf]; omega
        · rw [List.take_of_length_le (by rw [← hN.out]; omega)] at hown
          have hG := hid (iglued_any _ (fmts l) [120] ⟨#[120]⟩ _ _ rfl hown (by decide) (by rw [fmts_length, ← hN.out]; exact hn) (fun t h => fmts_len h))
          have hV2 : joinL [120] (fmts l) = V := hV.out.symm
          rw [hV2] at hG
          go_wp2_with fail
          refine hG.out.mono ?_
          rintro e w2 ⟨rfl, rfl⟩
          go_wp2
          go_ret
          exact ⟨rfl, hbw⟩
    · have hnil : l = [] := List.eq_nil_of_length_eq_zero (by omega)
      subst hnil
      rw [show fgE [] = [49] from rfl]
      replace hE := hid hE
      have hI := hid fun w h => iIsGroup_at' (v := .slice ao 0 cap) (l := []) (w := w) hE.out h (by simp)
      clear hrd
      go_enter Try.func19, Try.ntmps19
      go_wp2_with fail
      refine (hI.out _ ((hr0.out.alloc (Nat.le_refl _) _).more (by go_size))).mono ?_
      rintro e w1 ⟨rfl, hb1⟩
      have D1 : Below w.heap.size w w1 := by refine Below.trans ?_ (hb1.mono ?_) <;> go_grown
      have hz1 : w.heap.size < w1.heap.size := by have := hb1.size; simp at this; omega
      obtain ⟨hc1, hf1⟩ := bcell hb1
      go_wp2
      go_ret
      exact ⟨rfl, D1⟩
/-- whether a text is empty -/
theorem empty_text (V : List Int) : (strOfNums V).toList.isEmpty = decide (V = []) := by
  rw [toList_strOfNums]
  cases V with
  | nil => rfl
  | cons x r => simp [toB]
theorem joinI_cons (b x : Int) (r : List Int) (h : fmtI x ≠ []) : joinI b (x :: r) ≠ [] := by
  unfold joinI fmts
  cases r with
  | nil => exact h
  | cons y r =>
    intro he
    rw [List.map_cons, List.map_cons, joinL] at he
    exact h (List.append_eq_nil_iff.1 he).1
theorem fmtI_ne (x : Int) : fmtI x ≠ [] := by
  unfold fmtI
  split
  · simp
  · rename_i h
    intro he
    have h2 := (List.append_eq_nil_iff.1 he).2
    have h3 : digs 20 (absI x) ≠ [] := by
      have h4 : absI x ≠ 0 := by unfold absI; split <;> omega
      simp [digs, h4]
    exact h3 (by simpa using h2)
theorem joinI_ne {b : Int} {l : List Int} (h : 0 < l.length) : joinI b l ≠ [] := by
  cases l with
  | nil => simp at h
  | cons x r => exact joinI_cons b x r (fmtI_ne x)
theorem joinI_step {b : Int} {l : List Int} {k : Nat} (hk : k < l.length) (h0 : 0 < k) : joinI b (l.take (k + 1)) = joinI b (l.take k) ++ [b] ++ fmtI l[k] := by
  unfold joinI
  rw [fmts_snoc l k hk, joinL_snoc]
  intro h
  have h2 : (fmts (l.take k)).length = 0 := by rw [h]; rfl
  rw [fmts_length, List.length_take] at h2
  omega
theorem joinI_one {b : Int} {l : List Int} (hk : 0 < l.length) : joinI b (l.take 1) = fmtI l[0] := by
  unfold joinI
  rw [show l.take 1 = l.take (0 + 1) from rfl, fmts_snoc l 0 hk]
  rfl
theorem joinI_small {b : Int} {l : List Int} (hl : l.length ≤ 1048576) (k : Nat) : (joinI b (l.take k)).length ≤ 1073741824 := join_small (Nat.le_refl 1) (by rw [fmts_length, List.length_take]; omega) (fun t h => fmts_len h)
end Go.Proofs.Ytknbfohmobjplab
