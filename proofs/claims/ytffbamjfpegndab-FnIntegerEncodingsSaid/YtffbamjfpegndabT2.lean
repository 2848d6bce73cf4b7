
/- Numbers in words between commas, the program's FormatSet and FormatGroup. Conditions: at most 2^20 orders. -/
import Derived.Test.YtffbamjfpegndabT1
import Derived.Test.YtffbamjfpegndabS3
import Derived.Test.YtffbamjfpegndabG3
namespace Go.Proofs.Ytffbamjfpegndab
set_option linter.unusedVariables false
set_option linter.unusedSimpArgs false
open Go.RowKit

def nums (l : List Int) : List Int := if l = [] then [110, 111, 110, 101] else joinI 44 l
theorem nums_cons {l : List Int} (h : 0 < l.length) : nums l = joinI 44 l := by
  unfold nums
  rw [if_neg]
  intro e
  rw [e] at h
  simp at h
def fsE (l : List Int) (a : Int) : List Int := if isSet l a then nums (memL a.toNat) else []
theorem fsE_no {l : List Int} {a : Int} (h : isSet l a = false) : fsE l a = [] := by unfold fsE; rw [h]; rfl
theorem fsE_yes {l : List Int} {A : Nat} (h : isSet l (A : Int) = true) : fsE l A = nums (memL A) := by unfold fsE; rw [h]; rfl
def fgE (l : List Int) : List Int := if isGroup l then (if l = [] then [49] else joinI 120 l) else []
theorem fgE_no {l : List Int} (h : isGroup l = false) : fgE l = [] := by unfold fgE; rw [h]; rfl
theorem fgE_yes {l : List Int} (h : isGroup l = true) (hp : 0 < l.length) : fgE l = joinI 120 l := by
  unfold fgE
  rw [h, if_pos rfl, if_neg]
  intro e
  rw [e] at hp
  simp at hp
theorem fmts_snoc (l : List Int) (k : Nat) (hk : k < l.length) : fmts (l.take (k + 1)) = fmts (l.take k) ++ [fmtI l[k]] := by
  unfold fmts
  rw [take_succ_get l k hk, List.map_append]
  rfl
theorem fmts_length (l : List Int) : (fmts l).length = l.length := by simp [fmts]
theorem inumbers_any (v : Value) (l : List Int) (w : World) (hr : Rd w w.heap.size .i64 v l) (hn : l.length ≤ 1048576) (hb : ∀ x ∈ l, -9223372036854775808 ≤ x ∧ x ≤ 9223372036854775807) :
    Calls Try.prog 54 #[v] w fun e w' => e = .returned (.string (strOfNums (nums l))) ∧ Below w.heap.size w w' := by
  obtain ⟨ao, cap, rfl, _, _, hrd⟩ := hr
  by_cases hpos : 0 < l.length
  · rw [nums_cons hpos]
    obtain ⟨n, hN⟩ : ∃ n, n = l.length := ⟨_, rfl⟩
    rw [← hN] at hpos hn ⊢
    obtain ⟨V, hV⟩ : ∃ V, V = joinI 44 l := ⟨_, rfl⟩
    rw [← hV]
    replace hV := hid hV
    replace hN := hid hN
    replace hrd := hid hrd
    replace hb := hid hb
    have z1 : ((n : Int) == 0) = false := by rw [beq_eq_false_iff_ne]; omega
    have z2 : ¬ n = 0 := by omega
    go_enter Try.func54, Try.ntmps54
    go_wp2
    go_loopw [3, 12] (fun o i wr => ∃ k : Nat, k ≤ n ∧ i = .int .i64 k ∧ OwnS wr w.heap.size 9 o (fmts (l.take k)) ∧ Below w.heap.size w wr) (fun _ i _ => n - (intOf i).toNat)
    case atStart => exact ⟨0, by omega, rfl, OwnS.empty _ _ _ (Nat.le_refl _), below_alloc _ _⟩
    case round =>
      obtain ⟨k, hk, rfl, hown, hbw⟩ := hrel
      by_cases hlt : k < n
      · have hj : k < l.length := by rw [← hN.out]; omega
        obtain ⟨b, off, rfl, hB, hcell⟩ := hrd.out (by omega)
        have hcm := (hbw.cell (p := ⟨b, off + k, none⟩) hB).trans (hcell k hj)
        have hxb := hb.out _ (List.getElem_mem hj)
        have hsn := fmts_snoc l k hj
        have hfl := fmts_length (l.take k)
        rw [List.length_take] at hfl
        obtain ⟨x, hx⟩ : ∃ x, x = l[k] := ⟨_, rfl⟩
        rw [← hx] at hcm hxb hsn
        have hF := hid fun w => iFormatInt_any x w hxb.1 hxb.2
        replace hsn := hid hsn
        replace hxb := hid hxb
        clear hcell hx
        go_wp2_with fail
        refine (hF.out _).mono ?_
        rintro e w2 ⟨rfl, hb2⟩
        have hown2 := hown.below hb2
        have D2 := bgo hbw hb2
        clear hown hb2
        go_wp2_with (at_builtin; refine appS rfl _ _ rfl Try.underlying63 info_str (by decide) rfl hown2 rfl (by omega) D2.size ?_)
        intro v' w' hown' hb' _
        rw [← hsn.out] at hown'
        clear hown2
        go_wp2
        go_roundw
        case rel => exact ⟨k + 1, by omega, by go_num, hown', D2.trans hb'⟩
        case measure => simp [intOf]; omega
      · rw [List.take_of_length_le (by rw [← hN.out]; omega)] at hown
        have hG := hid (iglued_any _ (fmts l) [44] ⟨#[44]⟩ _ _ rfl hown (by decide) (by rw [fmts_length, ← hN.out]; exact hn) (fun t h => fmts_len h))
        have hV2 : joinL [44] (fmts l) = V := hV.out.symm
        rw [hV2] at hG
        go_wp2_with fail
        refine hG.out.mono ?_
        rintro e w2 ⟨rfl, rfl⟩
        go_wp2
        go_ret
        exact ⟨rfl, hbw⟩
  · have hnil : l = [] := List.eq_nil_of_length_eq_zero (by omega)
    subst hnil
    rw [show nums [] = [110, 111, 110, 101] from rfl]
    clear hrd hb
    go_enter Try.func54, Try.ntmps54
    go_wp2
    go_ret
    exact ⟨rfl, Below.refl _ _⟩
theorem iFormatSet_any (v : Value) (l : List Int) (a : Int) (w : World) (hr : Rd w w.heap.size .i64 v l) (hn : l.length ≤ 1048576) (ha : -9223372036854775808 ≤ a ∧ a ≤ 9223372036854775807) :
    Calls Try.prog 23 #[.agg #[v], .int .i64 a] w fun e w' => e = .returned (.string (strOfNums (fsE l a))) ∧ Below w.heap.size w w' := by
  cases hE : isSet l a
  · rw [fsE_no hE]
    replace ha := hid ha
    replace hE := hid hE
    go_enter Try.func23, Try.ntmps23
    go_wp2_with fail
    refine (iIsSet_at hE.out ((hr.alloc (Nat.le_refl _) _).more (by go_size)) hn ha.out).mono ?_
    rintro e w1 ⟨rfl, hb1⟩
    have D1 : Below w.heap.size w w1 := by refine Below.trans ?_ (hb1.mono ?_) <;> go_grown
    have hz1 : w.heap.size < w1.heap.size := by have := hb1.size; simp at this; omega
    obtain ⟨hc1, hf1⟩ := bcell hb1
    go_wp2
    go_ret
    exact ⟨rfl, D1⟩
  · obtain ⟨A, rfl, hA⟩ := isSet.nat hE
    rw [fsE_yes hE]
    have hM := hid fun w => imembers_any A hA w
    have hML := memL_len A
    have hNm := hid fun v w h => inumbers_any v (memL A) w h (by omega) (fun x hx => by have := memL_bd hx; omega)
    obtain ⟨V, hV⟩ : ∃ V, V = nums (memL A) := ⟨_, rfl⟩
    rw [← hV] at hNm ⊢
    obtain ⟨M, hMM⟩ : ∃ M, M = memL A := ⟨_, rfl⟩
    rw [← hMM] at hM hML hNm
    replace ha := hid ha
    replace hE := hid hE
    clear hV hMM hA
    go_enter Try.func23, Try.ntmps23
    go_wp2_with fail
    refine (iIsSet_at hE.out ((hr.alloc (Nat.le_refl _) _).more (by go_size)) hn ha.out).mono ?_
    rintro e w1 ⟨rfl, hb1⟩
    have D1 : Below w.heap.size w w1 := by refine Below.trans ?_ (hb1.mono ?_) <;> go_grown
    have hz1 : w.heap.size < w1.heap.size := by have := hb1.size; simp at this; omega
    obtain ⟨hc1, hf1⟩ := bcell hb1
    go_wp2_with fail
    refine (hM.out _).mono ?_
    rintro e w2 ⟨ao2, cap2, rfl, ho2, hb2⟩
    go_wp2_with fail
    refine (hNm.out _ _ (Rd.of_own ho2)).mono ?_
    rintro e w3 ⟨rfl, hb3⟩
    go_wp2
    go_ret
    exact ⟨rfl, bgo (bgo D1 hb2) hb3⟩
end Go.Proofs.Ytffbamjfpegndab
