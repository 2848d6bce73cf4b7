
/- What FormatInt computes, the program's and the reference's. No conditions. -/
import Derived.Test.YtffbamjfpegndabW1
namespace Go.Proofs.Ytffbamjfpegndab
open Go.RowKit

/-- what is still to write of a number -/
theorem digs_round {f : Nat} {a : Int} (h : a ≠ 0) (ha : 0 ≤ a) (hf : a < 10 ^ f) : ∃ g : Nat, f = g + 1 ∧ digs f a = (48 + a % 10) :: digs g (a / 10) ∧ a / 10 < 10 ^ g := by
  cases f with
  | zero => simp at hf; omega
  | succ g =>
    have hp : (10 : Int) ^ (g + 1) = 10 ^ g * 10 := Int.pow_succ 10 g
    exact ⟨g, rfl, by rw [digs, if_neg h], by omega⟩
theorem digs_zero (f : Nat) : digs f 0 = [] := by cases f <;> simp [digs]
theorem absI_small (n : Int) (h1 : -9223372036854775808 ≤ n) (h2 : n ≤ 9223372036854775807) : absI n < 10 ^ 20 := by rw [pow10_20]; unfold absI; split <;> omega

theorem sFormatInt_zero (w : World) : Calls Try.prog 39 #[.int .i64 0] w fun e w' => e = .returned (.string (strOfNums (fmtI 0))) ∧ Below w.heap.size w w' := by
  go_enter Try.func39, Try.ntmps39
  go_wp2
  go_ret
  exact ⟨rfl, Below.refl _ _⟩
theorem iFormatInt_zero (w : World) : Calls Try.prog 37 #[.int .i64 0] w fun e w' => e = .returned (.string (strOfNums (fmtI 0))) ∧ Below w.heap.size w w' := by
  go_enter Try.func37, Try.ntmps37
  go_wp2
  go_ret
  exact ⟨rfl, Below.refl _ _⟩

theorem sFormatInt_pos (n : Int) (w : World) (h1 : 0 < n) (h2 : n ≤ 9223372036854775807) : Calls Try.prog 39 #[.int .i64 n] w fun e w' => e = .returned (.string (strOfNums (fmtI n))) ∧ Below w.heap.size w w' := by
  go_enter Try.func39, Try.ntmps39
  go_wp2
  go_loopw [3, 0] (fun o m wr => ∃ (f : Nat) (a : Int) (out : List Int), 0 ≤ a ∧ a ≤ n ∧ m = .int .i64 a ∧ Hid (a < 10 ^ f) ∧ o = .string (strOfNums out) ∧ out.length + f ≤ 20 ∧ Hid ((digs f a).reverse ++ out = (digs 20 n).reverse) ∧ Below w.heap.size w wr) (fun _ m _ => (intOf m).toNat)
  case atStart => exact ⟨20, n, [], by omega, by omega, rfl, by show n < 10 ^ 20; rw [pow10_20]; omega, rfl, by simp, List.append_nil _, Below.refl _ _⟩
  case round =>
    obtain ⟨f, a, out, ha, han, rfl, hf, rfl, hlen, hout, hb⟩ := hrel
    by_cases h0 : a = 0
    · subst h0
      have hO := hout.out
      rw [digs_zero] at hO
      have hfin : fmtI n = out := by
        unfold fmtI
        rw [if_neg (by omega), if_neg (by omega)]
        unfold absI
        rw [if_neg (by omega), ← hO]
        rfl
      replace hfin := hid hfin
      clear hO hout hf hlen
      go_wp2
      go_ret
      exact ⟨by rw [hfin.out]; rfl, hb⟩
    · obtain ⟨g, rfl, hd, hg⟩ := digs_round h0 ha hf.out
      have hO := hout.out
      rw [hd, List.reverse_cons, List.append_assoc] at hO
      replace hO := hid hO
      have hG := hid hg
      clear hd hg hf hout
      have h0' : 0 < a := by omega
      clear h0
      have hcv := conv_one (P := Try.prog) Try.underlying44 Try.underlying5 Try.underlying9
      have hadd := add_strs (P := Try.prog) [48 + a % 10] out (by simp; omega)
      go_wp2
      go_roundw
      case rel => exact ⟨g, a / 10, _, by omega, by omega, rfl, hG, rfl, by simp; omega, hO, hb.alloc hb.size _⟩
      case measure => simp [intOf]; omega
theorem tmod_neg (a : Int) (h : 0 ≤ a) : (-a).tmod 10 = -(a % 10) := by rw [Int.neg_tmod, Int.tmod_eq_emod_of_nonneg h]
theorem tdiv_neg (a : Int) (h : 0 ≤ a) : (-a).tdiv 10 = -(a / 10) := by rw [Int.neg_tdiv, Int.tdiv_eq_ediv_of_nonneg h]
theorem sFormatInt_neg (n : Int) (w : World) (h1 : 0 < n) (h2 : n ≤ 9223372036854775808) : Calls Try.prog 39 #[.int .i64 (-n)] w fun e w' => e = .returned (.string (strOfNums (fmtI (-n)))) ∧ Below w.heap.size w w' := by
  have hz : (-n == 0) = false := by rw [beq_eq_false_iff_ne]; omega
  have hz2 : (n == 0) = false := by rw [beq_eq_false_iff_ne]; omega
  have hz3 : decide (-n < 0) = true := by simp; omega
  go_enter Try.func39, Try.ntmps39
  go_wp2
  go_loopw [3, 0] (fun o m wr => ∃ (f : Nat) (a : Int) (out : List Int), 0 ≤ a ∧ a ≤ n ∧ m = .int .i64 (-a) ∧ Hid (a < 10 ^ f) ∧ o = .string (strOfNums out) ∧ out.length + f ≤ 20 ∧ Hid ((digs f a).reverse ++ out = (digs 20 n).reverse) ∧ Below w.heap.size w wr) (fun _ m _ => (-(intOf m)).toNat)
  case atStart => exact ⟨20, n, [], by omega, by omega, rfl, by show n < 10 ^ 20; rw [pow10_20]; omega, rfl, by simp, List.append_nil _, Below.refl _ _⟩
  case round =>
    obtain ⟨f, a, out, ha, han, rfl, hf, rfl, hlen, hout, hb⟩ := hrel
    by_cases h0 : a = 0
    · subst h0
      have hO := hout.out
      rw [digs_zero] at hO
      have hfin : fmtI (-n) = 45 :: out := by
        unfold fmtI
        rw [if_neg (by omega), if_pos (by omega)]
        unfold absI
        rw [if_pos (by omega), Int.neg_neg, ← hO]
        rfl
      replace hfin := hid hfin
      have hadd := add_strs (P := Try.prog) [45] out (by simp; omega)
      have h45 : strOfNums [45] = ⟨#[45]⟩ := rfl
      rw [h45] at hadd
      have hneg : (-(0 : Int) == 0) = true := rfl
      clear hO hout hf hlen h45
      go_wp2
      go_ret
      exact ⟨by rw [hfin.out]; rfl, hb⟩
    · obtain ⟨g, rfl, hd, hg⟩ := digs_round h0 ha hf.out
      have hO := hout.out
      rw [hd, List.reverse_cons, List.append_assoc] at hO
      replace hO := hid hO
      have hG := hid hg
      clear hd hg hf hout
      have h0' : 0 < a := by omega
      have hq : (-a == 0) = false := by rw [beq_eq_false_iff_ne]; omega
      have hq2 : (a == 0) = false := by rw [beq_eq_false_iff_ne]; omega
      clear h0
      have hcv := conv_one (P := Try.prog) Try.underlying44 Try.underlying5 Try.underlying9
      have htm := tmod_neg a ha
      have htd := tdiv_neg a ha
      have hr : 0 ≤ a % 10 ∧ a % 10 ≤ 9 := by omega
      obtain ⟨r, hR⟩ : ∃ r, r = a % 10 := ⟨_, rfl⟩
      rw [← hR] at htm hr
      replace hR := hid hR
      by_cases hr0 : r = 0
      · subst hr0
        have hadd := add_strs (P := Try.prog) [48] out (by simp; omega)
        go_wp2
        go_roundw
        case rel => exact ⟨g, a / 10, _, by omega, by omega, rfl, hG, rfl, by simp; omega, by rw [← hR.out] at hO; exact hO, hb.alloc hb.size _⟩
        case measure => simp [intOf]; omega
      · have hr1 : 0 < r := by omega
        clear hr0
        have hadd := add_strs (P := Try.prog) [48 + r] out (by simp; omega)
        go_wp2
        go_roundw
        case rel => exact ⟨g, a / 10, _, by omega, by omega, rfl, hG, rfl, by simp; omega, by rw [← hR.out] at hO; exact hO, hb.alloc hb.size _⟩
        case measure => simp [intOf]; omega
theorem sFormatInt_any (n : Int) (w : World) (h1 : -9223372036854775808 ≤ n) (h2 : n ≤ 9223372036854775807) : Calls Try.prog 39 #[.int .i64 n] w fun e w' => e = .returned (.string (strOfNums (fmtI n))) ∧ Below w.heap.size w w' := by
  by_cases h0 : n = 0
  · subst h0; exact sFormatInt_zero w
  · by_cases hp : 0 < n
    · exact sFormatInt_pos n w hp h2
    · have := sFormatInt_neg (-n) w (by omega) (by omega)
      rw [Int.neg_neg] at this
      exact this

theorem digs_round' {f : Nat} {a n : Int} {out : List Int} (h : a ≠ 0) (ha : 0 ≤ a) (hf : a < 10 ^ f) (hlen : out.length + f ≤ 20) (ho : out ++ digs f a = digs 20 n) :
    ∃ g : Nat, a / 10 < 10 ^ g ∧ (out ++ [48 + a % 10]).length + g ≤ 20 ∧ (out ++ [48 + a % 10]) ++ digs g (a / 10) = digs 20 n := by
  obtain ⟨g, rfl, hd, hg⟩ := digs_round h ha hf
  refine ⟨g, hg, by simp; omega, ?_⟩
  rw [← ho, hd, List.append_assoc]
  rfl

/-- the first k and the last k exchanged -/
def swapped (l : List Int) (k : Nat) : List Int := (List.range l.length).map fun p => if p < k ∨ l.length - k ≤ p then l.getD (l.length - 1 - p) 0 else l.getD p 0
theorem swapped_length (l : List Int) (k : Nat) : (swapped l k).length = l.length := by simp [swapped]
theorem swapped_zero (l : List Int) : swapped l 0 = l := by
  apply List.ext_getElem
  · simp [swapped]
  · intro i h1 h2
    simp [swapped, h2]
    omega
theorem swapped_end (l : List Int) (k : Nat) (h : l.length ≤ 2 * k + 1) : swapped l k = l.reverse := by
  apply List.ext_getElem
  · simp [swapped]
  · intro i h1 h2
    simp only [List.length_reverse] at h2
    simp only [swapped, List.getElem_map, List.getElem_range, List.getElem_reverse]
    by_cases hc : i < k ∨ l.length - k ≤ i
    · rw [if_pos hc, List.getD_eq_getElem?_getD, List.getElem?_eq_getElem (by omega)]
      rfl
    · rw [if_neg hc, List.getD_eq_getElem?_getD, List.getElem?_eq_getElem h2]
      have : i = l.length - 1 - i := by omega
      simp only [Option.getD_some]
      congr 1
theorem swapped_step (l : List Int) (k : Nat) (h : 2 * k + 1 < l.length) :
    ((swapped l k).set k ((swapped l k).getD (l.length - 1 - k) 0)).set (l.length - 1 - k) ((swapped l k).getD k 0) = swapped l (k + 1) ∧
    ((swapped l k).set (l.length - 1 - k) ((swapped l k).getD k 0)).set k ((swapped l k).getD (l.length - 1 - k) 0) = swapped l (k + 1) := by
  have e : ((swapped l k).set k ((swapped l k).getD (l.length - 1 - k) 0)).set (l.length - 1 - k) ((swapped l k).getD k 0) = swapped l (k + 1) := by
    have g1 : (swapped l k).getD (l.length - 1 - k) 0 = l.getD (l.length - 1 - k) 0 := by
      simp [swapped, List.getD_eq_getElem?_getD, show l.length - 1 - k < l.length by omega]
      intro hh; omega
    have g2 : (swapped l k).getD k 0 = l.getD k 0 := by
      simp [swapped, List.getD_eq_getElem?_getD, show k < l.length by omega]
      intro hh; omega
    rw [g1, g2]
    apply List.ext_getElem
    · simp [swapped]
    · intro i h1 h2
      rw [swapped_length] at h2
      simp only [List.getElem_set]
      by_cases c1 : l.length - 1 - k = i
      · rw [if_pos c1]
        simp only [swapped, List.getElem_map, List.getElem_range]
        rw [if_pos (by omega)]
        congr 1
        omega
      · rw [if_neg c1]
        by_cases c2 : k = i
        · rw [if_pos c2]
          simp only [swapped, List.getElem_map, List.getElem_range]
          rw [if_pos (by omega), c2]
        · rw [if_neg c2]
          simp only [swapped, List.getElem_map, List.getElem_range]
          by_cases c3 : i < k ∨ l.length - k ≤ i
          · rw [if_pos c3, if_pos (by omega)]
          · rw [if_neg c3, if_neg (by omega)]
  exact ⟨e, by rw [List.set_comm _ _ (by omega)]; exact e⟩

set_option maxRecDepth 100000 in
theorem iFormatInt_pos (n : Int) (w : World) (h1 : 0 < n) (h2 : n ≤ 9223372036854775807) : Calls Try.prog 37 #[.int .i64 n] w fun e w' => e = .returned (.string (strOfNums (fmtI n))) ∧ Below w.heap.size w w' := by
  have hz : (n == 0) = false := by rw [beq_eq_false_iff_ne]; omega
  go_enter Try.func37, Try.ntmps37
  go_wp2
  go_loopw [3, 4] (fun o m wr => ∃ (f : Nat) (a : Int) (out : List Int), 0 ≤ a ∧ a ≤ n ∧ m = .int .i64 a ∧ Hid (a < 10 ^ f) ∧ Own wr w.heap.size 5 .u8 o out ∧ out.length + f ≤ 20 ∧ Hid (out ++ digs f a = digs 20 n) ∧ Below w.heap.size w wr) (fun _ m _ => (intOf m).toNat)
  case atStart => exact ⟨20, n, [], by omega, by omega, rfl, by show n < 10 ^ 20; rw [pow10_20]; omega, Own.empty _ _ _ _ (Nat.le_refl _), by simp, rfl, (Below.refl _ _).alloc (Nat.le_refl _) _⟩
  case round =>
    obtain ⟨f, a, out, ha, han, rfl, hf, hown, hlen, hout, hb⟩ := hrel
    have hsz := hb.size
    by_cases h0 : a = 0
    · subst h0
      have hO := hout.out
      rw [digs_zero, List.append_nil] at hO
      have hpl : 0 < out.length := by rw [hO]; exact digs_low 0 20 n (by simp; omega) (by rw [pow10_20]; omega)
      have hfin : fmtI n = out.reverse := by
        unfold fmtI
        rw [if_neg (by omega), if_neg (by omega)]
        unfold absI
        rw [if_neg (by omega), ← hO]
        rfl
      replace hfin := hid hfin
      obtain ⟨g, cap, rfl, hg1, hg2, hcap, hcm⟩ := hown.form hpl
      obtain ⟨len, hL⟩ : ∃ len, len = out.length := ⟨_, rfl⟩
      rw [← hL] at hown hcap hpl hlen ⊢
      have hll : len ≤ 20 := by omega
      clear hO hout hf hlen hcm
      replace hL := hid hL
      go_wp2
      obtain ⟨wo, rfl⟩ : ∃ wo : World, wo = wr := ⟨_, rfl⟩
      go_loopw [6, 7] (fun i j wr => ∃ k : Nat, 2 * k ≤ len ∧ i = .int .i64 k ∧ j = .int .i64 ((len : Int) - 1 - k) ∧ Own wr w.heap.size 5 .u8 (.slice (some ⟨g, 0, none⟩) len cap) (swapped out k) ∧ Below w.heap.size w wr) (fun i _ _ => len - (intOf i).toNat)
      case atStart => exact ⟨0, by omega, rfl, by go_num, by rw [swapped_zero]; exact hown, hb⟩
      case round =>
        obtain ⟨k, hk, rfl, rfl, hown2, hb2⟩ := hrel
        clear hown
        by_cases hlt : 2 * k + 1 < len
        · obtain ⟨t, ht⟩ : ∃ t, t = len - 1 - k := ⟨_, rfl⟩
          have hT : ((len : Int) - 1 - k) = (t : Int) := by omega
          have hlen2 : (swapped out k).length = len := by rw [swapped_length, ← hL.out]
          have hc1 := hown2.cell k (by omega)
          have hc2 := hown2.cell t (by omega)
          have hf1 := hown2.frozen k
          have hf2 := hown2.frozen t
          have hst := swapped_step out k (by rw [← hL.out]; exact hlt)
          rw [← hL.out, ← ht] at hst
          have hst1 := (hown2.store k ((swapped out k).getD t 0)).store t ((swapped out k).getD k 0)
          have hst2 := (hown2.store t ((swapped out k).getD k 0)).store k ((swapped out k).getD t 0)
          rw [hst.1] at hst1
          rw [hst.2] at hst2
          have hx1 : (swapped out k)[k]'(by omega) = (swapped out k).getD k 0 := by rw [List.getD_eq_getElem?_getD, List.getElem?_eq_getElem (by omega)]; rfl
          have hx2 : (swapped out k)[t]'(by omega) = (swapped out k).getD t 0 := by rw [List.getD_eq_getElem?_getD, List.getElem?_eq_getElem (by omega)]; rfl
          rw [hx1] at hc1
          rw [hx2] at hc2
          obtain ⟨x1, hX1⟩ : ∃ x1, x1 = (swapped out k).getD k 0 := ⟨_, rfl⟩
          obtain ⟨x2, hX2⟩ : ∃ x2, x2 = (swapped out k).getD t 0 := ⟨_, rfl⟩
          rw [← hX1] at hc1 hst1 hst2
          rw [← hX2] at hc2 hst1 hst2
          rw [hT]
          replace hT := hid hT
          replace hst1 := hid hst1
          replace hst2 := hid hst2
          have htk : t < len := by omega
          have hkt : k < t := by omega
          clear hX1 hX2 hx1 hx2 hst hlen2 ht hown2
          go_wp2
          go_region
          go_wp2
          go_roundw
          case rel => exact ⟨k + 1, by omega, by go_num, congrArg (Value.int .i64) (by have := hT.out; omega), hst1.out, ((hb2.setCell hg1 _).setCell hg1 _).drew⟩
          case measure => simp [intOf]; omega
        · have hown3 : Own wr w.heap.size 5 .u8 (.slice (some ⟨g, 0, none⟩) len cap) out.reverse := by
            rw [← swapped_end out k (by rw [← hL.out]; omega)]
            exact hown2
          have hcv := conv_own Try.underlying44 Try.underlying5 Try.underlying9 hown3
          have hge : (len : Int) - 1 - k ≤ k := by omega
          clear hown2 hown3
          go_wp2
          go_ret
          exact ⟨by rw [hfin.out]; rfl, hb2⟩
    · obtain ⟨g, h3, h4, h5⟩ := digs_round' h0 ha hf.out hlen hout.out
      replace h3 := hid h3
      replace h5 := hid h5
      have h0' : 0 < a := by omega
      clear h0 hf hout
      go_wp2_with (first | (at_builtin; refine app1 rfl _ _ rfl Try.underlying44 info_u8 (by decide) rfl hown rfl (by omega) (by omega) ?_) | go_in)
      intro v' w' hown' hb' _
      clear hown
      go_wp2
      go_roundw
      case rel => exact ⟨g, a / 10, _, by omega, by omega, rfl, h3, hown', h4, h5, hb.trans hb'⟩
      case measure => simp [intOf]; omega
set_option maxRecDepth 100000 in
theorem iFormatInt_neg (n : Int) (w : World) (h1 : 0 < n) (h2 : n ≤ 9223372036854775808) : Calls Try.prog 37 #[.int .i64 (-n)] w fun e w' => e = .returned (.string (strOfNums (fmtI (-n)))) ∧ Below w.heap.size w w' := by
  have hz : (-n == 0) = false := by rw [beq_eq_false_iff_ne]; omega
  have hz2 : (n == 0) = false := by rw [beq_eq_false_iff_ne]; omega
  have hz3 : decide (-n < 0) = true := by simp; omega
  go_enter Try.func37, Try.ntmps37
  go_wp2
  go_loopw [3, 4] (fun o m wr => ∃ (f : Nat) (a : Int) (out : List Int), 0 ≤ a ∧ a ≤ n ∧ m = .int .i64 (-a) ∧ Hid (a < 10 ^ f) ∧ Own wr w.heap.size 5 .u8 o out ∧ out.length + f ≤ 20 ∧ Hid (out ++ digs f a = digs 20 n) ∧ Below w.heap.size w wr) (fun _ m _ => (-(intOf m)).toNat)
  case atStart => exact ⟨20, n, [], by omega, by omega, rfl, by show n < 10 ^ 20; rw [pow10_20]; omega, Own.empty _ _ _ _ (Nat.le_refl _), by simp, rfl, (Below.refl _ _).alloc (Nat.le_refl _) _⟩
  case round =>
    obtain ⟨f, a, out, ha, han, rfl, hf, hown, hlen, hout, hb⟩ := hrel
    have hsz := hb.size
    by_cases h0 : a = 0
    · subst h0
      have hO := hout.out
      rw [digs_zero, List.append_nil] at hO
      have hfin : fmtI (-n) = (out ++ [45]).reverse := by
        unfold fmtI
        rw [if_neg (by omega), if_pos (by omega)]
        unfold absI
        rw [if_pos (by omega), Int.neg_neg, ← hO]
        simp
      replace hfin := hid hfin
      have hneg : (-(0 : Int) == 0) = true := rfl
      clear hO hout hf
      go_wp2_with (first | (at_builtin; refine app1 rfl _ _ rfl Try.underlying44 info_u8 (by decide) rfl hown rfl (by omega) (by omega) ?_) | go_in)
      intro v' w' hown' hb' _
      clear hown
      replace hb := hb.trans hb'
      clear hb'
      have hlen' : (out ++ [45]).length ≤ 21 := by simp; omega
      have hpl : 0 < (out ++ [45]).length := by simp
      obtain ⟨outm, hOM⟩ : ∃ outm, outm = out ++ [45] := ⟨_, rfl⟩
      rw [← hOM] at hown' hpl hfin hlen'
      clear hOM hlen
      obtain ⟨g, cap, rfl, hg1, hg2, hcap, hcm⟩ := hown'.form hpl
      obtain ⟨len, hL⟩ : ∃ len, len = outm.length := ⟨_, rfl⟩
      rw [← hL] at hown' hcap hpl hlen' ⊢
      have hll : len ≤ 21 := by omega
      clear hlen' hcm
      replace hL := hid hL
      have hown := hown'
      clear hown'
      go_wp2
      obtain ⟨wo, rfl⟩ : ∃ wo : World, wo = w' := ⟨_, rfl⟩
      go_loopw [6, 7] (fun i j wr => ∃ k : Nat, 2 * k ≤ len ∧ i = .int .i64 k ∧ j = .int .i64 ((len : Int) - 1 - k) ∧ Own wr w.heap.size 5 .u8 (.slice (some ⟨g, 0, none⟩) len cap) (swapped outm k) ∧ Below w.heap.size w wr) (fun i _ _ => len - (intOf i).toNat)
      case atStart => exact ⟨0, by omega, rfl, by go_num, by rw [swapped_zero]; exact hown, hb⟩
      case round =>
        obtain ⟨k, hk, rfl, rfl, hown2, hb2⟩ := hrel
        clear hown
        by_cases hlt : 2 * k + 1 < len
        · obtain ⟨t, ht⟩ : ∃ t, t = len - 1 - k := ⟨_, rfl⟩
          have hT : ((len : Int) - 1 - k) = (t : Int) := by omega
          have hlen2 : (swapped outm k).length = len := by rw [swapped_length, ← hL.out]
          have hc1 := hown2.cell k (by omega)
          have hc2 := hown2.cell t (by omega)
          have hf1 := hown2.frozen k
          have hf2 := hown2.frozen t
          have hst := swapped_step outm k (by rw [← hL.out]; exact hlt)
          rw [← hL.out, ← ht] at hst
          have hst1 := (hown2.store k ((swapped outm k).getD t 0)).store t ((swapped outm k).getD k 0)
          have hst2 := (hown2.store t ((swapped outm k).getD k 0)).store k ((swapped outm k).getD t 0)
          rw [hst.1] at hst1
          rw [hst.2] at hst2
          have hx1 : (swapped outm k)[k]'(by omega) = (swapped outm k).getD k 0 := by rw [List.getD_eq_getElem?_getD, List.getElem?_eq_getElem (by omega)]; rfl
          have hx2 : (swapped outm k)[t]'(by omega) = (swapped outm k).getD t 0 := by rw [List.getD_eq_getElem?_getD, List.getElem?_eq_getElem (by omega)]; rfl
          rw [hx1] at hc1
          rw [hx2] at hc2
          obtain ⟨x1, hX1⟩ : ∃ x1, x1 = (swapped outm k).getD k 0 := ⟨_, rfl⟩
          obtain ⟨x2, hX2⟩ : ∃ x2, x2 = (swapped outm k).getD t 0 := ⟨_, rfl⟩
          rw [← hX1] at hc1 hst1 hst2
          rw [← hX2] at hc2 hst1 hst2
          rw [hT]
          replace hT := hid hT
          replace hst1 := hid hst1
          replace hst2 := hid hst2
          have htk : t < len := by omega
          have hkt : k < t := by omega
          clear hX1 hX2 hx1 hx2 hst hlen2 ht hown2
          go_wp2
          go_region
          go_wp2
          go_roundw
          case rel => exact ⟨k + 1, by omega, by go_num, congrArg (Value.int .i64) (by have := hT.out; omega), hst1.out, ((hb2.setCell hg1 _).setCell hg1 _).drew⟩
          case measure => simp [intOf]; omega
        · have hown3 : Own wr w.heap.size 5 .u8 (.slice (some ⟨g, 0, none⟩) len cap) outm.reverse := by
            rw [← swapped_end outm k (by rw [← hL.out]; omega)]
            exact hown2
          have hcv := conv_own Try.underlying44 Try.underlying5 Try.underlying9 hown3
          have hge : (len : Int) - 1 - k ≤ k := by omega
          clear hown2 hown3
          go_wp2
          go_ret
          exact ⟨by rw [hfin.out]; rfl, hb2⟩
    · obtain ⟨g, h3, h4, h5⟩ := digs_round' h0 ha hf.out hlen hout.out
      replace h3 := hid h3
      replace h5 := hid h5
      have h0' : 0 < a := by omega
      have hq : (-a == 0) = false := by rw [beq_eq_false_iff_ne]; omega
      have hq2 : (a == 0) = false := by rw [beq_eq_false_iff_ne]; omega
      have htm := tmod_neg a ha
      have htd := tdiv_neg a ha
      have hr : 0 ≤ a % 10 ∧ a % 10 ≤ 9 := by omega
      obtain ⟨r, hR⟩ : ∃ r, r = a % 10 := ⟨_, rfl⟩
      rw [← hR] at htm hr h4 h5
      clear h0 hf hout hR
      by_cases hr0 : r = 0
      · subst hr0
        go_wp2_with (first | (at_builtin; refine app1 rfl _ _ rfl Try.underlying44 info_u8 (by decide) rfl hown rfl (by omega) (by omega) ?_) | go_in)
        intro v' w' hown' hb' _
        clear hown
        go_wp2
        go_roundw
        case rel => exact ⟨g, a / 10, _, by omega, by omega, rfl, h3, hown', h4, h5, hb.trans hb'⟩
        case measure => simp [intOf]; omega
      have hr1 : 0 < r := by omega
      clear hr0
      go_wp2_with (first | (at_builtin; refine app1 rfl _ _ rfl Try.underlying44 info_u8 (by decide) rfl hown rfl (by omega) (by omega) ?_) | go_in)
      intro v' w' hown' hb' _
      clear hown
      go_wp2
      go_roundw
      case rel => exact ⟨g, a / 10, _, by omega, by omega, rfl, h3, hown', h4, h5, hb.trans hb'⟩
      case measure => simp [intOf]; omega
theorem iFormatInt_any (n : Int) (w : World) (h1 : -9223372036854775808 ≤ n) (h2 : n ≤ 9223372036854775807) : Calls Try.prog 37 #[.int .i64 n] w fun e w' => e = .returned (.string (strOfNums (fmtI n))) ∧ Below w.heap.size w w' := by
  by_cases h0 : n = 0
  · subst h0; exact iFormatInt_zero w
  · by_cases hp : 0 < n
    · exact iFormatInt_pos n w hp h2
    · have := iFormatInt_neg (-n) w (by omega) (by omega)
      rw [Int.neg_neg] at this
      exact this

end Go.Proofs.Ytffbamjfpegndab
