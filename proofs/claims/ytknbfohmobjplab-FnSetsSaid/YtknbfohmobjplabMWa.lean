/- Parts of the walk in one text: W7, W8, W9. Conditions: each theorem's own. -/
import Derived.Test.YtknbfohmobjplabMKt
import Derived.Test.YtknbfohmobjplabMPl
import Derived.Deep.RegionWith
import Derived.Test.YtknbfohmobjplabW3
namespace Go.Proofs.Ytknbfohmobjplab
open Go.RowKit

theorem toList_strOfNums (l : List Int) : (strOfNums l).toList = toB l := by
  unfold strOfNums
  rw [ByteArray.toList_mk]
  rfl
theorem toList_prefix (s : ByteArray) (m : Nat) : (s.extract 0 m).toList = toB ((sI s).take m) := by
  obtain ⟨d⟩ := s
  obtain ⟨d⟩ := d
  rw [ByteArray.extract_mk, ByteArray.toList_mk]
  unfold sI
  rw [← bI_take, toB_bI]
  rfl
/-- a text against the head of another one -/
theorem eq_prefix (l : List Int) (hl : IsB l) (s : ByteArray) (m : Nat) : ((strOfNums l).toList == (s.extract 0 m).toList) = decide (l = (sI s).take m) := by
  rw [toList_strOfNums, toList_prefix, Bool.eq_iff_iff, beq_iff_eq, decide_eq_true_iff]
  exact ⟨fun h => toB_inj hl (isB_take (isB_sI s) m) h, fun h => by rw [h]⟩
theorem encVarint_leb (l : List Int) (h : l.length ≤ 7) : encVarint (leb l) = encVar 6 (leb l) := by
  have := leb_small l h
  unfold encVarint
  rw [if_pos (by omega)]
theorem isB_encVarint_leb (l : List Int) (h : l.length ≤ 7) : IsB (encVarint (leb l)) := by
  have := leb_small l h
  rw [encVarint_leb l h]
  exact encVar_isB 6 _ this.1 (by rw [pow128_7]; omega)
theorem len_take (s : ByteArray) (k : Nat) (hk : k ≤ s.size) : ((sI s).take k).length = k := by rw [List.length_take, sI_length]; omega

theorem and127 (b : Int) (h : 0 ≤ b ∧ b ≤ 255) : bits .and .u8 b 127 = b % 128 := by
  obtain ⟨a, rfl⟩ := Int.eq_ofNat_of_zero_le h.1
  rw [show (127 : Int) = ((127 : Nat) : Int) from rfl, u8_and_nat a 127 (by omega) (by omega), nat_mask7]
  simp
end Go.Proofs.Ytknbfohmobjplab

namespace Go.Proofs.Ytknbfohmobjplab
open Go.RowKit

theorem eq_whole (l : List Int) (hl : IsB l) (s : ByteArray) : ((strOfNums l).toList == s.toList) = decide (l = sI s) := by
  have e : s.toList = toB (sI s) := by rw [ByteArray.toList_eq]; exact (toB_bI _).symm
  rw [toList_strOfNums, e, Bool.eq_iff_iff, beq_iff_eq, decide_eq_true_iff]
  exact ⟨fun h => toB_inj hl (isB_sI s) h, fun h => by rw [h]⟩
theorem isMinus_s (s : ByteArray) (h : 0 < s.size) : isMinus (sI s) = ((s[0].toNat : Int) == 45) := by
  have h1 := sI_get s 0 h
  have hl : 0 < (sI s).length := by rw [sI_length]; exact h
  cases hs : sI s with
  | nil => rw [hs] at hl; simp at hl
  | cons a t =>
    simp only [hs, List.getElem_cons_zero] at h1
    rw [← h1]
    simp [isMinus]
theorem isMinus_empty (s : ByteArray) (h : s.size = 0) : isMinus (sI s) = false := by
  have : (sI s).length = 0 := by rw [sI_length]; exact h
  rw [List.eq_nil_of_length_eq_zero this]
  rfl
theorem digB (b : UInt8) : 0 ≤ (b.toNat : Int) ∧ (b.toNat : Int) ≤ 255 := by have := b.toNat_lt; omega
theorem val_small (l : List Int) (h : IsD l) (hl : l.length ≤ 11) : 0 ≤ val l ∧ val l < 100000000000 := by
  have h1 := val_bd l h
  have h2 : (10 : Int) ^ l.length ≤ 100000000000 := by
    generalize l.length = m at hl
    match m, hl with
    | 0, _ | 1, _ | 2, _ | 3, _ | 4, _ | 5, _ | 6, _ | 7, _ | 8, _ | 9, _ | 10, _ | 11, _ => decide
  omega

set_option maxRecDepth 100000 in
set_option maxHeartbeats 1600000 in
/-- the reference: behind its loop -/
theorem sParseInt_any (s : ByteArray) (w : World) (hs : s.size ≤ 1099511627776) :
    Calls Try.prog 85 #[.string s] w fun e w' => e = .returned (.tuple #[.int .i64 (parseR (sI s)).1, .bool (parseR (sI s)).2]) ∧ Below w.heap.size w w' := by
  go_enter Try.func85, Try.ntmps85
  go_wp2
  go_loop [4, 5, 6] (fun n c i => ∃ k : Nat, k ≤ s.size ∧ k ≤ 11 ∧ i = .int .i64 k ∧ n = .int .i64 (val (((sI s).take k).filter isDig)) ∧ c = .int .i64 (((sI s).take k).filter isDig).length) (fun _ _ i => 11 - (intOf i).toNat)
  case atStart => exact ⟨0, by omega, by omega, rfl, rfl, rfl⟩
  case round =>
    obtain ⟨k, hk, hk11, rfl, rfl, rfl⟩ := hrel
    have hD : IsD (((sI s).take k).filter isDig) := fun x hx => of_decide_eq_true (List.mem_filter.1 hx).2
    have hfl : (((sI s).take k).filter isDig).length ≤ k := Nat.le_trans (List.length_filter_le _ _) (by rw [List.length_take]; omega)
    have hv := val_small _ hD (by omega)
    by_cases hgo : k < s.size ∧ k < 11
    · obtain ⟨hlt, h11⟩ := hgo
      have hb := digB s[k]
      have hst := filter_step (sI s) k (by rw [sI_length]; exact hlt)
      rw [sI_get s k hlt] at hst
      obtain ⟨l, hl⟩ : ∃ l, l = ((sI s).take k).filter isDig := ⟨_, rfl⟩
      rw [← hl] at hfl hv hst ⊢
      have hvs := hid (val_snoc l s[k].toNat)
      obtain ⟨m, hm⟩ : ∃ m, m = val l := ⟨_, rfl⟩
      obtain ⟨c, hc⟩ : ∃ c, c = l.length := ⟨_, rfl⟩
      rw [← hm] at hv ⊢
      rw [← hc] at hfl ⊢
      replace hm := hid hm
      replace hc := hid hc
      replace hl := hid hl
      clear hD
      by_cases hd1 : 48 ≤ (s[k].toNat : Int)
      · by_cases hd2 : (s[k].toNat : Int) ≤ 57
        · have he := hid (hst.1 (decide_eq_true ⟨hd1, hd2⟩))
          clear hst
          have hsub : IntKind.u8.wrap ((s[k].toNat : Int) - 48) = s[k].toNat - 48 := IntWalk.u8_in _ (by omega)
          go_wp2
          go_round
          case rel => exact ⟨k + 1, by omega, by omega, by go_num, by rw [he.out, hvs.out, ← hm.out]; exact congrArg (Value.int .i64) (by omega), by rw [he.out, List.length_append, ← hc.out]; rfl⟩
          case measure => simp [intOf]; omega
        · have he := hid (hst.2 (decide_eq_false (by omega)))
          clear hst
          go_wp2
          go_round
          case rel => exact ⟨k + 1, by omega, by omega, by go_num, by rw [he.out, ← hm.out], by rw [he.out, ← hc.out]⟩
          case measure => simp [intOf]; omega
      · have he := hid (hst.2 (decide_eq_false (by omega)))
        clear hst
        go_wp2
        go_round
        case rel => exact ⟨k + 1, by omega, by omega, by go_num, by rw [he.out, ← hm.out], by rw [he.out, ← hc.out]⟩
        case measure => simp [intOf]; omega
    · have e : (sI s).take k = (sI s).take 11 := by
        by_cases h11 : k = 11
        · rw [h11]
        · rw [List.take_of_length_le (by rw [sI_length]; omega), List.take_of_length_le (by rw [sI_length]; omega)]
      rw [e] at hfl hv hD ⊢
      have hdl := dsOf_length (sI s)
      have hfold : ((sI s).take 11).filter isDig = dsOf (sI s) := rfl
      rw [hfold] at hfl hv ⊢
      have hnb := numS_bd (sI s)
      have hyes := parseS_yes (sI s)
      have hnot := parseS_no (sI s)
      have hcmp := eq_whole (fmtI (numS (sI s))) (fmtI_isB _) s
      rw [sI_length] at hyes hnot
      have hsg : numS (sI s) = if isMinus (sI s) then - val (dsOf (sI s)) else val (dsOf (sI s)) := rfl
      obtain ⟨m, hm⟩ : ∃ m, m = val (dsOf (sI s)) := ⟨_, rfl⟩
      obtain ⟨c, hc⟩ : ∃ c, c = (dsOf (sI s)).length := ⟨_, rfl⟩
      obtain ⟨r, hr⟩ : ∃ r, r = numS (sI s) := ⟨_, rfl⟩
      rw [← hr] at hnb hyes hnot hcmp hsg
      rw [← hm] at hv hsg ⊢
      rw [← hc] at hfl hdl hyes hnot ⊢
      clear hr hm hc hfold e hD
      by_cases hlt : k < s.size
      · have h11 : ¬ k < 11 := by omega
        clear hgo
        by_cases hp : 0 < s.size
        · have hB0 := digB s[0]
          rw [isMinus_s s hp] at hsg
          by_cases h45 : (s[0].toNat : Int) = 45
          · have ht : ((s[0].toNat : Int) == 45) = true := by rw [beq_iff_eq]; exact h45
            rw [ht, if_pos rfl] at hsg
            subst hsg
            clear h45
            by_cases c9 : c ≤ 9
            · by_cases c10 : s.size ≤ 10
              · by_cases cf : fmtI (-m) = sI s
                · have hP := hid (parseR_some (hyes c9 c10 cf))
                  rw [decide_eq_true cf] at hcmp
                  clear hyes hnot cf
                  go_wp2_with (go_at_call 86; refine (sFormatInt_any (-m) _ (by omega) (by omega)).mono ?_; rintro e w' ⟨rfl, hb'⟩)
                  all_goals
                    go_ret2
                    exact ⟨by rw [hP.out]; first | done | rfl, hb'⟩
                · have hP := hid (parseR_none (hnot fun h => cf h.2.2))
                  rw [decide_eq_false cf] at hcmp
                  clear hyes hnot cf
                  go_wp2_with (go_at_call 86; refine (sFormatInt_any (-m) _ (by omega) (by omega)).mono ?_; rintro e w' ⟨rfl, hb'⟩)
                  all_goals
                    go_ret2
                    exact ⟨by rw [hP.out]; first | done | rfl, hb'⟩
              · have hP := hid (parseR_none (hnot fun h => c10 h.2.1))
                clear hyes hnot hcmp
                go_wp2_with (fail)
                all_goals
                  go_ret2
                  exact ⟨by rw [hP.out]; first | done | rfl, Below.refl _ _⟩
            · have hP := hid (parseR_none (hnot fun h => c9 h.1))
              clear hyes hnot hcmp
              go_wp2_with (fail)
              all_goals
                go_ret2
                exact ⟨by rw [hP.out]; first | done | rfl, Below.refl _ _⟩
          · have ht : ((s[0].toNat : Int) == 45) = false := by rw [beq_eq_false_iff_ne]; exact h45
            rw [ht, if_neg (by simp)] at hsg
            subst hsg
            clear h45
            by_cases c9 : c ≤ 9
            · by_cases c10 : s.size ≤ 10
              · by_cases cf : fmtI (r) = sI s
                · have hP := hid (parseR_some (hyes c9 c10 cf))
                  rw [decide_eq_true cf] at hcmp
                  clear hyes hnot cf
                  go_wp2_with (go_at_call 86; refine (sFormatInt_any (r) _ (by omega) (by omega)).mono ?_; rintro e w' ⟨rfl, hb'⟩)
                  all_goals
                    go_ret2
                    exact ⟨by rw [hP.out]; first | done | rfl, hb'⟩
                · have hP := hid (parseR_none (hnot fun h => cf h.2.2))
                  rw [decide_eq_false cf] at hcmp
                  clear hyes hnot cf
                  go_wp2_with (go_at_call 86; refine (sFormatInt_any (r) _ (by omega) (by omega)).mono ?_; rintro e w' ⟨rfl, hb'⟩)
                  all_goals
                    go_ret2
                    exact ⟨by rw [hP.out]; first | done | rfl, hb'⟩
              · have hP := hid (parseR_none (hnot fun h => c10 h.2.1))
                clear hyes hnot hcmp
                go_wp2_with (fail)
                all_goals
                  go_ret2
                  exact ⟨by rw [hP.out]; first | done | rfl, Below.refl _ _⟩
            · have hP := hid (parseR_none (hnot fun h => c9 h.1))
              clear hyes hnot hcmp
              go_wp2_with (fail)
              all_goals
                go_ret2
                exact ⟨by rw [hP.out]; first | done | rfl, Below.refl _ _⟩
        · rw [isMinus_empty s (by omega), if_neg (by simp)] at hsg
          subst hsg
          by_cases c9 : c ≤ 9
          · by_cases c10 : s.size ≤ 10
            · by_cases cf : fmtI (r) = sI s
              · have hP := hid (parseR_some (hyes c9 c10 cf))
                rw [decide_eq_true cf] at hcmp
                clear hyes hnot cf
                go_wp2_with (go_at_call 86; refine (sFormatInt_any (r) _ (by omega) (by omega)).mono ?_; rintro e w' ⟨rfl, hb'⟩)
                all_goals
                  go_ret2
                  exact ⟨by rw [hP.out]; first | done | rfl, hb'⟩
              · have hP := hid (parseR_none (hnot fun h => cf h.2.2))
                rw [decide_eq_false cf] at hcmp
                clear hyes hnot cf
                go_wp2_with (go_at_call 86; refine (sFormatInt_any (r) _ (by omega) (by omega)).mono ?_; rintro e w' ⟨rfl, hb'⟩)
                all_goals
                  go_ret2
                  exact ⟨by rw [hP.out]; first | done | rfl, hb'⟩
            · have hP := hid (parseR_none (hnot fun h => c10 h.2.1))
              clear hyes hnot hcmp
              go_wp2_with (fail)
              all_goals
                go_ret2
                exact ⟨by rw [hP.out]; first | done | rfl, Below.refl _ _⟩
          · have hP := hid (parseR_none (hnot fun h => c9 h.1))
            clear hyes hnot hcmp
            go_wp2_with (fail)
            all_goals
              go_ret2
              exact ⟨by rw [hP.out]; first | done | rfl, Below.refl _ _⟩
      · clear hgo
        by_cases hp : 0 < s.size
        · have hB0 := digB s[0]
          rw [isMinus_s s hp] at hsg
          by_cases h45 : (s[0].toNat : Int) = 45
          · have ht : ((s[0].toNat : Int) == 45) = true := by rw [beq_iff_eq]; exact h45
            rw [ht, if_pos rfl] at hsg
            subst hsg
            clear h45
            by_cases c9 : c ≤ 9
            · by_cases c10 : s.size ≤ 10
              · by_cases cf : fmtI (-m) = sI s
                · have hP := hid (parseR_some (hyes c9 c10 cf))
                  rw [decide_eq_true cf] at hcmp
                  clear hyes hnot cf
                  go_wp2_with (go_at_call 86; refine (sFormatInt_any (-m) _ (by omega) (by omega)).mono ?_; rintro e w' ⟨rfl, hb'⟩)
                  all_goals
                    go_ret2
                    exact ⟨by rw [hP.out]; first | done | rfl, hb'⟩
                · have hP := hid (parseR_none (hnot fun h => cf h.2.2))
                  rw [decide_eq_false cf] at hcmp
                  clear hyes hnot cf
                  go_wp2_with (go_at_call 86; refine (sFormatInt_any (-m) _ (by omega) (by omega)).mono ?_; rintro e w' ⟨rfl, hb'⟩)
                  all_goals
                    go_ret2
                    exact ⟨by rw [hP.out]; first | done | rfl, hb'⟩
              · have hP := hid (parseR_none (hnot fun h => c10 h.2.1))
                clear hyes hnot hcmp
                go_wp2_with (fail)
                all_goals
                  go_ret2
                  exact ⟨by rw [hP.out]; first | done | rfl, Below.refl _ _⟩
            · have hP := hid (parseR_none (hnot fun h => c9 h.1))
              clear hyes hnot hcmp
              go_wp2_with (fail)
              all_goals
                go_ret2
                exact ⟨by rw [hP.out]; first | done | rfl, Below.refl _ _⟩
          · have ht : ((s[0].toNat : Int) == 45) = false := by rw [beq_eq_false_iff_ne]; exact h45
            rw [ht, if_neg (by simp)] at hsg
            subst hsg
            clear h45
            by_cases c9 : c ≤ 9
            · by_cases c10 : s.size ≤ 10
              · by_cases cf : fmtI (r) = sI s
                · have hP := hid (parseR_some (hyes c9 c10 cf))
                  rw [decide_eq_true cf] at hcmp
                  clear hyes hnot cf
                  go_wp2_with (go_at_call 86; refine (sFormatInt_any (r) _ (by omega) (by omega)).mono ?_; rintro e w' ⟨rfl, hb'⟩)
                  all_goals
                    go_ret2
                    exact ⟨by rw [hP.out]; first | done | rfl, hb'⟩
                · have hP := hid (parseR_none (hnot fun h => cf h.2.2))
                  rw [decide_eq_false cf] at hcmp
                  clear hyes hnot cf
                  go_wp2_with (go_at_call 86; refine (sFormatInt_any (r) _ (by omega) (by omega)).mono ?_; rintro e w' ⟨rfl, hb'⟩)
                  all_goals
                    go_ret2
                    exact ⟨by rw [hP.out]; first | done | rfl, hb'⟩
              · have hP := hid (parseR_none (hnot fun h => c10 h.2.1))
                clear hyes hnot hcmp
                go_wp2_with (fail)
                all_goals
                  go_ret2
                  exact ⟨by rw [hP.out]; first | done | rfl, Below.refl _ _⟩
            · have hP := hid (parseR_none (hnot fun h => c9 h.1))
              clear hyes hnot hcmp
              go_wp2_with (fail)
              all_goals
                go_ret2
                exact ⟨by rw [hP.out]; first | done | rfl, Below.refl _ _⟩
        · rw [isMinus_empty s (by omega), if_neg (by simp)] at hsg
          subst hsg
          by_cases c9 : c ≤ 9
          · by_cases c10 : s.size ≤ 10
            · by_cases cf : fmtI (r) = sI s
              · have hP := hid (parseR_some (hyes c9 c10 cf))
                rw [decide_eq_true cf] at hcmp
                clear hyes hnot cf
                go_wp2_with (go_at_call 86; refine (sFormatInt_any (r) _ (by omega) (by omega)).mono ?_; rintro e w' ⟨rfl, hb'⟩)
                all_goals
                  go_ret2
                  exact ⟨by rw [hP.out]; first | done | rfl, hb'⟩
              · have hP := hid (parseR_none (hnot fun h => cf h.2.2))
                rw [decide_eq_false cf] at hcmp
                clear hyes hnot cf
                go_wp2_with (go_at_call 86; refine (sFormatInt_any (r) _ (by omega) (by omega)).mono ?_; rintro e w' ⟨rfl, hb'⟩)
                all_goals
                  go_ret2
                  exact ⟨by rw [hP.out]; first | done | rfl, hb'⟩
            · have hP := hid (parseR_none (hnot fun h => c10 h.2.1))
              clear hyes hnot hcmp
              go_wp2_with (fail)
              all_goals
                go_ret2
                exact ⟨by rw [hP.out]; first | done | rfl, Below.refl _ _⟩
          · have hP := hid (parseR_none (hnot fun h => c9 h.1))
            clear hyes hnot hcmp
            go_wp2_with (fail)
            all_goals
              go_ret2
              exact ⟨by rw [hP.out]; first | done | rfl, Below.refl _ _⟩

end Go.Proofs.Ytknbfohmobjplab

namespace Go.Proofs.Ytknbfohmobjplab
open Go.RowKit

/-- a byte that is no digit -/
theorem parseI_bad (l : List Int) (A k : Nat) (hA : digitsOf l = l.drop A) (hk : k < l.length) (hAk : A ≤ k) (h : ¬ (48 ≤ l[k] ∧ l[k] ≤ 57)) : parseI l = none := by
  unfold parseI
  rw [if_neg]
  intro hc
  have hd := okDigits_isD hc.2.2.1
  rw [hA] at hd
  have hm : l[k] ∈ l.drop A := by
    rw [List.mem_iff_getElem]
    exact ⟨k - A, by rw [List.length_drop]; omega, by rw [List.getElem_drop]; congr 1; omega⟩
  exact h (hd _ hm)
theorem parseI_len (l : List Int) (A : Nat) (hA : digitsOf l = l.drop A) (h : ¬ (1 ≤ l.length - A ∧ l.length - A ≤ 9)) : parseI l = none := by
  unfold parseI
  rw [if_neg]
  intro hc
  rw [hA, List.length_drop] at hc
  exact h ⟨hc.1, hc.2.1⟩
theorem parseI_end (l : List Int) (A : Nat) (hA : digitsOf l = l.drop A) (hl : 1 ≤ l.length - A ∧ l.length - A ≤ 9) (hD : IsD (l.drop A)) : parseI l = if fmtI (numOf l) = l then some (numOf l) else none := by
  unfold parseI
  rw [hA, List.length_drop]
  by_cases hf : fmtI (numOf l) = l
  · rw [if_pos hf, if_pos ⟨hl.1, hl.2, okDigits_of hD, hf⟩]
  · rw [if_neg hf, if_neg fun hc => hf hc.2.2.2]
theorem drop_snoc (l : List Int) (A k : Nat) (hAk : A ≤ k) (hk : k < l.length) : (l.take (k + 1)).drop A = (l.take k).drop A ++ [l[k]] := by
  rw [take_succ_get l k hk, List.drop_append_of_le_length (by rw [List.length_take]; omega)]

set_option maxRecDepth 100000 in
set_option maxHeartbeats 1600000 in
theorem iParseInt_z (s : ByteArray) (w : World) (hs : s.size ≤ 1099511627776) (hp : 0 < s.size) (hmin : isMinus (sI s) = false) :
    Calls Try.prog 79 #[.string s] w fun e w' => e = .returned (.tuple #[.int .i64 (parseR (sI s)).1, .bool (parseR (sI s)).2]) ∧ Below w.heap.size w w' := by
  have hA : digitsOf (sI s) = (sI s).drop 0 := by
    unfold digitsOf
    rw [hmin]
    simp
  have hN : numOf (sI s) = if (false = true) then - val ((sI s).drop 0) else val ((sI s).drop 0) := by
    unfold numOf
    rw [hmin, hA]
  have hbad := parseI_bad (sI s) 0
  have hlen := parseI_len (sI s) 0 hA
  have hend := parseI_end (sI s) 0 hA
  rw [sI_length] at hlen hend
  have hB0 := digB s[0]
  have ht : ((s[0].toNat : Int) == 45) = false := by rw [← isMinus_s s hp]; exact hmin
  clear hmin
  by_cases hl : 1 ≤ s.size - 0 ∧ s.size - 0 ≤ 9
  · replace hend := hend hl
    clear hlen
    replace hend := hid hend
    replace hbad := hid hbad
    replace hA := hid hA
    replace hN := hid hN
    go_enter Try.func79, Try.ntmps79
    go_wp2_with (go_at_call 72; refine (iwithin_yes _ _ _ (by omega) _).mono ?_; rintro e w' ⟨rfl, rfl⟩)
    go_loop [5, 6] (fun n i => ∃ k : Nat, 0 ≤ k ∧ k ≤ s.size ∧ i = .int .i64 k ∧ n = .int .i64 (val (((sI s).take k).drop 0)) ∧ Hid (IsD (((sI s).take k).drop 0))) (fun _ i => s.size - (intOf i).toNat)
    case atStart => exact ⟨0, by omega, by omega, rfl, by rw [List.drop_eq_nil_of_le (by rw [List.length_take]; omega)]; rfl, fun x hx => by rw [List.drop_eq_nil_of_le (by rw [List.length_take]; omega)] at hx; cases hx⟩
    case round =>
      obtain ⟨k, hAk, hk, rfl, rfl, hD⟩ := hrel
      have hlk : (((sI s).take k).drop 0).length ≤ 9 := by rw [List.length_drop, List.length_take, sI_length]; omega
      have hv := val_small _ hD.out (by omega)
      by_cases hlt : k < s.size
      · have hb := digB s[k]
        have hsn := drop_snoc (sI s) 0 k hAk (by rw [sI_length]; exact hlt)
        have hbk := hbad.out k hA.out (by rw [sI_length]; exact hlt) hAk
        rw [sI_get s k hlt] at hsn hbk
        have hvs := hid (val_snoc (((sI s).take k).drop 0) s[k].toNat)
        rw [← hsn] at hvs
        by_cases hd : 48 ≤ (s[k].toNat : Int) ∧ (s[k].toNat : Int) ≤ 57
        · have hD2 : Hid (IsD (((sI s).take (k + 1)).drop 0)) := by
            intro x hx
            rw [hsn] at hx
            rcases List.mem_append.1 hx with hx | hx
            · exact hD.out x hx
            · rw [List.mem_singleton.1 hx]; exact hd
          obtain ⟨m, hm⟩ : ∃ m, m = val (((sI s).take k).drop 0) := ⟨_, rfl⟩
          rw [← hm] at hv hvs ⊢
          clear hsn hbk hm hD hlk
          obtain ⟨hd1, hd2⟩ := hd
          have hsub : IntKind.u8.wrap ((s[k].toNat : Int) - 48) = s[k].toNat - 48 := IntWalk.u8_in _ (by omega)
          go_wp2
          go_round
          case rel => exact ⟨k + 1, by omega, by omega, by go_num, by rw [hvs.out], hD2⟩
          case measure => simp [intOf]; omega
        · have hP := hid (parseR_none (hbk hd))
          clear hsn hbk hvs hD hlk
          by_cases hd1 : 48 ≤ (s[k].toNat : Int)
          · have hd2 : ¬ (s[k].toNat : Int) ≤ 57 := fun h => hd ⟨hd1, h⟩
            clear hd
            go_wp2
            go_ret2
            exact ⟨by rw [hP.out]; first | done | rfl, Below.refl _ _⟩
          · clear hd
            go_wp2
            go_ret2
            exact ⟨by rw [hP.out]; first | done | rfl, Below.refl _ _⟩
      · have e : (sI s).take k = sI s := List.take_of_length_le (by rw [sI_length]; omega)
        rw [e] at hv hD ⊢
        have hE := hend.out hD.out
        have hcmp := eq_whole (fmtI (numOf (sI s))) (fmtI_isB _) s
        rw [hN.out] at hcmp hE
        first | simp only [if_true] at hcmp hE | simp only [Bool.false_eq_true, if_false] at hcmp hE
        obtain ⟨m, hm⟩ : ∃ m, m = val ((sI s).drop 0) := ⟨_, rfl⟩
        rw [← hm] at hv hcmp hE ⊢
        clear hm e hlk hD hend hbad hA hN
        obtain ⟨r, hr⟩ : ∃ r, r = m := ⟨_, rfl⟩
        by_cases hf : fmtI (m) = sI s
        · rw [if_pos hf] at hE
          have hP := hid (parseR_some hE)
          rw [decide_eq_true hf] at hcmp
          clear hE hf hr
          go_wp2_with (go_at_call 76; refine (iFormatInt_any (m) _ (by omega) (by omega)).mono ?_; rintro e w' ⟨rfl, hb'⟩)
          go_ret2
          exact ⟨by rw [hP.out]; first | done | rfl, hb'⟩
        · rw [if_neg hf] at hE
          have hP := hid (parseR_none hE)
          rw [decide_eq_false hf] at hcmp
          clear hE hf hr
          go_wp2_with (go_at_call 76; refine (iFormatInt_any (m) _ (by omega) (by omega)).mono ?_; rintro e w' ⟨rfl, hb'⟩)
          go_ret2
          exact ⟨by rw [hP.out]; first | done | rfl, hb'⟩
  · have hP := hid (parseR_none (hlen hl))
    clear hlen hend hbad hA hN
    go_enter Try.func79, Try.ntmps79
    go_wp2_with (go_at_call 72; refine (iwithin_no _ _ _ (by omega) _).mono ?_; rintro e w' ⟨rfl, rfl⟩)
    go_ret2
    exact ⟨by rw [hP.out]; first | done | rfl, Below.refl _ _⟩
set_option maxRecDepth 100000 in
set_option maxHeartbeats 1600000 in
theorem iParseInt_n (s : ByteArray) (w : World) (hs : s.size ≤ 1099511627776) (hp : 0 < s.size) (hmin : isMinus (sI s) = true) :
    Calls Try.prog 79 #[.string s] w fun e w' => e = .returned (.tuple #[.int .i64 (parseR (sI s)).1, .bool (parseR (sI s)).2]) ∧ Below w.heap.size w w' := by
  have hA : digitsOf (sI s) = (sI s).drop 1 := by
    unfold digitsOf
    rw [hmin]
    simp
  have hN : numOf (sI s) = if (true = true) then - val ((sI s).drop 1) else val ((sI s).drop 1) := by
    unfold numOf
    rw [hmin, hA]
  have hbad := parseI_bad (sI s) 1
  have hlen := parseI_len (sI s) 1 hA
  have hend := parseI_end (sI s) 1 hA
  rw [sI_length] at hlen hend
  have hB0 := digB s[0]
  have ht : ((s[0].toNat : Int) == 45) = true := by rw [← isMinus_s s hp]; exact hmin
  clear hmin
  by_cases hl : 1 ≤ s.size - 1 ∧ s.size - 1 ≤ 9
  · replace hend := hend hl
    clear hlen
    replace hend := hid hend
    replace hbad := hid hbad
    replace hA := hid hA
    replace hN := hid hN
    go_enter Try.func79, Try.ntmps79
    go_wp2_with (go_at_call 72; refine (iwithin_yes _ _ _ (by omega) _).mono ?_; rintro e w' ⟨rfl, rfl⟩)
    go_loop [5, 6] (fun n i => ∃ k : Nat, 1 ≤ k ∧ k ≤ s.size ∧ i = .int .i64 k ∧ n = .int .i64 (val (((sI s).take k).drop 1)) ∧ Hid (IsD (((sI s).take k).drop 1))) (fun _ i => s.size - (intOf i).toNat)
    case atStart => exact ⟨1, by omega, by omega, rfl, by rw [List.drop_eq_nil_of_le (by rw [List.length_take]; omega)]; rfl, fun x hx => by rw [List.drop_eq_nil_of_le (by rw [List.length_take]; omega)] at hx; cases hx⟩
    case round =>
      obtain ⟨k, hAk, hk, rfl, rfl, hD⟩ := hrel
      have hlk : (((sI s).take k).drop 1).length ≤ 9 := by rw [List.length_drop, List.length_take, sI_length]; omega
      have hv := val_small _ hD.out (by omega)
      by_cases hlt : k < s.size
      · have hb := digB s[k]
        have hsn := drop_snoc (sI s) 1 k hAk (by rw [sI_length]; exact hlt)
        have hbk := hbad.out k hA.out (by rw [sI_length]; exact hlt) hAk
        rw [sI_get s k hlt] at hsn hbk
        have hvs := hid (val_snoc (((sI s).take k).drop 1) s[k].toNat)
        rw [← hsn] at hvs
        by_cases hd : 48 ≤ (s[k].toNat : Int) ∧ (s[k].toNat : Int) ≤ 57
        · have hD2 : Hid (IsD (((sI s).take (k + 1)).drop 1)) := by
            intro x hx
            rw [hsn] at hx
            rcases List.mem_append.1 hx with hx | hx
            · exact hD.out x hx
            · rw [List.mem_singleton.1 hx]; exact hd
          obtain ⟨m, hm⟩ : ∃ m, m = val (((sI s).take k).drop 1) := ⟨_, rfl⟩
          rw [← hm] at hv hvs ⊢
          clear hsn hbk hm hD hlk
          obtain ⟨hd1, hd2⟩ := hd
          have hsub : IntKind.u8.wrap ((s[k].toNat : Int) - 48) = s[k].toNat - 48 := IntWalk.u8_in _ (by omega)
          go_wp2
          go_round
          case rel => exact ⟨k + 1, by omega, by omega, by go_num, by rw [hvs.out], hD2⟩
          case measure => simp [intOf]; omega
        · have hP := hid (parseR_none (hbk hd))
          clear hsn hbk hvs hD hlk
          by_cases hd1 : 48 ≤ (s[k].toNat : Int)
          · have hd2 : ¬ (s[k].toNat : Int) ≤ 57 := fun h => hd ⟨hd1, h⟩
            clear hd
            go_wp2
            go_ret2
            exact ⟨by rw [hP.out]; first | done | rfl, Below.refl _ _⟩
          · clear hd
            go_wp2
            go_ret2
            exact ⟨by rw [hP.out]; first | done | rfl, Below.refl _ _⟩
      · have e : (sI s).take k = sI s := List.take_of_length_le (by rw [sI_length]; omega)
        rw [e] at hv hD ⊢
        have hE := hend.out hD.out
        have hcmp := eq_whole (fmtI (numOf (sI s))) (fmtI_isB _) s
        rw [hN.out] at hcmp hE
        first | simp only [if_true] at hcmp hE | simp only [Bool.false_eq_true, if_false] at hcmp hE
        obtain ⟨m, hm⟩ : ∃ m, m = val ((sI s).drop 1) := ⟨_, rfl⟩
        rw [← hm] at hv hcmp hE ⊢
        clear hm e hlk hD hend hbad hA hN
        obtain ⟨r, hr⟩ : ∃ r, r = -m := ⟨_, rfl⟩
        by_cases hf : fmtI (-m) = sI s
        · rw [if_pos hf] at hE
          have hP := hid (parseR_some hE)
          rw [decide_eq_true hf] at hcmp
          clear hE hf hr
          go_wp2_with (go_at_call 76; refine (iFormatInt_any (-m) _ (by omega) (by omega)).mono ?_; rintro e w' ⟨rfl, hb'⟩)
          go_ret2
          exact ⟨by rw [hP.out]; first | done | rfl, hb'⟩
        · rw [if_neg hf] at hE
          have hP := hid (parseR_none hE)
          rw [decide_eq_false hf] at hcmp
          clear hE hf hr
          go_wp2_with (go_at_call 76; refine (iFormatInt_any (-m) _ (by omega) (by omega)).mono ?_; rintro e w' ⟨rfl, hb'⟩)
          go_ret2
          exact ⟨by rw [hP.out]; first | done | rfl, hb'⟩
  · have hP := hid (parseR_none (hlen hl))
    clear hlen hend hbad hA hN
    go_enter Try.func79, Try.ntmps79
    go_wp2_with (go_at_call 72; refine (iwithin_no _ _ _ (by omega) _).mono ?_; rintro e w' ⟨rfl, rfl⟩)
    go_ret2
    exact ⟨by rw [hP.out]; first | done | rfl, Below.refl _ _⟩

theorem iParseInt_any (s : ByteArray) (w : World) (hs : s.size ≤ 1099511627776) :
    Calls Try.prog 79 #[.string s] w fun e w' => e = .returned (.tuple #[.int .i64 (parseR (sI s)).1, .bool (parseR (sI s)).2]) ∧ Below w.heap.size w w' := by
  by_cases hp : 0 < s.size
  · cases hm : isMinus (sI s) with
    | false => exact iParseInt_z s w hs hp hm
    | true => exact iParseInt_n s w hs hp hm
  · have h0 : sI s = [] := List.eq_nil_of_length_eq_zero (by rw [sI_length]; omega)
    rw [h0]
    have hP := hid (show parseR [] = (0, false) from rfl)
    clear h0
    go_enter Try.func79, Try.ntmps79
    go_wp2_with (go_at_call 72; refine (iwithin_no _ _ _ (by omega) _).mono ?_; rintro e w' ⟨rfl, rfl⟩)
    go_ret2
    exact ⟨by rw [hP.out]; first | done | rfl, Below.refl _ _⟩

end Go.Proofs.Ytknbfohmobjplab
