
/- What ParseInt computes, the program's and the reference's. Conditions: strings of at most 2^40 bytes. -/
import Derived.Test.YtffbamjfpegndabW7
import Derived.Test.YtffbamjfpegndabW3
namespace Go.Proofs.Ytffbamjfpegndab
open Go.RowKit

theorem eq_whole (l : List Int) (hl : IsB l) (s : ByteArray) : ((strOfNums l).toList == s.toList) = decide (l = sI s) := by
  have e : s.toList = toB (sI s) := by rw [ByteArray.toList_eq]; exact (toB_bI _).symm
  rw [toList_strOfNums, e, Bool.eq_iff_iff, beq_iff_eq, decide_eq_true_iff]
  exact ⟨fun h => toB_inj hl (isB_sI s) h, fun h => by rw [h]⟩
theorem isMinus_s (s : ByteArray) (h : 0 < s.size) : isMinus (sI s) = ((s[0].toNat : Int) == 45) := by
  have h1 := sI_get s 0 h
  have hl : 0 < (sI s).length := by rw [sI_length]; exact h
  cases hs : sI s with
  | nil => rw [hs] at hl; simp at hl
  | cons a t =>
    simp only [hs, List.getElem_cons_zero] at h1
    rw [← h1]
    simp [isMinus]
theorem isMinus_empty (s : ByteArray) (h : s.size = 0) : isMinus (sI s) = false := by
  have : (sI s).length = 0 := by rw [sI_length]; exact h
  rw [List.eq_nil_of_length_eq_zero this]
  rfl
theorem digB (b : UInt8) : 0 ≤ (b.toNat : Int) ∧ (b.toNat : Int) ≤ 255 := by have := b.toNat_lt; omega
theorem val_small (l : List Int) (h : IsD l) (hl : l.length ≤ 11) : 0 ≤ val l ∧ val l < 100000000000 := by
  have h1 := val_bd l h
  have h2 : (10 : Int) ^ l.length ≤ 100000000000 := by
    generalize l.length = m at hl
    match m, hl with
    | 0, _ | 1, _ | 2, _ | 3, _ | 4, _ | 5, _ | 6, _ | 7, _ | 8, _ | 9, _ | 10, _ | 11, _ => decide
  omega

set_option maxRecDepth 100000 in
set_option maxHeartbeats 1600000 in
/-- the reference: behind its loop -/
theorem sParseInt_any (s : ByteArray) (w : World) (hs : s.size ≤ 1099511627776) :
    Calls Try.prog 47 #[.string s] w fun e w' => e = .returned (.tuple #[.int .i64 (parseR (sI s)).1, .bool (parseR (sI s)).2]) ∧ Below w.heap.size w w' := by
  go_enter Try.func47, Try.ntmps47
  go_wp2
  go_loop [4, 5, 6] (fun n c i => ∃ k : Nat, k ≤ s.size ∧ k ≤ 11 ∧ i = .int .i64 k ∧ n = .int .i64 (val (((sI s).take k).filter isDig)) ∧ c = .int .i64 (((sI s).take k).filter isDig).length) (fun _ _ i => 11 - (intOf i).toNat)
  case atStart => exact ⟨0, by omega, by omega, rfl, rfl, rfl⟩
  case round =>
    obtain ⟨k, hk, hk11, rfl, rfl, rfl⟩ := hrel
    have hD : IsD (((sI s).take k).filter isDig) := fun x hx => of_decide_eq_true (List.mem_filter.1 hx).2
    have hfl : (((sI s).take k).filter isDig).length ≤ k := Nat.le_trans (List.length_filter_le _ _) (by rw [List.length_take]; omega)
    have hv := val_small _ hD (by omega)
    by_cases hgo : k < s.size ∧ k < 11
    · obtain ⟨hlt, h11⟩ := hgo
      have hb := digB s[k]
      have hst := filter_step (sI s) k (by rw [sI_length]; exact hlt)
      rw [sI_get s k hlt] at hst
      obtain ⟨l, hl⟩ : ∃ l, l = ((sI s).take k).filter isDig := ⟨_, rfl⟩
      rw [← hl] at hfl hv hst ⊢
      have hvs := hid (val_snoc l s[k].toNat)
      obtain ⟨m, hm⟩ : ∃ m, m = val l := ⟨_, rfl⟩
      obtain ⟨c, hc⟩ : ∃ c, c = l.length := ⟨_, rfl⟩
      rw [← hm] at hv ⊢
      rw [← hc] at hfl ⊢
      replace hm := hid hm
      replace hc := hid hc
      replace hl := hid hl
      clear hD
      by_cases hd1 : 48 ≤ (s[k].toNat : Int)
      · by_cases hd2 : (s[k].toNat : Int) ≤ 57
        · have he := hid (hst.1 (decide_eq_true ⟨hd1, hd2⟩))
          clear hst
          have hsub : IntKind.u8.wrap ((s[k].toNat : Int) - 48) = s[k].toNat - 48 := IntWalk.u8_in _ (by omega)
          go_wp2
          go_round
          case rel => exact ⟨k + 1, by omega, by omega, by go_num, by rw [he.out, hvs.out, ← hm.out]; exact congrArg (Value.int .i64) (by omega), by rw [he.out, List.length_append, ← hc.out]; rfl⟩
          case measure => simp [intOf]; omega
        · have he := hid (hst.2 (decide_eq_false (by omega)))
          clear hst
          go_wp2
          go_round
          case rel => exact ⟨k + 1, by omega, by omega, by go_num, by rw [he.out, ← hm.out], by rw [he.out, ← hc.out]⟩
          case measure => simp [intOf]; omega
      · have he := hid (hst.2 (decide_eq_false (by omega)))
        clear hst
        go_wp2
        go_round
        case rel => exact ⟨k + 1, by omega, by omega, by go_num, by rw [he.out, ← hm.out], by rw [he.out, ← hc.out]⟩
        case measure => simp [intOf]; omega
    · have e : (sI s).take k = (sI s).take 11 := by
        by_cases h11 : k = 11
        · rw [h11]
        · rw [List.take_of_length_le (by rw [sI_length]; omega), List.take_of_length_le (by rw [sI_length]; omega)]
      rw [e] at hfl hv hD ⊢
      have hdl := dsOf_length (sI s)
      have hfold : ((sI s).take 11).filter isDig = dsOf (sI s) := rfl
      rw [hfold] at hfl hv ⊢
      have hnb := numS_bd (sI s)
      have hyes := parseS_yes (sI s)
      have hnot := parseS_no (sI s)
      have hcmp := eq_whole (fmtI (numS (sI s))) (fmtI_isB _) s
      rw [sI_length] at hyes hnot
      have hsg : numS (sI s) = if isMinus (sI s) then - val (dsOf (sI s)) else val (dsOf (sI s)) := rfl
      obtain ⟨m, hm⟩ : ∃ m, m = val (dsOf (sI s)) := ⟨_, rfl⟩
      obtain ⟨c, hc⟩ : ∃ c, c = (dsOf (sI s)).length := ⟨_, rfl⟩
      obtain ⟨r, hr⟩ : ∃ r, r = numS (sI s) := ⟨_, rfl⟩
      rw [← hr] at hnb hyes hnot hcmp hsg
      rw [← hm] at hv hsg ⊢
      rw [← hc] at hfl hdl hyes hnot ⊢
      clear hr hm hc hfold e hD
      by_cases hlt : k < s.size
      · have h11 : ¬ k < 11 := by omega
        clear hgo
        by_cases hp : 0 < s.size
        · have hB0 := digB s[0]
          rw [isMinus_s s hp] at hsg
          by_cases h45 : (s[0].toNat : Int) = 45
          · have ht : ((s[0].toNat : Int) == 45) = true := by rw [beq_iff_eq]; exact h45
            rw [ht, if_pos rfl] at hsg
            subst hsg
            clear h45
            by_cases c9 : c ≤ 9
            · by_cases c10 : s.size ≤ 10
              · by_cases cf : fmtI (-m) = sI s
                · have hP := hid (parseR_some (hyes c9 c10 cf))
                  rw [decide_eq_true cf] at hcmp
                  clear hyes hnot cf
                  go_wp2_with (go_at_call 39; refine (sFormatInt_any (-m) _ (by omega) (by omega)).mono ?_; rintro e w' ⟨rfl, hb'⟩)
                  all_goals
                    go_ret2
                    exact ⟨by rw [hP.out]; first | done | rfl, hb'⟩
                · have hP := hid (parseR_none (hnot fun h => cf h.2.2))
                  rw [decide_eq_false cf] at hcmp
                  clear hyes hnot cf
                  go_wp2_with (go_at_call 39; refine (sFormatInt_any (-m) _ (by omega) (by omega)).mono ?_; rintro e w' ⟨rfl, hb'⟩)
                  all_goals
                    go_ret2
                    exact ⟨by rw [hP.out]; first | done | rfl, hb'⟩
              · have hP := hid (parseR_none (hnot fun h => c10 h.2.1))
                clear hyes hnot hcmp
                go_wp2_with (fail)
                all_goals
                  go_ret2
                  exact ⟨by rw [hP.out]; first | done | rfl, Below.refl _ _⟩
            · have hP := hid (parseR_none (hnot fun h => c9 h.1))
              clear hyes hnot hcmp
              go_wp2_with (fail)
              all_goals
                go_ret2
                exact ⟨by rw [hP.out]; first | done | rfl, Below.refl _ _⟩
          · have ht : ((s[0].toNat : Int) == 45) = false := by rw [beq_eq_false_iff_ne]; exact h45
            rw [ht, if_neg (by simp)] at hsg
            subst hsg
            clear h45
            by_cases c9 : c ≤ 9
            · by_cases c10 : s.size ≤ 10
              · by_cases cf : fmtI (r) = sI s
                · have hP := hid (parseR_some (hyes c9 c10 cf))
                  rw [decide_eq_true cf] at hcmp
                  clear hyes hnot cf
                  go_wp2_with (go_at_call 39; refine (sFormatInt_any (r) _ (by omega) (by omega)).mono ?_; rintro e w' ⟨rfl, hb'⟩)
                  all_goals
                    go_ret2
                    exact ⟨by rw [hP.out]; first | done | rfl, hb'⟩
                · have hP := hid (parseR_none (hnot fun h => cf h.2.2))
                  rw [decide_eq_false cf] at hcmp
                  clear hyes hnot cf
                  go_wp2_with (go_at_call 39; refine (sFormatInt_any (r) _ (by omega) (by omega)).mono ?_; rintro e w' ⟨rfl, hb'⟩)
                  all_goals
                    go_ret2
                    exact ⟨by rw [hP.out]; first | done | rfl, hb'⟩
              · have hP := hid (parseR_none (hnot fun h => c10 h.2.1))
                clear hyes hnot hcmp
                go_wp2_with (fail)
                all_goals
                  go_ret2
                  exact ⟨by rw [hP.out]; first | done | rfl, Below.refl _ _⟩
            · have hP := hid (parseR_none (hnot fun h => c9 h.1))
              clear hyes hnot hcmp
              go_wp2_with (fail)
              all_goals
                go_ret2
                exact ⟨by rw [hP.out]; first | done | rfl, Below.refl _ _⟩
        · rw [isMinus_empty s (by omega), if_neg (by simp)] at hsg
          subst hsg
          by_cases c9 : c ≤ 9
          · by_cases c10 : s.size ≤ 10
            · by_cases cf : fmtI (r) = sI s
              · have hP := hid (parseR_some (hyes c9 c10 cf))
                rw [decide_eq_true cf] at hcmp
                clear hyes hnot cf
                go_wp2_with (go_at_call 39; refine (sFormatInt_any (r) _ (by omega) (by omega)).mono ?_; rintro e w' ⟨rfl, hb'⟩)
                all_goals
                  go_ret2
                  exact ⟨by rw [hP.out]; first | done | rfl, hb'⟩
              · have hP := hid (parseR_none (hnot fun h => cf h.2.2))
                rw [decide_eq_false cf] at hcmp
                clear hyes hnot cf
                go_wp2_with (go_at_call 39; refine (sFormatInt_any (r) _ (by omega) (by omega)).mono ?_; rintro e w' ⟨rfl, hb'⟩)
                all_goals
                  go_ret2
                  exact ⟨by rw [hP.out]; first | done | rfl, hb'⟩
            · have hP := hid (parseR_none (hnot fun h => c10 h.2.1))
              clear hyes hnot hcmp
              go_wp2_with (fail)
              all_goals
                go_ret2
                exact ⟨by rw [hP.out]; first | done | rfl, Below.refl _ _⟩
          · have hP := hid (parseR_none (hnot fun h => c9 h.1))
            clear hyes hnot hcmp
            go_wp2_with (fail)
            all_goals
              go_ret2
              exact ⟨by rw [hP.out]; first | done | rfl, Below.refl _ _⟩
      · clear hgo
        by_cases hp : 0 < s.size
        · have hB0 := digB s[0]
          rw [isMinus_s s hp] at hsg
          by_cases h45 : (s[0].toNat : Int) = 45
          · have ht : ((s[0].toNat : Int) == 45) = true := by rw [beq_iff_eq]; exact h45
            rw [ht, if_pos rfl] at hsg
            subst hsg
            clear h45
            by_cases c9 : c ≤ 9
            · by_cases c10 : s.size ≤ 10
              · by_cases cf : fmtI (-m) = sI s
                · have hP := hid (parseR_some (hyes c9 c10 cf))
                  rw [decide_eq_true cf] at hcmp
                  clear hyes hnot cf
                  go_wp2_with (go_at_call 39; refine (sFormatInt_any (-m) _ (by omega) (by omega)).mono ?_; rintro e w' ⟨rfl, hb'⟩)
                  all_goals
                    go_ret2
                    exact ⟨by rw [hP.out]; first | done | rfl, hb'⟩
                · have hP := hid (parseR_none (hnot fun h => cf h.2.2))
                  rw [decide_eq_false cf] at hcmp
                  clear hyes hnot cf
                  go_wp2_with (go_at_call 39; refine (sFormatInt_any (-m) _ (by omega) (by omega)).mono ?_; rintro e w' ⟨rfl, hb'⟩)
                  all_goals
                    go_ret2
                    exact ⟨by rw [hP.out]; first | done | rfl, hb'⟩
              · have hP := hid (parseR_none (hnot fun h => c10 h.2.1))
                clear hyes hnot hcmp
                go_wp2_with (fail)
                all_goals
                  go_ret2
                  exact ⟨by rw [hP.out]; first | done | rfl, Below.refl _ _⟩
            · have hP := hid (parseR_none (hnot fun h => c9 h.1))
              clear hyes hnot hcmp
              go_wp2_with (fail)
              all_goals
                go_ret2
                exact ⟨by rw [hP.out]; first | done | rfl, Below.refl _ _⟩
          · have ht : ((s[0].toNat : Int) == 45) = false := by rw [beq_eq_false_iff_ne]; exact h45
            rw [ht, if_neg (by simp)] at hsg
            subst hsg
            clear h45
            by_cases c9 : c ≤ 9
            · by_cases c10 : s.size ≤ 10
              · by_cases cf : fmtI (r) = sI s
                · have hP := hid (parseR_some (hyes c9 c10 cf))
                  rw [decide_eq_true cf] at hcmp
                  clear hyes hnot cf
                  go_wp2_with (go_at_call 39; refine (sFormatInt_any (r) _ (by omega) (by omega)).mono ?_; rintro e w' ⟨rfl, hb'⟩)
                  all_goals
                    go_ret2
                    exact ⟨by rw [hP.out]; first | done | rfl, hb'⟩
                · have hP := hid (parseR_none (hnot fun h => cf h.2.2))
                  rw [decide_eq_false cf] at hcmp
                  clear hyes hnot cf
                  go_wp2_with (go_at_call 39; refine (sFormatInt_any (r) _ (by omega) (by omega)).mono ?_; rintro e w' ⟨rfl, hb'⟩)
                  all_goals
                    go_ret2
                    exact ⟨by rw [hP.out]; first | done | rfl, hb'⟩
              · have hP := hid (parseR_none (hnot fun h => c10 h.2.1))
                clear hyes hnot hcmp
                go_wp2_with (fail)
                all_goals
                  go_ret2
                  exact ⟨by rw [hP.out]; first | done | rfl, Below.refl _ _⟩
            · have hP := hid (parseR_none (hnot fun h => c9 h.1))
              clear hyes hnot hcmp
              go_wp2_with (fail)
              all_goals
                go_ret2
                exact ⟨by rw [hP.out]; first | done | rfl, Below.refl _ _⟩
        · rw [isMinus_empty s (by omega), if_neg (by simp)] at hsg
          subst hsg
          by_cases c9 : c ≤ 9
          · by_cases c10 : s.size ≤ 10
            · by_cases cf : fmtI (r) = sI s
              · have hP := hid (parseR_some (hyes c9 c10 cf))
                rw [decide_eq_true cf] at hcmp
                clear hyes hnot cf
                go_wp2_with (go_at_call 39; refine (sFormatInt_any (r) _ (by omega) (by omega)).mono ?_; rintro e w' ⟨rfl, hb'⟩)
                all_goals
                  go_ret2
                  exact ⟨by rw [hP.out]; first | done | rfl, hb'⟩
              · have hP := hid (parseR_none (hnot fun h => cf h.2.2))
                rw [decide_eq_false cf] at hcmp
                clear hyes hnot cf
                go_wp2_with (go_at_call 39; refine (sFormatInt_any (r) _ (by omega) (by omega)).mono ?_; rintro e w' ⟨rfl, hb'⟩)
                all_goals
                  go_ret2
                  exact ⟨by rw [hP.out]; first | done | rfl, hb'⟩
            · have hP := hid (parseR_none (hnot fun h => c10 h.2.1))
              clear hyes hnot hcmp
              go_wp2_with (fail)
              all_goals
                go_ret2
                exact ⟨by rw [hP.out]; first | done | rfl, Below.refl _ _⟩
          · have hP := hid (parseR_none (hnot fun h => c9 h.1))
            clear hyes hnot hcmp
            go_wp2_with (fail)
            all_goals
              go_ret2
              exact ⟨by rw [hP.out]; first | done | rfl, Below.refl _ _⟩

end Go.Proofs.Ytffbamjfpegndab
