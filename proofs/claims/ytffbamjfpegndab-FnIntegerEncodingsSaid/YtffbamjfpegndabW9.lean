
/- What the program's ParseInt computes. Conditions: strings of at most 2^40 bytes. -/
import Derived.Test.YtffbamjfpegndabW8
namespace Go.Proofs.Ytffbamjfpegndab
open Go.RowKit

/-- a byte that is no digit -/
theorem parseI_bad (l : List Int) (A k : Nat) (hA : digitsOf l = l.drop A) (hk : k < l.length) (hAk : A ≤ k) (h : ¬ (48 ≤ l[k] ∧ l[k] ≤ 57)) : parseI l = none := by
  unfold parseI
  rw [if_neg]
  intro hc
  have hd := okDigits_isD hc.2.2.1
  rw [hA] at hd
  have hm : l[k] ∈ l.drop A := by
    rw [List.mem_iff_getElem]
    exact ⟨k - A, by rw [List.length_drop]; omega, by rw [List.getElem_drop]; congr 1; omega⟩
  exact h (hd _ hm)
theorem parseI_len (l : List Int) (A : Nat) (hA : digitsOf l = l.drop A) (h : ¬ (1 ≤ l.length - A ∧ l.length - A ≤ 9)) : parseI l = none := by
  unfold parseI
  rw [if_neg]
  intro hc
  rw [hA, List.length_drop] at hc
  exact h ⟨hc.1, hc.2.1⟩
theorem parseI_end (l : List Int) (A : Nat) (hA : digitsOf l = l.drop A) (hl : 1 ≤ l.length - A ∧ l.length - A ≤ 9) (hD : IsD (l.drop A)) : parseI l = if fmtI (numOf l) = l then some (numOf l) else none := by
  unfold parseI
  rw [hA, List.length_drop]
  by_cases hf : fmtI (numOf l) = l
  · rw [if_pos hf, if_pos ⟨hl.1, hl.2, okDigits_of hD, hf⟩]
  · rw [if_neg hf, if_neg fun hc => hf hc.2.2.2]
theorem drop_snoc (l : List Int) (A k : Nat) (hAk : A ≤ k) (hk : k < l.length) : (l.take (k + 1)).drop A = (l.take k).drop A ++ [l[k]] := by
  rw [take_succ_get l k hk, List.drop_append_of_le_length (by rw [List.length_take]; omega)]

set_option maxRecDepth 100000 in
set_option maxHeartbeats 1600000 in
theorem iParseInt_z (s : ByteArray) (w : World) (hs : s.size ≤ 1099511627776) (hp : 0 < s.size) (hmin : isMinus (sI s) = false) :
    Calls Try.prog 38 #[.string s] w fun e w' => e = .returned (.tuple #[.int .i64 (parseR (sI s)).1, .bool (parseR (sI s)).2]) ∧ Below w.heap.size w w' := by
  have hA : digitsOf (sI s) = (sI s).drop 0 := by
    unfold digitsOf
    rw [hmin]
    simp
  have hN : numOf (sI s) = if (false = true) then - val ((sI s).drop 0) else val ((sI s).drop 0) := by
    unfold numOf
    rw [hmin, hA]
  have hbad := parseI_bad (sI s) 0
  have hlen := parseI_len (sI s) 0 hA
  have hend := parseI_end (sI s) 0 hA
  rw [sI_length] at hlen hend
  have hB0 := digB s[0]
  have ht : ((s[0].toNat : Int) == 45) = false := by rw [← isMinus_s s hp]; exact hmin
  clear hmin
  by_cases hl : 1 ≤ s.size - 0 ∧ s.size - 0 ≤ 9
  · replace hend := hend hl
    clear hlen
    replace hend := hid hend
    replace hbad := hid hbad
    replace hA := hid hA
    replace hN := hid hN
    go_enter Try.func38, Try.ntmps38
    go_wp2_with (go_at_call 59; refine (iwithin_yes _ _ _ (by omega) _).mono ?_; rintro e w' ⟨rfl, rfl⟩)
    go_loop [5, 6] (fun n i => ∃ k : Nat, 0 ≤ k ∧ k ≤ s.size ∧ i = .int .i64 k ∧ n = .int .i64 (val (((sI s).take k).drop 0)) ∧ Hid (IsD (((sI s).take k).drop 0))) (fun _ i => s.size - (intOf i).toNat)
    case atStart => exact ⟨0, by omega, by omega, rfl, by rw [List.drop_eq_nil_of_le (by rw [List.length_take]; omega)]; rfl, fun x hx => by rw [List.drop_eq_nil_of_le (by rw [List.length_take]; omega)] at hx; cases hx⟩
    case round =>
      obtain ⟨k, hAk, hk, rfl, rfl, hD⟩ := hrel
      have hlk : (((sI s).take k).drop 0).length ≤ 9 := by rw [List.length_drop, List.length_take, sI_length]; omega
      have hv := val_small _ hD.out (by omega)
      by_cases hlt : k < s.size
      · have hb := digB s[k]
        have hsn := drop_snoc (sI s) 0 k hAk (by rw [sI_length]; exact hlt)
        have hbk := hbad.out k hA.out (by rw [sI_length]; exact hlt) hAk
        rw [sI_get s k hlt] at hsn hbk
        have hvs := hid (val_snoc (((sI s).take k).drop 0) s[k].toNat)
        rw [← hsn] at hvs
        by_cases hd : 48 ≤ (s[k].toNat : Int) ∧ (s[k].toNat : Int) ≤ 57
        · have hD2 : Hid (IsD (((sI s).take (k + 1)).drop 0)) := by
            intro x hx
            rw [hsn] at hx
            rcases List.mem_append.1 hx with hx | hx
            · exact hD.out x hx
            · rw [List.mem_singleton.1 hx]; exact hd
          obtain ⟨m, hm⟩ : ∃ m, m = val (((sI s).take k).drop 0) := ⟨_, rfl⟩
          rw [← hm] at hv hvs ⊢
          clear hsn hbk hm hD hlk
          obtain ⟨hd1, hd2⟩ := hd
          have hsub : IntKind.u8.wrap ((s[k].toNat : Int) - 48) = s[k].toNat - 48 := IntWalk.u8_in _ (by omega)
          go_wp2
          go_round
          case rel => exact ⟨k + 1, by omega, by omega, by go_num, by rw [hvs.out], hD2⟩
          case measure => simp [intOf]; omega
        · have hP := hid (parseR_none (hbk hd))
          clear hsn hbk hvs hD hlk
          by_cases hd1 : 48 ≤ (s[k].toNat : Int)
          · have hd2 : ¬ (s[k].toNat : Int) ≤ 57 := fun h => hd ⟨hd1, h⟩
            clear hd
            go_wp2
            go_ret2
            exact ⟨by rw [hP.out]; first | done | rfl, Below.refl _ _⟩
          · clear hd
            go_wp2
            go_ret2
            exact ⟨by rw [hP.out]; first | done | rfl, Below.refl _ _⟩
      · have e : (sI s).take k = sI s := List.take_of_length_le (by rw [sI_length]; omega)
        rw [e] at hv hD ⊢
        have hE := hend.out hD.out
        have hcmp := eq_whole (fmtI (numOf (sI s))) (fmtI_isB _) s
        rw [hN.out] at hcmp hE
        first | simp only [if_true] at hcmp hE | simp only [Bool.false_eq_true, if_false] at hcmp hE
        obtain ⟨m, hm⟩ : ∃ m, m = val ((sI s).drop 0) := ⟨_, rfl⟩
        rw [← hm] at hv hcmp hE ⊢
        clear hm e hlk hD hend hbad hA hN
        obtain ⟨r, hr⟩ : ∃ r, r = m := ⟨_, rfl⟩
        by_cases hf : fmtI (m) = sI s
        · rw [if_pos hf] at hE
          have hP := hid (parseR_some hE)
          rw [decide_eq_true hf] at hcmp
          clear hE hf hr
          go_wp2_with (go_at_call 37; refine (iFormatInt_any (m) _ (by omega) (by omega)).mono ?_; rintro e w' ⟨rfl, hb'⟩)
          go_ret2
          exact ⟨by rw [hP.out]; first | done | rfl, hb'⟩
        · rw [if_neg hf] at hE
          have hP := hid (parseR_none hE)
          rw [decide_eq_false hf] at hcmp
          clear hE hf hr
          go_wp2_with (go_at_call 37; refine (iFormatInt_any (m) _ (by omega) (by omega)).mono ?_; rintro e w' ⟨rfl, hb'⟩)
          go_ret2
          exact ⟨by rw [hP.out]; first | done | rfl, hb'⟩
  · have hP := hid (parseR_none (hlen hl))
    clear hlen hend hbad hA hN
    go_enter Try.func38, Try.ntmps38
    go_wp2_with (go_at_call 59; refine (iwithin_no _ _ _ (by omega) _).mono ?_; rintro e w' ⟨rfl, rfl⟩)
    go_ret2
    exact ⟨by rw [hP.out]; first | done | rfl, Below.refl _ _⟩
set_option maxRecDepth 100000 in
set_option maxHeartbeats 1600000 in
theorem iParseInt_n (s : ByteArray) (w : World) (hs : s.size ≤ 1099511627776) (hp : 0 < s.size) (hmin : isMinus (sI s) = true) :
    Calls Try.prog 38 #[.string s] w fun e w' => e = .returned (.tuple #[.int .i64 (parseR (sI s)).1, .bool (parseR (sI s)).2]) ∧ Below w.heap.size w w' := by
  have hA : digitsOf (sI s) = (sI s).drop 1 := by
    unfold digitsOf
    rw [hmin]
    simp
  have hN : numOf (sI s) = if (true = true) then - val ((sI s).drop 1) else val ((sI s).drop 1) := by
    unfold numOf
    rw [hmin, hA]
  have hbad := parseI_bad (sI s) 1
  have hlen := parseI_len (sI s) 1 hA
  have hend := parseI_end (sI s) 1 hA
  rw [sI_length] at hlen hend
  have hB0 := digB s[0]
  have ht : ((s[0].toNat : Int) == 45) = true := by rw [← isMinus_s s hp]; exact hmin
  clear hmin
  by_cases hl : 1 ≤ s.size - 1 ∧ s.size - 1 ≤ 9
  · replace hend := hend hl
    clear hlen
    replace hend := hid hend
    replace hbad := hid hbad
    replace hA := hid hA
    replace hN := hid hN
    go_enter Try.func38, Try.ntmps38
    go_wp2_with (go_at_call 59; refine (iwithin_yes _ _ _ (by omega) _).mono ?_; rintro e w' ⟨rfl, rfl⟩)
    go_loop [5, 6] (fun n i => ∃ k : Nat, 1 ≤ k ∧ k ≤ s.size ∧ i = .int .i64 k ∧ n = .int .i64 (val (((sI s).take k).drop 1)) ∧ Hid (IsD (((sI s).take k).drop 1))) (fun _ i => s.size - (intOf i).toNat)
    case atStart => exact ⟨1, by omega, by omega, rfl, by rw [List.drop_eq_nil_of_le (by rw [List.length_take]; omega)]; rfl, fun x hx => by rw [List.drop_eq_nil_of_le (by rw [List.length_take]; omega)] at hx; cases hx⟩
    case round =>
      obtain ⟨k, hAk, hk, rfl, rfl, hD⟩ := hrel
      have hlk : (((sI s).take k).drop 1).length ≤ 9 := by rw [List.length_drop, List.length_take, sI_length]; omega
      have hv := val_small _ hD.out (by omega)
      by_cases hlt : k < s.size
      · have hb := digB s[k]
        have hsn := drop_snoc (sI s) 1 k hAk (by rw [sI_length]; exact hlt)
        have hbk := hbad.out k hA.out (by rw [sI_length]; exact hlt) hAk
        rw [sI_get s k hlt] at hsn hbk
        have hvs := hid (val_snoc (((sI s).take k).drop 1) s[k].toNat)
        rw [← hsn] at hvs
        by_cases hd : 48 ≤ (s[k].toNat : Int) ∧ (s[k].toNat : Int) ≤ 57
        · have hD2 : Hid (IsD (((sI s).take (k + 1)).drop 1)) := by
            intro x hx
            rw [hsn] at hx
            rcases List.mem_append.1 hx with hx | hx
            · exact hD.out x hx
            · rw [List.mem_singleton.1 hx]; exact hd
          obtain ⟨m, hm⟩ : ∃ m, m = val (((sI s).take k).drop 1) := ⟨_, rfl⟩
          rw [← hm] at hv hvs ⊢
          clear hsn hbk hm hD hlk
          obtain ⟨hd1, hd2⟩ := hd
          have hsub : IntKind.u8.wrap ((s[k].toNat : Int) - 48) = s[k].toNat - 48 := IntWalk.u8_in _ (by omega)
          go_wp2
          go_round
          case rel => exact ⟨k + 1, by omega, by omega, by go_num, by rw [hvs.out], hD2⟩
          case measure => simp [intOf]; omega
        · have hP := hid (parseR_none (hbk hd))
          clear hsn hbk hvs hD hlk
          by_cases hd1 : 48 ≤ (s[k].toNat : Int)
          · have hd2 : ¬ (s[k].toNat : Int) ≤ 57 := fun h => hd ⟨hd1, h⟩
            clear hd
            go_wp2
            go_ret2
            exact ⟨by rw [hP.out]; first | done | rfl, Below.refl _ _⟩
          · clear hd
            go_wp2
            go_ret2
            exact ⟨by rw [hP.out]; first | done | rfl, Below.refl _ _⟩
      · have e : (sI s).take k = sI s := List.take_of_length_le (by rw [sI_length]; omega)
        rw [e] at hv hD ⊢
        have hE := hend.out hD.out
        have hcmp := eq_whole (fmtI (numOf (sI s))) (fmtI_isB _) s
        rw [hN.out] at hcmp hE
        first | simp only [if_true] at hcmp hE | simp only [Bool.false_eq_true, if_false] at hcmp hE
        obtain ⟨m, hm⟩ : ∃ m, m = val ((sI s).drop 1) := ⟨_, rfl⟩
        rw [← hm] at hv hcmp hE ⊢
        clear hm e hlk hD hend hbad hA hN
        obtain ⟨r, hr⟩ : ∃ r, r = -m := ⟨_, rfl⟩
        by_cases hf : fmtI (-m) = sI s
        · rw [if_pos hf] at hE
          have hP := hid (parseR_some hE)
          rw [decide_eq_true hf] at hcmp
          clear hE hf hr
          go_wp2_with (go_at_call 37; refine (iFormatInt_any (-m) _ (by omega) (by omega)).mono ?_; rintro e w' ⟨rfl, hb'⟩)
          go_ret2
          exact ⟨by rw [hP.out]; first | done | rfl, hb'⟩
        · rw [if_neg hf] at hE
          have hP := hid (parseR_none hE)
          rw [decide_eq_false hf] at hcmp
          clear hE hf hr
          go_wp2_with (go_at_call 37; refine (iFormatInt_any (-m) _ (by omega) (by omega)).mono ?_; rintro e w' ⟨rfl, hb'⟩)
          go_ret2
          exact ⟨by rw [hP.out]; first | done | rfl, hb'⟩
  · have hP := hid (parseR_none (hlen hl))
    clear hlen hend hbad hA hN
    go_enter Try.func38, Try.ntmps38
    go_wp2_with (go_at_call 59; refine (iwithin_no _ _ _ (by omega) _).mono ?_; rintro e w' ⟨rfl, rfl⟩)
    go_ret2
    exact ⟨by rw [hP.out]; first | done | rfl, Below.refl _ _⟩

theorem iParseInt_any (s : ByteArray) (w : World) (hs : s.size ≤ 1099511627776) :
    Calls Try.prog 38 #[.string s] w fun e w' => e = .returned (.tuple #[.int .i64 (parseR (sI s)).1, .bool (parseR (sI s)).2]) ∧ Below w.heap.size w w' := by
  by_cases hp : 0 < s.size
  · cases hm : isMinus (sI s) with
    | false => exact iParseInt_z s w hs hp hm
    | true => exact iParseInt_n s w hs hp hm
  · have h0 : sI s = [] := List.eq_nil_of_length_eq_zero (by rw [sI_length]; omega)
    rw [h0]
    have hP := hid (show parseR [] = (0, false) from rfl)
    clear h0
    go_enter Try.func38, Try.ntmps38
    go_wp2_with (go_at_call 59; refine (iwithin_no _ _ _ (by omega) _).mono ?_; rintro e w' ⟨rfl, rfl⟩)
    go_ret2
    exact ⟨by rw [hP.out]; first | done | rfl, Below.refl _ _⟩

end Go.Proofs.Ytffbamjfpegndab
