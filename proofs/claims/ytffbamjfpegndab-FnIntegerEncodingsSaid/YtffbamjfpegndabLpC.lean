
/- The walk of the law FnIntegerEncodings. No conditions. -/
import Derived.Test.YtffbamjfpegndabR4
import Derived.Test.YtffbamjfpegndabC2
import Derived.Test.YtffbamjfpegndabW2
import Derived.Test.YtffbamjfpegndabW3
import Derived.Test.YtffbamjfpegndabW4
import Derived.Test.YtffbamjfpegndabW6
import Derived.Test.YtffbamjfpegndabW9
import Derived.Test.YtffbamjfpegndabT3
import Derived.Test.YtffbamjfpegndabLKit
namespace Go.Proofs.Ytffbamjfpegndab
set_option linter.unusedVariables false
set_option linter.unusedSimpArgs false
open Go.RowKit

theorem iDecVar_nums (t : List Int) (w : World) (hb : IsB t) (hl : t.length ≤ 1099511627776) {a b : Int} (h : decVar t = (a, b)) :
    Calls Try.prog 30 #[.string (strOfNums t)] w fun e w' => e = .returned (.tuple #[.int .i64 a, .int .i64 b]) ∧ Below w.heap.size w w' := by
  have h2 := iDecodeVarint_any (strOfNums t) w (by rw [strOfNums_size]; exact hl)
  rw [sI_nums hb, h] at h2
  exact h2
theorem iDecFixed_nums (t : List Int) (k : Int) (w : World) (hb : IsB t) (hl : t.length ≤ 1099511627776) {a : Int} {b : Bool} (h : decFixed t k = (a, b)) :
    Calls Try.prog 33 #[.string (strOfNums t), .int .i64 k] w fun e w' => e = .returned (.tuple #[.int .i64 a, .bool b]) ∧ w = w' := by
  have h2 := iDecodeFixed_any (strOfNums t) k w (by rw [strOfNums_size]; exact hl)
  rw [sI_nums hb, h] at h2
  exact h2
theorem iEncHex_nums (t : List Int) (w : World) (hb : IsB t) (hl : t.length ≤ 1073741824) :
    Calls Try.prog 35 #[.string (strOfNums t)] w fun e w' => e = .returned (.string (strOfNums (encHex t))) ∧ Below w.heap.size w w' := by
  have h2 := iEncodeHex_any (strOfNums t) w (by rw [strOfNums_size]; exact hl)
  rw [sI_nums hb] at h2
  exact h2
theorem iDecHex_nums (t : List Int) (w : World) (hb : IsB t) (hl : t.length ≤ 1000) :
    Calls Try.prog 36 #[.string (strOfNums (encHex t))] w fun e w' => e = .returned (.tuple #[.string (strOfNums t), .bool true]) ∧ Below w.heap.size w w' := by
  have h2 := iDecodeHex_any (strOfNums (encHex t)) w (by rw [strOfNums_size, encHex_length]; omega)
  rw [sI_nums (isB_encHex t hb), decHexR_some (decHex_encHex t hb)] at h2
  exact h2
theorem encVarint_facts (n : Int) (t : List Int) : (0 ≤ n ∧ n ≤ 562949953421311 → encVarint n ≠ [] ∧ decVar (encVarint n ++ t) = (n, ((encVarint n).length : Int))) ∧ (¬ (0 ≤ n ∧ n ≤ 562949953421311) → encVarint n = []) := by
  refine ⟨fun h => ?_, fun h => if_neg h⟩
  have e : encVarint n = encVar 6 n := if_pos h
  rw [e]
  refine ⟨?_, decVar_encVar n h.1 (by rw [pow128_7]; omega) t⟩
  rw [encVar]
  split <;> simp
theorem encFixed_facts (n k : Int) (t : List Int) (h : encFixed n k ≠ []) : decFixed (encFixed n k ++ t) k = (n, true) ∧ ((encFixed n k).length : Int) = k := by
  unfold encFixed at h ⊢
  split at h
  · rename_i hc
    rw [if_pos hc]
    have hl := encFix_length k.toNat n
    refine ⟨?_, by rw [hl]; omega⟩
    unfold decFixed
    rw [if_pos ⟨hc.1, hc.2.1, by rw [List.length_append, hl]; omega⟩, List.take_append_of_le_length (by rw [hl]; omega), List.take_of_length_le (by rw [hl]; omega), decFix_encFix _ _ hc.2.2.1 hc.2.2.2]
  · exact absurd rfl h
theorem encVarint_B (n : Int) : IsB (encVarint n) ∧ (encVarint n).length ≤ 7 := by
  unfold encVarint
  split
  · rename_i h
    exact ⟨encVar_isB 6 _ h.1 (by rw [pow128_7]; omega), (encVar_length 6 n).2⟩
  · exact ⟨isB_nil, by simp⟩
theorem encFixed_B (n k : Int) : IsB (encFixed n k) ∧ (encFixed n k).length ≤ 7 := by
  unfold encFixed
  split
  · rename_i h
    exact ⟨encFix_isB _ _, by rw [encFix_length]; omega⟩
  · exact ⟨isB_nil, by simp⟩
set_option maxRecDepth 100000 in
set_option maxHeartbeats 3200000 in
theorem fnIntegerEncodings_w (ao : Option Addr) (cap : Nat) (l : List Int) (w : World) (hr : Rd w w.heap.size .u8 (.slice ao l.length cap) l) (hl : l.length ≤ 1048576) (hB : IsB l) :
    Calls Try.prog 8 #[.slice ao l.length cap] w fun e w' => e = .returned (.bool true) ∧ Below w.heap.size w w' := by
  have hbig := hid fun w hr => lbig_any (.slice ao l.length cap) l w hr
  have hD1 := hid fun w hr => sDrawEncodeVarint_any (.slice ao l.length cap) l w hr hl hB
  have hD2 := hid fun w hr => sDrawEncodeHex_any (.slice ao l.length cap) l w hr hl hB
  have hD3 := hid fun w hr => sDrawEncodeFixed_any (.slice ao l.length cap) l w hr hl hB
  have e0 : decide (1048576 < (l.length : Int)) = false := by simp; omega
  replace hB := hid hB
  go_enter Try.func8, Try.ntmps8
  go_wp2_with fail
  refine (hbig.out _ hr).mono ?_
  rintro e w' ⟨rfl, rfl⟩
  go_wp2_with fail
  refine (hD1.out _ hr).mono ?_
  rintro e w1 ⟨⟨n, rfl, hn⟩, B1⟩
  go_wp2_with fail
  refine (hD2.out _ ((hr.below B1).more B1.size)).mono ?_
  rintro e w2 ⟨⟨t, rfl, htB, htl⟩, hb2⟩
  have B2 := bgo B1 hb2
  replace hn := hid hn
  replace htB := hid htB
  go_wp2_with fail
  refine (iEncodeVarint_any n _).mono ?_
  rintro e w3 ⟨rfl, hb3⟩
  have B3 := bgo B2 hb3
  obtain ⟨hVB, hVl⟩ := encVarint_B n
  obtain ⟨hy, hno⟩ := encVarint_facts n t
  obtain ⟨V, hV⟩ : ∃ V, V = encVarint n := ⟨_, rfl⟩
  rw [← hV] at hVB hVl hy hno ⊢
  have had := add_strs (P := Try.prog) V t (by omega)
  have hD := hid fun a b h w => @iDecVar_nums (V ++ t) w (isB_append hVB htB.out) (by rw [List.length_append]; omega) a b h
  have hE := empty_text V
  have hVs : (strOfNums V).size = V.length := strOfNums_size V
  replace hVB := hid hVB
  clear hV
  by_cases hn0 : 0 ≤ n ∧ n ≤ 562949953421311
  · obtain ⟨h1, h2⟩ := hy hn0
    obtain ⟨h3, h4⟩ := hn0
    rw [decide_eq_false h1] at hE
    clear hy hno
    go_wp2_with fail
    refine (hD.out _ _ h2 _).mono ?_
    rintro e w4 ⟨rfl, hb4⟩
    have B4 := bgo B3 hb4
    clear h2 hb4 hD
    go_wp2_with fail
    refine (hD3.out _ ((hr.below B4).more B4.size)).mono ?_
    rintro e w5 ⟨⟨x, k, rfl, ⟨hx0, hx1⟩, hk0, hk1⟩, hb5⟩
    have B5 := bgo B4 hb5
    have hSF := hid fun w => sEncodeFixed_any x k w hx1
    have hIF := hid fun w => iEncodeFixed_any x k w
    obtain ⟨hFB, hFl⟩ := encFixed_B x k
    have hff := encFixed_facts x k t
    obtain ⟨F, hF⟩ : ∃ F, F = encFixed x k := ⟨_, rfl⟩
    rw [← hF] at hFB hFl hff hSF hIF
    have had2 := add_strs (P := Try.prog) F t (by omega)
    have hDF := hid fun a b h w => @iDecFixed_nums (F ++ t) k w (isB_append hFB htB.out) (by rw [List.length_append]; omega) a b h
    have hFe := empty_text F
    have hFs : (strOfNums F).size = F.length := strOfNums_size F
    have hts : (strOfNums t).size = t.length := strOfNums_size t
    have hhs : (strOfNums (encHex t)).size = 2 * t.length := by rw [strOfNums_size, encHex_length]
    have hEH := hid fun w => iEncHex_nums t w htB.out (by omega)
    have hDH := hid fun w => iDecHex_nums t w htB.out (by omega)
    have hII := hid fun w => iFormatInt_any x w hx0 hx1
    have hSI := hid fun w => sFormatInt_any x w hx0 hx1
    have hPI := hid fun w => iParse_nums (fmtI x) w (fmtI_isB x) (by have := fmtI_length x; omega)
    have hpp := parseI_fmtI x hx0 hx1
    replace hFB := hid hFB
    clear hF hb5
    by_cases hF0 : F = []
    · subst hF0
      obtain ⟨fa, fb, hfab⟩ : ∃ fa fb, decFixed ([] ++ t) k = (fa, fb) := ⟨_, _, rfl⟩
      rw [decide_eq_true rfl] at hFe
      clear hff
      go_wp2_with fail
      refine (hIF.out _).mono ?_
      rintro e w6 ⟨rfl, hb6⟩
      have B6 := bgo B5 hb6
      go_wp2_with fail
      refine (hDF.out _ _ hfab _).mono ?_
      rintro e w7 ⟨rfl, rfl⟩
      clear hfab hDF hb6
      go_wp2_with fail
      refine (hSF.out _).mono ?_
      rintro e w8 ⟨rfl, hb8⟩
      have B8 := bgo B6 hb8
      clear hSF hIF hb8
      go_wp2_with fail
      refine (hEH.out _).mono ?_
      rintro e w9 ⟨rfl, hb9⟩
      have B9 := bgo B8 hb9
      go_wp2_with fail
      refine (hDH.out _).mono ?_
      rintro e w10 ⟨rfl, hb10⟩
      have B10 := bgo B9 hb10
      go_wp2_with fail
      refine (hII.out _).mono ?_
      rintro e w11 ⟨rfl, hb11⟩
      have B11 := bgo B10 hb11
      by_cases hx : -1000000000 < x ∧ x < 1000000000
      · rw [if_pos hx] at hpp
        rw [parseR_some hpp] at hPI
        obtain ⟨h7, h8⟩ := hx
        clear hpp
        go_wp2_with fail
        refine (hPI.out _).mono ?_
        rintro e w12 ⟨rfl, hb12⟩
        have B12 := bgo B11 hb12
        go_wp2_with fail
        refine (hSI.out _).mono ?_
        rintro e w13 ⟨rfl, hb13⟩
        have B13 := bgo B12 hb13
        go_wp2
        go_ret
        exact ⟨rfl, B13⟩
      · rw [if_neg hx] at hpp
        rw [parseR_none hpp] at hPI
        by_cases h7 : -1000000000 < x
        · have h8 : decide (x < 1000000000) = false := decide_eq_false fun h => hx ⟨h7, h⟩
          clear hpp
          go_wp2_with fail
          refine (hPI.out _).mono ?_
          rintro e w12 ⟨rfl, hb12⟩
          have B12 := bgo B11 hb12
          go_wp2_with fail
          refine (hSI.out _).mono ?_
          rintro e w13 ⟨rfl, hb13⟩
          have B13 := bgo B12 hb13
          go_wp2
          go_ret
          exact ⟨rfl, B13⟩
        · clear hx
          clear hpp
          go_wp2_with fail
          refine (hPI.out _).mono ?_
          rintro e w12 ⟨rfl, hb12⟩
          have B12 := bgo B11 hb12
          go_wp2_with fail
          refine (hSI.out _).mono ?_
          rintro e w13 ⟨rfl, hb13⟩
          have B13 := bgo B12 hb13
          go_wp2
          go_ret
          exact ⟨rfl, B13⟩
    · obtain ⟨h5, h6⟩ := hff hF0
      rw [decide_eq_false hF0] at hFe
      clear hff
      replace hF0 := hid hF0
      go_wp2_with fail
      refine (hIF.out _).mono ?_
      rintro e w6 ⟨rfl, hb6⟩
      have B6 := bgo B5 hb6
      go_wp2_with fail
      refine (hDF.out _ _ h5 _).mono ?_
      rintro e w7 ⟨rfl, rfl⟩
      clear h5 hDF hb6
      go_wp2_with fail
      refine (hSF.out _).mono ?_
      rintro e w8 ⟨rfl, hb8⟩
      have B8 := bgo B6 hb8
      clear hSF hIF hb8
      go_wp2_with fail
      refine (hEH.out _).mono ?_
      rintro e w9 ⟨rfl, hb9⟩
      have B9 := bgo B8 hb9
      go_wp2_with fail
      refine (hDH.out _).mono ?_
      rintro e w10 ⟨rfl, hb10⟩
      have B10 := bgo B9 hb10
      go_wp2_with fail
      refine (hII.out _).mono ?_
      rintro e w11 ⟨rfl, hb11⟩
      have B11 := bgo B10 hb11
      by_cases hx : -1000000000 < x ∧ x < 1000000000
      · rw [if_pos hx] at hpp
        rw [parseR_some hpp] at hPI
        obtain ⟨h7, h8⟩ := hx
        clear hpp
        go_wp2_with fail
        refine (hPI.out _).mono ?_
        rintro e w12 ⟨rfl, hb12⟩
        have B12 := bgo B11 hb12
        go_wp2_with fail
        refine (hSI.out _).mono ?_
        rintro e w13 ⟨rfl, hb13⟩
        have B13 := bgo B12 hb13
        go_wp2
        go_ret
        exact ⟨rfl, B13⟩
      · rw [if_neg hx] at hpp
        rw [parseR_none hpp] at hPI
        by_cases h7 : -1000000000 < x
        · have h8 : decide (x < 1000000000) = false := decide_eq_false fun h => hx ⟨h7, h⟩
          clear hpp
          go_wp2_with fail
          refine (hPI.out _).mono ?_
          rintro e w12 ⟨rfl, hb12⟩
          have B12 := bgo B11 hb12
          go_wp2_with fail
          refine (hSI.out _).mono ?_
          rintro e w13 ⟨rfl, hb13⟩
          have B13 := bgo B12 hb13
          go_wp2
          go_ret
          exact ⟨rfl, B13⟩
        · clear hx
          clear hpp
          go_wp2_with fail
          refine (hPI.out _).mono ?_
          rintro e w12 ⟨rfl, hb12⟩
          have B12 := bgo B11 hb12
          go_wp2_with fail
          refine (hSI.out _).mono ?_
          rintro e w13 ⟨rfl, hb13⟩
          have B13 := bgo B12 hb13
          go_wp2
          go_ret
          exact ⟨rfl, B13⟩
  · have h1 := hno hn0
    subst h1
    obtain ⟨a, b, hab⟩ : ∃ a b, decVar ([] ++ t) = (a, b) := ⟨_, _, rfl⟩
    rw [decide_eq_true rfl] at hE
    clear hy hno
    by_cases h3 : 0 ≤ n
    · have h4 : ¬ n ≤ 562949953421311 := fun h => hn0 ⟨h3, h⟩
      go_wp2_with fail
      refine (hD.out _ _ hab _).mono ?_
      rintro e w4 ⟨rfl, hb4⟩
      have B4 := bgo B3 hb4
      clear hab hb4 hD hn0
      go_wp2_with fail
      refine (hD3.out _ ((hr.below B4).more B4.size)).mono ?_
      rintro e w5 ⟨⟨x, k, rfl, ⟨hx0, hx1⟩, hk0, hk1⟩, hb5⟩
      have B5 := bgo B4 hb5
      have hSF := hid fun w => sEncodeFixed_any x k w hx1
      have hIF := hid fun w => iEncodeFixed_any x k w
      obtain ⟨hFB, hFl⟩ := encFixed_B x k
      have hff := encFixed_facts x k t
      obtain ⟨F, hF⟩ : ∃ F, F = encFixed x k := ⟨_, rfl⟩
      rw [← hF] at hFB hFl hff hSF hIF
      have had2 := add_strs (P := Try.prog) F t (by omega)
      have hDF := hid fun a b h w => @iDecFixed_nums (F ++ t) k w (isB_append hFB htB.out) (by rw [List.length_append]; omega) a b h
      have hFe := empty_text F
      have hFs : (strOfNums F).size = F.length := strOfNums_size F
      have hts : (strOfNums t).size = t.length := strOfNums_size t
      have hhs : (strOfNums (encHex t)).size = 2 * t.length := by rw [strOfNums_size, encHex_length]
      have hEH := hid fun w => iEncHex_nums t w htB.out (by omega)
      have hDH := hid fun w => iDecHex_nums t w htB.out (by omega)
      have hII := hid fun w => iFormatInt_any x w hx0 hx1
      have hSI := hid fun w => sFormatInt_any x w hx0 hx1
      have hPI := hid fun w => iParse_nums (fmtI x) w (fmtI_isB x) (by have := fmtI_length x; omega)
      have hpp := parseI_fmtI x hx0 hx1
      replace hFB := hid hFB
      clear hF hb5
      by_cases hF0 : F = []
      · subst hF0
        obtain ⟨fa, fb, hfab⟩ : ∃ fa fb, decFixed ([] ++ t) k = (fa, fb) := ⟨_, _, rfl⟩
        rw [decide_eq_true rfl] at hFe
        clear hff
        go_wp2_with fail
        refine (hIF.out _).mono ?_
        rintro e w6 ⟨rfl, hb6⟩
        have B6 := bgo B5 hb6
        go_wp2_with fail
        refine (hDF.out _ _ hfab _).mono ?_
        rintro e w7 ⟨rfl, rfl⟩
        clear hfab hDF hb6
        go_wp2_with fail
        refine (hSF.out _).mono ?_
        rintro e w8 ⟨rfl, hb8⟩
        have B8 := bgo B6 hb8
        clear hSF hIF hb8
        go_wp2_with fail
        refine (hEH.out _).mono ?_
        rintro e w9 ⟨rfl, hb9⟩
        have B9 := bgo B8 hb9
        go_wp2_with fail
        refine (hDH.out _).mono ?_
        rintro e w10 ⟨rfl, hb10⟩
        have B10 := bgo B9 hb10
        go_wp2_with fail
        refine (hII.out _).mono ?_
        rintro e w11 ⟨rfl, hb11⟩
        have B11 := bgo B10 hb11
        by_cases hx : -1000000000 < x ∧ x < 1000000000
        · rw [if_pos hx] at hpp
          rw [parseR_some hpp] at hPI
          obtain ⟨h7, h8⟩ := hx
          clear hpp
          go_wp2_with fail
          refine (hPI.out _).mono ?_
          rintro e w12 ⟨rfl, hb12⟩
          have B12 := bgo B11 hb12
          go_wp2_with fail
          refine (hSI.out _).mono ?_
          rintro e w13 ⟨rfl, hb13⟩
          have B13 := bgo B12 hb13
          go_wp2
          go_ret
          exact ⟨rfl, B13⟩
        · rw [if_neg hx] at hpp
          rw [parseR_none hpp] at hPI
          by_cases h7 : -1000000000 < x
          · have h8 : decide (x < 1000000000) = false := decide_eq_false fun h => hx ⟨h7, h⟩
            clear hpp
            go_wp2_with fail
            refine (hPI.out _).mono ?_
            rintro e w12 ⟨rfl, hb12⟩
            have B12 := bgo B11 hb12
            go_wp2_with fail
            refine (hSI.out _).mono ?_
            rintro e w13 ⟨rfl, hb13⟩
            have B13 := bgo B12 hb13
            go_wp2
            go_ret
            exact ⟨rfl, B13⟩
          · clear hx
            clear hpp
            go_wp2_with fail
            refine (hPI.out _).mono ?_
            rintro e w12 ⟨rfl, hb12⟩
            have B12 := bgo B11 hb12
            go_wp2_with fail
            refine (hSI.out _).mono ?_
            rintro e w13 ⟨rfl, hb13⟩
            have B13 := bgo B12 hb13
            go_wp2
            go_ret
            exact ⟨rfl, B13⟩
      · obtain ⟨h5, h6⟩ := hff hF0
        rw [decide_eq_false hF0] at hFe
        clear hff
        replace hF0 := hid hF0
        go_wp2_with fail
        refine (hIF.out _).mono ?_
        rintro e w6 ⟨rfl, hb6⟩
        have B6 := bgo B5 hb6
        go_wp2_with fail
        refine (hDF.out _ _ h5 _).mono ?_
        rintro e w7 ⟨rfl, rfl⟩
        clear h5 hDF hb6
        go_wp2_with fail
        refine (hSF.out _).mono ?_
        rintro e w8 ⟨rfl, hb8⟩
        have B8 := bgo B6 hb8
        clear hSF hIF hb8
        go_wp2_with fail
        refine (hEH.out _).mono ?_
        rintro e w9 ⟨rfl, hb9⟩
        have B9 := bgo B8 hb9
        go_wp2_with fail
        refine (hDH.out _).mono ?_
        rintro e w10 ⟨rfl, hb10⟩
        have B10 := bgo B9 hb10
        go_wp2_with fail
        refine (hII.out _).mono ?_
        rintro e w11 ⟨rfl, hb11⟩
        have B11 := bgo B10 hb11
        by_cases hx : -1000000000 < x ∧ x < 1000000000
        · rw [if_pos hx] at hpp
          rw [parseR_some hpp] at hPI
          obtain ⟨h7, h8⟩ := hx
          clear hpp
          go_wp2_with fail
          refine (hPI.out _).mono ?_
          rintro e w12 ⟨rfl, hb12⟩
          have B12 := bgo B11 hb12
          go_wp2_with fail
          refine (hSI.out _).mono ?_
          rintro e w13 ⟨rfl, hb13⟩
          have B13 := bgo B12 hb13
          go_wp2
          go_ret
          exact ⟨rfl, B13⟩
        · rw [if_neg hx] at hpp
          rw [parseR_none hpp] at hPI
          by_cases h7 : -1000000000 < x
          · have h8 : decide (x < 1000000000) = false := decide_eq_false fun h => hx ⟨h7, h⟩
            clear hpp
            go_wp2_with fail
            refine (hPI.out _).mono ?_
            rintro e w12 ⟨rfl, hb12⟩
            have B12 := bgo B11 hb12
            go_wp2_with fail
            refine (hSI.out _).mono ?_
            rintro e w13 ⟨rfl, hb13⟩
            have B13 := bgo B12 hb13
            go_wp2
            go_ret
            exact ⟨rfl, B13⟩
          · clear hx
            clear hpp
            go_wp2_with fail
            refine (hPI.out _).mono ?_
            rintro e w12 ⟨rfl, hb12⟩
            have B12 := bgo B11 hb12
            go_wp2_with fail
            refine (hSI.out _).mono ?_
            rintro e w13 ⟨rfl, hb13⟩
            have B13 := bgo B12 hb13
            go_wp2
            go_ret
            exact ⟨rfl, B13⟩
    · go_wp2_with fail
      refine (hD.out _ _ hab _).mono ?_
      rintro e w4 ⟨rfl, hb4⟩
      have B4 := bgo B3 hb4
      clear hab hb4 hD hn0
      go_wp2_with fail
      refine (hD3.out _ ((hr.below B4).more B4.size)).mono ?_
      rintro e w5 ⟨⟨x, k, rfl, ⟨hx0, hx1⟩, hk0, hk1⟩, hb5⟩
      have B5 := bgo B4 hb5
      have hSF := hid fun w => sEncodeFixed_any x k w hx1
      have hIF := hid fun w => iEncodeFixed_any x k w
      obtain ⟨hFB, hFl⟩ := encFixed_B x k
      have hff := encFixed_facts x k t
      obtain ⟨F, hF⟩ : ∃ F, F = encFixed x k := ⟨_, rfl⟩
      rw [← hF] at hFB hFl hff hSF hIF
      have had2 := add_strs (P := Try.prog) F t (by omega)
      have hDF := hid fun a b h w => @iDecFixed_nums (F ++ t) k w (isB_append hFB htB.out) (by rw [List.length_append]; omega) a b h
      have hFe := empty_text F
      have hFs : (strOfNums F).size = F.length := strOfNums_size F
      have hts : (strOfNums t).size = t.length := strOfNums_size t
      have hhs : (strOfNums (encHex t)).size = 2 * t.length := by rw [strOfNums_size, encHex_length]
      have hEH := hid fun w => iEncHex_nums t w htB.out (by omega)
      have hDH := hid fun w => iDecHex_nums t w htB.out (by omega)
      have hII := hid fun w => iFormatInt_any x w hx0 hx1
      have hSI := hid fun w => sFormatInt_any x w hx0 hx1
      have hPI := hid fun w => iParse_nums (fmtI x) w (fmtI_isB x) (by have := fmtI_length x; omega)
      have hpp := parseI_fmtI x hx0 hx1
      replace hFB := hid hFB
      clear hF hb5
      by_cases hF0 : F = []
      · subst hF0
        obtain ⟨fa, fb, hfab⟩ : ∃ fa fb, decFixed ([] ++ t) k = (fa, fb) := ⟨_, _, rfl⟩
        rw [decide_eq_true rfl] at hFe
        clear hff
        go_wp2_with fail
        refine (hIF.out _).mono ?_
        rintro e w6 ⟨rfl, hb6⟩
        have B6 := bgo B5 hb6
        go_wp2_with fail
        refine (hDF.out _ _ hfab _).mono ?_
        rintro e w7 ⟨rfl, rfl⟩
        clear hfab hDF hb6
        go_wp2_with fail
        refine (hSF.out _).mono ?_
        rintro e w8 ⟨rfl, hb8⟩
        have B8 := bgo B6 hb8
        clear hSF hIF hb8
        go_wp2_with fail
        refine (hEH.out _).mono ?_
        rintro e w9 ⟨rfl, hb9⟩
        have B9 := bgo B8 hb9
        go_wp2_with fail
        refine (hDH.out _).mono ?_
        rintro e w10 ⟨rfl, hb10⟩
        have B10 := bgo B9 hb10
        go_wp2_with fail
        refine (hII.out _).mono ?_
        rintro e w11 ⟨rfl, hb11⟩
        have B11 := bgo B10 hb11
        by_cases hx : -1000000000 < x ∧ x < 1000000000
        · rw [if_pos hx] at hpp
          rw [parseR_some hpp] at hPI
          obtain ⟨h7, h8⟩ := hx
          clear hpp
          go_wp2_with fail
          refine (hPI.out _).mono ?_
          rintro e w12 ⟨rfl, hb12⟩
          have B12 := bgo B11 hb12
          go_wp2_with fail
          refine (hSI.out _).mono ?_
          rintro e w13 ⟨rfl, hb13⟩
          have B13 := bgo B12 hb13
          go_wp2
          go_ret
          exact ⟨rfl, B13⟩
        · rw [if_neg hx] at hpp
          rw [parseR_none hpp] at hPI
          by_cases h7 : -1000000000 < x
          · have h8 : decide (x < 1000000000) = false := decide_eq_false fun h => hx ⟨h7, h⟩
            clear hpp
            go_wp2_with fail
            refine (hPI.out _).mono ?_
            rintro e w12 ⟨rfl, hb12⟩
            have B12 := bgo B11 hb12
            go_wp2_with fail
            refine (hSI.out _).mono ?_
            rintro e w13 ⟨rfl, hb13⟩
            have B13 := bgo B12 hb13
            go_wp2
            go_ret
            exact ⟨rfl, B13⟩
          · clear hx
            clear hpp
            go_wp2_with fail
            refine (hPI.out _).mono ?_
            rintro e w12 ⟨rfl, hb12⟩
            have B12 := bgo B11 hb12
            go_wp2_with fail
            refine (hSI.out _).mono ?_
            rintro e w13 ⟨rfl, hb13⟩
            have B13 := bgo B12 hb13
            go_wp2
            go_ret
            exact ⟨rfl, B13⟩
      · obtain ⟨h5, h6⟩ := hff hF0
        rw [decide_eq_false hF0] at hFe
        clear hff
        replace hF0 := hid hF0
        go_wp2_with fail
        refine (hIF.out _).mono ?_
        rintro e w6 ⟨rfl, hb6⟩
        have B6 := bgo B5 hb6
        go_wp2_with fail
        refine (hDF.out _ _ h5 _).mono ?_
        rintro e w7 ⟨rfl, rfl⟩
        clear h5 hDF hb6
        go_wp2_with fail
        refine (hSF.out _).mono ?_
        rintro e w8 ⟨rfl, hb8⟩
        have B8 := bgo B6 hb8
        clear hSF hIF hb8
        go_wp2_with fail
        refine (hEH.out _).mono ?_
        rintro e w9 ⟨rfl, hb9⟩
        have B9 := bgo B8 hb9
        go_wp2_with fail
        refine (hDH.out _).mono ?_
        rintro e w10 ⟨rfl, hb10⟩
        have B10 := bgo B9 hb10
        go_wp2_with fail
        refine (hII.out _).mono ?_
        rintro e w11 ⟨rfl, hb11⟩
        have B11 := bgo B10 hb11
        by_cases hx : -1000000000 < x ∧ x < 1000000000
        · rw [if_pos hx] at hpp
          rw [parseR_some hpp] at hPI
          obtain ⟨h7, h8⟩ := hx
          clear hpp
          go_wp2_with fail
          refine (hPI.out _).mono ?_
          rintro e w12 ⟨rfl, hb12⟩
          have B12 := bgo B11 hb12
          go_wp2_with fail
          refine (hSI.out _).mono ?_
          rintro e w13 ⟨rfl, hb13⟩
          have B13 := bgo B12 hb13
          go_wp2
          go_ret
          exact ⟨rfl, B13⟩
        · rw [if_neg hx] at hpp
          rw [parseR_none hpp] at hPI
          by_cases h7 : -1000000000 < x
          · have h8 : decide (x < 1000000000) = false := decide_eq_false fun h => hx ⟨h7, h⟩
            clear hpp
            go_wp2_with fail
            refine (hPI.out _).mono ?_
            rintro e w12 ⟨rfl, hb12⟩
            have B12 := bgo B11 hb12
            go_wp2_with fail
            refine (hSI.out _).mono ?_
            rintro e w13 ⟨rfl, hb13⟩
            have B13 := bgo B12 hb13
            go_wp2
            go_ret
            exact ⟨rfl, B13⟩
          · clear hx
            clear hpp
            go_wp2_with fail
            refine (hPI.out _).mono ?_
            rintro e w12 ⟨rfl, hb12⟩
            have B12 := bgo B11 hb12
            go_wp2_with fail
            refine (hSI.out _).mono ?_
            rintro e w13 ⟨rfl, hb13⟩
            have B13 := bgo B12 hb13
            go_wp2
            go_ret
            exact ⟨rfl, B13⟩
end Go.Proofs.Ytffbamjfpegndab
