
/- What EncodeFixed and FormatInt compute, the program's and the reference's. No conditions. -/
import Derived.Test.YtffbamjfpegndabW1
namespace Go.Proofs.Ytffbamjfpegndab
open Go.RowKit

def encFixed (n width : Int) : List Int := if 1 ≤ width ∧ width ≤ 7 ∧ 0 ≤ n ∧ n < 256 ^ width.toNat then encFix width.toNat n else []
theorem pow256_le (k : Nat) (h : k ≤ 7) : (256 : Int) ^ k ≤ 72057594037927936 := by
  match k, h with
  | 0, _ | 1, _ | 2, _ | 3, _ | 4, _ | 5, _ | 6, _ | 7, _ => decide

theorem sEncodeFixed_yes (n : Int) (k : Nat) (w : World) (h1 : 1 ≤ k) (h2 : k ≤ 7) (h0 : 0 ≤ n) (hn : n ≤ 9223372036854775807) :
    Calls Try.prog 34 #[.int .i64 n, .int .i64 k] w fun e w' => e = .returned (.string (strOfNums (encFixed n k))) ∧ Below w.heap.size w w' := by
  go_enter Try.func34, Try.ntmps34
  go_wp2_with (go_at_call 61; refine (sl1In_yes _ _ _ (by omega) _).mono ?_; rintro e w' ⟨rfl, rfl⟩)
  go_loopw [5, 0, 6] (fun o m i wr => ∃ j : Nat, j ≤ k ∧ i = .int .i64 j ∧ m = .int .i64 (n / 256 ^ j) ∧ o = .string (strOfNums (encFix j n)) ∧ Below w.heap.size w wr) (fun _ _ i _ => k - (intOf i).toNat)
  case atStart => exact ⟨0, by omega, rfl, by simp, rfl, Below.refl _ _⟩
  case round =>
    obtain ⟨j, hj, rfl, rfl, rfl, hb⟩ := hrel
    have hp := pow256_pos j
    have hq : 0 ≤ n / 256 ^ j ∧ n / 256 ^ j ≤ n := ⟨Int.ediv_nonneg h0 (by omega), Int.ediv_le_self _ h0⟩
    have hL := hid (encFix_front j n)
    have hD := hid (div_pow256' n j)
    obtain ⟨m, hm⟩ : ∃ m, m = n / 256 ^ j := ⟨_, rfl⟩
    rw [← hm] at hq ⊢
    have hM := hid hm
    clear hm hp
    have hl := encFix_length j n
    have hcv := conv_one (P := Try.prog) Try.underlying44 Try.underlying5 Try.underlying9
    have hadd := add_strs (P := Try.prog) [m % 256] (encFix j n) (by simp; omega)
    clear hl
    by_cases hlt : j < k
    · go_wp2
      go_roundw
      case rel => exact ⟨j + 1, by omega, by go_num, by rw [← hD.out, ← hM.out], by rw [hL.out, ← hM.out], hb.alloc hb.size _⟩
      case measure => simp [intOf]; omega
    · obtain rfl : j = k := by omega
      have hfin : encFixed n j = if 0 < m then [] else encFix j n := by
        have hp := pow256_pos j
        have hM := hM.out
        have hdm := Int.mul_ediv_add_emod n (256 ^ j)
        have hr := Int.emod_lt_of_pos n hp
        have hr0 := Int.emod_nonneg n (Int.ne_of_gt hp)
        unfold encFixed
        rw [Int.toNat_natCast]
        rw [← hM] at hdm
        by_cases hpos : 0 < m
        · rw [if_pos hpos, if_neg]
          intro h
          have : 256 ^ j * 1 ≤ 256 ^ j * m := Int.mul_le_mul_of_nonneg_left (by omega) (by omega)
          omega
        · have : m = 0 := by omega
          subst this
          rw [if_neg hpos, if_pos ⟨by omega, by omega, h0, by omega⟩]
      have hF := hid hfin
      clear hfin hcv hadd
      by_cases hpos : 0 < m
      · go_wp2
        go_ret
        exact ⟨by rw [hF.out, if_pos (by omega)]; rfl, hb⟩
      · go_wp2
        go_ret
        exact ⟨by rw [hF.out, if_neg (by omega)]; rfl, hb⟩
theorem encFixed_no (n width : Int) (h : ¬ (1 ≤ width ∧ width ≤ 7 ∧ 0 ≤ n)) : encFixed n width = [] := by
  unfold encFixed
  rw [if_neg]
  exact fun h' => h ⟨h'.1, h'.2.1, h'.2.2.1⟩
theorem sEncodeFixed_any (n width : Int) (w : World) (hn : n ≤ 9223372036854775807) :
    Calls Try.prog 34 #[.int .i64 n, .int .i64 width] w fun e w' => e = .returned (.string (strOfNums (encFixed n width))) ∧ Below w.heap.size w w' := by
  by_cases h : 1 ≤ width ∧ width ≤ 7
  · by_cases h0 : 0 ≤ n
    · obtain ⟨k, rfl⟩ := Int.eq_ofNat_of_zero_le (show 0 ≤ width by omega)
      exact sEncodeFixed_yes n k w (by omega) (by omega) h0 hn
    · rw [encFixed_no _ _ (by omega)]
      go_enter Try.func34, Try.ntmps34
      go_wp2_with (go_at_call 61; refine (sl1In_yes _ _ _ h _).mono ?_; rintro e w' ⟨rfl, rfl⟩)
      go_ret
      exact ⟨rfl, Below.refl _ _⟩
  · rw [encFixed_no _ _ (by omega)]
    go_enter Try.func34, Try.ntmps34
    go_wp2_with (go_at_call 61; refine (sl1In_no _ _ _ h _).mono ?_; rintro e w' ⟨rfl, rfl⟩)
    go_ret
    exact ⟨rfl, Below.refl _ _⟩

set_option maxRecDepth 100000 in
theorem iEncodeFixed_yes (n : Int) (k : Nat) (w : World) (h1 : 1 ≤ k) (h2 : k ≤ 7) (h0 : 0 ≤ n) (hn : n < 256 ^ k) :
    Calls Try.prog 32 #[.int .i64 n, .int .i64 k] w fun e w' => e = .returned (.string (strOfNums (encFix k n))) ∧ Below w.heap.size w w' := by
  have hsh : wrap64 (2 ^ (8 * k)) = 256 ^ k := by
    match k, h2 with
    | 0, _ | 1, _ | 2, _ | 3, _ | 4, _ | 5, _ | 6, _ | 7, _ => unfold wrap64; decide
  have hpl := pow256_le k h2
  obtain ⟨p, hp⟩ : ∃ p : Int, p = 256 ^ k := ⟨_, rfl⟩
  rw [← hp] at hsh hpl hn
  have hP := hid hp
  clear hp
  have hmk := make_full (P := Try.prog) Try.underlying44 info_u8 (by decide) k (by omega)
  go_enter Try.func32, Try.ntmps32
  go_wp2_with (go_at_call 59; refine (iwithin_yes _ _ _ (by omega) _).mono ?_; rintro e w' ⟨rfl, rfl⟩)
  clear hmk
  go_loopw [0, 6] (fun m i wr => ∃ j : Nat, j ≤ k ∧ i = .int .i64 ((k : Int) - 1 - j) ∧ m = .int .i64 (n / 256 ^ j) ∧ Own wr w.heap.size 5 .u8 (.slice (some ⟨w.heap.size, 0, none⟩) k k) (List.replicate (k - j) 0 ++ encFix j n) ∧ Below w.heap.size w wr) (fun _ i _ => (intOf i + 1).toNat)
  case atStart => exact ⟨0, by omega, by go_num, by simp, by simpa [encFix] using Own.made w w.heap.size _ .u8 k (by omega) (Nat.le_refl _), (Below.refl _ _).alloc (Nat.le_refl _) _⟩
  case round =>
    obtain ⟨j, hj, rfl, rfl, hown, hb⟩ := hrel
    have hq : 0 ≤ n / 256 ^ j ∧ n / 256 ^ j ≤ n := ⟨Int.ediv_nonneg h0 (Int.le_of_lt (pow256_pos j)), Int.ediv_le_self _ h0⟩
    have hL := hid (encFix_front j n)
    have hD := hid (div_pow256' n j)
    obtain ⟨m, hm⟩ : ∃ m, m = n / 256 ^ j := ⟨_, rfl⟩
    rw [← hm] at hq ⊢
    have hM := hid hm
    clear hm
    by_cases hlt : j < k
    · obtain ⟨t, ht⟩ : ∃ t, t = k - 1 - j := ⟨_, rfl⟩
      have hT : ((k : Int) - 1 - j) = (t : Int) := by omega
      have hlen : t < (List.replicate (k - j) 0 ++ encFix j n).length := by rw [List.length_append, List.length_replicate]; omega
      obtain ⟨c0, hc⟩ := hown.some_ t hlen
      have hf := hown.frozen t
      have hst := hown.store t (m % 256)
      have hset : (List.replicate (k - j) 0 ++ encFix j n).set t (m % 256) = List.replicate (k - (j + 1)) 0 ++ encFix (j + 1) n := by
        rw [hL.out, ← hM.out, ht]
        rw [List.set_append_left _ _ (by rw [List.length_replicate]; omega)]
        rw [show k - j = (k - (j + 1)) + 1 by omega, List.replicate_succ', List.set_append_right _ _ (by rw [List.length_replicate]; omega)]
        rw [List.length_replicate, show k - 1 - j - (k - (j + 1)) = 0 by omega]
        simp
      rw [hset] at hst
      have hb1 : bits .and .i64 m 255 = m % 256 := and64_low 8 m (by omega) hq.1 (by omega)
      replace hst := hid hst
      have htk : t < k := by omega
      have hTT := hid hT
      rw [hT]
      clear ht hT hset hlen hown
      go_wp2
      go_roundw
      case rel => exact ⟨j + 1, by omega, congrArg (Value.int .i64) (by have := hTT.out; omega), by rw [← hD.out, ← hM.out], hst.out, hb.setCell (Nat.le_refl _) _⟩
      case measure => simp [intOf]
    · obtain rfl : j = k := by omega
      have hown2 : Own wr w.heap.size 5 .u8 (.slice (some ⟨w.heap.size, 0, none⟩) j j) (encFix j n) := by simpa using hown
      have hcv := conv_own Try.underlying44 Try.underlying5 Try.underlying9 hown2
      clear hown hown2
      go_wp2
      go_ret
      exact ⟨rfl, hb⟩
theorem iEncodeFixed_any (n width : Int) (w : World) :
    Calls Try.prog 32 #[.int .i64 n, .int .i64 width] w fun e w' => e = .returned (.string (strOfNums (encFixed n width))) ∧ Below w.heap.size w w' := by
  by_cases h : 1 ≤ width ∧ width ≤ 7
  · by_cases h0 : 0 ≤ n
    · obtain ⟨k, rfl⟩ := Int.eq_ofNat_of_zero_le (show 0 ≤ width by omega)
      by_cases hf : n < 256 ^ k
      · have e : encFixed n k = encFix k n := by
          unfold encFixed
          rw [Int.toNat_natCast, if_pos ⟨h.1, h.2, h0, hf⟩]
        rw [e]
        exact iEncodeFixed_yes n k w (by omega) (by omega) h0 hf
      · have e : encFixed n k = [] := by
          unfold encFixed
          rw [Int.toNat_natCast, if_neg fun h' => hf h'.2.2.2]
        rw [e]
        have hsh : wrap64 (2 ^ (8 * k)) = 256 ^ k := by
          have h2 : k ≤ 7 := by omega
          match k, h2 with
          | 0, _ | 1, _ | 2, _ | 3, _ | 4, _ | 5, _ | 6, _ | 7, _ => unfold wrap64; decide
        obtain ⟨p, hp⟩ : ∃ p : Int, p = 256 ^ k := ⟨_, rfl⟩
        rw [← hp] at hsh hf
        clear hp e
        go_enter Try.func32, Try.ntmps32
        go_wp2_with (go_at_call 59; refine (iwithin_yes _ _ _ h _).mono ?_; rintro e w' ⟨rfl, rfl⟩)
        go_ret
        exact ⟨rfl, Below.refl _ _⟩
    · rw [encFixed_no _ _ (by omega)]
      go_enter Try.func32, Try.ntmps32
      go_wp2_with (go_at_call 59; refine (iwithin_yes _ _ _ h _).mono ?_; rintro e w' ⟨rfl, rfl⟩)
      go_ret
      exact ⟨rfl, Below.refl _ _⟩
  · rw [encFixed_no _ _ (by omega)]
    go_enter Try.func32, Try.ntmps32
    go_wp2_with (go_at_call 59; refine (iwithin_no _ _ _ h _).mono ?_; rintro e w' ⟨rfl, rfl⟩)
    go_ret
    exact ⟨rfl, Below.refl _ _⟩

end Go.Proofs.Ytffbamjfpegndab
