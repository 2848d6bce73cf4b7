
/- What DecodeVarint computes, the program's and the reference's. Conditions: strings of at most 2^40 bytes. -/
import Derived.Test.YtffbamjfpegndabW1
import Derived.Test.YtffbamjfpegndabPlB
import Derived.Deep.RegionWith
namespace Go.Proofs.Ytffbamjfpegndab
open Go.RowKit

theorem toList_strOfNums (l : List Int) : (strOfNums l).toList = toB l := by
  unfold strOfNums
  rw [ByteArray.toList_mk]
  rfl
theorem toList_prefix (s : ByteArray) (m : Nat) : (s.extract 0 m).toList = toB ((sI s).take m) := by
  obtain ⟨d⟩ := s
  obtain ⟨d⟩ := d
  rw [ByteArray.extract_mk, ByteArray.toList_mk]
  unfold sI
  rw [← bI_take, toB_bI]
  rfl
/-- a text against the head of another one -/
theorem eq_prefix (l : List Int) (hl : IsB l) (s : ByteArray) (m : Nat) : ((strOfNums l).toList == (s.extract 0 m).toList) = decide (l = (sI s).take m) := by
  rw [toList_strOfNums, toList_prefix, Bool.eq_iff_iff, beq_iff_eq, decide_eq_true_iff]
  exact ⟨fun h => toB_inj hl (isB_take (isB_sI s) m) h, fun h => by rw [h]⟩
theorem encVarint_leb (l : List Int) (h : l.length ≤ 7) : encVarint (leb l) = encVar 6 (leb l) := by
  have := leb_small l h
  unfold encVarint
  rw [if_pos (by omega)]
theorem isB_encVarint_leb (l : List Int) (h : l.length ≤ 7) : IsB (encVarint (leb l)) := by
  have := leb_small l h
  rw [encVarint_leb l h]
  exact encVar_isB 6 _ this.1 (by rw [pow128_7]; omega)
theorem len_take (s : ByteArray) (k : Nat) (hk : k ≤ s.size) : ((sI s).take k).length = k := by rw [List.length_take, sI_length]; omega

theorem and127 (b : Int) (h : 0 ≤ b ∧ b ≤ 255) : bits .and .u8 b 127 = b % 128 := by
  obtain ⟨a, rfl⟩ := Int.eq_ofNat_of_zero_le h.1
  rw [show (127 : Int) = ((127 : Nat) : Int) from rfl, u8_and_nat a 127 (by omega) (by omega), nat_mask7]
  simp
set_option maxRecDepth 100000 in
theorem iDecodeVarint_any (s : ByteArray) (w : World) (hs : s.size ≤ 1099511627776) :
    Calls Try.prog 30 #[.string s] w fun e w' => e = .returned (.tuple #[.int .i64 (decVar (sI s)).1, .int .i64 (decVar (sI s)).2]) ∧ Below w.heap.size w w' := by
  go_enter Try.func30, Try.ntmps30
  go_wp2

  go_loopw [4, 5] (fun n i wr => ∃ k : Nat, k ≤ s.size ∧ k ≤ 7 ∧ i = .int .i64 k ∧ n = .int .i64 (leb ((sI s).take k)) ∧ Hid (∀ x ∈ (sI s).take k, 128 ≤ x) ∧ Below w.heap.size w wr) (fun _ i _ => 7 - (intOf i).toNat)
  case atStart => exact ⟨0, by omega, by omega, rfl, rfl, fun x hx => by simp at hx, Below.refl _ _⟩
  case round =>
    obtain ⟨k, hk, hk7, rfl, rfl, hall, hb⟩ := hrel
    by_cases hlt : k < s.size
    · by_cases h7 : k < 7
      · have hbb := s[k].toNat_lt
        have hB : 0 ≤ (s[k].toNat : Int) ∧ (s[k].toNat : Int) ≤ 255 := by omega
        have hlb := leb_small ((sI s).take k) (by rw [len_take s k hk]; omega)
        have hlb2 := leb_bd ((sI s).take k)
        rw [len_take s k hk] at hlb2
        have hL : leb ((sI s).take (k + 1)) = leb ((sI s).take k) + 128 ^ k * ((s[k].toNat : Int) % 128) := by
          rw [sI_take s k hlt, leb_snoc, len_take s k hk]
        have hand := and127 _ hB
        have hsh : wrap64 ((s[k].toNat : Int) % 128 * 2 ^ (7 * k)) = 128 ^ k * ((s[k].toNat : Int) % 128) := by
          have h7 : (2 : Int) ^ (7 * k) = 128 ^ k := by rw [Int.pow_mul]; rfl
          rw [h7, Int.mul_comm]
          have hlt2 : (leb ((sI s).take (k + 1))) ≤ 562949953421311 := (leb_small _ (by rw [len_take s (k + 1) hlt]; omega)).2
          have hnn : 0 ≤ (128 : Int) ^ k * ((s[k].toNat : Int) % 128) := Int.mul_nonneg (Int.le_of_lt (pow128_pos k)) (by omega)
          exact IntWalk.wrap64_in _ (by omega)
        have hor : bits .or .i64 (leb ((sI s).take k)) (128 ^ k * ((s[k].toNat : Int) % 128)) = leb ((sI s).take (k + 1)) := by
          have hlt2 : (leb ((sI s).take (k + 1))) ≤ 562949953421311 := (leb_small _ (by rw [len_take s (k + 1) hlt]; omega)).2
          have e1 : (((2 ^ (7 * k) : Nat) : Int)) = 128 ^ k := by rw [Int.natCast_pow, Int.pow_mul]; rfl
          rw [or64_comm, Int.mul_comm (128 ^ k), ← e1, or64_join (7 * k) _ _ (by omega) hlb2.1 (by rw [e1]; exact hlb2.2) (by rw [e1, Int.mul_comm]; omega), e1, hL, Int.mul_comm]
          omega
        have hl2 := leb_small ((sI s).take (k + 1)) (by rw [len_take s (k + 1) hlt]; omega)
        have hat := decVar_at (sI s) k (by rw [sI_length]; exact hlt) h7 hall.out
        rw [sI_get s k hlt] at hat
        have hev := encVarint_leb ((sI s).take (k + 1)) (by rw [len_take s (k + 1) hlt]; omega)
        have hcmp := eq_prefix _ (isB_encVarint_leb ((sI s).take (k + 1)) (by rw [len_take s (k + 1) hlt]; omega)) s (k + 1)
        rw [hev] at hcmp
        replace hev := hid hev
        have hall2 : 128 ≤ (s[k].toNat : Int) → ∀ x ∈ (sI s).take (k + 1), 128 ≤ x := by
          intro h x hx
          rw [sI_take s k hlt] at hx
          rcases List.mem_append.1 hx with hx | hx
          · exact hall.out x hx
          · rw [List.mem_singleton.1 hx]; exact h
        replace hall2 := hid hall2
        obtain ⟨m, hm⟩ : ∃ m, m = leb ((sI s).take k) := ⟨_, rfl⟩
        obtain ⟨m2, hm2⟩ : ∃ m2, m2 = leb ((sI s).take (k + 1)) := ⟨_, rfl⟩
        obtain ⟨q, hq⟩ : ∃ q, q = 128 ^ k * ((s[k].toNat : Int) % 128) := ⟨_, rfl⟩
        rw [← hq] at hsh hor
        rw [← hm2] at hor hl2 hat hcmp hev
        rw [← hm] at hlb hor ⊢
        replace hm := hid hm
        replace hm2 := hid hm2
        replace hq := hid hq
        clear hL hlb2 hall
        by_cases hlow : (s[k].toNat : Int) < 128
        · replace hat := hat hlow
          by_cases hc : encVar 6 m2 = (sI s).take (k + 1)
          · rw [if_pos hc] at hat
            replace hat := hid hat
            rw [decide_eq_true hc] at hcmp
            clear hc
            have hq1 : IntKind.i64.wrap ((k : Int) + 1) = k + 1 := IntWalk.i64_in _ (by omega)
            have hq2 : 0 ≤ (k : Int) + 1 := by omega
            have hq3 : ((k : Int) + 1).toNat = k + 1 := by omega
            have hq4 : (k : Int) + 1 ≤ s.size := by omega
            go_wp2_with (fail)
            go_region_with (go_at_call 29; refine (iEncodeVarint_yes _ _ hl2.1 hl2.2).mono ?_; rintro e w' ⟨rfl, hb'⟩)
            replace hb := hb.trans ((Below.refl _ wr).drew.trans (hb'.mono hb.size))
            go_wp2
            go_ret2
            exact ⟨by rw [hat.out]; rfl, hb⟩
          · rw [if_neg hc] at hat
            replace hat := hid hat
            rw [decide_eq_false hc] at hcmp
            clear hc
            have hq1 : IntKind.i64.wrap ((k : Int) + 1) = k + 1 := IntWalk.i64_in _ (by omega)
            have hq2 : 0 ≤ (k : Int) + 1 := by omega
            have hq3 : ((k : Int) + 1).toNat = k + 1 := by omega
            have hq4 : (k : Int) + 1 ≤ s.size := by omega
            go_wp2_with (fail)
            go_region_with (go_at_call 29; refine (iEncodeVarint_yes _ _ hl2.1 hl2.2).mono ?_; rintro e w' ⟨rfl, hb'⟩)
            replace hb := hb.trans ((Below.refl _ wr).drew.trans (hb'.mono hb.size))
            go_wp2
            go_ret2
            exact ⟨by rw [hat.out]; rfl, hb⟩
        · go_wp2
          go_roundw
          case rel => exact ⟨k + 1, by omega, by omega, by go_num, by rw [hm2.out], hall2.out (by omega), hb⟩
          case measure => simp [intOf]; omega
      · have : k = 7 := by omega
        have hN := hid (decVar_none (sI s) (this ▸ hall.out))
        clear this
        go_wp2
        go_ret2
        exact ⟨by rw [hN.out]; rfl, hb⟩
    · have hN := hid (decVar_none (sI s) (by
        have e : (sI s).take 7 = (sI s).take k := by rw [List.take_of_length_le (by rw [sI_length]; omega), List.take_of_length_le (by rw [sI_length]; omega)]
        rw [e]
        exact hall.out))
      go_wp2
      go_ret2
      exact ⟨by rw [hN.out]; rfl, hb⟩

end Go.Proofs.Ytffbamjfpegndab
