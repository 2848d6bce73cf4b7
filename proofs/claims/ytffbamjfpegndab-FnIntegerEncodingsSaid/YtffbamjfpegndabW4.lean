
/- What EncodeHex and DecodeHex compute, the program's and the reference's. Conditions: strings of at most 2^30 bytes. -/
import Derived.Test.YtffbamjfpegndabW1
import Derived.Deep.RegionLaw
namespace Go.Proofs.Ytffbamjfpegndab
open Go.RowKit

theorem dig_get (j : Int) (h0 : 0 ≤ j) (h1 : j < 16) (h : j.toNat < (ByteArray.mk #[48, 49, 50, 51, 52, 53, 54, 55, 56, 57, 97, 98, 99, 100, 101, 102]).size) :
    (((ByteArray.mk #[48, 49, 50, 51, 52, 53, 54, 55, 56, 57, 97, 98, 99, 100, 101, 102])[j.toNat]'h).toNat : Int) = hexD j := by
  obtain ⟨j, rfl⟩ := Int.eq_ofNat_of_zero_le h0
  have hj : j ≤ 15 := by omega
  clear h0 h1
  match j, hj, h with
  | 0, _, _ | 1, _, _ | 2, _, _ | 3, _, _ | 4, _, _ | 5, _, _ | 6, _, _ | 7, _, _ | 8, _, _ | 9, _, _ | 10, _, _ | 11, _, _ | 12, _, _ | 13, _, _ | 14, _, _ | 15, _, _ => rfl
theorem and15 (b : Int) (h : 0 ≤ b ∧ b ≤ 255) : bits .and .u8 b 15 = b % 16 := by
  obtain ⟨a, rfl⟩ := Int.eq_ofNat_of_zero_le h.1
  rw [show (15 : Int) = ((15 : Nat) : Int) from rfl, u8_and_nat a 15 (by omega) (by omega), nat_mask4]
  simp
theorem iEncodeHex_any (s : ByteArray) (w : World) (hs : s.size ≤ 1073741824) :
    Calls Try.prog 35 #[.string s] w fun e w' => e = .returned (.string (strOfNums (encHex (sI s)))) ∧ Below w.heap.size w w' := by
  have hmk : ∀ W, (Instr.makeSlice 44 (.int .i64 0) (.int .i64 (2 * (s.size : Int)))).run Try.prog W = .ok (.slice (some ⟨W.heap.size, 0, none⟩) 0 (2 * s.size)) (W.alloc (.cells (madeCells #[.int .u8 0] (2 * s.size)) 5)) := by
    intro W
    have := make_room (P := Try.prog) Try.underlying44 info_u8 (by decide) (2 * s.size) (by omega) W
    rw [Int.natCast_mul] at this
    exact this
  go_enter Try.func35, Try.ntmps35
  go_wp2
  clear hmk
  go_loopw [3, 4] (fun v i wr => ∃ k : Nat, k ≤ s.size ∧ i = .int .i64 k ∧ Own wr w.heap.size 5 .u8 v (encHex ((sI s).take k)) ∧ Below w.heap.size w wr) (fun _ i _ => s.size - (intOf i).toNat)
  case atStart => exact ⟨0, by omega, rfl, Own.room _ _ _ _ _ (by omega) (Nat.le_refl _), (Below.refl _ _).alloc (Nat.le_refl _) _⟩
  case round =>
    obtain ⟨k, hk, rfl, hown, hb⟩ := hrel
    by_cases hlt : k < s.size
    · have hbb := s[k].toNat_lt
      have hE := hid (sI_take s k hlt)
      have hsz := hb.size
      have hln : (encHex ((sI s).take k)).length + 2 ≤ 1099511627776 := by rw [encHex_length, List.length_take]; omega
      go_wp2
      have hB : 0 ≤ (s[k].toNat : Int) ∧ (s[k].toNat : Int) ≤ 255 := by omega
      have hd1 : 0 ≤ (s[k].toNat : Int) / 16 := by omega
      have hd2 : (s[k].toNat : Int) / 16 < 16 := by omega
      have hd3 : 0 ≤ (s[k].toNat : Int) % 16 := by omega
      have hd4 : (s[k].toNat : Int) % 16 < 16 := by omega
      have hand := and15 _ hB
      go_region_law (first | (refine appN_step rfl _ _ rfl Try.underlying44 info_u8 (by decide) rfl (hown.alloc _).drew [_, _] _ _ rfl (cell2_drew _ _ _ _ _) hln (by simp; omega) ?_; intro v' w' hown' hb' _))
      all_goals
        replace hb := hb.trans (((Below.refl _ wr).alloc hsz _).drew.trans hb')
        rw [dig_get _ hd1 hd2, dig_get _ hd3 hd4, ← encHex_snoc, ← hE.out] at hown'
        clear hown hb'
        go_wp2
        go_roundw
        case rel => exact ⟨k + 1, by omega, by go_num, hown', hb⟩
        case measure => simp [intOf]; omega
    · obtain rfl : k = s.size := by omega
      have e : (sI s).take s.size = sI s := List.take_of_length_le (by rw [sI_length]; exact Nat.le_refl _)
      rw [e] at hown
      clear e
      have hcv := conv_own Try.underlying44 Try.underlying5 Try.underlying9 hown
      clear hown
      go_wp2
      go_ret
      exact ⟨rfl, hb⟩

end Go.Proofs.Ytffbamjfpegndab
