
/- What DecodeHex computes, the program's and the reference's. Conditions: strings of at most 2^30 bytes. -/
import Derived.Test.YtffbamjfpegndabW5
namespace Go.Proofs.Ytffbamjfpegndab
open Go.RowKit

def decHexR (l : List Int) : List Int × Bool := match decHex l with | some r => (r, true) | none => ([], false)
theorem decHexR_some {l r : List Int} (h : decHex l = some r) : decHexR l = (r, true) := by unfold decHexR; rw [h]
theorem decHexR_none {l : List Int} (h : decHex l = none) : decHexR l = ([], false) := by unfold decHexR; rw [h]
theorem decHex_round (s : ByteArray) (k j : Nat) (out : List Int) (hj : j = 2 * k) (hk : j + 1 < s.size) (h : decHex (sI s) = (decHex ((sI s).drop (2 * k))).map (out ++ ·)) :
    (¬ (hexV s[j].toNat < 0 ∨ hexV s[j + 1].toNat < 0) → decHex (sI s) = (decHex ((sI s).drop (2 * (k + 1)))).map ((out ++ [hexV s[j].toNat * 16 + hexV s[j + 1].toNat]) ++ ·)) ∧
    ((hexV s[j].toNat < 0 ∨ hexV s[j + 1].toNat < 0) → decHex (sI s) = none) := by
  subst hj
  have := decHex_step (sI s) k out (by rw [sI_length]; exact hk) h
  rw [sI_get s (2 * k) (by omega), sI_get s (2 * k + 1) hk] at this
  exact this
theorem decHex_done (s : ByteArray) (k : Nat) (out : List Int) (hk : 2 * k = s.size) (h : decHex (sI s) = (decHex ((sI s).drop (2 * k))).map (out ++ ·)) : decHexR (sI s) = (out, true) := by
  have e : (sI s).drop (2 * k) = [] := List.drop_eq_nil_of_le (by rw [sI_length]; omega)
  rw [e] at h
  exact decHexR_some (by rw [h]; simp [decHex])

theorem iDecodeHex_odd (s : ByteArray) (w : World) (hodd : s.size % 2 = 1) :
    Calls Try.prog 36 #[.string s] w fun e w' => e = .returned (.tuple #[.string (strOfNums (decHexR (sI s)).1), .bool (decHexR (sI s)).2]) ∧ Below w.heap.size w w' := by
  rw [decHexR_none (decHex_odd (s.size / 2) _ (by rw [sI_length]; omega))]
  have ht : ((s.size : Int) % 2 != 0) = true := by rw [bne_iff_ne]; omega
  go_enter Try.func36, Try.ntmps36
  go_wp2
  go_ret2
  exact ⟨rfl, Below.refl _ _⟩
theorem iDecodeHex_even (s : ByteArray) (w : World) (hs : s.size ≤ 1073741824) (heven : s.size % 2 = 0) :
    Calls Try.prog 36 #[.string s] w fun e w' => e = .returned (.tuple #[.string (strOfNums (decHexR (sI s)).1), .bool (decHexR (sI s)).2]) ∧ Below w.heap.size w w' := by
  have ht : ((s.size : Int) % 2 != 0) = false := by rw [bne_eq_false_iff_eq]; omega
  have hmk : ∀ W, (Instr.makeSlice 44 (.int .i64 0) (.int .i64 ((s.size : Int) / 2))).run Try.prog W = .ok (.slice (some ⟨W.heap.size, 0, none⟩) 0 (s.size / 2)) (W.alloc (.cells (madeCells #[.int .u8 0] (s.size / 2)) 5)) := by
    intro W
    have := make_room (P := Try.prog) Try.underlying44 info_u8 (by decide) (s.size / 2) (by omega) W
    rw [Int.natCast_ediv] at this
    exact this
  replace heven := hid heven
  go_enter Try.func36, Try.ntmps36
  go_wp2
  clear hmk
  go_loopw [4, 5] (fun v i wr => ∃ (k j : Nat) (out : List Int), Hid (j = 2 * k) ∧ j ≤ s.size ∧ i = .int .i64 j ∧ Own wr w.heap.size 5 .u8 v out ∧ out.length ≤ j ∧ Hid (decHex (sI s) = (decHex ((sI s).drop (2 * k))).map (out ++ ·)) ∧ Below w.heap.size w wr) (fun _ i _ => s.size - (intOf i).toNat)
  case atStart => exact ⟨0, 0, [], rfl, by omega, rfl, Own.room _ _ _ _ _ (by omega) (Nat.le_refl _), by simp, by show _ = _; simp, (Below.refl _ _).alloc (Nat.le_refl _) _⟩
  case round =>
    obtain ⟨k, j, out, hjk, hj, rfl, hown, hlen, hdec, hb⟩ := hrel
    have hsz := hb.size
    by_cases hlt : j < s.size
    · have hlt2 : j + 1 < s.size := by have := heven.out; have := hjk.out; omega
      have hb1 := s[j].toNat_lt
      have hb2 := s[j + 1].toNat_lt
      have hr := hid (decHex_round s k j out hjk.out hlt2 hdec.out)
      have hv1 := hexV_b s[j].toNat
      have hv2 := hexV_b s[j + 1].toNat
      have hB1 : 0 ≤ (s[j].toNat : Int) ∧ (s[j].toNat : Int) ≤ 255 := by omega
      have hB2 : 0 ≤ (s[j + 1].toNat : Int) ∧ (s[j + 1].toNat : Int) ≤ 255 := by omega
      have hq1 : IntKind.i64.wrap ((j : Int) + 1) = j + 1 := IntWalk.i64_in _ (by omega)
      have hq2 : 0 ≤ (j : Int) + 1 := by omega
      have hq4 : (j : Int) + 1 < s.size := by omega
      have hq3 : ((j : Int) + 1).toNat = j + 1 := by omega
      by_cases c : hexV s[j].toNat < 0 ∨ hexV s[j + 1].toNat < 0
      · have hn := hid (decHexR_none (hr.out.2 c))
        clear hr
        go_wp2_with fail
        go_quiet ((go_at_call 62; exact qsame (ihexValue_any _ (by assumption) _)))
        rcases c with c | c
        all_goals
          go_wp2
          all_goals
            go_ret2
            exact ⟨by rw [hn.out]; rfl, hb.trans (below_drewN _ _ _)⟩
      · have hS := hid (hr.out.1 c)
        have c1 : 0 ≤ hexV s[j].toNat := by omega
        have c2 : 0 ≤ hexV s[j + 1].toNat := by omega
        clear hr c hdec
        have hor : bits .or .i64 (hexV s[j].toNat * 16) (hexV s[j + 1].toNat) = hexV s[j].toNat * 16 + hexV s[j + 1].toNat := or64_join 4 _ _ (by omega) (by omega) (by omega) (by omega)
        go_wp2_with fail
        go_quiet ((go_at_call 62; exact qsame (ihexValue_any _ (by assumption) _)))
        go_wp2_with (at_builtin; refine app1 rfl _ _ rfl Try.underlying44 info_u8 (by decide) rfl (hown.drewN _) rfl (by omega) (by simp; omega) ?_)
        intro v' w' hown' hb' _
        clear hown
        go_wp2
        go_roundw
        case rel => exact ⟨k + 1, j + 2, _, by have := hjk.out; show j + 2 = 2 * (k + 1); omega, by omega, by go_num, hown', by simp; omega, hS, hb.trans ((below_drewN _ _ _).trans hb')⟩
        case measure => simp [intOf]; omega
    · obtain rfl : j = s.size := by omega
      have hR := hid (decHex_done s k out (hjk.out ▸ rfl) hdec.out)
      have hcv := conv_own Try.underlying44 Try.underlying5 Try.underlying9 hown
      clear hown
      go_wp2
      go_ret2
      exact ⟨by rw [hR.out]; rfl, hb⟩

theorem iDecodeHex_any (s : ByteArray) (w : World) (hs : s.size ≤ 1073741824) :
    Calls Try.prog 36 #[.string s] w fun e w' => e = .returned (.tuple #[.string (strOfNums (decHexR (sI s)).1), .bool (decHexR (sI s)).2]) ∧ Below w.heap.size w w' := by
  by_cases h : s.size % 2 = 0
  · exact iDecodeHex_even s w hs h
  · exact iDecodeHex_odd s w (by omega)

end Go.Proofs.Ytffbamjfpegndab
