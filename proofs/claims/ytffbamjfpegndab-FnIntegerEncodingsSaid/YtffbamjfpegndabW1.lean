
/- What the functions of chapter 1 compute, the program's and the reference's: each returns the value of one plain function. Conditions: strings of at most 2^40 bytes where one is read. -/
import Derived.Test.YtffbamjfpegndabIn
namespace Go.Proofs.Ytffbamjfpegndab
open Go.RowKit

theorem info_u8 : (Try.prog.info? 5).map (fun i => (i.zero, i.size, i.bytes)) = some (some (.int .u8 0), 1, 1) := by kernel_rfl

/-- the bytes of a string as integers -/
def sI (s : ByteArray) : List Int := bI s.data.toList
theorem sI_length (s : ByteArray) : (sI s).length = s.size := by
  show (bI s.data.toList).length = _
  rw [bI_length]
  rfl
theorem sI_get (s : ByteArray) (k : Nat) (h : k < s.size) : (sI s)[k]'(by rw [sI_length]; exact h) = (s[k].toNat : Int) := by
  simp [sI, bI]; rfl
theorem sI_take (s : ByteArray) (k : Nat) (h : k < s.size) : (sI s).take (k + 1) = (sI s).take k ++ [(s[k].toNat : Int)] := by
  rw [take_succ_get _ k (by rw [sI_length]; exact h), sI_get s k h]
theorem isB_sI (s : ByteArray) : IsB (sI s) := isB_bI _
theorem isB_take {l : List Int} (h : IsB l) (k : Nat) : IsB (l.take k) := fun x hx => h x (List.mem_of_mem_take hx)

/-! ### a number between two others -/

/-! ### DecodeFixed -/
def decFixed (l : List Int) (width : Int) : Int × Bool := if 1 ≤ width ∧ width ≤ 7 ∧ width ≤ l.length then (decFix (l.take width.toNat), true) else (0, false)
theorem decFix_small (l : List Int) (k : Nat) (h : IsB l) (hk : k ≤ 6) : 0 ≤ decFix (l.take k) ∧ decFix (l.take k) ≤ 281474976710655 := by
  have h1 := decFix_bd (l.take k) (isB_take h k)
  have h2 : (l.take k).length ≤ 6 := by rw [List.length_take]; omega
  have h3 : (256 : Int) ^ (l.take k).length ≤ 281474976710656 := by
    generalize (l.take k).length = m at h2
    match m, h2 with
    | 0, _ | 1, _ | 2, _ | 3, _ | 4, _ | 5, _ | 6, _ => decide
  omega
theorem decFix_last (s : ByteArray) (k : Nat) (h : k < s.size) : decFix ((sI s).take (k + 1)) = decFix ((sI s).take k) * 256 + s[k].toNat := by
  rw [sI_take s k h, decFix_snoc]

theorem iDecodeFixed_yes (s : ByteArray) (width : Int) (w : World) (hs : s.size ≤ 1099511627776) (h1 : 1 ≤ width) (h2 : width ≤ 7) (h3 : width ≤ s.size) :
    Calls Try.prog 33 #[.string s, .int .i64 width] w fun e w' => e = .returned (.tuple #[.int .i64 (decFix ((sI s).take width.toNat)), .bool true]) ∧ w = w' := by
  have h4 : decide ((s.size : Int) < width) = false := by simp; omega
  go_enter Try.func33, Try.ntmps33
  go_wp2_with (go_at_call 59; refine (iwithin_yes _ _ _ (by omega) _).mono ?_; rintro e w' ⟨rfl, rfl⟩)
  go_loop [6, 7] (fun n i => ∃ k : Nat, k ≤ width ∧ i = .int .i64 k ∧ n = .int .i64 (decFix ((sI s).take k))) (fun _ i => width.toNat - (intOf i).toNat)
  case atStart => exact ⟨0, by omega, rfl, rfl⟩
  case round =>
    obtain ⟨k, hk, rfl, rfl⟩ := hrel
    by_cases hlt : (k : Int) < width
    · have hks : k < s.size := by omega
      have hd := decFix_small (sI s) k (isB_sI s) (by omega)
      have hL := hid (decFix_last s k hks)
      have hbb := s[k].toNat_lt
      obtain ⟨m, hm⟩ : ∃ m, m = decFix ((sI s).take k) := ⟨_, rfl⟩
      rw [← hm] at hd ⊢
      have hM := hid hm
      clear hm
      have hor : bits .or .i64 (m * 256) (s[k].toNat : Int) = m * 256 + s[k].toNat := or64_join 8 m s[k].toNat (by omega) (by omega) (by omega) (by omega)
      go_wp2
      all_goals
        go_round
        case rel => exact ⟨k + 1, by omega, by go_num, by rw [hL.out, ← hM.out]⟩
        case measure => simp [intOf]; omega
    · go_wp2
      go_ret2
      obtain rfl : width = k := by omega
      exact ⟨rfl, rfl⟩
theorem iDecodeFixed_no (s : ByteArray) (width : Int) (w : World) (h : ¬ (1 ≤ width ∧ width ≤ 7 ∧ width ≤ s.size)) :
    Calls Try.prog 33 #[.string s, .int .i64 width] w fun e w' => e = .returned (.tuple #[.int .i64 0, .bool false]) ∧ w = w' := by
  by_cases h1 : 1 ≤ width
  · by_cases h2 : width ≤ 7
    · have h4 : decide ((s.size : Int) < width) = true := by simp; omega
      go_enter Try.func33, Try.ntmps33
      go_wp2_with (go_at_call 59; refine (iwithin_yes _ _ _ (by omega) _).mono ?_; rintro e w' ⟨rfl, rfl⟩)
      go_ret2
      exact ⟨rfl, rfl⟩
    · go_enter Try.func33, Try.ntmps33
      go_wp2_with (go_at_call 59; refine (iwithin_no _ _ _ (by omega) _).mono ?_; rintro e w' ⟨rfl, rfl⟩)
      go_ret2
      exact ⟨rfl, rfl⟩
  · go_enter Try.func33, Try.ntmps33
    go_wp2_with (go_at_call 59; refine (iwithin_no _ _ _ (by omega) _).mono ?_; rintro e w' ⟨rfl, rfl⟩)
    go_ret2
    exact ⟨rfl, rfl⟩
theorem iDecodeFixed_any (s : ByteArray) (width : Int) (w : World) (hs : s.size ≤ 1099511627776) :
    Calls Try.prog 33 #[.string s, .int .i64 width] w fun e w' => e = .returned (.tuple #[.int .i64 (decFixed (sI s) width).1, .bool (decFixed (sI s) width).2]) ∧ w = w' := by
  unfold decFixed
  rw [sI_length]
  by_cases h : 1 ≤ width ∧ width ≤ 7 ∧ width ≤ (s.size : Int)
  · rw [if_pos h]
    exact iDecodeFixed_yes s width w hs h.1 h.2.1 h.2.2
  · rw [if_neg h]
    exact iDecodeFixed_no s width w h

/-! ### EncodeVarint -/
def encVarint (n : Int) : List Int := if 0 ≤ n ∧ n ≤ 562949953421311 then encVar 6 n else []
theorem encVar_round {f : Nat} {m n : Int} {out : List Int} (hlt : 127 < m) (hmf : m < 128 ^ (f + 1)) (hout : out ++ encVar f m = encVar 6 n) (hlen : out.length + f ≤ 6) :
    ∃ g : Nat, f = g + 1 ∧ m / 128 < 128 ^ (g + 1) ∧ (out ++ [128 + m % 128]) ++ encVar g (m / 128) = encVar 6 n ∧ (out ++ [128 + m % 128]).length + g ≤ 6 := by
  cases f with
  | zero => simp at hmf; omega
  | succ g =>
    have hp : (128 : Int) ^ (g + 1 + 1) = 128 ^ (g + 1) * 128 := Int.pow_succ 128 (g + 1)
    refine ⟨g, rfl, by omega, ?_, by simp; omega⟩
    rw [encVar, if_pos hlt] at hout
    rw [← hout, List.append_assoc]
    rfl
theorem encVar_end {f : Nat} {m n : Int} {out : List Int} (hlt : m ≤ 127) (hout : out ++ encVar f m = encVar 6 n) : out ++ [m] = encVar 6 n := by
  rw [← hout]
  cases f with
  | zero => rfl
  | succ f => rw [encVar, if_neg (by omega)]
theorem iEncodeVarint_yes (n : Int) (w : World) (h1 : 0 ≤ n) (h2 : n ≤ 562949953421311)  :
    Calls Try.prog 29 #[.int .i64 n] w fun e w' => e = .returned (.string (strOfNums (encVar 6 n))) ∧ Below w.heap.size w w' := by
  go_enter Try.func29, Try.ntmps29
  go_wp2_with (go_at_call 59; refine (iwithin_yes _ _ _ (by omega) _).mono ?_; rintro e w' ⟨rfl, rfl⟩)
  go_loopw [3, 0] (fun v i wr => ∃ (f : Nat) (m : Int) (out : List Int), i = .int .i64 m ∧ f ≤ 6 ∧ 0 ≤ m ∧ m ≤ 562949953421311 ∧ Hid (m < 128 ^ (f + 1)) ∧ Own wr w.heap.size 5 .u8 v out ∧ Hid (out ++ encVar f m = encVar 6 n) ∧ out.length + f ≤ 6 ∧ Below w.heap.size w wr) (fun _ i _ => (intOf i).toNat)
  case atStart => exact ⟨6, n, [], rfl, by omega, h1, h2, show n < 128 ^ 7 by omega, Own.empty _ _ _ _ (Nat.le_refl _), rfl, by simp, (Below.refl _ _).alloc (Nat.le_refl _) _⟩
  case round =>
    obtain ⟨f, m, out, rfl, hf, hm0, hm1, hmf, hown, hout, hlen, hb⟩ := hrel
    have hb1 : bits .and .i64 m 127 = m % 128 := and64_low 7 m (by omega) hm0 (by omega)
    have hb2 : bits .or .i64 (m % 128) 128 = 128 + m % 128 := by rw [or64_comm]; exact or64_join 7 1 (m % 128) (by omega) (by omega) (by omega) (by omega)
    have hsz := hb.size
    go_wp2_with (first | (at_builtin; refine app1 rfl _ _ rfl Try.underlying44 info_u8 (by decide) rfl hown rfl (by omega) (by omega) ?_) | go_in)
    · intro v' w' hown' hb' _
      have hlt : 127 < m := by omega
      obtain ⟨g, _, h3, h4, h5⟩ := encVar_round hlt hmf.out hout.out hlen
      replace h3 := hid h3
      replace h4 := hid h4
      clear hown hb1 hb2 hmf hout
      go_wp2
      go_roundw
      case rel => exact ⟨g, m / 128, _, rfl, by omega, by omega, by omega, h3, hown', h4, h5, hb.trans hb'⟩
      case measure => simp [intOf]; omega
    · intro v' w' hown' hb' _
      have hlt : m ≤ 127 := by omega
      clear hown hb1 hb2
      have hcv := conv_own Try.underlying44 Try.underlying5 Try.underlying9 hown'
      go_wp2
      go_ret
      exact ⟨congrArg (fun l => Ending.returned (.string (strOfNums l))) (encVar_end hlt hout.out), hb.trans hb'⟩
theorem iEncodeVarint_any (n : Int) (w : World) :
    Calls Try.prog 29 #[.int .i64 n] w fun e w' => e = .returned (.string (strOfNums (encVarint n))) ∧ Below w.heap.size w w' := by
  unfold encVarint
  by_cases h : 0 ≤ n ∧ n ≤ 562949953421311
  · rw [if_pos h]
    exact iEncodeVarint_yes n w h.1 h.2
  · rw [if_neg h]
    go_enter Try.func29, Try.ntmps29
    go_wp2_with (go_at_call 59; refine (iwithin_no _ _ _ h _).mono ?_; rintro e w' ⟨rfl, rfl⟩)
    go_ret
    exact ⟨rfl, Below.refl _ _⟩

end Go.Proofs.Ytffbamjfpegndab
