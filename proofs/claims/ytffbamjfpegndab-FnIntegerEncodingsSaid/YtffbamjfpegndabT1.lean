
/- Texts with something between them, as the program joins them. Conditions: at most 2^20 texts of at most 2^10 bytes. -/
import Derived.Test.YtffbamjfpegndabKitS
import Derived.Test.YtffbamjfpegndabW3
namespace Go.Proofs.Ytffbamjfpegndab
set_option linter.unusedVariables false
set_option linter.unusedSimpArgs false
open Go.RowKit

theorem info_str : (Try.prog.info? 9).map (fun i => (i.zero, i.size, i.bytes)) = some (some (.string ByteArray.empty), 1, 16) := by kernel_rfl
theorem join_small {b : List Int} {ss : List (List Int)} (hb : b.length ≤ 1) (hs : ss.length ≤ 1048576) (ht : ∀ t ∈ ss, t.length ≤ 1023) : (joinL b ss).length ≤ 1073741824 := by
  have h1 := joinL_len b 1023 hb ss ht
  have h2 : ss.length * 1024 ≤ 1048576 * 1024 := Nat.mul_le_mul_right _ hs
  omega
theorem iglued_any (v : Value) (ss : List (List Int)) (b : List Int) (bs : ByteArray) (base : Nat) (w : World) (hbs : bs = strOfNums b) (hown : OwnS w base 9 v ss) (hb : b.length ≤ 1) (hs : ss.length ≤ 1048576) (ht : ∀ t ∈ ss, t.length ≤ 1023) :
    Calls Try.prog 46 #[v, .string bs] w fun e w' => e = .returned (.string (strOfNums (joinL b ss))) ∧ w = w' := by
  subst hbs
  obtain ⟨ao, cap, rfl, _, _⟩ := hown.shape
  obtain ⟨n, hN⟩ : ∃ n, n = ss.length := ⟨_, rfl⟩
  have hcl := hid fun h => hown.cells h
  rw [← hN] at hs ⊢
  obtain ⟨V, hV⟩ : ∃ V, V = joinL b ss := ⟨_, rfl⟩
  rw [← hV]
  replace hV := hid hV
  replace hN := hid hN
  replace ht := hid ht
  clear hown
  go_enter Try.func46, Try.ntmps46
  go_wp2
  go_loopw [5, 10] (fun s i wr => ∃ k : Nat, k ≤ n ∧ i = .int .i64 k ∧ s = .string (strOfNums (joinL b (ss.take k))) ∧ wr = w) (fun _ i _ => n - (intOf i).toNat)
  case atStart => exact ⟨0, by omega, rfl, rfl, rfl⟩
  case round =>
    obtain ⟨k, hk, rfl, rfl, rfl⟩ := hrel
    by_cases hlt : k < n
    · have hj : k < ss.length := by rw [← hN.out]; omega
      obtain ⟨g, rfl, hg1, hg2, _, hcell⟩ := hcl.out (by have := hN.out; omega)
      have hcm := hcell k hj
      have hJ := join_small (b := b) (ss := ss.take k) hb (by rw [List.length_take]; omega) (fun t h => ht.out t (List.mem_of_mem_take h))
      have htl := ht.out _ (List.getElem_mem hj)
      have hts : ss.take (k + 1) = ss.take k ++ [ss[k]] := by rw [List.take_append_getElem]
      have hsn := joinL_snoc b (ss.take k) ss[k]
      rw [← hts] at hsn
      obtain ⟨t, hT⟩ : ∃ t, t = ss[k] := ⟨_, rfl⟩
      rw [← hT] at hcm htl hts hsn
      by_cases h0 : k = 0
      · subst h0
        have hj1 : joinL b (ss.take 1) = t := by rw [hts]; rfl
        replace hj1 := hid hj1
        have ha1 := add_strs (P := Try.prog) [] t (by simp; omega)
        have hj0 : strOfNums (joinL b (ss.take 0)) = strOfNums [] := rfl
        rw [hj0]
        rw [List.nil_append] at ha1
        clear hcell hT hts hsn hj0
        go_wp2
        go_roundw
        case rel => exact ⟨1, by omega, by go_num, by rw [hj1.out], by trivial⟩
        case measure => simp [intOf]; omega
      · have hne : ss.take k ≠ [] := fun h => by
          have h2 : (ss.take k).length = 0 := by rw [h]; rfl
          rw [List.length_take] at h2
          omega
        have hsn2 := hid (hsn hne)
        obtain ⟨J, hJJ⟩ : ∃ J, J = joinL b (ss.take k) := ⟨_, rfl⟩
        rw [← hJJ] at hJ hsn2
        rw [← hJJ]
        have ha1 := add_strs (P := Try.prog) J b (by omega)
        have ha2 := add_strs (P := Try.prog) (J ++ b) t (by simp; omega)
        have z1 : decide ((k : Int) > 0) = true := decide_eq_true (by omega)
        have z2 : 0 < k := by omega
        clear hcell hT hts hsn hJJ h0
        go_wp2
        go_roundw
        case rel => exact ⟨k + 1, by omega, by go_num, by rw [hsn2.out, List.append_assoc], by trivial⟩
        case measure => simp [intOf]; omega
    · have hf : joinL b (ss.take k) = V := by rw [List.take_of_length_le (by rw [← hN.out]; omega), hV.out]
      rw [hf]
      go_wp2
      go_ret
      exact ⟨rfl, rfl⟩
/-- the texts of some numbers -/
def fmts (l : List Int) : List (List Int) := l.map fmtI
theorem fmts_len {l : List Int} {t : List Int} (h : t ∈ fmts l) : t.length ≤ 1023 := by
  obtain ⟨x, _, rfl⟩ := List.mem_map.1 h
  have := fmtI_length x
  omega
def joinI (b : Int) (l : List Int) : List Int := joinL [b] (fmts l)
end Go.Proofs.Ytffbamjfpegndab
