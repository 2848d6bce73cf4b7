
/- What the functions of chapter 1 compute, the program's and the reference's: each returns the value of one plain function. Conditions: strings of at most 2^40 bytes where one is read. -/
import Derived.Test.YtknbfohmobjplaaIn
namespace Go.Proofs.Ytknbfohmobjplaa
open Go.RowKit

theorem info_u8 : (Try.prog.info? 5).map (fun i => (i.zero, i.size, i.bytes)) = some (some (.int .u8 0), 1, 1) := by kernel_rfl

/-- the bytes of a string as integers -/
def sI (s : ByteArray) : List Int := bI s.data.toList
theorem sI_length (s : ByteArray) : (sI s).length = s.size := by
  show (bI s.data.toList).length = _
  rw [bI_length]
  rfl
theorem sI_get (s : ByteArray) (k : Nat) (h : k < s.size) : (sI s)[k]'(by rw [sI_length]; exact h) = (s[k].toNat : Int) := by
  simp [sI, bI]; rfl
theorem sI_take (s : ByteArray) (k : Nat) (h : k < s.size) : (sI s).take (k + 1) = (sI s).take k ++ [(s[k].toNat : Int)] := by
  rw [take_succ_get _ k (by rw [sI_length]; exact h), sI_get s k h]
theorem isB_sI (s : ByteArray) : IsB (sI s) := isB_bI _
theorem isB_take {l : List Int} (h : IsB l) (k : Nat) : IsB (l.take k) := fun x hx => h x (List.mem_of_mem_take hx)

/-! ### a number between two others -/

/-! ### DecodeFixed -/
def decFixed (l : List Int) (width : Int) : Int × Bool := if 1 ≤ width ∧ width ≤ 7 ∧ width ≤ l.length then (decFix (l.take width.toNat), true) else (0, false)
theorem decFix_small (l : List Int) (k : Nat) (h : IsB l) (hk : k ≤ 6) : 0 ≤ decFix (l.take k) ∧ decFix (l.take k) ≤ 281474976710655 := by
  have h1 := decFix_bd (l.take k) (isB_take h k)
  have h2 : (l.take k).length ≤ 6 := by rw [List.length_take]; omega
  have h3 : (256 : Int) ^ (l.take k).length ≤ 281474976710656 := by
    generalize (l.take k).length = m at h2
    match m, h2 with
    | 0, _ | 1, _ | 2, _ | 3, _ | 4, _ | 5, _ | 6, _ => decide
  omega
theorem decFix_last (s : ByteArray) (k : Nat) (h : k < s.size) : decFix ((sI s).take (k + 1)) = decFix ((sI s).take k) * 256 + s[k].toNat := by
  rw [sI_take s k h, decFix_snoc]


/-! ### EncodeVarint -/
def encVarint (n : Int) : List Int := if 0 ≤ n ∧ n ≤ 562949953421311 then encVar 6 n else []
theorem encVar_round {f : Nat} {m n : Int} {out : List Int} (hlt : 127 < m) (hmf : m < 128 ^ (f + 1)) (hout : out ++ encVar f m = encVar 6 n) (hlen : out.length + f ≤ 6) :
    ∃ g : Nat, f = g + 1 ∧ m / 128 < 128 ^ (g + 1) ∧ (out ++ [128 + m % 128]) ++ encVar g (m / 128) = encVar 6 n ∧ (out ++ [128 + m % 128]).length + g ≤ 6 := by
  cases f with
  | zero => simp at hmf; omega
  | succ g =>
    have hp : (128 : Int) ^ (g + 1 + 1) = 128 ^ (g + 1) * 128 := Int.pow_succ 128 (g + 1)
    refine ⟨g, rfl, by omega, ?_, by simp; omega⟩
    rw [encVar, if_pos hlt] at hout
    rw [← hout, List.append_assoc]
    rfl
theorem encVar_end {f : Nat} {m n : Int} {out : List Int} (hlt : m ≤ 127) (hout : out ++ encVar f m = encVar 6 n) : out ++ [m] = encVar 6 n := by
  rw [← hout]
  cases f with
  | zero => rfl
  | succ f => rw [encVar, if_neg (by omega)]

end Go.Proofs.Ytknbfohmobjplaa
