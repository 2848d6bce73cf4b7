
/- What the sum and the negative of elements compute, the program's and the reference's. Conditions: a group, numbers not below 0. -/
import Derived.Test.YtffbamjfpegndabG1
namespace Go.Proofs.Ytffbamjfpegndab
open Go.RowKit

/-- one round of a sum over the orders -/
theorem sum_round {l : List Int} (hg : isGroup l = true) {k : Nat} (hk : k < l.length) {s t : Int} (ht : 0 ≤ t ∧ t < l[k]) (hs : 0 ≤ s ∧ s < prodL (l.take k)) :
    1 ≤ prodL (l.take k) ∧ prodL (l.take k) ≤ 24 ∧ prodL (l.take (k + 1)) = prodL (l.take k) * l[k] ∧ prodL (l.take k) * l[k] ≤ 24 ∧ 0 ≤ t * prodL (l.take k) ∧ t * prodL (l.take k) ≤ 24 ∧ 0 ≤ s + t * prodL (l.take k) ∧ s + t * prodL (l.take k) < prodL (l.take (k + 1)) := by
  have hb := isGroup.big hg
  have hp := isGroup.prod hg
  have h1 := prodL_pos (hb.take k)
  have h2 := prodL_take_le hb k
  have h3 := prodL_take_le hb (k + 1)
  have e : prodL (l.take (k + 1)) = prodL (l.take k) * l[k] := by rw [take_succ_get l k hk, prodL_snoc]
  rw [e] at h3 ⊢
  have h4 : 0 ≤ t * prodL (l.take k) := Int.mul_nonneg ht.1 (by omega)
  have h5 : (t + 1) * prodL (l.take k) ≤ l[k] * prodL (l.take k) := Int.mul_le_mul_of_nonneg_right (by omega) (by omega)
  rw [Int.add_mul, Int.one_mul, Int.mul_comm l[k]] at h5
  refine ⟨h1, by omega, rfl, by omega, h4, by omega, by omega, by omega⟩
theorem gadd_drop {l : List Int} {k : Nat} (hk : k < l.length) (x y : Int) : gadd (l.drop k) x y = (x % l[k] + y % l[k]) % l[k] + l[k] * gadd (l.drop (k + 1)) (x / l[k]) (y / l[k]) := by
  rw [List.drop_eq_getElem_cons hk, gadd]
theorem gneg_drop {l : List Int} {k : Nat} (hk : k < l.length) (x : Int) : gneg (l.drop k) x = (l[k] - x % l[k]) % l[k] + l[k] * gneg (l.drop (k + 1)) (x / l[k]) := by
  rw [List.drop_eq_getElem_cons hk, gneg]
theorem sub_mod (o a : Int) : (o - a) % o = -a % o := by
  rw [show o - a = -a + o by omega]
  simp
theorem regroup (s t u o G : Int) : s + t * u + u * o * G = s + u * (t + o * G) := by
  rw [Int.mul_add, Int.mul_comm t u, Int.mul_assoc]
  omega

end Go.Proofs.Ytffbamjfpegndab
