
/- The sets of shifted, negated and multiplied elements, the program's and the reference's. Conditions: a number below 2^24, a group. -/
import Derived.Test.YtffbamjfpegndabS3
import Derived.Test.YtffbamjfpegndabG4
import Derived.Deep.RegionWith
import Derived.Deep.RegionHeld3
namespace Go.Proofs.Ytffbamjfpegndab
open Go.RowKit

theorem Rd.cells {w : World} {B : Nat} {k : IntKind} {ao : Option Addr} {n cap : Nat} {l : List Int} (h : Rd w B k (.slice ao n cap) l) (hl : 0 < l.length) : ∃ b off, ao = some ⟨b, off, none⟩ ∧ b < B ∧ ∀ i (h : i < l.length), w.cell? ⟨b, off + i, none⟩ = some (.int k l[i]) := by
  obtain ⟨ao', cap', hv, _, _, hc⟩ := h
  injection hv with h1 h2 h3
  subst h1
  exact hc hl
/-- one more value of a function: the numbers of the walk -/
theorem or_step {f : Int → Int} {M : List Int} {z : Int} (hf : ∀ x ∈ M, 0 ≤ f x ∧ f x < 24) (hz : 0 ≤ f z ∧ f z < 24) :
    ∃ (K T A B : Nat), f z = (K : Int) ∧ K < 24 ∧ (2 : Int) ^ K = (T : Int) ∧ 1 ≤ T ∧ T ≤ 8388608 ∧ A = orL f M ∧ A < 16777216 ∧ B = orL f (M ++ [z]) ∧ bits .or .i64 (A : Int) (T : Int) = (B : Int) := by
  have hA : orL f M < 16777216 := orL_lt fun x hx => by have := hf x hx; omega
  have h1 := Nat.pow_le_pow_right (show 0 < 2 by omega) (show (f z).toNat ≤ 23 by omega)
  have h2 : 0 < 2 ^ (f z).toNat := Nat.pow_pos (by omega)
  have h3 : 2 ^ 23 = 8388608 := rfl
  refine ⟨(f z).toNat, 2 ^ (f z).toNat, _, _, by omega, by omega, (Int.natCast_pow 2 _).symm, h2, by omega, rfl, hA, rfl, ?_⟩
  rw [or64 _ _ (by omega) (by omega), orL_snoc]
theorem or_round {f : Int → Int} {M : List Int} {k : Nat} (hk : k < M.length) (hf : ∀ x ∈ M, 0 ≤ f x ∧ f x < 24) :
    ∃ (K T A B : Nat), f M[k] = (K : Int) ∧ K < 24 ∧ (2 : Int) ^ K = (T : Int) ∧ 1 ≤ T ∧ T ≤ 8388608 ∧ A = orL f (M.take k) ∧ A < 16777216 ∧ B = orL f (M.take (k + 1)) ∧ bits .or .i64 (A : Int) (T : Int) = (B : Int) := by
  rw [take_succ_get M k hk]
  exact or_step (fun x hx => hf x (List.mem_of_mem_take hx)) (hf _ (List.getElem_mem hk))
end Go.Proofs.Ytffbamjfpegndab
