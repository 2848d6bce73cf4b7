/- Plain facts on the exponent of a group. No program in sight. No conditions. -/
import Derived.Test.YtdlnacnepalpgaaPlH
namespace Go.Proofs.Ytdlnacnepalpgaa

theorem gcd_turn (A B : Nat) : Nat.gcd B (A % B) = Nat.gcd A B := by
  rw [Nat.gcd_comm A B, Nat.gcd_rec B A, Nat.gcd_comm]
theorem div_gcd_mul (A B : Nat) (h : 0 < A) : A / Nat.gcd A B * B = Nat.lcm A B := by
  have h1 := Nat.gcd_mul_lcm A B
  have hp : 0 < Nat.gcd A B := Nat.gcd_pos_of_pos_left B h
  have h2 := Nat.div_mul_cancel (Nat.gcd_dvd_left A B)
  apply Nat.eq_of_mul_eq_mul_left hp
  rw [h1, ← Nat.mul_assoc, Nat.mul_comm (Nat.gcd A B), h2]
def expoN (l : List Int) : Nat := l.foldl (fun a o => Nat.lcm a o.toNat) 1
theorem expoN_nil : expoN [] = 1 := rfl
theorem expoN_snoc (l : List Int) (o : Int) : expoN (l ++ [o]) = Nat.lcm (expoN l) o.toNat := by
  unfold expoN
  rw [List.foldl_append]
  rfl
theorem fold_lcm_dvd (l : List Int) : ∀ a : Nat, Big l → ((l.foldl (fun a o => Nat.lcm a o.toNat) a : Nat) : Int) ∣ a * prodL l := by
  induction l with
  | nil => intro a _; rw [prodL_nil]; simp
  | cons o r ih =>
    intro a hb
    have ho := hb.head
    rw [List.foldl_cons, prodL_cons, ← Int.mul_assoc]
    refine Int.dvd_trans (ih _ hb.tail) (Int.mul_dvd_mul_right _ ?_)
    have h1 := Int.natCast_dvd_natCast.2 (Nat.lcm_dvd_mul a o.toNat)
    rw [Int.natCast_mul, Int.toNat_of_nonneg (by omega)] at h1
    exact h1
theorem expoN_dvd {l : List Int} (hb : Big l) : (expoN l : Int) ∣ prodL l := by
  have := fold_lcm_dvd l 1 hb
  rw [Int.natCast_one, Int.one_mul] at this
  exact this
theorem expoN_le {l : List Int} (hg : isGroup l = true) (k : Nat) : 1 ≤ expoN (l.take k) ∧ expoN (l.take k) ≤ 24 := by
  have hb := (isGroup.big hg).take k
  have h1 := prodL_pos hb
  have h2 := isGroup.prod hg
  have h3 := prodL_take_le (isGroup.big hg) k
  have h4 := expoN_dvd hb
  have h5 := Int.le_of_dvd (by omega) h4
  refine ⟨?_, by omega⟩
  rcases Nat.eq_zero_or_pos (expoN (l.take k)) with h | h
  · rw [h] at h4
    have := Int.zero_dvd.1 h4
    omega
  · exact h
theorem lcm_step {e o x : Nat} (he : e ∣ x) (hx : 0 < x) (hL : x ≤ Nat.lcm e o) : (o ∣ x → x = Nat.lcm e o) ∧ (¬ o ∣ x → x + e ≤ Nat.lcm e o) := by
  constructor
  · intro h
    exact Nat.le_antisymm hL (Nat.le_of_dvd hx (Nat.lcm_dvd he h))
  · intro h
    have hne : x ≠ Nat.lcm e o := fun hc => h (hc ▸ Nat.dvd_lcm_right e o)
    obtain ⟨p, hp⟩ := he
    obtain ⟨q, hq⟩ := Nat.dvd_lcm_left e o
    rw [hq] at hL hne ⊢
    rw [hp] at hL hne ⊢
    have : p < q := by
      rcases Nat.lt_or_ge p q with h1 | h1
      · exact h1
      · have := Nat.mul_le_mul_left e h1; omega
    have := Nat.mul_le_mul_left e this
    rw [Nat.mul_succ] at this
    exact this
def exE (l : List Int) : Int := if isGroup l then expoN l else 0
theorem exE_yes {l : List Int} (h : isGroup l = true) : exE l = expoN l := if_pos h
theorem exE_no {l : List Int} (h : isGroup l = false) : exE l = 0 := by unfold exE; rw [h]; rfl
end Go.Proofs.Ytdlnacnepalpgaa
