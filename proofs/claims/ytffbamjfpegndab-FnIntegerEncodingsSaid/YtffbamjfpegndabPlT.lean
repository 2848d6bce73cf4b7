
/- Plain facts on the elements of a set given as a number. No program in sight. No conditions. -/
import Derived.Test.YtffbamjfpegndabPlS
namespace Go.Proofs.Ytffbamjfpegndab

/-- the elements below x, ascending -/
def memTo (A x : Nat) : List Int := ((List.range x).filter fun i : Nat => A.testBit i).map fun i : Nat => (i : Int)
def memL (A : Nat) : List Int := memTo A 24
theorem memTo_zero (A : Nat) : memTo A 0 = [] := rfl
theorem memTo_yes {A x : Nat} (h : A.testBit x = true) : memTo A (x + 1) = memTo A x ++ [(x : Int)] := by
  unfold memTo
  rw [List.range_succ, List.filter_append, List.map_append]
  simp [h]
theorem memTo_no {A x : Nat} (h : A.testBit x = false) : memTo A (x + 1) = memTo A x := by
  unfold memTo
  rw [List.range_succ, List.filter_append, List.map_append]
  simp [h]
theorem bit_div (A x : Nat) : A.testBit x = decide (A / 2 ^ x % 2 = 1) := Nat.testBit_eq_decide_div_mod_eq
theorem div_step (A x : Nat) : A / 2 ^ (x + 1) = A / 2 ^ x / 2 := by rw [Nat.pow_succ, Nat.div_div_eq_div_mul]
theorem memTo_rest {A x : Nat} (h : A / 2 ^ x = 0) : ∀ d, memTo A (x + d) = memTo A x := by
  intro d
  induction d with
  | zero => rfl
  | succ d ih =>
    rw [← Nat.add_assoc, memTo_no, ih]
    rw [bit_div]
    have : A / 2 ^ (x + d) = 0 := by rw [Nat.pow_add, ← Nat.div_div_eq_div_mul, h, Nat.zero_div]
    rw [this]
    rfl
theorem memTo_len (A x : Nat) : (memTo A x).length ≤ x := by
  unfold memTo
  rw [List.length_map]
  have := List.length_filter_le (fun i => A.testBit i) (List.range x)
  rw [List.length_range] at this
  exact this
theorem memL_of {A x : Nat} (h : A / 2 ^ x = 0) (hx : x ≤ 24) : memL A = memTo A x := by
  obtain ⟨d, hd⟩ : ∃ d, 24 = x + d := ⟨24 - x, by omega⟩
  unfold memL
  rw [hd, memTo_rest h]
theorem div_top {A : Nat} (h : A < 16777216) : A / 2 ^ 24 = 0 := by
  apply Nat.div_eq_of_lt
  exact h
theorem memL_len (A : Nat) : (memL A).length ≤ 24 := memTo_len A 24
theorem memL_bd {A : Nat} {x : Int} (h : x ∈ memL A) : 0 ≤ x ∧ x < 24 := by
  unfold memL memTo at h
  obtain ⟨i, hi, rfl⟩ := List.mem_map.1 h
  have := List.mem_range.1 (List.mem_filter.1 hi).1
  omega
/-- the set of the values of a function on some elements -/
def orL (f : Int → Int) (L : List Int) : Nat := L.foldl (fun a x => a ||| 2 ^ (f x).toNat) 0
theorem orL_nil (f : Int → Int) : orL f [] = 0 := rfl
theorem orL_snoc (f : Int → Int) (L : List Int) (x : Int) : orL f (L ++ [x]) = orL f L ||| 2 ^ (f x).toNat := by
  unfold orL
  rw [List.foldl_append]
  rfl
theorem orL_lt {f : Int → Int} {L : List Int} (h : ∀ x ∈ L, (f x).toNat < 24) : orL f L < 16777216 := by
  have gen : ∀ (L : List Int) (a : Nat), a < 2 ^ 24 → (∀ x ∈ L, (f x).toNat < 24) → L.foldl (fun a x => a ||| 2 ^ (f x).toNat) a < 2 ^ 24 := by
    intro L
    induction L with
    | nil => intro a ha _; exact ha
    | cons y r ih =>
      intro a ha hL
      rw [List.foldl_cons]
      exact ih _ (Nat.or_lt_two_pow ha (Nat.pow_lt_pow_right (by omega) (hL y (by simp)))) fun z hz => hL z (by simp [hz])
  exact gen L 0 (by decide) h
theorem orL_congr {f g : Int → Int} {L : List Int} (h : ∀ x ∈ L, f x = g x) : orL f L = orL g L := by
  have gen : ∀ (L : List Int) (a : Nat), (∀ x ∈ L, f x = g x) → L.foldl (fun a x => a ||| 2 ^ (f x).toNat) a = L.foldl (fun a x => a ||| 2 ^ (g x).toNat) a := by
    intro L
    induction L with
    | nil => intro _ _; rfl
    | cons y r ih =>
      intro a hL
      rw [List.foldl_cons, List.foldl_cons, hL y (by simp)]
      exact ih _ fun z hz => hL z (by simp [hz])
  exact gen L 0 h
def negS (l : List Int) (a : Int) : Int := if isSet l a then orL (gneg l) (memL a.toNat) else -1
def shiftS (l : List Int) (a x : Int) : Int := if isSet l a && isEl l x then orL (gadd l x) (memL a.toNat) else -1
def dilS (l : List Int) (a n : Int) : Int := if isSet l a && decide (-100 ≤ n ∧ n ≤ 100) then orL (gmul l n) (memL a.toNat) else -1
end Go.Proofs.Ytffbamjfpegndab
