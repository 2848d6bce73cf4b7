
/- Plain facts on restricted sums, tables of sums, stabilizers, cosets. No program in sight. No conditions. -/
import Derived.Test.YtffbamjfpegndaaPlU
namespace Go.Proofs.Ytffbamjfpegndaa
set_option linter.unusedVariables false
set_option linter.unusedSimpArgs false
set_option linter.unusedSectionVars false

/-- B without x -/
def remN (B x : Nat) : Nat := B ^^^ (B &&& 2 ^ x)
theorem bit_remN (B x i : Nat) : (remN B x).testBit i = (B.testBit i && !decide (x = i)) := by
  unfold remN
  rw [Nat.testBit_xor, Nat.testBit_and, Nat.testBit_two_pow]
  cases B.testBit i <;> cases decide (x = i) <;> rfl
theorem inS_remN (B x : Nat) (z : Int) : inS (remN B x) z ↔ inS B z ∧ z ≠ x := by
  unfold inS
  rw [bit_remN, Bool.and_eq_true, Bool.not_eq_true', decide_eq_false_iff_not]
  constructor
  · rintro ⟨h0, h1, h2⟩
    exact ⟨⟨h0, h1⟩, by omega⟩
  · rintro ⟨⟨h0, h1⟩, h2⟩
    exact ⟨h0, h1, by omega⟩
theorem remN_lt {B : Nat} (hB : B < 16777216) (x : Nat) : remN B x < 16777216 := by
  refine Nat.lt_pow_two_of_testBit (n := 24) _ fun i hi => ?_
  rw [bit_remN, Nat.testBit_lt_two_pow (Nat.lt_of_lt_of_le hB (Nat.pow_le_pow_right (by omega) hi : 2 ^ 24 ≤ 2 ^ i))]
  rfl
/-- the sums of different elements -/
def resN (l : List Int) (A B : Nat) : Nat := orU (fun x => shN l (remN B x.toNat) x) (memL A)
/-- .. of one element, in a loop -/
def resRow (l : List Int) (x : Int) (M : List Int) (o : Nat) : Nat := M.foldl (fun o y => if x = y then o else o ||| 2 ^ (gadd l x y).toNat) o
theorem resRow_snoc (l : List Int) (x : Int) (M : List Int) (o : Nat) (y : Int) : resRow l x (M ++ [y]) o = if x = y then resRow l x M o else resRow l x M o ||| 2 ^ (gadd l x y).toNat := by
  unfold resRow
  rw [List.foldl_append]
  rfl
def ssN (l : List Int) (A : Nat) : Nat := (memL A).foldl (fun o x => o ||| shN l o x) 1
def ssTo (l : List Int) (M : List Int) : Nat := M.foldl (fun o x => o ||| shN l o x) 1
def bump (t : List Int) (i : Nat) : List Int := t.set i (t.getD i 0 + 1)
def tabRow (l : List Int) (x : Int) (M : List Int) (t : List Int) : List Int := M.foldl (fun t y => bump t (gadd l x y).toNat) t
def tabTo (l : List Int) (N M : List Int) : List Int := M.foldl (fun t x => tabRow l x N t) (List.replicate (prodL l).toNat 0)
def tabN (l : List Int) (A B : Nat) : List Int := tabTo l (memL B) (memL A)
/-- all counts lie between 0 and c -/
def Cnt (t : List Int) (c : Int) : Prop := ∀ v ∈ t, 0 ≤ v ∧ v ≤ c
def stabTo (l : List Int) (A : Nat) : Nat → Nat
  | 0 => 0
  | x + 1 => if shN l A x = A then stabTo l A x ||| 2 ^ x else stabTo l A x
def stabN (l : List Int) (A : Nat) : Nat := stabTo l A (prodL l).toNat
def isSub (l : List Int) (a : Int) : Bool := isSet l a && decide ((genN l a.toNat : Int) = a)
def lowN (A : Nat) : Int := (memL A).headD 0
def hullN (l : List Int) (A : Nat) : Nat := shN l (genN l (shN l A (gneg l (lowN A)))) (lowN A)
def cosTo (l : List Int) (H : Nat) : Nat → List Int × Nat
  | 0 => ([], 0)
  | x + 1 => if (cosTo l H x).2.testBit x then cosTo l H x else ((cosTo l H x).1 ++ [(shN l H x : Int)], (cosTo l H x).2 ||| shN l H x)
theorem ssTo_snoc (l M : List Int) (x : Int) : ssTo l (M ++ [x]) = ssTo l M ||| shN l (ssTo l M) x := by
  unfold ssTo
  rw [List.foldl_append]
  rfl
section
variable {l : List Int} (hg : isGroup l = true)
include hg
theorem inS_resRow {x : Int} (z : Int) : ∀ (M : List Int) (o : Nat), inS (resRow l x M o) z ↔ inS o z ∨ ∃ y ∈ M, x ≠ y ∧ gadd l x y = z := by
  intro M
  induction M with
  | nil => intro o; simp [resRow]
  | cons y r ih =>
    intro o
    have e : resRow l x (y :: r) o = resRow l x r (if x = y then o else o ||| 2 ^ (gadd l x y).toNat) := rfl
    rw [e, ih]
    by_cases hxy : x = y
    · rw [if_pos hxy]
      constructor
      · rintro (h | ⟨u, hu, h⟩)
        · exact .inl h
        · exact .inr ⟨u, by simp [hu], h⟩
      · rintro (h | ⟨u, hu, h1, h2⟩)
        · exact .inl h
        · rcases List.mem_cons.1 hu with rfl | hu
          · exact absurd hxy h1
          · exact .inr ⟨u, hu, h1, h2⟩
    · rw [if_neg hxy, inS_or, inS_pow (gadd_in hg x y).1]
      constructor
      · rintro ((h | h) | ⟨u, hu, h⟩)
        · exact .inl h
        · exact .inr ⟨y, by simp, hxy, h.symm⟩
        · exact .inr ⟨u, by simp [hu], h⟩
      · rintro (h | ⟨u, hu, h1, h2⟩)
        · exact .inl (.inl h)
        · rcases List.mem_cons.1 hu with rfl | hu
          · exact .inl (.inr h2.symm)
          · exact .inr ⟨u, hu, h1, h2⟩
theorem resRow_all {x : Int} {B : Nat} (hB : B < 16777216) (hx : 0 ≤ x) (o : Nat) : resRow l x (memL B) o = o ||| shN l (remN B x.toNat) x := by
  refine set_ext fun z => ?_
  rw [inS_resRow hg, inS_or, inS_shN hg (remN_lt hB _)]
  refine or_congr Iff.rfl ?_
  constructor
  · rintro ⟨y, hy, h1, h2⟩
    exact ⟨y, (inS_remN _ _ _).2 ⟨(mem_memL hB y).1 hy, by omega⟩, h2⟩
  · rintro ⟨y, hy, h2⟩
    rw [inS_remN] at hy
    exact ⟨y, (mem_memL hB y).2 hy.1, by omega, h2⟩
theorem resRow_lt {x : Int} : ∀ (M : List Int) {o : Nat}, o < 16777216 → resRow l x M o < 16777216 := by
  intro M
  induction M with
  | nil => intro o h; exact h
  | cons y r ih =>
    intro o h
    have e : resRow l x (y :: r) o = resRow l x r (if x = y then o else o ||| 2 ^ (gadd l x y).toNat) := rfl
    rw [e]
    refine ih ?_
    split
    · exact h
    · have h1 := gadd_in hg x y
      have h2 := isGroup.prod hg
      exact or_lt24 h (Nat.pow_lt_pow_right (n := 24) (by omega) (by omega))
theorem resN_lt (A B : Nat) : resN l A B < 16777216 := orU_lt fun x _ => shN_lt hg _ _
theorem inS_resN {A B : Nat} (hA : A < 16777216) (hB : B < 16777216) (z : Int) : inS (resN l A B) z ↔ ∃ x y, inS A x ∧ inS B y ∧ x ≠ y ∧ gadd l x y = z := by
  unfold resN
  rw [inS_orU]
  constructor
  · rintro ⟨x, hx, h⟩
    obtain ⟨y, hy, e⟩ := (inS_shN hg (remN_lt hB _) x z).1 h
    have hx2 := (mem_memL hA x).1 hx
    have h0 := hx2.1
    rw [inS_remN] at hy
    exact ⟨x, y, hx2, hy.1, by omega, e⟩
  · rintro ⟨x, y, hx, hy, hne, e⟩
    have h0 := hx.1
    exact ⟨x, (mem_memL hA x).2 hx, (inS_shN hg (remN_lt hB _) x z).2 ⟨y, (inS_remN _ _ _).2 ⟨hy, by omega⟩, e⟩⟩
theorem ssTo_lt (M : List Int) : ssTo l M < 16777216 := by
  have gen : ∀ (M : List Int) (o : Nat), o < 16777216 → M.foldl (fun o x => o ||| shN l o x) o < 16777216 := by
    intro M
    induction M with
    | nil => intro o h; exact h
    | cons y r ih => intro o h; exact ih _ (or_lt24 h (shN_lt hg _ _))
  exact gen M 1 (by omega)

/-! ### tables -/
omit hg
theorem tabRow_snoc (l : List Int) (x : Int) (M t : List Int) (y : Int) : tabRow l x (M ++ [y]) t = bump (tabRow l x M t) (gadd l x y).toNat := by
  unfold tabRow
  rw [List.foldl_append]
  rfl
theorem tabTo_snoc (l N M : List Int) (x : Int) : tabTo l N (M ++ [x]) = tabRow l x N (tabTo l N M) := by
  unfold tabTo
  rw [List.foldl_append]
  rfl
theorem bump_len (t : List Int) (i : Nat) : (bump t i).length = t.length := List.length_set
theorem Cnt.bump {t : List Int} {c : Int} (h : Cnt t c) (i : Nat) : Cnt (bump t i) (c + 1) := by
  intro v hv
  unfold Go.Proofs.Ytffbamjfpegndaa.bump at hv
  rcases List.mem_or_eq_of_mem_set hv with h1 | rfl
  · have := h v h1; omega
  · rw [List.getD_eq_getElem?_getD]
    cases hi : t[i]? with
    | none =>
      have hlen := List.getElem?_eq_none_iff.1 hi
      rw [List.set_eq_of_length_le hlen] at hv
      have := h _ hv
      rw [List.getD_eq_getElem?_getD, hi] at this
      simp at this ⊢
      omega
    | some u =>
      have := h u (List.mem_of_getElem? hi)
      simp
      omega
theorem Cnt.more {t : List Int} {c d : Int} (h : Cnt t c) (hd : c ≤ d) : Cnt t d := fun v hv => by have := h v hv; omega
theorem tabRow_len (l : List Int) (x : Int) : ∀ (M t : List Int), (tabRow l x M t).length = t.length := by
  intro M
  induction M with
  | nil => intro t; rfl
  | cons y r ih => intro t; exact (ih _).trans (bump_len _ _)
theorem tabRow_cnt (l : List Int) (x : Int) : ∀ (M t : List Int) (c : Int), Cnt t c → Cnt (tabRow l x M t) (c + M.length) := by
  intro M
  induction M with
  | nil => intro t c h; exact h.more (by simp)
  | cons y r ih => intro t c h; exact (ih _ _ (h.bump _)).more (by rw [List.length_cons]; omega)
theorem tabTo_len (l N M : List Int) : (tabTo l N M).length = (prodL l).toNat := by
  have gen : ∀ (M t : List Int), (M.foldl (fun t x => tabRow l x N t) t).length = t.length := by
    intro M
    induction M with
    | nil => intro t; rfl
    | cons y r ih => intro t; exact (ih _).trans (tabRow_len _ _ _ _)
  unfold tabTo
  rw [gen, List.length_replicate]
theorem tabTo_cnt (l N M : List Int) : Cnt (tabTo l N M) (N.length * M.length) := by
  have gen : ∀ (M t : List Int) (c : Int), Cnt t c → Cnt (M.foldl (fun t x => tabRow l x N t) t) (c + N.length * M.length) := by
    intro M
    induction M with
    | nil => intro t c h; exact h.more (by simp)
    | cons y r ih =>
      intro t c h
      refine (ih _ _ (tabRow_cnt l y N t c h)).more ?_
      rw [List.length_cons, Int.natCast_succ, Int.mul_add]
      omega
  have := gen M (List.replicate (prodL l).toNat 0) 0 fun v hv => by rw [List.eq_of_mem_replicate hv]; omega
  unfold tabTo
  exact this.more (by omega)
include hg

/-! ### stabilizers -/
omit hg in
theorem inS_stabTo (A : Nat) (z : Int) : ∀ x : Nat, inS (stabTo l A x) z ↔ 0 ≤ z ∧ z < x ∧ shN l A z = A := by
  intro x
  induction x with
  | zero =>
    refine ⟨fun h => absurd h (inS_zero z), fun h => ?_⟩
    omega
  | succ x ih =>
    rw [stabTo]
    by_cases h : shN l A x = A
    · rw [if_pos h, inS_or, ih, show 2 ^ x = 2 ^ ((x : Int)).toNat by rw [Int.toNat_natCast], inS_pow (by omega)]
      constructor
      · rintro (⟨h0, h1, h2⟩ | rfl)
        · exact ⟨h0, by omega, h2⟩
        · exact ⟨by omega, by omega, h⟩
      · rintro ⟨h0, h1, h2⟩
        by_cases hz : z = x
        · exact .inr hz
        · exact .inl ⟨h0, by omega, h2⟩
    · rw [if_neg h, ih]
      constructor
      · rintro ⟨h0, h1, h2⟩
        exact ⟨h0, by omega, h2⟩
      · rintro ⟨h0, h1, h2⟩
        refine ⟨h0, ?_, h2⟩
        by_cases hz : z = x
        · rw [hz] at h2; exact absurd h2 h
        · omega
theorem stabTo_lt (A : Nat) {x : Nat} (hx : x ≤ (prodL l).toNat) : stabTo l A x < topOf l := by
  refine top_of hg fun z hz => ?_
  have := (inS_stabTo A z x).1 hz
  omega
theorem inS_stabN (A : Nat) (z : Int) : inS (stabN l A) z ↔ 0 ≤ z ∧ z < prodL l ∧ shN l A z = A := by
  have hp := isGroup.prod hg
  unfold stabN
  rw [inS_stabTo, show (((prodL l).toNat : Nat) : Int) = prodL l by omega]
theorem stabN_top (A : Nat) : stabN l A < topOf l := stabTo_lt hg A (Nat.le_refl _)
theorem shN_zero {A : Nat} (hA : A < topOf l) : shN l A 0 = A := by
  have hb := isGroup.big hg
  refine set_ext fun z => ?_
  rw [inS_shN hg (top_24 hg hA)]
  constructor
  · rintro ⟨y, hy, rfl⟩
    have := of_top hg hA hy
    rw [gadd_comm, gadd_zero l y hb this.1 this.2]
    exact hy
  · intro hz
    have := of_top hg hA hz
    exact ⟨z, hz, by rw [gadd_comm, gadd_zero l z hb this.1 this.2]⟩
theorem shN_shN {A : Nat} (hA : A < topOf l) (x y : Int) : shN l (shN l A x) y = shN l A (gadd l y x) := by
  have hb := isGroup.big hg
  refine set_ext fun z => ?_
  rw [inS_shN hg (shN_lt hg _ _), inS_shN hg (top_24 hg hA)]
  constructor
  · rintro ⟨u, hu, rfl⟩
    obtain ⟨v, hv, rfl⟩ := (inS_shN hg (top_24 hg hA) _ _).1 hu
    exact ⟨v, hv, gadd_assoc l y x v hb⟩
  · rintro ⟨v, hv, rfl⟩
    exact ⟨gadd l x v, (inS_shN hg (top_24 hg hA) _ _).2 ⟨v, hv, rfl⟩, (gadd_assoc l y x v hb).symm⟩
theorem shN_back {A : Nat} (hA : A < topOf l) (x : Int) : shN l (shN l A x) (gneg l x) = A := by
  rw [shN_shN hg hA, gadd_comm, gadd_neg l x (isGroup.big hg), shN_zero hg hA]
theorem shN_forth {A : Nat} (hA : A < topOf l) (x : Int) : shN l (shN l A (gneg l x)) x = A := by
  rw [shN_shN hg hA, gadd_neg l x (isGroup.big hg), shN_zero hg hA]
theorem stabN_odd {A : Nat} (hA : A < topOf l) : stabN l A % 2 = 1 := by
  have h : inS (stabN l A) 0 := (inS_stabN hg A 0).2 ⟨by omega, by have := isGroup.prod hg; omega, shN_zero hg hA⟩
  have h2 := h.2
  rw [show (0 : Int).toNat = 0 from rfl, Nat.testBit_zero] at h2
  exact of_decide_eq_true h2
omit hg
theorem pc_pos (k : Nat) : ∀ a, a < 2 ^ k → 0 < a → 0 < pc k a := by
  induction k with
  | zero => intro a h h0; simp at h; omega
  | succ k ih =>
    intro a h h0
    rw [Nat.pow_succ] at h
    rw [pc]
    rcases Nat.mod_two_eq_zero_or_one a with h2 | h2
    · have := ih (a / 2) (by omega) (by omega)
      omega
    · omega
theorem pc_odd {S : Nat} (hS : S < 16777216) (ho : S % 2 = 1) : (1 < pc 24 S) ↔ 1 < S := by
  rw [show (24 : Nat) = 23 + 1 from rfl, pc, ho]
  constructor
  · intro h
    rcases Nat.eq_zero_or_pos (S / 2) with h0 | h0
    · rw [h0, pc_zero] at h; omega
    · omega
  · intro h
    have := pc_pos 23 (S / 2) (by omega) (by omega)
    omega
theorem rem_odd {S : Nat} (ho : S % 2 = 1) : remN S 0 = S - 1 := by
  apply Nat.eq_of_testBit_eq
  intro i
  rw [bit_remN]
  cases i with
  | zero =>
    rw [Nat.testBit_zero, Nat.testBit_zero]
    have : ¬ (S - 1) % 2 = 1 := by omega
    simp [this]
  | succ i =>
    rw [Nat.testBit_succ, Nat.testBit_succ, show (S - 1) / 2 = S / 2 by omega]
    simp
include hg

/-! ### subgroups and cosets -/
theorem hull_iff {A : Nat} (hA : A < topOf l) : hullN l A = A ↔ genN l (shN l A (gneg l (lowN A))) = shN l A (gneg l (lowN A)) := by
  unfold hullN
  have hG := genN_top hg (shN_lt hg A (gneg l (lowN A)))
  constructor
  · intro h
    have h1 := shN_back hg hG (lowN A)
    rw [h] at h1
    exact h1.symm
  · intro h
    rw [h]
    exact shN_forth hg hA _
omit hg in
theorem cosTo_len (H : Nat) : ∀ x, (cosTo l H x).1.length ≤ x := by
  intro x
  induction x with
  | zero => exact Nat.le_refl _
  | succ x ih =>
    rw [cosTo]
    split
    · omega
    · rw [List.length_append, List.length_singleton]; omega
theorem cosTo_lt (H : Nat) : ∀ x, (cosTo l H x).2 < 16777216 := by
  intro x
  induction x with
  | zero => exact (by decide : 0 < 16777216)
  | succ x ih =>
    rw [cosTo]
    split
    · exact ih
    · exact or_lt24 ih (shN_lt hg _ _)
theorem cosTo_bd (H : Nat) : ∀ x, ∀ c ∈ (cosTo l H x).1, ∃ C : Nat, c = C ∧ C < 16777216 := by
  intro x
  induction x with
  | zero => intro c hc; cases hc
  | succ x ih =>
    rw [cosTo]
    split
    · exact ih
    · intro c hc
      rcases List.mem_append.1 hc with h | h
      · exact ih c h
      · rw [List.mem_singleton] at h
        exact ⟨_, h, shN_lt hg _ _⟩
end
end Go.Proofs.Ytffbamjfpegndaa
