
/- Plain facts on the numbers of elements: shifts keep them, cosets part the group, subgroups divide the order. No program in sight. No conditions. -/
import Derived.Test.YtffbamjfpegndaaPlW
namespace Go.Proofs.Ytffbamjfpegndaa
set_option linter.unusedVariables false
set_option linter.unusedSimpArgs false
set_option linter.unusedSectionVars false

theorem pc_or (k : Nat) : ∀ a b, a &&& b = 0 → pc k (a ||| b) = pc k a + pc k b := by
  induction k with
  | zero => intro a b _; rfl
  | succ k ih =>
    intro a b h
    have h1 : (a / 2) &&& (b / 2) = 0 := by rw [← Nat.and_div_two, h]
    have h2 : (a ||| b) / 2 = a / 2 ||| b / 2 := Nat.or_div_two
    have h3 : (a ||| b) % 2 = a % 2 + b % 2 := by
      have e := congrArg (fun n => Nat.testBit n 0) h
      have e2 : Nat.testBit (a ||| b) 0 = (Nat.testBit a 0 || Nat.testBit b 0) := Nat.testBit_or a b 0
      simp only [Nat.testBit_and, Nat.zero_testBit] at e
      rw [Nat.testBit_zero, Nat.testBit_zero] at e
      rw [Nat.testBit_zero, Nat.testBit_zero, Nat.testBit_zero] at e2
      rcases Nat.mod_two_eq_zero_or_one a with ha | ha <;> rcases Nat.mod_two_eq_zero_or_one b with hb | hb <;> rcases Nat.mod_two_eq_zero_or_one (a ||| b) with hc | hc <;> rw [ha, hb] at e <;> rw [ha, hb, hc] at e2 <;> simp at e e2 <;> omega
    rw [pc, pc, pc, h2, ih _ _ h1, h3]
    omega
theorem pc_pow (k : Nat) : ∀ x, x < k → pc k (2 ^ x) = 1 := by
  induction k with
  | zero => intro x h; omega
  | succ k ih =>
    intro x h
    cases x with
    | zero => rw [pc]; show 1 + pc k 0 = 1; rw [pc_zero]
    | succ x =>
      have := ih x (by omega)
      rw [pc, Nat.pow_succ, Nat.mul_div_cancel _ (by omega), this, Nat.mul_mod_left]
theorem and_zero_of {A B : Nat} (h : ∀ z, inS A z → inS B z → False) : A &&& B = 0 := by
  refine set_ext fun z => ?_
  rw [inS_and]
  exact ⟨fun hz => absurd hz.2 fun hb => h z hz.1 hb, fun hz => absurd hz (inS_zero z)⟩
theorem of_and_zero {A B : Nat} (h : A &&& B = 0) {z : Int} (h1 : inS A z) (h2 : inS B z) : False := by
  have := (inS_and A B z).2 ⟨h1, h2⟩
  rw [h] at this
  exact inS_zero z this
theorem pc_orL (f : Int → Int) : ∀ (L : List Int) (a : Nat), (∀ x ∈ L, 0 ≤ f x ∧ f x < 24) → (∀ x ∈ L, ¬ inS a (f x)) → (L.map f).Pairwise (· ≠ ·) → pc 24 (L.foldl (fun a x => a ||| 2 ^ (f x).toNat) a) = pc 24 a + L.length := by
  obtain ⟨p, hp⟩ : ∃ p : Nat → Nat, p = pc 24 := ⟨_, rfl⟩
  have hor : ∀ a b, a &&& b = 0 → p (a ||| b) = p a + p b := by rw [hp]; exact pc_or 24
  have hpw : ∀ x, x < 24 → p (2 ^ x) = 1 := by rw [hp]; exact pc_pow 24
  rw [← hp]
  clear hp
  intro L
  induction L with
  | nil => intro a _ _ _; rfl
  | cons y r ih =>
    intro a hb hn hp
    rw [List.map_cons, List.pairwise_cons] at hp
    have hy := hb y (by simp)
    have hd : a &&& 2 ^ (f y).toNat = 0 := and_zero_of fun z h1 h2 => by
      rw [inS_pow hy.1] at h2
      rw [h2] at h1
      exact hn y (by simp) h1
    have hn2 : ∀ x ∈ r, ¬ inS (a ||| 2 ^ (f y).toNat) (f x) := fun x hx h => by
      rcases (inS_or _ _ _).1 h with h | h
      · exact hn x (by simp [hx]) h
      · rw [inS_pow hy.1] at h
        exact hp.1 (f x) (List.mem_map.2 ⟨x, hx, rfl⟩) h.symm
    have h1 := ih (a ||| 2 ^ (f y).toNat) (fun x hx => hb x (by simp [hx])) hn2 hp.2
    rw [List.foldl_cons, h1, hor _ _ hd, hpw _ (by omega), List.length_cons]
    omega
theorem memL_asc (A : Nat) : (memL A).Pairwise (· < ·) := by
  unfold memL memTo
  exact List.Pairwise.map _ (fun a b h => Int.ofNat_lt.2 h) (List.Pairwise.filter _ List.pairwise_lt_range)
theorem pw_map {f : Int → Int} {L : List Int} (h : L.Pairwise (· < ·)) (hf : ∀ x ∈ L, ∀ y ∈ L, f x = f y → x = y) : (L.map f).Pairwise (· ≠ ·) := by
  induction L with
  | nil => exact List.Pairwise.nil
  | cons y r ih =>
    rw [List.pairwise_cons] at h
    rw [List.map_cons, List.pairwise_cons]
    refine ⟨fun z hz he => ?_, ih h.2 fun x hx y hy => hf x (by simp [hx]) y (by simp [hy])⟩
    obtain ⟨u, hu, rfl⟩ := List.mem_map.1 hz
    have h1 := h.1 u hu
    have h2 := hf y (by simp) u (by simp [hu]) he
    omega
theorem pc_orL' {f : Int → Int} {A : Nat} (hA : A < 16777216) (hb : ∀ x, inS A x → 0 ≤ f x ∧ f x < 24) (hf : ∀ x y, inS A x → inS A y → f x = f y → x = y) : pc 24 (orL f (memL A)) = (memL A).length := by
  have := pc_orL f (memL A) 0 (fun x hx => hb x ((mem_memL hA x).1 hx)) (fun x _ => inS_zero _) (pw_map (memL_asc A) fun x hx y hy => hf x y ((mem_memL hA x).1 hx) ((mem_memL hA y).1 hy))
  rw [pc_zero, Nat.zero_add] at this
  exact this
theorem orL_id {A : Nat} (hA : A < 16777216) : orL (fun x => x) (memL A) = A := by
  refine set_ext fun z => ?_
  rw [inS_orL fun x hx => ((mem_memL hA x).1 hx).1]
  constructor
  · rintro ⟨x, hx, rfl⟩; exact (mem_memL hA x).1 hx
  · intro hz; exact ⟨z, (mem_memL hA z).2 hz, rfl⟩
theorem pc_len {A : Nat} (hA : A < 16777216) : pc 24 A = (memL A).length := by
  have := pc_orL' (f := fun x => x) hA (fun x hx => hx.lt hA) (fun x y _ _ h => h)
  rw [orL_id hA] at this
  exact this
theorem pc_ones (k : Nat) : ∀ n, n ≤ k → pc k (2 ^ n - 1) = n := by
  induction k with
  | zero => intro n h; obtain rfl : n = 0 := by omega
            rfl
  | succ k ih =>
    intro n h
    cases n with
    | zero => exact pc_zero _
    | succ n =>
      have h1 : 0 < 2 ^ n := Nat.pow_pos (by omega)
      rw [pc, show 2 ^ (n + 1) = 2 * 2 ^ n by rw [Nat.pow_succ, Nat.mul_comm], show (2 * 2 ^ n - 1) / 2 = 2 ^ n - 1 by omega, show (2 * 2 ^ n - 1) % 2 = 1 by omega, ih n (by omega)]
      omega
section
variable {l : List Int} (hg : isGroup l = true)
include hg
theorem gadd_back {x y : Int} (h0 : 0 ≤ y) (h : y < prodL l) : gadd l (gneg l x) (gadd l x y) = y := by
  have hb := isGroup.big hg
  rw [← gadd_assoc l _ _ _ hb, gadd_comm l (gneg l x) x, gadd_neg l x hb, gadd_comm, gadd_zero l y hb h0 h]
theorem gadd_cancel {x y z : Int} (hy : 0 ≤ y ∧ y < prodL l) (hz : 0 ≤ z ∧ z < prodL l) (h : gadd l x y = gadd l x z) : y = z := by
  have h1 := gadd_back hg (x := x) hy.1 hy.2
  rw [h, gadd_back hg hz.1 hz.2] at h1
  exact h1.symm
theorem gneg_gneg {x : Int} (h0 : 0 ≤ x) (h : x < prodL l) : gneg l (gneg l x) = x := by
  have hb := isGroup.big hg
  have h1 := gadd_back hg (x := gneg l x) h0 h
  rw [gadd_comm l (gneg l x) x, gadd_neg l x hb] at h1
  have h2 := gneg_in hg (gneg l x)
  rw [gadd_zero l _ hb h2.1 h2.2] at h1
  exact h1
theorem pc_shN {A : Nat} (hA : A < topOf l) (x : Int) : pc 24 (shN l A x) = pc 24 A := by
  have hp := isGroup.prod hg
  have h24 := top_24 hg hA
  rw [pc_len h24]
  refine pc_orL' h24 (fun y _ => ?_) (fun y z hy hz h => gadd_cancel hg (of_top hg hA hy) (of_top hg hA hz) h)
  have := gadd_in hg x y
  omega
theorem pc_negN {A : Nat} (hA : A < topOf l) : pc 24 (negN l A) = pc 24 A := by
  have hp := isGroup.prod hg
  have h24 := top_24 hg hA
  rw [pc_len h24]
  refine pc_orL' h24 (fun y _ => ?_) (fun y z hy hz h => ?_)
  · have := gneg_in hg y
    omega
  · have h1 := of_top hg hA hy
    have h2 := of_top hg hA hz
    rw [← gneg_gneg hg h1.1 h1.2, h, gneg_gneg hg h2.1 h2.2]
theorem negN_negN {A : Nat} (hA : A < topOf l) : negN l (negN l A) = A := by
  refine set_ext fun z => ?_
  rw [inS_negN hg (negN_lt hg A)]
  constructor
  · rintro ⟨y, hy, rfl⟩
    obtain ⟨u, hu, rfl⟩ := (inS_negN hg (top_24 hg hA) y).1 hy
    have := of_top hg hA hu
    rw [gneg_gneg hg this.1 this.2]
    exact hu
  · intro hz
    have := of_top hg hA hz
    exact ⟨gneg l z, (inS_negN hg (top_24 hg hA) _).2 ⟨z, hz, rfl⟩, gneg_gneg hg this.1 this.2⟩
theorem full_iff (z : Int) : inS (topOf l - 1) z ↔ 0 ≤ z ∧ z < prodL l := by
  have hp := isGroup.prod hg
  unfold inS topOf
  rw [Nat.testBit_two_pow_sub_one, decide_eq_true_iff]
  omega
theorem pc_full : (pc 24 (topOf l - 1) : Int) = prodL l := by
  have hp := isGroup.prod hg
  unfold topOf
  rw [pc_ones 24 _ (by omega)]
  omega

/-! ### cosets -/
theorem shN_coset {H : Nat} (hH : IsSubN l H) {x y : Int} (hx : inS (shN l H y) x) : shN l (shN l H y) (gneg l x) = H := by
  have hb := isGroup.big hg
  obtain ⟨h, hh, rfl⟩ := (inS_shN hg (top_24 hg hH.1) _ _).1 hx
  have bh := of_top hg hH.1 hh
  rw [shN_shN hg hH.1]
  -- -(y + h) + y = -h
  have e : gadd l (gneg l (gadd l y h)) y = gneg l h := by
    have h1 := gadd_back hg (x := gadd l y h) (y := gneg l h) (gneg_in hg h).1 (gneg_in hg h).2
    have h2 : gadd l (gadd l y h) (gneg l h) = gadd l y 0 := by rw [gadd_assoc l _ _ _ hb, gadd_neg l h hb]
    have h3 := gadd_assoc l (gneg l (gadd l y h)) y 0 hb
    have h4 := gadd_in hg (gneg l (gadd l y h)) y
    rw [h2, ← h3, gadd_zero l _ hb h4.1 h4.2] at h1
    exact h1
  rw [e]
  refine set_ext fun z => ?_
  rw [inS_shN hg (top_24 hg hH.1)]
  constructor
  · rintro ⟨u, hu, rfl⟩
    exact IsSubN.add hg hH (IsSubN.neg hg hH hh) hu
  · intro hz
    have bz := of_top hg hH.1 hz
    exact ⟨gadd l h z, IsSubN.add hg hH hh hz, gadd_back hg bz.1 bz.2⟩
theorem shN_self {H : Nat} (hH : IsSubN l H) {y : Int} (h0 : 0 ≤ y) (h : y < prodL l) : inS (shN l H y) y := (inS_shN hg (top_24 hg hH.1) _ _).2 ⟨0, IsSubN.zero hg hH, gadd_zero l y (isGroup.big hg) h0 h⟩
theorem lowN_in {A : Nat} (hA : A < 16777216) (h0 : A ≠ 0) : inS A (lowN A) := by
  unfold lowN
  cases hm : memL A with
  | nil =>
    have := orL_id hA
    rw [hm] at this
    exact absurd this.symm h0
  | cons x r =>
    refine (mem_memL hA _).1 ?_
    rw [hm]
    simp
theorem coset_fix {H : Nat} (hH : IsSubN l H) {y : Int} (h0 : 0 ≤ y) (h : y < prodL l) : shN l H y ≠ 0 ∧ hullN l (shN l H y) = shN l H y := by
  have hne : shN l H y ≠ 0 := fun e => by
    have := shN_self hg hH h0 h
    rw [e] at this
    exact inS_zero y this
  refine ⟨hne, (hull_iff hg (shN_top hg H y)).2 ?_⟩
  rw [shN_coset hg hH (lowN_in hg (shN_lt hg H y) hne)]
  exact hH.2
theorem hull_coset {A : Nat} (hA : A < topOf l) (h0 : A ≠ 0) : ∃ H y, IsSubN l H ∧ (0 ≤ y ∧ y < prodL l) ∧ hullN l A = shN l H y :=
  ⟨_, _, genN_isSub hg (shN_lt hg A (gneg l (lowN A))), of_top hg hA (lowN_in hg (top_24 hg hA) h0), rfl⟩
theorem hull_has {A : Nat} (hA : A < topOf l) (h0 : A ≠ 0) : hullN l A &&& A = A := by
  have hb := isGroup.big hg
  refine set_ext fun z => ?_
  rw [inS_and]
  refine ⟨fun h => h.2, fun hz => ⟨?_, hz⟩⟩
  have bz := of_top hg hA hz
  unfold hullN
  obtain ⟨x, hx⟩ : ∃ x, x = lowN A := ⟨_, rfl⟩
  rw [← hx]
  have h24 := shN_lt hg A (gneg l x)
  rw [inS_shN hg (genN_lt hg h24)]
  refine ⟨gadd l (gneg l x) z, genN_has hg (shN_top hg A _) ((inS_shN hg (top_24 hg hA) _ _).2 ⟨z, hz, rfl⟩), ?_⟩
  rw [← gadd_assoc l _ _ _ hb, gadd_neg l x hb, gadd_comm, gadd_zero l z hb bz.1 bz.2]
/-- the cosets so far -/
def CosInv (l : List Int) (H : Nat) (p : List Int × Nat) (x : Nat) : Prop :=
  (∀ c ∈ p.1, ∃ y, (0 ≤ y ∧ y < prodL l) ∧ c = (shN l H y : Int)) ∧ (∀ z, inS p.2 z ↔ ∃ c ∈ p.1, inS c.toNat z) ∧ (∀ y : Nat, y < x → inS p.2 y) ∧ p.1.Pairwise (fun c d => c.toNat &&& d.toNat = 0) ∧ pc 24 p.2 = p.1.length * pc 24 H
theorem cosTo_inv {H : Nat} (hH : IsSubN l H) : ∀ x : Nat, (x : Int) ≤ prodL l → CosInv l H (cosTo l H x) x := by
  intro x
  induction x with
  | zero =>
    intro _
    refine ⟨(fun c hc => by cases hc), (fun z => ⟨fun h => absurd h (inS_zero z), fun ⟨c, hc, _⟩ => by cases hc⟩), (fun y h => by omega), List.Pairwise.nil, ?_⟩
    show pc 24 0 = 0 * pc 24 H
    rw [pc_zero, Nat.zero_mul]
  | succ x ih =>
    intro hx
    obtain ⟨i1, i2, i3, i4, i5⟩ := ih (by omega)
    rw [cosTo]
    by_cases hin : (cosTo l H x).2.testBit x = true
    · rw [if_pos hin]
      refine ⟨i1, i2, fun y hy => ?_, i4, i5⟩
      by_cases he : y = x
      · rw [he]; exact (inS_nat _ _).2 hin
      · exact i3 y (by omega)
    · rw [if_neg hin]
      have hxb : 0 ≤ (x : Int) ∧ (x : Int) < prodL l := by omega
      have hdis : ∀ z, inS (cosTo l H x).2 z → inS (shN l H x) z → False := by
        intro z h1 h2
        obtain ⟨c, hc, hcz⟩ := (i2 z).1 h1
        obtain ⟨y, hy, rfl⟩ := i1 c hc
        rw [Int.toNat_natCast] at hcz
        -- both are z + H
        have e1 := shN_coset hg hH hcz
        have e2 := shN_coset hg hH h2
        have e3 := shN_forth hg (shN_top hg H y) z
        have e4 := shN_forth hg (shN_top hg H x) z
        rw [e1] at e3
        rw [e2] at e4
        have : inS (shN l H y) x := by rw [← e3, e4]; exact shN_self hg hH hxb.1 hxb.2
        refine hin ((inS_nat _ _).1 ((i2 x).2 ⟨_, hc, ?_⟩))
        rw [Int.toNat_natCast]
        exact this
      refine ⟨fun c hc => ?_, fun z => ?_, fun y hy => ?_, ?_, ?_⟩
      · rcases List.mem_append.1 hc with h | h
        · exact i1 c h
        · rw [List.mem_singleton] at h
          exact ⟨x, hxb, h⟩
      · show inS ((cosTo l H x).2 ||| shN l H x) z ↔ ∃ c ∈ (cosTo l H x).1 ++ [(shN l H x : Int)], inS c.toNat z
        rw [inS_or, i2]
        constructor
        · rintro (⟨c, hc, h⟩ | h)
          · exact ⟨c, List.mem_append.2 (.inl hc), h⟩
          · exact ⟨_, List.mem_append.2 (.inr (List.mem_singleton.2 rfl)), by rw [Int.toNat_natCast]; exact h⟩
        · rintro ⟨c, hc, h⟩
          rcases List.mem_append.1 hc with h1 | h1
          · exact .inl ⟨c, h1, h⟩
          · rw [List.mem_singleton] at h1
            rw [h1, Int.toNat_natCast] at h
            exact .inr h
      · show inS ((cosTo l H x).2 ||| shN l H x) y
        rw [inS_or]
        by_cases he : y = x
        · rw [he]; exact .inr (shN_self hg hH hxb.1 hxb.2)
        · exact .inl (i3 y (by omega))
      · rw [List.pairwise_append]
        refine ⟨i4, List.pairwise_singleton _ _, fun c hc d hd => ?_⟩
        rw [List.mem_singleton] at hd
        rw [hd, Int.toNat_natCast]
        exact and_zero_of fun z h1 h2 => hdis z ((i2 z).2 ⟨c, hc, h1⟩) h2
      · show pc 24 ((cosTo l H x).2 ||| shN l H x) = ((cosTo l H x).1 ++ [(shN l H x : Int)]).length * pc 24 H
        rw [pc_or 24 _ _ (and_zero_of hdis), i5, pc_shN hg hH.1, List.length_append, List.length_singleton, Nat.add_mul, Nat.one_mul]
theorem cos_all {H : Nat} (hH : IsSubN l H) : (cosTo l H (prodL l).toNat).2 = topOf l - 1 := by
  have hp := isGroup.prod hg
  obtain ⟨i1, i2, i3, i4, i5⟩ := cosTo_inv hg hH (prodL l).toNat (by omega)
  refine set_ext fun z => ?_
  rw [full_iff hg]
  constructor
  · intro hz
    obtain ⟨c, hc, h⟩ := (i2 z).1 hz
    obtain ⟨y, _, rfl⟩ := i1 c hc
    rw [Int.toNat_natCast] at h
    exact of_top hg (shN_top hg H y) h
  · intro hz
    have := i3 z.toNat (by omega)
    rw [show ((z.toNat : Nat) : Int) = z by omega] at this
    exact this
theorem cos_count {H : Nat} (hH : IsSubN l H) : ((cosTo l H (prodL l).toNat).1.length : Int) * pc 24 H = prodL l := by
  have hp := isGroup.prod hg
  obtain ⟨i1, i2, i3, i4, i5⟩ := cosTo_inv hg hH (prodL l).toNat (by omega)
  rw [cos_all hg hH] at i5
  have h1 := pc_full hg
  rw [i5, Int.natCast_mul] at h1
  exact h1
theorem sub_divides {H : Nat} (hH : IsSubN l H) : (pc 24 H : Int) ∣ prodL l := ⟨_, by rw [Int.mul_comm]; exact (cos_count hg hH).symm⟩
end
end Go.Proofs.Ytffbamjfpegndaa
