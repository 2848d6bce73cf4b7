
/- Plain facts on sets given as numbers: membership, unions, shifts, sums, what is generated. No program in sight. No conditions. -/
import Derived.Test.YtffbamjfpegndabPlT
namespace Go.Proofs.Ytffbamjfpegndab
set_option linter.unusedVariables false
set_option linter.unusedSimpArgs false
set_option linter.unusedSectionVars false

/-- x is in the set A -/
def inS (A : Nat) (x : Int) : Prop := 0 ≤ x ∧ A.testBit x.toNat = true
theorem bit_lt {A i k : Nat} (hA : A < 2 ^ k) (h : A.testBit i = true) : i < k := by
  rcases Nat.lt_or_ge i k with h1 | h1
  · exact h1
  · rw [Nat.testBit_lt_two_pow (Nat.lt_of_lt_of_le hA (Nat.pow_le_pow_right (by omega) h1))] at h
    cases h
theorem inS.lt {A : Nat} {x : Int} (h : inS A x) (hA : A < 16777216) : 0 ≤ x ∧ x < 24 := by
  have h1 := bit_lt (k := 24) hA h.2
  have h2 := h.1
  omega
theorem inS_nat (A i : Nat) : inS A (i : Int) ↔ A.testBit i = true := by
  unfold inS
  rw [Int.toNat_natCast]
  exact ⟨fun h => h.2, fun h => ⟨by omega, h⟩⟩
theorem set_ext {A B : Nat} (h : ∀ x, inS A x ↔ inS B x) : A = B := by
  apply Nat.eq_of_testBit_eq
  intro i
  have h1 := h (i : Int)
  rw [inS_nat, inS_nat] at h1
  cases ha : A.testBit i
  · cases hb : B.testBit i
    · rfl
    · rw [ha, hb] at h1; exact absurd (h1.2 rfl) (by decide)
  · rw [ha] at h1; exact (h1.1 rfl).symm
theorem mem_memTo (A x : Nat) (z : Int) : z ∈ memTo A x ↔ inS A z ∧ z < x := by
  unfold memTo
  rw [List.mem_map]
  constructor
  · rintro ⟨i, hi, rfl⟩
    rw [List.mem_filter, List.mem_range] at hi
    exact ⟨(inS_nat _ _).2 hi.2, by omega⟩
  · rintro ⟨hb, hx⟩
    have h0 := hb.1
    refine ⟨z.toNat, ?_, by omega⟩
    rw [List.mem_filter, List.mem_range]
    exact ⟨by omega, hb.2⟩
theorem mem_memL {A : Nat} (hA : A < 16777216) (z : Int) : z ∈ memL A ↔ inS A z := by
  unfold memL
  rw [mem_memTo]
  exact ⟨fun h => h.1, fun h => ⟨h, (h.lt hA).2⟩⟩
theorem inS_zero (x : Int) : ¬ inS 0 x := by
  intro h
  have := h.2
  rw [Nat.zero_testBit] at this
  cases this
theorem inS_or (A B : Nat) (x : Int) : inS (A ||| B) x ↔ inS A x ∨ inS B x := by
  unfold inS
  rw [Nat.testBit_or, Bool.or_eq_true]
  constructor
  · rintro ⟨h0, h | h⟩
    · exact .inl ⟨h0, h⟩
    · exact .inr ⟨h0, h⟩
  · rintro (⟨h0, h⟩ | ⟨h0, h⟩)
    · exact ⟨h0, .inl h⟩
    · exact ⟨h0, .inr h⟩
theorem inS_and (A B : Nat) (x : Int) : inS (A &&& B) x ↔ inS A x ∧ inS B x := by
  unfold inS
  rw [Nat.testBit_and, Bool.and_eq_true]
  constructor
  · rintro ⟨h0, h1, h2⟩
    exact ⟨⟨h0, h1⟩, h0, h2⟩
  · rintro ⟨⟨h0, h1⟩, _, h2⟩
    exact ⟨h0, h1, h2⟩
theorem inS_pow {k : Int} (hk : 0 ≤ k) (x : Int) : inS (2 ^ k.toNat) x ↔ x = k := by
  unfold inS
  rw [Nat.testBit_two_pow, decide_eq_true_iff]
  omega
theorem inS_one (x : Int) : inS 1 x ↔ x = 0 := inS_pow (k := 0) (by omega) x
/-- the union of sets -/
def orU (F : Int → Nat) (L : List Int) : Nat := L.foldl (fun a x => a ||| F x) 0
theorem orU_snoc (F : Int → Nat) (L : List Int) (x : Int) : orU F (L ++ [x]) = orU F L ||| F x := by
  unfold orU
  rw [List.foldl_append]
  rfl
theorem inS_orU (F : Int → Nat) (L : List Int) (z : Int) : inS (orU F L) z ↔ ∃ x ∈ L, inS (F x) z := by
  have gen : ∀ (L : List Int) (a : Nat), inS (L.foldl (fun a x => a ||| F x) a) z ↔ inS a z ∨ ∃ x ∈ L, inS (F x) z := by
    intro L
    induction L with
    | nil => intro a; simp
    | cons y r ih =>
      intro a
      rw [List.foldl_cons, ih, inS_or]
      constructor
      · rintro ((h | h) | ⟨x, hx, h⟩)
        · exact .inl h
        · exact .inr ⟨y, by simp, h⟩
        · exact .inr ⟨x, by simp [hx], h⟩
      · rintro (h | ⟨x, hx, h⟩)
        · exact .inl (.inl h)
        · rcases List.mem_cons.1 hx with rfl | hx
          · exact .inl (.inr h)
          · exact .inr ⟨x, hx, h⟩
  unfold orU
  rw [gen]
  exact ⟨fun h => h.resolve_left (inS_zero z), .inr⟩
theorem orU_lt {F : Int → Nat} {L : List Int} (h : ∀ x ∈ L, F x < 16777216) : orU F L < 16777216 := by
  have gen : ∀ (L : List Int) (a : Nat), a < 2 ^ 24 → (∀ x ∈ L, F x < 2 ^ 24) → L.foldl (fun a x => a ||| F x) a < 2 ^ 24 := by
    intro L
    induction L with
    | nil => intro a ha _; exact ha
    | cons y r ih =>
      intro a ha hL
      rw [List.foldl_cons]
      exact ih _ (Nat.or_lt_two_pow ha (hL y (by simp))) fun z hz => hL z (by simp [hz])
  exact gen L 0 (by decide) h
theorem or_lt24 {A B : Nat} (hA : A < 16777216) (hB : B < 16777216) : A ||| B < 16777216 := Nat.or_lt_two_pow (n := 24) hA hB
theorem and_lt24 {A : Nat} (hA : A < 16777216) (B : Nat) : A &&& B < 16777216 := Nat.lt_of_le_of_lt Nat.and_le_left hA
theorem inS_orL {f : Int → Int} {L : List Int} (hf : ∀ x ∈ L, 0 ≤ f x) (z : Int) : inS (orL f L) z ↔ ∃ x ∈ L, f x = z := by
  show inS (orU (fun x => 2 ^ (f x).toNat) L) z ↔ _
  rw [inS_orU]
  constructor
  · rintro ⟨x, hx, h⟩
    exact ⟨x, hx, ((inS_pow (hf x hx) z).1 h).symm⟩
  · rintro ⟨x, hx, h⟩
    exact ⟨x, hx, (inS_pow (hf x hx) z).2 h.symm⟩
/-- a set whose elements are elements of the group -/
theorem top_of {l : List Int} (hg : isGroup l = true) {A : Nat} (h : ∀ z, inS A z → z < prodL l) : A < topOf l := by
  have hp := isGroup.prod hg
  unfold topOf
  refine Nat.lt_pow_two_of_testBit A fun i hi => ?_
  cases hb : A.testBit i
  · rfl
  · have := h i ((inS_nat A i).2 hb)
    omega
theorem of_top {l : List Int} (hg : isGroup l = true) {A : Nat} (h : A < topOf l) {z : Int} (hz : inS A z) : 0 ≤ z ∧ z < prodL l := by
  have hp := isGroup.prod hg
  have h1 := bit_lt h hz.2
  have h2 := hz.1
  omega
theorem isSet_nat {l : List Int} (hg : isGroup l = true) (A : Nat) : isSet l (A : Int) = true ↔ A < topOf l := by
  unfold isSet
  rw [hg, Bool.true_and, decide_eq_true_iff]
  omega
theorem top_24 {l : List Int} (hg : isGroup l = true) {A : Nat} (h : A < topOf l) : A < 16777216 := Nat.lt_of_lt_of_le h (topOf_bd hg).2

/-! ### shifts, negatives, sums -/
/-- x + B -/
def shN (l : List Int) (B : Nat) (x : Int) : Nat := orL (gadd l x) (memL B)
def negN (l : List Int) (B : Nat) : Nat := orL (gneg l) (memL B)
def sumN (l : List Int) (A B : Nat) : Nat := orU (shN l B) (memL A)
section
variable {l : List Int} (hg : isGroup l = true)
include hg
theorem gadd_in (x y : Int) : 0 ≤ gadd l x y ∧ gadd l x y < prodL l := gadd_bd l x y (isGroup.big hg)
theorem gneg_in (x : Int) : 0 ≤ gneg l x ∧ gneg l x < prodL l := gneg_bd l x (isGroup.big hg)
theorem inS_shN {B : Nat} (hB : B < 16777216) (x z : Int) : inS (shN l B x) z ↔ ∃ y, inS B y ∧ gadd l x y = z := by
  unfold shN
  rw [inS_orL fun y _ => (gadd_in hg x y).1]
  constructor
  · rintro ⟨y, hy, h⟩; exact ⟨y, (mem_memL hB y).1 hy, h⟩
  · rintro ⟨y, hy, h⟩; exact ⟨y, (mem_memL hB y).2 hy, h⟩
theorem inS_negN {B : Nat} (hB : B < 16777216) (z : Int) : inS (negN l B) z ↔ ∃ y, inS B y ∧ gneg l y = z := by
  unfold negN
  rw [inS_orL fun y _ => (gneg_in hg y).1]
  constructor
  · rintro ⟨y, hy, h⟩; exact ⟨y, (mem_memL hB y).1 hy, h⟩
  · rintro ⟨y, hy, h⟩; exact ⟨y, (mem_memL hB y).2 hy, h⟩
theorem shN_top (B : Nat) (x : Int) : shN l B x < topOf l := by
  refine top_of hg fun z hz => ?_
  unfold shN at hz
  rw [inS_orL fun y _ => (gadd_in hg x y).1] at hz
  obtain ⟨y, _, rfl⟩ := hz
  exact (gadd_in hg x y).2
theorem negN_top (B : Nat) : negN l B < topOf l := by
  refine top_of hg fun z hz => ?_
  unfold negN at hz
  rw [inS_orL fun y _ => (gneg_in hg y).1] at hz
  obtain ⟨y, _, rfl⟩ := hz
  exact (gneg_in hg y).2
theorem sumN_top (A B : Nat) : sumN l A B < topOf l := by
  refine top_of hg fun z hz => ?_
  unfold sumN at hz
  rw [inS_orU] at hz
  obtain ⟨x, _, h⟩ := hz
  exact (of_top hg (shN_top hg B x) h).2
theorem shN_lt (B : Nat) (x : Int) : shN l B x < 16777216 := top_24 hg (shN_top hg B x)
theorem negN_lt (B : Nat) : negN l B < 16777216 := top_24 hg (negN_top hg B)
theorem sumN_lt (A B : Nat) : sumN l A B < 16777216 := top_24 hg (sumN_top hg A B)
theorem inS_sumN {A B : Nat} (hA : A < 16777216) (hB : B < 16777216) (z : Int) : inS (sumN l A B) z ↔ ∃ x y, inS A x ∧ inS B y ∧ gadd l x y = z := by
  unfold sumN
  rw [inS_orU]
  constructor
  · rintro ⟨x, hx, h⟩
    obtain ⟨y, hy, e⟩ := (inS_shN hg hB x z).1 h
    exact ⟨x, y, (mem_memL hA x).1 hx, hy, e⟩
  · rintro ⟨x, y, hx, hy, e⟩
    exact ⟨x, (mem_memL hA x).2 hx, (inS_shN hg hB x z).2 ⟨y, hy, e⟩⟩
theorem sumN_comm {A B : Nat} (hA : A < 16777216) (hB : B < 16777216) : sumN l A B = sumN l B A := by
  refine set_ext fun z => ?_
  rw [inS_sumN hg hA hB, inS_sumN hg hB hA]
  constructor
  · rintro ⟨x, y, hx, hy, e⟩; exact ⟨y, x, hy, hx, (gadd_comm l y x).trans e⟩
  · rintro ⟨x, y, hx, hy, e⟩; exact ⟨y, x, hy, hx, (gadd_comm l y x).trans e⟩
/-- the same set, by the elements of the other one -/
theorem sumN_swap {A B : Nat} (hA : A < 16777216) (hB : B < 16777216) : orU (shN l A) (memL B) = sumN l A B := sumN_comm hg hB hA

/-! ### what is generated -/
/-- what the elements of A generate -/
inductive Gen (l : List Int) (A : Nat) : Int → Prop
  | zero : Gen l A 0
  | step {z a : Int} : Gen l A z → inS A a → Gen l A (gadd l z a)
omit hg in
theorem Gen.mono {A B : Nat} (h : ∀ a, inS A a → Gen l B a) (hadd : ∀ x y, Gen l B x → Gen l B y → Gen l B (gadd l x y)) {z : Int} (hz : Gen l A z) : Gen l B z := by
  induction hz with
  | zero => exact .zero
  | step _ ha ih => exact hadd _ _ ih (h _ ha)
theorem Gen.bd {A : Nat} {z : Int} (h : Gen l A z) : 0 ≤ z ∧ z < prodL l := by
  have hp := isGroup.prod hg
  cases h with
  | zero => omega
  | step _ _ => exact gadd_in hg _ _
theorem Gen.add {A : Nat} {x y : Int} (hx : Gen l A x) (hy : Gen l A y) : Gen l A (gadd l x y) := by
  have hb := isGroup.big hg
  induction hy with
  | zero =>
    have h := Gen.bd hg hx
    rw [gadd_zero l x hb h.1 h.2]
    exact hx
  | step _ ha ih =>
    rw [← gadd_assoc l _ _ _ hb]
    exact .step ih ha
theorem Gen.mul {A : Nat} {x : Int} (hx : Gen l A x) (n : Nat) : Gen l A (gmul l n x) := by
  have hb := isGroup.big hg
  induction n with
  | zero => rw [show ((0 : Nat) : Int) = 0 from rfl, gmul_zero]; exact .zero
  | succ n ih =>
    rw [show ((n + 1 : Nat) : Int) = (n : Int) + 1 by omega, ← gmul_succ l n x hb]
    exact Gen.add hg ih hx
/-- a negative is a multiple -/
theorem gneg_mul {x : Int} (h0 : 0 ≤ x) (h : x < prodL l) : gneg l x = gmul l (prodL l - 1) x := by
  have hb := isGroup.big hg
  have h1 : gadd l x (gmul l (prodL l - 1) x) = 0 := by
    rw [gadd_comm, gmul_succ l _ x hb, show prodL l - 1 + 1 = prodL l by omega]
    exact gmul_all l _ x fun o ho => dvd_prodL ho
  have h2 := gadd_assoc l (gneg l x) x (gmul l (prodL l - 1) x) hb
  have hn := gneg_in hg x
  have hm := gmul_bd l (prodL l - 1) x hb
  rw [h1, gadd_comm l (gneg l x) x, gadd_neg l x hb, gadd_zero l _ hb hn.1 hn.2, gadd_comm l 0, gadd_zero l _ hb hm.1 hm.2] at h2
  exact h2.symm
theorem Gen.neg {A : Nat} {x : Int} (hx : Gen l A x) : Gen l A (gneg l x) := by
  have h := Gen.bd hg hx
  have hp := isGroup.prod hg
  rw [gneg_mul hg h.1 h.2]
  have := Gen.mul hg hx (prodL l - 1).toNat
  rw [show (((prodL l - 1).toNat : Nat) : Int) = prodL l - 1 by omega] at this
  exact this
theorem Gen.one {A : Nat} {x : Int} (h : inS A x) (hx : x < prodL l) : Gen l A x := by
  have h1 : Gen l A (gadd l 0 x) := .step .zero h
  rw [gadd_comm, gadd_zero l x (isGroup.big hg) h.1 hx] at h1
  exact h1
/-- .. of an element that may be none of the group -/
theorem Gen.neg1 {A : Nat} {x : Int} (h : inS A x) : Gen l A (gneg l x) := by
  have hb := isGroup.big hg
  have h1 : Gen l A (gadd l 0 x) := .step .zero h
  have h2 := Gen.neg hg h1
  have h3 := gadd_assoc l (gneg l (gadd l 0 x)) (gadd l 0 x) (gneg l x) hb
  have h4 := gadd_assoc l 0 x (gneg l x) hb
  have hn := gneg_in hg x
  have hm := gneg_in hg (gadd l 0 x)
  have hp := isGroup.prod hg
  rw [gadd_neg l x hb, gadd_zero l 0 hb (by omega) (by omega)] at h4
  rw [gadd_comm l (gneg l (gadd l 0 x)) (gadd l 0 x), gadd_neg l _ hb, h4, gadd_zero l _ hb hm.1 hm.2, gadd_comm l 0, gadd_zero l _ hb hn.1 hn.2] at h3
  rw [h3]
  exact h2
end

def closeF (f : Nat → Nat) : Nat → Nat → Nat
  | 0, h => h
  | n + 1, h => if f h = h then h else closeF f n (f h)
def genN (l : List Int) (A : Nat) : Nat := closeF (fun h => h ||| sumN l h A) 16777216 1
/-- a part of what is generated -/
def GenSub (l : List Int) (A h : Nat) : Prop := h < 16777216 ∧ inS h 0 ∧ ∀ z, inS h z → Gen l A z
theorem or_or_left {a b c : Nat} (h : a ||| b ||| c = a) : a ||| b = a := by
  refine set_ext fun z => ?_
  rw [inS_or]
  refine ⟨fun hz => ?_, .inl⟩
  rw [← h, inS_or, inS_or]
  exact .inl hz
theorem or_ge (a b : Nat) : a ≤ a ||| b := Nat.left_le_or
section
variable {l : List Int} (hg : isGroup l = true) {A : Nat} (hA : A < 16777216)
include hg hA
omit hA in
theorem GenSub.one : GenSub l A 1 := by
  refine ⟨by omega, (inS_one 0).2 rfl, fun z hz => ?_⟩
  rw [(inS_one z).1 hz]
  exact .zero
theorem GenSub.sum {h : Nat} (hs : GenSub l A h) : GenSub l A (h ||| sumN l h A) := by
  refine ⟨or_lt24 hs.1 (sumN_lt hg _ _), (inS_or _ _ _).2 (.inl hs.2.1), fun z hz => ?_⟩
  rcases (inS_or _ _ _).1 hz with hz | hz
  · exact hs.2.2 z hz
  · obtain ⟨x, y, hx, hy, rfl⟩ := (inS_sumN hg hs.1 hA z).1 hz
    exact .step (hs.2.2 x hx) hy
theorem GenSub.sums {h : Nat} (hs : GenSub l A h) : GenSub l A (h ||| sumN l h A ||| sumN l h (negN l A)) := by
  have h1 := GenSub.sum hg hA hs
  refine ⟨or_lt24 h1.1 (sumN_lt hg _ _), (inS_or _ _ _).2 (.inl h1.2.1), fun z hz => ?_⟩
  rcases (inS_or _ _ _).1 hz with hz | hz
  · exact h1.2.2 z hz
  · obtain ⟨x, y, hx, hy, rfl⟩ := (inS_sumN hg hs.1 (negN_lt hg A) z).1 hz
    obtain ⟨a, ha, rfl⟩ := (inS_negN hg hA y).1 hy
    exact Gen.add hg (hs.2.2 x hx) (Gen.neg1 hg ha)
theorem GenSub.full {h : Nat} (hs : GenSub l A h) (hc : h ||| sumN l h A = h) {z : Int} : inS h z ↔ Gen l A z := by
  refine ⟨hs.2.2 z, fun hz => ?_⟩
  induction hz with
  | zero => exact hs.2.1
  | step _ ha ih =>
    rw [← hc, inS_or, inS_sumN hg hs.1 hA]
    exact .inr ⟨_, _, ih, ha, rfl⟩
theorem closeF_end : ∀ n h, GenSub l A h → 16777216 ≤ n + h → GenSub l A (closeF (fun h => h ||| sumN l h A) n h) ∧ closeF (fun h => h ||| sumN l h A) n h ||| sumN l (closeF (fun h => h ||| sumN l h A) n h) A = closeF (fun h => h ||| sumN l h A) n h := by
  intro n
  induction n with
  | zero => intro h hs hn; have := hs.1; omega
  | succ n ih =>
    intro h hs hn
    rw [closeF]
    by_cases he : h ||| sumN l h A = h
    · rw [if_pos he]; exact ⟨hs, he⟩
    · rw [if_neg he]
      refine ih _ (GenSub.sum hg hA hs) ?_
      have := or_ge h (sumN l h A)
      omega
theorem genN_sub : GenSub l A (genN l A) := (closeF_end hg hA _ 1 (GenSub.one hg) (by omega)).1
theorem genN_iff (z : Int) : inS (genN l A) z ↔ Gen l A z := GenSub.full hg hA (genN_sub hg hA) (closeF_end hg hA _ 1 (GenSub.one hg) (by omega)).2
theorem GenSub.done {h : Nat} (hs : GenSub l A h) (hc : h ||| sumN l h A = h) : h = genN l A := set_ext fun z => by rw [GenSub.full hg hA hs hc, genN_iff hg hA]
theorem GenSub.dones {h : Nat} (hs : GenSub l A h) (hc : h ||| sumN l h A ||| sumN l h (negN l A) = h) : h = genN l A := GenSub.done hg hA hs (or_or_left hc)
theorem genN_top : genN l A < topOf l := top_of hg fun z hz => (Gen.bd hg ((genN_iff hg hA z).1 hz)).2
theorem genN_lt : genN l A < 16777216 := top_24 hg (genN_top hg hA)
end
end Go.Proofs.Ytffbamjfpegndab
