/- Plain facts behind the law FnSums: restricted sums lie in sums, subset sums hold their set. No program in sight. No conditions. -/
import Derived.Test.YtknbfohmobjplaaPlV
namespace Go.Proofs.Ytknbfohmobjplaa
set_option linter.unusedVariables false
set_option linter.unusedSimpArgs false
set_option linter.unusedSectionVars false

theorem and_sub {A B : Nat} (h : ∀ z, inS A z → inS B z) : A &&& B = A := set_ext fun z => by
  rw [inS_and]
  exact ⟨And.left, fun h1 => ⟨h1, h z h1⟩⟩
theorem sub_and_of {A B : Nat} (h : A &&& B = A) {z : Int} (hz : inS A z) : inS B z := by
  rw [← h, inS_and] at hz
  exact hz.2
section
variable {l : List Int} (hg : isGroup l = true)
include hg
theorem resN_sub {A B : Nat} (hA : A < 16777216) (hB : B < 16777216) : resN l A B &&& sumN l A B = resN l A B := and_sub fun z hz => by
  obtain ⟨x, y, hx, hy, _, e⟩ := (inS_resN hg hA hB z).1 hz
  exact (inS_sumN hg hA hB z).2 ⟨x, y, hx, hy, e⟩
theorem resN_all {A B : Nat} (hA : A < 16777216) (hB : B < 16777216) (h : A &&& B = 0) : resN l A B = sumN l A B := set_ext fun z => by
  rw [inS_resN hg hA hB, inS_sumN hg hA hB]
  constructor
  · rintro ⟨x, y, hx, hy, _, e⟩
    exact ⟨x, y, hx, hy, e⟩
  · rintro ⟨x, y, hx, hy, e⟩
    refine ⟨x, y, hx, hy, ?_, e⟩
    rintro rfl
    have h2 := (inS_and A B x).2 ⟨hx, hy⟩
    rw [h] at h2
    exact inS_zero x h2
theorem ss_keep (z : Int) : ∀ (M : List Int) (o : Nat), inS o z → inS (M.foldl (fun o x => o ||| shN l o x) o) z := by
  intro M
  induction M with
  | nil => intro o h; exact h
  | cons y r ih => intro o h; exact ih _ ((inS_or _ _ _).2 (.inl h))
theorem ss_in : ∀ (M : List Int) (o : Nat), o < 16777216 → inS o 0 → ∀ x ∈ M, 0 ≤ x → x < prodL l → inS (M.foldl (fun o x => o ||| shN l o x) o) x := by
  intro M
  induction M with
  | nil => intro o _ _ x hx; cases hx
  | cons y r ih =>
    intro o ho h0 x hx hx0 hx1
    rcases List.mem_cons.1 hx with rfl | hx
    · refine ss_keep hg x r _ ((inS_or _ _ _).2 (.inr ((inS_shN hg ho _ _).2 ⟨0, h0, gadd_zero l x (isGroup.big hg) hx0 hx1⟩)))
    · exact ih _ (or_lt24 ho (shN_lt hg _ _)) ((inS_or _ _ _).2 (.inl h0)) x hx hx0 hx1
theorem ssN_lt (A : Nat) : ssN l A < 16777216 := ssTo_lt hg _
theorem ssN_odd (A : Nat) : ssN l A &&& 1 = 1 := by
  have h : inS (ssN l A) 0 := ss_keep hg 0 (memL A) 1 ((inS_one 0).2 rfl)
  have h2 := h.2
  rw [show (0 : Int).toNat = 0 from rfl, Nat.testBit_zero] at h2
  rw [Nat.and_one_is_mod]
  exact of_decide_eq_true h2
theorem ssN_has {A : Nat} (hA : A < topOf l) : ssN l A &&& A = A := by
  rw [Nat.and_comm]
  refine and_sub fun z hz => ?_
  have hb := of_top hg hA hz
  exact ss_in hg (memL A) 1 (by decide) ((inS_one 0).2 rfl) z ((mem_memL (top_24 hg hA) z).2 hz) hb.1 hb.2
end
end Go.Proofs.Ytknbfohmobjplaa
