/- Plain facts on rows of places. No program in sight. No conditions. -/
import Derived.Test.YtdlnacnepalpgaaPlH
namespace Go.Proofs.Ytdlnacnepalpgaa

theorem okPlaces_iff (l : List Int) : ∀ q, okPlaces l q = true ↔ l.length = q.length ∧ ∀ i (h1 : i < l.length) (h2 : i < q.length), 0 ≤ q[i] ∧ q[i] < l[i] := by
  induction l with
  | nil =>
    intro q
    cases q with
    | nil => simp [okPlaces]
    | cons p q => simp [okPlaces]
  | cons o r ih =>
    intro q
    cases q with
    | nil => simp [okPlaces]
    | cons p q =>
      rw [okPlaces, Bool.and_eq_true, decide_eq_true_iff, ih q]
      constructor
      · rintro ⟨h1, h2, h3⟩
        refine ⟨by simp [h2], fun i hi1 hi2 => ?_⟩
        cases i with
        | zero => exact h1
        | succ i => exact h3 i (by simpa using hi1) (by simpa using hi2)
      · rintro ⟨h2, h3⟩
        refine ⟨h3 0 (by simp) (by simp), by simpa using h2, fun i hi1 hi2 => ?_⟩
        exact h3 (i + 1) (by simpa using hi1) (by simpa using hi2)
theorem okPlaces_drop {l q : List Int} (h : okPlaces l q = true) (k : Nat) : okPlaces (l.drop k) (q.drop k) = true := by
  rw [okPlaces_iff] at h ⊢
  refine ⟨by rw [List.length_drop, List.length_drop, h.1], fun i h1 h2 => ?_⟩
  rw [List.length_drop] at h1 h2
  rw [List.getElem_drop, List.getElem_drop]
  exact h.2 (k + i) (by omega) (by omega)
theorem elemOf_drop {l q : List Int} {k : Nat} (h1 : k < l.length) (h2 : k < q.length) : elemOf (l.drop k) (q.drop k) = q[k] + l[k] * elemOf (l.drop (k + 1)) (q.drop (k + 1)) := by
  rw [List.drop_eq_getElem_cons h1, List.drop_eq_getElem_cons h2, elemOf]
theorem prodL_drop_le {l : List Int} (h : Big l) (k : Nat) : prodL (l.drop k) ≤ prodL l := by
  have e : prodL l = prodL (l.take k) * prodL (l.drop k) := by rw [← prodL_append, List.take_append_drop]
  have h1 := prodL_pos (h.take k)
  have h2 := prodL_pos (h.drop k)
  rw [e]
  have := Int.mul_le_mul_of_nonneg_right h1 (show 0 ≤ prodL (l.drop k) by omega)
  omega
theorem elemOf_small {l q : List Int} (hg : isGroup l = true) (hok : okPlaces l q = true) (k : Nat) : 0 ≤ elemOf (l.drop k) (q.drop k) ∧ elemOf (l.drop k) (q.drop k) < 24 := by
  have h1 := elemOf_bd (l.drop k) (q.drop k) ((isGroup.big hg).drop k) (okPlaces_drop hok k)
  have h2 := prodL_drop_le (isGroup.big hg) k
  have h3 := isGroup.prod hg
  omega
end Go.Proofs.Ytdlnacnepalpgaa
