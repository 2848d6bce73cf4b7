
/- Plain facts on ascending lists and on the list of all subgroups. No program in sight. No conditions. -/
import Derived.Test.YtffbamjfpegndaaPlX
namespace Go.Proofs.Ytffbamjfpegndaa
set_option linter.unusedVariables false
set_option linter.unusedSimpArgs false
set_option linter.unusedSectionVars false

theorem asc_ext : ∀ (a b : List Int), a.Pairwise (· < ·) → b.Pairwise (· < ·) → (∀ c, c ∈ a ↔ c ∈ b) → a = b := by
  intro a
  induction a with
  | nil =>
    intro b _ _ h
    cases b with
    | nil => rfl
    | cons y s => have := (h y).2 (by simp); cases this
  | cons x r ih =>
    intro b ha hb h
    rw [List.pairwise_cons] at ha
    cases b with
    | nil => have := (h x).1 (by simp); cases this
    | cons y s =>
      rw [List.pairwise_cons] at hb
      have hxy : x = y := by
        rcases List.mem_cons.1 ((h x).1 (by simp)) with h1 | h1
        · exact h1
        · rcases List.mem_cons.1 ((h y).2 (by simp)) with h2 | h2
          · exact h2.symm
          · have := ha.1 y h2; have := hb.1 x h1; omega
      subst hxy
      have : r = s := ih s ha.2 hb.2 fun c => by
        constructor
        · intro hc
          rcases List.mem_cons.1 ((h c).1 (by simp [hc])) with h1 | h1
          · have := ha.1 c hc; omega
          · exact h1
        · intro hc
          rcases List.mem_cons.1 ((h c).2 (by simp [hc])) with h1 | h1
          · have := hb.1 c hc; omega
          · exact h1
      rw [this]
theorem asc_len' : ∀ (a : List Int) (m N : Int), m ≤ N → a.Pairwise (· < ·) → (∀ c ∈ a, m ≤ c ∧ c < N) → (a.length : Int) ≤ N - m := by
  intro a
  induction a with
  | nil => intro m N h _ _; simp; omega
  | cons x r ih =>
    intro m N h ha hb
    rw [List.pairwise_cons] at ha
    have hx := hb x (by simp)
    have := ih (x + 1) N (by omega) ha.2 fun c hc => by
      have h1 := ha.1 c hc
      have h2 := hb c (by simp [hc])
      omega
    rw [List.length_cons]
    omega
theorem asc_len {a : List Int} (ha : a.Pairwise (· < ·)) (hb : ∀ c ∈ a, 0 ≤ c ∧ c < 16777216) : a.length ≤ 16777216 := by
  have := asc_len' a 0 16777216 (by omega) ha hb
  omega
def sortL (l : List Int) : List Int := l.mergeSort fun x y => decide (x ≤ y)
theorem mem_sortL (l : List Int) (c : Int) : c ∈ sortL l ↔ c ∈ l := List.mem_mergeSort
theorem sortL_len (l : List Int) : (sortL l).length = l.length := List.length_mergeSort l
theorem pw_lt {a : List Int} (h1 : a.Pairwise (fun x y => decide (x ≤ y) = true)) (h2 : a.Nodup) : a.Pairwise (· < ·) := by
  refine List.Pairwise.imp ?_ (List.pairwise_and_iff.2 ⟨h1, h2⟩)
  rintro x y ⟨h3, h4⟩
  have := of_decide_eq_true h3
  omega
theorem sortL_asc {l : List Int} (h : l.Nodup) : (sortL l).Pairwise (· < ·) := by
  refine pw_lt (List.pairwise_mergeSort (fun a b c h1 h2 => ?_) (fun a b => ?_) l) ((List.mergeSort_perm l _).nodup_iff.2 h)
  · have := of_decide_eq_true h1
    have := of_decide_eq_true h2
    exact decide_eq_true (by omega)
  · by_cases h : a ≤ b
    · rw [decide_eq_true h]; rfl
    · rw [decide_eq_true (show b ≤ a by omega), Bool.or_true]
theorem nodup_len {l : List Int} (h : l.Nodup) (hb : ∀ c ∈ l, 0 ≤ c ∧ c < 16777216) : l.length ≤ 16777216 := by
  rw [← sortL_len]
  exact asc_len (sortL_asc h) fun c hc => hb c ((mem_sortL l c).1 hc)
/-- the subgroups, ascending -/
def subsL (l : List Int) : List Int := ((List.range (topOf l)).filter fun H => decide (genN l H = H)).map fun H : Nat => (H : Int)
theorem mem_subsL (l : List Int) (c : Int) : c ∈ subsL l ↔ ∃ H : Nat, c = H ∧ IsSubN l H := by
  unfold subsL
  rw [List.mem_map]
  constructor
  · rintro ⟨H, h, rfl⟩
    rw [List.mem_filter, List.mem_range, decide_eq_true_iff] at h
    exact ⟨H, rfl, h⟩
  · rintro ⟨H, rfl, h⟩
    refine ⟨H, ?_, rfl⟩
    rw [List.mem_filter, List.mem_range, decide_eq_true_iff]
    exact h
theorem subsL_asc (l : List Int) : (subsL l).Pairwise (· < ·) := List.Pairwise.map _ (fun a b h => Int.ofNat_lt.2 h) (List.Pairwise.filter _ List.pairwise_lt_range)
def sbsE (l : List Int) : List Int := if isGroup l then subsL l else []
theorem sbsE_no {l : List Int} (h : isGroup l = false) : sbsE l = [] := by unfold sbsE; rw [h]; rfl
theorem sbsE_yes {l : List Int} (h : isGroup l = true) : sbsE l = subsL l := by unfold sbsE; rw [h]; rfl
theorem subsL_bd {l : List Int} (hg : isGroup l = true) {c : Int} (h : c ∈ subsL l) : 0 ≤ c ∧ c < 16777216 := by
  obtain ⟨H, rfl, hH⟩ := (mem_subsL l c).1 h
  have := top_24 hg hH.1
  omega
theorem sbsE_len (l : List Int) : (sbsE l).length ≤ 16777216 := by
  unfold sbsE
  split
  · rename_i h
    exact asc_len (subsL_asc l) fun c hc => subsL_bd h hc
  · simp
/-- all elements are subgroups -/
def AllSub (l r : List Int) : Prop := ∀ c ∈ r, ∃ H : Nat, c = H ∧ IsSubN l H
theorem AllSub.bd {l r : List Int} (hg : isGroup l = true) (h : AllSub l r) {c : Int} (hc : c ∈ r) : 0 ≤ c ∧ c < 16777216 := by
  obtain ⟨H, rfl, hH⟩ := h c hc
  have := top_24 hg hH.1
  omega
/-- a list of subgroups with {0}, closed under one more element, sorted -/
theorem sort_subs {l r : List Int} (hg : isGroup l = true) (hn : r.Nodup) (hs : AllSub l r) (h1 : (1 : Int) ∈ r) (hc : ∀ H : Nat, (H : Int) ∈ r → ∀ x : Nat, (x : Int) < prodL l → ((genN l (H ||| 2 ^ x) : Nat) : Int) ∈ r) : sortL r = subsL l := by
  refine asc_ext _ _ (sortL_asc hn) (subsL_asc l) fun c => ?_
  rw [mem_sortL, mem_subsL]
  constructor
  · exact hs c
  · rintro ⟨K, rfl, hK⟩
    exact all_subs hg (L := fun H => (H : Int) ∈ r) h1 hc (fun H hH => by
      obtain ⟨H', e, h⟩ := hs _ hH
      rw [show H = H' by omega]
      exact h) hK
/-- an ascending list of subgroups that holds all sums of three cyclic ones -/
theorem three_subs {l r : List Int} (hg : isGroup l = true) (ha : r.Pairwise (· < ·)) (hs : AllSub l r) (hc : ∀ a b c : Int, (0 ≤ a ∧ a < prodL l) → (0 ≤ b ∧ b < prodL l) → (0 ≤ c ∧ c < prodL l) → ((sumN l (sumN l (cycN l a) (cycN l b)) (cycN l c) : Nat) : Int) ∈ r) : r = subsL l := by
  refine asc_ext _ _ ha (subsL_asc l) fun c => ?_
  rw [mem_subsL]
  constructor
  · exact hs c
  · rintro ⟨K, rfl, hK⟩
    obtain ⟨a, b, c, h1, h2, h3, e⟩ := three_cyc hg hK
    rw [e]
    exact hc a b c h1 h2 h3
end Go.Proofs.Ytffbamjfpegndaa
