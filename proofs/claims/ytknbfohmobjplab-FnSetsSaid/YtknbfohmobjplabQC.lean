/- Plain facts behind the law FnGroups: sums of elements, orders, texts read back. No conditions. -/
import Derived.Test.YtknbfohmobjplabC3
import Derived.Test.YtknbfohmobjplabMPl
namespace Go.Proofs.Ytknbfohmobjplab
set_option linter.unusedVariables false
set_option linter.unusedSimpArgs false
set_option linter.unusedSectionVars false

theorem addE_yes {l : List Int} {x y : Int} (hx : isEl l x = true) (hy : isEl l y = true) : addE l x y = gadd l x y := by unfold addE; rw [hx, hy]; rfl
theorem addE_comm (l : List Int) (x y : Int) : addE l x y = addE l y x := by
  unfold addE
  rw [Bool.and_comm, gadd_comm]
theorem addE_inv {l : List Int} {x y : Int} (h : ¬ addE l x y = -1) : isEl l x = true ∧ isEl l y = true := by
  unfold addE at h
  cases hx : isEl l x
  · rw [hx] at h; exact absurd rfl h
  · cases hy : isEl l y
    · rw [hx, hy] at h; exact absurd rfl h
    · exact ⟨rfl, rfl⟩
theorem el_of {l : List Int} (hg : isGroup l = true) {x : Int} (h : 0 ≤ x ∧ x < prodL l) : isEl l x = true := by rw [isEl_iff, orderOf_yes hg]; exact h
theorem expo_mem {l : List Int} : ∀ (a : Nat), (a ∣ l.foldl (fun a o => Nat.lcm a o.toNat) a) ∧ ∀ o ∈ l, o.toNat ∣ l.foldl (fun a o => Nat.lcm a o.toNat) a := by
  induction l with
  | nil => intro a; exact ⟨Nat.dvd_refl _, fun o h => by cases h⟩
  | cons o r ih =>
    intro a
    obtain ⟨h1, h2⟩ := ih (Nat.lcm a o.toNat)
    refine ⟨Nat.dvd_trans (Nat.dvd_lcm_left _ _) h1, fun p hp => ?_⟩
    rcases List.mem_cons.1 hp with rfl | hp
    · exact Nat.dvd_trans (Nat.dvd_lcm_right _ _) h1
    · exact h2 p hp
section
variable {l : List Int} (hg : isGroup l = true)
include hg
theorem expo_all (x : Int) : gmul l (expoN l) x = 0 := by
  refine gmul_all l _ x fun o ho => ?_
  have h2 := (isGroup.big hg) o ho
  have h := (expo_mem (l := l) 1).2 o ho
  have h3 := Int.natCast_dvd_natCast.2 h
  rw [show ((o.toNat : Nat) : Int) = o by omega] at h3
  exact h3
theorem ordGo_facts (x : Int) : ∀ (f : Nat) (n : Int), 1 ≤ n → (∀ j, 1 ≤ j → j < n → gmul l j x ≠ 0) → (∃ k, n ≤ k ∧ k < n + f ∧ gmul l k x = 0) → n ≤ ordGo l x f n ∧ ordGo l x f n < n + f ∧ gmul l (ordGo l x f n) x = 0 ∧ ∀ j, 1 ≤ j → j < ordGo l x f n → gmul l j x ≠ 0 := by
  intro f
  induction f with
  | zero => rintro n _ _ ⟨k, h1, h2, _⟩; omega
  | succ f ih =>
    rintro n hn hlow ⟨k, h1, h2, h3⟩
    rw [ordGo]
    by_cases h0 : gmul l n x = 0
    · rw [if_pos h0]
      exact ⟨by omega, by omega, h0, hlow⟩
    · rw [if_neg h0]
      have hk : k ≠ n := fun e => h0 (e ▸ h3)
      obtain ⟨a, b, c, d⟩ := ih (n + 1) (by omega) (fun j j1 j2 => by
        by_cases e : j = n
        · rw [e]; exact h0
        · exact hlow j j1 (by omega)) ⟨k, by omega, by omega, h3⟩
      exact ⟨by omega, by omega, c, d⟩
theorem gmul_times (x : Int) {r : Int} (h : gmul l r x = 0) (q : Nat) : gmul l ((q : Int) * r) x = 0 := by
  have hp := isGroup.prod hg
  induction q with
  | zero => rw [show ((0 : Nat) : Int) * r = 0 by omega, gmul_zero]
  | succ q ih =>
    rw [Int.natCast_succ, Int.add_mul, Int.one_mul, ← gmul_add l _ _ x (isGroup.big hg), ih, h, gadd_zero l 0 (isGroup.big hg) (by omega) (by omega)]
theorem ord_facts {x : Int} (hx : isEl l x = true) : 1 ≤ ordE l x ∧ ordE l x ≤ 24 ∧ mulE l x (ordE l x) = 0 ∧ (exE l).tmod (ordE l x) = 0 ∧ (orderOf l).tmod (ordE l x) = 0 := by
  have hb := isGroup.big hg
  have hp := isGroup.prod hg
  have e : ordE l x = ordGo l x 24 1 := by unfold ordE; rw [hx]; rfl
  obtain ⟨a, b, c, d⟩ := ordGo_facts hg x 24 1 (by omega) (fun j j1 j2 => by omega) ⟨prodL l, by omega, by omega, gmul_prod l x⟩
  rw [← e] at a b c d
  have hdiv : ∀ m : Int, 0 ≤ m → gmul l m x = 0 → m.tmod (ordE l x) = 0 := by
    intro m h0 hm
    rw [Int.tmod_eq_emod_of_nonneg h0]
    have s0 := Int.emod_nonneg m (show ordE l x ≠ 0 by omega)
    have s1 := Int.emod_lt_of_pos m (show 0 < ordE l x by omega)
    have hq := Int.ediv_nonneg h0 (show 0 ≤ ordE l x by omega)
    have h1 := gmul_times hg x c (m / ordE l x).toNat
    rw [show (((m / ordE l x).toNat : Nat) : Int) = m / ordE l x by omega] at h1
    have h2 := gmul_add l (m / ordE l x * ordE l x) (m % ordE l x) x hb
    have hmb := gmul_bd l (m % ordE l x) x hb
    rw [h1, gadd_comm, gadd_zero l _ hb hmb.1 hmb.2, show m / ordE l x * ordE l x + m % ordE l x = m by rw [Int.mul_comm]; exact Int.mul_ediv_add_emod m _, hm] at h2
    rcases Int.lt_or_le (m % ordE l x) 1 with h3 | h3
    · omega
    · exact absurd h2 (d _ h3 s1)
  refine ⟨by omega, by omega, ?_, ?_, ?_⟩
  · unfold mulE
    rw [hx, decide_eq_true (by omega), Bool.and_self, if_pos rfl]
    exact c
  · rw [exE_yes hg]
    exact hdiv _ (by omega) (expo_all hg x)
  · rw [orderOf_yes hg]
    exact hdiv _ (by omega) (gmul_prod l x)
end
/-- what the law asks of two elements -/
theorem add_laws {l : List Int} {x y w : Int} (hx : isEl l x = true) (hy : isEl l y = true) (hw : isEl l w = true) :
    (0 ≤ gadd l x y ∧ gadd l x y < 24) ∧ isEl l (gadd l x y) = true ∧ (0 ≤ gneg l y ∧ gneg l y < 24) ∧ negE l y = gneg l y ∧ addE l (gadd l x y) (gneg l y) = x ∧ addE l x 0 = x ∧ (0 ≤ addE l y w ∧ addE l y w < 24) ∧ addE l (gadd l x y) w = addE l x (addE l y w) := by
  have hg := isEl.group hx
  have hb := isGroup.big hg
  have hp := isGroup.prod hg
  have bx := isEl.bd hx
  have hz := gadd_bd l x y hb
  have hn := gneg_bd l y hb
  have hyw := gadd_bd l y w hb
  have ez := el_of hg hz
  have en := el_of hg hn
  have e0 : isEl l 0 = true := el_of hg (by omega)
  refine ⟨by omega, ez, by omega, by unfold negE; rw [hy]; rfl, ?_, ?_, ?_, ?_⟩
  · rw [addE_yes ez en, gadd_assoc l x y _ hb, gadd_neg l y hb, gadd_zero l x hb bx.1 bx.2]
  · rw [addE_yes hx e0, gadd_zero l x hb bx.1 bx.2]
  · rw [addE_yes hy hw]; omega
  · rw [addE_yes ez hw, addE_yes hy hw, addE_yes hx (el_of hg hyw), gadd_assoc l x y w hb]
theorem places_back {l : List Int} {x : Int} (hx : isEl l x = true) : isGroup l = true ∧ okPlaces l (places l x) = true ∧ elemOf l (places l x) = x := by
  have hg := isEl.group hx
  have bx := isEl.bd hx
  exact ⟨hg, okPlaces_places l x (isGroup.big hg), elemOf_places l x (isGroup.big hg) bx.1 bx.2⟩
theorem one_group : isGroup [] = true := by decide
theorem fmts_back : ∀ (l : List Int), (∀ x ∈ l, 0 ≤ x ∧ x ≤ 24) → (fmts l).map (fun u => (parseR u).1) = l := by
  intro l
  induction l with
  | nil => intro _; rfl
  | cons x r ih =>
    intro h
    have h1 := (small_fmt (h x (by simp))).2.2.2
    show (parseR (fmtI x)).1 :: (fmts r).map (fun u => (parseR u).1) = x :: r
    rw [ih fun y hy => h y (by simp [hy]), h1]
/-- a group's text tells the group -/
theorem pgE_fgE (l : List Int) : pgE (fgE l) = if isGroup l then (l, true) else ([], false) := by
  cases hg : isGroup l with
  | false => rw [fgE_no hg]; exact pgE_nil
  | true =>
    rw [if_pos rfl]
    by_cases hl : l = []
    · subst hl; rfl
    · have hi := (isGroup_iff l).1 hg
      have hx : ∀ x ∈ l, 0 ≤ x ∧ x ≤ 24 := fun x hm => by have := hi.2.1 x hm; omega
      have hp : 0 < l.length := List.length_pos_iff.2 hl
      have e1 := fgE_yes hg hp
      have e2 := cutP_joinI (b := 120) (.inl rfl) hl hx
      have h49 : fgE l ≠ [49] := by
        intro h
        rw [e1] at h
        rw [h] at e2
        have e3 : cutP 120 [49] = [[49]] := rfl
        rw [e3] at e2
        have e4 := fmts_back l hx
        rw [← e2] at e4
        have e5 : ([[49]] : List (List Int)).map (fun u => (parseR u).1) = [1] := rfl
        rw [e5] at e4
        have := hi.2.1 1 (by rw [← e4]; simp)
        omega
      have e3 : pgL (fgE l) = l := by
        unfold pgL
        rw [if_neg h49, e1]
        unfold pgO
        rw [e2]
        exact fmts_back l hx
      rw [pgE_yes (by rw [e1]; exact joinI_ne hp) (by rw [e3]), e3]
end Go.Proofs.Ytknbfohmobjplab
