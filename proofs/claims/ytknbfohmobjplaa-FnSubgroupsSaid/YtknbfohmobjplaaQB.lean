/- Plain facts behind the law FnSubgroups: what is generated, all subgroups, cosets. No conditions. -/
import Derived.Test.YtknbfohmobjplaaMPl
import Derived.Test.YtknbfohmobjplaaSO
import Derived.Test.YtknbfohmobjplaaSP
namespace Go.Proofs.Ytknbfohmobjplaa
set_option linter.unusedVariables false
set_option linter.unusedSimpArgs false
set_option linter.unusedSectionVars false

theorem isSub_iff {l : List Int} (hg : isGroup l = true) (H : Nat) : isSub l (H : Int) = true ↔ IsSubN l H := by
  unfold isSub IsSubN
  rw [Bool.and_eq_true, decide_eq_true_iff, isSet_nat hg, Int.toNat_natCast]
  constructor
  · rintro ⟨h1, h2⟩; exact ⟨h1, by omega⟩
  · rintro ⟨h1, h2⟩; exact ⟨h1, by omega⟩
theorem isSub.nat {l : List Int} {h : Int} (hs : isSub l h = true) : ∃ H : Nat, h = H ∧ IsSubN l H ∧ H < 16777216 ∧ isGroup l = true := by
  have h1 := isSub.set hs
  have hg := isSet.group h1
  have hb := isSet.bd h1
  obtain ⟨H, rfl⟩ := Int.eq_ofNat_of_zero_le hb.1
  have h2 := (isSub_iff hg H).1 hs
  exact ⟨H, rfl, h2, top_24 hg h2.1, hg⟩
section
variable {l : List Int} (hg : isGroup l = true)
include hg
theorem gen_facts {A : Nat} (hA : A < topOf l) : isSub l (genN l A : Nat) = true ∧ genN l A &&& A = A ∧ one genN l (genN l A : Nat) = (genN l A : Nat) ∧ genN l A < 16777216 := by
  have h1 := genN_isSub hg (top_24 hg hA)
  refine ⟨(isSub_iff hg _).2 h1, ?_, ?_, top_24 hg h1.1⟩
  · rw [Nat.and_comm]
    exact and_sub fun z hz => genN_has hg hA hz
  · rw [one_yes ((isSet_nat hg _).2 h1.1), h1.2]
theorem cnt_sub {H : Nat} (hH : IsSubN l H) : ∃ C : Nat, cntE l (H : Int) = C ∧ 0 < C ∧ C ≤ 24 ∧ (orderOf l).tmod (C : Int) = 0 := by
  have h24 := top_24 hg hH.1
  have h1 : cntE l (H : Int) = (pc 24 H : Nat) := by
    unfold cntE
    rw [(isSet_nat hg H).2 hH.1, Int.toNat_natCast]
    rfl
  have h0 : 0 < H := by
    rcases Nat.eq_zero_or_pos H with h | h
    · have := IsSubN.zero hg hH
      rw [h] at this
      exact absurd this (inS_zero 0)
    · exact h
  refine ⟨pc 24 H, h1, pc_pos 24 H h24 h0, ?_, ?_⟩
  · rw [pc_len h24]; exact memL_len H
  · rw [orderOf_yes hg]
    exact Int.tmod_eq_zero_of_dvd (sub_divides hg hH)
theorem sub_meet {c d : Int} (hc : c ∈ subsL l) (hd : d ∈ subsL l) : bits .and .i64 c d ∈ subsL l := by
  obtain ⟨H, rfl, hH⟩ := (mem_subsL l c).1 hc
  obtain ⟨K, rfl, hK⟩ := (mem_subsL l d).1 hd
  have h1 := top_24 hg hH.1
  have h2 := top_24 hg hK.1
  rw [and64 H K (by omega) (by omega)]
  exact (mem_subsL l _).2 ⟨_, rfl, sub_and hg hH hK⟩
theorem cos_walk {H : Nat} (hH : IsSubN l H) (L : List Int) (hL : L = cosE l (H : Int)) : ∃ U : Nat → Nat, U 0 = 0 ∧ (∀ i, U i < 16777216) ∧ (∀ i (hi : i < L.length), ∃ C : Nat, L[i] = (C : Int) ∧ C < 16777216 ∧ C &&& U i = 0 ∧ icosE l (C : Int) = true ∧ U (i + 1) = U i ||| C) ∧ ((U L.length : Nat) : Int) = fullE l ∧ (L.length : Int) * cntE l (H : Int) = orderOf l := by
  have hp := isGroup.prod hg
  have e1 : L = (cosTo l H (prodL l).toNat).1 := by rw [hL, cosE_yes ((isSub_iff hg H).2 hH)]
  obtain ⟨i1, i2, i3, i4, i5⟩ := cosTo_inv hg hH (prodL l).toNat (by omega)
  rw [← e1] at i1 i2 i4 i5
  have hlt : ∀ c ∈ L, c.toNat < 16777216 := by
    intro c hc
    obtain ⟨y, _, rfl⟩ := i1 c hc
    rw [Int.toNat_natCast]
    exact shN_lt hg _ _
  refine ⟨fun i => orU Int.toNat (L.take i), by simp [orU], fun i => orU_lt fun c hc => hlt c (List.mem_of_mem_take hc), fun i hi => ?_, ?_, ?_⟩
  · have hm := List.getElem_mem hi
    obtain ⟨y, hy, he⟩ := i1 _ hm
    obtain ⟨h1, h2⟩ := coset_fix hg hH hy.1 hy.2
    refine ⟨shN l H y, he, shN_lt hg _ _, and_zero_of fun z hz1 hz2 => ?_, ?_, ?_⟩
    · obtain ⟨c, hc, hcz⟩ := (inS_orU _ _ z).1 hz2
      obtain ⟨j, hj, hjc⟩ := List.mem_iff_getElem.1 hc
      rw [List.length_take] at hj
      rw [List.getElem_take] at hjc
      have := List.pairwise_iff_getElem.1 i4 j i (by omega) hi (by omega)
      rw [hjc, he, Int.toNat_natCast] at this
      exact of_and_zero this hcz hz1
    · rw [icosE_yes ((isSet_nat hg _).2 (shN_top hg _ _)) h1, h2]
      exact decide_eq_true rfl
    · show orU Int.toNat (L.take (i + 1)) = _
      rw [← List.take_append_getElem hi, orU_snoc, he, Int.toNat_natCast]
  · show ((orU Int.toNat (L.take L.length) : Nat) : Int) = _
    rw [List.take_length]
    have e2 : orU Int.toNat L = (cosTo l H (prodL l).toNat).2 := set_ext fun z => by rw [inS_orU, i2]
    rw [e2, cos_all hg hH]
    unfold fullE
    rw [hg]
    have := topOf_bd hg
    simp
    omega
  · have h2 := cos_count hg hH
    rw [← e1] at h2
    have e3 : cntE l (H : Int) = (pc 24 H : Nat) := by
      unfold cntE
      rw [(isSet_nat hg H).2 hH.1, Int.toNat_natCast]
      rfl
    rw [orderOf_yes hg, ← h2, e3]
theorem hull_law {A : Nat} (hA : A < topOf l) (h0 : A ≠ 0) : icosE l (hullN l A : Nat) = true ∧ hullN l A &&& A = A ∧ hullN l A < 16777216 := by
  obtain ⟨H, y, hH, hy, he⟩ := hull_coset hg hA h0
  obtain ⟨h1, h2⟩ := coset_fix hg hH hy.1 hy.2
  rw [← he] at h1 h2
  have ht : hullN l A < topOf l := by rw [he]; exact shN_top hg _ _
  refine ⟨?_, hull_has hg hA h0, top_24 hg ht⟩
  rw [icosE_yes ((isSet_nat hg _).2 ht) h1, h2]
  exact decide_eq_true rfl
end
end Go.Proofs.Ytknbfohmobjplaa
