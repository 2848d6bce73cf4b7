
/- What the reference's insertion into an ascending list does. Conditions: at most 2^30 numbers. -/
import Derived.Test.YtffbamjfpegndaaST
namespace Go.Proofs.Ytffbamjfpegndaa
set_option linter.unusedVariables false
set_option linter.unusedSimpArgs false
open Go.RowKit

theorem one_cell {w : World} {g : Nat} {n : Int} (h : w.cell? ⟨g, 0, none⟩ = some (.int .i64 n)) : ∀ j u, [n][j]? = some u → w.cell? ((⟨g, 0, none⟩ : Addr).add j) = some (.int .i64 u) := by
  intro j u hj
  cases j with
  | zero =>
    simp at hj
    rw [← hj]
    exact h
  | succ j => simp at hj
theorem put_asc {l : List Int} {n : Int} {k : Nat} (hs : l.Pairwise (· < ·)) (hk : k ≤ l.length) (hlow : ∀ j (hj : j < l.length), j < k → l[j] < n) (hhigh : ∀ j (hj : j < l.length), k ≤ j → n < l[j]) :
    ((l.take k ++ [n]) ++ l.drop k).Pairwise (· < ·) ∧ ∀ c, c ∈ (l.take k ++ [n]) ++ l.drop k ↔ c ∈ l ∨ c = n := by
  have h1 : ∀ x ∈ l.take k, x < n := fun x hx => by
    obtain ⟨j, hj, rfl⟩ := List.mem_iff_getElem.1 hx
    rw [List.length_take] at hj
    rw [List.getElem_take]
    exact hlow j (by omega) (by omega)
  have h2 : ∀ x ∈ l.drop k, n < x := fun x hx => by
    obtain ⟨j, hj, rfl⟩ := List.mem_iff_getElem.1 hx
    rw [List.length_drop] at hj
    rw [List.getElem_drop]
    exact hhigh _ (by omega) (by omega)
  constructor
  · rw [List.pairwise_append, List.pairwise_append]
    refine ⟨⟨hs.sublist (List.take_sublist _ _), List.pairwise_singleton _ _, fun a ha b hb => ?_⟩, hs.sublist (List.drop_sublist _ _), fun a ha b hb => ?_⟩
    · rw [List.mem_singleton] at hb; rw [hb]; exact h1 a ha
    · have hb2 := h2 b hb
      rcases List.mem_append.1 ha with h | h
      · have := h1 a h; omega
      · rw [List.mem_singleton] at h; omega
  · intro c
    have e : l.take k ++ l.drop k = l := List.take_append_drop k l
    constructor
    · intro h
      rcases List.mem_append.1 h with h | h
      · rcases List.mem_append.1 h with h | h
        · exact .inl (List.mem_of_mem_take h)
        · exact .inr (List.mem_singleton.1 h)
      · exact .inl (List.mem_of_mem_drop h)
    · rintro (h | h)
      · rw [← e] at h
        rcases List.mem_append.1 h with h | h
        · exact List.mem_append.2 (.inl (List.mem_append.2 (.inl h)))
        · exact List.mem_append.2 (.inr h)
      · rw [h]; simp
/-- what the insertion leaves behind -/
def PutPost (b off cap : Nat) (w : World) (l : List Int) (n : Int) (e : Ending) (w' : World) : Prop :=
  ∃ b' off' cap' r, e = .returned (.slice (some ⟨b', off', none⟩) r.length cap') ∧ (Own w' w.heap.size 3 .i64 (.slice (some ⟨b', off', none⟩) r.length cap') r ∨ (b' = b ∧ off' = off ∧ cap' = cap ∧ r = l ∧ w' = w)) ∧ r.Pairwise (· < ·) ∧ (∀ c, c ∈ r ↔ c ∈ l ∨ c = n) ∧ Below w.heap.size w w'
set_option maxRecDepth 100000 in
set_option maxHeartbeats 3200000 in
theorem sl5Put_any (b off cap : Nat) (l : List Int) (n : Int) (w : World) (hr : Rd w w.heap.size .i64 (.slice (some ⟨b, off, none⟩) l.length cap) l) (hl : l.length ≤ 1073741824) (hs : l.Pairwise (· < ·)) :
    Calls Try.prog 87 #[.slice (some ⟨b, off, none⟩) l.length cap, .int .i64 n] w (PutPost b off cap w l n) := by
  have hr0 := hid hr
  have hcl := hid (fun (h : 0 < l.length) => hr.cells h)
  obtain ⟨_, _, hv, hcap, hmx, _⟩ := hr
  injection hv with h1 h2 h3
  subst h3
  clear h1 h2
  have hput := hid fun k h1 h2 h3 => @put_asc l n k hs h1 h2 h3
  obtain ⟨N, hN⟩ : ∃ N, N = l.length := ⟨_, rfl⟩
  rw [← hN] at hl hcap ⊢
  rw [← hN] at hr0
  replace hN := hid hN
  have hlt : ∀ i j (hi : i < l.length) (hj : j < l.length), i < j → l[i] < l[j] := fun i j hi hj h => List.pairwise_iff_getElem.1 hs i j hi hj h
  replace hlt := hid hlt
  replace hs := hid hs
  replace hmx := hid hmx
  go_enter Try.func87, Try.ntmps87
  go_wp2
  go_loopw [5] (fun i wr => ∃ k : Nat, k ≤ N ∧ i = .int .i64 k ∧ Hid (∀ j (hj : j < l.length), k ≤ j → n < l[j]) ∧ wr = w) (fun i _ => (intOf i).toNat)
  case atStart => exact ⟨N, by omega, rfl, (fun j hj h => by have := hN.out; omega), rfl⟩
  case round =>
    obtain ⟨k, hk, rfl, hhigh, rfl⟩ := hrel
    have final : (∀ j (hj : j < l.length), j < k → l[j] < n) → ∀ (K : Act → World → Prop) (Q : Exit → Act → World → Prop), True := fun _ _ _ => trivial
    clear final
    by_cases h0 : k = 0
    · subst h0
      have hP := hput.out 0 (by omega) (fun j _ h => by omega) (fun j hj h => hhigh.out j hj h)
      obtain ⟨R, hR⟩ : ∃ R, R = (l.take 0 ++ [n]) ++ l.drop 0 := ⟨_, rfl⟩
      rw [← hR] at hP
      replace hP := hid hP
      replace hR := hid hR
      go_wp2_with fail
      have hcells : ∀ w' : World, Below wr.heap.size wr w' → ∀ i (hi : i < l.length), w'.cell? ⟨b, off + i, none⟩ = some (.int .i64 l[i]) := fun w' hb' i hi => by
        obtain ⟨b1, off1, hba, hB, hcell⟩ := hcl.out (by omega)
        injection hba with hba
        injection hba with hb1 hb2 hb3
        subst hb1
        subst hb2
        exact (hb'.cell (p := ⟨b, off + i, none⟩) hB).trans (hcell i hi)
      refine wp_region_held_drew (S := fun w' => Below wr.heap.size wr w') (by kernel_rfl) ((Below.refl _ _).drew) (fun hH0 => ?_)
      refine wpAnyH_take (i := 1) (v := ?_) rfl (by kernel_rfl) (by kernel_rfl) (by kernel_rfl) (fun _ _ _ h => h) (Or.inl ⟨by first | kernel_rfl | rfl, ?_⟩) (by assumption) ?_
      rotate_left
      · (intro w hSw; (try dsimp only at hSw); go_simp; try with_reducible rfl)
      simp only [List.getElem_toArray, List.getElem_cons_zero, List.getElem_cons_succ, Act.put, List.setIfInBounds_toArray, List.set_cons_zero, List.set_cons_succ]
      refine wpAnyH_take (i := 2) (v := ?_) rfl (by kernel_rfl) (by kernel_rfl) (by kernel_rfl) (fun _ _ _ h => h) (Or.inl ⟨by first | kernel_rfl | rfl, ?_⟩) (by assumption) ?_
      rotate_left
      · (intro w hSw; (try dsimp only at hSw); go_simp; try with_reducible rfl)
      simp only [List.getElem_toArray, List.getElem_cons_zero, List.getElem_cons_succ, Act.put, List.setIfInBounds_toArray, List.set_cons_zero, List.set_cons_succ]
      refine wpAnyH_take (i := 3) (v := .slice (some ⟨b, off, none⟩) 0 cap) rfl (by kernel_rfl) (by kernel_rfl) (by kernel_rfl) (fun _ _ _ h => h) (Or.inl ⟨by rfl, ?_⟩) (by assumption) ?_
      · intro w hSw
        go_simp
        (try rw [if_pos (by omega)])
        (try rfl)
        (try (intro h; exact absurd (h (by omega)) (by omega)))
      simp only [List.getElem_toArray, List.getElem_cons_zero, List.getElem_cons_succ, Act.put, List.setIfInBounds_toArray, List.set_cons_zero, List.set_cons_succ]
      refine wpAnyH_take (i := 5) (v := ?_) rfl (by kernel_rfl) (by kernel_rfl) (by kernel_rfl) (fun _ _ _ h => h) (Or.inl ⟨by first | kernel_rfl | rfl, ?_⟩) (by assumption) ?_
      rotate_left
      · (intro w hSw; (try dsimp only at hSw); go_simp; try with_reducible rfl)
      simp only [List.getElem_toArray, List.getElem_cons_zero, List.getElem_cons_succ, Act.put, List.setIfInBounds_toArray, List.set_cons_zero, List.set_cons_succ]
      refine wpAnyH_take (i := 8) (v := ?_) rfl (by kernel_rfl) (by kernel_rfl) (by kernel_rfl) (fun _ _ _ h => h) (Or.inl ⟨by first | kernel_rfl | rfl, ?_⟩) (by assumption) ?_
      rotate_left
      · (intro w hSw; (try dsimp only at hSw); go_simp; try with_reducible rfl)
      simp only [List.getElem_toArray, List.getElem_cons_zero, List.getElem_cons_succ, Act.put, List.setIfInBounds_toArray, List.set_cons_zero, List.set_cons_succ]
      refine wpAnyH_take (i := 9) (v := ?_) rfl (by kernel_rfl) (by kernel_rfl) (by kernel_rfl) (fun _ _ _ h => h) (Or.inl ⟨by first | kernel_rfl | rfl, ?_⟩) (by assumption) ?_
      rotate_left
      · (intro w hSw; (try dsimp only at hSw); go_simp; try with_reducible rfl)
      simp only [List.getElem_toArray, List.getElem_cons_zero, List.getElem_cons_succ, Act.put, List.setIfInBounds_toArray, List.set_cons_zero, List.set_cons_succ]
      have hKN : 0 ≤ l.length := by omega
      have hadd : ∀ j, (⟨b, off, none⟩ : Addr).add j = ⟨b, off + j, none⟩ := fun j => by unfold Addr.add; split <;> simp_all
      have hAO : ∃ AD : Addr, AD = ⟨b, off, none⟩ := ⟨_, rfl⟩
      refine wpAnyH_take (i := 10) (v := .slice (some ⟨b, off, none⟩) N cap) rfl (by kernel_rfl) (by kernel_rfl) (by kernel_rfl) (fun _ _ _ h => h) (Or.inl ⟨by rfl, ?_⟩) (by assumption) ?_
      · intro w hSw
        go_simp
        (try rw [if_pos (by omega)])
        (try rfl)
        (try (intro h; exact absurd (h (by omega)) (by omega)))
      simp only [List.getElem_toArray, List.getElem_cons_zero, List.getElem_cons_succ, Act.put, List.setIfInBounds_toArray, List.set_cons_zero, List.set_cons_succ]
      have hdr : ∀ w' : World, Below wr.heap.size wr w' → ∀ j u, (l.drop 0)[j]? = some u → w'.cell? ((⟨b, off, none⟩ : Addr).add j) = some (.int .i64 u) := fun w' hb' j u hj => by
        rw [List.drop_zero] at hj
        obtain ⟨hj1, hj2⟩ := List.getElem?_eq_some_iff.1 hj
        rw [← hj2]
        rw [hadd]
        exact hcells w' hb' j hj1
      have htk : ∀ w' : World, Below wr.heap.size wr w' → ∀ j u, (l.take 0)[j]? = some u → w'.cell? ((⟨b, off, none⟩ : Addr).add j) = some (.int .i64 u) := fun w' hb' j u hj => by
        obtain ⟨hj1, hj2⟩ := List.getElem?_eq_some_iff.1 hj
        rw [List.length_take] at hj1
        rw [← hj2, List.getElem_take, hadd]
        exact hcells w' hb' j (by omega)
      have hlt1 : (l.take 0).length = 0 := by rw [List.length_take]; omega
      have hlt2 : (l.drop 0).length = N - 0 := by rw [List.length_drop, ← hN.out]
      obtain ⟨w0, hw0⟩ : ∃ w0, w0 = wr.drew := ⟨_, rfl⟩
      rw [← hw0] at hH0 ⊢
      clear hw0
      clear hcl
      refine wpAnyH_ready (rs := [0, 6]) (by kernel_rfl) (by simp) ?_
      refine AllReadyH.cons rfl (fun K1 hK1 => ?_) (AllReadyH.cons rfl (fun K1 hK1 => ?_) AllReadyH.nil)
      · skip
        go_simp
        have sA := (hH0).trans ((below_alloc w0 (.cells #[] 3)).mono (hH0).size)
        refine hK1.out _ _ sA (fun _ => ?_)
        have ownA : Own (w0.alloc (.cells #[] 3)) wr.heap.size 3 .i64 (.slice (some ⟨w0.heap.size, 0, none⟩) 0 0) [] := Own.empty _ _ _ _ (hH0).size
        obtain ⟨wA, hwA⟩ : ∃ wA, wA = w0.alloc (.cells #[] 3) := ⟨_, rfl⟩
        have gA : w0.heap.size < wA.heap.size := by rw [hwA]; simp
        rw [← hwA] at sA ownA
        rw [← hwA]
        clear hwA
        (try simp only [List.getElem_toArray, List.getElem_cons_zero, List.getElem_cons_succ, Act.put, List.setIfInBounds_toArray, List.set_cons_zero, List.set_cons_succ])
        refine wpAnyH_ready (rs := [4, 6]) (by kernel_rfl) (by simp) ?_
        refine AllReadyH.cons rfl (fun K2 hK2 => ?_) (AllReadyH.cons rfl (fun K2 hK2 => ?_) AllReadyH.nil)
        · skip
          refine appN_step (v := (Value.slice (some ⟨w0.heap.size, 0, none⟩) 0 0)) rfl _ _ rfl Try.underlying22 info_int (by decide) rfl ownA (l.take 0) ⟨b, off, none⟩ cap (by rw [hlt1]; rfl) (htk _ sA) (by simp only [List.length_append, List.length_nil, List.length_cons, hlt1, hlt2]; omega) (sA).size ?_
          intro vC wC ownC hbC hgC
          have sC := (sA).trans hbC
          refine hK2.out _ _ sC (fun _ => ?_)
          (try simp only [List.getElem_toArray, List.getElem_cons_zero, List.getElem_cons_succ, Act.put, List.setIfInBounds_toArray, List.set_cons_zero, List.set_cons_succ])
          refine wpAnyH_ready (rs := [6]) (by kernel_rfl) (by simp) ?_
          refine AllReadyH.cons rfl (fun K3 hK3 => ?_) AllReadyH.nil
          go_simp
          have sB := (sC).trans ((below_alloc wC (.cells #[.int .i64 n] 3)).mono (sC).size)
          refine hK3.out _ _ sB (fun _ => ?_)
          have cB : (wC.alloc (.cells #[.int .i64 n] 3)).cell? ⟨wC.heap.size, 0, none⟩ = some (.int .i64 n) := cell_one_new _ _ _ 0 _ rfl
          have ownB := ownC.alloc (.cells #[.int .i64 n] 3)
          obtain ⟨gB, hgB⟩ : ∃ gB, gB = wC.heap.size := ⟨_, rfl⟩
          obtain ⟨wB, hwB⟩ : ∃ wB, wB = wC.alloc (.cells #[.int .i64 n] 3) := ⟨_, rfl⟩
          have gB1 : gB < wB.heap.size := by rw [hwB, hgB]; simp
          rw [← hwB] at sB cB ownB
          rw [← hgB] at cB
          rw [← hwB, ← hgB]
          have nB : vC.ownBlock = none ∨ vC.ownBlock ≠ some gB := by
            cases hob : vC.ownBlock with
            | none => exact .inl rfl
            | some q => exact .inr (by have := World.ownsRow.lt ownC q hob; intro hc; injection hc with hc; omega)
          clear hwB hgB
          (try simp only [List.getElem_toArray, List.getElem_cons_zero, List.getElem_cons_succ, Act.put, List.setIfInBounds_toArray, List.set_cons_zero, List.set_cons_succ])
          refine wpAnyH_ready (rs := [7]) (by kernel_rfl) (by simp) ?_
          refine AllReadyH.cons rfl (fun K4 hK4 => ?_) AllReadyH.nil
          refine appN_step (v := vC) rfl _ _ rfl Try.underlying22 info_int (by decide) rfl ownB [n] ⟨gB, 0, none⟩ 1 (by rw [show [n].length = 1 from rfl]; rfl) (one_cell cB) (by simp only [List.length_append, List.length_nil, List.length_cons, hlt1, hlt2]; omega) (sB).size ?_
          intro vD wD ownD hbD hgD
          have sD := (sB).trans hbD
          refine hK4.out _ _ sD (fun _ => ?_)
          (try simp only [List.getElem_toArray, List.getElem_cons_zero, List.getElem_cons_succ, Act.put, List.setIfInBounds_toArray, List.set_cons_zero, List.set_cons_succ])
          refine wpAnyH_ready (rs := [11]) (by kernel_rfl) (by simp) ?_
          refine AllReadyH.cons rfl (fun K5 hK5 => ?_) AllReadyH.nil
          refine appN_step (v := vD) rfl _ _ rfl Try.underlying22 info_int (by decide) rfl ownD (l.drop 0) ⟨b, off, none⟩ cap (by rw [hlt2]; rfl) (hdr _ sD) (by simp only [List.length_append, List.length_nil, List.length_cons, hlt1, hlt2]; omega) (sD).size ?_
          intro vE wE ownE hbE hgE
          have sE := (sD).trans hbE
          refine hK5.out _ _ sE (fun _ => ?_)
          (try simp only [List.getElem_toArray, List.getElem_cons_zero, List.getElem_cons_succ, Act.put, List.setIfInBounds_toArray, List.set_cons_zero, List.set_cons_succ])
          have hRR : ([] ++ l.take 0 ++ [n] ++ l.drop 0) = R := by rw [hR.out, List.nil_append]
          rw [hRR] at ownE
          obtain ⟨gz, cz, hvz, _, _, _, _⟩ := ownE.form (by rw [← hRR]; first | (simp; done) | (simp; omega))
          rw [hvz] at ownE ⊢
          refine wpAnyH_take (i := 12) (v := ?_) rfl (by kernel_rfl) (by kernel_rfl) (by kernel_rfl) (fun _ _ _ h => h) (Or.inl ⟨by rfl, ?_⟩) (by assumption) ?_
          rotate_left
          · (intro w hSw; (try dsimp only at hSw); go_simp; try with_reducible rfl)
          simp only [List.getElem_toArray, List.getElem_cons_zero, List.getElem_cons_succ, Act.put, List.setIfInBounds_toArray, List.set_cons_zero, List.set_cons_succ]
          refine wpAnyH_done (by kernel_rfl) ?_ _
          go_wp2
          go_ret
          exact ⟨gz, 0, cz, R, rfl, .inl ownE, hP.out.1, hP.out.2, sE⟩
        · skip
          go_simp
          have sB := (sA).trans ((below_alloc wA (.cells #[.int .i64 n] 3)).mono (sA).size)
          refine hK2.out _ _ sB (fun _ => ?_)
          have cB : (wA.alloc (.cells #[.int .i64 n] 3)).cell? ⟨wA.heap.size, 0, none⟩ = some (.int .i64 n) := cell_one_new _ _ _ 0 _ rfl
          have ownB := ownA.alloc (.cells #[.int .i64 n] 3)
          obtain ⟨gB, hgB⟩ : ∃ gB, gB = wA.heap.size := ⟨_, rfl⟩
          obtain ⟨wB, hwB⟩ : ∃ wB, wB = wA.alloc (.cells #[.int .i64 n] 3) := ⟨_, rfl⟩
          have gB1 : gB < wB.heap.size := by rw [hwB, hgB]; simp
          rw [← hwB] at sB cB ownB
          rw [← hgB] at cB
          rw [← hwB, ← hgB]
          have nB : (Value.slice (some ⟨w0.heap.size, 0, none⟩) 0 0).ownBlock = none ∨ (Value.slice (some ⟨w0.heap.size, 0, none⟩) 0 0).ownBlock ≠ some gB := by
            cases hob : (Value.slice (some ⟨w0.heap.size, 0, none⟩) 0 0).ownBlock with
            | none => exact .inl rfl
            | some q => exact .inr (by have := World.ownsRow.lt ownA q hob; intro hc; injection hc with hc; omega)
          clear hwB hgB
          (try simp only [List.getElem_toArray, List.getElem_cons_zero, List.getElem_cons_succ, Act.put, List.setIfInBounds_toArray, List.set_cons_zero, List.set_cons_succ])
          refine wpAnyH_ready (rs := [4]) (by kernel_rfl) (by simp) ?_
          refine AllReadyH.cons rfl (fun K3 hK3 => ?_) AllReadyH.nil
          refine appN_step (v := (Value.slice (some ⟨w0.heap.size, 0, none⟩) 0 0)) rfl _ _ rfl Try.underlying22 info_int (by decide) rfl ownB (l.take 0) ⟨b, off, none⟩ cap (by rw [hlt1]; rfl) (htk _ sB) (by simp only [List.length_append, List.length_nil, List.length_cons, hlt1, hlt2]; omega) (sB).size ?_
          intro vC wC ownC hbC hgC
          have sC := (sB).trans hbC
          have cC := hgC.cell cB (nB.elim (fun h => by rw [h]; simp) (fun h hc => h hc.symm))
          refine hK3.out _ _ sC (fun _ => ?_)
          (try simp only [List.getElem_toArray, List.getElem_cons_zero, List.getElem_cons_succ, Act.put, List.setIfInBounds_toArray, List.set_cons_zero, List.set_cons_succ])
          refine wpAnyH_ready (rs := [7]) (by kernel_rfl) (by simp) ?_
          refine AllReadyH.cons rfl (fun K4 hK4 => ?_) AllReadyH.nil
          refine appN_step (v := vC) rfl _ _ rfl Try.underlying22 info_int (by decide) rfl ownC [n] ⟨gB, 0, none⟩ 1 (by rw [show [n].length = 1 from rfl]; rfl) (one_cell cC) (by simp only [List.length_append, List.length_nil, List.length_cons, hlt1, hlt2]; omega) (sC).size ?_
          intro vD wD ownD hbD hgD
          have sD := (sC).trans hbD
          refine hK4.out _ _ sD (fun _ => ?_)
          (try simp only [List.getElem_toArray, List.getElem_cons_zero, List.getElem_cons_succ, Act.put, List.setIfInBounds_toArray, List.set_cons_zero, List.set_cons_succ])
          refine wpAnyH_ready (rs := [11]) (by kernel_rfl) (by simp) ?_
          refine AllReadyH.cons rfl (fun K5 hK5 => ?_) AllReadyH.nil
          refine appN_step (v := vD) rfl _ _ rfl Try.underlying22 info_int (by decide) rfl ownD (l.drop 0) ⟨b, off, none⟩ cap (by rw [hlt2]; rfl) (hdr _ sD) (by simp only [List.length_append, List.length_nil, List.length_cons, hlt1, hlt2]; omega) (sD).size ?_
          intro vE wE ownE hbE hgE
          have sE := (sD).trans hbE
          refine hK5.out _ _ sE (fun _ => ?_)
          (try simp only [List.getElem_toArray, List.getElem_cons_zero, List.getElem_cons_succ, Act.put, List.setIfInBounds_toArray, List.set_cons_zero, List.set_cons_succ])
          have hRR : ([] ++ l.take 0 ++ [n] ++ l.drop 0) = R := by rw [hR.out, List.nil_append]
          rw [hRR] at ownE
          obtain ⟨gz, cz, hvz, _, _, _, _⟩ := ownE.form (by rw [← hRR]; first | (simp; done) | (simp; omega))
          rw [hvz] at ownE ⊢
          refine wpAnyH_take (i := 12) (v := ?_) rfl (by kernel_rfl) (by kernel_rfl) (by kernel_rfl) (fun _ _ _ h => h) (Or.inl ⟨by rfl, ?_⟩) (by assumption) ?_
          rotate_left
          · (intro w hSw; (try dsimp only at hSw); go_simp; try with_reducible rfl)
          simp only [List.getElem_toArray, List.getElem_cons_zero, List.getElem_cons_succ, Act.put, List.setIfInBounds_toArray, List.set_cons_zero, List.set_cons_succ]
          refine wpAnyH_done (by kernel_rfl) ?_ _
          go_wp2
          go_ret
          exact ⟨gz, 0, cz, R, rfl, .inl ownE, hP.out.1, hP.out.2, sE⟩
      · skip
        go_simp
        have sB := (hH0).trans ((below_alloc w0 (.cells #[.int .i64 n] 3)).mono (hH0).size)
        refine hK1.out _ _ sB (fun _ => ?_)
        have cB : (w0.alloc (.cells #[.int .i64 n] 3)).cell? ⟨w0.heap.size, 0, none⟩ = some (.int .i64 n) := cell_one_new _ _ _ 0 _ rfl
        obtain ⟨gB, hgB⟩ : ∃ gB, gB = w0.heap.size := ⟨_, rfl⟩
        obtain ⟨wB, hwB⟩ : ∃ wB, wB = w0.alloc (.cells #[.int .i64 n] 3) := ⟨_, rfl⟩
        have gB1 : gB < wB.heap.size := by rw [hwB, hgB]; simp
        rw [← hwB] at sB cB
        rw [← hgB] at cB
        rw [← hwB, ← hgB]
        clear hwB hgB
        (try simp only [List.getElem_toArray, List.getElem_cons_zero, List.getElem_cons_succ, Act.put, List.setIfInBounds_toArray, List.set_cons_zero, List.set_cons_succ])
        have nB : ∀ q, gB < q → (Value.slice (some ⟨q, 0, none⟩) 0 0).ownBlock = none ∨ (Value.slice (some ⟨q, 0, none⟩) 0 0).ownBlock ≠ some gB := fun q hq => .inr (fun hc => by have h : q = gB := Option.some.inj hc; omega)
        refine wpAnyH_ready (rs := [0]) (by kernel_rfl) (by simp) ?_
        refine AllReadyH.cons rfl (fun K2 hK2 => ?_) AllReadyH.nil
        go_simp
        have sA := (sB).trans ((below_alloc wB (.cells #[] 3)).mono (sB).size)
        refine hK2.out _ _ sA (fun _ => ?_)
        have ownA : Own (wB.alloc (.cells #[] 3)) wr.heap.size 3 .i64 (.slice (some ⟨wB.heap.size, 0, none⟩) 0 0) [] := Own.empty _ _ _ _ (sB).size
        obtain ⟨wA, hwA⟩ : ∃ wA, wA = wB.alloc (.cells #[] 3) := ⟨_, rfl⟩
        have gA : wB.heap.size < wA.heap.size := by rw [hwA]; simp
        have cA : wA.cell? ⟨gB, 0, none⟩ = some (.int .i64 n) := by rw [hwA, World.cell?_alloc_lt _ _ _ gB1]; exact cB
        rw [← hwA] at sA ownA
        rw [← hwA]
        clear hwA
        (try simp only [List.getElem_toArray, List.getElem_cons_zero, List.getElem_cons_succ, Act.put, List.setIfInBounds_toArray, List.set_cons_zero, List.set_cons_succ])
        replace nB := nB wB.heap.size gB1
        refine wpAnyH_ready (rs := [4]) (by kernel_rfl) (by simp) ?_
        refine AllReadyH.cons rfl (fun K3 hK3 => ?_) AllReadyH.nil
        refine appN_step (v := (Value.slice (some ⟨wB.heap.size, 0, none⟩) 0 0)) rfl _ _ rfl Try.underlying22 info_int (by decide) rfl ownA (l.take 0) ⟨b, off, none⟩ cap (by rw [hlt1]; rfl) (htk _ sA) (by simp only [List.length_append, List.length_nil, List.length_cons, hlt1, hlt2]; omega) (sA).size ?_
        intro vC wC ownC hbC hgC
        have sC := (sA).trans hbC
        have cC := hgC.cell cA (nB.elim (fun h => by rw [h]; simp) (fun h hc => h hc.symm))
        refine hK3.out _ _ sC (fun _ => ?_)
        (try simp only [List.getElem_toArray, List.getElem_cons_zero, List.getElem_cons_succ, Act.put, List.setIfInBounds_toArray, List.set_cons_zero, List.set_cons_succ])
        refine wpAnyH_ready (rs := [7]) (by kernel_rfl) (by simp) ?_
        refine AllReadyH.cons rfl (fun K4 hK4 => ?_) AllReadyH.nil
        refine appN_step (v := vC) rfl _ _ rfl Try.underlying22 info_int (by decide) rfl ownC [n] ⟨gB, 0, none⟩ 1 (by rw [show [n].length = 1 from rfl]; rfl) (one_cell cC) (by simp only [List.length_append, List.length_nil, List.length_cons, hlt1, hlt2]; omega) (sC).size ?_
        intro vD wD ownD hbD hgD
        have sD := (sC).trans hbD
        refine hK4.out _ _ sD (fun _ => ?_)
        (try simp only [List.getElem_toArray, List.getElem_cons_zero, List.getElem_cons_succ, Act.put, List.setIfInBounds_toArray, List.set_cons_zero, List.set_cons_succ])
        refine wpAnyH_ready (rs := [11]) (by kernel_rfl) (by simp) ?_
        refine AllReadyH.cons rfl (fun K5 hK5 => ?_) AllReadyH.nil
        refine appN_step (v := vD) rfl _ _ rfl Try.underlying22 info_int (by decide) rfl ownD (l.drop 0) ⟨b, off, none⟩ cap (by rw [hlt2]; rfl) (hdr _ sD) (by simp only [List.length_append, List.length_nil, List.length_cons, hlt1, hlt2]; omega) (sD).size ?_
        intro vE wE ownE hbE hgE
        have sE := (sD).trans hbE
        refine hK5.out _ _ sE (fun _ => ?_)
        (try simp only [List.getElem_toArray, List.getElem_cons_zero, List.getElem_cons_succ, Act.put, List.setIfInBounds_toArray, List.set_cons_zero, List.set_cons_succ])
        have hRR : ([] ++ l.take 0 ++ [n] ++ l.drop 0) = R := by rw [hR.out, List.nil_append]
        rw [hRR] at ownE
        obtain ⟨gz, cz, hvz, _, _, _, _⟩ := ownE.form (by rw [← hRR]; first | (simp; done) | (simp; omega))
        rw [hvz] at ownE ⊢
        refine wpAnyH_take (i := 12) (v := ?_) rfl (by kernel_rfl) (by kernel_rfl) (by kernel_rfl) (fun _ _ _ h => h) (Or.inl ⟨by rfl, ?_⟩) (by assumption) ?_
        rotate_left
        · (intro w hSw; (try dsimp only at hSw); go_simp; try with_reducible rfl)
        simp only [List.getElem_toArray, List.getElem_cons_zero, List.getElem_cons_succ, Act.put, List.setIfInBounds_toArray, List.set_cons_zero, List.set_cons_succ]
        refine wpAnyH_done (by kernel_rfl) ?_ _
        go_wp2
        go_ret
        exact ⟨gz, 0, cz, R, rfl, .inl ownE, hP.out.1, hP.out.2, sE⟩
    · obtain ⟨m, rfl⟩ : ∃ m, k = m + 1 := ⟨k - 1, by omega⟩
      have hm : m < l.length := by rw [← hN.out]; omega
      obtain ⟨b1, off1, hba, hB, hcell⟩ := hcl.out (by omega)
      have hcm := hcell m hm
      injection hba with hba
      injection hba with hb1 hb2 hb3
      subst hb1
      subst hb2
      have em : ((m + 1 : Nat) : Int) - 1 = (m : Int) := by omega
      have hnext : n < l[m] → ∀ j (hj : j < l.length), m ≤ j → n < l[j] := fun h j hj h2 => by
        rcases Nat.lt_or_eq_of_le h2 with h3 | h3
        · exact hhigh.out j hj h3
        · subst h3; exact h
      have hlow : l[m] < n → ∀ j (hj : j < l.length), j < m + 1 → l[j] < n := fun h j hj h2 => by
        rcases Nat.lt_or_eq_of_le (Nat.le_of_lt_succ h2) with h3 | h3
        · have := hlt.out j m hj hm h3; omega
        · subst h3; exact h
      have hmem : l[m] ∈ l := List.getElem_mem hm
      obtain ⟨x, hx⟩ : ∃ x, x = l[m] := ⟨_, rfl⟩
      rw [← hx] at hcm hnext hlow hmem
      replace hnext := hid hnext
      replace hlow := hid hlow
      replace hmem := hid hmem
      clear hcell hx
      by_cases hgt : n < x
      · have hf := hid (hnext.out hgt)
        have z1 : decide (x > n) = true := decide_eq_true hgt
        go_wp2
        go_roundw
        case rel => exact ⟨m, by omega, by go_num, hf, by trivial⟩
        case measure => simp [intOf]
      · have z1 : decide (x > n) = false := decide_eq_false hgt
        have z2 : decide (n < x) = false := decide_eq_false hgt
        by_cases heq : x = n
        · have e1 : (x == n) = true := by rw [beq_iff_eq]; exact heq
          have hfin : ∀ c, c ∈ l ↔ c ∈ l ∨ c = n := fun c => ⟨.inl, fun h => h.elim id fun h => by rw [h, ← heq]; exact hmem.out⟩
          replace hfin := hid hfin
          clear heq
          go_wp2
          go_ret
          rw [hN.out] at hr0 ⊢
          exact ⟨_, _, _, l, rfl, .inr ⟨rfl, rfl, rfl, rfl, rfl⟩, hs.out, hfin.out, Below.refl _ _⟩
        · have e1 : (x == n) = false := by rw [beq_eq_false_iff_ne]; exact heq
          have hP := hput.out (m + 1) (by rw [← hN.out]; omega) (hlow.out (by omega)) (fun j hj h => hhigh.out j hj h)
          obtain ⟨R, hR⟩ : ∃ R, R = (l.take (m + 1) ++ [n]) ++ l.drop (m + 1) := ⟨_, rfl⟩
          rw [← hR] at hP
          replace hP := hid hP
          replace hR := hid hR
          clear heq
          go_wp2_with fail
          have hcells : ∀ w' : World, Below wr.heap.size wr w' → ∀ i (hi : i < l.length), w'.cell? ⟨b, off + i, none⟩ = some (.int .i64 l[i]) := fun w' hb' i hi => by
            obtain ⟨b1, off1, hba, hB, hcell⟩ := hcl.out (by omega)
            injection hba with hba
            injection hba with hb1 hb2 hb3
            subst hb1
            subst hb2
            exact (hb'.cell (p := ⟨b, off + i, none⟩) hB).trans (hcell i hi)
          refine wp_region_held_drew (S := fun w' => Below wr.heap.size wr w') (by kernel_rfl) ((Below.refl _ _).drew) (fun hH0 => ?_)
          refine wpAnyH_take (i := 1) (v := ?_) rfl (by kernel_rfl) (by kernel_rfl) (by kernel_rfl) (fun _ _ _ h => h) (Or.inl ⟨by first | kernel_rfl | rfl, ?_⟩) (by assumption) ?_
          rotate_left
          · (intro w hSw; (try dsimp only at hSw); go_simp; try with_reducible rfl)
          simp only [List.getElem_toArray, List.getElem_cons_zero, List.getElem_cons_succ, Act.put, List.setIfInBounds_toArray, List.set_cons_zero, List.set_cons_succ]
          refine wpAnyH_take (i := 2) (v := ?_) rfl (by kernel_rfl) (by kernel_rfl) (by kernel_rfl) (fun _ _ _ h => h) (Or.inl ⟨by first | kernel_rfl | rfl, ?_⟩) (by assumption) ?_
          rotate_left
          · (intro w hSw; (try dsimp only at hSw); go_simp; try with_reducible rfl)
          simp only [List.getElem_toArray, List.getElem_cons_zero, List.getElem_cons_succ, Act.put, List.setIfInBounds_toArray, List.set_cons_zero, List.set_cons_succ]
          refine wpAnyH_take (i := 3) (v := .slice (some ⟨b, off, none⟩) (m + 1) cap) rfl (by kernel_rfl) (by kernel_rfl) (by kernel_rfl) (fun _ _ _ h => h) (Or.inl ⟨by rfl, ?_⟩) (by assumption) ?_
          · intro w hSw
            go_simp
            (try rw [if_pos (by omega)])
            (try rfl)
            (try (intro h; exact absurd (h (by omega)) (by omega)))
          simp only [List.getElem_toArray, List.getElem_cons_zero, List.getElem_cons_succ, Act.put, List.setIfInBounds_toArray, List.set_cons_zero, List.set_cons_succ]
          refine wpAnyH_take (i := 5) (v := ?_) rfl (by kernel_rfl) (by kernel_rfl) (by kernel_rfl) (fun _ _ _ h => h) (Or.inl ⟨by first | kernel_rfl | rfl, ?_⟩) (by assumption) ?_
          rotate_left
          · (intro w hSw; (try dsimp only at hSw); go_simp; try with_reducible rfl)
          simp only [List.getElem_toArray, List.getElem_cons_zero, List.getElem_cons_succ, Act.put, List.setIfInBounds_toArray, List.set_cons_zero, List.set_cons_succ]
          refine wpAnyH_take (i := 8) (v := ?_) rfl (by kernel_rfl) (by kernel_rfl) (by kernel_rfl) (fun _ _ _ h => h) (Or.inl ⟨by first | kernel_rfl | rfl, ?_⟩) (by assumption) ?_
          rotate_left
          · (intro w hSw; (try dsimp only at hSw); go_simp; try with_reducible rfl)
          simp only [List.getElem_toArray, List.getElem_cons_zero, List.getElem_cons_succ, Act.put, List.setIfInBounds_toArray, List.set_cons_zero, List.set_cons_succ]
          refine wpAnyH_take (i := 9) (v := ?_) rfl (by kernel_rfl) (by kernel_rfl) (by kernel_rfl) (fun _ _ _ h => h) (Or.inl ⟨by first | kernel_rfl | rfl, ?_⟩) (by assumption) ?_
          rotate_left
          · (intro w hSw; (try dsimp only at hSw); go_simp; try with_reducible rfl)
          simp only [List.getElem_toArray, List.getElem_cons_zero, List.getElem_cons_succ, Act.put, List.setIfInBounds_toArray, List.set_cons_zero, List.set_cons_succ]
          have hKN : (m + 1) ≤ l.length := by have := hN.out; omega
          have hadd : ∀ j, (⟨b, off, none⟩ : Addr).add j = ⟨b, off + j, none⟩ := fun j => by unfold Addr.add; split <;> simp_all
          have hadd2 : ∀ j, (⟨b, off + (m + 1), none⟩ : Addr).add j = ⟨b, off + (m + 1) + j, none⟩ := fun j => by unfold Addr.add; split <;> simp_all
          obtain ⟨AD, hAD⟩ : ∃ AD : Addr, AD = if cap = (m + 1) then ⟨b, off, none⟩ else ⟨b, off + (m + 1), none⟩ := ⟨_, rfl⟩
          have hAO : (if cap = (m + 1) then some ⟨b, off, none⟩ else some ⟨b, off + (m + 1), none⟩ : Option Addr) = some AD := by rw [hAD]; split <;> rfl
          replace hAD := hid hAD
          refine wpAnyH_take (i := 10) (v := .slice (some AD) (N - (m + 1)) (cap - (m + 1))) rfl (by kernel_rfl) (by kernel_rfl) (by kernel_rfl) (fun _ _ _ h => h) (Or.inl ⟨by rfl, ?_⟩) (by assumption) ?_
          · intro w hSw
            go_simp
            (try rw [if_pos (by omega)])
            (try rfl)
            (try (intro h; exact absurd (h (by omega)) (by omega)))
          simp only [List.getElem_toArray, List.getElem_cons_zero, List.getElem_cons_succ, Act.put, List.setIfInBounds_toArray, List.set_cons_zero, List.set_cons_succ]
          have hdr : ∀ w' : World, Below wr.heap.size wr w' → ∀ j u, (l.drop (m + 1))[j]? = some u → w'.cell? (AD.add j) = some (.int .i64 u) := fun w' hb' j u hj => by
            obtain ⟨hj1, hj2⟩ := List.getElem?_eq_some_iff.1 hj
            rw [List.length_drop] at hj1
            have hne : ¬ cap = (m + 1) := by have := hN.out; omega
            rw [hAD.out, if_neg hne, ← hj2, List.getElem_drop, hadd2]
            have := hcells w' hb' ((m + 1) + j) (by omega)
            rw [← Nat.add_assoc] at this
            exact this
          have htk : ∀ w' : World, Below wr.heap.size wr w' → ∀ j u, (l.take (m + 1))[j]? = some u → w'.cell? ((⟨b, off, none⟩ : Addr).add j) = some (.int .i64 u) := fun w' hb' j u hj => by
            obtain ⟨hj1, hj2⟩ := List.getElem?_eq_some_iff.1 hj
            rw [List.length_take] at hj1
            rw [← hj2, List.getElem_take, hadd]
            exact hcells w' hb' j (by omega)
          have hlt1 : (l.take (m + 1)).length = (m + 1) := by rw [List.length_take]; omega
          have hlt2 : (l.drop (m + 1)).length = N - (m + 1) := by rw [List.length_drop, ← hN.out]
          obtain ⟨w0, hw0⟩ : ∃ w0, w0 = wr.drew := ⟨_, rfl⟩
          rw [← hw0] at hH0 ⊢
          clear hw0
          clear hcl
          refine wpAnyH_ready (rs := [0, 6]) (by kernel_rfl) (by simp) ?_
          refine AllReadyH.cons rfl (fun K1 hK1 => ?_) (AllReadyH.cons rfl (fun K1 hK1 => ?_) AllReadyH.nil)
          · skip
            go_simp
            have sA := (hH0).trans ((below_alloc w0 (.cells #[] 3)).mono (hH0).size)
            refine hK1.out _ _ sA (fun _ => ?_)
            have ownA : Own (w0.alloc (.cells #[] 3)) wr.heap.size 3 .i64 (.slice (some ⟨w0.heap.size, 0, none⟩) 0 0) [] := Own.empty _ _ _ _ (hH0).size
            obtain ⟨wA, hwA⟩ : ∃ wA, wA = w0.alloc (.cells #[] 3) := ⟨_, rfl⟩
            have gA : w0.heap.size < wA.heap.size := by rw [hwA]; simp
            rw [← hwA] at sA ownA
            rw [← hwA]
            clear hwA
            (try simp only [List.getElem_toArray, List.getElem_cons_zero, List.getElem_cons_succ, Act.put, List.setIfInBounds_toArray, List.set_cons_zero, List.set_cons_succ])
            refine wpAnyH_ready (rs := [4, 6]) (by kernel_rfl) (by simp) ?_
            refine AllReadyH.cons rfl (fun K2 hK2 => ?_) (AllReadyH.cons rfl (fun K2 hK2 => ?_) AllReadyH.nil)
            · skip
              refine appN_step (v := (Value.slice (some ⟨w0.heap.size, 0, none⟩) 0 0)) rfl _ _ rfl Try.underlying22 info_int (by decide) rfl ownA (l.take (m + 1)) ⟨b, off, none⟩ cap (by rw [hlt1]; rfl) (htk _ sA) (by simp only [List.length_append, List.length_nil, List.length_cons, hlt1, hlt2]; omega) (sA).size ?_
              intro vC wC ownC hbC hgC
              have sC := (sA).trans hbC
              refine hK2.out _ _ sC (fun _ => ?_)
              (try simp only [List.getElem_toArray, List.getElem_cons_zero, List.getElem_cons_succ, Act.put, List.setIfInBounds_toArray, List.set_cons_zero, List.set_cons_succ])
              refine wpAnyH_ready (rs := [6]) (by kernel_rfl) (by simp) ?_
              refine AllReadyH.cons rfl (fun K3 hK3 => ?_) AllReadyH.nil
              go_simp
              have sB := (sC).trans ((below_alloc wC (.cells #[.int .i64 n] 3)).mono (sC).size)
              refine hK3.out _ _ sB (fun _ => ?_)
              have cB : (wC.alloc (.cells #[.int .i64 n] 3)).cell? ⟨wC.heap.size, 0, none⟩ = some (.int .i64 n) := cell_one_new _ _ _ 0 _ rfl
              have ownB := ownC.alloc (.cells #[.int .i64 n] 3)
              obtain ⟨gB, hgB⟩ : ∃ gB, gB = wC.heap.size := ⟨_, rfl⟩
              obtain ⟨wB, hwB⟩ : ∃ wB, wB = wC.alloc (.cells #[.int .i64 n] 3) := ⟨_, rfl⟩
              have gB1 : gB < wB.heap.size := by rw [hwB, hgB]; simp
              rw [← hwB] at sB cB ownB
              rw [← hgB] at cB
              rw [← hwB, ← hgB]
              have nB : vC.ownBlock = none ∨ vC.ownBlock ≠ some gB := by
                cases hob : vC.ownBlock with
                | none => exact .inl rfl
                | some q => exact .inr (by have := World.ownsRow.lt ownC q hob; intro hc; injection hc with hc; omega)
              clear hwB hgB
              (try simp only [List.getElem_toArray, List.getElem_cons_zero, List.getElem_cons_succ, Act.put, List.setIfInBounds_toArray, List.set_cons_zero, List.set_cons_succ])
              refine wpAnyH_ready (rs := [7]) (by kernel_rfl) (by simp) ?_
              refine AllReadyH.cons rfl (fun K4 hK4 => ?_) AllReadyH.nil
              refine appN_step (v := vC) rfl _ _ rfl Try.underlying22 info_int (by decide) rfl ownB [n] ⟨gB, 0, none⟩ 1 (by rw [show [n].length = 1 from rfl]; rfl) (one_cell cB) (by simp only [List.length_append, List.length_nil, List.length_cons, hlt1, hlt2]; omega) (sB).size ?_
              intro vD wD ownD hbD hgD
              have sD := (sB).trans hbD
              refine hK4.out _ _ sD (fun _ => ?_)
              (try simp only [List.getElem_toArray, List.getElem_cons_zero, List.getElem_cons_succ, Act.put, List.setIfInBounds_toArray, List.set_cons_zero, List.set_cons_succ])
              refine wpAnyH_ready (rs := [11]) (by kernel_rfl) (by simp) ?_
              refine AllReadyH.cons rfl (fun K5 hK5 => ?_) AllReadyH.nil
              refine appN_step (v := vD) rfl _ _ rfl Try.underlying22 info_int (by decide) rfl ownD (l.drop (m + 1)) AD (cap - (m + 1)) (by rw [hlt2]; rfl) (hdr _ sD) (by simp only [List.length_append, List.length_nil, List.length_cons, hlt1, hlt2]; omega) (sD).size ?_
              intro vE wE ownE hbE hgE
              have sE := (sD).trans hbE
              refine hK5.out _ _ sE (fun _ => ?_)
              (try simp only [List.getElem_toArray, List.getElem_cons_zero, List.getElem_cons_succ, Act.put, List.setIfInBounds_toArray, List.set_cons_zero, List.set_cons_succ])
              have hRR : ([] ++ l.take (m + 1) ++ [n] ++ l.drop (m + 1)) = R := by rw [hR.out, List.nil_append]
              rw [hRR] at ownE
              obtain ⟨gz, cz, hvz, _, _, _, _⟩ := ownE.form (by rw [← hRR]; first | (simp; done) | (simp; omega))
              rw [hvz] at ownE ⊢
              refine wpAnyH_take (i := 12) (v := ?_) rfl (by kernel_rfl) (by kernel_rfl) (by kernel_rfl) (fun _ _ _ h => h) (Or.inl ⟨by rfl, ?_⟩) (by assumption) ?_
              rotate_left
              · (intro w hSw; (try dsimp only at hSw); go_simp; try with_reducible rfl)
              simp only [List.getElem_toArray, List.getElem_cons_zero, List.getElem_cons_succ, Act.put, List.setIfInBounds_toArray, List.set_cons_zero, List.set_cons_succ]
              refine wpAnyH_done (by kernel_rfl) ?_ _
              go_wp2
              go_ret
              exact ⟨gz, 0, cz, R, rfl, .inl ownE, hP.out.1, hP.out.2, sE⟩
            · skip
              go_simp
              have sB := (sA).trans ((below_alloc wA (.cells #[.int .i64 n] 3)).mono (sA).size)
              refine hK2.out _ _ sB (fun _ => ?_)
              have cB : (wA.alloc (.cells #[.int .i64 n] 3)).cell? ⟨wA.heap.size, 0, none⟩ = some (.int .i64 n) := cell_one_new _ _ _ 0 _ rfl
              have ownB := ownA.alloc (.cells #[.int .i64 n] 3)
              obtain ⟨gB, hgB⟩ : ∃ gB, gB = wA.heap.size := ⟨_, rfl⟩
              obtain ⟨wB, hwB⟩ : ∃ wB, wB = wA.alloc (.cells #[.int .i64 n] 3) := ⟨_, rfl⟩
              have gB1 : gB < wB.heap.size := by rw [hwB, hgB]; simp
              rw [← hwB] at sB cB ownB
              rw [← hgB] at cB
              rw [← hwB, ← hgB]
              have nB : (Value.slice (some ⟨w0.heap.size, 0, none⟩) 0 0).ownBlock = none ∨ (Value.slice (some ⟨w0.heap.size, 0, none⟩) 0 0).ownBlock ≠ some gB := by
                cases hob : (Value.slice (some ⟨w0.heap.size, 0, none⟩) 0 0).ownBlock with
                | none => exact .inl rfl
                | some q => exact .inr (by have := World.ownsRow.lt ownA q hob; intro hc; injection hc with hc; omega)
              clear hwB hgB
              (try simp only [List.getElem_toArray, List.getElem_cons_zero, List.getElem_cons_succ, Act.put, List.setIfInBounds_toArray, List.set_cons_zero, List.set_cons_succ])
              refine wpAnyH_ready (rs := [4]) (by kernel_rfl) (by simp) ?_
              refine AllReadyH.cons rfl (fun K3 hK3 => ?_) AllReadyH.nil
              refine appN_step (v := (Value.slice (some ⟨w0.heap.size, 0, none⟩) 0 0)) rfl _ _ rfl Try.underlying22 info_int (by decide) rfl ownB (l.take (m + 1)) ⟨b, off, none⟩ cap (by rw [hlt1]; rfl) (htk _ sB) (by simp only [List.length_append, List.length_nil, List.length_cons, hlt1, hlt2]; omega) (sB).size ?_
              intro vC wC ownC hbC hgC
              have sC := (sB).trans hbC
              have cC := hgC.cell cB (nB.elim (fun h => by rw [h]; simp) (fun h hc => h hc.symm))
              refine hK3.out _ _ sC (fun _ => ?_)
              (try simp only [List.getElem_toArray, List.getElem_cons_zero, List.getElem_cons_succ, Act.put, List.setIfInBounds_toArray, List.set_cons_zero, List.set_cons_succ])
              refine wpAnyH_ready (rs := [7]) (by kernel_rfl) (by simp) ?_
              refine AllReadyH.cons rfl (fun K4 hK4 => ?_) AllReadyH.nil
              refine appN_step (v := vC) rfl _ _ rfl Try.underlying22 info_int (by decide) rfl ownC [n] ⟨gB, 0, none⟩ 1 (by rw [show [n].length = 1 from rfl]; rfl) (one_cell cC) (by simp only [List.length_append, List.length_nil, List.length_cons, hlt1, hlt2]; omega) (sC).size ?_
              intro vD wD ownD hbD hgD
              have sD := (sC).trans hbD
              refine hK4.out _ _ sD (fun _ => ?_)
              (try simp only [List.getElem_toArray, List.getElem_cons_zero, List.getElem_cons_succ, Act.put, List.setIfInBounds_toArray, List.set_cons_zero, List.set_cons_succ])
              refine wpAnyH_ready (rs := [11]) (by kernel_rfl) (by simp) ?_
              refine AllReadyH.cons rfl (fun K5 hK5 => ?_) AllReadyH.nil
              refine appN_step (v := vD) rfl _ _ rfl Try.underlying22 info_int (by decide) rfl ownD (l.drop (m + 1)) AD (cap - (m + 1)) (by rw [hlt2]; rfl) (hdr _ sD) (by simp only [List.length_append, List.length_nil, List.length_cons, hlt1, hlt2]; omega) (sD).size ?_
              intro vE wE ownE hbE hgE
              have sE := (sD).trans hbE
              refine hK5.out _ _ sE (fun _ => ?_)
              (try simp only [List.getElem_toArray, List.getElem_cons_zero, List.getElem_cons_succ, Act.put, List.setIfInBounds_toArray, List.set_cons_zero, List.set_cons_succ])
              have hRR : ([] ++ l.take (m + 1) ++ [n] ++ l.drop (m + 1)) = R := by rw [hR.out, List.nil_append]
              rw [hRR] at ownE
              obtain ⟨gz, cz, hvz, _, _, _, _⟩ := ownE.form (by rw [← hRR]; first | (simp; done) | (simp; omega))
              rw [hvz] at ownE ⊢
              refine wpAnyH_take (i := 12) (v := ?_) rfl (by kernel_rfl) (by kernel_rfl) (by kernel_rfl) (fun _ _ _ h => h) (Or.inl ⟨by rfl, ?_⟩) (by assumption) ?_
              rotate_left
              · (intro w hSw; (try dsimp only at hSw); go_simp; try with_reducible rfl)
              simp only [List.getElem_toArray, List.getElem_cons_zero, List.getElem_cons_succ, Act.put, List.setIfInBounds_toArray, List.set_cons_zero, List.set_cons_succ]
              refine wpAnyH_done (by kernel_rfl) ?_ _
              go_wp2
              go_ret
              exact ⟨gz, 0, cz, R, rfl, .inl ownE, hP.out.1, hP.out.2, sE⟩
          · skip
            go_simp
            have sB := (hH0).trans ((below_alloc w0 (.cells #[.int .i64 n] 3)).mono (hH0).size)
            refine hK1.out _ _ sB (fun _ => ?_)
            have cB : (w0.alloc (.cells #[.int .i64 n] 3)).cell? ⟨w0.heap.size, 0, none⟩ = some (.int .i64 n) := cell_one_new _ _ _ 0 _ rfl
            obtain ⟨gB, hgB⟩ : ∃ gB, gB = w0.heap.size := ⟨_, rfl⟩
            obtain ⟨wB, hwB⟩ : ∃ wB, wB = w0.alloc (.cells #[.int .i64 n] 3) := ⟨_, rfl⟩
            have gB1 : gB < wB.heap.size := by rw [hwB, hgB]; simp
            rw [← hwB] at sB cB
            rw [← hgB] at cB
            rw [← hwB, ← hgB]
            clear hwB hgB
            (try simp only [List.getElem_toArray, List.getElem_cons_zero, List.getElem_cons_succ, Act.put, List.setIfInBounds_toArray, List.set_cons_zero, List.set_cons_succ])
            have nB : ∀ q, gB < q → (Value.slice (some ⟨q, 0, none⟩) 0 0).ownBlock = none ∨ (Value.slice (some ⟨q, 0, none⟩) 0 0).ownBlock ≠ some gB := fun q hq => .inr (fun hc => by have h : q = gB := Option.some.inj hc; omega)
            refine wpAnyH_ready (rs := [0]) (by kernel_rfl) (by simp) ?_
            refine AllReadyH.cons rfl (fun K2 hK2 => ?_) AllReadyH.nil
            go_simp
            have sA := (sB).trans ((below_alloc wB (.cells #[] 3)).mono (sB).size)
            refine hK2.out _ _ sA (fun _ => ?_)
            have ownA : Own (wB.alloc (.cells #[] 3)) wr.heap.size 3 .i64 (.slice (some ⟨wB.heap.size, 0, none⟩) 0 0) [] := Own.empty _ _ _ _ (sB).size
            obtain ⟨wA, hwA⟩ : ∃ wA, wA = wB.alloc (.cells #[] 3) := ⟨_, rfl⟩
            have gA : wB.heap.size < wA.heap.size := by rw [hwA]; simp
            have cA : wA.cell? ⟨gB, 0, none⟩ = some (.int .i64 n) := by rw [hwA, World.cell?_alloc_lt _ _ _ gB1]; exact cB
            rw [← hwA] at sA ownA
            rw [← hwA]
            clear hwA
            (try simp only [List.getElem_toArray, List.getElem_cons_zero, List.getElem_cons_succ, Act.put, List.setIfInBounds_toArray, List.set_cons_zero, List.set_cons_succ])
            replace nB := nB wB.heap.size gB1
            refine wpAnyH_ready (rs := [4]) (by kernel_rfl) (by simp) ?_
            refine AllReadyH.cons rfl (fun K3 hK3 => ?_) AllReadyH.nil
            refine appN_step (v := (Value.slice (some ⟨wB.heap.size, 0, none⟩) 0 0)) rfl _ _ rfl Try.underlying22 info_int (by decide) rfl ownA (l.take (m + 1)) ⟨b, off, none⟩ cap (by rw [hlt1]; rfl) (htk _ sA) (by simp only [List.length_append, List.length_nil, List.length_cons, hlt1, hlt2]; omega) (sA).size ?_
            intro vC wC ownC hbC hgC
            have sC := (sA).trans hbC
            have cC := hgC.cell cA (nB.elim (fun h => by rw [h]; simp) (fun h hc => h hc.symm))
            refine hK3.out _ _ sC (fun _ => ?_)
            (try simp only [List.getElem_toArray, List.getElem_cons_zero, List.getElem_cons_succ, Act.put, List.setIfInBounds_toArray, List.set_cons_zero, List.set_cons_succ])
            refine wpAnyH_ready (rs := [7]) (by kernel_rfl) (by simp) ?_
            refine AllReadyH.cons rfl (fun K4 hK4 => ?_) AllReadyH.nil
            refine appN_step (v := vC) rfl _ _ rfl Try.underlying22 info_int (by decide) rfl ownC [n] ⟨gB, 0, none⟩ 1 (by rw [show [n].length = 1 from rfl]; rfl) (one_cell cC) (by simp only [List.length_append, List.length_nil, List.length_cons, hlt1, hlt2]; omega) (sC).size ?_
            intro vD wD ownD hbD hgD
            have sD := (sC).trans hbD
            refine hK4.out _ _ sD (fun _ => ?_)
            (try simp only [List.getElem_toArray, List.getElem_cons_zero, List.getElem_cons_succ, Act.put, List.setIfInBounds_toArray, List.set_cons_zero, List.set_cons_succ])
            refine wpAnyH_ready (rs := [11]) (by kernel_rfl) (by simp) ?_
            refine AllReadyH.cons rfl (fun K5 hK5 => ?_) AllReadyH.nil
            refine appN_step (v := vD) rfl _ _ rfl Try.underlying22 info_int (by decide) rfl ownD (l.drop (m + 1)) AD (cap - (m + 1)) (by rw [hlt2]; rfl) (hdr _ sD) (by simp only [List.length_append, List.length_nil, List.length_cons, hlt1, hlt2]; omega) (sD).size ?_
            intro vE wE ownE hbE hgE
            have sE := (sD).trans hbE
            refine hK5.out _ _ sE (fun _ => ?_)
            (try simp only [List.getElem_toArray, List.getElem_cons_zero, List.getElem_cons_succ, Act.put, List.setIfInBounds_toArray, List.set_cons_zero, List.set_cons_succ])
            have hRR : ([] ++ l.take (m + 1) ++ [n] ++ l.drop (m + 1)) = R := by rw [hR.out, List.nil_append]
            rw [hRR] at ownE
            obtain ⟨gz, cz, hvz, _, _, _, _⟩ := ownE.form (by rw [← hRR]; first | (simp; done) | (simp; omega))
            rw [hvz] at ownE ⊢
            refine wpAnyH_take (i := 12) (v := ?_) rfl (by kernel_rfl) (by kernel_rfl) (by kernel_rfl) (fun _ _ _ h => h) (Or.inl ⟨by rfl, ?_⟩) (by assumption) ?_
            rotate_left
            · (intro w hSw; (try dsimp only at hSw); go_simp; try with_reducible rfl)
            simp only [List.getElem_toArray, List.getElem_cons_zero, List.getElem_cons_succ, Act.put, List.setIfInBounds_toArray, List.set_cons_zero, List.set_cons_succ]
            refine wpAnyH_done (by kernel_rfl) ?_ _
            go_wp2
            go_ret
            exact ⟨gz, 0, cz, R, rfl, .inl ownE, hP.out.1, hP.out.2, sE⟩
theorem sl5Put_own (b off cap : Nat) (l : List Int) (n : Int) (base : Nat) (w : World) (hown : Own w base 3 .i64 (.slice (some ⟨b, off, none⟩) l.length cap) l) (hl : l.length ≤ 1073741824) (hs : l.Pairwise (· < ·)) (hb : base ≤ w.heap.size) :
    Calls Try.prog 87 #[.slice (some ⟨b, off, none⟩) l.length cap, .int .i64 n] w fun e w' => ∃ b' off' cap' r, e = .returned (.slice (some ⟨b', off', none⟩) r.length cap') ∧ Own w' base 3 .i64 (.slice (some ⟨b', off', none⟩) r.length cap') r ∧ r.Pairwise (· < ·) ∧ (∀ c, c ∈ r ↔ c ∈ l ∨ c = n) ∧ Below w.heap.size w w' := by
  refine (sl5Put_any b off cap l n w (Rd.of_own hown) hl hs).mono ?_
  rintro e w' ⟨b', off', cap', r, rfl, ho, ha, hm, hbb⟩
  refine ⟨b', off', cap', r, rfl, ?_, ha, hm, hbb⟩
  rcases ho with ho | ⟨rfl, rfl, rfl, rfl, rfl⟩
  · exact ho.lower hb
  · exact hown
end Go.Proofs.Ytffbamjfpegndaa
