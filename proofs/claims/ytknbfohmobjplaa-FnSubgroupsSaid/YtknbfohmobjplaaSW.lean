/- What the reference's SubgroupsOf computes. Conditions: at most 2^20 orders. -/
import Derived.Test.YtknbfohmobjplaaSU
import Derived.Test.YtknbfohmobjplaaSV
namespace Go.Proofs.Ytknbfohmobjplaa
set_option linter.unusedVariables false
set_option linter.unusedSimpArgs false
open Go.RowKit

/-- the sums of the elements of two lists, at some places, are in a third one -/
def Prs (l C D r : List Int) (P : Nat → Nat → Prop) : Prop := ∀ i k (hi : i < C.length) (hk : k < D.length), P i k → ∀ A B : Nat, C[i] = (A : Int) → D[k] = (B : Int) → ((sumN l A B : Nat) : Int) ∈ r
theorem Prs.more {l C D r r' : List Int} {P P' : Nat → Nat → Prop} (h : Prs l C D r P) (hr : ∀ c, c ∈ r → c ∈ r') (hP : ∀ i k, P' i k → P i k) : Prs l C D r' P' := fun i k hi hk hp A B hA hB => hr _ (h i k hi hk (hP i k hp) A B hA hB)
theorem Prs.put {l C D r r' : List Int} {P : Nat → Nat → Prop} {i m A B : Nat} (h : Prs l C D r P) (hi : i < C.length) (hm : m < D.length) (hA : C[i] = (A : Int)) (hB : D[m] = (B : Int)) (hr : ∀ c', c' ∈ r' ↔ c' ∈ r ∨ c' = ((sumN l A B : Nat) : Int)) : Prs l C D r' (fun i' k' => P i' k' ∨ (i' = i ∧ k' = m)) := by
  intro i' k' hi' hk' hp A' B' hA' hB'
  rcases hp with hp | ⟨rfl, rfl⟩
  · exact (hr _).2 (.inl (h i' k' hi' hk' hp A' B' hA' hB'))
  · rw [hA] at hA'
    rw [hB] at hB'
    rw [← show A = A' by omega, ← show B = B' by omega]
    exact (hr _).2 (.inr rfl)
theorem AllSub.put {l r r' : List Int} {H : Nat} (h : AllSub l r) (hH : IsSubN l H) (hr : ∀ c, c ∈ r' ↔ c ∈ r ∨ c = (H : Int)) : AllSub l r' := fun c hc => by
  rcases (hr c).1 hc with h1 | h1
  · exact h c h1
  · exact ⟨H, h1, hH⟩
/-- a list that grows: ascending, of subgroups -/
def Asc (l r : List Int) : Prop := r.Pairwise (· < ·) ∧ AllSub l r
theorem Asc.len {l r : List Int} (hg : isGroup l = true) (h : Asc l r) : r.length ≤ 16777216 := asc_len h.1 fun c hc => AllSub.bd hg h.2 hc
theorem Asc.put {l r r' : List Int} {H : Nat} (h : Asc l r) (hH : IsSubN l H) (ha : r'.Pairwise (· < ·)) (hr : ∀ c, c ∈ r' ↔ c ∈ r ∨ c = (H : Int)) : Asc l r' := ⟨ha, AllSub.put h.2 hH hr⟩
def Cyc (l : List Int) (k : Nat) (r : List Int) : Prop := ∀ y : Nat, y < k → ((cycN l y : Nat) : Int) ∈ r
theorem Cyc.put {l r r' : List Int} {k : Nat} (h : Cyc l k r) (hr : ∀ c, c ∈ r' ↔ c ∈ r ∨ c = ((cycN l k : Nat) : Int)) : Cyc l (k + 1) r' := fun y hy => by
  by_cases he : y = k
  · rw [he]; exact (hr _).2 (.inr rfl)
  · exact (hr _).2 (.inl (h y (by omega)))
theorem spec_subs {l C two r : List Int} (hg : isGroup l = true) {n : Nat} (hn : prodL l = (n : Int)) (hC : Cyc l n C) (h2 : Prs l C C two (fun i k => i < C.length ∧ k ≤ i)) (hr : Asc l r) (h3 : Prs l two C r (fun i _ => i < two.length)) : r = subsL l := by
  have hin : ∀ a : Int, (0 ≤ a ∧ a < prodL l) → ∃ p, ∃ hp : p < C.length, C[p] = ((cycN l a : Nat) : Int) := fun a ha => by
    have := hC a.toNat (by omega)
    rw [show ((a.toNat : Nat) : Int) = a by omega] at this
    exact List.mem_iff_getElem.1 this
  refine three_subs hg hr.1 hr.2 fun a b c ha hb hc => ?_
  obtain ⟨p, hp, ep⟩ := hin a ha
  obtain ⟨q, hq, eq⟩ := hin b hb
  obtain ⟨s, hs, es⟩ := hin c hc
  have hab : ((sumN l (cycN l a) (cycN l b) : Nat) : Int) ∈ two := by
    rcases Nat.le_total q p with h | h
    · exact h2 p q hp hq ⟨hp, h⟩ _ _ ep eq
    · rw [sumN_comm hg (top_24 hg (cyc_sub hg ha.1 ha.2).1) (top_24 hg (cyc_sub hg hb.1 hb.2).1)]
      exact h2 q p hq hp ⟨hq, h⟩ _ _ eq ep
  obtain ⟨t, ht, et⟩ := List.mem_iff_getElem.1 hab
  exact h3 t s ht hs ht _ _ et es
set_option maxHeartbeats 3200000 in
theorem sSubgroupsOf_any (v : Value) (l : List Int) (w : World) (hr : Rd w w.heap.size .i64 v l) (hn : l.length ≤ 1048576) :
    Calls Try.prog 29 #[.agg #[v]] w fun e w' => ∃ ao cap, e = .returned (.tuple #[.slice ao (sbsE l).length cap, .bool (isGroup l)]) ∧ Own w' w.heap.size 3 .i64 (.slice ao (sbsE l).length cap) (sbsE l) ∧ Below w.heap.size w w' := by
  cases hE : isGroup l
  · rw [sbsE_no hE]
    have hI := hid fun w h1 => sIsGroup_any v l w h1 (by omega)
    rw [hE] at hI
    clear hE
    go_enter Try.func29, Try.ntmps29
    have hown0 := own_nil1 w (.cells #[v] 26) 3 .i64
    go_wp2_with fail
    refine (hI.out _ (((hr.alloc (Nat.le_refl _) _).alloc (by go_size) _).more (by go_size))).mono ?_
    rintro e w1 ⟨rfl, hb1⟩
    have D1 : Below w.heap.size w w1 := by refine Below.trans ?_ (hb1.mono ?_) <;> go_grown
    have hz1 : w.heap.size < w1.heap.size := by have := hb1.size; simp at this; omega
    obtain ⟨hc1, hf1⟩ := bcell hb1
    have hown1 := (hown0.below hb1).lower (Nat.le_succ _)
    clear hown0 hc1 hf1
    go_wp2
    go_ret2
    exact ⟨_, _, rfl, hown1, D1⟩
  · have hI := hid fun w h1 => sIsGroup_any v l w h1 (by omega)
    rw [hE] at hI
    rw [sbsE_yes hE]
    have hg := hid hE
    have hp := isGroup.prod hE
    have hO := hid fun w h => sl2Order_any v l w h hE
    have hG := hid fun A (hA : A < 16777216) w hr => sl5Closure_any v l A w hr hE hA
    have hS := hid fun A B (hA : A < 16777216) (hB : B < 16777216) w hr => sl4Sum_any v l A B w hr hE hA hB
    have hpn : prodL l = ((prodL l).toNat : Int) := by omega
    obtain ⟨n, hnn⟩ : ∃ n, n = (prodL l).toNat := ⟨_, rfl⟩
    rw [← hnn] at hpn
    rw [hpn] at hO
    have hn24 : n ≤ 24 := by omega
    have hAL := hid fun r (h : Asc l r) => Asc.len hE h
    obtain ⟨R, hR⟩ : ∃ R, R = subsL l := ⟨_, rfl⟩
    rw [← hR]
    replace hR := hid hR
    replace hpn := hid hpn
    clear hnn hp hE
    go_enter Try.func29, Try.ntmps29
    have hown0 := own_nil1 w (.cells #[v] 26) 3 .i64
    go_wp2_with fail
    refine (hI.out _ (((hr.alloc (Nat.le_refl _) _).alloc (by go_size) _).more (by go_size))).mono ?_
    rintro e w1 ⟨rfl, hb1⟩
    have D1 : Below w.heap.size w w1 := by refine Below.trans ?_ (hb1.mono ?_) <;> go_grown
    have hz1 : w.heap.size < w1.heap.size := by have := hb1.size; simp at this; omega
    obtain ⟨hc1, hf1⟩ := bcell hb1
    have hown1 := hown0.below hb1
    have c1 : w1.cell? ⟨w.heap.size, 0, none⟩ = some v := by rw [hc1 _ _ (by go_size)]; simp [go_sem]
    clear hc1 hf1 hb1 hown0
    have hownc : Own (w1.alloc (.cells #[] 3)) (w.heap.size + 1) 3 .i64 (.slice (some ⟨w1.heap.size, 0, none⟩) 0 0) [] := Own.empty _ _ _ _ hz1
    have howno := hown1.alloc (.cells #[] 3)
    have D1' : Below w.heap.size w (w1.alloc (.cells #[] 3)) := D1.trans ((below_alloc _ _).mono D1.size)
    have c1' : (w1.alloc (.cells #[] 3)).cell? ⟨w.heap.size, 0, none⟩ = some v := by simpa [go_sem, hz1] using c1
    have hz1' : w.heap.size < (w1.alloc (.cells #[] 3)).heap.size := by simp; omega
    go_wp2_with fail
    obtain ⟨wA, hwA⟩ : ∃ wA, wA = w1.alloc (.cells #[] 3) := ⟨_, rfl⟩
    rw [← hwA] at hownc howno D1' c1' hz1' ⊢
    clear hwA hown1 c1
    refine (hO.out _ ((hr.below D1').more (by go_size))).mono ?_
    rintro e w2 ⟨rfl, hb2⟩
    have hownc2 := hownc.below hb2
    have howno2 := howno.below hb2
    have D2 := bgo D1' hb2
    have hz2 : w.heap.size < w2.heap.size := by have := hb2.size; omega
    have c2 := (hb2.cell hz1').trans c1'
    clear hb2 hownc howno c1'
    go_wp2
    -- the cyclic ones
    go_loopw [5, 7] (fun o x wr => ∃ (k b off cap : Nat) (C : List Int), k ≤ n ∧ x = .int .i64 k ∧ o = .slice (some ⟨b, off, none⟩) C.length cap ∧ Own wr (w.heap.size + 1) 3 .i64 o C ∧ Hid (Asc l C) ∧ Hid (Cyc l k C) ∧ Below w.heap.size w wr ∧ Below w2.heap.size w2 wr) (fun _ x _ => n - (intOf x).toNat)
    case atStart => exact ⟨0, _, _, _, [], by omega, rfl, rfl, hownc2, ⟨List.Pairwise.nil, (fun c hc => by cases hc)⟩, (fun y hy => by omega), D2, Below.refl _ _⟩
    case round =>
      obtain ⟨k, b, off, cap, C, hk, rfl, rfl, hown, hasc, hcyc, hb, hbm⟩ := hrel
      have hz : w.heap.size < wr.heap.size := by have := hbm.size; omega
      have hc := (hbm.cell hz2).trans c2
      by_cases hlt : k < n
      · have hcs := cyc_sub hg.out (x := (k : Int)) (by omega) (by have := hpn.out; omega)
        have hCl := hAL.out C hasc.out
        have hpt := top_24 hg.out (pow_top hg.out (x := (k : Int)) (by omega) (by have := hpn.out; omega))
        rw [Int.toNat_natCast] at hpt
        have hG1 := hid (hG.out (2 ^ k) hpt)
        have hcn : genN l (2 ^ k) = cycN l k := by unfold cycN; rw [Int.toNat_natCast]
        rw [hcn] at hG1
        have hput1 := hid fun r' h => hcyc.out.put (r' := r') h
        obtain ⟨Y, hY⟩ : ∃ Y, Y = cycN l k := ⟨_, rfl⟩
        rw [← hY] at hG1 hcs hput1
        have hput2 := hid fun r' h1 h2 => hasc.out.put (r' := r') hcs h1 h2
        have hpw : (2 : Int) ^ k = ((2 ^ k : Nat) : Int) := (Int.natCast_pow 2 _).symm
        have hT1 : 2 ^ k ≤ 2 ^ 23 := Nat.pow_le_pow_right (by omega) (by omega)
        have hT2 : 2 ^ 23 = 8388608 := rfl
        obtain ⟨T, hT⟩ : ∃ T, T = 2 ^ k := ⟨_, rfl⟩
        rw [← hT] at hG1 hpw hT1
        have hT3 : T ≤ 8388608 := by omega
        have hwT : IntKind.i64.wrap (T : Int) = T := IntWalk.i64_in _ (by omega)
        clear hpt hcn hY hT hT1 hT2 hcs
        have K : ∀ w', Below wr.heap.size wr w' → w'.cell? ⟨w.heap.size, 0, none⟩ = some v := fun w' h => (h.cell hz).trans hc
        go_wp2_with fail
        go_region_held3 (fun w' => w'.cell? ⟨w.heap.size, 0, none⟩ = some v) (first | go_keep | exact K _ hb3 | exact K _ (bgo hb3 hb4)) (first | (go_at_call 71; refine (hG1.out _ ((hr.below (by go_grown)).more (by go_size))).mono ?_; rintro e w3 ⟨rfl, hb3⟩; replace hb3 : Below wr.heap.size wr w3 := (Below.refl wr.heap.size wr).drew.trans hb3) | (go_at_call 78; refine (sl5Put_own b off cap C _ (w.heap.size + 1) _ (hown.below hb3) (by omega) hasc.out.1 (Nat.le_trans hz hb3.size)).mono ?_; rintro e w4 ⟨b', off', cap', C', rfl, hown', hasc', hmem', hb4⟩))
        have hA' := hid (hput2.out C' hasc' hmem')
        have hC' := hid (hput1.out C' hmem')
        have E4 := bgo hb3 hb4
        clear K hown hasc hcyc hput1 hput2 hmem' hasc'
        go_wp2
        go_roundw
        case rel => exact ⟨k + 1, b', off', cap', C', by omega, by go_num, rfl, hown', hA', hC', bgo hb E4, bgo hbm E4⟩
        case measure => simp [intOf]; omega
      · obtain rfl : k = n := by omega
        have howno3 := howno2.below hbm
        have hCl := hAL.out C hasc.out
        clear howno2 hownc2

        have hownC := hown
        go_wp2
        -- sums of two
        obtain ⟨wc, hwc⟩ : ∃ wc, wc = wr := ⟨_, rfl⟩
        subst hwc
        have hzc : w.heap.size < wc.heap.size := hz
        have cc := hc
        have hascC := hasc
        go_loopw [4, 8] (fun o i wq => ∃ (a b1 off1 cap1 : Nat) (r : List Int), a ≤ C.length ∧ i = .int .i64 a ∧ o = .slice (some ⟨b1, off1, none⟩) r.length cap1 ∧ Own wq (w.heap.size + 1) 3 .i64 o r ∧ Hid (Asc l r) ∧ Hid (Prs l C C r (fun i' k' => i' < a ∧ k' ≤ i')) ∧ Below w.heap.size w wq ∧ Below wc.heap.size wc wq) (fun _ i _ => C.length - (intOf i).toNat)
        case atStart => exact ⟨0, _, _, _, [], by omega, rfl, rfl, howno3, ⟨List.Pairwise.nil, (fun c hc => by cases hc)⟩, (fun i k hi hk h => by omega), hb, Below.refl _ _⟩
        case round =>
          obtain ⟨a, b1, off1, cap1, r, ha, rfl, rfl, hown1, hasc1, hprs1, hbw1, hbm1⟩ := hrel
          by_cases hlt2 : a < C.length
          · go_wp2
            go_loopw [4, 9] (fun o j wq => ∃ (m b1 off1 cap1 : Nat) (r : List Int), m ≤ a + 1 ∧ j = .int .i64 m ∧ o = .slice (some ⟨b1, off1, none⟩) r.length cap1 ∧ Own wq (w.heap.size + 1) 3 .i64 o r ∧ Hid (Asc l r) ∧ Hid (Prs l C C r (fun i' k' => (i' < a ∧ k' ≤ i') ∨ (i' = a ∧ k' < m))) ∧ Below w.heap.size w wq ∧ Below wc.heap.size wc wq) (fun _ j _ => a + 1 - (intOf j).toNat)
            case atStart => exact ⟨0, _, _, _, r, by omega, rfl, rfl, hown1, hasc1, hprs1.out.more (fun _ h => h) (fun i' k' h => by omega), hbw1, hbm1⟩
            case round =>
              obtain ⟨m, b2, off2, cap2, r2, hm, rfl, rfl, hown2, hasc2, hprs2, hbw2, hbm2⟩ := hrel
              by_cases hlt3 : m < a + 1
              · have hz : w.heap.size < wr.heap.size := by have := hbm2.size; omega
                have hc := (hbm2.cell hzc).trans cc
                have ham : a < C.length := hlt2
                have hmm : m < C.length := by omega
                obtain ⟨bc, hbe, hB1, hB2, hcell⟩ := hownC.cells (by omega)
                injection hbe with hbe
                injection hbe with hb1 hb2 hb3
                subst hb1
                subst hb2
                obtain ⟨A, hA, hAs⟩ := hascC.out.2 _ (List.getElem_mem ham)
                have hca := (hbm2.cell (p := ⟨b, a, none⟩) hB2).trans (hcell a ham)
                obtain ⟨B, hB, hBs⟩ := hascC.out.2 _ (List.getElem_mem hmm)
                have hcb := (hbm2.cell (p := ⟨b, m, none⟩) hB2).trans (hcell m hmm)
                rw [hA] at hca
                rw [hB] at hcb
                have hba : b < wr.heap.size := by have := hbm2.size; omega
                have hbb : b < wr.heap.size := by have := hbm2.size; omega
                have hAl := top_24 hg.out hAs.1
                have hBl := top_24 hg.out hBs.1
                have hSc := hid (hS.out A B hAl hBl)
                have hZs := sub_sum hg.out hAs hBs
                have hput1 := hid fun r' h => hprs2.out.put (r' := r') ham hmm hA hB h
                obtain ⟨Z, hZ⟩ : ∃ Z, Z = sumN l A B := ⟨_, rfl⟩
                rw [← hZ] at hSc hZs hput1
                have hput2 := hid fun r' h1 h2 => hasc2.out.put (r' := r') hZs h1 h2
                have hrl := hAL.out r2 hasc2.out
                replace hAl := hid hAl
                replace hBl := hid hBl
                have z1 : decide ((m : Int) ≤ a) = true := decide_eq_true (by omega)
                clear hZ hA hB hAs hBs hZs hcell
                have K : ∀ w', Below wr.heap.size wr w' → w'.cell? ⟨w.heap.size, 0, none⟩ = some v ∧ w'.cell? ⟨b, a, none⟩ = some (.int .i64 (A : Int)) ∧ w'.cell? ⟨b, m, none⟩ = some (.int .i64 (B : Int)) := fun w' h => ⟨(h.cell hz).trans hc, (h.cell (p := ⟨b, a, none⟩) hba).trans hca, (h.cell (p := ⟨b, m, none⟩) hbb).trans hcb⟩
                go_wp2_with fail
                go_region_held3 (fun w' => w'.cell? ⟨w.heap.size, 0, none⟩ = some v ∧ w'.cell? ⟨b, a, none⟩ = some (.int .i64 (A : Int)) ∧ w'.cell? ⟨b, m, none⟩ = some (.int .i64 (B : Int))) (first | go_keep | exact K _ hb3 | exact K _ (bgo hb3 hb4)) (first | (go_at_call 51; refine (hSc.out _ ((hr.below (by go_grown)).more (by go_size))).mono ?_; rintro e w3 ⟨rfl, hb3⟩; replace hb3 : Below wr.heap.size wr w3 := (Below.refl wr.heap.size wr).drew.trans hb3) | (go_at_call 78; refine (sl5Put_own b2 off2 cap2 r2 _ (w.heap.size + 1) _ (hown2.below hb3) (by omega) hasc2.out.1 (Nat.le_trans hz hb3.size)).mono ?_; rintro e w4 ⟨b', off', cap', r3, rfl, hown', hasc', hmem', hb4⟩))
                have hA' := hid (hput2.out r3 hasc' hmem')
                have hP' := hid ((hput1.out r3 hmem').more (P' := fun i' k' => (i' < a ∧ k' ≤ i') ∨ (i' = a ∧ k' < m + 1)) (fun _ h => h) (fun i' k' h => by omega))
                have E4 := bgo hb3 hb4
                clear K hown2 hasc2 hprs2 hput1 hput2 hmem' hasc'
                go_wp2
                go_roundw
                case rel => exact ⟨m + 1, b', off', cap', r3, by omega, by go_num, rfl, hown', hA', hP', bgo hbw2 E4, bgo hbm2 E4⟩
                case measure => simp [intOf]; omega
              · have z1 : decide ((m : Int) ≤ a) = false := decide_eq_false (by omega)
                have hP' : Hid (Prs l C C r2 (fun i' k' => i' < a + 1 ∧ k' ≤ i')) := hid (hprs2.out.more (fun _ h => h) (fun i' k' h => by omega))
                go_wp2
                go_roundw
                case rel => exact ⟨a + 1, b2, off2, cap2, r2, by omega, by go_num, rfl, hown2, hasc2, hP', hbw2, hbm2⟩
                case measure => simp [intOf]; omega
          · obtain ⟨wt, hwt⟩ : ∃ wt, wt = wr := ⟨_, rfl⟩
            subst hwt
            obtain rfl : a = C.length := by omega
            have hzt : w.heap.size < wt.heap.size := by have := hbm1.size; omega
            have ct := (hbm1.cell hzc).trans cc
            replace hownC := hownC.below hbm1
            obtain ⟨D, hD⟩ : ∃ D, D = r := ⟨_, rfl⟩
            subst hD
            have hownD := hown1
            have hascD := hasc1
            have hprsD := hprs1
            have hDl := hAL.out D hascD.out
            obtain ⟨bD, hbD⟩ : ∃ bD, bD = b1 := ⟨_, rfl⟩
            subst hbD
            go_wp2
            -- sums of three
            go_loopw [4, 11] (fun o i wq => ∃ (a b1 off1 cap1 : Nat) (r : List Int), a ≤ D.length ∧ i = .int .i64 a ∧ o = .slice (some ⟨b1, off1, none⟩) r.length cap1 ∧ Own wq (w.heap.size + 1) 3 .i64 o r ∧ Hid (Asc l r) ∧ Hid (Prs l D C r (fun i' k' => i' < a)) ∧ Below w.heap.size w wq ∧ Below wt.heap.size wt wq) (fun _ i _ => D.length - (intOf i).toNat)
            case atStart => exact ⟨0, _, _, _, D, by omega, rfl, rfl, hown1, hasc1, (fun i k hi hk h => by omega), hbw1, Below.refl _ _⟩
            case round =>
              obtain ⟨a, b1, off1, cap1, r, ha, rfl, rfl, hown1, hasc1, hprs1, hbw1, hbm1⟩ := hrel
              by_cases hlt2 : a < D.length
              · go_wp2
                go_loopw [4, 12] (fun o j wq => ∃ (m b1 off1 cap1 : Nat) (r : List Int), m ≤ C.length ∧ j = .int .i64 m ∧ o = .slice (some ⟨b1, off1, none⟩) r.length cap1 ∧ Own wq (w.heap.size + 1) 3 .i64 o r ∧ Hid (Asc l r) ∧ Hid (Prs l D C r (fun i' k' => i' < a ∨ (i' = a ∧ k' < m))) ∧ Below w.heap.size w wq ∧ Below wt.heap.size wt wq) (fun _ j _ => C.length - (intOf j).toNat)
                case atStart => exact ⟨0, _, _, _, r, by omega, rfl, rfl, hown1, hasc1, hprs1.out.more (fun _ h => h) (fun i' k' h => by omega), hbw1, hbm1⟩
                case round =>
                  obtain ⟨m, b2, off2, cap2, r2, hm, rfl, rfl, hown2, hasc2, hprs2, hbw2, hbm2⟩ := hrel
                  by_cases hlt3 : m < C.length
                  · have hz : w.heap.size < wr.heap.size := by have := hbm2.size; omega
                    have hc := (hbm2.cell hzt).trans ct
                    have ham : a < D.length := hlt2
                    have hmm : m < C.length := by omega
                    obtain ⟨bc, hbe, hB1, hB2, hcell⟩ := hownC.cells (by omega)
                    injection hbe with hbe
                    injection hbe with hb1 hb2 hb3
                    subst hb1
                    subst hb2
                    obtain ⟨bd, hde, hE1, hE2, hdell⟩ := hownD.cells (by omega)
                    injection hde with hde
                    injection hde with hd1 hd2 hd3
                    subst hd1
                    subst hd2
                    obtain ⟨A, hA, hAs⟩ := hascD.out.2 _ (List.getElem_mem ham)
                    have hca := (hbm2.cell (p := ⟨bD, a, none⟩) hE2).trans (hdell a ham)
                    obtain ⟨B, hB, hBs⟩ := hascC.out.2 _ (List.getElem_mem hmm)
                    have hcb := (hbm2.cell (p := ⟨b, m, none⟩) hB2).trans (hcell m hmm)
                    rw [hA] at hca
                    rw [hB] at hcb
                    have hba : bD < wr.heap.size := by have := hbm2.size; omega
                    have hbb : b < wr.heap.size := by have := hbm2.size; omega
                    have hAl := top_24 hg.out hAs.1
                    have hBl := top_24 hg.out hBs.1
                    have hSc := hid (hS.out A B hAl hBl)
                    have hZs := sub_sum hg.out hAs hBs
                    have hput1 := hid fun r' h => hprs2.out.put (r' := r') ham hmm hA hB h
                    obtain ⟨Z, hZ⟩ : ∃ Z, Z = sumN l A B := ⟨_, rfl⟩
                    rw [← hZ] at hSc hZs hput1
                    have hput2 := hid fun r' h1 h2 => hasc2.out.put (r' := r') hZs h1 h2
                    have hrl := hAL.out r2 hasc2.out
                    replace hAl := hid hAl
                    replace hBl := hid hBl
                    clear hZ hA hB hAs hBs hZs hcell hdell
                    have K : ∀ w', Below wr.heap.size wr w' → w'.cell? ⟨w.heap.size, 0, none⟩ = some v ∧ w'.cell? ⟨bD, a, none⟩ = some (.int .i64 (A : Int)) ∧ w'.cell? ⟨b, m, none⟩ = some (.int .i64 (B : Int)) := fun w' h => ⟨(h.cell hz).trans hc, (h.cell (p := ⟨bD, a, none⟩) hba).trans hca, (h.cell (p := ⟨b, m, none⟩) hbb).trans hcb⟩
                    go_wp2_with fail
                    go_region_held3 (fun w' => w'.cell? ⟨w.heap.size, 0, none⟩ = some v ∧ w'.cell? ⟨bD, a, none⟩ = some (.int .i64 (A : Int)) ∧ w'.cell? ⟨b, m, none⟩ = some (.int .i64 (B : Int))) (first | go_keep | exact K _ hb3 | exact K _ (bgo hb3 hb4)) (first | (go_at_call 51; refine (hSc.out _ ((hr.below (by go_grown)).more (by go_size))).mono ?_; rintro e w3 ⟨rfl, hb3⟩; replace hb3 : Below wr.heap.size wr w3 := (Below.refl wr.heap.size wr).drew.trans hb3) | (go_at_call 78; refine (sl5Put_own b2 off2 cap2 r2 _ (w.heap.size + 1) _ (hown2.below hb3) (by omega) hasc2.out.1 (Nat.le_trans hz hb3.size)).mono ?_; rintro e w4 ⟨b', off', cap', r3, rfl, hown', hasc', hmem', hb4⟩))
                    have hA' := hid (hput2.out r3 hasc' hmem')
                    have hP' := hid ((hput1.out r3 hmem').more (P' := fun i' k' => i' < a ∨ (i' = a ∧ k' < m + 1)) (fun _ h => h) (fun i' k' h => by omega))
                    have E4 := bgo hb3 hb4
                    clear K hown2 hasc2 hprs2 hput1 hput2 hmem' hasc'
                    go_wp2
                    go_roundw
                    case rel => exact ⟨m + 1, b', off', cap', r3, by omega, by go_num, rfl, hown', hA', hP', bgo hbw2 E4, bgo hbm2 E4⟩
                    case measure => simp [intOf]; omega
                  · have hmC : m = C.length := by omega
                    have hP' : Hid (Prs l D C r2 (fun i' k' => i' < a + 1)) := hid (fun i' k' hi hk h => hprs2.out i' k' hi hk (by omega))
                    go_wp2
                    go_roundw
                    case rel => exact ⟨a + 1, b2, off2, cap2, r2, by omega, by go_num, rfl, hown2, hasc2, hP', hbw2, hbm2⟩
                    case measure => simp [intOf]; omega
              · obtain rfl : a = D.length := by omega
                have hfin := hid (spec_subs hg.out hpn.out hcyc.out hprsD.out hasc1.out hprs1.out)
                rw [← hR.out] at hfin
                rw [hfin.out] at hown1 ⊢
                go_wp2
                go_ret2
                exact ⟨_, _, rfl, hown1.lower (Nat.le_succ _), hbw1⟩
end Go.Proofs.Ytknbfohmobjplaa
