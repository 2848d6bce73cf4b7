/- What ElementOf computes, the program's and the reference's. Conditions: at most 2^20 orders and places. -/
import Derived.Test.YtknbfohmobjplabMGa
import Derived.Test.YtknbfohmobjplabMPl
namespace Go.Proofs.Ytknbfohmobjplab
open Go.RowKit

theorem ielement_any (v u : Value) (l q : List Int) (w : World) (hr : Rd w w.heap.size .i64 v l) (hs : Rd w w.heap.size .i64 u q) (hg : isGroup l = true) (hok : okPlaces l q = true) :
    Calls Try.prog 73 #[.agg #[v], u] w fun e w' => e = .returned (.int .i64 (elemOf l q)) ∧ Below w.heap.size w w' := by
  obtain ⟨ao, cap, rfl, _, _, hrd⟩ := hr
  obtain ⟨bo, dap, rfl, _, _, hsd⟩ := hs
  have hl3 := isGroup.len hg
  have hlen := ((okPlaces_iff l q).1 hok).1
  have hget := ((okPlaces_iff l q).1 hok).2
  have hsm := elemOf_small hg hok
  obtain ⟨G, hG⟩ : ∃ G, G = elemOf l q := ⟨_, rfl⟩
  rw [← hG]
  obtain ⟨n, hN⟩ : ∃ n, n = q.length := ⟨_, rfl⟩
  have hNl : n = l.length := by omega
  rw [← hN]
  rw [← hNl] at hl3 ⊢
  replace hG := hid hG
  replace hN := hid hN
  replace hNl := hid hNl
  replace hg := hid hg
  replace hrd := hid hrd
  replace hsd := hid hsd
  replace hget := hid hget
  replace hsm := hid hsm
  clear hlen hok
  have en : IntKind.i64.wrap ((n : Int) - 1) = (n : Int) - 1 := IntWalk.i64_in _ (by omega)
  go_enter Try.func73, Try.ntmps73
  go_wp2
  go_loopw [5, 6] (fun x i wr => ∃ k : Nat, k ≤ n ∧ i = .int .i64 ((k : Int) - 1) ∧ x = .int .i64 (elemOf (l.drop k) (q.drop k)) ∧ Below w.heap.size w wr ∧ wr.cell? ⟨w.heap.size, 0, none⟩ = some (.slice ao n cap)) (fun _ i _ => (intOf i + 1).toNat)
  case atStart => exact ⟨n, by omega, by go_num, by rw [List.drop_eq_nil_of_le (by rw [← hNl.out]; exact Nat.le_refl _)]; rfl, below_alloc _ _, by simp [go_sem]⟩
  case round =>
    obtain ⟨k, hk, rfl, rfl, hb, hc⟩ := hrel
    by_cases h0 : k = 0
    · subst h0
      have hfin : elemOf (l.drop 0) (q.drop 0) = G := by rw [hG.out]; rfl
      rw [hfin]
      go_wp2
      go_ret
      exact ⟨rfl, hb⟩
    · obtain ⟨j, rfl⟩ : ∃ j, k = j + 1 := ⟨k - 1, by omega⟩
      have hj1 : j < l.length := by rw [← hNl.out]; omega
      have hj2 : j < q.length := by rw [← hN.out]; omega
      obtain ⟨b, off, rfl, hB, hcell⟩ := hrd.out (by omega)
      obtain ⟨b2, off2, rfl, hB2, hcell2⟩ := hsd.out (by omega)
      have hc1 := (hb.cell (p := ⟨b, off + j, none⟩) hB).trans (hcell j hj1)
      have hc2 := (hb.cell (p := ⟨b2, off2 + j, none⟩) hB2).trans (hcell2 j hj2)
      have hst := elemOf_drop hj1 hj2
      have hs1 := hsm.out (j + 1)
      have hs0 := hsm.out j
      have hgt := hget.out j hj1 hj2
      have ho := ((isGroup_iff l).1 hg.out).2.1 _ (List.getElem_mem hj1)
      rw [hst] at hs0
      obtain ⟨o, hO⟩ : ∃ o, o = l[j] := ⟨_, rfl⟩
      obtain ⟨p, hP⟩ : ∃ p, p = q[j] := ⟨_, rfl⟩
      obtain ⟨x, hX⟩ : ∃ x, x = elemOf (l.drop (j + 1)) (q.drop (j + 1)) := ⟨_, rfl⟩
      rw [← hO] at hc1 hst hs0 hgt ho
      rw [← hP] at hc2 hst hs0 hgt
      rw [← hX] at hst hs1 hs0 ⊢
      have hst2 : elemOf (l.drop j) (q.drop j) = x * o + p := by rw [hst, Int.mul_comm]; omega
      have hox : 0 ≤ x * o := Int.mul_nonneg (by omega) (by omega)
      rw [Int.mul_comm o x] at hs0
      have ej : ((j : Int) + 1 : Int) - 1 = j := by omega
      have ej2 : ((j + 1 : Nat) : Int) - 1 = (j : Int) := by omega
      rw [ej2]
      replace hst2 := hid hst2
      clear hst hcell hcell2 hO hP hX ej ej2
      go_wp2
      go_quiet (fail)
      go_wp2
      go_roundw
      case rel => exact ⟨j, by omega, by go_num, by rw [hst2.out], hb.trans (below_drewN _ _ _), hc⟩
      case measure => simp [intOf]
def elE (l q : List Int) : Bool := isGroup l && okPlaces l q
theorem iElementOf_any (v u : Value) (l q : List Int) (w : World) (hr : Rd w w.heap.size .i64 v l) (hs : Rd w w.heap.size .i64 u q) (hn : l.length ≤ 1048576) (hm : q.length ≤ 1048576) :
    Calls Try.prog 16 #[.agg #[v], u] w fun e w' => e = .returned (if elE l q then .tuple #[.int .i64 (elemOf l q), .bool true] else .tuple #[.int .i64 0, .bool false]) ∧ Below w.heap.size w w' := by
  cases hg : isGroup l
  · have hI : ∀ w : World, Rd w w.heap.size .i64 v l → Calls Try.prog 25 #[.agg #[v]] w fun e w' => e = .returned (.bool false) ∧ Below w.heap.size w w' := fun w hr => by rw [← hg]; exact iIsGroup_any v l w hr (by omega)
    rw [if_neg (by unfold elE; rw [hg]; simp)]
    clear hg
    go_enter Try.func16, Try.ntmps16
    go_wp2_with (go_at_call 25; refine (hI _ ((hr.alloc (Nat.le_refl _) _).more (by simp))).mono ?_; rintro e w1 ⟨rfl, hb⟩)
    go_ret2
    exact ⟨rfl, (below_alloc _ _).trans (hb.mono (by simp))⟩
  · have hI : ∀ w : World, Rd w w.heap.size .i64 v l → Calls Try.prog 25 #[.agg #[v]] w fun e w' => e = .returned (.bool true) ∧ Below w.heap.size w w' := fun w hr => by rw [← hg]; exact iIsGroup_any v l w hr (by omega)
    have hl3 := isGroup.len hg
    by_cases hlen : q.length = l.length
    · have hr0 := hid hr
      have hs0 := hid hs
      obtain ⟨ao, cap, rfl, _, _, hrd⟩ := hr
      obtain ⟨bo, dap, rfl, _, _, hsd⟩ := hs
      obtain ⟨n, hN⟩ : ∃ n, n = q.length := ⟨_, rfl⟩
      rw [← hN] at hlen
      rw [← hlen] at hl3 ⊢
      rw [← hN]
      have hel : elE l q = okPlaces l q := by unfold elE; rw [hg]; rfl
      rw [hel]
      obtain ⟨V, hV⟩ : ∃ V : Value, V = if okPlaces l q = true then .tuple #[.int .i64 (elemOf l q), .bool true] else .tuple #[.int .i64 0, .bool false] := ⟨_, rfl⟩
      rw [← hV]
      replace hV := hid hV
      replace hN := hid hN
      replace hlen := hid hlen
      replace hg := hid hg
      replace hrd := hid hrd
      replace hsd := hid hsd
      replace hI := hid hI
      clear hel
      go_enter Try.func16, Try.ntmps16
      go_wp2_with fail
      rw [hlen.out]
      refine (hI.out _ ((hr0.out.alloc (Nat.le_refl _) _).more (by simp))).mono ?_
      rw [← hlen.out]
      rintro e w1 ⟨rfl, hb1⟩
      have D1 : Below w.heap.size w w1 := by refine Below.trans ?_ (hb1.mono ?_) <;> go_grown
      have c1 : w1.cell? ⟨w.heap.size, 0, none⟩ = some (.slice ao n cap) := by rw [hb1.cell (show w.heap.size < _ by simp)]; simp [go_sem]
      have hz1 : w.heap.size < w1.heap.size := by have := hb1.size; simp at this; omega
      clear hb1
      go_wp2
      go_loopw [21] (fun i wr => ∃ k : Nat, k ≤ n ∧ i = .int .i64 k ∧ Hid (∀ j (h1 : j < l.length) (h2 : j < q.length), j < k → 0 ≤ q[j] ∧ q[j] < l[j]) ∧ Below w.heap.size w wr ∧ w.heap.size < wr.heap.size ∧ wr.cell? ⟨w.heap.size, 0, none⟩ = some (.slice ao n cap)) (fun i _ => n - (intOf i).toNat)
      case atStart => exact ⟨0, by omega, rfl, (fun j _ _ h => by omega), D1, hz1, c1⟩
      case round =>
        obtain ⟨k, hk, rfl, hall, hb, hz, hc⟩ := hrel
        by_cases hlt : k < n
        · have hj1 : k < l.length := by rw [← hlen.out]; omega
          have hj2 : k < q.length := by rw [← hN.out]; omega
          obtain ⟨b, off, rfl, hB, hcell⟩ := hrd.out (by omega)
          obtain ⟨b2, off2, rfl, hB2, hcell2⟩ := hsd.out (by omega)
          have hc1 := (hb.cell (p := ⟨b, off + k, none⟩) hB).trans (hcell k hj1)
          have hc2 := (hb.cell (p := ⟨b2, off2 + k, none⟩) hB2).trans (hcell2 k hj2)
          have ho := ((isGroup_iff l).1 hg.out).2.1 _ (List.getElem_mem hj1)
          have hnext : (0 ≤ q[k] ∧ q[k] < l[k]) → ∀ j (h1 : j < l.length) (h2 : j < q.length), j < k + 1 → 0 ≤ q[j] ∧ q[j] < l[j] := by
            intro h j h1 h2 h3
            rcases Nat.lt_or_eq_of_le (Nat.le_of_lt_succ h3) with h4 | h4
            · exact hall.out j h1 h2 h4
            · subst h4; exact h
          have hbad : ¬ (0 ≤ q[k] ∧ q[k] < l[k]) → okPlaces l q = false := by
            intro h
            cases hok : okPlaces l q
            · rfl
            · exact absurd (((okPlaces_iff l q).1 hok).2 k hj1 hj2) h
          obtain ⟨o, hO⟩ : ∃ o, o = l[k] := ⟨_, rfl⟩
          obtain ⟨p, hP⟩ : ∃ p, p = q[k] := ⟨_, rfl⟩
          rw [← hO] at hc1 ho hnext hbad
          rw [← hP] at hc2 hnext hbad
          replace hnext := hid hnext
          replace hbad := hid hbad
          clear hcell hcell2 hO hP hall
          by_cases hp : 0 ≤ p ∧ p < o
          · go_wp2_with (go_at_call 72; refine (iwithin_yes _ _ _ (by omega) _).mono ?_; rintro e w' ⟨rfl, rfl⟩)
            go_roundw
            case rel => exact ⟨k + 1, by omega, by go_num, hnext.out hp, hb, hz, hc⟩
            case measure => simp [intOf]; omega
          · have hf := hid (hbad.out hp)
            go_wp2_with (go_at_call 72; refine (iwithin_no _ _ _ (by omega) _).mono ?_; rintro e w' ⟨rfl, rfl⟩)
            go_ret2
            exact ⟨by rw [hV.out, hf.out]; rfl, hb⟩
        · have hok : okPlaces l q = true := (okPlaces_iff l q).2 ⟨by rw [← hlen.out, ← hN.out], fun i h1 h2 => hall.out i h1 h2 (by have := hN.out; omega)⟩
          have hE : ∀ w : World, Rd w w.heap.size .i64 (.slice ao n cap) l → Rd w w.heap.size .i64 (.slice bo n dap) q → Calls Try.prog 73 #[.agg #[.slice ao n cap], .slice bo n dap] w fun e w' => e = .returned (.int .i64 (elemOf l q)) ∧ Below w.heap.size w w' := fun w h1 h2 => ielement_any _ _ l q w h1 h2 hg.out hok
          have h1 := hr0.out
          rw [← hlen.out] at h1
          have h2 := hs0.out
          rw [← hN.out] at h2
          have hVy := hV.out
          rw [if_pos hok] at hVy
          replace hVy := hid hVy
          replace hok := hid hok
          go_wp2_with fail
          refine (hE _ ((h1.below hb).more hb.size) ((h2.below hb).more hb.size)).mono ?_
          rintro e w2 ⟨rfl, hb2⟩
          go_wp2
          go_ret2
          exact ⟨by rw [hVy.out]; rfl, bgo hb hb2⟩
    · have hne : elE l q = false := by
        unfold elE
        cases ho : okPlaces l q
        · simp
        · exact absurd ((okPlaces_iff l q).1 ho).1.symm hlen
      rw [if_neg (by rw [hne]; simp)]
      have hbq : (((q.length : Nat) : Int) == ((l.length : Nat) : Int)) = false := by rw [beq_eq_false_iff_ne]; omega
      have hbn : (((q.length : Nat) : Int) != ((l.length : Nat) : Int)) = true := by rw [bne_iff_ne]; omega
      have hr0 := hid hr
      obtain ⟨ao, cap, rfl, _, _, hrd⟩ := hr
      obtain ⟨bo, dap, rfl, _, _, hsd⟩ := hs
      replace hI := hid hI
      clear hne hrd hsd hg
      go_enter Try.func16, Try.ntmps16
      go_wp2_with fail
      refine (hI.out _ ((hr0.out.alloc (Nat.le_refl _) _).more (by simp))).mono ?_
      rintro e w1 ⟨rfl, hb1⟩
      have D1 : Below w.heap.size w w1 := by refine Below.trans ?_ (hb1.mono ?_) <;> go_grown
      have c1 : w1.cell? ⟨w.heap.size, 0, none⟩ = some (.slice ao l.length cap) := by rw [hb1.cell (show w.heap.size < _ by simp)]; simp [go_sem]
      clear hb1
      go_wp2
      go_ret2
      exact ⟨rfl, D1⟩
end Go.Proofs.Ytknbfohmobjplab
