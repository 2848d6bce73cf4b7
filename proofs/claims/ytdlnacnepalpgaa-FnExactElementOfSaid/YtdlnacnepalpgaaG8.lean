/- What the reference's ElementOf computes. Conditions: at most 2^20 orders and places. -/
import Derived.Test.YtdlnacnepalpgaaG7
namespace Go.Proofs.Ytdlnacnepalpgaa
open Go.RowKit

theorem okPlaces_at {l q : List Int} {k : Nat} (h1 : k < l.length) (h2 : k < q.length) (h : 0 ≤ q[k] ∧ q[k] < l[k]) (hr : okPlaces (l.drop (k + 1)) (q.drop (k + 1)) = true) : okPlaces (l.drop k) (q.drop k) = true := by
  rw [List.drop_eq_getElem_cons h1, List.drop_eq_getElem_cons h2, okPlaces, decide_eq_true h, hr]
  rfl
theorem elemOf_small' {l q : List Int} (hg : isGroup l = true) (k : Nat) (hok : okPlaces (l.drop k) (q.drop k) = true) : 0 ≤ elemOf (l.drop k) (q.drop k) ∧ elemOf (l.drop k) (q.drop k) < 24 := by
  have h1 := elemOf_bd (l.drop k) (q.drop k) ((isGroup.big hg).drop k) hok
  have h2 := prodL_drop_le (isGroup.big hg) k
  have h3 := isGroup.prod hg
  omega
theorem sElementOf_group (v u : Value) (l q : List Int) (w : World) (hr : Rd w w.heap.size .i64 v l) (hs : Rd w w.heap.size .i64 u q) (hg : isGroup l = true) (hlen : q.length = l.length) :
    Calls Try.prog 59 #[.agg #[v], u] w fun e w' => e = .returned (if elE l q then .tuple #[.int .i64 (elemOf l q), .bool true] else .tuple #[.int .i64 0, .bool false]) ∧ Below w.heap.size w w' := by
  have hI : ∀ w : World, Rd w w.heap.size .i64 v l → Calls Try.prog 21 #[.agg #[v]] w fun e w' => e = .returned (.bool true) ∧ Below w.heap.size w w' := fun w hr => by rw [← hg]; exact sIsGroup_any v l w hr (by have := isGroup.len hg; omega)
  have hl3 := isGroup.len hg
  have hr0 := hid hr
  have hs0 := hid hs
  obtain ⟨ao, cap, rfl, _, _, hrd⟩ := hr
  obtain ⟨bo, dap, rfl, _, _, hsd⟩ := hs
  obtain ⟨n, hN⟩ : ∃ n, n = q.length := ⟨_, rfl⟩
  rw [← hN] at hlen
  rw [← hlen] at hl3 ⊢
  rw [← hN]
  have hel : elE l q = okPlaces l q := by unfold elE; rw [hg]; rfl
  rw [hel]
  obtain ⟨V, hV⟩ : ∃ V : Value, V = if okPlaces l q = true then .tuple #[.int .i64 (elemOf l q), .bool true] else .tuple #[.int .i64 0, .bool false] := ⟨_, rfl⟩
  rw [← hV]
  replace hV := hid hV
  replace hN := hid hN
  replace hlen := hid hlen
  replace hg := hid hg
  replace hrd := hid hrd
  replace hsd := hid hsd
  replace hI := hid hI
  clear hel
  have en : IntKind.i64.wrap ((n : Int) - 1) = (n : Int) - 1 := IntWalk.i64_in _ (by omega)
  go_enter Try.func59, Try.ntmps59
  go_wp2_with fail
  rw [hlen.out]
  refine (hI.out _ ((hr0.out.alloc (Nat.le_refl _) _).more (by simp))).mono ?_
  rw [← hlen.out]
  rintro e w1 ⟨rfl, hb1⟩
  have D1 : Below w.heap.size w w1 := by refine Below.trans ?_ (hb1.mono ?_) <;> go_grown
  have c1 : w1.cell? ⟨w.heap.size, 0, none⟩ = some (.slice ao n cap) := by rw [hb1.cell (show w.heap.size < _ by simp)]; simp [go_sem]
  have hz1 : w.heap.size < w1.heap.size := by have := hb1.size; simp at this; omega
  clear hb1
  go_wp2
  go_loopw [6, 7] (fun x i wr => ∃ k : Nat, k ≤ n ∧ i = .int .i64 ((k : Int) - 1) ∧ x = .int .i64 (elemOf (l.drop k) (q.drop k)) ∧ Hid (okPlaces (l.drop k) (q.drop k) = true) ∧ Below w.heap.size w wr ∧ wr.cell? ⟨w.heap.size, 0, none⟩ = some (.slice ao n cap)) (fun _ i _ => (intOf i + 1).toNat)
  case atStart => exact ⟨n, by omega, by go_num, by rw [List.drop_eq_nil_of_le (by rw [← hlen.out]; exact Nat.le_refl _)]; rfl, by rw [List.drop_eq_nil_of_le (by rw [← hlen.out]; exact Nat.le_refl _), List.drop_eq_nil_of_le (by rw [← hN.out]; exact Nat.le_refl _)]; rfl, D1, c1⟩
  case round =>
    obtain ⟨k, hk, rfl, rfl, hok, hb, hc⟩ := hrel
    by_cases h0 : k = 0
    · subst h0
      have hVy := hV.out
      have hok0 : okPlaces l q = true := hok.out
      rw [if_pos hok0] at hVy
      have hfin : elemOf (l.drop 0) (q.drop 0) = elemOf l q := rfl
      rw [hfin]
      replace hVy := hid hVy
      clear hok hok0
      go_wp2
      go_ret2
      exact ⟨by rw [hVy.out]; rfl, hb⟩
    · obtain ⟨j, rfl⟩ : ∃ j, k = j + 1 := ⟨k - 1, by omega⟩
      have hj1 : j < l.length := by rw [← hlen.out]; omega
      have hj2 : j < q.length := by rw [← hN.out]; omega
      obtain ⟨b, off, rfl, hB, hcell⟩ := hrd.out (by omega)
      obtain ⟨b2, off2, rfl, hB2, hcell2⟩ := hsd.out (by omega)
      have hc1 := (hb.cell (p := ⟨b, off + j, none⟩) hB).trans (hcell j hj1)
      have hc2 := (hb.cell (p := ⟨b2, off2 + j, none⟩) hB2).trans (hcell2 j hj2)
      have hst := elemOf_drop hj1 hj2
      have hs1 := elemOf_small' hg.out (j + 1) hok.out
      have ho := ((isGroup_iff l).1 hg.out).2.1 _ (List.getElem_mem hj1)
      have hnext : (0 ≤ q[j] ∧ q[j] < l[j]) → okPlaces (l.drop j) (q.drop j) = true := fun h => okPlaces_at hj1 hj2 h hok.out
      have hs0 : (0 ≤ q[j] ∧ q[j] < l[j]) → 0 ≤ q[j] + l[j] * elemOf (l.drop (j + 1)) (q.drop (j + 1)) ∧ q[j] + l[j] * elemOf (l.drop (j + 1)) (q.drop (j + 1)) < 24 := fun h => by
        have := elemOf_small' hg.out j (hnext h)
        rw [hst] at this
        exact this
      have hbad : ¬ (0 ≤ q[j] ∧ q[j] < l[j]) → okPlaces l q = false := by
        intro h
        cases hk : okPlaces l q
        · rfl
        · exact absurd (((okPlaces_iff l q).1 hk).2 j hj1 hj2) h
      obtain ⟨o, hO⟩ : ∃ o, o = l[j] := ⟨_, rfl⟩
      obtain ⟨p, hP⟩ : ∃ p, p = q[j] := ⟨_, rfl⟩
      obtain ⟨x, hX⟩ : ∃ x, x = elemOf (l.drop (j + 1)) (q.drop (j + 1)) := ⟨_, rfl⟩
      rw [← hO] at hc1 hst hs0 ho hnext hbad
      rw [← hP] at hc2 hst hs0 hnext hbad
      rw [← hX] at hst hs1 hs0 ⊢
      have hst2 : elemOf (l.drop j) (q.drop j) = x * o + p := by rw [hst, Int.mul_comm]; omega
      have hox : 0 ≤ x * o := Int.mul_nonneg (by omega) (by omega)
      rw [Int.mul_comm o x] at hs0
      have ej : ((j + 1 : Nat) : Int) - 1 = (j : Int) := by omega
      rw [ej]
      replace hst2 := hid hst2
      replace hnext := hid hnext
      replace hbad := hid hbad
      clear hst hcell hcell2 hO hP hX ej hok
      by_cases hp : 0 ≤ p ∧ p < o
      · have hs0' := hs0 hp
        clear hs0
        go_wp2
        go_quiet ((go_at_call 63; exact qsame (sl1In_yes _ _ _ (by omega) _)))
        go_wp2
        go_quiet (fail)
        go_wp2
        go_roundw
        case rel => exact ⟨j, by omega, by go_num, by rw [hst2.out], hnext.out hp, hb.trans (below_drewN _ _ _), hc⟩
        case measure => simp [intOf]
      · have hf := hid (hbad.out hp)
        clear hs0
        go_wp2
        go_quiet ((go_at_call 63; exact qsame (sl1In_no _ _ _ (by omega) _)))
        go_wp2
        go_ret2
        exact ⟨by rw [hV.out, hf.out]; rfl, hb.trans (below_drewN _ _ _)⟩
theorem sElementOf_any (v u : Value) (l q : List Int) (w : World) (hr : Rd w w.heap.size .i64 v l) (hs : Rd w w.heap.size .i64 u q) (hn : l.length ≤ 1048576) (_hm : q.length ≤ 1048576) :
    Calls Try.prog 59 #[.agg #[v], u] w fun e w' => e = .returned (if elE l q then .tuple #[.int .i64 (elemOf l q), .bool true] else .tuple #[.int .i64 0, .bool false]) ∧ Below w.heap.size w w' := by
  cases hg : isGroup l
  · have hI : ∀ w : World, Rd w w.heap.size .i64 v l → Calls Try.prog 21 #[.agg #[v]] w fun e w' => e = .returned (.bool false) ∧ Below w.heap.size w w' := fun w hr => by rw [← hg]; exact sIsGroup_any v l w hr (by omega)
    rw [if_neg (by unfold elE; rw [hg]; simp)]
    clear hg
    go_enter Try.func59, Try.ntmps59
    go_wp2_with (go_at_call 21; refine (hI _ ((hr.alloc (Nat.le_refl _) _).more (by simp))).mono ?_; rintro e w1 ⟨rfl, hb⟩)
    go_ret2
    exact ⟨rfl, (below_alloc _ _).trans (hb.mono (by simp))⟩
  · by_cases hlen : q.length = l.length
    · exact sElementOf_group v u l q w hr hs hg hlen
    · have hI : ∀ w : World, Rd w w.heap.size .i64 v l → Calls Try.prog 21 #[.agg #[v]] w fun e w' => e = .returned (.bool true) ∧ Below w.heap.size w w' := fun w hr => by rw [← hg]; exact sIsGroup_any v l w hr (by omega)
      have hne : elE l q = false := by
        unfold elE
        cases ho : okPlaces l q
        · simp
        · exact absurd ((okPlaces_iff l q).1 ho).1.symm hlen
      rw [if_neg (by rw [hne]; simp)]
      have hbq : (((q.length : Nat) : Int) == ((l.length : Nat) : Int)) = false := by rw [beq_eq_false_iff_ne]; omega
      have hbn : (((q.length : Nat) : Int) != ((l.length : Nat) : Int)) = true := by rw [bne_iff_ne]; omega
      have hr0 := hid hr
      obtain ⟨ao, cap, rfl, _, _, hrd⟩ := hr
      obtain ⟨bo, dap, rfl, _, _, hsd⟩ := hs
      replace hI := hid hI
      clear hne hrd hsd hg
      go_enter Try.func59, Try.ntmps59
      go_wp2_with fail
      refine (hI.out _ ((hr0.out.alloc (Nat.le_refl _) _).more (by simp))).mono ?_
      rintro e w1 ⟨rfl, hb1⟩
      have D1 : Below w.heap.size w w1 := by refine Below.trans ?_ (hb1.mono ?_) <;> go_grown
      have c1 : w1.cell? ⟨w.heap.size, 0, none⟩ = some (.slice ao l.length cap) := by rw [hb1.cell (show w.heap.size < _ by simp)]; simp [go_sem]
      clear hb1
      go_wp2
      go_ret2
      exact ⟨rfl, D1⟩
end Go.Proofs.Ytdlnacnepalpgaa
