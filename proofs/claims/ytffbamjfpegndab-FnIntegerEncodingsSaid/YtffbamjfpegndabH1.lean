/- What the laws' helpers do: sizes, copies, comparisons, marks. Conditions: slices of at most 2^30 numbers. -/
import Derived.Test.YtffbamjfpegndabKitG
namespace Go.Proofs.Ytffbamjfpegndab
open Go.RowKit

theorem info_int : (Try.prog.info? 3).map (fun i => (i.zero, i.size, i.bytes)) = some (some (.int .i64 0), 1, 8) := by kernel_rfl

theorem szIntS_any (ao : Option Addr) (n cap : Nat) (left : Int) (w : World) (hn : n ≤ maxLen) (h0 : 0 ≤ left) (h1 : left ≤ 1048576) :
    Calls Try.prog 40 #[.slice ao n cap, .int .i64 left] w fun e w' => e = .returned (.int .i64 (if (n : Int) ≤ left then left - n else -1)) ∧ Below w.heap.size w w' := by
  unfold maxLen at hn
  by_cases h : (n : Int) ≤ left
  · rw [if_pos h]
    go_enter Try.func40, Try.ntmps40
    go_wp2
    go_ret
    exact ⟨rfl, Below.refl _ _⟩
  · rw [if_neg h]
    go_enter Try.func40, Try.ntmps40
    go_wp2
    go_ret
    exact ⟨rfl, Below.refl _ _⟩
theorem szGroup_any (ao : Option Addr) (n cap : Nat) (left : Int) (w : World) (hn : n ≤ maxLen) (h0 : 0 ≤ left) (h1 : left ≤ 1048576) :
    Calls Try.prog 9 #[.agg #[.slice ao n cap], .int .i64 left] w fun e w' => e = .returned (.int .i64 (if (n : Int) ≤ left then left - n else -1)) ∧ Below w.heap.size w w' := by
  by_cases h : (n : Int) ≤ left
  · rw [if_pos h]
    have e : (if (n : Int) ≤ left then left - n else -1) = left - n := if_pos h
    have h2 : ¬ (left - n < 0) := by omega
    go_enter Try.func9, Try.ntmps9
    go_wp2_with (go_at_call 40; refine (szIntS_any _ _ _ _ _ hn h0 h1).mono ?_; rw [e]; rintro e w' ⟨rfl, hb⟩)
    go_ret
    exact ⟨rfl, ((Below.refl _ _).alloc (Nat.le_refl _) _).trans (hb.mono (by simp))⟩
  · rw [if_neg h]
    have e : (if (n : Int) ≤ left then left - n else -1) = -1 := if_neg h
    go_enter Try.func9, Try.ntmps9
    go_wp2_with (go_at_call 40; refine (szIntS_any _ _ _ _ _ hn h0 h1).mono ?_; rw [e]; rintro e w' ⟨rfl, hb⟩)
    go_ret
    exact ⟨rfl, ((Below.refl _ _).alloc (Nat.le_refl _) _).trans (hb.mono (by simp))⟩

theorem toIntS_any (v : Value) (l : List Int) (w : World) (hr : Rd w w.heap.size .i64 v l) (hn : l.length ≤ 1073741824) :
    Calls Try.prog 12 #[v] w fun e w' => ∃ ao cap, e = .returned (.slice ao l.length cap) ∧ Own w' w.heap.size 3 .i64 (.slice ao l.length cap) l ∧ Below w.heap.size w w' := by
  obtain ⟨ao, cap, rfl, hc1, hc2, hrd⟩ := hr
  obtain ⟨n, hN⟩ : ∃ n, n = l.length := ⟨_, rfl⟩
  rw [← hN] at hn hc1 ⊢
  have hmk := make_full (P := Try.prog) Try.underlying22 info_int (by decide) n (by omega)
  replace hN := hid hN
  replace hrd := hid hrd
  go_enter Try.func12, Try.ntmps12
  go_wp2
  clear hmk
  go_loopw [4] (fun i wr => ∃ j : Nat, j ≤ n ∧ i = .int .i64 j ∧ Own wr w.heap.size 3 .i64 (.slice (some ⟨w.heap.size, 0, none⟩) n n) (l.take j ++ List.replicate (n - j) 0) ∧ Below w.heap.size w wr) (fun i _ => n - (intOf i).toNat)
  case atStart => exact ⟨0, by omega, rfl, by simpa using Own.made w w.heap.size 3 .i64 n (by omega) (Nat.le_refl _), (Below.refl _ _).alloc (Nat.le_refl _) _⟩
  case round =>
    obtain ⟨j, hj, rfl, hown, hb⟩ := hrel
    by_cases hlt : j < n
    · obtain ⟨b, off, rfl, hbB, hcell⟩ := hrd.out (by rw [← hN.out]; omega)
      have hjl : j < l.length := by rw [← hN.out]; exact hlt
      have hca := (hb.cell (p := ⟨b, off + j, none⟩) hbB).trans (hcell j hjl)
      obtain ⟨x, hx⟩ : ∃ x, x = l[j] := ⟨_, rfl⟩
      rw [← hx] at hca
      obtain ⟨c0, hc⟩ := hown.some_ j (by rw [List.length_append, List.length_take, List.length_replicate]; omega)
      have hf := hown.frozen j
      have hst := hown.store j x
      have hset : (l.take j ++ List.replicate (n - j) 0).set j x = l.take (j + 1) ++ List.replicate (n - (j + 1)) 0 := by
        rw [List.set_append_right _ _ (by rw [List.length_take]; omega), List.length_take, Nat.min_eq_left (by omega), Nat.sub_self,
          show n - j = (n - (j + 1)) + 1 by omega, List.replicate_succ, List.set_cons_zero, take_succ_get l j hjl, ← hx, List.append_assoc]
        rfl
      rw [hset] at hst
      replace hst := hid hst
      clear hset hx hown hcell
      go_wp2
      go_roundw
      case rel => exact ⟨j + 1, by omega, by go_num, hst.out, hb.setCell (Nat.le_refl _) _⟩
      case measure => simp [intOf]; omega
    · obtain rfl : j = n := by omega
      have hown2 : Own wr w.heap.size 3 .i64 (.slice (some ⟨w.heap.size, 0, none⟩) j j) l := by
        have e : l.take j = l := List.take_of_length_le (by rw [← hN.out]; exact Nat.le_refl _)
        rw [e] at hown
        simpa using hown
      clear hown
      go_wp2
      go_ret
      exact ⟨_, _, rfl, hown2, hb⟩

theorem eqIntS_any (v1 v2 : Value) (l1 l2 : List Int) (w : World) (hr1 : Rd w w.heap.size .i64 v1 l1) (hr2 : Rd w w.heap.size .i64 v2 l2) (hn1 : l1.length ≤ 1073741824) :
    Calls Try.prog 15 #[v1, v2] w fun e w' => e = .returned (.bool (eqL l1 l2)) ∧ Below w.heap.size w w' := by
  obtain ⟨ao1, cap1, rfl, _, _, hrd1⟩ := hr1
  obtain ⟨ao2, cap2, rfl, _, _, hrd2⟩ := hr2
  by_cases hl : l1.length = l2.length
  · obtain ⟨n, hN⟩ : ∃ n, n = l1.length := ⟨_, rfl⟩
    have hN2 : n = l2.length := by omega
    rw [← hN, ← hN2]
    replace hN := hid hN
    replace hN2 := hid hN2
    replace hrd1 := hid hrd1
    replace hrd2 := hid hrd2
    clear hl
    have hn : n ≤ 1073741824 := by rw [hN.out]; exact hn1
    clear hn1
    go_enter Try.func15, Try.ntmps15
    go_wp2
    go_loopw [5] (fun i wr => ∃ j : Nat, j ≤ n ∧ i = .int .i64 j ∧ Hid (l1.take j = l2.take j) ∧ Below w.heap.size w wr) (fun i _ => n - (intOf i).toNat)
    case atStart => exact ⟨0, by omega, rfl, rfl, Below.refl _ _⟩
    case round =>
      obtain ⟨j, hj, rfl, heq, hb⟩ := hrel
      by_cases hlt : j < n
      · obtain ⟨b1, off1, rfl, hB1, hcell1⟩ := hrd1.out (by rw [← hN.out]; omega)
        obtain ⟨b2, off2, rfl, hB2, hcell2⟩ := hrd2.out (by rw [← hN2.out]; omega)
        have hj1 : j < l1.length := by rw [← hN.out]; exact hlt
        have hj2 : j < l2.length := by rw [← hN2.out]; exact hlt
        have hc1 := (hb.cell (p := ⟨b1, off1 + j, none⟩) hB1).trans (hcell1 j hj1)
        have hc2 := (hb.cell (p := ⟨b2, off2 + j, none⟩) hB2).trans (hcell2 j hj2)
        have ht1 := take_succ_get l1 j hj1
        have ht2 := take_succ_get l2 j hj2
        have hmem : l1 = l2 → l1[j] = l2[j] := fun h => by subst h; rfl
        obtain ⟨x, hx⟩ : ∃ x, x = l1[j] := ⟨_, rfl⟩
        obtain ⟨y, hy⟩ : ∃ y, y = l2[j] := ⟨_, rfl⟩
        rw [← hx] at hc1 ht1 hmem
        rw [← hy] at hc2 ht2 hmem
        clear hcell1 hcell2 hx hy
        by_cases hxy : x = y
        · subst hxy
          have hnext := hid (show l1.take (j + 1) = l2.take (j + 1) by rw [ht1, ht2, heq.out])
          clear ht1 ht2 hmem heq
          go_wp2
          go_quiet (fail)
          go_wp2
          go_roundw
          case rel => exact ⟨j + 1, by omega, by go_num, hnext, hb.trans (below_drewN _ _ _)⟩
          case measure => simp [intOf]; omega
        · have hne : eqL l1 l2 = false := decide_eq_false fun h => hxy (hmem h)
          have hbq : (x == y) = false := by rw [beq_eq_false_iff_ne]; exact hxy
          have hbn : (x != y) = true := by rw [bne_iff_ne]; exact hxy
          replace hne := hid hne
          clear ht1 ht2 hmem heq hxy
          go_wp2
          go_quiet (fail)
          go_wp2
          go_ret
          exact ⟨by rw [hne.out]; rfl, hb.trans (below_drewN _ _ _)⟩
      · have hye : eqL l1 l2 = true := by
          refine decide_eq_true ?_
          have h := heq.out
          rw [List.take_of_length_le (by rw [← hN.out]; omega), List.take_of_length_le (by rw [← hN2.out]; omega)] at h
          exact h
        replace hye := hid hye
        go_wp2
        go_ret
        exact ⟨by rw [hye.out]; rfl, hb⟩
  · have hne : eqL l1 l2 = false := decide_eq_false fun h => hl (by rw [h])
    replace hne := hid hne
    have hbq : (((l1.length : Nat) : Int) == ((l2.length : Nat) : Int)) = false := by rw [beq_eq_false_iff_ne]; omega
    have hbn : (((l1.length : Nat) : Int) != ((l2.length : Nat) : Int)) = true := by rw [bne_iff_ne]; omega
    go_enter Try.func15, Try.ntmps15
    go_wp2
    go_ret
    exact ⟨by rw [hne.out]; rfl, Below.refl _ _⟩

/-- the numbers from k on, one after the other -/
def iota (k : Int) (n : Nat) : List Int := (List.range n).map fun i : Nat => k + (i : Int)
theorem iota_length (k : Int) (n : Nat) : (iota k n).length = n := by simp [iota]
theorem iota_succ (k : Int) (n : Nat) : iota k (n + 1) = iota k n ++ [k + n] := by simp [iota, List.range_succ]
theorem iota_get (k : Int) (n i : Nat) (h : i < n) : (iota k n)[i]'(by rw [iota_length]; exact h) = k + i := by simp [iota]
theorem grown_set {w : World} {g : Nat} {o : Nat} {u : Value} : w.grownBy (w.setCell ⟨g, o, none⟩ u) (some g) :=
  ⟨rfl, rfl, rfl, by simp, fun k _ hne => Below.heap_setCell _ _ _ _ (fun e => hne (by rw [e]))⟩
theorem grown_trans {a b c : World} {row : Option Nat} (h1 : a.grownBy b row) (h2 : b.grownBy c row) : a.grownBy c row :=
  ⟨h2.os.trans h1.os, h2.tape.trans h1.tape, h2.output.trans h1.output, Nat.le_trans h1.size h2.size, fun k hk hne => (h2.block k (Nat.lt_of_lt_of_le hk h1.size) hne).trans (h1.block k hk hne)⟩
theorem markIntS_any (v : Value) (l : List Int) (k : Int) (w : World) (base : Nat) (hown : Own w base 3 .i64 v l) (hn : l.length ≤ 1073741824) (hk : 0 ≤ k) (hk2 : k ≤ 1073741824) :
    Calls Try.prog 49 #[v, .int .i64 k] w fun e w' => e = .returned (.int .i64 (k + l.length)) ∧ Own w' base 3 .i64 v (iota k l.length) ∧ w.grownBy w' v.ownBlock := by
  by_cases hpos : 0 < l.length
  · obtain ⟨g, cap, rfl, hg1, hg2, _, _⟩ := hown.form hpos
    obtain ⟨n, hN⟩ : ∃ n, n = l.length := ⟨_, rfl⟩
    rw [← hN] at hn hown hpos ⊢
    replace hN := hid hN
    replace hown := hid hown
    have hob : (Value.slice (some ⟨g, 0, none⟩) n cap).ownBlock = some g := rfl
    replace hob := hid hob
    go_enter Try.func49, Try.ntmps49
    go_wp2
    go_loopw [1, 5] (fun kk i wr => ∃ j : Nat, j ≤ n ∧ i = .int .i64 j ∧ kk = .int .i64 (k + j) ∧ Own wr base 3 .i64 (.slice (some ⟨g, 0, none⟩) n cap) (iota k j ++ l.drop j) ∧ w.grownBy wr (some g)) (fun _ i _ => n - (intOf i).toNat)
    case atStart => exact ⟨0, by omega, rfl, by go_num, hown.out, World.grownBy.refl _ _⟩
    case round =>
      obtain ⟨j, hj, rfl, rfl, ho, hgr⟩ := hrel
      by_cases hlt : j < n
      · have hll : (iota k j ++ l.drop j).length = n := by rw [List.length_append, iota_length, List.length_drop, ← hN.out]; omega
        obtain ⟨c0, hc⟩ := ho.some_ j (by omega)
        have hf := ho.frozen j
        have hst := ho.store j (k + j)
        have hset : (iota k j ++ l.drop j).set j (k + j) = iota k (j + 1) ++ l.drop (j + 1) := by
          rw [List.set_append_right _ _ (by rw [iota_length]; exact Nat.le_refl _), iota_length, Nat.sub_self, List.drop_eq_getElem_cons (by rw [← hN.out]; exact hlt), List.set_cons_zero, iota_succ, List.append_assoc]
          rfl
        rw [hset] at hst
        replace hst := hid hst
        clear hset ho hll
        go_wp2
        go_roundw
        case rel => exact ⟨j + 1, by omega, by go_num, by go_num, hst.out, grown_trans hgr grown_set⟩
        case measure => simp [intOf]; omega
      · obtain rfl : j = n := by omega
        have ho2 : Own wr base 3 .i64 (.slice (some ⟨g, 0, none⟩) j cap) (iota k j) := by
          rw [List.drop_eq_nil_of_le (by rw [← hN.out]; exact Nat.le_refl _), List.append_nil] at ho
          exact ho
        clear ho
        go_wp2
        go_ret
        exact ⟨rfl, ho2, by rw [hob.out]; exact hgr⟩
  · have hnil : l = [] := List.eq_nil_of_length_eq_zero (by omega)
    subst hnil
    obtain ⟨ao, cap, rfl, _, _⟩ := hown.shape
    replace hown := hid hown
    go_enter Try.func49, Try.ntmps49
    go_wp2
    go_loop [1, 5] (fun kk i => i = .int .i64 0 ∧ kk = .int .i64 k) (fun _ _ => 0)
    case atStart => exact ⟨rfl, rfl⟩
    case round =>
      obtain ⟨rfl, rfl⟩ := hrel
      go_wp2
      go_ret
      exact ⟨by simp, hown.out, World.grownBy.refl _ _⟩
theorem heldIntS_any (v : Value) (k : Int) (n : Nat) (w : World) (hrd : Rd w w.heap.size .i64 v (iota k n)) (hn : n ≤ 1073741824) (hk : 0 ≤ k) (hk2 : k ≤ 1073741824) :
    Calls Try.prog 50 #[v, .int .i64 k] w fun e w' => e = .returned (.int .i64 (k + n)) ∧ Below w.heap.size w w' := by
  obtain ⟨ao, cap, rfl, _, _, hc⟩ := hrd
  rw [iota_length]
  replace hc := hid hc
  go_enter Try.func50, Try.ntmps50
  go_wp2
  go_loop [1, 5] (fun kk i => ∃ j : Nat, j ≤ n ∧ i = .int .i64 j ∧ kk = .int .i64 (k + j)) (fun _ i => n - (intOf i).toNat)
  case atStart => exact ⟨0, by omega, rfl, by go_num⟩
  case round =>
    obtain ⟨j, hj, rfl, rfl⟩ := hrel
    by_cases hlt : j < n
    · obtain ⟨b, off, rfl, hB, hcell⟩ := hc.out (by rw [iota_length]; omega)
      have hc1 := hcell j (by rw [iota_length]; exact hlt)
      rw [iota_get k n j hlt] at hc1
      clear hcell
      go_wp2
      go_round
      case rel => exact ⟨j + 1, by omega, by go_num, by go_num⟩
      case measure => simp [intOf]; omega
    · obtain rfl : j = n := by omega
      go_wp2
      go_ret
      exact ⟨rfl, Below.refl _ _⟩
theorem toGroup_any (v : Value) (l : List Int) (w : World) (hr : Rd w w.heap.size .i64 v l) (hn : l.length ≤ 1073741824) :
    Calls Try.prog 11 #[.agg #[v]] w fun e w' => ∃ ao cap, e = .returned (.agg #[.slice ao l.length cap]) ∧ Own w' w.heap.size 3 .i64 (.slice ao l.length cap) l ∧ Below w.heap.size w w' := by
  go_enter Try.func11, Try.ntmps11
  go_wp2_with fail
  refine (toIntS_any v l _ (((hr.alloc (Nat.le_refl _) _).alloc (by simp) _).alloc (by simp; omega) _ |>.more (by simp; omega)) hn).mono ?_
  rintro e w1 ⟨ao, cap, rfl, hown, hb⟩
  obtain ⟨hc, hf⟩ := bcell hb
  have hz : w.heap.size + 2 < w1.heap.size := by have := hb.size; simp at this; omega
  replace hown := hid hown
  replace hb := hid (((below_alloc w _).alloc (by simp) _).alloc (by simp; omega) _ |>.trans (hb.mono (show w.heap.size ≤ _ by simp; omega)))
  go_wp2
  refine bodyPost_ret (v := .agg #[.slice ao l.length cap]) (by simp [results, Try.results11, go_sem, hc]) rfl ?_
  exact ⟨ao, cap, rfl, ((hown.out.under (by simp) _).under (by simp) _).lower (by go_size), (hb.out.setCell (by go_size) _).setCell (by go_size) _⟩
theorem eqGroup_any (v1 v2 : Value) (l1 l2 : List Int) (w : World) (hr1 : Rd w w.heap.size .i64 v1 l1) (hr2 : Rd w w.heap.size .i64 v2 l2) (hn1 : l1.length ≤ 1073741824) :
    Calls Try.prog 14 #[.agg #[v1], .agg #[v2]] w fun e w' => e = .returned (.bool (eqL l1 l2)) ∧ Below w.heap.size w w' := by
  go_enter Try.func14, Try.ntmps14
  go_wp2_with fail
  refine (eqIntS_any v1 v2 l1 l2 _ ((hr1.alloc (Nat.le_refl _) _).alloc (by simp) _ |>.more (by simp; omega)) ((hr2.alloc (Nat.le_refl _) _).alloc (by simp) _ |>.more (by simp; omega)) hn1).mono ?_
  rintro e w1 ⟨rfl, hb⟩
  replace hb := hid (((below_alloc w _).alloc (by simp) _).trans (hb.mono (by simp; omega)))
  cases h : eqL l1 l2
  all_goals
    replace h := hid h
    go_wp2
    go_ret
    exact ⟨by rw [h.out]; rfl, hb.out⟩
theorem markGroup_any (v : Value) (l : List Int) (k : Int) (w : World) (base : Nat) (hown : Own w base 3 .i64 v l) (hn : l.length ≤ 1073741824) (hk : 0 ≤ k) (hk2 : k ≤ 1073741824) :
    Calls Try.prog 20 #[.agg #[v], .int .i64 k] w fun e w' => e = .returned (.int .i64 (k + l.length)) ∧ Own w' base 3 .i64 v (iota k l.length) ∧ w.grownBy w' v.ownBlock := by
  go_enter Try.func20, Try.ntmps20
  go_wp2_with fail
  refine (markIntS_any v l k _ base (hown.alloc _) hn hk hk2).mono ?_
  rintro e w1 ⟨rfl, ho, hg⟩
  replace ho := hid ho
  replace hg := hid hg
  go_wp2
  go_ret
  exact ⟨rfl, ho.out, grown_trans (World.grownBy_alloc _ _ _) hg.out⟩
theorem heldGroup_any (v : Value) (k : Int) (n : Nat) (w : World) (hrd : Rd w w.heap.size .i64 v (iota k n)) (hn : n ≤ 1073741824) (hk : 0 ≤ k) (hk2 : k ≤ 1073741824) :
    Calls Try.prog 21 #[.agg #[v], .int .i64 k] w fun e w' => e = .returned (.int .i64 (k + n)) ∧ Below w.heap.size w w' := by
  go_enter Try.func21, Try.ntmps21
  go_wp2_with fail
  refine (heldIntS_any v k n _ ((hrd.alloc (Nat.le_refl _) _).more (by simp)) hn hk hk2).mono ?_
  rintro e w1 ⟨rfl, hb⟩
  replace hb := hid ((below_alloc w _).trans (hb.mono (by simp)))
  go_wp2
  go_ret
  exact ⟨rfl, hb.out⟩

end Go.Proofs.Ytffbamjfpegndab
