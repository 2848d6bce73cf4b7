/- The draw of a group that is right. Conditions: codes of at most 2^40 bytes. -/
import Derived.Test.YtknbfohmobjplabMRa
namespace Go.Proofs.Ytknbfohmobjplab
set_option linter.unusedVariables false
set_option linter.unusedSimpArgs false
open Go.RowKit

def litL : List (List Int) := [[], [2], [3], [4], [5], [6], [7], [8], [9], [10], [11], [12], [2, 2], [2, 4], [3, 3], [2, 6], [2, 2, 2], [13], [16], [4, 4], [2, 2, 3], [2, 3], [24]]
theorem litL_len : ∀ L ∈ litL, L.length ≤ 3 := by decide
theorem litW_rows (e : TypeId) (w : World) : rowsW e litL w = (((((((((((((((((((((((w.alloc (.cells #[] e)).alloc (.cells #[.int .i64 2] e)).alloc (.cells #[.int .i64 3] e)).alloc (.cells #[.int .i64 4] e)).alloc (.cells #[.int .i64 5] e)).alloc (.cells #[.int .i64 6] e)).alloc (.cells #[.int .i64 7] e)).alloc (.cells #[.int .i64 8] e)).alloc (.cells #[.int .i64 9] e)).alloc (.cells #[.int .i64 10] e)).alloc (.cells #[.int .i64 11] e)).alloc (.cells #[.int .i64 12] e)).alloc (.cells #[.int .i64 2, .int .i64 2] e)).alloc (.cells #[.int .i64 2, .int .i64 4] e)).alloc (.cells #[.int .i64 3, .int .i64 3] e)).alloc (.cells #[.int .i64 2, .int .i64 6] e)).alloc (.cells #[.int .i64 2, .int .i64 2, .int .i64 2] e)).alloc (.cells #[.int .i64 13] e)).alloc (.cells #[.int .i64 16] e)).alloc (.cells #[.int .i64 4, .int .i64 4] e)).alloc (.cells #[.int .i64 2, .int .i64 2, .int .i64 3] e)).alloc (.cells #[.int .i64 2, .int .i64 3] e)).alloc (.cells #[.int .i64 24] e)) := rfl
theorem litW_sls (n : Nat) : slsOf n litL = #[.slice (some ⟨n, 0, none⟩) 0 0, .slice (some ⟨n + 1, 0, none⟩) 1 1, .slice (some ⟨n + 1 + 1, 0, none⟩) 1 1, .slice (some ⟨n + 1 + 1 + 1, 0, none⟩) 1 1, .slice (some ⟨n + 1 + 1 + 1 + 1, 0, none⟩) 1 1, .slice (some ⟨n + 1 + 1 + 1 + 1 + 1, 0, none⟩) 1 1, .slice (some ⟨n + 1 + 1 + 1 + 1 + 1 + 1, 0, none⟩) 1 1, .slice (some ⟨n + 1 + 1 + 1 + 1 + 1 + 1 + 1, 0, none⟩) 1 1, .slice (some ⟨n + 1 + 1 + 1 + 1 + 1 + 1 + 1 + 1, 0, none⟩) 1 1, .slice (some ⟨n + 1 + 1 + 1 + 1 + 1 + 1 + 1 + 1 + 1, 0, none⟩) 1 1, .slice (some ⟨n + 1 + 1 + 1 + 1 + 1 + 1 + 1 + 1 + 1 + 1, 0, none⟩) 1 1, .slice (some ⟨n + 1 + 1 + 1 + 1 + 1 + 1 + 1 + 1 + 1 + 1 + 1, 0, none⟩) 1 1, .slice (some ⟨n + 1 + 1 + 1 + 1 + 1 + 1 + 1 + 1 + 1 + 1 + 1 + 1, 0, none⟩) 2 2, .slice (some ⟨n + 1 + 1 + 1 + 1 + 1 + 1 + 1 + 1 + 1 + 1 + 1 + 1 + 1, 0, none⟩) 2 2, .slice (some ⟨n + 1 + 1 + 1 + 1 + 1 + 1 + 1 + 1 + 1 + 1 + 1 + 1 + 1 + 1, 0, none⟩) 2 2, .slice (some ⟨n + 1 + 1 + 1 + 1 + 1 + 1 + 1 + 1 + 1 + 1 + 1 + 1 + 1 + 1 + 1, 0, none⟩) 2 2, .slice (some ⟨n + 1 + 1 + 1 + 1 + 1 + 1 + 1 + 1 + 1 + 1 + 1 + 1 + 1 + 1 + 1 + 1, 0, none⟩) 3 3, .slice (some ⟨n + 1 + 1 + 1 + 1 + 1 + 1 + 1 + 1 + 1 + 1 + 1 + 1 + 1 + 1 + 1 + 1 + 1, 0, none⟩) 1 1, .slice (some ⟨n + 1 + 1 + 1 + 1 + 1 + 1 + 1 + 1 + 1 + 1 + 1 + 1 + 1 + 1 + 1 + 1 + 1 + 1, 0, none⟩) 1 1, .slice (some ⟨n + 1 + 1 + 1 + 1 + 1 + 1 + 1 + 1 + 1 + 1 + 1 + 1 + 1 + 1 + 1 + 1 + 1 + 1 + 1, 0, none⟩) 2 2, .slice (some ⟨n + 1 + 1 + 1 + 1 + 1 + 1 + 1 + 1 + 1 + 1 + 1 + 1 + 1 + 1 + 1 + 1 + 1 + 1 + 1 + 1, 0, none⟩) 3 3, .slice (some ⟨n + 1 + 1 + 1 + 1 + 1 + 1 + 1 + 1 + 1 + 1 + 1 + 1 + 1 + 1 + 1 + 1 + 1 + 1 + 1 + 1 + 1, 0, none⟩) 2 2, .slice (some ⟨n + 1 + 1 + 1 + 1 + 1 + 1 + 1 + 1 + 1 + 1 + 1 + 1 + 1 + 1 + 1 + 1 + 1 + 1 + 1 + 1 + 1 + 1, 0, none⟩) 1 1] := rfl
theorem litW_eq (e S : TypeId) (n : Nat) (w : World) : litW e S litL n w = (((((((((((((((((((((((w.alloc (.cells #[] e)).alloc (.cells #[.int .i64 2] e)).alloc (.cells #[.int .i64 3] e)).alloc (.cells #[.int .i64 4] e)).alloc (.cells #[.int .i64 5] e)).alloc (.cells #[.int .i64 6] e)).alloc (.cells #[.int .i64 7] e)).alloc (.cells #[.int .i64 8] e)).alloc (.cells #[.int .i64 9] e)).alloc (.cells #[.int .i64 10] e)).alloc (.cells #[.int .i64 11] e)).alloc (.cells #[.int .i64 12] e)).alloc (.cells #[.int .i64 2, .int .i64 2] e)).alloc (.cells #[.int .i64 2, .int .i64 4] e)).alloc (.cells #[.int .i64 3, .int .i64 3] e)).alloc (.cells #[.int .i64 2, .int .i64 6] e)).alloc (.cells #[.int .i64 2, .int .i64 2, .int .i64 2] e)).alloc (.cells #[.int .i64 13] e)).alloc (.cells #[.int .i64 16] e)).alloc (.cells #[.int .i64 4, .int .i64 4] e)).alloc (.cells #[.int .i64 2, .int .i64 2, .int .i64 3] e)).alloc (.cells #[.int .i64 2, .int .i64 3] e)).alloc (.cells #[.int .i64 24] e)).alloc (.cells #[.slice (some ⟨n, 0, none⟩) 0 0, .slice (some ⟨n + 1, 0, none⟩) 1 1, .slice (some ⟨n + 1 + 1, 0, none⟩) 1 1, .slice (some ⟨n + 1 + 1 + 1, 0, none⟩) 1 1, .slice (some ⟨n + 1 + 1 + 1 + 1, 0, none⟩) 1 1, .slice (some ⟨n + 1 + 1 + 1 + 1 + 1, 0, none⟩) 1 1, .slice (some ⟨n + 1 + 1 + 1 + 1 + 1 + 1, 0, none⟩) 1 1, .slice (some ⟨n + 1 + 1 + 1 + 1 + 1 + 1 + 1, 0, none⟩) 1 1, .slice (some ⟨n + 1 + 1 + 1 + 1 + 1 + 1 + 1 + 1, 0, none⟩) 1 1, .slice (some ⟨n + 1 + 1 + 1 + 1 + 1 + 1 + 1 + 1 + 1, 0, none⟩) 1 1, .slice (some ⟨n + 1 + 1 + 1 + 1 + 1 + 1 + 1 + 1 + 1 + 1, 0, none⟩) 1 1, .slice (some ⟨n + 1 + 1 + 1 + 1 + 1 + 1 + 1 + 1 + 1 + 1 + 1, 0, none⟩) 1 1, .slice (some ⟨n + 1 + 1 + 1 + 1 + 1 + 1 + 1 + 1 + 1 + 1 + 1 + 1, 0, none⟩) 2 2, .slice (some ⟨n + 1 + 1 + 1 + 1 + 1 + 1 + 1 + 1 + 1 + 1 + 1 + 1 + 1, 0, none⟩) 2 2, .slice (some ⟨n + 1 + 1 + 1 + 1 + 1 + 1 + 1 + 1 + 1 + 1 + 1 + 1 + 1 + 1, 0, none⟩) 2 2, .slice (some ⟨n + 1 + 1 + 1 + 1 + 1 + 1 + 1 + 1 + 1 + 1 + 1 + 1 + 1 + 1 + 1, 0, none⟩) 2 2, .slice (some ⟨n + 1 + 1 + 1 + 1 + 1 + 1 + 1 + 1 + 1 + 1 + 1 + 1 + 1 + 1 + 1 + 1, 0, none⟩) 3 3, .slice (some ⟨n + 1 + 1 + 1 + 1 + 1 + 1 + 1 + 1 + 1 + 1 + 1 + 1 + 1 + 1 + 1 + 1 + 1, 0, none⟩) 1 1, .slice (some ⟨n + 1 + 1 + 1 + 1 + 1 + 1 + 1 + 1 + 1 + 1 + 1 + 1 + 1 + 1 + 1 + 1 + 1 + 1, 0, none⟩) 1 1, .slice (some ⟨n + 1 + 1 + 1 + 1 + 1 + 1 + 1 + 1 + 1 + 1 + 1 + 1 + 1 + 1 + 1 + 1 + 1 + 1 + 1, 0, none⟩) 2 2, .slice (some ⟨n + 1 + 1 + 1 + 1 + 1 + 1 + 1 + 1 + 1 + 1 + 1 + 1 + 1 + 1 + 1 + 1 + 1 + 1 + 1 + 1, 0, none⟩) 3 3, .slice (some ⟨n + 1 + 1 + 1 + 1 + 1 + 1 + 1 + 1 + 1 + 1 + 1 + 1 + 1 + 1 + 1 + 1 + 1 + 1 + 1 + 1 + 1, 0, none⟩) 2 2, .slice (some ⟨n + 1 + 1 + 1 + 1 + 1 + 1 + 1 + 1 + 1 + 1 + 1 + 1 + 1 + 1 + 1 + 1 + 1 + 1 + 1 + 1 + 1 + 1, 0, none⟩) 1 1] S) := by
  unfold litW
  rw [litW_rows, litW_sls]
/-- append of a row onto a row of the call's own -/
theorem appL {P : Program} {ops : Array Oper} {rest : List Oper} {o : Oper} {a : Act} {Q : Exit → Act → World → Prop} {wr : World} {T e : TypeId} {k : IntKind} {bytes : Nat}
    (hg : o.guard = none) (s x : Operand) (hop : o.op = Op.call { callee := Callee.builtin Builtin.append, args := #[s, x], argTypes := #[T, T] })
    (hT : P.underlying T = some (.slice e)) (hinfo : (P.info? e).map (fun i => (i.zero, i.size, i.bytes)) = some (some (.int k 0), 1, bytes)) (hby : bytes ≤ 8)
    {base : Nat} {v : Value} {l : List Int} (hs : a.eval s = v) (hown : Own wr base e k v l) (us : List Int) (ad : Addr) (n c : Nat) (hn : us.length = n) (hx : a.eval x = .slice (some ad) n c)
    (hc : ∀ j u, us[j]? = some u → wr.cell? (ad.add j) = some (.int k u)) (hlen : l.length + us.length ≤ 1099511627776) (hbase : base ≤ wr.heap.size)
    (h : ∀ v' w', Own w' base e k v' (l ++ us) → Below base wr w' → wr.grownBy w' v.ownBlock → wpList P ops Q rest (a.put o.dst v') w') :
    wpList P ops Q (o :: rest) a wr := by
  subst hn
  obtain ⟨i0, hi, hz0, hz1, hz2⟩ := info_parts hinfo
  have hbb : (l.length + us.length) * bytes ≤ (l.length + us.length) * 8 := Nat.mul_le_mul_left _ hby
  refine wpList_append_own _ hg s x T hop base e i0 (.int k 0) 1 bytes hT hi hz0 hz1 hz2 rfl (by decide) v l.length (ints k l) hs hown ad us.length c (ints k us) hx (by simp [ints]) ?_ ?_ ?_ ?_ hbase ?_
  · intro j u hu
    simp only [ints, List.getElem?_map, Option.map_eq_some_iff] at hu
    obtain ⟨x, hx, rfl⟩ := hu
    exact hc j x hx
  · intro y hy
    obtain ⟨x, _, rfl⟩ := List.mem_map.1 hy
    rfl
  · unfold maxLen; omega
  · omega
  · intro v' w' ho hgr _
    refine h v' w' ?_ ?_ hgr
    · unfold Own
      rw [List.length_append]
      simpa [ints] using ho
    · exact (Below.refl base wr).grown hgr hbase fun g hgv => (World.ownsRow.lt hown g hgv).1
set_option maxRecDepth 100000 in
set_option maxHeartbeats 1600000 in
theorem sl2Draw_any (c B : Nat) (v : Value) (l : List Int) (most : Int) (w : World) (hc : Cur w c B v l) (hl : l.length ≤ 1099511627776) (hB : ∀ x ∈ l, 0 ≤ x ∧ x ≤ 255) :
    Calls Try.prog 106 #[.pointer (some ⟨c, 0, none⟩), .int .i64 most] w fun e w' => GOut c w.heap.size e w' ∧ Cur w' c B v l ∧ w.grownBy w' (some c) := by
  have hY := hid fun n h0 hn w hc => sl1Below_any c B v l n w hc hl hB h0 hn
  replace hB := hid hB
  have hcw := hc.lt
  go_enter Try.func106, Try.ntmps106
  go_wp2_with fail
  rw [← litW_eq]
  have hb0 := litW_below 3 24 litL (w.heap.size + 1) (w.alloc (.cells #[.slice none 0 0] 26))
  have hrow := hid (litW_row 3 24 litL (w.heap.size + 1) (w.alloc (.cells #[.slice none 0 0] 26)) (by simp))
  have hcel := hid (litW_cell 3 24 litL (w.heap.size + 1) (w.alloc (.cells #[.slice none 0 0] 26)) (by simp))
  have hsz := litW_size 3 24 litL (w.heap.size + 1) (w.alloc (.cells #[.slice none 0 0] 26))
  generalize litW 3 24 litL (w.heap.size + 1) (w.alloc (.cells #[.slice none 0 0] 26)) = W at hb0 hrow hcel hsz ⊢
  obtain ⟨q1, q2⟩ := bcell hb0
  have r0 : W.cell? ⟨w.heap.size, 0, none⟩ = some (.slice none 0 0) := by rw [q1 _ _ (by simp)]; simp [go_sem]
  have r1 : W.frozen? ⟨w.heap.size, 0, none⟩ = false := by rw [q2 _ _ (by simp)]; simp [go_sem]
  have hb : Below w.heap.size w W := (below_alloc _ _).trans (hb0.mono (by simp))
  have hsz2 : W.heap.size = w.heap.size + 25 := by rw [hsz]; simp [litL]
  clear q1 q2 hb0 hsz
  generalize hd : w.heap.size + 1 + 1 + 1 + 1 + 1 + 1 + 1 + 1 + 1 + 1 + 1 + 1 + 1 + 1 + 1 + 1 + 1 + 1 + 1 + 1 + 1 + 1 + 1 + 1 = d
  replace hd : d = w.heap.size + 24 := by omega
  refine (hY.out _ (by omega) (by omega) _ (hc.below hb)).mono ?_
  rintro e w1 ⟨⟨k, rfl, hk0, hk1⟩, hc1, hg1⟩
  obtain ⟨k, rfl⟩ := Int.eq_ofNat_of_zero_le hk0
  have hk : k < litL.length := by simp only [litL, List.length_cons, List.length_nil]; omega
  have hlen := litL_len _ (List.getElem_mem hk)
  have row := hrow.out k hk
  have cel := hid (hcel.out k hk)
  have hz1 := hg1.size
  clear hrow hcel
  obtain ⟨L, hL⟩ : ∃ L, L = litL[k] := ⟨_, rfl⟩
  rw [← hL] at hlen row
  simp only [← hL] at cel
  obtain ⟨b, hbk⟩ : ∃ b, b = w.heap.size + 1 + k := ⟨_, rfl⟩
  rw [← hbk, show w.heap.size + 1 + litL.length = d by rw [hd]; rfl] at row
  rw [← hbk] at cel
  have hbl : b < W.heap.size := by omega
  have hbc : b ≠ c := by omega
  replace row := (cell_far hg1 ⟨d, k, none⟩ (by show d < _; omega) (by simp; omega)).trans row
  replace cel : Hid (∀ i (hi : i < L.length), w1.cell? ⟨b, i, none⟩ = some (.int .i64 L[i])) := fun i hi => (cell_far hg1 ⟨b, i, none⟩ hbl (by simpa using hbc)).trans (cel.out i hi)
  replace r0 := (cell_far hg1 ⟨w.heap.size, 0, none⟩ (by show w.heap.size < _; omega) (by simp; omega)).trans r0
  replace r1 := (frz_far hg1 ⟨w.heap.size, 0, none⟩ (by show w.heap.size < _; omega) (by simp; omega)).trans r1
  have G1 := grown_trans (below_grown hb (some c)) hg1
  have hd1 : d < w1.heap.size := by omega
  have hlt0 : w.heap.size < w1.heap.size := by omega
  have hb1 : b < w1.heap.size := by omega
  obtain ⟨n, hN⟩ : ∃ n, n = L.length := ⟨_, rfl⟩
  rw [← hN] at row
  replace hN := hid hN
  have hn3 : n ≤ 3 := by rw [hN.out]; exact hlen
  have hc1l := hc1.lt
  clear hk hL hbk hd hb hsz2 hlen hbl hg1 hz1 hY hc
  go_wp2
  go_loopw [7, 8] (fun m i wr => ∃ (N : Int) (j : Nat), j ≤ n ∧ i = .int .i64 j ∧ m = .int .i64 N ∧ wr = w1) (fun _ i _ => n - (intOf i).toNat)
  case atStart => exact ⟨_, 0, by omega, rfl, rfl, rfl⟩
  case round =>
    obtain ⟨N, j, hj, rfl, rfl, rfl⟩ := hrel
    by_cases hlt : j < n
    · have hm := cel.out j (by rw [← hN.out]; exact hlt)
      go_wp2
      go_roundw
      case rel => exact ⟨_, j + 1, by omega, by go_num, rfl, by trivial⟩
      case measure => simp [intOf]; omega
    · have hst : ¬ (j : Int) < (n : Int) := by omega
      replace hn3 := hid hn3
      clear row hj hlt hB hk0 hk1
      by_cases hm : most < N
      · go_wp2
        refine bodyPost_ret (v := .agg #[.slice (some ⟨wr.heap.size, 0, none⟩) 1 1]) (by simp [results, Try.results106, go_sem, r0, hlt0]) rfl ?_
        have DD : Below w.heap.size wr ((wr.setCell ⟨w.heap.size, 0, none⟩ (.slice (some ⟨wr.heap.size, 0, none⟩) 1 1)).alloc (.cells #[.int .i64 5] 3)) := ((Below.refl w.heap.size wr).setCell (p := ⟨w.heap.size, 0, none⟩) (Nat.le_refl _) _).alloc (by simp; omega) _
        exact ⟨⟨_, [5], rfl, Gd.made (w := wr.setCell ⟨w.heap.size, 0, none⟩ (.slice (some ⟨wr.heap.size, 0, none⟩) 1 1)) [5] 3 1 rfl (by simp) hc1l (by simp), by simp, Fresh.at _ _ _ _ _ (Nat.le_of_lt hlt0)⟩, hc1.under DD hcw, grown_under G1 DD⟩
      · have hown := Own.empty wr wr.heap.size 3 .i64 (Nat.le_refl _)
        have hcc : ∀ j u, L[j]? = some u → (wr.alloc (.cells #[] 3)).cell? ((⟨b, 0, none⟩ : Addr).add j) = some (.int .i64 u) := by
          intro j u hj
          obtain ⟨hj1, hj2⟩ := List.getElem?_eq_some_iff.1 hj
          have h1 := cel.out j hj1
          rw [hj2] at h1
          rw [show ((⟨b, 0, none⟩ : Addr).add j) = ⟨b, j, none⟩ by cases j <;> simp [Addr.add]]
          exact ((below_alloc wr _).cell (p := ⟨b, j, none⟩) hb1).trans h1
        replace hcc := hid hcc
        clear cel
        go_wp2_with (at_builtin; refine appL rfl _ _ rfl Try.underlying24 info_int (by decide) rfl hown L ⟨b, 0, none⟩ n n hN.out.symm rfl hcc.out (by have := hN.out; have := hn3.out; simp; omega) (by simp) ?_)
        intro v' w' hown' hb' _
        have hz' := hb'.size
        have r0' : w'.cell? ⟨w.heap.size, 0, none⟩ = some (.slice none 0 0) := (hb'.cell (p := ⟨w.heap.size, 0, none⟩) hlt0).trans (((below_alloc wr _).cell (p := ⟨w.heap.size, 0, none⟩) hlt0).trans r0)
        have r1' : w'.frozen? ⟨w.heap.size, 0, none⟩ = false := (hb'.frozen (p := ⟨w.heap.size, 0, none⟩) hlt0).trans (((below_alloc wr _).frozen (p := ⟨w.heap.size, 0, none⟩) hlt0).trans r1)
        have D1 : Below wr.heap.size wr w' := (below_alloc wr _).trans hb'
        clear r0 r1 hcc hown hb'
        obtain ⟨ao', cap', rfl, _, _⟩ := hown'.shape
        rw [← hN.out] at hown' ⊢
        go_wp2
        refine bodyPost_ret (v := .agg #[.slice ao' n cap']) (by simp [results, Try.results106, go_sem, r0']) rfl ?_
        have DD : Below w.heap.size wr (w'.setCell ⟨w.heap.size, 0, none⟩ (.slice ao' n cap')) := (D1.mono (Nat.le_of_lt hlt0)).setCell (p := ⟨w.heap.size, 0, none⟩) (Nat.le_refl _) _
        exact ⟨⟨_, L, rfl, Gd.of_own (hown'.under (a := ⟨w.heap.size, 0, none⟩) hlt0 _) hc1l, by have := hN.out; have := hn3.out; omega, hown'.fresh.less (Nat.le_of_lt hlt0)⟩, hc1.under DD hcw, grown_under G1 DD⟩
end Go.Proofs.Ytknbfohmobjplab
