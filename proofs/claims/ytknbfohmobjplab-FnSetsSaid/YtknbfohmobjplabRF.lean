/- The draws of a group alone, and of a group with a list. Conditions: codes of at most 2^20 bytes. -/
import Derived.Test.YtknbfohmobjplabMRb
import Derived.Test.YtknbfohmobjplabS8
namespace Go.Proofs.Ytknbfohmobjplab
set_option linter.unusedVariables false
set_option linter.unusedSimpArgs false
open Go.RowKit

/-- all that lies in W stands, but for the cursor -/
structure Kept (W : World) (c : Nat) (w : World) : Prop where
  size : W.heap.size ≤ w.heap.size
  cell : ∀ p : Addr, p.block < W.heap.size → p.block ≠ c → w.cell? p = W.cell? p
  frozen : ∀ p : Addr, p.block < W.heap.size → p.block ≠ c → w.frozen? p = W.frozen? p
theorem Kept.refl (W : World) (c : Nat) : Kept W c W := ⟨Nat.le_refl _, fun _ _ _ => rfl, fun _ _ _ => rfl⟩
theorem Kept.drawn {W a b : World} {c : Nat} (h : Kept W c a) (hg : a.grownBy b (some c)) : Kept W c b :=
  ⟨Nat.le_trans h.size hg.size, fun p h1 h2 => (cell_far hg p (Nat.lt_of_lt_of_le h1 h.size) (by simpa using h2)).trans (h.cell p h1 h2), fun p h1 h2 => (frz_far hg p (Nat.lt_of_lt_of_le h1 h.size) (by simpa using h2)).trans (h.frozen p h1 h2)⟩
theorem Kept.below {W a b : World} {c : Nat} (h : Kept W c a) (hb : Below W.heap.size a b) : Kept W c b :=
  ⟨Nat.le_trans h.size hb.size, fun p h1 h2 => (hb.cell h1).trans (h.cell p h1 h2), fun p h1 h2 => (hb.frozen h1).trans (h.frozen p h1 h2)⟩
theorem Gd.kept {W w : World} {c : Nat} {v : Value} {l : List Int} (h : Gd W c v l) (hk : Kept W c w) : Gd w c v l := h.keep hk.size hk.cell
def DrL (base : Nat) (e : Ending) (w : World) : Prop := ∃ u g v L, e = .returned (.tuple #[.agg #[u], v]) ∧ Rg w base u g ∧ Rd w w.heap.size .i64 v L ∧ L.length ≤ 5
theorem Rd.set {w : World} {B : Nat} {k : IntKind} {v : Value} {l : List Int} (h : Rd w B k v l) (g o : Nat) (u : Value) (hne : ∀ b off n m, v = .slice (some ⟨b, off, none⟩) n m → b ≠ g) (hB : B ≤ w.heap.size) : Rd (w.setCell ⟨g, o, none⟩ u) B k v l := by
  obtain ⟨ao, cap, rfl, h1, h2, h3⟩ := h
  refine ⟨ao, cap, rfl, h1, h2, fun hl => ?_⟩
  obtain ⟨b, off, ha, hb, hc⟩ := h3 hl
  subst ha
  exact ⟨b, off, rfl, hb, fun i hi => (cell_far (grown_set (w := w) (g := g) (o := o) (u := u)) ⟨b, off + i, none⟩ (Nat.lt_of_lt_of_le hb hB) (by have := hne b off _ _ rfl; simpa using this)).trans (hc i hi)⟩
set_option maxRecDepth 100000 in
theorem sDrawFullSet_any (v : Value) (l : List Int) (w : World) (hr : Rd w w.heap.size .u8 v l) (hl : l.length ≤ 1048576) (hB : IsB l) :
    Calls Try.prog 59 #[v] w fun e w' => Dr0 w.heap.size e w' ∧ Below w.heap.size w w' := by
  have hA := hid fun c B w hc => sl2Any_any c B v l w hc (by omega) hB
  replace hB := hid hB
  go_enter Try.func59, Try.ntmps59
  go_wp2_with fail
  refine (new_at (w.heap.size + 1) (by simp) ((hr.alloc (Nat.le_refl _) _).more (Nat.le_succ _)) hl).mono ?_
  rintro e w1 ⟨rfl, hc1, hb1⟩
  have B1 : Below w.heap.size w w1 := (below_alloc w (.cells #[.slice none 0 0] 26)).trans (hb1.mono (Nat.le_succ _))
  have r0 : w1.cell? ⟨w.heap.size, 0, none⟩ = some (.slice none 0 0) := (hb1.cell (p := ⟨w.heap.size, 0, none⟩) (Nat.lt_succ_self _)).trans (by simp [go_sem])
  have r1 : w1.frozen? ⟨w.heap.size, 0, none⟩ = false := (hb1.frozen (p := ⟨w.heap.size, 0, none⟩) (Nat.lt_succ_self _)).trans (by simp [go_sem])
  have hz1 : w.heap.size + 1 < w1.heap.size := hc1.lt
  clear hb1
  go_wp2_with fail
  refine (hA.out _ _ _ hc1).mono ?_
  rintro e w2 ⟨⟨u, g, rfl, hgd, hgl, hfr⟩, hc2, hg2⟩
  have hgd' := hgd
  obtain ⟨ao, cap, rfl, _, _, _⟩ := hgd'
  replace hfr := hid hfr
  have r0' := (cell_far hg2 ⟨w.heap.size, 0, none⟩ (by show w.heap.size < _; omega) (by simp)).trans r0
  have r1' := (frz_far hg2 ⟨w.heap.size, 0, none⟩ (by show w.heap.size < _; omega) (by simp)).trans r1
  have B2 : Below w.heap.size w w2 := B1.grown hg2 B1.size fun g hg => by have := Option.some.inj hg; omega
  have hz2 : w.heap.size < w2.heap.size := by have := hg2.size; omega
  clear r0 r1 hg2 hc1 B1
  go_wp2
  refine bodyPost_ret (v := .agg #[.slice ao g.length cap]) (by simp [results, Try.results59, go_sem, r0', hz2]) rfl ?_
  exact ⟨⟨_, g, rfl, ((hgd.rg hfr.out hgl).set w.heap.size 0 _ (by omega)).less (by omega)⟩, B2.setCell (p := ⟨w.heap.size, 0, none⟩) (Nat.le_refl _) _⟩
set_option maxRecDepth 100000 in
set_option maxHeartbeats 1600000 in
theorem sDrawSetOf_any (v : Value) (l : List Int) (w : World) (hr : Rd w w.heap.size .u8 v l) (hl : l.length ≤ 1048576) (hB : IsB l) :
    Calls Try.prog 56 #[v] w fun e w' => DrL w.heap.size e w' ∧ Below w.heap.size w w' := by
  have hA := hid fun c B w hc => sl2Any_any c B v l w hc (by omega) hB
  have hE := hid fun c B u g w hc hg hn => sl2Element_any c B v u l g w hc (by omega) hB hg hn
  have hY := hid fun c B n h0 hn w hc => sl1Below_any c B v l n w hc (by omega) hB h0 hn
  replace hB := hid hB
  go_enter Try.func56, Try.ntmps56
  go_wp2_with fail
  refine (new_at (w.heap.size + 1) (by simp) ((hr.alloc (Nat.le_refl _) _).more (Nat.le_succ _)) hl).mono ?_
  rintro e w1 ⟨rfl, hc1, hb1⟩
  have B1 : Below w.heap.size w w1 := (below_alloc w (.cells #[.slice none 0 0] 26)).trans (hb1.mono (Nat.le_succ _))
  have r0 : w1.cell? ⟨w.heap.size, 0, none⟩ = some (.slice none 0 0) := (hb1.cell (p := ⟨w.heap.size, 0, none⟩) (Nat.lt_succ_self _)).trans (by simp [go_sem])
  have r1 : w1.frozen? ⟨w.heap.size, 0, none⟩ = false := (hb1.frozen (p := ⟨w.heap.size, 0, none⟩) (Nat.lt_succ_self _)).trans (by simp [go_sem])
  have hz1 : w.heap.size + 1 < w1.heap.size := hc1.lt
  clear hb1
  go_wp2_with fail
  refine (hA.out _ _ _ hc1).mono ?_
  rintro e w2 ⟨⟨u, g, rfl, hgd, hgl, hfr⟩, hc2, hg2⟩
  have hgd' := hgd
  obtain ⟨ao, cap, rfl, _, _, _⟩ := hgd'
  replace hfr := hid hfr
  have r0' := (cell_far hg2 ⟨w.heap.size, 0, none⟩ (by show w.heap.size < _; omega) (by simp)).trans r0
  have r1' := (frz_far hg2 ⟨w.heap.size, 0, none⟩ (by show w.heap.size < _; omega) (by simp)).trans r1
  have B2 : Below w.heap.size w w2 := B1.grown hg2 B1.size fun g hg => by have := Option.some.inj hg; omega
  have hz2 : w1.heap.size ≤ w2.heap.size := hg2.size
  have c2l := hc2.lt
  clear r0 r1 hg2 hc1 B1
  go_wp2_with fail
  obtain ⟨W, hW⟩ : ∃ W, W = w2.alloc (.cells #[.slice ao g.length cap] 26) := ⟨_, rfl⟩
  have bW : Below w2.heap.size w2 W := hW ▸ below_alloc _ _
  have cW : W.cell? ⟨w2.heap.size, 0, none⟩ = some (.slice ao g.length cap) := by rw [hW]; simp [go_sem]
  have zW : W.heap.size = w2.heap.size + 1 := by rw [hW]; simp
  have own0 := Own.empty W W.heap.size 3 .i64 (Nat.le_refl _)
  rw [zW] at own0
  rw [← hW]
  have rW := (bW.cell (p := ⟨w.heap.size, 0, none⟩) (by show w.heap.size < _; omega)).trans r0'
  have sW := (bW.frozen (p := ⟨w.heap.size, 0, none⟩) (by show w.heap.size < _; omega)).trans r1'
  have hcW := hc2.below bW
  have gdW := hgd.below bW
  have BW : Below w.heap.size w W := B2.trans (bW.mono (by omega))
  clear hW r0' r1' hc2 hgd B2 bW
  refine (hY.out _ _ _ (by omega) (by omega) _ (hcW.below (below_alloc _ _))).mono ?_
  rintro e w3 ⟨⟨n, rfl, hn0, hn1⟩, hc3, hg3⟩
  obtain ⟨N, rfl⟩ := Int.eq_ofNat_of_zero_le hn0
  have K3 := ((Kept.refl W (w.heap.size + 1)).below (below_alloc W (.cells #[] 3))).drawn hg3
  have own3 := own0.past hg3 (by omega)
  have B3 : Below w.heap.size w w3 := (BW.trans ((below_alloc W (.cells #[] 3)).mono (by omega))).grown hg3 (by simp; omega) fun g hg => by have := Option.some.inj hg; omega
  clear own0 hg3 hcW
  go_wp2
  go_loopw [6, 7] (fun o i wr => ∃ (k : Nat) (L : List Int), i = .int .i64 k ∧ Own wr (w2.heap.size + 1) 3 .i64 o L ∧ L.length + k ≤ 4 ∧ Cur wr (w.heap.size + 1) (w.heap.size + 1) v l ∧ Kept W (w.heap.size + 1) wr ∧ Below w.heap.size w wr) (fun _ i _ => (intOf i).toNat)
  case atStart => exact ⟨N, [], rfl, own3, by simp; omega, hc3, K3, B3⟩
  case round =>
    obtain ⟨k, L, rfl, hown, hlen, hcr, hk, hb⟩ := hrel
    clear own3 hc3 K3 B3
    have hks := hk.size
    have cr := (hk.cell ⟨w2.heap.size, 0, none⟩ (by show w2.heap.size < _; omega) (by show w2.heap.size ≠ _; omega)).trans cW
    have rr := (hk.cell ⟨w.heap.size, 0, none⟩ (by show w.heap.size < _; omega) (by simp)).trans rW
    have sr := (hk.frozen ⟨w.heap.size, 0, none⟩ (by show w.heap.size < _; omega) (by simp)).trans sW
    have gdr := gdW.kept hk
    by_cases hk0 : 0 < k
    · clear rr sr
      go_wp2_with fail
      refine (hE.out _ _ _ _ _ hcr gdr (by omega)).mono ?_
      rintro e w4 ⟨⟨x, rfl, hx⟩, hc4, hg4⟩
      have own4 := hown.past hg4 (by omega)
      have K4 := hk.drawn hg4
      have hz4 := hg4.size
      have B4 : Below w.heap.size w w4 := hb.grown hg4 hb.size fun g hg => by have := Option.some.inj hg; omega
      clear hown hcr hg4 cr gdr hk hx
      go_wp2_with (at_builtin; refine app1 (u := x) rfl _ _ rfl Try.underlying24 info_int (by decide) rfl own4 rfl (by omega) (by omega) ?_)
      intro v' w' hown' hb' _
      go_wp2
      go_roundw
      case rel => exact ⟨k - 1, L ++ [x], by go_num, hown', by simp; omega, hc4.under hb' (by omega), K4.below (by rw [zW]; exact hb'), B4.trans (hb'.mono (by omega))⟩
      case measure => simp [intOf]; omega
    · have hk0 : k = 0 := by omega
      subst hk0
      have zr : w.heap.size < wr.heap.size := by omega
      have hfo := hid hown.fresh
      obtain ⟨ao', cap', rfl, _, _⟩ := hown.shape
      have hrd := hid (Rd.of_own hown)
      clear hown hcr hk
      go_wp2
      refine bodyPost_ret (v := .tuple #[.agg #[.slice ao g.length cap], .slice ao' L.length cap']) (by simp [results, Try.results56, go_sem, rr, zr]) rfl ?_
      exact ⟨⟨_, g, _, L, rfl, ((gdr.rg hfr.out hgl).set w.heap.size 0 _ (by omega)).less (by omega), (hrd.out.set _ _ _ (hfo.out.ne (by omega)) (Nat.le_refl _)).more (by simp), by omega⟩, hb.setCell (p := ⟨w.heap.size, 0, none⟩) (Nat.le_refl _) _⟩
end Go.Proofs.Ytknbfohmobjplab
