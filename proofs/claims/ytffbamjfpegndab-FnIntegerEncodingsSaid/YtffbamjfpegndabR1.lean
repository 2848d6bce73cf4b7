
/- The cursor of the draws: what l1New, l1Byte, l1Below keep. Conditions: codes of at most 2^40 bytes. -/
import Derived.Test.YtffbamjfpegndabMk
import Derived.Test.YtffbamjfpegndabH1
import Derived.Test.YtffbamjfpegndabIn
import Derived.Deep.QuietTactic
import Derived.BigQuiet
namespace Go.Proofs.Ytffbamjfpegndab
set_option linter.unusedVariables false
set_option linter.unusedSimpArgs false
open Go.RowKit

/-- a cursor in block c, over a code that lies below B -/
structure Cur (w : World) (c B : Nat) (v : Value) (l : List Int) : Prop where
  lt : c < w.heap.size
  le : B ≤ c
  code : w.cell? ⟨c, 0, none⟩ = some v
  at_ : ∃ i : Nat, i ≤ l.length ∧ w.cell? ⟨c, 1, none⟩ = some (.int .i64 i)
  hash : ∃ h : Int, w.cell? ⟨c, 2, none⟩ = some (.int .i64 h)
  free : w.frozen? ⟨c, 0, none⟩ = false ∧ w.frozen? ⟨c, 1, none⟩ = false ∧ w.frozen? ⟨c, 2, none⟩ = false
  rd : Rd w B .u8 v l
theorem Cur.below {w w' : World} {c B : Nat} {v : Value} {l : List Int} (h : Cur w c B v l) (hb : Below w.heap.size w w') : Cur w' c B v l := by
  have k : ∀ i, w'.cell? ⟨c, i, none⟩ = w.cell? ⟨c, i, none⟩ := fun i => hb.cell (p := ⟨c, i, none⟩) h.lt
  have f : ∀ i, w'.frozen? ⟨c, i, none⟩ = w.frozen? ⟨c, i, none⟩ := fun i => hb.frozen (p := ⟨c, i, none⟩) h.lt
  exact ⟨Nat.lt_of_lt_of_le h.lt hb.size, h.le, (k 0).trans h.code, h.at_.imp fun i hi => ⟨hi.1, (k 1).trans hi.2⟩, h.hash.imp fun i hi => (k 2).trans hi, ⟨(f 0).trans h.free.1, (f 1).trans h.free.2.1, (f 2).trans h.free.2.2⟩, h.rd.below (hb.mono (Nat.le_of_lt (Nat.lt_of_le_of_lt h.le h.lt)))⟩
theorem Cur.drewN {w : World} {c B : Nat} {v : Value} {l : List Int} (h : Cur w c B v l) (n : Nat) : Cur (w.drewN n) c B v l := ⟨h.lt, h.le, h.code, h.at_, h.hash, h.free, h.rd⟩
theorem Cur.hashed {w : World} {c B : Nat} {v : Value} {l : List Int} (h : Cur w c B v l) (x : Int) : Cur (w.setCell ⟨c, 2, none⟩ (.int .i64 x)) c B v l := by
  obtain ⟨h0, h1, h2, ⟨i, h3, h4⟩, ⟨y, h5⟩, ⟨h6, h7, h8⟩, h9⟩ := h
  exact ⟨by simpa using h0, h1, by simp [go_sem, h2], ⟨i, h3, by simp [go_sem, h4]⟩, ⟨x, by simp [go_sem, h5]⟩, ⟨by simp [go_sem, h6], by simp [go_sem, h7], by simp [go_sem, h8]⟩, h9.below ((Below.refl B w).setCell h1 _)⟩
theorem Cur.moved {w : World} {c B : Nat} {v : Value} {l : List Int} (h : Cur w c B v l) (j : Nat) (hj : j ≤ l.length) : Cur (w.setCell ⟨c, 1, none⟩ (.int .i64 (j : Int))) c B v l := by
  obtain ⟨h0, h1, h2, ⟨i, h3, h4⟩, ⟨y, h5⟩, ⟨h6, h7, h8⟩, h9⟩ := h
  exact ⟨by simpa using h0, h1, by simp [go_sem, h2], ⟨j, hj, by simp [go_sem, h4]⟩, ⟨y, by simp [go_sem, h5]⟩, ⟨by simp [go_sem, h6], by simp [go_sem, h7], by simp [go_sem, h8]⟩, h9.below ((Below.refl B w).setCell h1 _)⟩
theorem grown_drewN {a b : World} {row : Option Nat} (h : a.grownBy b row) (n : Nat) : a.grownBy (b.drewN n) row := grown_trans h (below_grown (below_drewN _ _ _) _)
theorem and255 (m : Int) : 0 ≤ bits .and .i64 m 255 ∧ bits .and .i64 m 255 ≤ 255 := by
  have h2 : (BitVec.ofInt 64 m &&& BitVec.ofInt 64 255).toNat ≤ 255 := by
    rw [BitVec.toNat_and]
    exact Nat.and_le_right
  show 0 ≤ IntKind.i64.wrap ((BitVec.ofInt 64 m &&& BitVec.ofInt 64 255).toNat : Int) ∧ IntKind.i64.wrap ((BitVec.ofInt 64 m &&& BitVec.ofInt 64 255).toNat : Int) ≤ 255
  rw [IntWalk.i64_in _ (by omega)]
  omega
theorem sl1Byte_any (c B : Nat) (v : Value) (l : List Int) (w : World) (hc : Cur w c B v l) (hl : l.length ≤ 1099511627776) (hB : ∀ x ∈ l, 0 ≤ x ∧ x ≤ 255) :
    Calls Try.prog 68 #[.pointer (some ⟨c, 0, none⟩)] w fun e w' => (∃ x : Int, e = .returned (.int .i64 x) ∧ 0 ≤ x ∧ x ≤ 255) ∧ Cur w' c B v l ∧ w.grownBy w' (some c) := by
  have hcur := hid hc
  obtain ⟨h0, h1, h2, ⟨i, h3, h4⟩, ⟨h, h5⟩, ⟨h6, h7, h8⟩, h9⟩ := hc
  have h9' := hid h9
  obtain ⟨ao, cap, rfl, _, _, hrd⟩ := h9
  replace hrd := hid hrd
  replace hB := hid hB
  go_enter Try.func68, Try.ntmps68
  by_cases hi : i < l.length
  · obtain ⟨b, off, rfl, hB1, hcell⟩ := hrd.out (by omega)
    have hcm := hcell i hi
    have hne : ¬ b = c := by omega
    clear hcell
    have hi2 : (i : Int) < (l.length : Int) := by omega
    have hi0 : (0 : Int) ≤ (i : Int) := by omega
    have hlt : b < c := by omega
    go_wp2
    go_quiet (fail)
    go_wp2
    go_quiet (fail)
    go_wp2
    go_quiet (fail)
    go_wp2
    go_ret
    exact ⟨⟨_, rfl, (and255 _).1, (and255 _).2⟩, ((hcur.out.hashed _).drewN _).moved (i + 1) hi, grown_trans (grown_drewN grown_set _) grown_set⟩
  · have hi2 : ¬ (i : Int) < (l.length : Int) := by omega
    clear hrd
    go_wp2
    go_quiet (fail)
    go_wp2
    go_quiet (fail)
    go_wp2
    go_ret
    exact ⟨⟨_, rfl, (and255 _).1, (and255 _).2⟩, ((hcur.out.hashed _).drewN _).drewN _, grown_drewN (grown_drewN grown_set _) _⟩
/-- what a draw keeps: the cursor, and all that lies elsewhere -/
theorem Cur.mono {w w' : World} {c B : Nat} {v : Value} {l : List Int} (h : Cur w' c B v l) (hg : w.grownBy w' (some c)) : w.heap.size ≤ w'.heap.size := hg.size
theorem sl1Below_any (c B : Nat) (v : Value) (l : List Int) (n : Int) (w : World) (hc : Cur w c B v l) (hl : l.length ≤ 1099511627776) (hB : ∀ x ∈ l, 0 ≤ x ∧ x ≤ 255) (h0 : 0 < n) (hn : n ≤ 9223372036854775807) :
    Calls Try.prog 60 #[.pointer (some ⟨c, 0, none⟩), .int .i64 n] w fun e w' => (∃ x : Int, e = .returned (.int .i64 x) ∧ 0 ≤ x ∧ x < n) ∧ Cur w' c B v l ∧ w.grownBy w' (some c) := by
  have hY := hid fun w hc => sl1Byte_any c B v l w hc hl hB
  replace hB := hid hB
  have z0 : ¬ n ≤ 0 := by omega
  by_cases hs : n ≤ 256
  · go_enter Try.func60, Try.ntmps60
    go_wp2_with fail
    refine (hY.out _ hc).mono ?_
    rintro e w1 ⟨⟨x, rfl, hx0, hx1⟩, hc1, hg1⟩
    have hm : x.tmod n = x % n := Int.tmod_eq_emod_of_nonneg hx0
    have hm0 := Int.emod_nonneg x (show n ≠ 0 by omega)
    have hm1 := Int.emod_lt_of_pos x h0
    have hz : (n == 0) = false := by rw [beq_eq_false_iff_ne]; omega
    obtain ⟨r, hr⟩ : ∃ r, r = x % n := ⟨_, rfl⟩
    rw [← hr] at hm hm0 hm1
    clear hr
    go_wp2
    go_ret
    exact ⟨⟨_, rfl, by omega, by omega⟩, hc1, hg1⟩
  · go_enter Try.func60, Try.ntmps60
    go_wp2_with fail
    refine (hY.out _ hc).mono ?_
    rintro e w1 ⟨⟨x1, rfl, hx0, hx1⟩, hc1, hg1⟩
    go_wp2_with fail
    refine (hY.out _ hc1).mono ?_
    rintro e w2 ⟨⟨x2, rfl, hy0, hy1⟩, hc2, hg2⟩
    go_wp2_with fail
    refine (hY.out _ hc2).mono ?_
    rintro e w3 ⟨⟨x3, rfl, hu0, hu1⟩, hc3, hg3⟩
    go_wp2_with fail
    refine (hY.out _ hc3).mono ?_
    rintro e w4 ⟨⟨x4, rfl, hv0, hv1⟩, hc4, hg4⟩
    have hw1 : wrap64 (x1 * 16777216) = x1 * 16777216 := by unfold wrap64; omega
    have hw2 : wrap64 (x2 * 65536) = x2 * 65536 := by unfold wrap64; omega
    have hw3 : wrap64 (x3 * 256) = x3 * 256 := by unfold wrap64; omega
    obtain ⟨X, hX⟩ : ∃ X, X = x1 * 16777216 + x2 * 65536 + x3 * 256 + x4 := ⟨_, rfl⟩
    have hX0 : 0 ≤ X := by omega
    have hm : X.tmod n = X % n := Int.tmod_eq_emod_of_nonneg hX0
    have hm0 := Int.emod_nonneg X (show n ≠ 0 by omega)
    have hm1 := Int.emod_lt_of_pos X h0
    have hz : (n == 0) = false := by rw [beq_eq_false_iff_ne]; omega
    obtain ⟨r, hr⟩ : ∃ r, r = X % n := ⟨_, rfl⟩
    rw [← hr] at hm hm0 hm1
    rw [hX] at hm
    clear hr hX hX0
    go_wp2
    go_ret
    exact ⟨⟨_, rfl, by omega, by omega⟩, hc4, grown_trans (grown_trans (grown_trans hg1 hg2) hg3) hg4⟩
end Go.Proofs.Ytffbamjfpegndab
