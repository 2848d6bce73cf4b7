/- Parts of the walk in one text: R1, R2, R3, R7, R4, RD, RK. Conditions: each theorem's own. -/
import Derived.Test.YtknbfohmobjplaaMKt
import Derived.Deep.QuietTactic
import Derived.BigQuiet
import Derived.Deep.RegionHeld3
namespace Go.Proofs.Ytknbfohmobjplaa
set_option linter.unusedVariables false
set_option linter.unusedSimpArgs false
open Go.RowKit

/-- a cursor in block c, over a code that lies below B -/
structure Cur (w : World) (c B : Nat) (v : Value) (l : List Int) : Prop where
  lt : c < w.heap.size
  le : B ≤ c
  code : w.cell? ⟨c, 0, none⟩ = some v
  at_ : ∃ i : Nat, i ≤ l.length ∧ w.cell? ⟨c, 1, none⟩ = some (.int .i64 i)
  hash : ∃ h : Int, w.cell? ⟨c, 2, none⟩ = some (.int .i64 h)
  free : w.frozen? ⟨c, 0, none⟩ = false ∧ w.frozen? ⟨c, 1, none⟩ = false ∧ w.frozen? ⟨c, 2, none⟩ = false
  rd : Rd w B .u8 v l
theorem Cur.below {w w' : World} {c B : Nat} {v : Value} {l : List Int} (h : Cur w c B v l) (hb : Below w.heap.size w w') : Cur w' c B v l := by
  have k : ∀ i, w'.cell? ⟨c, i, none⟩ = w.cell? ⟨c, i, none⟩ := fun i => hb.cell (p := ⟨c, i, none⟩) h.lt
  have f : ∀ i, w'.frozen? ⟨c, i, none⟩ = w.frozen? ⟨c, i, none⟩ := fun i => hb.frozen (p := ⟨c, i, none⟩) h.lt
  exact ⟨Nat.lt_of_lt_of_le h.lt hb.size, h.le, (k 0).trans h.code, h.at_.imp fun i hi => ⟨hi.1, (k 1).trans hi.2⟩, h.hash.imp fun i hi => (k 2).trans hi, ⟨(f 0).trans h.free.1, (f 1).trans h.free.2.1, (f 2).trans h.free.2.2⟩, h.rd.below (hb.mono (Nat.le_of_lt (Nat.lt_of_le_of_lt h.le h.lt)))⟩
theorem Cur.drewN {w : World} {c B : Nat} {v : Value} {l : List Int} (h : Cur w c B v l) (n : Nat) : Cur (w.drewN n) c B v l := ⟨h.lt, h.le, h.code, h.at_, h.hash, h.free, h.rd⟩
theorem Cur.hashed {w : World} {c B : Nat} {v : Value} {l : List Int} (h : Cur w c B v l) (x : Int) : Cur (w.setCell ⟨c, 2, none⟩ (.int .i64 x)) c B v l := by
  obtain ⟨h0, h1, h2, ⟨i, h3, h4⟩, ⟨y, h5⟩, ⟨h6, h7, h8⟩, h9⟩ := h
  exact ⟨by simpa using h0, h1, by simp [go_sem, h2], ⟨i, h3, by simp [go_sem, h4]⟩, ⟨x, by simp [go_sem, h5]⟩, ⟨by simp [go_sem, h6], by simp [go_sem, h7], by simp [go_sem, h8]⟩, h9.below ((Below.refl B w).setCell h1 _)⟩
theorem Cur.moved {w : World} {c B : Nat} {v : Value} {l : List Int} (h : Cur w c B v l) (j : Nat) (hj : j ≤ l.length) : Cur (w.setCell ⟨c, 1, none⟩ (.int .i64 (j : Int))) c B v l := by
  obtain ⟨h0, h1, h2, ⟨i, h3, h4⟩, ⟨y, h5⟩, ⟨h6, h7, h8⟩, h9⟩ := h
  exact ⟨by simpa using h0, h1, by simp [go_sem, h2], ⟨j, hj, by simp [go_sem, h4]⟩, ⟨y, by simp [go_sem, h5]⟩, ⟨by simp [go_sem, h6], by simp [go_sem, h7], by simp [go_sem, h8]⟩, h9.below ((Below.refl B w).setCell h1 _)⟩
theorem grown_drewN {a b : World} {row : Option Nat} (h : a.grownBy b row) (n : Nat) : a.grownBy (b.drewN n) row := grown_trans h (below_grown (below_drewN _ _ _) _)
theorem and255 (m : Int) : 0 ≤ bits .and .i64 m 255 ∧ bits .and .i64 m 255 ≤ 255 := by
  have h2 : (BitVec.ofInt 64 m &&& BitVec.ofInt 64 255).toNat ≤ 255 := by
    rw [BitVec.toNat_and]
    exact Nat.and_le_right
  show 0 ≤ IntKind.i64.wrap ((BitVec.ofInt 64 m &&& BitVec.ofInt 64 255).toNat : Int) ∧ IntKind.i64.wrap ((BitVec.ofInt 64 m &&& BitVec.ofInt 64 255).toNat : Int) ≤ 255
  rw [IntWalk.i64_in _ (by omega)]
  omega
theorem sl1Byte_any (c B : Nat) (v : Value) (l : List Int) (w : World) (hc : Cur w c B v l) (hl : l.length ≤ 1099511627776) (hB : ∀ x ∈ l, 0 ≤ x ∧ x ≤ 255) :
    Calls Try.prog 99 #[.pointer (some ⟨c, 0, none⟩)] w fun e w' => (∃ x : Int, e = .returned (.int .i64 x) ∧ 0 ≤ x ∧ x ≤ 255) ∧ Cur w' c B v l ∧ w.grownBy w' (some c) := by
  have hcur := hid hc
  obtain ⟨h0, h1, h2, ⟨i, h3, h4⟩, ⟨h, h5⟩, ⟨h6, h7, h8⟩, h9⟩ := hc
  have h9' := hid h9
  obtain ⟨ao, cap, rfl, _, _, hrd⟩ := h9
  replace hrd := hid hrd
  replace hB := hid hB
  go_enter Try.func99, Try.ntmps99
  by_cases hi : i < l.length
  · obtain ⟨b, off, rfl, hB1, hcell⟩ := hrd.out (by omega)
    have hcm := hcell i hi
    have hne : ¬ b = c := by omega
    clear hcell
    have hi2 : (i : Int) < (l.length : Int) := by omega
    have hi0 : (0 : Int) ≤ (i : Int) := by omega
    have hlt : b < c := by omega
    go_wp2
    go_quiet (fail)
    go_wp2
    go_quiet (fail)
    go_wp2
    go_quiet (fail)
    go_wp2
    go_ret
    exact ⟨⟨_, rfl, (and255 _).1, (and255 _).2⟩, ((hcur.out.hashed _).drewN _).moved (i + 1) hi, grown_trans (grown_drewN grown_set _) grown_set⟩
  · have hi2 : ¬ (i : Int) < (l.length : Int) := by omega
    clear hrd
    go_wp2
    go_quiet (fail)
    go_wp2
    go_quiet (fail)
    go_wp2
    go_ret
    exact ⟨⟨_, rfl, (and255 _).1, (and255 _).2⟩, ((hcur.out.hashed _).drewN _).drewN _, grown_drewN (grown_drewN grown_set _) _⟩
/-- what a draw keeps: the cursor, and all that lies elsewhere -/
theorem Cur.mono {w w' : World} {c B : Nat} {v : Value} {l : List Int} (h : Cur w' c B v l) (hg : w.grownBy w' (some c)) : w.heap.size ≤ w'.heap.size := hg.size
theorem sl1Below_any (c B : Nat) (v : Value) (l : List Int) (n : Int) (w : World) (hc : Cur w c B v l) (hl : l.length ≤ 1099511627776) (hB : ∀ x ∈ l, 0 ≤ x ∧ x ≤ 255) (h0 : 0 < n) (hn : n ≤ 9223372036854775807) :
    Calls Try.prog 93 #[.pointer (some ⟨c, 0, none⟩), .int .i64 n] w fun e w' => (∃ x : Int, e = .returned (.int .i64 x) ∧ 0 ≤ x ∧ x < n) ∧ Cur w' c B v l ∧ w.grownBy w' (some c) := by
  have hY := hid fun w hc => sl1Byte_any c B v l w hc hl hB
  replace hB := hid hB
  have z0 : ¬ n ≤ 0 := by omega
  by_cases hs : n ≤ 256
  · go_enter Try.func93, Try.ntmps93
    go_wp2_with fail
    refine (hY.out _ hc).mono ?_
    rintro e w1 ⟨⟨x, rfl, hx0, hx1⟩, hc1, hg1⟩
    have hm : x.tmod n = x % n := Int.tmod_eq_emod_of_nonneg hx0
    have hm0 := Int.emod_nonneg x (show n ≠ 0 by omega)
    have hm1 := Int.emod_lt_of_pos x h0
    have hz : (n == 0) = false := by rw [beq_eq_false_iff_ne]; omega
    obtain ⟨r, hr⟩ : ∃ r, r = x % n := ⟨_, rfl⟩
    rw [← hr] at hm hm0 hm1
    clear hr
    go_wp2
    go_ret
    exact ⟨⟨_, rfl, by omega, by omega⟩, hc1, hg1⟩
  · go_enter Try.func93, Try.ntmps93
    go_wp2_with fail
    refine (hY.out _ hc).mono ?_
    rintro e w1 ⟨⟨x1, rfl, hx0, hx1⟩, hc1, hg1⟩
    go_wp2_with fail
    refine (hY.out _ hc1).mono ?_
    rintro e w2 ⟨⟨x2, rfl, hy0, hy1⟩, hc2, hg2⟩
    go_wp2_with fail
    refine (hY.out _ hc2).mono ?_
    rintro e w3 ⟨⟨x3, rfl, hu0, hu1⟩, hc3, hg3⟩
    go_wp2_with fail
    refine (hY.out _ hc3).mono ?_
    rintro e w4 ⟨⟨x4, rfl, hv0, hv1⟩, hc4, hg4⟩
    have hw1 : wrap64 (x1 * 16777216) = x1 * 16777216 := by unfold wrap64; omega
    have hw2 : wrap64 (x2 * 65536) = x2 * 65536 := by unfold wrap64; omega
    have hw3 : wrap64 (x3 * 256) = x3 * 256 := by unfold wrap64; omega
    obtain ⟨X, hX⟩ : ∃ X, X = x1 * 16777216 + x2 * 65536 + x3 * 256 + x4 := ⟨_, rfl⟩
    have hX0 : 0 ≤ X := by omega
    have hm : X.tmod n = X % n := Int.tmod_eq_emod_of_nonneg hX0
    have hm0 := Int.emod_nonneg X (show n ≠ 0 by omega)
    have hm1 := Int.emod_lt_of_pos X h0
    have hz : (n == 0) = false := by rw [beq_eq_false_iff_ne]; omega
    obtain ⟨r, hr⟩ : ∃ r, r = X % n := ⟨_, rfl⟩
    rw [← hr] at hm hm0 hm1
    rw [hX] at hm
    clear hr hX hX0
    go_wp2
    go_ret
    exact ⟨⟨_, rfl, by omega, by omega⟩, hc4, grown_trans (grown_trans (grown_trans hg1 hg2) hg3) hg4⟩
end Go.Proofs.Ytknbfohmobjplaa

namespace Go.Proofs.Ytknbfohmobjplaa
set_option linter.unusedVariables false
set_option linter.unusedSimpArgs false
open Go.RowKit

set_option maxRecDepth 100000 in
theorem sl1New_any (v : Value) (l : List Int) (w : World) (hr : Rd w w.heap.size .u8 v l) (hl : l.length ≤ 1099511627776) :
    Calls Try.prog 62 #[v] w fun e w' => e = .returned (.pointer (some ⟨w.heap.size, 0, none⟩)) ∧ Cur w' w.heap.size w.heap.size v l ∧ Below w.heap.size w w' := by
  have hr0 := hid hr
  obtain ⟨ao, cap, rfl, _, _, hrd⟩ := hr
  replace hrd := hid hrd
  obtain ⟨n, hN⟩ : ∃ n, n = l.length := ⟨_, rfl⟩
  rw [← hN] at hl ⊢
  replace hN := hid hN
  go_enter Try.func62, Try.ntmps62
  go_wp2
  go_loopw [3, 4] (fun h i wr => ∃ (H : Int) (k : Nat), k ≤ n ∧ i = .int .i64 k ∧ h = .int .i64 H ∧ wr = w) (fun _ i _ => n - (intOf i).toNat)
  case atStart => exact ⟨_, 0, by omega, rfl, rfl, rfl⟩
  case round =>
    obtain ⟨H, k, hk, rfl, rfl, rfl⟩ := hrel
    by_cases hlt : k < n ∧ k < 4000
    · obtain ⟨hlt, h4⟩ := hlt
      have hj : k < l.length := by rw [← hN.out]; omega
      obtain ⟨b, off, rfl, hB, hcell⟩ := hrd.out (by omega)
      have hcm := hcell k hj
      clear hcell
      go_wp2
      go_roundw
      case rel => exact ⟨_, k + 1, by omega, by go_num, rfl, by trivial⟩
      case measure => simp [intOf]; omega
    · have hx : (decide ((k : Int) < (n : Int)) && decide ((k : Int) < 4000)) = false := by
        rw [← Bool.not_eq_true, Bool.and_eq_true, decide_eq_true_iff, decide_eq_true_iff]; omega
      by_cases hlt2 : k < n
      · have h4 : ¬ k < 4000 := fun h => hlt ⟨hlt2, h⟩
        clear hlt hx
        go_wp2
        go_ret
        exact ⟨rfl, ⟨by simp, Nat.le_refl _, by simp [go_sem], ⟨0, Nat.zero_le _, by simp [go_sem]⟩, ⟨H, by simp [go_sem]⟩, ⟨by simp [go_sem], by simp [go_sem], by simp [go_sem]⟩, hN.out ▸ hr0.out.alloc (Nat.le_refl _) _⟩, below_alloc _ _⟩
      · clear hlt hx
        go_wp2
        go_ret
        exact ⟨rfl, ⟨by simp, Nat.le_refl _, by simp [go_sem], ⟨0, Nat.zero_le _, by simp [go_sem]⟩, ⟨H, by simp [go_sem]⟩, ⟨by simp [go_sem], by simp [go_sem], by simp [go_sem]⟩, hN.out ▸ hr0.out.alloc (Nat.le_refl _) _⟩, below_alloc _ _⟩
theorem sl1PickInt_any (c B : Nat) (v : Value) (l L : List Int) (d : Nat) (w : World) (hc : Cur w c B v l) (hl : l.length ≤ 1099511627776) (hB : ∀ x ∈ l, 0 ≤ x ∧ x ≤ 255) (hd : d < w.heap.size) (hdc : d ≠ c)
    (hL : ∀ i (h : i < L.length), w.cell? ⟨d, i, none⟩ = some (.int .i64 L[i])) (h0 : 0 < L.length) (h1 : L.length ≤ 1024) :
    Calls Try.prog 94 #[.pointer (some ⟨c, 0, none⟩), .slice (some ⟨d, 0, none⟩) L.length L.length] w fun e w' => (∃ x : Int, e = .returned (.int .i64 x) ∧ x ∈ L) ∧ Cur w' c B v l ∧ w.grownBy w' (some c) := by
  have hY := hid fun w hc => sl1Below_any c B v l L.length w hc hl hB (by omega) (by omega)
  replace hL := hid hL
  obtain ⟨n, hN⟩ : ∃ n, n = L.length := ⟨_, rfl⟩
  rw [← hN] at hY h0 h1 ⊢
  replace hN := hid hN
  go_enter Try.func94, Try.ntmps94
  go_wp2_with fail
  refine (hY.out _ hc).mono ?_
  rintro e w1 ⟨⟨x, rfl, hx0, hx1⟩, hc1, hg1⟩
  obtain ⟨k, rfl⟩ := Int.eq_ofNat_of_zero_le hx0
  have hk : k < L.length := by rw [← hN.out]; omega
  have hcm := (cell_far hg1 ⟨d, k, none⟩ hd (by simp [hdc])).trans (hL.out k hk)
  have hk2 : k < n := by omega
  go_wp2
  go_ret
  exact ⟨⟨_, rfl, List.getElem_mem hk⟩, hc1, hg1⟩
theorem cells_new (w : World) (L : List Int) (e : TypeId) (i : Nat) (h : i < L.length) : (w.alloc (.cells (L.map (Value.int .i64)).toArray e)).cell? ⟨w.heap.size, i, none⟩ = some (.int .i64 L[i]) := by
  simp [go_sem, h]
def numsL : List Int := [-1, 0, 127, 128, 255, 256, 16383, 16384, 65535, 65536, 562949953421311, 562949953421312, 999999999, 1000000000, -999999999, 9223372036854775807, -9223372036854775808]
theorem numsL_bd : ∀ x ∈ numsL, -9223372036854775808 ≤ x ∧ x ≤ 9223372036854775807 := by decide
theorem wrap64_bd (z : Int) : -9223372036854775808 ≤ wrap64 z ∧ wrap64 z ≤ 9223372036854775807 := by unfold wrap64; omega
end Go.Proofs.Ytknbfohmobjplaa

namespace Go.Proofs.Ytknbfohmobjplaa
set_option linter.unusedVariables false
set_option linter.unusedSimpArgs false
open Go.RowKit

theorem Cur.under {w w' : World} {c B b : Nat} {v : Value} {l : List Int} (h : Cur w c B v l) (hb : Below b w w') (hcb : c < b) : Cur w' c B v l := by
  have k : ∀ i, w'.cell? ⟨c, i, none⟩ = w.cell? ⟨c, i, none⟩ := fun i => hb.cell (p := ⟨c, i, none⟩) hcb
  have f : ∀ i, w'.frozen? ⟨c, i, none⟩ = w.frozen? ⟨c, i, none⟩ := fun i => hb.frozen (p := ⟨c, i, none⟩) hcb
  exact ⟨Nat.lt_of_lt_of_le h.lt hb.size, h.le, (k 0).trans h.code, h.at_.imp fun i hi => ⟨hi.1, (k 1).trans hi.2⟩, h.hash.imp fun i hi => (k 2).trans hi, ⟨(f 0).trans h.free.1, (f 1).trans h.free.2.1, (f 2).trans h.free.2.2⟩, h.rd.below (hb.mono (Nat.le_of_lt (Nat.lt_of_le_of_lt h.le hcb)))⟩
theorem grown_under {a b c : World} {row : Option Nat} (h1 : a.grownBy b row) (h2 : Below a.heap.size b c) : a.grownBy c row :=
  ⟨h2.os.trans h1.os, h2.tape.trans h1.tape, h2.output.trans h1.output, Nat.le_trans h1.size h2.size, fun k hk hne => (h2.block k hk).trans (h1.block k hk hne)⟩
theorem Own.past {w w' : World} {base c : Nat} {e : TypeId} {k : IntKind} {v : Value} {l : List Int} (h : Own w base e k v l) (hg : w.grownBy w' (some c)) (hc : c < base) : Own w' base e k v l :=
  h.kept hg (by
    cases hv : v.ownBlock with
    | none => exact Or.inl rfl
    | some g =>
      refine Or.inr fun e => ?_
      have h1 := (World.ownsRow.lt h g hv).1
      have h2 := Option.some.inj e
      omega)
end Go.Proofs.Ytknbfohmobjplaa

namespace Go.Proofs.Ytknbfohmobjplaa
set_option linter.unusedVariables false
set_option linter.unusedSimpArgs false
open Go.RowKit

/-- new rows, one a block -/
def rowsW (e : TypeId) : List (List Int) → World → World
  | [], w => w
  | L :: r, w => rowsW e r (w.alloc (.cells (L.map (Value.int .i64)).toArray e))
theorem rowsW_size (e : TypeId) : ∀ (LL : List (List Int)) (w : World), (rowsW e LL w).heap.size = w.heap.size + LL.length := by
  intro LL
  induction LL with
  | nil => intro w; rfl
  | cons L r ih => intro w; rw [rowsW, ih, List.length_cons]; simp; omega
theorem rowsW_below (e : TypeId) : ∀ (LL : List (List Int)) (w : World), Below w.heap.size w (rowsW e LL w) := by
  intro LL
  induction LL with
  | nil => intro w; exact Below.refl _ _
  | cons L r ih => intro w; exact (below_alloc w _).trans ((ih _).mono (by simp))
theorem rowsW_cell (e : TypeId) : ∀ (LL : List (List Int)) (w : World) (k : Nat) (hk : k < LL.length) (i : Nat) (hi : i < LL[k].length), (rowsW e LL w).cell? ⟨w.heap.size + k, i, none⟩ = some (.int .i64 (LL[k][i])) := by
  intro LL
  induction LL with
  | nil => intro w k hk; exact absurd hk (by simp)
  | cons L r ih =>
    intro w k hk i hi
    rw [rowsW]
    cases k with
    | zero =>
      rw [(rowsW_below e r _).cell (p := ⟨w.heap.size + 0, i, none⟩) (by simp)]
      exact cells_new w L e i hi
    | succ k =>
      have h := ih (w.alloc (.cells (L.map (Value.int .i64)).toArray e)) k (by simpa using hk) i (by simpa using hi)
      rw [show (w.alloc (.cells (L.map (Value.int .i64)).toArray e)).heap.size + k = w.heap.size + (k + 1) by simp; omega] at h
      exact h
/-- the row of their slices -/
def slsL : Nat → List (List Int) → List Value
  | _, [] => []
  | n, L :: r => .slice (some ⟨n, 0, none⟩) L.length L.length :: slsL (n + 1) r
def slsOf (n : Nat) (LL : List (List Int)) : Array Value := (slsL n LL).toArray
theorem slsL_get : ∀ (LL : List (List Int)) (n k : Nat) (hk : k < LL.length), (slsL n LL)[k]? = some (.slice (some ⟨n + k, 0, none⟩) LL[k].length LL[k].length) := by
  intro LL
  induction LL with
  | nil => intro n k hk; exact absurd hk (by simp)
  | cons L r ih =>
    intro n k hk
    cases k with
    | zero => rfl
    | succ k =>
      have h := ih (n + 1) k (by simpa using hk)
      rw [show n + 1 + k = n + (k + 1) by omega] at h
      exact h
def litW (e S : TypeId) (LL : List (List Int)) (n : Nat) (w : World) : World := (rowsW e LL w).alloc (.cells (slsOf n LL) S)
theorem litW_size (e S : TypeId) (LL : List (List Int)) (n : Nat) (w : World) : (litW e S LL n w).heap.size = w.heap.size + LL.length + 1 := by unfold litW; simp [rowsW_size]
theorem litW_below (e S : TypeId) (LL : List (List Int)) (n : Nat) (w : World) : Below w.heap.size w (litW e S LL n w) := (rowsW_below e LL w).trans ((below_alloc _ _).mono (rowsW_below e LL w).size)
theorem litW_row (e S : TypeId) (LL : List (List Int)) (n : Nat) (w : World) (hn : w.heap.size = n) (k : Nat) (hk : k < LL.length) : (litW e S LL n w).cell? ⟨n + LL.length, k, none⟩ = some (.slice (some ⟨n + k, 0, none⟩) LL[k].length LL[k].length) := by
  subst hn
  unfold litW
  have h := rowsW_size e LL w
  rw [← h]
  refine (cell_of_row _ _ k _ S (0, 0) (heap_alloc_new _ _)).trans ?_
  have h2 := slsL_get LL w.heap.size k hk
  unfold slsOf
  simpa using h2
theorem litW_cell (e S : TypeId) (LL : List (List Int)) (n : Nat) (w : World) (hn : w.heap.size = n) (k : Nat) (hk : k < LL.length) (i : Nat) (hi : i < LL[k].length) : (litW e S LL n w).cell? ⟨n + k, i, none⟩ = some (.int .i64 (LL[k][i])) := by
  subst hn
  unfold litW
  rw [(below_alloc _ _).cell (p := ⟨w.heap.size + k, i, none⟩) (by rw [rowsW_size]; show w.heap.size + k < _; omega)]
  exact rowsW_cell e LL w k hk i hi
/-- a slice that reads as l, from a block that is not the cursor's -/
def Gd (w : World) (c : Nat) (v : Value) (l : List Int) : Prop :=
  ∃ ao cap, v = .slice ao l.length cap ∧ l.length ≤ cap ∧ cap ≤ maxLen ∧ (0 < l.length → ∃ b off, ao = some ⟨b, off, none⟩ ∧ b < w.heap.size ∧ b ≠ c ∧ ∀ i (h : i < l.length), w.cell? ⟨b, off + i, none⟩ = some (.int .i64 l[i]))
theorem Gd.rd {w : World} {c : Nat} {v : Value} {l : List Int} (h : Gd w c v l) : Rd w w.heap.size .i64 v l := by
  obtain ⟨ao, cap, hv, h1, h2, h3⟩ := h
  refine ⟨ao, cap, hv, h1, h2, fun hl => ?_⟩
  obtain ⟨b, off, ha, hb, _, hc⟩ := h3 hl
  exact ⟨b, off, ha, hb, hc⟩
theorem Gd.keep {w w' : World} {c : Nat} {v : Value} {l : List Int} (h : Gd w c v l) (hs : w.heap.size ≤ w'.heap.size) (hk : ∀ p : Addr, p.block < w.heap.size → p.block ≠ c → w'.cell? p = w.cell? p) : Gd w' c v l := by
  obtain ⟨ao, cap, hv, h1, h2, h3⟩ := h
  refine ⟨ao, cap, hv, h1, h2, fun hl => ?_⟩
  obtain ⟨b, off, ha, hb, hne, hc⟩ := h3 hl
  exact ⟨b, off, ha, by omega, hne, fun i hi => (hk ⟨b, off + i, none⟩ hb hne).trans (hc i hi)⟩
theorem Gd.below {w w' : World} {c : Nat} {v : Value} {l : List Int} (h : Gd w c v l) (hb : Below w.heap.size w w') : Gd w' c v l := h.keep hb.size fun p hp _ => hb.cell hp
theorem Gd.drawn {w w' : World} {c : Nat} {v : Value} {l : List Int} (h : Gd w c v l) (hg : w.grownBy w' (some c)) : Gd w' c v l := h.keep hg.size fun p hp hne => cell_far hg p hp (by simpa using hne)
theorem Gd.of_own {w : World} {base c : Nat} {e : TypeId} {v : Value} {l : List Int} (h : Own w base e .i64 v l) (hc : c < base) : Gd w c v l := by
  obtain ⟨ao, cap, rfl, h1, h2⟩ := h.shape
  refine ⟨ao, cap, rfl, h1, h2, fun hl => ?_⟩
  obtain ⟨g, cap', hv, hb, hg, _⟩ := h.form hl
  injection hv with hv1 hv2 hv3
  subst hv1
  exact ⟨g, 0, rfl, hg, by omega, fun i hi => by rw [Nat.zero_add]; exact h.cell i hi⟩
/-- a slice that was just made -/
theorem Gd.made {w : World} {c b : Nat} (L : List Int) (e : TypeId) (n : Nat) (hn : n = L.length) (hb : b = w.heap.size) (hc : c < b) (hL : L.length ≤ 1024) : Gd (w.alloc (.cells (L.map (Value.int .i64)).toArray e)) c (.slice (some ⟨b, 0, none⟩) n n) L := by
  subst hn
  subst hb
  exact ⟨_, _, rfl, Nat.le_refl _, by unfold maxLen; omega, fun _ => ⟨_, 0, rfl, by simp, by omega, fun i hi => by rw [Nat.zero_add]; exact cells_new w L e i hi⟩⟩
theorem Gd.set {w : World} {c : Nat} {v : Value} {l : List Int} (h : Gd w c v l) (g o : Nat) (u : Value) (hne : ∀ b off n k, v = .slice (some ⟨b, off, none⟩) n k → b ≠ g) : Gd (w.setCell ⟨g, o, none⟩ u) c v l := by
  obtain ⟨ao, cap, rfl, h1, h2, h3⟩ := h
  refine ⟨ao, cap, rfl, h1, h2, fun hl => ?_⟩
  obtain ⟨b, off, ha, hb, hnb, hc⟩ := h3 hl
  subst ha
  exact ⟨b, off, rfl, by simpa using hb, hnb, fun i hi => (cell_far (grown_set (w := w) (g := g) (o := o) (u := u)) ⟨b, off + i, none⟩ hb (by have := hne b off _ _ rfl; simpa using this)).trans (hc i hi)⟩
/-- the slice lies in no block below base -/
def Fresh (base : Nat) (v : Value) : Prop := ∀ b off n k, v = .slice (some ⟨b, off, none⟩) n k → base ≤ b
theorem Fresh.ne {base g : Nat} {v : Value} (h : Fresh base v) (hg : g < base) : ∀ b off n k, v = .slice (some ⟨b, off, none⟩) n k → b ≠ g := fun b off n k e => by
  have := h b off n k e
  omega
theorem Fresh.at (base b o n k : Nat) (h : base ≤ b) : Fresh base (.slice (some ⟨b, o, none⟩) n k) := fun b' off n' k' e => by
  injection e with e1 e2 e3
  injection e1 with e1
  injection e1 with e1
  omega
theorem Fresh.less {base base' : Nat} {v : Value} (h : Fresh base v) (hb : base' ≤ base) : Fresh base' v := fun b off n k e => Nat.le_trans hb (h b off n k e)
theorem Own.fresh {w : World} {base : Nat} {e : TypeId} {k : IntKind} {v : Value} {l : List Int} (h : Own w base e k v l) : Fresh base v := by
  unfold Own at h
  rcases h.2 with ⟨rfl, hn⟩ | ⟨g, cap, cur, rfl, hb, hg, h1, h2, _⟩
  · intro b off n k e
    injection e with e1 e2 e3
    cases e1
  · exact Fresh.at _ _ _ _ _ hb
/-- a drawn group -/
def GOut (c base : Nat) (e : Ending) (w : World) : Prop := ∃ u g, e = .returned (.agg #[u]) ∧ Gd w c u g ∧ g.length ≤ 5 ∧ Fresh base u
theorem frz_far {w w' : World} {row : Option Nat} (hg : w.grownBy w' row) (a : Addr) (hlt : a.block < w.heap.size) (hne : some a.block ≠ row) : w'.frozen? a = w.frozen? a := World.frozen?_of_block (w := w) (hg.block a.block hlt hne)
end Go.Proofs.Ytknbfohmobjplaa

namespace Go.Proofs.Ytknbfohmobjplaa
set_option linter.unusedVariables false
set_option linter.unusedSimpArgs false
open Go.RowKit

theorem below_cur {w w1 w2 : World} (h : Below w.heap.size w w1) (hg : w1.grownBy w2 (some w.heap.size)) : Below w.heap.size w w2 :=
  h.grown hg h.size fun g hg => by have := Option.some.inj hg; omega
theorem lbig_any (v : Value) (l : List Int) (w : World) (hr : Rd w w.heap.size .u8 v l) :
    Calls Try.prog 5 #[v] w fun e w' => e = .returned (.bool (decide (1048576 < (l.length : Int)))) ∧ w = w' := by
  obtain ⟨ao, cap, rfl, _, _, hrd⟩ := hr
  replace hrd := hid hrd
  go_enter Try.func5, Try.ntmps5
  go_wp2
  go_ret
  exact ⟨rfl, rfl⟩
end Go.Proofs.Ytknbfohmobjplaa

namespace Go.Proofs.Ytknbfohmobjplaa
set_option linter.unusedVariables false
set_option linter.unusedSimpArgs false
open Go.RowKit

theorem lsameInts_same (v1 v2 : Value) (l : List Int) (w : World) (hr1 : Rd w w.heap.size .i64 v1 l) (hr2 : Rd w w.heap.size .i64 v2 l) (hn : l.length ≤ 1073741824) :
    Calls Try.prog 30 #[v1, v2] w fun e w' => e = .returned (.bool true) ∧ Below w.heap.size w w' := by
  obtain ⟨ao1, cap1, rfl, _, _, hrd1⟩ := hr1
  obtain ⟨ao2, cap2, rfl, _, _, hrd2⟩ := hr2
  obtain ⟨n, hN⟩ : ∃ n, n = l.length := ⟨_, rfl⟩
  rw [← hN] at hn ⊢
  replace hN := hid hN
  replace hrd1 := hid hrd1
  replace hrd2 := hid hrd2
  go_enter Try.func30, Try.ntmps30
  go_wp2
  go_loopw [5] (fun i wr => ∃ k : Nat, k ≤ n ∧ i = .int .i64 k ∧ Below w.heap.size w wr) (fun i _ => n - (intOf i).toNat)
  case atStart => exact ⟨0, by omega, rfl, Below.refl _ _⟩
  case round =>
    obtain ⟨k, hk, rfl, hb⟩ := hrel
    by_cases hlt : k < n
    · have hj : k < l.length := by rw [← hN.out]; exact hlt
      obtain ⟨b1, o1, rfl, hB1, hc1⟩ := hrd1.out (by omega)
      obtain ⟨b2, o2, rfl, hB2, hc2⟩ := hrd2.out (by omega)
      have hm1 := (hb.cell (p := ⟨b1, o1 + k, none⟩) hB1).trans (hc1 k hj)
      have hm2 := (hb.cell (p := ⟨b2, o2 + k, none⟩) hB2).trans (hc2 k hj)
      obtain ⟨x, hx⟩ : ∃ x, x = l[k] := ⟨_, rfl⟩
      rw [← hx] at hm1 hm2
      clear hc1 hc2 hx
      go_wp2
      go_quiet (fail)
      go_wp2
      go_roundw
      case rel => exact ⟨k + 1, by omega, by go_num, hb.trans (below_drewN _ _ _)⟩
      case measure => simp [intOf]; omega
    · have hst : ¬ (k : Int) < (n : Int) := by omega
      clear hlt
      go_wp2
      go_ret
      exact ⟨rfl, hb⟩
end Go.Proofs.Ytknbfohmobjplaa

namespace Go.Proofs.Ytknbfohmobjplaa
open Go.RowKit

theorem wp_region_held_lit {P : Program} {ops : Array Oper} {Q : Exit → Act → World → Prop} {S : World → Prop} {id : Nat} {a : Act} {w : World} (L : Array Bool) (hL : Array.replicate ops.size false = L) (hm : P.follows .mixedOrders = true) (hS : S w.drew)
    (h : S w.drew → wpAnyH P .any ops Q S ops.size L a w.drew) : (Code.region id ops true).wp P Q a w := by
  subst hL
  exact wp_region_held_drew hm hS h
end Go.Proofs.Ytknbfohmobjplaa
