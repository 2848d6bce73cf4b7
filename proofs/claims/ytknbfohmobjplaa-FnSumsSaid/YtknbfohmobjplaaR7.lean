
/- Rows of rows that a literal makes: where they lie. No conditions. -/
import Derived.Test.YtknbfohmobjplaaR3
namespace Go.Proofs.Ytknbfohmobjplaa
set_option linter.unusedVariables false
set_option linter.unusedSimpArgs false
open Go.RowKit

/-- new rows, one a block -/
def rowsW (e : TypeId) : List (List Int) → World → World
  | [], w => w
  | L :: r, w => rowsW e r (w.alloc (.cells (L.map (Value.int .i64)).toArray e))
theorem rowsW_size (e : TypeId) : ∀ (LL : List (List Int)) (w : World), (rowsW e LL w).heap.size = w.heap.size + LL.length := by
  intro LL
  induction LL with
  | nil => intro w; rfl
  | cons L r ih => intro w; rw [rowsW, ih, List.length_cons]; simp; omega
theorem rowsW_below (e : TypeId) : ∀ (LL : List (List Int)) (w : World), Below w.heap.size w (rowsW e LL w) := by
  intro LL
  induction LL with
  | nil => intro w; exact Below.refl _ _
  | cons L r ih => intro w; exact (below_alloc w _).trans ((ih _).mono (by simp))
theorem rowsW_cell (e : TypeId) : ∀ (LL : List (List Int)) (w : World) (k : Nat) (hk : k < LL.length) (i : Nat) (hi : i < LL[k].length), (rowsW e LL w).cell? ⟨w.heap.size + k, i, none⟩ = some (.int .i64 (LL[k][i])) := by
  intro LL
  induction LL with
  | nil => intro w k hk; exact absurd hk (by simp)
  | cons L r ih =>
    intro w k hk i hi
    rw [rowsW]
    cases k with
    | zero =>
      rw [(rowsW_below e r _).cell (p := ⟨w.heap.size + 0, i, none⟩) (by simp)]
      exact cells_new w L e i hi
    | succ k =>
      have h := ih (w.alloc (.cells (L.map (Value.int .i64)).toArray e)) k (by simpa using hk) i (by simpa using hi)
      rw [show (w.alloc (.cells (L.map (Value.int .i64)).toArray e)).heap.size + k = w.heap.size + (k + 1) by simp; omega] at h
      exact h
/-- the row of their slices -/
def slsL : Nat → List (List Int) → List Value
  | _, [] => []
  | n, L :: r => .slice (some ⟨n, 0, none⟩) L.length L.length :: slsL (n + 1) r
def slsOf (n : Nat) (LL : List (List Int)) : Array Value := (slsL n LL).toArray
theorem slsL_get : ∀ (LL : List (List Int)) (n k : Nat) (hk : k < LL.length), (slsL n LL)[k]? = some (.slice (some ⟨n + k, 0, none⟩) LL[k].length LL[k].length) := by
  intro LL
  induction LL with
  | nil => intro n k hk; exact absurd hk (by simp)
  | cons L r ih =>
    intro n k hk
    cases k with
    | zero => rfl
    | succ k =>
      have h := ih (n + 1) k (by simpa using hk)
      rw [show n + 1 + k = n + (k + 1) by omega] at h
      exact h
def litW (e S : TypeId) (LL : List (List Int)) (n : Nat) (w : World) : World := (rowsW e LL w).alloc (.cells (slsOf n LL) S)
theorem litW_size (e S : TypeId) (LL : List (List Int)) (n : Nat) (w : World) : (litW e S LL n w).heap.size = w.heap.size + LL.length + 1 := by unfold litW; simp [rowsW_size]
theorem litW_below (e S : TypeId) (LL : List (List Int)) (n : Nat) (w : World) : Below w.heap.size w (litW e S LL n w) := (rowsW_below e LL w).trans ((below_alloc _ _).mono (rowsW_below e LL w).size)
theorem litW_row (e S : TypeId) (LL : List (List Int)) (n : Nat) (w : World) (hn : w.heap.size = n) (k : Nat) (hk : k < LL.length) : (litW e S LL n w).cell? ⟨n + LL.length, k, none⟩ = some (.slice (some ⟨n + k, 0, none⟩) LL[k].length LL[k].length) := by
  subst hn
  unfold litW
  have h := rowsW_size e LL w
  rw [← h]
  refine (cell_of_row _ _ k _ S (0, 0) (heap_alloc_new _ _)).trans ?_
  have h2 := slsL_get LL w.heap.size k hk
  unfold slsOf
  simpa using h2
theorem litW_cell (e S : TypeId) (LL : List (List Int)) (n : Nat) (w : World) (hn : w.heap.size = n) (k : Nat) (hk : k < LL.length) (i : Nat) (hi : i < LL[k].length) : (litW e S LL n w).cell? ⟨n + k, i, none⟩ = some (.int .i64 (LL[k][i])) := by
  subst hn
  unfold litW
  rw [(below_alloc _ _).cell (p := ⟨w.heap.size + k, i, none⟩) (by rw [rowsW_size]; show w.heap.size + k < _; omega)]
  exact rowsW_cell e LL w k hk i hi
/-- a slice that reads as l, from a block that is not the cursor's -/
def Gd (w : World) (c : Nat) (v : Value) (l : List Int) : Prop :=
  ∃ ao cap, v = .slice ao l.length cap ∧ l.length ≤ cap ∧ cap ≤ maxLen ∧ (0 < l.length → ∃ b off, ao = some ⟨b, off, none⟩ ∧ b < w.heap.size ∧ b ≠ c ∧ ∀ i (h : i < l.length), w.cell? ⟨b, off + i, none⟩ = some (.int .i64 l[i]))
theorem Gd.rd {w : World} {c : Nat} {v : Value} {l : List Int} (h : Gd w c v l) : Rd w w.heap.size .i64 v l := by
  obtain ⟨ao, cap, hv, h1, h2, h3⟩ := h
  refine ⟨ao, cap, hv, h1, h2, fun hl => ?_⟩
  obtain ⟨b, off, ha, hb, _, hc⟩ := h3 hl
  exact ⟨b, off, ha, hb, hc⟩
theorem Gd.keep {w w' : World} {c : Nat} {v : Value} {l : List Int} (h : Gd w c v l) (hs : w.heap.size ≤ w'.heap.size) (hk : ∀ p : Addr, p.block < w.heap.size → p.block ≠ c → w'.cell? p = w.cell? p) : Gd w' c v l := by
  obtain ⟨ao, cap, hv, h1, h2, h3⟩ := h
  refine ⟨ao, cap, hv, h1, h2, fun hl => ?_⟩
  obtain ⟨b, off, ha, hb, hne, hc⟩ := h3 hl
  exact ⟨b, off, ha, by omega, hne, fun i hi => (hk ⟨b, off + i, none⟩ hb hne).trans (hc i hi)⟩
theorem Gd.below {w w' : World} {c : Nat} {v : Value} {l : List Int} (h : Gd w c v l) (hb : Below w.heap.size w w') : Gd w' c v l := h.keep hb.size fun p hp _ => hb.cell hp
theorem Gd.drawn {w w' : World} {c : Nat} {v : Value} {l : List Int} (h : Gd w c v l) (hg : w.grownBy w' (some c)) : Gd w' c v l := h.keep hg.size fun p hp hne => cell_far hg p hp (by simpa using hne)
theorem Gd.of_own {w : World} {base c : Nat} {e : TypeId} {v : Value} {l : List Int} (h : Own w base e .i64 v l) (hc : c < base) : Gd w c v l := by
  obtain ⟨ao, cap, rfl, h1, h2⟩ := h.shape
  refine ⟨ao, cap, rfl, h1, h2, fun hl => ?_⟩
  obtain ⟨g, cap', hv, hb, hg, _⟩ := h.form hl
  injection hv with hv1 hv2 hv3
  subst hv1
  exact ⟨g, 0, rfl, hg, by omega, fun i hi => by rw [Nat.zero_add]; exact h.cell i hi⟩
/-- a slice that was just made -/
theorem Gd.made {w : World} {c b : Nat} (L : List Int) (e : TypeId) (n : Nat) (hn : n = L.length) (hb : b = w.heap.size) (hc : c < b) (hL : L.length ≤ 1024) : Gd (w.alloc (.cells (L.map (Value.int .i64)).toArray e)) c (.slice (some ⟨b, 0, none⟩) n n) L := by
  subst hn
  subst hb
  exact ⟨_, _, rfl, Nat.le_refl _, by unfold maxLen; omega, fun _ => ⟨_, 0, rfl, by simp, by omega, fun i hi => by rw [Nat.zero_add]; exact cells_new w L e i hi⟩⟩
theorem Gd.set {w : World} {c : Nat} {v : Value} {l : List Int} (h : Gd w c v l) (g o : Nat) (u : Value) (hne : ∀ b off n k, v = .slice (some ⟨b, off, none⟩) n k → b ≠ g) : Gd (w.setCell ⟨g, o, none⟩ u) c v l := by
  obtain ⟨ao, cap, rfl, h1, h2, h3⟩ := h
  refine ⟨ao, cap, rfl, h1, h2, fun hl => ?_⟩
  obtain ⟨b, off, ha, hb, hnb, hc⟩ := h3 hl
  subst ha
  exact ⟨b, off, rfl, by simpa using hb, hnb, fun i hi => (cell_far (grown_set (w := w) (g := g) (o := o) (u := u)) ⟨b, off + i, none⟩ hb (by have := hne b off _ _ rfl; simpa using this)).trans (hc i hi)⟩
/-- the slice lies in no block below base -/
def Fresh (base : Nat) (v : Value) : Prop := ∀ b off n k, v = .slice (some ⟨b, off, none⟩) n k → base ≤ b
theorem Fresh.ne {base g : Nat} {v : Value} (h : Fresh base v) (hg : g < base) : ∀ b off n k, v = .slice (some ⟨b, off, none⟩) n k → b ≠ g := fun b off n k e => by
  have := h b off n k e
  omega
theorem Fresh.at (base b o n k : Nat) (h : base ≤ b) : Fresh base (.slice (some ⟨b, o, none⟩) n k) := fun b' off n' k' e => by
  injection e with e1 e2 e3
  injection e1 with e1
  injection e1 with e1
  omega
theorem Fresh.less {base base' : Nat} {v : Value} (h : Fresh base v) (hb : base' ≤ base) : Fresh base' v := fun b off n k e => Nat.le_trans hb (h b off n k e)
theorem Own.fresh {w : World} {base : Nat} {e : TypeId} {k : IntKind} {v : Value} {l : List Int} (h : Own w base e k v l) : Fresh base v := by
  unfold Own at h
  rcases h.2 with ⟨rfl, hn⟩ | ⟨g, cap, cur, rfl, hb, hg, h1, h2, _⟩
  · intro b off n k e
    injection e with e1 e2 e3
    cases e1
  · exact Fresh.at _ _ _ _ _ hb
/-- a drawn group -/
def GOut (c base : Nat) (e : Ending) (w : World) : Prop := ∃ u g, e = .returned (.agg #[u]) ∧ Gd w c u g ∧ g.length ≤ 5 ∧ Fresh base u
theorem frz_far {w w' : World} {row : Option Nat} (hg : w.grownBy w' row) (a : Addr) (hlt : a.block < w.heap.size) (hne : some a.block ≠ row) : w'.frozen? a = w.frozen? a := World.frozen?_of_block (w := w) (hg.block a.block hlt hne)
end Go.Proofs.Ytknbfohmobjplaa
