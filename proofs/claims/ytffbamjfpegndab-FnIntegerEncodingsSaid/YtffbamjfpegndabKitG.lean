/- Slices of integers that are only read, in this seat's walks. No conditions. -/
import Derived.Test.YtffbamjfpegndabKit
namespace Go.Proofs.Ytffbamjfpegndab
open Go.RowKit

/-- the slice v reads as the numbers l, from blocks below B -/
def Rd (w : World) (B : Nat) (k : IntKind) (v : Value) (l : List Int) : Prop :=
  ∃ ao cap, v = .slice ao l.length cap ∧ l.length ≤ cap ∧ cap ≤ maxLen ∧ (0 < l.length → ∃ b off, ao = some ⟨b, off, none⟩ ∧ b < B ∧ ∀ i (h : i < l.length), w.cell? ⟨b, off + i, none⟩ = some (.int k l[i]))

section
variable {w w' : World} {B B' : Nat} {k : IntKind} {v : Value} {l : List Int}
theorem Rd.keep (h : Rd w B k v l) (hk : ∀ p : Addr, p.block < B → w'.cell? p = w.cell? p) : Rd w' B k v l := by
  obtain ⟨ao, cap, hv, h1, h2, h3⟩ := h
  refine ⟨ao, cap, hv, h1, h2, fun hl => ?_⟩
  obtain ⟨b, off, ha, hb, hc⟩ := h3 hl
  exact ⟨b, off, ha, hb, fun i hi => (hk ⟨b, off + i, none⟩ hb).trans (hc i hi)⟩
theorem Rd.more (h : Rd w B k v l) (hB : B ≤ B') : Rd w B' k v l := by
  obtain ⟨ao, cap, hv, h1, h2, h3⟩ := h
  refine ⟨ao, cap, hv, h1, h2, fun hl => ?_⟩
  obtain ⟨b, off, ha, hb, hc⟩ := h3 hl
  exact ⟨b, off, ha, by omega, hc⟩
theorem Rd.below (h : Rd w B k v l) (hb : Below B w w') : Rd w' B k v l := h.keep fun _ hp => hb.cell hp
theorem Rd.drew (h : Rd w B k v l) : Rd w.drew B k v l := h
theorem Rd.drewN (h : Rd w B k v l) (n : Nat) : Rd (w.drewN n) B k v l := h
theorem Rd.alloc (h : Rd w B k v l) (hB : B ≤ w.heap.size) (o : Obj) : Rd (w.alloc o) B k v l := h.below ((Below.refl B w).alloc hB o)
theorem Rd.of_own {base : Nat} {e : TypeId} (h : Own w base e k v l) : Rd w w.heap.size k v l := by
  obtain ⟨ao, cap, rfl, h1, h2⟩ := h.shape
  refine ⟨ao, cap, rfl, h1, h2, fun hl => ?_⟩
  obtain ⟨g, cap', hv, hb, hg, _⟩ := h.form hl
  injection hv with hv1 hv2 hv3
  subst hv1
  exact ⟨g, 0, rfl, hg, fun i hi => by rw [Nat.zero_add]; exact h.cell i hi⟩
theorem Rd.nil (w : World) (B : Nat) (k : IntKind) : Rd w B k (.slice none 0 0) [] := ⟨none, 0, rfl, by simp, by decide, fun h => by simp at h⟩
end

theorem Own.under {w : World} {base : Nat} {e : TypeId} {k : IntKind} {v : Value} {l : List Int} (h : Own w base e k v l) {a : Addr} (ha : a.block < base) (u : Value) : Own (w.setCell a u) base e k v l := ownsRow_setCell_below h ha u
/-- whether two lists are the same -/
def eqL (a b : List Int) : Bool := decide (a = b)
theorem eqL_self (a : List Int) : eqL a a = true := decide_eq_true rfl

/-- behind a call that leaves what was there: the old cells and marks, for the walk -/
theorem bcell {W w1 : World} (hb : Below W.heap.size W w1) : (∀ b o, b < W.heap.size → w1.cell? ⟨b, o, none⟩ = W.cell? ⟨b, o, none⟩) ∧ (∀ b o, b < W.heap.size → w1.frozen? ⟨b, o, none⟩ = W.frozen? ⟨b, o, none⟩) :=
  ⟨fun b o h => hb.cell (p := ⟨b, o, none⟩) h, fun b o h => hb.frozen (p := ⟨b, o, none⟩) h⟩
theorem below_alloc (w : World) (o : Obj) : Below w.heap.size w (w.alloc o) := (Below.refl _ _).alloc (Nat.le_refl _) _

end Go.Proofs.Ytffbamjfpegndab
