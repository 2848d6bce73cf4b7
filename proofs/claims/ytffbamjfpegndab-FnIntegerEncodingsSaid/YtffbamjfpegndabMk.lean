
/- Rows that are marked and kept apart. No conditions. -/
import Derived.Test.YtffbamjfpegndabKitG
namespace Go.Proofs.Ytffbamjfpegndab
open Go.RowKit

theorem mark_below {w w' : World} {base : Nat} {e : TypeId} {k : IntKind} {v : Value} {l : List Int} (h : Own w base e k v l) (hg : w.grownBy w' v.ownBlock) (hb : base ≤ w.heap.size) : Below base w w' :=
  (Below.refl base w).grown hg hb fun g hgv => (World.ownsRow.lt h g hgv).1
/-- a row of blocks from base on is none of the rows below base -/
theorem Own.apart {w w' : World} {base base' : Nat} {e : TypeId} {k : IntKind} {v v' : Value} {l l' : List Int} (h : Own w base e k v l) (h' : Own w' base' e k v' l') (hb : w'.heap.size ≤ base) : v.ownBlock = none ∨ v.ownBlock ≠ v'.ownBlock := by
  cases hv : v.ownBlock with
  | none => exact .inl rfl
  | some g =>
    right
    intro hc
    have h1 := World.ownsRow.lt h g hv
    have h2 := World.ownsRow.lt h' g hc.symm
    omega
theorem Own.cells {w : World} {base : Nat} {e : TypeId} {k : IntKind} {ao : Option Addr} {n cap : Nat} {l : List Int} (h : Own w base e k (.slice ao n cap) l) (hl : 0 < l.length) :
    ∃ b, ao = some ⟨b, 0, none⟩ ∧ base ≤ b ∧ b < w.heap.size ∧ ∀ i (hi : i < l.length), w.cell? ⟨b, i, none⟩ = some (.int k l[i]) := by
  obtain ⟨g, cap', hv, hb, hg, _⟩ := h.form hl
  injection hv with h1 h2 h3
  subst h1
  exact ⟨g, rfl, hb, hg, fun i hi => h.cell i hi⟩
theorem cell_far {w w' : World} {row : Option Nat} (hg : w.grownBy w' row) (a : Addr) (hlt : a.block < w.heap.size) (hne : some a.block ≠ row) : w'.cell? a = w.cell? a := World.cell?_of_block (w := w) (hg.block a.block hlt hne)
theorem below_grown {w w' : World} (h : Below w.heap.size w w') (row : Option Nat) : w.grownBy w' row := ⟨h.os, h.tape, h.output, h.size, fun j hj _ => h.block j hj⟩
end Go.Proofs.Ytffbamjfpegndab
