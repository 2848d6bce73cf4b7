/- Rows that are marked and kept apart. No conditions. -/
import Derived.Test.YtnlfpfegmkagmaaKitG
namespace Go.Proofs.Ytnlfpfegmkagmaa
open Go.RowKit

theorem mark_below {w w' : World} {base : Nat} {e : TypeId} {k : IntKind} {v : Value} {l : List Int} (h : Own w base e k v l) (hg : w.grownBy w' v.ownBlock) (hb : base ≤ w.heap.size) : Below base w w' :=
  (Below.refl base w).grown hg hb fun g hgv => (World.ownsRow.lt h g hgv).1
/-- a row of blocks from base on is none of the rows below base -/
theorem Own.apart {w w' : World} {base base' : Nat} {e : TypeId} {k : IntKind} {v v' : Value} {l l' : List Int} (h : Own w base e k v l) (h' : Own w' base' e k v' l') (hb : w'.heap.size ≤ base) : v.ownBlock = none ∨ v.ownBlock ≠ v'.ownBlock := by
  cases hv : v.ownBlock with
  | none => exact .inl rfl
  | some g =>
    right
    intro hc
    have h1 := World.ownsRow.lt h g hv
    have h2 := World.ownsRow.lt h' g hc.symm
    omega
end Go.Proofs.Ytnlfpfegmkagmaa
