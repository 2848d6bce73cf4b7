
/- The draws of a text, and what the law of the integer encodings draws. Conditions: codes of at most 2^40 bytes. -/
import Derived.Test.YtknbfohmobjplaaR2
namespace Go.Proofs.Ytknbfohmobjplaa
set_option linter.unusedVariables false
set_option linter.unusedSimpArgs false
open Go.RowKit

theorem Cur.under {w w' : World} {c B b : Nat} {v : Value} {l : List Int} (h : Cur w c B v l) (hb : Below b w w') (hcb : c < b) : Cur w' c B v l := by
  have k : ∀ i, w'.cell? ⟨c, i, none⟩ = w.cell? ⟨c, i, none⟩ := fun i => hb.cell (p := ⟨c, i, none⟩) hcb
  have f : ∀ i, w'.frozen? ⟨c, i, none⟩ = w.frozen? ⟨c, i, none⟩ := fun i => hb.frozen (p := ⟨c, i, none⟩) hcb
  exact ⟨Nat.lt_of_lt_of_le h.lt hb.size, h.le, (k 0).trans h.code, h.at_.imp fun i hi => ⟨hi.1, (k 1).trans hi.2⟩, h.hash.imp fun i hi => (k 2).trans hi, ⟨(f 0).trans h.free.1, (f 1).trans h.free.2.1, (f 2).trans h.free.2.2⟩, h.rd.below (hb.mono (Nat.le_of_lt (Nat.lt_of_le_of_lt h.le hcb)))⟩
theorem grown_under {a b c : World} {row : Option Nat} (h1 : a.grownBy b row) (h2 : Below a.heap.size b c) : a.grownBy c row :=
  ⟨h2.os.trans h1.os, h2.tape.trans h1.tape, h2.output.trans h1.output, Nat.le_trans h1.size h2.size, fun k hk hne => (h2.block k hk).trans (h1.block k hk hne)⟩
theorem Own.past {w w' : World} {base c : Nat} {e : TypeId} {k : IntKind} {v : Value} {l : List Int} (h : Own w base e k v l) (hg : w.grownBy w' (some c)) (hc : c < base) : Own w' base e k v l :=
  h.kept hg (by
    cases hv : v.ownBlock with
    | none => exact Or.inl rfl
    | some g =>
      refine Or.inr fun e => ?_
      have h1 := (World.ownsRow.lt h g hv).1
      have h2 := Option.some.inj e
      omega)
end Go.Proofs.Ytknbfohmobjplaa
