
/- Arguments of a law, opened: a slice of numbers, a group. No conditions. -/
import Derived.Test.YtffbamjfpegndabKitG
import Derived.ProofKit
import Derived.OpenShut
import Derived.ShutString
import Derived.ChangeOld
import Derived.Below
namespace Go.Proofs.Ytffbamjfpegndab
open Go.ChangeShapes Go.WideShapes Go.ChangeAt Go.RowKit

/-- what a law's walk is told of a slice of numbers -/
def Row (k : IntKind) (w : World) (v : Value) (l : List Int) : Prop := Rd w w.heap.size k v l ∧ ∀ x ∈ l, (Lit.int k x).wf = true

section
variable {H : Type} {enc : TypeId × Value → H} {P : Program} {w : World}
theorem row_of {t e : TypeId} {k : IntKind} {fuel : Nat} {cs : List Value} {x : DataW H × List MemPlace} (hT : P.underlying t = some (.slice e)) (hE : P.underlying e = some (.int k)) (hC : P.cellsOf e = 1)
    (h : DataW.trod enc P w 0 (fun _ => true) true fuel t cs = some x) : ∃ a len cap l, cs = [.slice a len cap] ∧ Row k w (.slice a len cap) l := by
  rcases open_ints hT hE hC h with ⟨h1, _⟩ | ⟨ad, n, c, zs, h1, _, hl, hm, hz, _, hcell, hwf⟩
  · exact ⟨none, 0, 0, [], h1, Rd.nil _ _ _, fun x hx => by cases hx⟩
  · simp only [if_true] at hz
    refine ⟨some ad, n, c, zs.take n, h1, ⟨some ad, c, ?_, ?_, hm, ?_⟩, fun x hx => hwf x (List.mem_of_mem_take hx)⟩
    · rw [List.length_take, Nat.min_eq_left (by omega)]
    · rw [List.length_take]; omega
    · intro hpos
      rw [List.length_take] at hpos
      obtain ⟨b, off, hab, hc⟩ := ints_at hcell (by omega)
      refine ⟨b, off, congrArg some hab, World.block_lt_of_cell? w _ (hc 0 (by omega)), fun i hi => ?_⟩
      rw [List.length_take] at hi
      rw [hc i (by omega), List.getElem_take, List.getD_eq_getElem?_getD, List.getElem?_eq_getElem (by omega)]
      rfl
theorem open_row {t e : TypeId} {k : IntKind} {a : Option Addr} {len cap : Nat} {d : DataW H} {p : List MemPlace} (hT : P.underlying t = some (.slice e)) (hE : P.underlying e = some (.int k)) (hC : P.cellsOf e = 1)
    (h : DataW.Trod enc P w 0 (fun _ => true) true t (.slice a len cap) d p) : ∃ l, Row k w (.slice a len cap) l := by
  obtain ⟨fuel, hf⟩ := h
  obtain ⟨a', len', cap', l, hcs, hrow⟩ := row_of hT hE hC hf
  have e : Value.slice a len cap = Value.slice a' len' cap' := by simpa [Value.cells] using hcs
  exact ⟨l, e ▸ hrow⟩
end
set_option maxRecDepth 100000 in
theorem open_group {H : Type} {enc : TypeId × Value → H} {w : World} {r : Reach} {b : Nat} {v : Value} {d : DataW H} {p : List MemPlace} (hv : Value.okWide Try.prog w r b 24 v)
    (h : DataW.Trod enc Try.prog w 0 (fun _ => true) true 24 v d p) : ∃ a len cap l, v = .agg #[.slice a len cap] ∧ Row .i64 w (.slice a len cap) l := by
  obtain ⟨cs, rfl, hsz⟩ := okWide_struct Try.underlying24 hv
  obtain ⟨fuel, hf⟩ := h
  obtain ⟨y0, n, _, hlen, hy⟩ := trod_struct1 Try.underlying24 hf
  obtain ⟨cs⟩ := cs
  have hC : Try.prog.cellsOf 24 = 1 := by kernel_rfl
  have hC2 : Try.prog.cellsOf 22 = 1 := by kernel_rfl
  have hl1 : cs.length = 1 := hsz.trans hC
  rw [hC2] at hy
  match cs, hl1 with
  | [c0], _ =>
    have hy2 : DataW.trod enc Try.prog w 0 (fun _ => true) true n 22 [c0] = some y0 := by simpa [Value.cells] using hy
    obtain ⟨a, len, cap, l, hcs, hrow⟩ := row_of Try.underlying22 Try.underlying3 (by kernel_rfl) hy2
    have hc0 := (List.cons.inj hcs).1
    rw [hc0]
    exact ⟨a, len, cap, l, rfl, hrow⟩
end Go.Proofs.Ytffbamjfpegndab
