/- What PlacesOf computes, the program's and the reference's. Conditions: at most 2^20 orders. -/
import Derived.Test.YtknbfohmobjplaaMGa
import Derived.Test.YtknbfohmobjplaaMPl
namespace Go.Proofs.Ytknbfohmobjplaa
open Go.RowKit

def plcE (l : List Int) (x : Int) : List Int := if isEl l x then places l x else []
theorem plcE_len {l : List Int} (x : Int) : (plcE l x).length ≤ 1048576 := by
  unfold plcE
  split
  · rename_i h
    rw [places_length]
    have := isGroup.len (isEl.group h)
    omega
  · simp
theorem places_drop {l : List Int} {k : Nat} (hk : k < l.length) (x : Int) : places (l.drop k) x = x % l[k] :: places (l.drop (k + 1)) (x / l[k]) := by
  rw [List.drop_eq_getElem_cons hk, places]
theorem isEl_div {l : List Int} {x o : Int} (h : isEl l x = true) (ho : 2 ≤ o) : isEl l (x / o) = true := by
  rw [isEl_iff] at h ⊢
  have h1 := Int.ediv_nonneg h.1 (show 0 ≤ o by omega)
  have h2 := Int.ediv_le_self o h.1
  omega

theorem own_empty1 (w : World) (o : Obj) (e : TypeId) (k : IntKind) : Own ((w.alloc o).alloc (.cells #[] e)) w.heap.size e k (.slice (some ⟨w.heap.size + 1, 0, none⟩) 0 0) [] := by
  have := Own.empty (w.alloc o) w.heap.size e k (below_alloc w o).size
  simpa using this
theorem own_empty2 (w : World) (o : Obj) (e : TypeId) (k : IntKind) : Own ((w.alloc o).alloc (.cells #[] e)) (w.heap.size + 1) e k (.slice (some ⟨w.heap.size + 1, 0, none⟩) 0 0) [] := by
  have := Own.empty (w.alloc o) (w.heap.size + 1) e k (by simp)
  simpa using this
end Go.Proofs.Ytknbfohmobjplaa
