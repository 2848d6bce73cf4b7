
/- Rows of strings in this seat's walks. No conditions. -/
import Derived.Test.YtffbamjfpegndabKitG
namespace Go.Proofs.Ytffbamjfpegndab
set_option linter.unusedVariables false
set_option linter.unusedSimpArgs false
open Go.RowKit

abbrev strs (ss : List (List Int)) : List Value := ss.map fun t => Value.string (strOfNums t)
/-- a slice of strings that the call owns -/
def OwnS (w : World) (base : Nat) (e : TypeId) (v : Value) (ss : List (List Int)) : Prop := w.ownsRow base e 1 v ss.length (strs ss)
section
variable {w w' : World} {base : Nat} {e : TypeId} {v : Value} {ss : List (List Int)}
theorem OwnS.alloc (h : OwnS w base e v ss) (o : Obj) : OwnS (w.alloc o) base e v ss := World.ownsRow.alloc h o
theorem OwnS.shape (h : OwnS w base e v ss) : ∃ ao cap, v = .slice ao ss.length cap ∧ ss.length ≤ cap ∧ cap ≤ maxLen := by
  unfold OwnS at h
  rcases h.2 with ⟨rfl, hn⟩ | ⟨g, cap, cur, rfl, hb, hg, h1, h2, _⟩
  · exact ⟨none, 0, by rw [hn], by omega, by decide⟩
  · exact ⟨_, cap, rfl, h1, h2⟩
theorem OwnS.cells {ao : Option Addr} {n cap : Nat} (h : OwnS w base e (.slice ao n cap) ss) (hl : 0 < ss.length) :
    ∃ b, ao = some ⟨b, 0, none⟩ ∧ base ≤ b ∧ b < w.heap.size ∧ n = ss.length ∧ ∀ i (hi : i < ss.length), w.cell? ⟨b, i, none⟩ = some (.string (strOfNums ss[i])) := by
  have h0 := h
  unfold OwnS at h
  rcases h.2 with ⟨_, hn⟩ | ⟨g, cap', cur, hv, hb, hg, h1, h2, _⟩
  · omega
  · injection hv with hv1 hv2 hv3
    subst hv1
    subst hv2
    refine ⟨g, rfl, hb, (Array.getElem?_eq_some_iff.1 hg).1, rfl, fun i hi => ?_⟩
    have hc := World.ownsRow.cellAt (w := w) (base := base) (e := e) (size := 1) (g := g) (n := ss.length) (cap := cap) (xs := strs ss) h0 i (by omega)
    rw [hc]
    simp [strs, hi]
theorem OwnS.below (h : OwnS w base e v ss) (hb : Below w.heap.size w w') : OwnS w' base e v ss := by
  refine World.ownsRow.kept h (row := none) ⟨hb.os, hb.tape, hb.output, hb.size, fun j hj _ => hb.block j hj⟩ ?_
  cases v.ownBlock <;> simp
end
theorem OwnS.empty (w : World) (base : Nat) (e : TypeId) (hb : base ≤ w.heap.size) : OwnS (w.alloc (.cells #[] e)) base e (.slice (some ⟨w.heap.size, 0, none⟩) 0 0) [] :=
  World.ownsRow_made w #[] 0 hb (by decide) rfl
/-- append of one string onto a row of the call's own -/
theorem appS {P : Program} {ops : Array Oper} {rest : List Oper} {o : Oper} {a : Act} {Q : Exit → Act → World → Prop} {wr : World} {T e : TypeId} {bytes : Nat}
    (hg : o.guard = none) (s x : Operand) (hop : o.op = Op.call { callee := Callee.builtin Builtin.append, args := #[s, x], argTypes := #[T, T] })
    (hT : P.underlying T = some (.slice e)) (hinfo : (P.info? e).map (fun i => (i.zero, i.size, i.bytes)) = some (some (.string ByteArray.empty), 1, bytes)) (hby : bytes ≤ 16)
    {base : Nat} {v : Value} {ss : List (List Int)} (hs : a.eval s = v) (hown : OwnS wr base e v ss) {u : List Int}
    (hx : a.eval x = .slice (some ⟨wr.heap.size, 0, none⟩) 1 1) (hlen : ss.length ≤ 1099511627776) (hbase : base ≤ wr.heap.size)
    (h : ∀ v' w', OwnS w' base e v' (ss ++ [u]) → Below base wr w' → wr.grownBy w' v.ownBlock → wpList P ops Q rest (a.put o.dst v') w') :
    wpList P ops Q (o :: rest) a (wr.alloc (.cells #[.string (strOfNums u)] e)) := by
  obtain ⟨i0, hi, hz0, hz1, hz2⟩ := info_parts hinfo
  refine wpList_append_own _ hg s x T hop base e i0 (.string ByteArray.empty) 1 bytes hT hi hz0 hz1 hz2 rfl (by decide) v ss.length (strs ss) hs (World.ownsRow.alloc hown _) ⟨wr.heap.size, 0, none⟩ 1 1 [.string (strOfNums u)] hx rfl ?_ ?_ ?_ ?_ ?_ ?_
  · exact cell_one_new _ _ _
  · intro y hy
    rw [List.mem_singleton.1 hy]
    rfl
  · unfold maxLen; omega
  · have : (ss.length + 1) * bytes ≤ (ss.length + 1) * 16 := Nat.mul_le_mul_left _ hby
    omega
  · simp; omega
  · intro v' w' ho hgr _
    have hgr2 : wr.grownBy w' v.ownBlock := ⟨hgr.os, hgr.tape, hgr.output, by have := hgr.size; simp at this; omega, fun j hj hne => (hgr.block j (by simp; omega) hne).trans (Below.heap_alloc _ _ _ hj)⟩
    refine h v' w' (by simpa [OwnS, strs] using ho) ?_ hgr2
    exact (Below.refl base wr).grown hgr2 hbase fun g hgv => (World.ownsRow.lt hown g hgv).1

/-! ### parts with something between them -/
def joinL (b : List Int) : List (List Int) → List Int
  | [] => []
  | [t] => t
  | t :: t' :: r => t ++ (b ++ joinL b (t' :: r))
theorem joinL_snoc (b : List Int) : ∀ (ss : List (List Int)) (t : List Int), ss ≠ [] → joinL b (ss ++ [t]) = joinL b ss ++ b ++ t := by
  intro ss
  induction ss with
  | nil => intro t h; exact absurd rfl h
  | cons x r ih =>
    intro t _
    cases r with
    | nil => simp [joinL]
    | cons y r => rw [List.cons_append, List.cons_append, joinL, ← List.cons_append, ih t (by simp), joinL]; simp
theorem joinL_len (b : List Int) (M : Nat) (hb : b.length ≤ 1) : ∀ (ss : List (List Int)), (∀ t ∈ ss, t.length ≤ M) → (joinL b ss).length ≤ ss.length * (M + 1) := by
  intro ss
  induction ss with
  | nil => intro _; simp [joinL]
  | cons x r ih =>
    intro h
    have h1 := h x (by simp)
    have h2 := ih fun t ht => h t (by simp [ht])
    cases r with
    | nil => simp [joinL]; omega
    | cons y r =>
      rw [joinL, List.length_append, List.length_append, List.length_cons (a := x), Nat.add_mul]
      omega
end Go.Proofs.Ytffbamjfpegndab
