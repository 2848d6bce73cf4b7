/- Parts of the walk in one text: Kit, KitG, KitS, In, W1, H1, Open, LKit, Mk. Conditions: each theorem's own. -/
import Derived.Test.YtknbfohmobjplabRows
import Derived.Test.YtknbfohmobjplabMPl
import Derived.WalkKit
import Derived.Handy
import Derived.WalkLawsBesides
import Derived.WalkSpells
import Derived.BigQuiet
import Derived.Deep.QuietTactic
import Derived.ProofKit
import Derived.OpenShut
import Derived.ShutString
import Derived.ChangeOld
import Derived.Below
import Derived.Deep.RegionHeld3
namespace Go.Proofs.Ytknbfohmobjplab
open Go.RowKit

/-- a callee that only computes, in a region that draws its order -/
theorem qsame {P : Program} {f : FuncId} {args : Array Value} {w : World} {n : Nat} {v : Value}
    (h : Calls P f args (w.drewN n) fun e w' => e = .returned v ∧ w.drewN n = w') : Calls P f args (w.drewN n) fun e w'' => e = .returned v ∧ ∃ m, w'' = w.drewN m :=
  h.mono fun _ _ ⟨he, hm⟩ => ⟨he, n, hm.symm⟩
theorem below_drewN (B : Nat) (w : World) (n : Nat) : Below B w (w.drewN n) := ⟨rfl, rfl, rfl, Nat.le_refl _, fun _ _ => rfl⟩
theorem hid {p : Prop} (h : p) : Hid p := h
abbrev ints (k : IntKind) (l : List Int) : List Value := l.map (Value.int k)

/-- a slice of numbers that the call owns -/
def Own (w : World) (base : Nat) (e : TypeId) (k : IntKind) (v : Value) (l : List Int) : Prop := w.ownsRow base e 1 v l.length (ints k l)
theorem Own.alloc {w : World} {base : Nat} {e : TypeId} {k : IntKind} {v : Value} {l : List Int} (h : Own w base e k v l) (o : Obj) : Own (w.alloc o) base e k v l := World.ownsRow.alloc h o
theorem Own.drew {w : World} {base : Nat} {e : TypeId} {k : IntKind} {v : Value} {l : List Int} (h : Own w base e k v l) : Own w.drew base e k v l := h
theorem Own.drewN {w : World} {base : Nat} {e : TypeId} {k : IntKind} {v : Value} {l : List Int} (h : Own w base e k v l) (n : Nat) : Own (w.drewN n) base e k v l := h
/-- an empty slice that was just made -/
theorem Own.empty (w : World) (base : Nat) (e : TypeId) (k : IntKind) (hb : base ≤ w.heap.size) : Own (w.alloc (.cells #[] e)) base e k (.slice (some ⟨w.heap.size, 0, none⟩) 0 0) [] :=
  World.ownsRow_made w #[] 0 hb (by decide) rfl
theorem Own.none_ (w : World) (base : Nat) (e : TypeId) (k : IntKind) : Own w base e k (.slice none 0 0) [] := World.ownsRow_nil w base e 1

section
variable {w w' : World} {base : Nat} {e : TypeId} {k : IntKind} {v : Value} {l : List Int}
theorem Own.form (h : Own w base e k v l) (hl : 0 < l.length) : ∃ g cap, v = .slice (some ⟨g, 0, none⟩) l.length cap ∧ base ≤ g ∧ g < w.heap.size ∧ l.length ≤ cap ∧ cap ≤ maxLen := by
  unfold Own at h
  rcases h.2 with ⟨_, hn⟩ | ⟨g, cap, cur, rfl, hb, hg, h1, h2, _⟩
  · omega
  · exact ⟨g, cap, rfl, hb, (Array.getElem?_eq_some_iff.1 hg).1, h1, h2⟩
/-- what a slice that the call owns looks like, empty or not -/
theorem Own.shape (h : Own w base e k v l) : ∃ ao cap, v = .slice ao l.length cap ∧ l.length ≤ cap ∧ cap ≤ maxLen := by
  unfold Own at h
  rcases h.2 with ⟨rfl, hn⟩ | ⟨g, cap, cur, rfl, hb, hg, h1, h2, _⟩
  · exact ⟨none, 0, by rw [hn], by omega, by decide⟩
  · exact ⟨_, cap, rfl, h1, h2⟩
theorem Own.cell {g n cap : Nat} (h : Own w base e k (.slice (some ⟨g, 0, none⟩) n cap) l) (i : Nat) (hi : i < l.length) : w.cell? ⟨g, i, none⟩ = some (.int k l[i]) := by
  have hn : n = l.length := by
    obtain ⟨ao, c, hv, _⟩ := h.shape
    injection hv
  subst hn
  have hc := World.ownsRow.cellAt (w := w) (base := base) (e := e) (size := 1) (g := g) (n := l.length) (cap := cap) (xs := ints k l) h i (by omega)
  rw [hc]
  simp [ints, hi]
theorem Own.some_ {g n cap : Nat} (h : Own w base e k (.slice (some ⟨g, 0, none⟩) n cap) l) (i : Nat) (hi : i < l.length) : ∃ u, w.cell? ⟨g, i, none⟩ = some (.int k u) := ⟨_, h.cell i hi⟩
theorem Own.frozen {g n cap : Nat} (h : Own w base e k (.slice (some ⟨g, 0, none⟩) n cap) l) (i : Nat) : w.frozen? ⟨g, i, none⟩ = false := by
  have hn : n = l.length := by
    obtain ⟨ao, c, hv, _⟩ := h.shape
    injection hv
  subst hn
  exact World.ownsRow.frozenAt (w := w) (base := base) (e := e) (size := 1) (g := g) (n := l.length) (cap := cap) (xs := ints k l) h i
theorem Own.store {g n cap : Nat} (h : Own w base e k (.slice (some ⟨g, 0, none⟩) n cap) l) (i : Nat) (u : Int) : Own (w.setCell ⟨g, i, none⟩ (.int k u)) base e k (.slice (some ⟨g, 0, none⟩) n cap) (l.set i u) := by
  have hn : n = l.length := by
    obtain ⟨ao, c, hv, _⟩ := h.shape
    injection hv
  subst hn
  have := (World.ownsRow.stored (w := w) (base := base) (e := e) (size := 1) (g := g) (n := l.length) (cap := cap) (xs := ints k l) h i (.int k u)).1
  unfold Own
  rw [List.length_set]
  simpa [ints, List.map_set] using this
/-- a slice that the call owns stays where only other blocks turn -/
theorem Own.kept (h : Own w base e k v l) {row : Option Nat} (hg : w.grownBy w' row) (hne : v.ownBlock = none ∨ v.ownBlock ≠ row) : Own w' base e k v l := World.ownsRow.kept h hg hne
/-- .. over a call that leaves all that was there -/
theorem Own.below (h : Own w base e k v l) (hb : Below w.heap.size w w') : Own w' base e k v l := by
  refine World.ownsRow.kept h (row := none) ⟨hb.os, hb.tape, hb.output, hb.size, fun j hj _ => hb.block j hj⟩ ?_
  cases v.ownBlock <;> simp
theorem Own.lower (h : Own w base e k v l) {b : Nat} (hb : b ≤ base) : Own w b e k v l := by
  unfold Own at *
  refine ⟨h.1, ?_⟩
  rcases h.2 with h2 | ⟨g, cap, cur, hv, hg, r⟩
  · exact .inl h2
  · exact .inr ⟨g, cap, cur, hv, by omega, r⟩
end
/-- make([]T, n) -/
theorem make_full {P : Program} {T e : TypeId} {k : IntKind} {bytes : Nat} (hT : P.underlying T = some (.slice e)) (hinfo : (P.info? e).map (fun i => (i.zero, i.size, i.bytes)) = some (some (.int k 0), 1, bytes)) (hby : bytes ≤ 8) (n : Nat) (hn : n ≤ 1099511627776) (w : World) :
    (Instr.makeSlice T (.int .i64 (n : Int)) (.int .i64 (n : Int))).run P w = .ok (.slice (some ⟨w.heap.size, 0, none⟩) n n) (w.alloc (.cells (madeCells #[.int k 0] n) e)) := by
  obtain ⟨i0, hi, hz0, hz1, hz2⟩ := info_parts hinfo
  have hb : i0.bytes * n ≤ 8 * n := Nat.mul_le_mul_right _ (by omega)
  have hb2 : ((i0.bytes : Int)) * (n : Int) = ((i0.bytes * n : Nat) : Int) := (Int.natCast_mul _ _).symm
  have hr := run_make (P := P) w T e i0 (.int k 0) hT hi hz0 .i64 .i64 n n (by omega) (Int.le_refl _) (by rw [hb2]; omega) (by omega)
  rw [hz1, Nat.mul_one] at hr
  exact hr
theorem Own.made (w : World) (base : Nat) (e : TypeId) (k : IntKind) (n : Nat) (hn : n ≤ 1099511627776) (hb : base ≤ w.heap.size) : Own (w.alloc (.cells (madeCells #[.int k 0] n) e)) base e k (.slice (some ⟨w.heap.size, 0, none⟩) n n) (List.replicate n 0) := by
  have := World.ownsRow_lit (size := 1) (e := e) w (madeCells #[.int k 0] n) n hb (by unfold maxLen; omega) (by simp [madeCells])
  rw [toList_madeCells_one] at this
  unfold Own
  rw [List.length_replicate]
  simpa [ints] using this
/-- make([]T, 0, n) -/
theorem make_room {P : Program} {T e : TypeId} {k : IntKind} {bytes : Nat} (hT : P.underlying T = some (.slice e)) (hinfo : (P.info? e).map (fun i => (i.zero, i.size, i.bytes)) = some (some (.int k 0), 1, bytes)) (hby : bytes ≤ 8) (n : Nat) (hn : n ≤ 1099511627776) (w : World) :
    (Instr.makeSlice T (.int .i64 0) (.int .i64 (n : Int))).run P w = .ok (.slice (some ⟨w.heap.size, 0, none⟩) 0 n) (w.alloc (.cells (madeCells #[.int k 0] n) e)) := by
  obtain ⟨i0, hi, hz0, hz1, hz2⟩ := info_parts hinfo
  have hb : i0.bytes * n ≤ 8 * n := Nat.mul_le_mul_right _ (by omega)
  have hb2 : ((i0.bytes : Int)) * (n : Int) = ((i0.bytes * n : Nat) : Int) := (Int.natCast_mul _ _).symm
  have hr := run_make (P := P) w T e i0 (.int k 0) hT hi hz0 .i64 .i64 0 n (by omega) (by omega) (by rw [hb2]; omega) (by omega)
  rw [hz1, Nat.mul_one] at hr
  exact hr
theorem Own.room (w : World) (base : Nat) (e : TypeId) (k : IntKind) (n : Nat) (hn : n ≤ 1099511627776) (hb : base ≤ w.heap.size) : Own (w.alloc (.cells (madeCells #[.int k 0] n) e)) base e k (.slice (some ⟨w.heap.size, 0, none⟩) 0 n) [] :=
  World.ownsRow_made w _ n hb (by unfold maxLen; omega) (by simp [madeCells])

/-- append of one number onto a row of the call's own -/
theorem app1 {P : Program} {ops : Array Oper} {rest : List Oper} {o : Oper} {a : Act} {Q : Exit → Act → World → Prop} {wr : World} {T e : TypeId} {k : IntKind} {bytes : Nat}
    (hg : o.guard = none) (s x : Operand) (hop : o.op = Op.call { callee := Callee.builtin Builtin.append, args := #[s, x], argTypes := #[T, T] })
    (hT : P.underlying T = some (.slice e)) (hinfo : (P.info? e).map (fun i => (i.zero, i.size, i.bytes)) = some (some (.int k 0), 1, bytes)) (hby : bytes ≤ 8)
    {base : Nat} {v : Value} {l : List Int} (hs : a.eval s = v) (hown : Own wr base e k v l) {u : Int}
    (hx : a.eval x = .slice (some ⟨wr.heap.size, 0, none⟩) 1 1) (hlen : l.length ≤ 1099511627776) (hbase : base ≤ wr.heap.size)
    (h : ∀ v' w', Own w' base e k v' (l ++ [u]) → Below base wr w' → wr.grownBy w' v.ownBlock → wpList P ops Q rest (a.put o.dst v') w') :
    wpList P ops Q (o :: rest) a (wr.alloc (.cells #[.int k u] e)) := by
  obtain ⟨i0, hi, hz0, hz1, hz2⟩ := info_parts hinfo
  refine wpList_append_own _ hg s x T hop base e i0 (.int k 0) 1 bytes hT hi hz0 hz1 hz2 rfl (by decide) v l.length (ints k l) hs (World.ownsRow.alloc hown _) ⟨wr.heap.size, 0, none⟩ 1 1 [.int k u] hx rfl ?_ ?_ ?_ ?_ ?_ ?_
  · exact cell_one_new _ _ _
  · intro y hy
    rw [List.mem_singleton.1 hy]
    rfl
  · unfold maxLen; omega
  · have : (l.length + 1) * bytes ≤ (l.length + 1) * 8 := Nat.mul_le_mul_left _ hby
    omega
  · simp; omega
  · intro v' w' ho hgr _
    have hgr2 : wr.grownBy w' v.ownBlock := ⟨hgr.os, hgr.tape, hgr.output, by have := hgr.size; simp at this; omega, fun j hj hne => (hgr.block j (by simp; omega) hne).trans (Below.heap_alloc _ _ _ hj)⟩
    refine h v' w' (by simpa [Own, ints] using ho) ?_ hgr2
    exact (Below.refl base wr).grown hgr2 hbase fun g hgv => (World.ownsRow.lt hown g hgv).1

/-- append of some numbers that lie in a new block -/
theorem appN_run {P : Program} {w : World} {T e : TypeId} {ty : TypeId} {k : IntKind} {bytes : Nat}
    (hT : P.underlying T = some (.slice e)) (hinfo : (P.info? e).map (fun i => (i.zero, i.size, i.bytes)) = some (some (.int k 0), 1, bytes)) (hby : bytes ≤ 8)
    {base : Nat} {v : Value} {l : List Int} (hown : Own w base e k v l) (us : List Int) (ad : Addr) (c : Nat)
    (hc : ∀ j u, us[j]? = some u → w.cell? (ad.add j) = some (.int k u)) (hlen : l.length + us.length ≤ 1099511627776) (hbase : base ≤ w.heap.size) :
    ∃ v' w', (Builtin.append_ #[T, T] ty #[v, .slice (some ad) us.length c]).run P w = .ok v' w' ∧ Own w' base e k v' (l ++ us) ∧ Below base w w' ∧ w.grownBy w' v.ownBlock := by
  obtain ⟨i0, hi, hz0, hz1, hz2⟩ := info_parts hinfo
  have hbb : (l.length + us.length) * bytes ≤ (l.length + us.length) * 8 := Nat.mul_le_mul_left _ hby
  obtain ⟨v', w', hr, ho, hg, _⟩ := run_append_own (P := P) w base T ty e i0 (.int k 0) 1 bytes hT hi hz0 hz1 hz2 rfl (by decide) v l.length (ints k l) hown ad us.length c (ints k us) (by simp [ints])
    (fun j u hu => by
      simp only [ints, List.getElem?_map, Option.map_eq_some_iff] at hu
      obtain ⟨x, hx, rfl⟩ := hu
      exact hc j x hx)
    (fun y hy => by
      obtain ⟨x, _, rfl⟩ := List.mem_map.1 hy
      rfl)
    (by unfold maxLen; omega) (by omega) hbase
  refine ⟨v', w', hr, ?_, (Below.refl base w).grown hg hbase fun g hgv => (World.ownsRow.lt hown g hgv).1, hg⟩
  unfold Own
  rw [List.length_append]
  simpa [ints] using ho
/-- .. as one step of a region that draws its order -/
theorem appN_step {P : Program} {ops : Array Oper} {o : Oper} {a : Act} {w : World} {K : Act → World → Prop} {Q : Exit → Act → World → Prop} {E : Prop} {T e : TypeId} {k : IntKind} {bytes : Nat}
    (hg : o.guard = none) (s x : Operand) (hop : o.op = Op.call { callee := Callee.builtin Builtin.append, args := #[s, x], argTypes := #[T, T] })
    (hT : P.underlying T = some (.slice e)) (hinfo : (P.info? e).map (fun i => (i.zero, i.size, i.bytes)) = some (some (.int k 0), 1, bytes)) (hby : bytes ≤ 8)
    {base : Nat} {v : Value} {l : List Int} (hs : a.eval s = v) (hown : Own w base e k v l) (us : List Int) (ad : Addr) (c : Nat) (hx : a.eval x = .slice (some ad) us.length c)
    (hc : ∀ j u, us[j]? = some u → w.cell? (ad.add j) = some (.int k u)) (hlen : l.length + us.length ≤ 1099511627776) (hbase : base ≤ w.heap.size)
    (h : ∀ v' w', Own w' base e k v' (l ++ us) → Below base w w' → w.grownBy w' v.ownBlock → K (a.put o.dst v') w') :
    if Region.wanted o (yielded ops a.tmps) = true then Oper.wp P o a w K Q else E := by
  have hw : Region.wanted o (yielded ops a.tmps) = true := by simp [Region.wanted, hg]
  rw [if_pos hw]
  obtain ⟨v', w', hr, ho, hb, hgr⟩ := appN_run (P := P) (ty := o.type) hT hinfo hby hown us ad c hc hlen hbase
  unfold Oper.wp
  simp [execOp, hop, resolve, invoke, builtin, hs, hx, hr, Result.andThen]
  exact h v' w' ho hb hgr
/-- two cells of a new block -/
theorem cell2 (w : World) (k : IntKind) (e : TypeId) (x y : Int) : ∀ j u, [x, y][j]? = some u → (w.alloc (.cells #[.int k x, .int k y] e)).cell? ((⟨w.heap.size, 0, none⟩ : Addr).add j) = some (.int k u) := by
  intro j u hj
  match j, hj with
  | 0, hj =>
    simp at hj
    subst hj
    exact cell_of_row _ _ 0 _ e (0, 0) (heap_alloc_new w _)
  | 1, hj =>
    simp at hj
    subst hj
    exact cell_of_row _ _ 1 _ e (0, 0) (heap_alloc_new w _)
  | j + 2, hj => simp at hj
theorem cell2_drew (w : World) (k : IntKind) (e : TypeId) (x y : Int) : ∀ j u, [x, y][j]? = some u → (w.alloc (.cells #[.int k x, .int k y] e)).drew.cell? ((⟨w.heap.size, 0, none⟩ : Addr).add j) = some (.int k u) := cell2 w k e x y
theorem wrapB (b : Int) (h : 0 ≤ b ∧ b ≤ 255) : IntKind.i64.wrap b = b ∧ b.tdiv 16 = b / 16 ∧ IntKind.i64.wrap (b / 16) = b / 16 ∧ b.tmod 16 = b % 16 := by
  refine ⟨IntWalk.i64_in _ (by omega), Int.tdiv_eq_ediv_of_nonneg h.1, IntWalk.i64_in _ (by omega), Int.tmod_eq_emod_of_nonneg h.1⟩

/-- string(b), b a row of bytes of the call's own -/
theorem conv_own {P : Program} {w : World} {base : Nat} {T e S : TypeId} {v : Value} {l : List Int} (hT : P.underlying T = some (.slice e)) (he : P.underlying e = some (.int .u8)) (hS : P.underlying S = some .string) (h : Own w base e .u8 v l) :
    (convert T S v).run P w = .ok (.string (strOfNums l)) w := by
  have h2 := h
  unfold Own at h2
  rcases h2.2 with ⟨rfl, hn⟩ | ⟨g, cap, cur, rfl, _, hg, hnc, _, hcs, htake⟩
  · have : l = [] := List.eq_nil_of_length_eq_zero hn
    subst this
    exact run_convert_bytes_nil w T e hT he 0 0 S hS
  · refine run_convert_bytes_arg w T e hT he g 0 l.length cap l rfl (fun i hi => ?_) S hS
    have hc := World.ownsRow.cellAt (w := w) (base := base) (e := e) (size := 1) (g := g) (n := l.length) (cap := cap) (xs := ints .u8 l) h2 i (by omega)
    rw [Nat.zero_add, hc]
    simp [ints, hi]

/-- string([]byte{u}) -/
theorem conv_one {P : Program} {T e S : TypeId} (hT : P.underlying T = some (.slice e)) (he : P.underlying e = some (.int .u8)) (hS : P.underlying S = some .string) (w : World) (u : Int) :
    (convert T S (.slice (some ⟨w.heap.size, 0, none⟩) 1 1)).run P (w.alloc (.cells #[.int .u8 u] e)) = .ok (.string (strOfNums [u])) (w.alloc (.cells #[.int .u8 u] e)) := by
  refine run_convert_bytes_arg _ T e hT he w.heap.size 0 1 1 [u] rfl (fun i hi => ?_) S hS
  obtain rfl : i = 0 := by omega
  have := cell_one_new w (.int .u8 u) e 0 (.int .u8 u) rfl
  exact this
/-- a + b on strings -/
theorem add_strs {P : Program} (a b : List Int) (h : a.length + b.length ≤ 1099511627776) (w : World) :
    (Op.stringOp .add (strOfNums a) (strOfNums b)).run P w = .ok (.string (strOfNums (a ++ b))) w := by
  rw [run_string_add_sum w _ _ (by rw [strOfNums_size, strOfNums_size]; omega)]
  unfold strOfNums
  rw [ByteArray.mk_append_mk, List.map_append]

/-! ### bits of an int -/
theorem bv64 (a : Nat) (ha : a < 9223372036854775808) : (BitVec.ofInt 64 (a : Int)).toNat = a := by
  rw [BitVec.ofInt_natCast, BitVec.toNat_ofNat]; exact Nat.mod_eq_of_lt (by omega)
theorem and64 (a b : Nat) (ha : a < 9223372036854775808) (hb : b < 9223372036854775808) : bits .and .i64 (a : Int) (b : Int) = ((a &&& b : Nat) : Int) := by
  have hx : a &&& b < 2 ^ 63 := Nat.and_lt_two_pow _ (by omega)
  show IntKind.i64.wrap ((BitVec.ofInt 64 (a : Int) &&& BitVec.ofInt 64 (b : Int)).toNat : Int) = _
  rw [BitVec.toNat_and, bv64 a ha, bv64 b hb]
  exact IntWalk.i64_in _ (by omega)
theorem or64 (a b : Nat) (ha : a < 9223372036854775808) (hb : b < 9223372036854775808) : bits .or .i64 (a : Int) (b : Int) = ((a ||| b : Nat) : Int) := by
  have hx : a ||| b < 2 ^ 63 := Nat.or_lt_two_pow (by omega) (by omega)
  show IntKind.i64.wrap ((BitVec.ofInt 64 (a : Int) ||| BitVec.ofInt 64 (b : Int)).toNat : Int) = _
  rw [BitVec.toNat_or, bv64 a ha, bv64 b hb]
  exact IntWalk.i64_in _ (by omega)
/-- the lowest bits -/
theorem and64_low (k : Nat) (m : Int) (hk : k ≤ 62) (h0 : 0 ≤ m) (h : m ≤ 9223372036854775807) : bits .and .i64 m (((2 ^ k - 1 : Nat) : Int)) = m % ((2 ^ k : Nat) : Int) := by
  obtain ⟨a, rfl⟩ := Int.eq_ofNat_of_zero_le h0
  have h2 : 2 ^ k ≤ 2 ^ 62 := Nat.pow_le_pow_right (by omega) hk
  rw [and64 a _ (by omega) (by omega), Nat.and_two_pow_sub_one_eq_mod]
  simp
/-- what stands side by side is added -/
theorem or64_join (k : Nat) (x y : Int) (hx : 0 ≤ x) (hy : 0 ≤ y) (hy2 : y < ((2 ^ k : Nat) : Int)) (hb : x * ((2 ^ k : Nat) : Int) + y ≤ 9223372036854775807) : bits .or .i64 (x * ((2 ^ k : Nat) : Int)) y = x * ((2 ^ k : Nat) : Int) + y := by
  obtain ⟨a, rfl⟩ := Int.eq_ofNat_of_zero_le hx
  obtain ⟨b, rfl⟩ := Int.eq_ofNat_of_zero_le hy
  rw [← Int.natCast_mul] at hb ⊢
  rw [or64 _ _ (by omega) (by omega), nat_join k _ _ (Nat.mul_mod_left _ _) (by omega)]
  simp
theorem or64_comm (x y : Int) : bits .or .i64 x y = bits .or .i64 y x := by
  show IntKind.i64.wrap ((BitVec.ofInt 64 x ||| BitVec.ofInt 64 y).toNat : Int) = IntKind.i64.wrap ((BitVec.ofInt 64 y ||| BitVec.ofInt 64 x).toNat : Int)
  rw [BitVec.or_comm]

end Go.Proofs.Ytknbfohmobjplab

namespace Go.Proofs.Ytknbfohmobjplab
open Go.RowKit

/-- the slice v reads as the numbers l, from blocks below B -/
def Rd (w : World) (B : Nat) (k : IntKind) (v : Value) (l : List Int) : Prop :=
  ∃ ao cap, v = .slice ao l.length cap ∧ l.length ≤ cap ∧ cap ≤ maxLen ∧ (0 < l.length → ∃ b off, ao = some ⟨b, off, none⟩ ∧ b < B ∧ ∀ i (h : i < l.length), w.cell? ⟨b, off + i, none⟩ = some (.int k l[i]))

section
variable {w w' : World} {B B' : Nat} {k : IntKind} {v : Value} {l : List Int}
theorem Rd.keep (h : Rd w B k v l) (hk : ∀ p : Addr, p.block < B → w'.cell? p = w.cell? p) : Rd w' B k v l := by
  obtain ⟨ao, cap, hv, h1, h2, h3⟩ := h
  refine ⟨ao, cap, hv, h1, h2, fun hl => ?_⟩
  obtain ⟨b, off, ha, hb, hc⟩ := h3 hl
  exact ⟨b, off, ha, hb, fun i hi => (hk ⟨b, off + i, none⟩ hb).trans (hc i hi)⟩
theorem Rd.more (h : Rd w B k v l) (hB : B ≤ B') : Rd w B' k v l := by
  obtain ⟨ao, cap, hv, h1, h2, h3⟩ := h
  refine ⟨ao, cap, hv, h1, h2, fun hl => ?_⟩
  obtain ⟨b, off, ha, hb, hc⟩ := h3 hl
  exact ⟨b, off, ha, by omega, hc⟩
theorem Rd.below (h : Rd w B k v l) (hb : Below B w w') : Rd w' B k v l := h.keep fun _ hp => hb.cell hp
theorem Rd.drew (h : Rd w B k v l) : Rd w.drew B k v l := h
theorem Rd.drewN (h : Rd w B k v l) (n : Nat) : Rd (w.drewN n) B k v l := h
theorem Rd.alloc (h : Rd w B k v l) (hB : B ≤ w.heap.size) (o : Obj) : Rd (w.alloc o) B k v l := h.below ((Below.refl B w).alloc hB o)
theorem Rd.of_own {base : Nat} {e : TypeId} (h : Own w base e k v l) : Rd w w.heap.size k v l := by
  obtain ⟨ao, cap, rfl, h1, h2⟩ := h.shape
  refine ⟨ao, cap, rfl, h1, h2, fun hl => ?_⟩
  obtain ⟨g, cap', hv, hb, hg, _⟩ := h.form hl
  injection hv with hv1 hv2 hv3
  subst hv1
  exact ⟨g, 0, rfl, hg, fun i hi => by rw [Nat.zero_add]; exact h.cell i hi⟩
theorem Rd.nil (w : World) (B : Nat) (k : IntKind) : Rd w B k (.slice none 0 0) [] := ⟨none, 0, rfl, by simp, by decide, fun h => by simp at h⟩
end

theorem Own.under {w : World} {base : Nat} {e : TypeId} {k : IntKind} {v : Value} {l : List Int} (h : Own w base e k v l) {a : Addr} (ha : a.block < base) (u : Value) : Own (w.setCell a u) base e k v l := ownsRow_setCell_below h ha u
/-- whether two lists are the same -/
def eqL (a b : List Int) : Bool := decide (a = b)
theorem eqL_self (a : List Int) : eqL a a = true := decide_eq_true rfl

/-- behind a call that leaves what was there: the old cells and marks, for the walk -/
theorem bcell {W w1 : World} (hb : Below W.heap.size W w1) : (∀ b o, b < W.heap.size → w1.cell? ⟨b, o, none⟩ = W.cell? ⟨b, o, none⟩) ∧ (∀ b o, b < W.heap.size → w1.frozen? ⟨b, o, none⟩ = W.frozen? ⟨b, o, none⟩) :=
  ⟨fun b o h => hb.cell (p := ⟨b, o, none⟩) h, fun b o h => hb.frozen (p := ⟨b, o, none⟩) h⟩
theorem below_alloc (w : World) (o : Obj) : Below w.heap.size w (w.alloc o) := (Below.refl _ _).alloc (Nat.le_refl _) _

end Go.Proofs.Ytknbfohmobjplab

namespace Go.Proofs.Ytknbfohmobjplab
set_option linter.unusedVariables false
set_option linter.unusedSimpArgs false
open Go.RowKit

abbrev strs (ss : List (List Int)) : List Value := ss.map fun t => Value.string (strOfNums t)
/-- a slice of strings that the call owns -/
def OwnS (w : World) (base : Nat) (e : TypeId) (v : Value) (ss : List (List Int)) : Prop := w.ownsRow base e 1 v ss.length (strs ss)
section
variable {w w' : World} {base : Nat} {e : TypeId} {v : Value} {ss : List (List Int)}
theorem OwnS.alloc (h : OwnS w base e v ss) (o : Obj) : OwnS (w.alloc o) base e v ss := World.ownsRow.alloc h o
theorem OwnS.shape (h : OwnS w base e v ss) : ∃ ao cap, v = .slice ao ss.length cap ∧ ss.length ≤ cap ∧ cap ≤ maxLen := by
  unfold OwnS at h
  rcases h.2 with ⟨rfl, hn⟩ | ⟨g, cap, cur, rfl, hb, hg, h1, h2, _⟩
  · exact ⟨none, 0, by rw [hn], by omega, by decide⟩
  · exact ⟨_, cap, rfl, h1, h2⟩
theorem OwnS.cells {ao : Option Addr} {n cap : Nat} (h : OwnS w base e (.slice ao n cap) ss) (hl : 0 < ss.length) :
    ∃ b, ao = some ⟨b, 0, none⟩ ∧ base ≤ b ∧ b < w.heap.size ∧ n = ss.length ∧ ∀ i (hi : i < ss.length), w.cell? ⟨b, i, none⟩ = some (.string (strOfNums ss[i])) := by
  have h0 := h
  unfold OwnS at h
  rcases h.2 with ⟨_, hn⟩ | ⟨g, cap', cur, hv, hb, hg, h1, h2, _⟩
  · omega
  · injection hv with hv1 hv2 hv3
    subst hv1
    subst hv2
    refine ⟨g, rfl, hb, (Array.getElem?_eq_some_iff.1 hg).1, rfl, fun i hi => ?_⟩
    have hc := World.ownsRow.cellAt (w := w) (base := base) (e := e) (size := 1) (g := g) (n := ss.length) (cap := cap) (xs := strs ss) h0 i (by omega)
    rw [hc]
    simp [strs, hi]
theorem OwnS.below (h : OwnS w base e v ss) (hb : Below w.heap.size w w') : OwnS w' base e v ss := by
  refine World.ownsRow.kept h (row := none) ⟨hb.os, hb.tape, hb.output, hb.size, fun j hj _ => hb.block j hj⟩ ?_
  cases v.ownBlock <;> simp
end
theorem OwnS.empty (w : World) (base : Nat) (e : TypeId) (hb : base ≤ w.heap.size) : OwnS (w.alloc (.cells #[] e)) base e (.slice (some ⟨w.heap.size, 0, none⟩) 0 0) [] :=
  World.ownsRow_made w #[] 0 hb (by decide) rfl
/-- append of one string onto a row of the call's own -/
theorem appS {P : Program} {ops : Array Oper} {rest : List Oper} {o : Oper} {a : Act} {Q : Exit → Act → World → Prop} {wr : World} {T e : TypeId} {bytes : Nat}
    (hg : o.guard = none) (s x : Operand) (hop : o.op = Op.call { callee := Callee.builtin Builtin.append, args := #[s, x], argTypes := #[T, T] })
    (hT : P.underlying T = some (.slice e)) (hinfo : (P.info? e).map (fun i => (i.zero, i.size, i.bytes)) = some (some (.string ByteArray.empty), 1, bytes)) (hby : bytes ≤ 16)
    {base : Nat} {v : Value} {ss : List (List Int)} (hs : a.eval s = v) (hown : OwnS wr base e v ss) {u : List Int}
    (hx : a.eval x = .slice (some ⟨wr.heap.size, 0, none⟩) 1 1) (hlen : ss.length ≤ 1099511627776) (hbase : base ≤ wr.heap.size)
    (h : ∀ v' w', OwnS w' base e v' (ss ++ [u]) → Below base wr w' → wr.grownBy w' v.ownBlock → wpList P ops Q rest (a.put o.dst v') w') :
    wpList P ops Q (o :: rest) a (wr.alloc (.cells #[.string (strOfNums u)] e)) := by
  obtain ⟨i0, hi, hz0, hz1, hz2⟩ := info_parts hinfo
  refine wpList_append_own _ hg s x T hop base e i0 (.string ByteArray.empty) 1 bytes hT hi hz0 hz1 hz2 rfl (by decide) v ss.length (strs ss) hs (World.ownsRow.alloc hown _) ⟨wr.heap.size, 0, none⟩ 1 1 [.string (strOfNums u)] hx rfl ?_ ?_ ?_ ?_ ?_ ?_
  · exact cell_one_new _ _ _
  · intro y hy
    rw [List.mem_singleton.1 hy]
    rfl
  · unfold maxLen; omega
  · have : (ss.length + 1) * bytes ≤ (ss.length + 1) * 16 := Nat.mul_le_mul_left _ hby
    omega
  · simp; omega
  · intro v' w' ho hgr _
    have hgr2 : wr.grownBy w' v.ownBlock := ⟨hgr.os, hgr.tape, hgr.output, by have := hgr.size; simp at this; omega, fun j hj hne => (hgr.block j (by simp; omega) hne).trans (Below.heap_alloc _ _ _ hj)⟩
    refine h v' w' (by simpa [OwnS, strs] using ho) ?_ hgr2
    exact (Below.refl base wr).grown hgr2 hbase fun g hgv => (World.ownsRow.lt hown g hgv).1

/-! ### parts with something between them -/
def joinL (b : List Int) : List (List Int) → List Int
  | [] => []
  | [t] => t
  | t :: t' :: r => t ++ (b ++ joinL b (t' :: r))
theorem joinL_snoc (b : List Int) : ∀ (ss : List (List Int)) (t : List Int), ss ≠ [] → joinL b (ss ++ [t]) = joinL b ss ++ b ++ t := by
  intro ss
  induction ss with
  | nil => intro t h; exact absurd rfl h
  | cons x r ih =>
    intro t _
    cases r with
    | nil => simp [joinL]
    | cons y r => rw [List.cons_append, List.cons_append, joinL, ← List.cons_append, ih t (by simp), joinL]; simp
theorem joinL_len (b : List Int) (M : Nat) (hb : b.length ≤ 1) : ∀ (ss : List (List Int)), (∀ t ∈ ss, t.length ≤ M) → (joinL b ss).length ≤ ss.length * (M + 1) := by
  intro ss
  induction ss with
  | nil => intro _; simp [joinL]
  | cons x r ih =>
    intro h
    have h1 := h x (by simp)
    have h2 := ih fun t ht => h t (by simp [ht])
    cases r with
    | nil => simp [joinL]; omega
    | cons y r =>
      rw [joinL, List.length_append, List.length_append, List.length_cons (a := x), Nat.add_mul]
      omega
end Go.Proofs.Ytknbfohmobjplab

namespace Go.Proofs.Ytknbfohmobjplab
open Go.RowKit

theorem iwithin_yes (x lo hi : Int) (h : lo ≤ x ∧ x ≤ hi) (w : World) :
    Calls Try.prog 72 #[.int .i64 x, .int .i64 lo, .int .i64 hi] w fun e w' => e = .returned (.bool true) ∧ w = w' := by
  obtain ⟨h1, h2⟩ := h
  go_enter Try.func72, Try.ntmps72
  go_wp2
  go_ret
  exact ⟨rfl, rfl⟩
theorem iwithin_no (x lo hi : Int) (h : ¬ (lo ≤ x ∧ x ≤ hi)) (w : World) :
    Calls Try.prog 72 #[.int .i64 x, .int .i64 lo, .int .i64 hi] w fun e w' => e = .returned (.bool false) ∧ w = w' := by
  by_cases h1 : lo ≤ x
  · have h2 : ¬ x ≤ hi := by omega
    clear h
    go_enter Try.func72, Try.ntmps72
    go_wp2
    go_ret
    exact ⟨by simp, rfl⟩
  · clear h
    go_enter Try.func72, Try.ntmps72
    go_wp2
    go_ret
    exact ⟨rfl, rfl⟩
theorem sl1In_yes (x lo hi : Int) (h : lo ≤ x ∧ x ≤ hi) (w : World) :
    Calls Try.prog 87 #[.int .i64 x, .int .i64 lo, .int .i64 hi] w fun e w' => e = .returned (.bool true) ∧ w = w' := by
  obtain ⟨h1, h2⟩ := h
  go_enter Try.func87, Try.ntmps87
  go_wp2
  go_ret
  exact ⟨rfl, rfl⟩
theorem sl1In_no (x lo hi : Int) (h : ¬ (lo ≤ x ∧ x ≤ hi)) (w : World) :
    Calls Try.prog 87 #[.int .i64 x, .int .i64 lo, .int .i64 hi] w fun e w' => e = .returned (.bool false) ∧ w = w' := by
  by_cases h1 : lo ≤ x
  · have h2 : ¬ x ≤ hi := by omega
    clear h
    go_enter Try.func87, Try.ntmps87
    go_wp2
    go_ret
    exact ⟨by simp, rfl⟩
  · clear h
    go_enter Try.func87, Try.ntmps87
    go_wp2
    go_ret
    exact ⟨rfl, rfl⟩
end Go.Proofs.Ytknbfohmobjplab

namespace Go.Proofs.Ytknbfohmobjplab
open Go.RowKit

theorem info_u8 : (Try.prog.info? 5).map (fun i => (i.zero, i.size, i.bytes)) = some (some (.int .u8 0), 1, 1) := by kernel_rfl

/-- the bytes of a string as integers -/
def sI (s : ByteArray) : List Int := bI s.data.toList
theorem sI_length (s : ByteArray) : (sI s).length = s.size := by
  show (bI s.data.toList).length = _
  rw [bI_length]
  rfl
theorem sI_get (s : ByteArray) (k : Nat) (h : k < s.size) : (sI s)[k]'(by rw [sI_length]; exact h) = (s[k].toNat : Int) := by
  simp [sI, bI]; rfl
theorem sI_take (s : ByteArray) (k : Nat) (h : k < s.size) : (sI s).take (k + 1) = (sI s).take k ++ [(s[k].toNat : Int)] := by
  rw [take_succ_get _ k (by rw [sI_length]; exact h), sI_get s k h]
theorem isB_sI (s : ByteArray) : IsB (sI s) := isB_bI _
theorem isB_take {l : List Int} (h : IsB l) (k : Nat) : IsB (l.take k) := fun x hx => h x (List.mem_of_mem_take hx)

/-! ### a number between two others -/

/-! ### DecodeFixed -/
def decFixed (l : List Int) (width : Int) : Int × Bool := if 1 ≤ width ∧ width ≤ 7 ∧ width ≤ l.length then (decFix (l.take width.toNat), true) else (0, false)
theorem decFix_small (l : List Int) (k : Nat) (h : IsB l) (hk : k ≤ 6) : 0 ≤ decFix (l.take k) ∧ decFix (l.take k) ≤ 281474976710655 := by
  have h1 := decFix_bd (l.take k) (isB_take h k)
  have h2 : (l.take k).length ≤ 6 := by rw [List.length_take]; omega
  have h3 : (256 : Int) ^ (l.take k).length ≤ 281474976710656 := by
    generalize (l.take k).length = m at h2
    match m, h2 with
    | 0, _ | 1, _ | 2, _ | 3, _ | 4, _ | 5, _ | 6, _ => decide
  omega
theorem decFix_last (s : ByteArray) (k : Nat) (h : k < s.size) : decFix ((sI s).take (k + 1)) = decFix ((sI s).take k) * 256 + s[k].toNat := by
  rw [sI_take s k h, decFix_snoc]


/-! ### EncodeVarint -/
def encVarint (n : Int) : List Int := if 0 ≤ n ∧ n ≤ 562949953421311 then encVar 6 n else []
theorem encVar_round {f : Nat} {m n : Int} {out : List Int} (hlt : 127 < m) (hmf : m < 128 ^ (f + 1)) (hout : out ++ encVar f m = encVar 6 n) (hlen : out.length + f ≤ 6) :
    ∃ g : Nat, f = g + 1 ∧ m / 128 < 128 ^ (g + 1) ∧ (out ++ [128 + m % 128]) ++ encVar g (m / 128) = encVar 6 n ∧ (out ++ [128 + m % 128]).length + g ≤ 6 := by
  cases f with
  | zero => simp at hmf; omega
  | succ g =>
    have hp : (128 : Int) ^ (g + 1 + 1) = 128 ^ (g + 1) * 128 := Int.pow_succ 128 (g + 1)
    refine ⟨g, rfl, by omega, ?_, by simp; omega⟩
    rw [encVar, if_pos hlt] at hout
    rw [← hout, List.append_assoc]
    rfl
theorem encVar_end {f : Nat} {m n : Int} {out : List Int} (hlt : m ≤ 127) (hout : out ++ encVar f m = encVar 6 n) : out ++ [m] = encVar 6 n := by
  rw [← hout]
  cases f with
  | zero => rfl
  | succ f => rw [encVar, if_neg (by omega)]

end Go.Proofs.Ytknbfohmobjplab

namespace Go.Proofs.Ytknbfohmobjplab
open Go.RowKit

theorem info_int : (Try.prog.info? 3).map (fun i => (i.zero, i.size, i.bytes)) = some (some (.int .i64 0), 1, 8) := by kernel_rfl

/-- the numbers from k on, one after the other -/
def iota (k : Int) (n : Nat) : List Int := (List.range n).map fun i : Nat => k + (i : Int)
theorem iota_length (k : Int) (n : Nat) : (iota k n).length = n := by simp [iota]
theorem iota_succ (k : Int) (n : Nat) : iota k (n + 1) = iota k n ++ [k + n] := by simp [iota, List.range_succ]
theorem iota_get (k : Int) (n i : Nat) (h : i < n) : (iota k n)[i]'(by rw [iota_length]; exact h) = k + i := by simp [iota]
theorem grown_set {w : World} {g : Nat} {o : Nat} {u : Value} : w.grownBy (w.setCell ⟨g, o, none⟩ u) (some g) :=
  ⟨rfl, rfl, rfl, by simp, fun k _ hne => Below.heap_setCell _ _ _ _ (fun e => hne (by rw [e]))⟩
theorem grown_trans {a b c : World} {row : Option Nat} (h1 : a.grownBy b row) (h2 : b.grownBy c row) : a.grownBy c row :=
  ⟨h2.os.trans h1.os, h2.tape.trans h1.tape, h2.output.trans h1.output, Nat.le_trans h1.size h2.size, fun k hk hne => (h2.block k (Nat.lt_of_lt_of_le hk h1.size) hne).trans (h1.block k hk hne)⟩
end Go.Proofs.Ytknbfohmobjplab

namespace Go.Proofs.Ytknbfohmobjplab
open Go.ChangeShapes Go.WideShapes Go.ChangeAt Go.RowKit

/-- what a law's walk is told of a slice of numbers -/
def Row (k : IntKind) (w : World) (v : Value) (l : List Int) : Prop := Rd w w.heap.size k v l ∧ ∀ x ∈ l, (Lit.int k x).wf = true

section
variable {H : Type} {enc : TypeId × Value → H} {P : Program} {w : World}
theorem row_of {t e : TypeId} {k : IntKind} {fuel : Nat} {cs : List Value} {x : DataW H × List MemPlace} (hT : P.underlying t = some (.slice e)) (hE : P.underlying e = some (.int k)) (hC : P.cellsOf e = 1)
    (h : DataW.trod enc P w 0 (fun _ => true) true fuel t cs = some x) : ∃ a len cap l, cs = [.slice a len cap] ∧ Row k w (.slice a len cap) l := by
  rcases open_ints hT hE hC h with ⟨h1, _⟩ | ⟨ad, n, c, zs, h1, _, hl, hm, hz, _, hcell, hwf⟩
  · exact ⟨none, 0, 0, [], h1, Rd.nil _ _ _, fun x hx => by cases hx⟩
  · simp only [if_true] at hz
    refine ⟨some ad, n, c, zs.take n, h1, ⟨some ad, c, ?_, ?_, hm, ?_⟩, fun x hx => hwf x (List.mem_of_mem_take hx)⟩
    · rw [List.length_take, Nat.min_eq_left (by omega)]
    · rw [List.length_take]; omega
    · intro hpos
      rw [List.length_take] at hpos
      obtain ⟨b, off, hab, hc⟩ := ints_at hcell (by omega)
      refine ⟨b, off, congrArg some hab, World.block_lt_of_cell? w _ (hc 0 (by omega)), fun i hi => ?_⟩
      rw [List.length_take] at hi
      rw [hc i (by omega), List.getElem_take, List.getD_eq_getElem?_getD, List.getElem?_eq_getElem (by omega)]
      rfl
theorem open_row {t e : TypeId} {k : IntKind} {a : Option Addr} {len cap : Nat} {d : DataW H} {p : List MemPlace} (hT : P.underlying t = some (.slice e)) (hE : P.underlying e = some (.int k)) (hC : P.cellsOf e = 1)
    (h : DataW.Trod enc P w 0 (fun _ => true) true t (.slice a len cap) d p) : ∃ l, Row k w (.slice a len cap) l := by
  obtain ⟨fuel, hf⟩ := h
  obtain ⟨a', len', cap', l, hcs, hrow⟩ := row_of hT hE hC hf
  have e : Value.slice a len cap = Value.slice a' len' cap' := by simpa [Value.cells] using hcs
  exact ⟨l, e ▸ hrow⟩
end
end Go.Proofs.Ytknbfohmobjplab

namespace Go.Proofs.Ytknbfohmobjplab
open Go.RowKit

theorem bgo {a b c : World} (h1 : Below a.heap.size a b) (h2 : Below b.heap.size b c) : Below a.heap.size a c := h1.trans (h2.mono h1.size)
theorem Rd.len_eq {w : World} {B : Nat} {k : IntKind} {ao : Option Addr} {n cap : Nat} {l : List Int} (h : Rd w B k (.slice ao n cap) l) : n = l.length := by
  obtain ⟨_, _, hv, _⟩ := h
  injection hv
theorem Rd.len_le {w : World} {B : Nat} {k : IntKind} {v : Value} {l : List Int} (h : Rd w B k v l) : l.length ≤ maxLen := by
  obtain ⟨_, _, _, h1, h2, _⟩ := h
  omega
theorem int_bd {n : Int} (h : (Lit.int .i64 n).wf = true) : -9223372036854775808 ≤ n ∧ n ≤ 9223372036854775807 := by
  simpa [Lit.wf, IntKind.min, IntKind.max, IntKind.signed, IntKind.bits] using h
end Go.Proofs.Ytknbfohmobjplab

namespace Go.Proofs.Ytknbfohmobjplab
open Go.RowKit

theorem mark_below {w w' : World} {base : Nat} {e : TypeId} {k : IntKind} {v : Value} {l : List Int} (h : Own w base e k v l) (hg : w.grownBy w' v.ownBlock) (hb : base ≤ w.heap.size) : Below base w w' :=
  (Below.refl base w).grown hg hb fun g hgv => (World.ownsRow.lt h g hgv).1
/-- a row of blocks from base on is none of the rows below base -/
theorem Own.apart {w w' : World} {base base' : Nat} {e : TypeId} {k : IntKind} {v v' : Value} {l l' : List Int} (h : Own w base e k v l) (h' : Own w' base' e k v' l') (hb : w'.heap.size ≤ base) : v.ownBlock = none ∨ v.ownBlock ≠ v'.ownBlock := by
  cases hv : v.ownBlock with
  | none => exact .inl rfl
  | some g =>
    right
    intro hc
    have h1 := World.ownsRow.lt h g hv
    have h2 := World.ownsRow.lt h' g hc.symm
    omega
theorem Own.cells {w : World} {base : Nat} {e : TypeId} {k : IntKind} {ao : Option Addr} {n cap : Nat} {l : List Int} (h : Own w base e k (.slice ao n cap) l) (hl : 0 < l.length) :
    ∃ b, ao = some ⟨b, 0, none⟩ ∧ base ≤ b ∧ b < w.heap.size ∧ ∀ i (hi : i < l.length), w.cell? ⟨b, i, none⟩ = some (.int k l[i]) := by
  obtain ⟨g, cap', hv, hb, hg, _⟩ := h.form hl
  injection hv with h1 h2 h3
  subst h1
  exact ⟨g, rfl, hb, hg, fun i hi => h.cell i hi⟩
theorem cell_far {w w' : World} {row : Option Nat} (hg : w.grownBy w' row) (a : Addr) (hlt : a.block < w.heap.size) (hne : some a.block ≠ row) : w'.cell? a = w.cell? a := World.cell?_of_block (w := w) (hg.block a.block hlt hne)
theorem below_grown {w w' : World} (h : Below w.heap.size w w') (row : Option Nat) : w.grownBy w' row := ⟨h.os, h.tape, h.output, h.size, fun j hj _ => h.block j hj⟩
end Go.Proofs.Ytknbfohmobjplab
