
/- The draws of a text, and what the law of the integer encodings draws. Conditions: codes of at most 2^40 bytes. -/
import Derived.Test.YtffbamjfpegndabR2
namespace Go.Proofs.Ytffbamjfpegndab
set_option linter.unusedVariables false
set_option linter.unusedSimpArgs false
open Go.RowKit

theorem Cur.under {w w' : World} {c B b : Nat} {v : Value} {l : List Int} (h : Cur w c B v l) (hb : Below b w w') (hcb : c < b) : Cur w' c B v l := by
  have k : ∀ i, w'.cell? ⟨c, i, none⟩ = w.cell? ⟨c, i, none⟩ := fun i => hb.cell (p := ⟨c, i, none⟩) hcb
  have f : ∀ i, w'.frozen? ⟨c, i, none⟩ = w.frozen? ⟨c, i, none⟩ := fun i => hb.frozen (p := ⟨c, i, none⟩) hcb
  exact ⟨Nat.lt_of_lt_of_le h.lt hb.size, h.le, (k 0).trans h.code, h.at_.imp fun i hi => ⟨hi.1, (k 1).trans hi.2⟩, h.hash.imp fun i hi => (k 2).trans hi, ⟨(f 0).trans h.free.1, (f 1).trans h.free.2.1, (f 2).trans h.free.2.2⟩, h.rd.below (hb.mono (Nat.le_of_lt (Nat.lt_of_le_of_lt h.le hcb)))⟩
theorem grown_under {a b c : World} {row : Option Nat} (h1 : a.grownBy b row) (h2 : Below a.heap.size b c) : a.grownBy c row :=
  ⟨h2.os.trans h1.os, h2.tape.trans h1.tape, h2.output.trans h1.output, Nat.le_trans h1.size h2.size, fun k hk hne => (h2.block k hk).trans (h1.block k hk hne)⟩
theorem Own.past {w w' : World} {base c : Nat} {e : TypeId} {k : IntKind} {v : Value} {l : List Int} (h : Own w base e k v l) (hg : w.grownBy w' (some c)) (hc : c < base) : Own w' base e k v l :=
  h.kept hg (by
    cases hv : v.ownBlock with
    | none => exact Or.inl rfl
    | some g =>
      refine Or.inr fun e => ?_
      have h1 := (World.ownsRow.lt h g hv).1
      have h2 := Option.some.inj e
      omega)
set_option maxRecDepth 100000 in
theorem sl1Text_any (c B : Nat) (v : Value) (l : List Int) (most : Nat) (w : World) (hc : Cur w c B v l) (hl : l.length ≤ 1099511627776) (hB : ∀ x ∈ l, 0 ≤ x ∧ x ≤ 255) (hm : most ≤ 1000) :
    Calls Try.prog 58 #[.pointer (some ⟨c, 0, none⟩), .int .i64 (most : Int)] w fun e w' => (∃ t : List Int, e = .returned (.string (strOfNums t)) ∧ IsB t ∧ t.length ≤ most) ∧ Cur w' c B v l ∧ w.grownBy w' (some c) := by
  have hY := hid fun n h0 hn w hc => sl1Below_any c B v l n w hc hl hB h0 hn
  have hZ := hid fun w hc => sl1Byte_any c B v l w hc hl hB
  replace hB := hid hB
  have hcw := hc.lt
  have hwm : IntKind.i64.wrap ((most : Int) + 1) = most + 1 := IntWalk.i64_in _ (by omega)
  go_enter Try.func58, Try.ntmps58
  go_wp2_with fail
  refine (hY.out _ (by omega) (by omega) _ (hc.below (below_alloc _ _))).mono ?_
  rintro e w1 ⟨⟨st, rfl, hs0, hs1⟩, hc1, hg1⟩
  have ho1 := (Own.empty w w.heap.size 5 .u8 (Nat.le_refl _)).past hg1 hcw
  have G1 := grown_trans (below_grown (below_alloc w (.cells #[] 5)) (some c)) hg1
  go_wp2_with fail
  refine (hY.out _ (by omega) (by omega) _ hc1).mono ?_
  rintro e w2 ⟨⟨N, rfl, hn0, hn1⟩, hc2, hg2⟩
  have ho2 := ho1.past hg2 hcw
  have G2 := grown_trans G1 hg2
  obtain ⟨N, rfl⟩ := Int.eq_ofNat_of_zero_le hn0
  have hN : N ≤ most := by omega
  clear hc hc1 ho1 hg1 hg2 G1
  go_wp2
  go_loopw [5, 7] (fun o i wr => ∃ (k : Nat) (O : List Int), i = .int .i64 k ∧ Own wr w.heap.size 5 .u8 o O ∧ Hid (IsB O) ∧ O.length + k ≤ most ∧ Cur wr c B v l ∧ w.grownBy wr (some c)) (fun _ i _ => (intOf i).toNat)
  case atStart => exact ⟨N, [], rfl, ho2, isB_nil, by simpa using hN, hc2, G2⟩
  case round =>
    obtain ⟨k, O, rfl, hown, hO, hlen, hcr, hg⟩ := hrel
    by_cases hk : 0 < k
    · clear ho2 hc2 G2
      go_wp2_with fail
      refine (hZ.out _ hcr).mono ?_
      rintro e w3 ⟨⟨x, rfl, hx0, hx1⟩, hc3, hg3⟩
      have ho3 := hown.past hg3 hcw
      have G3 := grown_trans hg hg3
      have hz3 : w.heap.size ≤ w3.heap.size := G3.size
      have x2 : x.tmod 2 = x % 2 := Int.tmod_eq_emod_of_nonneg hx0
      have x4 : x.tmod 4 = x % 4 := Int.tmod_eq_emod_of_nonneg hx0
      clear hown hg3 hg hcr
      by_cases z1 : st = 1
      · subst z1
        have hw : IntKind.u8.wrap (x % 2) = x % 2 := IntWalk.u8_in _ (by omega)
        go_wp2_with (at_builtin; refine app1 (u := x % 2) rfl _ _ rfl Try.underlying44 info_u8 (by decide) rfl ho3 rfl (by omega) hz3 ?_)
        intro v' w' hown' hb' _
        go_wp2
        go_roundw
        case rel => exact ⟨k - 1, O ++ [x % 2], by go_num, hown', isB_append hO.out (isB_cons (by omega) isB_nil), by simp; omega, hc3.under hb' hcw, grown_under G3 hb'⟩
        case measure => simp [intOf]; omega
      · by_cases z2 : st = 2
        · subst z2
          have hw0 : IntKind.i64.wrap (97 + x % 4) = 97 + x % 4 := IntWalk.i64_in _ (by omega)
          have hw : IntKind.u8.wrap (97 + x % 4) = 97 + x % 4 := IntWalk.u8_in _ (by omega)
          go_wp2_with (at_builtin; refine app1 (u := 97 + x % 4) rfl _ _ rfl Try.underlying44 info_u8 (by decide) rfl ho3 rfl (by omega) hz3 ?_)
          intro v' w' hown' hb' _
          go_wp2
          go_roundw
          case rel => exact ⟨k - 1, O ++ [97 + x % 4], by go_num, hown', isB_append hO.out (isB_cons (by omega) isB_nil), by simp; omega, hc3.under hb' hcw, grown_under G3 hb'⟩
          case measure => simp [intOf]; omega
        · have z1' : (st == 1) = false := beq_eq_false_iff_ne.2 z1
          have z2' : (st == 2) = false := beq_eq_false_iff_ne.2 z2
          have hw : IntKind.u8.wrap x = x := IntWalk.u8_in _ (by omega)
          go_wp2_with (at_builtin; refine app1 (u := x) rfl _ _ rfl Try.underlying44 info_u8 (by decide) rfl ho3 rfl (by omega) hz3 ?_)
          intro v' w' hown' hb' _
          go_wp2
          go_roundw
          case rel => exact ⟨k - 1, O ++ [x], by go_num, hown', isB_append hO.out (isB_cons (by omega) isB_nil), by simp; omega, hc3.under hb' hcw, grown_under G3 hb'⟩
          case measure => simp [intOf]; omega
    · have hk0 : k = 0 := by omega
      subst hk0
      have hcv := conv_own Try.underlying44 Try.underlying5 Try.underlying9 hown
      go_wp2
      go_ret
      exact ⟨⟨O, rfl, hO.out, by omega⟩, hcr, hg⟩
end Go.Proofs.Ytffbamjfpegndab
