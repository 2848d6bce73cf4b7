/- What CosetsOf computes, the program's and the reference's. Conditions: at most 2^20 orders. -/
import Derived.Test.YtknbfohmobjplaaSK
import Derived.Test.YtknbfohmobjplaaSG
namespace Go.Proofs.Ytknbfohmobjplaa
set_option linter.unusedVariables false
set_option linter.unusedSimpArgs false
open Go.RowKit

/-- the bit of a set: the numbers of the walk -/
theorem bit_facts {A x : Nat} (hA : A < 16777216) : ∃ S : Nat, (A : Int) / 2 ^ x = (S : Int) ∧ S < 16777216 ∧ bits .and .i64 (S : Int) 1 = (if A.testBit x then 1 else 0) := by
  have hSA : A / 2 ^ x ≤ A := Nat.div_le_self _ _
  have htb := bit_div A x
  refine ⟨A / 2 ^ x, by rw [Int.natCast_ediv, Int.natCast_pow]; rfl, by omega, ?_⟩
  obtain ⟨S, hS⟩ : ∃ S, S = A / 2 ^ x := ⟨_, rfl⟩
  rw [← hS] at hSA htb ⊢
  have e2 : bits .and .i64 (S : Int) 1 = ((S % 2 : Nat) : Int) := by
    have := and64_low 1 (S : Int) (by omega) (by omega) (by omega)
    simpa using this
  rw [e2, htb]
  by_cases h : S % 2 = 1
  · rw [decide_eq_true h, h]; rfl
  · rw [decide_eq_false h, show S % 2 = 0 by omega]; rfl
theorem iin_any (A x : Nat) (hA : A < 16777216) (hx : x < 24) (w : World) :
    Calls Try.prog 81 #[.int .i64 (A : Int), .int .i64 (x : Int)] w fun e w' => e = .returned (.bool (A.testBit x)) ∧ w = w' := by
  obtain ⟨S, e1, hS, e2⟩ := bit_facts (x := x) hA
  obtain ⟨b, hb⟩ : ∃ b, b = A.testBit x := ⟨_, rfl⟩
  rw [← hb] at e2 ⊢
  replace hA := hid hA
  replace hS := hid hS
  clear hb
  cases b
  · rw [if_neg (by decide)] at e2
    go_enter Try.func81, Try.ntmps81
    go_wp2
    go_ret
    exact ⟨rfl, rfl⟩
  · rw [if_pos rfl] at e2
    go_enter Try.func81, Try.ntmps81
    go_wp2
    go_ret
    exact ⟨rfl, rfl⟩
def cosE (l : List Int) (h : Int) : List Int := if isSub l h then (cosTo l h.toNat (prodL l).toNat).1 else []
theorem cosE_no {l : List Int} {h : Int} (hh : isSub l h = false) : cosE l h = [] := by unfold cosE; rw [hh]; rfl
theorem cosE_yes {l : List Int} {H : Nat} (hh : isSub l (H : Int) = true) : cosE l H = (cosTo l H (prodL l).toNat).1 := by unfold cosE; rw [hh]; rfl
theorem cosE_len (l : List Int) (h : Int) : (cosE l h).length ≤ 24 := by
  unfold cosE
  split
  · rename_i hh
    have hp := isGroup.prod (isSet.group (isSub.set hh))
    have := cosTo_len (l := l) h.toNat (prodL l).toNat
    omega
  · simp
theorem cos_in {l : List Int} {H k : Nat} (h : (cosTo l H k).2.testBit k = true) : cosTo l H (k + 1) = cosTo l H k := by rw [cosTo, if_pos h]
theorem cos_out {l : List Int} {H k : Nat} (h : (cosTo l H k).2.testBit k = false) : cosTo l H (k + 1) = ((cosTo l H k).1 ++ [(shN l H k : Int)], (cosTo l H k).2 ||| shN l H k) := by rw [cosTo, if_neg (by rw [h]; simp)]
theorem own_nil1 (w : World) (o : Obj) (e : TypeId) (k : IntKind) : Own ((w.alloc o).alloc (.cells #[] e)) (w.heap.size + 1) e k (.slice (some ⟨w.heap.size + 1, 0, none⟩) 0 0) [] := by
  have := Own.empty (w.alloc o) (w.heap.size + 1) e k (by simp)
  simpa using this
set_option maxHeartbeats 800000 in
theorem iCosetsOf_any (v : Value) (l : List Int) (h : Int) (w : World) (hr : Rd w w.heap.size .i64 v l) (hn : l.length ≤ 1048576) (hh : -9223372036854775808 ≤ h ∧ h ≤ 9223372036854775807) :
    Calls Try.prog 34 #[.agg #[v], .int .i64 h] w fun e w' => ∃ ao cap, e = .returned (.tuple #[.slice ao (cosE l h).length cap, .bool (isSub l h)]) ∧ Own w' w.heap.size 3 .i64 (.slice ao (cosE l h).length cap) (cosE l h) ∧ Below w.heap.size w w' := by
  cases hE : isSub l h
  · rw [cosE_no hE]
    replace hh := hid hh
    replace hE := hid hE
    go_enter Try.func34, Try.ntmps34
    have hown0 := own_nil1 w (.cells #[v] 26) 3 .i64
    go_wp2_with fail
    refine (iIsSubgroup_at hE.out (((hr.alloc (Nat.le_refl _) _).alloc (by go_size) _).more (by go_size)) hn hh.out).mono ?_
    rintro e w1 ⟨rfl, hb1⟩
    have D1 : Below w.heap.size w w1 := by refine Below.trans ?_ (hb1.mono ?_) <;> go_grown
    have hz1 : w.heap.size < w1.heap.size := by have := hb1.size; simp at this; omega
    obtain ⟨hc1, hf1⟩ := bcell hb1
    have hown1 := (hown0.below hb1).lower (Nat.le_succ _)
    clear hown0 hc1 hf1
    go_wp2
    go_ret2
    exact ⟨_, _, rfl, hown1, D1⟩
  · obtain ⟨H, rfl, hH⟩ := isSet.nat (isSub.set hE)
    rw [cosE_yes hE]
    have hg := hid (isSet.group (isSub.set hE))
    have hp := isGroup.prod hg.out
    have hD := hid fun y w hr hy => ishift_any v l H y w hr hg.out hH hy
    have hO := hid fun w h => iOrderOf_g v l w h hg.out
    have hpn : prodL l = ((prodL l).toNat : Int) := by omega
    obtain ⟨n, hnn⟩ : ∃ n, n = (prodL l).toNat := ⟨_, rfl⟩
    rw [← hnn] at hpn ⊢
    rw [hpn] at hO
    have hn24 : n ≤ 24 := by omega
    have hlt := hid (fun k => cosTo_lt hg.out H k)
    have hll := hid (fun k => cosTo_len (l := l) H k)
    replace hh := hid hh
    replace hE := hid hE
    replace hH := hid hH
    clear hnn hp hpn
    go_enter Try.func34, Try.ntmps34
    have hown0 := own_nil1 w (.cells #[v] 26) 3 .i64
    go_wp2_with fail
    refine (iIsSubgroup_at hE.out (((hr.alloc (Nat.le_refl _) _).alloc (by go_size) _).more (by go_size)) hn hh.out).mono ?_
    rintro e w1 ⟨rfl, hb1⟩
    have D1 : Below w.heap.size w w1 := by refine Below.trans ?_ (hb1.mono ?_) <;> go_grown
    have hz1 : w.heap.size < w1.heap.size := by have := hb1.size; simp at this; omega
    obtain ⟨hc1, hf1⟩ := bcell hb1
    have hown1 := hown0.below hb1
    go_wp2_with fail
    refine (hO.out _ ((hr.below D1).more (by go_size))).mono ?_
    rintro e w2 ⟨rfl, hb2⟩
    have D2 := bgo D1 hb2
    have hz2 : w.heap.size < w2.heap.size := by have := hb2.size; omega
    obtain ⟨hc2, hf2⟩ := bcell hb2
    have hown2 := hown1.below hb2
    have c2 : w2.cell? ⟨w.heap.size, 0, none⟩ = some v := by rw [hc2 _ _ hz1, hc1 _ _ (by go_size)]; simp [go_sem]
    clear hc1 hf1 hb1 hc2 hf2 hb2 hown0 hown1
    go_wp2
    go_loopw [6, 7, 18] (fun o s i wr => ∃ k : Nat, k ≤ n ∧ i = .int .i64 k ∧ s = .int .i64 ((cosTo l H k).2 : Nat) ∧ Own wr (w.heap.size + 1) 3 .i64 o (cosTo l H k).1 ∧ Below w.heap.size w wr ∧ w.heap.size < wr.heap.size ∧ wr.cell? ⟨w.heap.size, 0, none⟩ = some v) (fun _ _ i _ => n - (intOf i).toNat)
    case atStart => exact ⟨0, by omega, rfl, rfl, hown2, D2, hz2, c2⟩
    case round =>
      obtain ⟨k, hk, rfl, rfl, hown, hb, hz, hc⟩ := hrel
      by_cases hlt2 : k < n
      · have hS := hlt.out k
        have hL := hll.out k
        have hI := hid fun w => iin_any (cosTo l H k).2 k hS (by omega) w
        cases hbit : (cosTo l H k).2.testBit k
        · have hs := hid (cos_out hbit)
          rw [hbit] at hI
          have hC0 := fun w hr => hD.out (k : Int) w hr (by omega)
          have hC : Hid (∀ (w : World), Rd w w.heap.size .i64 v l → Calls Try.prog 49 #[.agg #[v], .int .i64 (H : Int), .int .i64 (k : Int)] w fun e w' => e = .returned (.int .i64 (shN l H k : Nat)) ∧ Below w.heap.size w w') := hC0
          have hCb := shN_lt hg.out H k
          obtain ⟨C, hCC⟩ : ∃ C, C = shN l H k := ⟨_, rfl⟩
          obtain ⟨T, hT⟩ : ∃ T, T = (cosTo l H k).2 := ⟨_, rfl⟩
          obtain ⟨R, hR⟩ : ∃ R, R = (cosTo l H k).1 := ⟨_, rfl⟩
          rw [← hCC] at hC hs hCb
          rw [← hT] at hI hs hS
          rw [← hR] at hs hL hown
          rw [← hT]
          have hor := or_int hS hCb
          obtain ⟨U, hU⟩ : ∃ U, U = T ||| C := ⟨_, rfl⟩
          rw [← hU] at hor hs
          replace hS := hid hS
          replace hCb := hid hCb
          clear hC0 hCC hT hR hU hbit
          go_wp2_with fail
          refine (hI.out _).mono ?_
          rintro e wx ⟨rfl, rfl⟩
          go_wp2_with fail
          refine (hC.out _ ((hr.below hb).more (by go_size))).mono ?_
          rintro e w3 ⟨rfl, hb3⟩
          have hown3 := hown.below hb3
          have D3 := bgo hb hb3
          have hz3 : w.heap.size < w3.heap.size := by have := hb3.size; omega
          have c3 := (hb3.cell hz).trans hc
          clear hown hb3 hc
          go_wp2_with (at_builtin; refine app1 rfl _ _ rfl Try.underlying24 info_int (by decide) rfl hown3 rfl (by omega) (by omega) ?_)
          intro v' w' hown' hb' _
          have hsz' := hb'.size
          have c4 := (hb'.cell (p := ⟨w.heap.size, 0, none⟩) (by simp)).trans c3
          clear hown3
          go_wp2
          go_roundw
          case rel => exact ⟨k + 1, by omega, by go_num, by rw [hs.out], by rw [hs.out]; exact hown', D3.trans (hb'.mono (Nat.le_succ _)), by omega, c4⟩
          case measure => simp [intOf]; omega
        · have hs := hid (cos_in hbit)
          rw [hbit] at hI
          clear hbit
          go_wp2_with fail
          refine (hI.out _).mono ?_
          rintro e wx ⟨rfl, rfl⟩
          go_wp2
          go_roundw
          case rel => exact ⟨k + 1, by omega, by go_num, by rw [hs.out], by rw [hs.out]; exact hown, hb, hz, hc⟩
          case measure => simp [intOf]; omega
      · obtain rfl : k = n := by omega
        have hown2 := hown.lower (Nat.le_succ _)
        obtain ⟨ao, cap, rfl, _, _⟩ := hown.shape
        clear hown
        go_wp2
        go_ret2
        exact ⟨_, _, rfl, hown2, hb⟩
end Go.Proofs.Ytknbfohmobjplaa
