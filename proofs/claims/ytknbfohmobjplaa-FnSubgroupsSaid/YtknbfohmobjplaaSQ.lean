/- What the reference's CosetsOf computes. Conditions: at most 2^20 orders. -/
import Derived.Test.YtknbfohmobjplaaSP
namespace Go.Proofs.Ytknbfohmobjplaa
set_option linter.unusedVariables false
set_option linter.unusedSimpArgs false
open Go.RowKit

set_option maxHeartbeats 800000 in
theorem sCosetsOf_any (v : Value) (l : List Int) (h : Int) (w : World) (hr : Rd w w.heap.size .i64 v l) (hn : l.length ≤ 1048576) (hh : -9223372036854775808 ≤ h ∧ h ≤ 9223372036854775807) :
    Calls Try.prog 35 #[.agg #[v], .int .i64 h] w fun e w' => ∃ ao cap, e = .returned (.tuple #[.slice ao (cosE l h).length cap, .bool (isSub l h)]) ∧ Own w' w.heap.size 3 .i64 (.slice ao (cosE l h).length cap) (cosE l h) ∧ Below w.heap.size w w' := by
  cases hE : isSub l h
  · rw [cosE_no hE]
    replace hh := hid hh
    replace hE := hid hE
    go_enter Try.func35, Try.ntmps35
    have hown0 := own_nil1 w (.cells #[v] 26) 3 .i64
    go_wp2_with fail
    refine (sIsSubgroup_at hE.out (((hr.alloc (Nat.le_refl _) _).alloc (by go_size) _).more (by go_size)) hn hh.out).mono ?_
    rintro e w1 ⟨rfl, hb1⟩
    have D1 : Below w.heap.size w w1 := by refine Below.trans ?_ (hb1.mono ?_) <;> go_grown
    have hz1 : w.heap.size < w1.heap.size := by have := hb1.size; simp at this; omega
    obtain ⟨hc1, hf1⟩ := bcell hb1
    have hown1 := (hown0.below hb1).lower (Nat.le_succ _)
    clear hown0 hc1 hf1
    go_wp2
    go_ret2
    exact ⟨_, _, rfl, hown1, D1⟩
  · obtain ⟨H, rfl, hH⟩ := isSet.nat (isSub.set hE)
    rw [cosE_yes hE]
    have hg := hid (isSet.group (isSub.set hE))
    have hp := isGroup.prod hg.out
    have hD := hid fun y w hr hy => sl3Shift_same v l H y w hr hg.out hH hy
    have hO := hid fun w h => sl2Order_any v l w h hg.out
    have hpn : prodL l = ((prodL l).toNat : Int) := by omega
    obtain ⟨n, hnn⟩ : ∃ n, n = (prodL l).toNat := ⟨_, rfl⟩
    rw [← hnn] at hpn ⊢
    rw [hpn] at hO
    have hn24 : n ≤ 24 := by omega
    have hlt := hid (fun k => cosTo_lt hg.out H k)
    have hll := hid (fun k => cosTo_len (l := l) H k)
    replace hh := hid hh
    replace hE := hid hE
    replace hH := hid hH
    clear hnn hp hpn
    go_enter Try.func35, Try.ntmps35
    have hown0 := own_nil1 w (.cells #[v] 26) 3 .i64
    go_wp2_with fail
    refine (sIsSubgroup_at hE.out (((hr.alloc (Nat.le_refl _) _).alloc (by go_size) _).more (by go_size)) hn hh.out).mono ?_
    rintro e w1 ⟨rfl, hb1⟩
    have D1 : Below w.heap.size w w1 := by refine Below.trans ?_ (hb1.mono ?_) <;> go_grown
    have hz1 : w.heap.size < w1.heap.size := by have := hb1.size; simp at this; omega
    obtain ⟨hc1, hf1⟩ := bcell hb1
    have hown1 := hown0.below hb1
    have c1 : w1.cell? ⟨w.heap.size, 0, none⟩ = some v := by rw [hc1 _ _ (by go_size)]; simp [go_sem]
    clear hc1 hf1 hb1 hown0
    go_wp2
    go_loopw [6, 7, 8] (fun o s i wr => ∃ k : Nat, k ≤ n ∧ i = .int .i64 k ∧ s = .int .i64 ((cosTo l H k).2 : Nat) ∧ Own wr (w.heap.size + 1) 3 .i64 o (cosTo l H k).1 ∧ Below w.heap.size w wr ∧ w.heap.size < wr.heap.size ∧ wr.cell? ⟨w.heap.size, 0, none⟩ = some v) (fun _ _ i _ => n - (intOf i).toNat)
    case atStart => exact ⟨0, by omega, rfl, rfl, hown1, D1, hz1, c1⟩
    case round =>
      obtain ⟨k, hk, rfl, rfl, hown, hb, hz, hc⟩ := hrel
      go_wp2_with fail
      refine (hO.out _ ((hr.below hb).more (by go_size))).mono ?_
      rintro e w2 ⟨rfl, hb2⟩
      have hown2 := hown.below hb2
      have D2 := bgo hb hb2
      have hz2 : w.heap.size < w2.heap.size := by have := hb2.size; omega
      have c2 := (hb2.cell hz).trans hc
      clear hown hb2 hc
      by_cases hlt2 : k < n
      · have hS := hlt.out k
        have hL := hll.out k
        obtain ⟨B, e1, hB, e2⟩ := bit_facts (x := k) hS
        cases hbit : (cosTo l H k).2.testBit k
        · have hs := hid (cos_out hbit)
          rw [hbit, if_neg (by decide)] at e2
          have hC0 := fun w hr => hD.out (k : Int) w hr (by omega)
          have hC : Hid (∀ (w : World), Rd w w.heap.size .i64 v l → Calls Try.prog 69 #[.agg #[v], .int .i64 (H : Int), .int .i64 (k : Int)] w fun e w' => e = .returned (.int .i64 (shN l H k : Nat)) ∧ Below w.heap.size w w') := hC0
          have hCb := shN_lt hg.out H k
          obtain ⟨C, hCC⟩ : ∃ C, C = shN l H k := ⟨_, rfl⟩
          obtain ⟨T, hT⟩ : ∃ T, T = (cosTo l H k).2 := ⟨_, rfl⟩
          obtain ⟨R, hR⟩ : ∃ R, R = (cosTo l H k).1 := ⟨_, rfl⟩
          rw [← hCC] at hC hs hCb
          rw [← hT] at hs hS e1
          rw [← hR] at hs hL hown2
          rw [← hT]
          have hor := or_int hS hCb
          obtain ⟨U, hU⟩ : ∃ U, U = T ||| C := ⟨_, rfl⟩
          rw [← hU] at hor hs
          replace hS := hid hS
          replace hCb := hid hCb
          replace hB := hid hB
          clear hC0 hCC hT hR hU hbit
          go_wp2_with fail
          refine (hC.out _ ((hr.below D2).more (by go_size))).mono ?_
          rintro e w3 ⟨rfl, hb3⟩
          have hown3 := hown2.below hb3
          have D3 := bgo D2 hb3
          have hz3 : w.heap.size < w3.heap.size := by have := hb3.size; omega
          have c3 := (hb3.cell hz2).trans c2
          clear hown2 hb3 c2
          go_wp2_with (at_builtin; refine app1 rfl _ _ rfl Try.underlying24 info_int (by decide) rfl hown3 rfl (by omega) (by omega) ?_)
          intro v' w' hown' hb' _
          have hsz' := hb'.size
          have c4 := (hb'.cell (p := ⟨w.heap.size, 0, none⟩) (by simp)).trans c3
          clear hown3
          go_wp2
          go_roundw
          case rel => exact ⟨k + 1, by omega, by go_num, by rw [hs.out], by rw [hs.out]; exact hown', D3.trans (hb'.mono (Nat.le_succ _)), by omega, c4⟩
          case measure => simp [intOf]; omega
        · have hs := hid (cos_in hbit)
          rw [hbit, if_pos rfl] at e2
          replace hB := hid hB
          replace hS := hid hS
          clear hbit
          go_wp2
          go_roundw
          case rel => exact ⟨k + 1, by omega, by go_num, by rw [hs.out], by rw [hs.out]; exact hown2, D2, hz2, c2⟩
          case measure => simp [intOf]; omega
      · obtain rfl : k = n := by omega
        have hown3 := hown2.lower (Nat.le_succ _)
        obtain ⟨ao, cap, rfl, _, _⟩ := hown2.shape
        clear hown2
        go_wp2
        go_ret2
        exact ⟨_, _, rfl, hown3, D2⟩
end Go.Proofs.Ytknbfohmobjplaa
