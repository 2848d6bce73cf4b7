/- What CosetNumber computes, the program's and the reference's. Conditions: at most 2^20 orders. -/
import Derived.Test.YtknbfohmobjplaaSR
namespace Go.Proofs.Ytknbfohmobjplaa
set_option linter.unusedVariables false
set_option linter.unusedSimpArgs false
open Go.RowKit

theorem iCosetNumber_any (v : Value) (l : List Int) (h x : Int) (w : World) (hr : Rd w w.heap.size .i64 v l) (hn : l.length ≤ 1048576) (hh : -9223372036854775808 ≤ h ∧ h ≤ 9223372036854775807) (_ : -9223372036854775808 ≤ x ∧ x ≤ 9223372036854775807) :
    Calls Try.prog 42 #[.agg #[v], .int .i64 h, .int .i64 x] w fun e w' => e = .returned (.int .i64 (cnE l h x)) ∧ Below w.heap.size w w' := by
  have hC := hid fun w hr => iCosetsOf_any v l h w hr hn hh
  have hcl := cosE_len l h
  have hcb := hid fun c hc => @cosE_bd l h c hc
  cases hE : isSub l h
  · rw [cnE_no hE]
    rw [hE] at hC
    obtain ⟨L, hL⟩ : ∃ L, L = cosE l h := ⟨_, rfl⟩
    rw [← hL] at hC hcl
    clear hL hE hcb
    go_enter Try.func42, Try.ntmps42
    go_wp2_with fail
    refine (hC.out _ (((hr.alloc (Nat.le_refl _) _).alloc (by go_size) _).more (by go_size))).mono ?_
    rintro e w1 ⟨ao1, cap1, rfl, ho1, hb1⟩
    have D1 : Below w.heap.size w w1 := by refine Below.trans ?_ (hb1.mono ?_) <;> go_grown
    go_wp2
    go_ret
    exact ⟨rfl, D1⟩
  · rw [hE] at hC
    cases hF : isEl l x
    · rw [cnE_bad hF]
      obtain ⟨L, hL⟩ : ∃ L, L = cosE l h := ⟨_, rfl⟩
      rw [← hL] at hC hcl
      replace hF := hid hF
      clear hL hE hcb
      go_enter Try.func42, Try.ntmps42
      go_wp2_with fail
      refine (hC.out _ (((hr.alloc (Nat.le_refl _) _).alloc (by go_size) _).more (by go_size))).mono ?_
      rintro e w1 ⟨ao1, cap1, rfl, ho1, hb1⟩
      have D1 : Below w.heap.size w w1 := by refine Below.trans ?_ (hb1.mono ?_) <;> go_grown
      obtain ⟨hc1, hf1⟩ := bcell hb1
      have hz1 : w.heap.size < w1.heap.size := by have := hb1.size; simp at this; omega
      go_wp2_with fail
      refine (ihas_at hF.out ((hr.below D1).more (by go_size)) (by omega)).mono ?_
      rintro e w2 ⟨rfl, hb2⟩
      have D2 := bgo D1 hb2
      have hz2 : w.heap.size < w2.heap.size := by have := hb2.size; omega
      obtain ⟨hc2, hf2⟩ := bcell hb2
      go_wp2
      go_ret
      exact ⟨rfl, D2⟩
    · obtain ⟨K, rfl⟩ := Int.eq_ofNat_of_zero_le (isEl.bd hF).1
      have hx24 : K < 24 := by
        have h1 := isEl.bd hF
        have h2 := isGroup.prod (isEl.group hF)
        omega
      have hEl : isEl l ((K : Nat) : Int) = true := hF
      rw [show cnE l h ((K : Nat) : Int) = firstIn K (cosE l h) from cnE_yes hE hEl]
      obtain ⟨L, hL⟩ : ∃ L, L = cosE l h := ⟨_, rfl⟩
      rw [← hL] at hC hcl hcb ⊢
      have hI := hid fun v B w h1 h2 => indexFunc_any v L B K w h1 hcl hcb.out h2 hx24
      obtain ⟨V, hV⟩ : ∃ V, V = firstIn K L := ⟨_, rfl⟩
      rw [← hV] at hI ⊢
      replace hF := hid hF
      clear hL hE hV hEl
      go_enter Try.func42, Try.ntmps42
      go_wp2_with fail
      refine (hC.out _ (((hr.alloc (Nat.le_refl _) _).alloc (by go_size) _).more (by go_size))).mono ?_
      rintro e w1 ⟨ao1, cap1, rfl, ho1, hb1⟩
      have D1 : Below w.heap.size w w1 := by refine Below.trans ?_ (hb1.mono ?_) <;> go_grown
      obtain ⟨hc1, hf1⟩ := bcell hb1
      have hz1 : w.heap.size < w1.heap.size := by have := hb1.size; simp at this; omega
      have hz1' : w.heap.size + 1 < w1.heap.size := by have := hb1.size; simp at this; omega
      have cx : w1.cell? ⟨w.heap.size + 1, 0, none⟩ = some (.int .i64 (K : Int)) := by rw [hc1 _ _ (by simp)]; simp [go_sem]
      go_wp2_with fail
      refine (ihas_at hF.out ((hr.below D1).more (by go_size)) (by omega)).mono ?_
      rintro e w2 ⟨rfl, hb2⟩
      have D2 := bgo D1 hb2
      have hz2 : w.heap.size < w2.heap.size := by have := hb2.size; omega
      obtain ⟨hc2, hf2⟩ := bcell hb2
      have cx2 := (hb2.cell (p := ⟨w.heap.size + 1, 0, none⟩) hz1').trans cx
      have hrL := ((Rd.of_own ho1).below hb2).more hb2.size
      clear hc1 hc2 hf1 hf2
      go_wp2_with fail
      refine (hI.out _ _ _ hrL cx2).mono ?_
      rintro e w3 ⟨rfl, rfl⟩
      go_wp2
      go_ret
      exact ⟨rfl, D2⟩
theorem sCosetNumber_any (v : Value) (l : List Int) (h x : Int) (w : World) (hr : Rd w w.heap.size .i64 v l) (hn : l.length ≤ 1048576) (hh : -9223372036854775808 ≤ h ∧ h ≤ 9223372036854775807) (_ : -9223372036854775808 ≤ x ∧ x ≤ 9223372036854775807) :
    Calls Try.prog 43 #[.agg #[v], .int .i64 h, .int .i64 x] w fun e w' => e = .returned (.int .i64 (cnE l h x)) ∧ Below w.heap.size w w' := by
  have hC := hid fun w hr => sCosetsOf_any v l h w hr hn hh
  have hcl := cosE_len l h
  have hcb := hid fun c hc => @cosE_bd l h c hc
  cases hE : isSub l h
  · rw [cnE_no hE]
    rw [hE, cosE_no hE] at hC
    clear hE hcb hcl
    go_enter Try.func43, Try.ntmps43
    go_wp2_with fail
    refine (hC.out _ ((hr.alloc (Nat.le_refl _) _).more (by go_size))).mono ?_
    rintro e w1 ⟨ao1, cap1, rfl, ho1, hb1⟩
    have D1 : Below w.heap.size w w1 := by refine Below.trans ?_ (hb1.mono ?_) <;> go_grown
    go_wp2
    go_loop [9] (fun i => i = .int .i64 0) (fun _ => 0)
    case atStart => exact rfl
    case round =>
      obtain rfl := hrel
      go_wp2
      go_ret
      exact ⟨rfl, D1⟩
  · rw [hE] at hC
    cases hF : isEl l x
    · rw [cnE_bad hF]
      obtain ⟨L, hL⟩ : ∃ L, L = cosE l h := ⟨_, rfl⟩
      rw [← hL] at hC hcl
      replace hF := hid hF
      clear hL hE hcb
      go_enter Try.func43, Try.ntmps43
      go_wp2_with fail
      refine (hC.out _ ((hr.alloc (Nat.le_refl _) _).more (by go_size))).mono ?_
      rintro e w1 ⟨ao1, cap1, rfl, ho1, hb1⟩
      have D1 : Below w.heap.size w w1 := by refine Below.trans ?_ (hb1.mono ?_) <;> go_grown
      obtain ⟨hc1, hf1⟩ := bcell hb1
      have hz1 : w.heap.size < w1.heap.size := by have := hb1.size; simp at this; omega
      have c1 : w1.cell? ⟨w.heap.size, 0, none⟩ = some v := by rw [hc1 _ _ (by go_size)]; simp [go_sem]
      clear hc1 hf1
      go_wp2
      go_loopw [9] (fun i wr => i = .int .i64 0 ∧ wr = w1) (fun _ _ => 0)
      case atStart => exact ⟨rfl, rfl⟩
      case round =>
        obtain ⟨rfl, rfl⟩ := hrel
        by_cases hpos : 0 < L.length
        · go_wp2_with fail
          refine (sl2Is_at hF.out ((hr.below D1).more (by go_size)) (by omega)).mono ?_
          rintro e w2 ⟨rfl, hb2⟩
          go_wp2
          go_ret
          exact ⟨rfl, bgo D1 hb2⟩
        · go_wp2
          go_ret
          exact ⟨rfl, D1⟩
    · obtain ⟨K, rfl⟩ := Int.eq_ofNat_of_zero_le (isEl.bd hF).1
      have hx24 : K < 24 := by
        have h1 := isEl.bd hF
        have h2 := isGroup.prod (isEl.group hF)
        omega
      have hEl : isEl l ((K : Nat) : Int) = true := hF
      rw [show cnE l h ((K : Nat) : Int) = firstIn K (cosE l h) from cnE_yes hE hEl]
      obtain ⟨L, hL⟩ : ∃ L, L = cosE l h := ⟨_, rfl⟩
      rw [← hL] at hC hcl hcb ⊢
      have hhit := hid fun k h1 h2 h3 => @firstIn_hit K k L h1 h2 h3
      have hmiss := hid fun h1 => @firstIn_miss K L h1
      obtain ⟨V, hV⟩ : ∃ V, V = firstIn K L := ⟨_, rfl⟩
      rw [← hV] at hhit hmiss ⊢
      replace hF := hid hF
      clear hL hE hV hEl
      go_enter Try.func43, Try.ntmps43
      go_wp2_with fail
      refine (hC.out _ ((hr.alloc (Nat.le_refl _) _).more (by go_size))).mono ?_
      rintro e w1 ⟨ao1, cap1, rfl, ho1, hb1⟩
      have D1 : Below w.heap.size w w1 := by refine Below.trans ?_ (hb1.mono ?_) <;> go_grown
      obtain ⟨hc1, hf1⟩ := bcell hb1
      have hz1 : w.heap.size < w1.heap.size := by have := hb1.size; simp at this; omega
      have c1 : w1.cell? ⟨w.heap.size, 0, none⟩ = some v := by rw [hc1 _ _ (by go_size)]; simp [go_sem]
      clear hc1 hf1 hb1
      go_wp2
      go_loopw [9] (fun i wr => ∃ k : Nat, k ≤ L.length ∧ i = .int .i64 k ∧ Hid (∀ j (hj : j < L.length), j < k → L[j].toNat.testBit K = false) ∧ Below w.heap.size w wr ∧ Below w1.heap.size w1 wr) (fun i _ => L.length - (intOf i).toNat)
      case atStart => exact ⟨0, by omega, rfl, (fun j _ h => by omega), D1, Below.refl _ _⟩
      case round =>
        obtain ⟨k, hk, rfl, hall, hb, hbm⟩ := hrel
        have hz : w.heap.size < wr.heap.size := by have := hbm.size; omega
        have hc := (hbm.cell hz1).trans c1
        by_cases hlt : k < L.length
        · obtain ⟨b1, rfl, hB1, hB1', hcell⟩ := ho1.cells (by omega)
          obtain ⟨C, hC2, hCb⟩ := hcb.out _ (List.getElem_mem hlt)
          have hcm := hcell k hlt
          rw [hC2] at hcm
          have hbit : L[k].toNat.testBit K = C.testBit K := by rw [hC2, Int.toNat_natCast]
          obtain ⟨S, e1, hS, e2⟩ := bit_facts (x := K) hCb
          go_wp2_with fail
          refine (sl2Is_at hF.out ((hr.below hb).more (by go_size)) (by omega)).mono ?_
          rintro e w2 ⟨rfl, hb2⟩
          have D2 := bgo hb hb2
          have M2 := bgo hbm hb2
          have hcn := (M2.cell (p := ⟨b1, k, none⟩) hB1').trans hcm
          clear hcm hcell hb2
          replace hCb := hid hCb
          replace hS := hid hS
          cases hbb : C.testBit K
          · rw [hbb, if_neg (by decide)] at e2
            rw [hbb] at hbit
            have hnext : Hid (∀ j (hj : j < L.length), j < k + 1 → L[j].toNat.testBit K = false) := hid fun j h1 h2 => by
              rcases Nat.lt_or_eq_of_le (Nat.le_of_lt_succ h2) with h | h
              · exact hall.out j h1 h
              · subst h; exact hbit
            clear hbit hbb hall hC2
            go_wp2
            go_roundw
            case rel => exact ⟨k + 1, by omega, by go_num, hnext, D2, M2⟩
            case measure => simp [intOf]; omega
          · rw [hbb, if_pos rfl] at e2
            rw [hbb] at hbit
            have hf := hid (hhit.out k hlt hbit hall.out)
            clear hbit hbb hall hC2
            go_wp2
            go_ret
            exact ⟨by rw [hf.out]; rfl, D2⟩
        · have hf := hid (hmiss.out fun j hj => hall.out j hj (by omega))
          go_wp2
          go_ret
          exact ⟨by rw [hf.out]; rfl, hb⟩
end Go.Proofs.Ytknbfohmobjplaa
