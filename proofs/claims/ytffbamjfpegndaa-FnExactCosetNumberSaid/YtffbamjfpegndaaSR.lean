
/- What CosetNumber computes, the program's and the reference's. Conditions: at most 2^20 orders. -/
import Derived.Test.YtffbamjfpegndaaSQ
namespace Go.Proofs.Ytffbamjfpegndaa
set_option linter.unusedVariables false
set_option linter.unusedSimpArgs false
open Go.RowKit

/-- the place of the first set with an element -/
def firstIn (x : Nat) (L : List Int) : Int := match L.findIdx? (fun c => c.toNat.testBit x) with | some i => (i : Int) | none => -1
theorem firstIn_hit {x k : Nat} {L : List Int} (hk : k < L.length) (h : L[k].toNat.testBit x = true) (hne : ∀ j (hj : j < L.length), j < k → L[j].toNat.testBit x = false) : firstIn x L = (k : Int) := by
  have : L.findIdx? (fun c => c.toNat.testBit x) = some k := by
    rw [List.findIdx?_eq_some_iff_getElem]
    refine ⟨hk, h, fun j hj => ?_⟩
    rw [hne j (by omega) hj]
    decide
  unfold firstIn
  rw [this]
theorem firstIn_miss {x : Nat} {L : List Int} (hne : ∀ j (hj : j < L.length), L[j].toNat.testBit x = false) : firstIn x L = -1 := by
  have : L.findIdx? (fun c => c.toNat.testBit x) = none := by
    rw [List.findIdx?_eq_none_iff]
    intro c hc
    obtain ⟨j, hj, rfl⟩ := List.mem_iff_getElem.1 hc
    exact hne j hj
  unfold firstIn
  rw [this]
def cnE (l : List Int) (h x : Int) : Int := if isSub l h && isEl l x then firstIn x.toNat (cosE l h) else -1
theorem cnE_no {l : List Int} {h x : Int} (hh : isSub l h = false) : cnE l h x = -1 := by unfold cnE; rw [hh]; rfl
theorem cnE_bad {l : List Int} {h x : Int} (hh : isEl l x = false) : cnE l h x = -1 := by unfold cnE; rw [hh, Bool.and_false]; rfl
theorem cnE_yes {l : List Int} {h : Int} {x : Nat} (h1 : isSub l h = true) (h2 : isEl l (x : Int) = true) : cnE l h x = firstIn x (cosE l h) := by unfold cnE; rw [h1, h2]; rfl
theorem cosE_bd {l : List Int} {h : Int} {c : Int} (hc : c ∈ cosE l h) : ∃ C : Nat, c = C ∧ C < 16777216 := by
  unfold cosE at hc
  split at hc
  · rename_i hh
    exact cosTo_bd (isSet.group (isSub.set hh)) _ _ c hc
  · cases hc
theorem closure_any (B x C : Nat) (w : World) (hc : w.cell? ⟨B, 0, none⟩ = some (.int .i64 (x : Int))) (hC : C < 16777216) (hx : x < 24) :
    Calls Try.prog 94 #[.int .i64 (C : Int), .pointer (some ⟨B, 0, none⟩)] w fun e w' => e = .returned (.bool (C.testBit x)) ∧ w = w' := by
  have hI := hid fun w => iin_any C x hC hx w
  obtain ⟨b, hb⟩ : ∃ b, b = C.testBit x := ⟨_, rfl⟩
  rw [← hb] at hI ⊢
  clear hb hC
  go_enter Try.func94, Try.ntmps94
  go_wp2_with fail
  refine (hI.out _).mono ?_
  rintro e w' ⟨rfl, rfl⟩
  go_wp2
  go_ret
  exact ⟨rfl, rfl⟩
theorem indexFunc_any (v : Value) (L : List Int) (B x : Nat) (w : World) (hr : Rd w w.heap.size .i64 v L) (hL : L.length ≤ 24) (hbd : ∀ c ∈ L, ∃ C : Nat, c = C ∧ C < 16777216) (hc : w.cell? ⟨B, 0, none⟩ = some (.int .i64 (x : Int))) (hx : x < 24) :
    Calls Try.prog 93 #[v, .func (.func 94) #[] #[.pointer (some ⟨B, 0, none⟩)]] w fun e w' => e = .returned (.int .i64 (firstIn x L)) ∧ w = w' := by
  obtain ⟨ao, cap, rfl, _, _, hrd⟩ := hr
  have hhit := hid fun k h1 h2 h3 => @firstIn_hit x k L h1 h2 h3
  have hmiss := hid fun h1 => @firstIn_miss x L h1
  obtain ⟨V, hV⟩ : ∃ V, V = firstIn x L := ⟨_, rfl⟩
  rw [← hV] at hhit hmiss ⊢
  obtain ⟨n, hN⟩ : ∃ n, n = L.length := ⟨_, rfl⟩
  rw [← hN] at hL ⊢
  replace hN := hid hN
  replace hrd := hid hrd
  replace hbd := hid hbd
  clear hV
  go_enter Try.func93, Try.ntmps93
  go_wp2
  go_loopw [8] (fun i wr => ∃ k : Nat, k ≤ n ∧ i = .int .i64 k ∧ Hid (∀ j (hj : j < L.length), j < k → L[j].toNat.testBit x = false) ∧ wr = w) (fun i _ => n - (intOf i).toNat)
  case atStart => exact ⟨0, by omega, rfl, (fun j _ h => by omega), rfl⟩
  case round =>
    obtain ⟨k, hk, rfl, hall, rfl⟩ := hrel
    by_cases hlt : k < n
    · have hj : k < L.length := by rw [← hN.out]; omega
      obtain ⟨b, off, rfl, hB, hcell⟩ := hrd.out (by omega)
      have hcm := hcell k hj
      obtain ⟨C, hC, hCb⟩ := hbd.out _ (List.getElem_mem hj)
      rw [hC] at hcm
      have hcl := hid fun w hc => closure_any B x C w hc hCb hx
      have hbit : L[k].toNat.testBit x = C.testBit x := by rw [hC, Int.toNat_natCast]
      cases hb : C.testBit x
      · rw [hb] at hcl hbit
        have hnext : Hid (∀ j (hj : j < L.length), j < k + 1 → L[j].toNat.testBit x = false) := hid fun j h1 h2 => by
          rcases Nat.lt_or_eq_of_le (Nat.le_of_lt_succ h2) with h | h
          · exact hall.out j h1 h
          · subst h; exact hbit
        clear hcell hC hbit hb hall hCb
        go_wp2_with (go_at_call 94; refine (hcl.out _ hc).mono ?_; rintro e w' ⟨rfl, rfl⟩)
        go_roundw
        case rel => exact ⟨k + 1, by omega, by go_num, hnext, by trivial⟩
        case measure => simp [intOf]; omega
      · rw [hb] at hcl hbit
        have hf := hid (hhit.out k hj hbit hall.out)
        clear hcell hC hbit hb hall hCb
        go_wp2_with (go_at_call 94; refine (hcl.out _ hc).mono ?_; rintro e w' ⟨rfl, rfl⟩)
        go_ret
        exact ⟨by rw [hf.out]; rfl, rfl⟩
    · have hf := hid (hmiss.out fun j hj => hall.out j hj (by have := hN.out; omega))
      go_wp2
      go_ret
      exact ⟨by rw [hf.out]; rfl, rfl⟩
end Go.Proofs.Ytffbamjfpegndaa
