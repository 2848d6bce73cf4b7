
/- What SumOfSets, DifferenceOfSets and MultipleSum compute, the program's and the reference's. Conditions: at most 2^20 orders. -/
import Derived.Test.YtffbamjfpegndaaS9
namespace Go.Proofs.Ytffbamjfpegndaa
set_option linter.unusedVariables false
set_option linter.unusedSimpArgs false
open Go.RowKit

def areS (l m : List Int) : Bool := isGroup l && m.all (isSet l)
theorem iIsGroup_at {v : Value} {l : List Int} {b : Bool} {w : World} (hE : isGroup l = b) (hr : Rd w w.heap.size .i64 v l) (hn : l.length ≤ 1048576) :
    Calls Try.prog 88 #[.agg #[v]] w fun e w' => e = .returned (.bool b) ∧ Below w.heap.size w w' := by
  rw [← hE]; exact iIsGroup_any v l w hr (by omega)
theorem iareSets_any (v u : Value) (l m : List Int) (w : World) (hr : Rd w w.heap.size .i64 v l) (hs : Rd w w.heap.size .i64 u m) (hn : l.length ≤ 1048576) (hm : m.length ≤ 1048576) (hb : ∀ x ∈ m, -9223372036854775808 ≤ x ∧ x ≤ 9223372036854775807) :
    Calls Try.prog 68 #[.agg #[v], u] w fun e w' => e = .returned (.bool (areS l m)) ∧ Below w.heap.size w w' := by
  obtain ⟨bo, dap, rfl, _, _, hsd⟩ := hs
  obtain ⟨n, hN⟩ : ∃ n, n = m.length := ⟨_, rfl⟩
  rw [← hN] at hm ⊢
  replace hN := hid hN
  replace hsd := hid hsd
  replace hb := hid hb
  obtain ⟨V, hV⟩ : ∃ V, V = areS l m := ⟨_, rfl⟩
  rw [← hV]
  replace hV := hid hV
  go_enter Try.func68, Try.ntmps68
  go_wp2
  go_loopw [9] (fun i wr => ∃ k : Nat, k ≤ n ∧ i = .int .i64 k ∧ Hid ((m.take k).all (isSet l) = true) ∧ Below w.heap.size w wr ∧ w.heap.size < wr.heap.size ∧ wr.cell? ⟨w.heap.size, 0, none⟩ = some v) (fun i _ => n - (intOf i).toNat)
  case atStart => exact ⟨0, by omega, rfl, rfl, below_alloc _ _, by simp, by simp [go_sem]⟩
  case round =>
    obtain ⟨k, hk, rfl, hall, hb1, hz, hc⟩ := hrel
    by_cases hlt : k < n
    · have hj : k < m.length := by rw [← hN.out]; omega
      obtain ⟨b, off, rfl, hB, hcell⟩ := hsd.out (by omega)
      have hcm := (hb1.cell (p := ⟨b, off + k, none⟩) hB).trans (hcell k hj)
      have hxb := hb.out _ (List.getElem_mem hj)
      have hnext : isSet l m[k] = true → (m.take (k + 1)).all (isSet l) = true := fun h => by rw [take_succ_get m k hj, List.all_append, hall.out, List.all_cons, h]; rfl
      have hbad : isSet l m[k] = false → areS l m = false := fun h => by
        unfold areS
        cases ha : m.all (isSet l)
        · exact Bool.and_false _
        · rw [List.all_eq_true.1 ha _ (List.getElem_mem hj)] at h; cases h
      obtain ⟨x, hx⟩ : ∃ x, x = m[k] := ⟨_, rfl⟩
      rw [← hx] at hcm hxb hnext hbad
      replace hxb := hid hxb
      replace hnext := hid hnext
      replace hbad := hid hbad
      clear hcell hx hall
      cases hE : isSet l x
      · have hf := hid (hbad.out hE)
        replace hE := hid hE
        go_wp2_with fail
        refine (iIsSet_at hE.out ((hr.below hb1).more (by go_size)) hn hxb.out).mono ?_
        rintro e w2 ⟨rfl, hb2⟩
        go_wp2
        go_ret
        exact ⟨by rw [hV.out, hf.out]; rfl, bgo hb1 hb2⟩
      · have hf := hid (hnext.out hE)
        replace hE := hid hE
        go_wp2_with fail
        refine (iIsSet_at hE.out ((hr.below hb1).more (by go_size)) hn hxb.out).mono ?_
        rintro e w2 ⟨rfl, hb2⟩
        go_wp2
        go_roundw
        case rel => exact ⟨k + 1, by omega, by go_num, hf.out, bgo hb1 hb2, by have := hb2.size; omega, (hb2.cell hz).trans hc⟩
        case measure => simp [intOf]; omega
    · have hfin : areS l m = isGroup l := by
        have h := hall.out
        rw [List.take_of_length_le (by rw [← hN.out]; omega)] at h
        unfold areS
        rw [h, Bool.and_true]
      have hI := fun w h1 => iIsGroup_any v l w h1 (by omega)
      rw [← hfin, ← hV.out] at hI
      clear hfin
      go_wp2_with fail
      refine (hI _ ((hr.below hb1).more (by go_size))).mono ?_
      rintro e w2 ⟨rfl, hb2⟩
      go_wp2
      go_ret
      exact ⟨rfl, bgo hb1 hb2⟩
end Go.Proofs.Ytffbamjfpegndaa
