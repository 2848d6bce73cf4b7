
/- The library's sort and search in a slice of integers, at this program. Conditions: at most 2^30 numbers. -/
import Derived.Test.YtffbamjfpegndaaSrt
import Derived.Test.YtffbamjfpegndaaSG
import Derived.Test.YtffbamjfpegndaaPlY
namespace Go.Proofs.Ytffbamjfpegndaa
set_option linter.unusedVariables false
set_option linter.unusedSimpArgs false
open Go.RowKit

theorem sort_any (v : Value) (l : List Int) (base : Nat) (w : World) (hown : Own w base 3 .i64 v l) (hpos : 0 < l.length) (hn : l.length ≤ 1073741824) (hb : base ≤ w.heap.size) :
    Calls Try.prog 90 #[v] w fun e w' => e = .returned (.tuple #[]) ∧ Own w' base 3 .i64 v (sortL l) ∧ Below base w w' := by
  have h0 := hown
  unfold Own at hown
  rcases hown.2 with ⟨_, h1⟩ | ⟨g, cap, cur, rfl, hbg, hg, h1, h2, h3, h4⟩
  · omega
  have hlt : g < w.heap.size := (Array.getElem?_eq_some_iff.1 hg).1
  have hH : Go.Sort.Holds (Value.int .i64) w g 0 l.toArray := holds_of_blockI hg (by simpa [ints] using h4)
  refine (AnyM.slices_Sort_int srt_l5 g 0 cap l w hH hlt (by omega)).mono ?_
  rintro e w' ⟨rfl, n, os, rfl⟩
  refine ⟨rfl, ?_, mark_below h0 (grownBy_sortedI _) hb⟩
  unfold Own
  rw [sortL_len]
  exact ownsRow_sortedI (sortL_len l) hbg hg h1 h2 h3
theorem contains_any (v : Value) (l : List Int) (x : Int) (w : World) (hr : Rd w w.heap.size .i64 v l) (hn : l.length ≤ 1073741824) :
    Calls Try.prog 89 #[v, .int .i64 x] w fun e w' => e = .returned (.bool (decide (x ∈ l))) ∧ w = w' := by
  obtain ⟨ao, cap, rfl, _, _, hrd⟩ := hr
  have hI : ∀ w' : World, w' = w → Calls Try.prog 101 #[.slice ao l.length cap, .int .i64 x] w' fun e w'' => ∃ i : Int, e = .returned (.int .i64 i) ∧ decide (0 ≤ i) = decide (x ∈ l) ∧ -1 ≤ i ∧ i ≤ l.length ∧ w' = w'' := by
    rintro w' rfl
    obtain ⟨V, hV⟩ : ∃ V, V = decide (x ∈ l) := ⟨_, rfl⟩
    rw [← hV]
    obtain ⟨n, hN⟩ : ∃ n, n = l.length := ⟨_, rfl⟩
    rw [← hN] at hn ⊢
    replace hN := hid hN
    replace hrd := hid hrd
    replace hV := hid hV
    go_enter Try.func101, Try.ntmps101
    go_wp2
    go_loopw [8] (fun i wr => ∃ k : Nat, k ≤ n ∧ i = .int .i64 k ∧ Hid (∀ j (hj : j < l.length), j < k → l[j] ≠ x) ∧ wr = w') (fun i _ => n - (intOf i).toNat)
    case atStart => exact ⟨0, by omega, rfl, (fun j _ h => by omega), rfl⟩
    case round =>
      obtain ⟨k, hk, rfl, hall, rfl⟩ := hrel
      by_cases hlt : k < n
      · have hj : k < l.length := by rw [← hN.out]; omega
        obtain ⟨b, off, rfl, hB, hcell⟩ := hrd.out (by omega)
        have hcm := hcell k hj
        have hnext : l[k] ≠ x → ∀ j (hj : j < l.length), j < k + 1 → l[j] ≠ x := fun h j h1 h2 => by
          rcases Nat.lt_or_eq_of_le (Nat.le_of_lt_succ h2) with h3 | h3
          · exact hall.out j h1 h3
          · subst h3; exact h
        have hyes : l[k] = x → decide (x ∈ l) = true := fun h => decide_eq_true (by rw [← h]; exact List.getElem_mem hj)
        obtain ⟨y, hy⟩ : ∃ y, y = l[k] := ⟨_, rfl⟩
        rw [← hy] at hcm hnext hyes
        by_cases hxy : x = y
        · have hf := hid (hyes hxy.symm)
          subst hxy
          have e1 : (x == x) = true := by simp
          clear hcell hy hnext hyes hall
          go_wp2
          go_ret
          exact ⟨_, rfl, by rw [hV.out, hf.out]; exact decide_eq_true (by omega), by omega, by omega, rfl⟩
        · have hf := hid (hnext (fun h => hxy h.symm))
          have e1 : (x == y) = false := by rw [beq_eq_false_iff_ne]; exact hxy
          clear hcell hy hnext hyes hall hxy
          go_wp2
          go_roundw
          case rel => exact ⟨k + 1, by omega, by go_num, hf, by trivial⟩
          case measure => simp [intOf]; omega
      · have hf : Hid (decide (x ∈ l) = false) := hid (decide_eq_false fun hm => by
          obtain ⟨j, hj, h⟩ := List.mem_iff_getElem.1 hm
          exact hall.out j hj (by have := hN.out; omega) h)
        go_wp2
        go_ret
        exact ⟨_, rfl, by rw [hV.out, hf.out]; rfl, by omega, by omega, rfl⟩
  obtain ⟨V, hV⟩ : ∃ V, V = decide (x ∈ l) := ⟨_, rfl⟩
  rw [← hV] at hI ⊢
  clear hV hrd
  go_enter Try.func89, Try.ntmps89
  go_wp2_with fail
  refine (hI _ rfl).mono ?_
  rintro e w' ⟨i, rfl, hi, _, _, rfl⟩
  go_wp2
  go_ret
  exact ⟨by rw [← hi]; rfl, rfl⟩
end Go.Proofs.Ytffbamjfpegndaa
