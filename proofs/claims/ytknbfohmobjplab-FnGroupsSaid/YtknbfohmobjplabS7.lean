/- What ListOf computes, the program's and the reference's. Conditions: at most 2^20 orders. -/
import Derived.Test.YtknbfohmobjplabS3
import Derived.Test.YtknbfohmobjplabMKt
namespace Go.Proofs.Ytknbfohmobjplab
open Go.RowKit

def lstE (l : List Int) (a : Int) : List Int := if isSet l a then memL a.toNat else []
theorem lstE_len (l : List Int) (a : Int) : (lstE l a).length ≤ 24 := by
  unfold lstE
  split
  · exact memL_len _
  · simp
theorem iListOf_any (v : Value) (l : List Int) (a : Int) (w : World) (hr : Rd w w.heap.size .i64 v l) (hn : l.length ≤ 1048576) (ha : -9223372036854775808 ≤ a ∧ a ≤ 9223372036854775807) :
    Calls Try.prog 41 #[.agg #[v], .int .i64 a] w fun e w' => ∃ ao cap, e = .returned (.slice ao (lstE l a).length cap) ∧ Own w' w.heap.size 3 .i64 (.slice ao (lstE l a).length cap) (lstE l a) ∧ Below w.heap.size w w' := by
  cases hE : isSet l a
  · have hA : lstE l a = [] := by unfold lstE; rw [hE]; rfl
    rw [hA]
    have hH := fun w h1 => iIsSet_at (v := v) (w := w) hE h1 hn ha
    clear hE hA ha
    go_enter Try.func41, Try.ntmps41
    go_wp2_with fail
    refine (hH _ ((hr.alloc (Nat.le_refl _) _).more (by go_size))).mono ?_
    rintro e w1 ⟨rfl, hb1⟩
    have D1 : Below w.heap.size w w1 := by refine Below.trans ?_ (hb1.mono ?_) <;> go_grown
    go_wp2
    go_ret
    exact ⟨_, _, rfl, Own.empty _ _ _ _ D1.size, D1.trans ((below_alloc _ _).mono D1.size)⟩
  · obtain ⟨A, rfl, hA⟩ := isSet.nat hE
    have hc : lstE l A = memL A := by unfold lstE; rw [hE]; rfl
    rw [hc]
    have hH := fun w h1 => iIsSet_at (v := v) (w := w) hE h1 hn ha
    have hD := fun w => imembers_any A hA w
    obtain ⟨M, hM⟩ : ∃ M, M = memL A := ⟨_, rfl⟩
    rw [← hM] at hD ⊢
    clear hE hc ha hA hM
    go_enter Try.func41, Try.ntmps41
    go_wp2_with fail
    refine (hH _ ((hr.alloc (Nat.le_refl _) _).more (by go_size))).mono ?_
    rintro e w1 ⟨rfl, hb1⟩
    have D1 : Below w.heap.size w w1 := by refine Below.trans ?_ (hb1.mono ?_) <;> go_grown
    go_wp2_with fail
    refine (hD _).mono ?_
    rintro e w2 ⟨ao2, cap2, rfl, ho2, hb2⟩
    go_wp2
    go_ret
    exact ⟨_, _, rfl, ho2.lower D1.size, bgo D1 hb2⟩
theorem sListOf_any (v : Value) (l : List Int) (a : Int) (w : World) (hr : Rd w w.heap.size .i64 v l) (hn : l.length ≤ 1048576) (ha : -9223372036854775808 ≤ a ∧ a ≤ 9223372036854775807) :
    Calls Try.prog 46 #[.agg #[v], .int .i64 a] w fun e w' => ∃ ao cap, e = .returned (.slice ao (lstE l a).length cap) ∧ Own w' w.heap.size 3 .i64 (.slice ao (lstE l a).length cap) (lstE l a) ∧ Below w.heap.size w w' := by
  cases hE : isSet l a
  · have hA : lstE l a = [] := by unfold lstE; rw [hE]; rfl
    rw [hA]
    have hH := fun w h1 => sIsSet_at (v := v) (w := w) hE h1 hn ha
    clear hE hA ha
    go_enter Try.func46, Try.ntmps46
    go_wp2_with fail
    refine (hH _ ((hr.alloc (Nat.le_refl _) _).more (by go_size))).mono ?_
    rintro e w1 ⟨rfl, hb1⟩
    have D1 : Below w.heap.size w w1 := by refine Below.trans ?_ (hb1.mono ?_) <;> go_grown
    go_wp2
    go_ret
    exact ⟨_, _, rfl, Own.empty _ _ _ _ D1.size, D1.trans ((below_alloc _ _).mono D1.size)⟩
  · obtain ⟨A, rfl, hA⟩ := isSet.nat hE
    have hc : lstE l A = memL A := by unfold lstE; rw [hE]; rfl
    rw [hc]
    have hH := fun w h1 => sIsSet_at (v := v) (w := w) hE h1 hn ha
    have hD := fun w => sl3List_any A hA w
    obtain ⟨M, hM⟩ : ∃ M, M = memL A := ⟨_, rfl⟩
    rw [← hM] at hD ⊢
    clear hE hc ha hA hM
    go_enter Try.func46, Try.ntmps46
    go_wp2_with fail
    refine (hH _ ((hr.alloc (Nat.le_refl _) _).more (by go_size))).mono ?_
    rintro e w1 ⟨rfl, hb1⟩
    have D1 : Below w.heap.size w w1 := by refine Below.trans ?_ (hb1.mono ?_) <;> go_grown
    go_wp2_with fail
    refine (hD _).mono ?_
    rintro e w2 ⟨ao2, cap2, rfl, ho2, hb2⟩
    go_wp2
    go_ret
    exact ⟨_, _, rfl, ho2.lower D1.size, bgo D1 hb2⟩
end Go.Proofs.Ytknbfohmobjplab
