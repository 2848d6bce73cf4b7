/- Parts of the walk in one text: S9, SA, SB. Conditions: each theorem's own. -/
import Derived.Test.YtknbfohmobjplaaS5
import Derived.Test.YtknbfohmobjplaaMPl
namespace Go.Proofs.Ytknbfohmobjplaa
set_option linter.unusedVariables false
set_option linter.unusedSimpArgs false
open Go.RowKit

/-- one more set: the numbers of the walk -/
theorem orU_round {F : Int → Nat} {M : List Int} {k : Nat} (hk : k < M.length) (hF : ∀ x ∈ M, F x < 16777216) :
    ∃ (S A B : Nat), S = F M[k] ∧ S < 16777216 ∧ A = orU F (M.take k) ∧ A < 16777216 ∧ B = orU F (M.take (k + 1)) ∧ B < 16777216 ∧ bits .or .i64 (A : Int) (S : Int) = (B : Int) := by
  have hA : orU F (M.take k) < 16777216 := orU_lt fun x hx => hF x (List.mem_of_mem_take hx)
  have hB : orU F (M.take (k + 1)) < 16777216 := orU_lt fun x hx => hF x (List.mem_of_mem_take hx)
  have hS := hF _ (List.getElem_mem hk)
  refine ⟨_, _, _, rfl, hS, rfl, hA, rfl, hB, ?_⟩
  rw [or64 _ _ (by omega) (by omega), take_succ_get M k hk, orU_snoc]
theorem isum_any (v : Value) (l : List Int) (A B : Nat) (w : World) (hr : Rd w w.heap.size .i64 v l) (hg : isGroup l = true) (hA : A < 16777216) (hB : B < 16777216) :
    Calls Try.prog 56 #[.agg #[v], .int .i64 (A : Int), .int .i64 (B : Int)] w fun e w' => e = .returned (.int .i64 (sumN l A B : Nat)) ∧ Below w.heap.size w w' := by
  have hM := fun w => imembers_any A hA w
  have hML := memL_len A
  have hMb := hid (fun x => @memL_bd A x)
  show Calls _ _ _ _ fun e w' => e = .returned (.int .i64 (orU (shN l B) (memL A) : Nat)) ∧ Below w.heap.size w w'
  have hF := hid (fun x (_ : x ∈ memL A) => shN_lt hg B x)
  have hD := fun y w hr hy => ishift_any v l B y w hr hg hB hy
  obtain ⟨F, hFF⟩ : ∃ F, F = shN l B := ⟨_, rfl⟩
  have hD2 : ∀ (y : Int) (w : World), Rd w w.heap.size .i64 v l → 0 ≤ y ∧ y < 24 → Calls Try.prog 49 #[.agg #[v], .int .i64 (B : Int), .int .i64 y] w fun e w' => e = .returned (.int .i64 (F y : Nat)) ∧ Below w.heap.size w w' := by rw [hFF]; exact hD
  rw [← hFF] at hF ⊢
  obtain ⟨M, hMM⟩ : ∃ M, M = memL A := ⟨_, rfl⟩
  rw [← hMM] at hM hML hMb hF ⊢
  clear hMM hFF hD hA
  replace hB := hid hB
  go_enter Try.func56, Try.ntmps56
  go_wp2_with fail
  refine (hM _).mono ?_
  rintro e w1 ⟨ao1, cap1, rfl, ho1, hb1⟩
  obtain ⟨hc1, hf1⟩ := bcell hb1
  have D1 : Below w.heap.size w w1 := by refine Below.trans ?_ (hb1.mono ?_) <;> go_grown
  have hz1 : w.heap.size < w1.heap.size := by have := hb1.size; simp at this; omega
  have c1 : w1.cell? ⟨w.heap.size, 0, none⟩ = some v := by rw [hc1 _ _ (by go_size)]; simp [go_sem]
  have hrM := Rd.of_own ho1
  clear hc1 hf1 hb1 ho1
  go_wp2
  go_loopw [7, 13] (fun o i wr => ∃ k : Nat, k ≤ M.length ∧ i = .int .i64 k ∧ o = .int .i64 (orU F (M.take k) : Nat) ∧ Below w.heap.size w wr ∧ Below w1.heap.size w1 wr) (fun _ i _ => M.length - (intOf i).toNat)
  case atStart => exact ⟨0, by omega, rfl, rfl, D1, Below.refl _ _⟩
  case round =>
    obtain ⟨k, hk, rfl, rfl, hb, hbm⟩ := hrel
    have hz : w.heap.size < wr.heap.size := by have := hbm.size; omega
    have hc := (hbm.cell hz1).trans c1
    by_cases hlt : k < M.length
    · obtain ⟨b, off, rfl, hBk, hcell⟩ := hrM.cells (by omega)
      have hcm := (hbm.cell (p := ⟨b, off + k, none⟩) hBk).trans (hcell k hlt)
      have hxb := hMb.out _ (List.getElem_mem hlt)
      obtain ⟨S, A1, B1, hS, hS2, hA1, hA2, hB1, hB2, hor⟩ := orU_round hlt hF.out
      rw [← hA1]
      obtain ⟨x, hx⟩ : ∃ x, x = M[k] := ⟨_, rfl⟩
      rw [← hx] at hcm hxb hS
      replace hS2 := hid hS2
      replace hA2 := hid hA2
      replace hB2 := hid hB2
      replace hB1 := hid hB1
      clear hx hA1 hcell
      go_wp2_with fail
      refine (hD2 x _ ((hr.below hb).more (by go_size)) hxb).mono ?_
      rintro e w2 ⟨rfl, hb2⟩
      rw [← hS]
      go_wp2
      go_roundw
      case rel => exact ⟨k + 1, by omega, by go_num, by rw [← hB1.out, ← hor, hS], bgo hb hb2, bgo hbm hb2⟩
      case measure => simp [intOf]; omega
    · have e : M.take k = M := List.take_of_length_le (by omega)
      rw [e]
      go_wp2
      go_ret
      exact ⟨rfl, hb⟩
theorem sl4Sum_any (v : Value) (l : List Int) (A B : Nat) (w : World) (hr : Rd w w.heap.size .i64 v l) (hg : isGroup l = true) (hA : A < 16777216) (hB : B < 16777216) :
    Calls Try.prog 51 #[.agg #[v], .int .i64 (A : Int), .int .i64 (B : Int)] w fun e w' => e = .returned (.int .i64 (sumN l A B : Nat)) ∧ Below w.heap.size w w' := by
  rw [← sumN_swap hg hA hB]
  have hM := fun w => sl3List_any B hB w
  have hML := memL_len B
  have hMb := hid (fun x => @memL_bd B x)
  have hF := hid (fun x (_ : x ∈ memL B) => shN_lt hg A x)
  have hD := fun y w hr hy => sl3Shift_same v l A y w hr hg hA hy
  obtain ⟨F, hFF⟩ : ∃ F, F = shN l A := ⟨_, rfl⟩
  have hD2 : ∀ (y : Int) (w : World), Rd w w.heap.size .i64 v l → 0 ≤ y ∧ y < 24 → Calls Try.prog 69 #[.agg #[v], .int .i64 (A : Int), .int .i64 y] w fun e w' => e = .returned (.int .i64 (F y : Nat)) ∧ Below w.heap.size w w' := by rw [hFF]; exact hD
  rw [← hFF] at hF ⊢
  obtain ⟨M, hMM⟩ : ∃ M, M = memL B := ⟨_, rfl⟩
  rw [← hMM] at hM hML hMb hF ⊢
  clear hMM hFF hD hB
  replace hA := hid hA
  go_enter Try.func51, Try.ntmps51
  go_wp2_with fail
  refine (hM _).mono ?_
  rintro e w1 ⟨ao1, cap1, rfl, ho1, hb1⟩
  obtain ⟨hc1, hf1⟩ := bcell hb1
  have D1 : Below w.heap.size w w1 := by refine Below.trans ?_ (hb1.mono ?_) <;> go_grown
  have hz1 : w.heap.size < w1.heap.size := by have := hb1.size; simp at this; omega
  have c1 : w1.cell? ⟨w.heap.size, 0, none⟩ = some v := by rw [hc1 _ _ (by go_size)]; simp [go_sem]
  have hrM := Rd.of_own ho1
  clear hc1 hf1 hb1 ho1
  go_wp2
  go_loopw [7, 9] (fun o i wr => ∃ k : Nat, k ≤ M.length ∧ i = .int .i64 k ∧ o = .int .i64 (orU F (M.take k) : Nat) ∧ Below w.heap.size w wr ∧ Below w1.heap.size w1 wr) (fun _ i _ => M.length - (intOf i).toNat)
  case atStart => exact ⟨0, by omega, rfl, rfl, D1, Below.refl _ _⟩
  case round =>
    obtain ⟨k, hk, rfl, rfl, hb, hbm⟩ := hrel
    have hz : w.heap.size < wr.heap.size := by have := hbm.size; omega
    have hc := (hbm.cell hz1).trans c1
    by_cases hlt : k < M.length
    · obtain ⟨b, off, rfl, hBk, hcell⟩ := hrM.cells (by omega)
      have hcm := (hbm.cell (p := ⟨b, off + k, none⟩) hBk).trans (hcell k hlt)
      have hxb := hMb.out _ (List.getElem_mem hlt)
      obtain ⟨S, A1, B1, hS, hS2, hA1, hA2, hB1, hB2, hor⟩ := orU_round hlt hF.out
      rw [← hA1]
      obtain ⟨x, hx⟩ : ∃ x, x = M[k] := ⟨_, rfl⟩
      rw [← hx] at hcm hxb hS
      replace hS2 := hid hS2
      replace hA2 := hid hA2
      replace hB2 := hid hB2
      replace hB1 := hid hB1
      clear hx hA1 hcell
      have hBr : b < wr.heap.size := Nat.lt_of_lt_of_le hBk hbm.size
      go_wp2_with fail
      go_region_held3 (fun w' => w'.cell? ⟨w.heap.size, 0, none⟩ = some v ∧ w'.cell? ⟨b, off + k, none⟩ = some (.int .i64 x)) (first | go_keep | exact ⟨(hb2.cell hz).trans hc, (hb2.cell (p := ⟨b, off + k, none⟩) hBr).trans hcm⟩) ((go_at_call 69; refine (hD2 x _ ((hr.below (by go_grown)).more (by go_size)) hxb).mono ?_; rintro e w2 ⟨rfl, hb2⟩; rw [← hS]; replace hb2 : Below wr.heap.size wr w2 := (Below.refl wr.heap.size wr).drew.trans hb2))
      go_wp2
      go_roundw
      case rel => exact ⟨k + 1, by omega, by go_num, by rw [← hB1.out, ← hor, hS], bgo hb hb2, bgo hbm hb2⟩
      case measure => simp [intOf]; omega
    · have e : M.take k = M := List.take_of_length_le (by omega)
      rw [e]
      go_wp2
      go_ret
      exact ⟨rfl, hb⟩
end Go.Proofs.Ytknbfohmobjplaa

namespace Go.Proofs.Ytknbfohmobjplaa
set_option linter.unusedVariables false
set_option linter.unusedSimpArgs false
open Go.RowKit

def areS (l m : List Int) : Bool := isGroup l && m.all (isSet l)
theorem iIsGroup_at {v : Value} {l : List Int} {b : Bool} {w : World} (hE : isGroup l = b) (hr : Rd w w.heap.size .i64 v l) (hn : l.length ≤ 1048576) :
    Calls Try.prog 72 #[.agg #[v]] w fun e w' => e = .returned (.bool b) ∧ Below w.heap.size w w' := by
  rw [← hE]; exact iIsGroup_any v l w hr (by omega)
theorem iareSets_any (v u : Value) (l m : List Int) (w : World) (hr : Rd w w.heap.size .i64 v l) (hs : Rd w w.heap.size .i64 u m) (hn : l.length ≤ 1048576) (hm : m.length ≤ 1048576) (hb : ∀ x ∈ m, -9223372036854775808 ≤ x ∧ x ≤ 9223372036854775807) :
    Calls Try.prog 47 #[.agg #[v], u] w fun e w' => e = .returned (.bool (areS l m)) ∧ Below w.heap.size w w' := by
  obtain ⟨bo, dap, rfl, _, _, hsd⟩ := hs
  obtain ⟨n, hN⟩ : ∃ n, n = m.length := ⟨_, rfl⟩
  rw [← hN] at hm ⊢
  replace hN := hid hN
  replace hsd := hid hsd
  replace hb := hid hb
  obtain ⟨V, hV⟩ : ∃ V, V = areS l m := ⟨_, rfl⟩
  rw [← hV]
  replace hV := hid hV
  go_enter Try.func47, Try.ntmps47
  go_wp2
  go_loopw [9] (fun i wr => ∃ k : Nat, k ≤ n ∧ i = .int .i64 k ∧ Hid ((m.take k).all (isSet l) = true) ∧ Below w.heap.size w wr ∧ w.heap.size < wr.heap.size ∧ wr.cell? ⟨w.heap.size, 0, none⟩ = some v) (fun i _ => n - (intOf i).toNat)
  case atStart => exact ⟨0, by omega, rfl, rfl, below_alloc _ _, by simp, by simp [go_sem]⟩
  case round =>
    obtain ⟨k, hk, rfl, hall, hb1, hz, hc⟩ := hrel
    by_cases hlt : k < n
    · have hj : k < m.length := by rw [← hN.out]; omega
      obtain ⟨b, off, rfl, hB, hcell⟩ := hsd.out (by omega)
      have hcm := (hb1.cell (p := ⟨b, off + k, none⟩) hB).trans (hcell k hj)
      have hxb := hb.out _ (List.getElem_mem hj)
      have hnext : isSet l m[k] = true → (m.take (k + 1)).all (isSet l) = true := fun h => by rw [take_succ_get m k hj, List.all_append, hall.out, List.all_cons, h]; rfl
      have hbad : isSet l m[k] = false → areS l m = false := fun h => by
        unfold areS
        cases ha : m.all (isSet l)
        · exact Bool.and_false _
        · rw [List.all_eq_true.1 ha _ (List.getElem_mem hj)] at h; cases h
      obtain ⟨x, hx⟩ : ∃ x, x = m[k] := ⟨_, rfl⟩
      rw [← hx] at hcm hxb hnext hbad
      replace hxb := hid hxb
      replace hnext := hid hnext
      replace hbad := hid hbad
      clear hcell hx hall
      cases hE : isSet l x
      · have hf := hid (hbad.out hE)
        replace hE := hid hE
        go_wp2_with fail
        refine (iIsSet_at hE.out ((hr.below hb1).more (by go_size)) hn hxb.out).mono ?_
        rintro e w2 ⟨rfl, hb2⟩
        go_wp2
        go_ret
        exact ⟨by rw [hV.out, hf.out]; rfl, bgo hb1 hb2⟩
      · have hf := hid (hnext.out hE)
        replace hE := hid hE
        go_wp2_with fail
        refine (iIsSet_at hE.out ((hr.below hb1).more (by go_size)) hn hxb.out).mono ?_
        rintro e w2 ⟨rfl, hb2⟩
        go_wp2
        go_roundw
        case rel => exact ⟨k + 1, by omega, by go_num, hf.out, bgo hb1 hb2, by have := hb2.size; omega, (hb2.cell hz).trans hc⟩
        case measure => simp [intOf]; omega
    · have hfin : areS l m = isGroup l := by
        have h := hall.out
        rw [List.take_of_length_le (by rw [← hN.out]; omega)] at h
        unfold areS
        rw [h, Bool.and_true]
      have hI := fun w h1 => iIsGroup_any v l w h1 (by omega)
      rw [← hfin, ← hV.out] at hI
      clear hfin
      go_wp2_with fail
      refine (hI _ ((hr.below hb1).more (by go_size))).mono ?_
      rintro e w2 ⟨rfl, hb2⟩
      go_wp2
      go_ret
      exact ⟨rfl, bgo hb1 hb2⟩
end Go.Proofs.Ytknbfohmobjplaa

namespace Go.Proofs.Ytknbfohmobjplaa
set_option linter.unusedVariables false
set_option linter.unusedSimpArgs false
open Go.RowKit

/-- a number made of two sets, -1 where one of them is none -/
def two (E : List Int → Nat → Nat → Nat) (l : List Int) (a b : Int) : Int := if isSet l a && isSet l b then (E l a.toNat b.toNat : Nat) else -1
theorem two_no {E : List Int → Nat → Nat → Nat} {l : List Int} {a b : Int} (h : (isSet l a && isSet l b) = false) : two E l a b = -1 := by unfold two; rw [h]; rfl
theorem two_yes {E : List Int → Nat → Nat → Nat} {l : List Int} {A B : Nat} (h1 : isSet l (A : Int) = true) (h2 : isSet l (B : Int) = true) : two E l A B = (E l A B : Nat) := by unfold two; rw [h1, h2]; rfl
theorem areS2 (l : List Int) (a b : Int) : areS l [a, b] = (isSet l a && isSet l b) := by
  unfold areS
  rw [List.all_cons, List.all_cons, List.all_nil, Bool.and_true]
  cases h : isSet l a
  · rw [Bool.false_and, Bool.and_false]
  · rw [isSet.group h, Bool.true_and]
def difN (l : List Int) (A B : Nat) : Nat := sumN l A (negN l B)
theorem idifference_any (v : Value) (l : List Int) (A B : Nat) (w : World) (hr : Rd w w.heap.size .i64 v l) (hg : isGroup l = true) (hA : A < 16777216) (hB : B < 16777216) :
    Calls Try.prog 52 #[.agg #[v], .int .i64 (A : Int), .int .i64 (B : Int)] w fun e w' => e = .returned (.int .i64 (difN l A B : Nat)) ∧ Below w.heap.size w w' := by
  have hO := fun w hr => iopposite_any v l B w hr hg hB
  have hS := fun w hr => isum_any v l A (negN l B) w hr hg hA (negN_lt hg B)
  show Calls _ _ _ _ fun e w' => e = .returned (.int .i64 (sumN l A (negN l B) : Nat)) ∧ Below w.heap.size w w'
  change ∀ (w : World), Rd w w.heap.size .i64 v l → Calls Try.prog 58 #[.agg #[v], .int .i64 (B : Int)] w fun e w' => e = .returned (.int .i64 (negN l B : Nat)) ∧ Below w.heap.size w w' at hO
  obtain ⟨G, hG⟩ : ∃ G, G = sumN l A (negN l B) := ⟨_, rfl⟩
  rw [← hG] at hS ⊢
  obtain ⟨N, hN⟩ : ∃ N, N = negN l B := ⟨_, rfl⟩
  rw [← hN] at hS hO
  clear hG hN hA hB hg
  go_enter Try.func52, Try.ntmps52
  go_wp2_with fail
  obtain ⟨w0, hw0⟩ : ∃ w0, w0 = w.alloc (.cells #[v] 26) := ⟨_, rfl⟩
  have hz0 : w.heap.size < w0.heap.size := by rw [hw0]; simp
  have hc0 : w0.cell? ⟨w.heap.size, 0, none⟩ = some v := by rw [hw0]; simp [go_sem]
  have D0 : Below w.heap.size w w0 := by rw [hw0]; exact below_alloc _ _
  rw [← hw0]
  clear hw0
  go_region_held3 (fun w' => w'.cell? ⟨w.heap.size, 0, none⟩ = some v ) (first | go_keep | exact (hb1.cell hz0).trans hc0 | exact (hb2.cell (Nat.lt_of_lt_of_le hz0 hb1.size)).trans ((hb1.cell hz0).trans hc0)) (first | (go_at_call 58; refine (hO _ ((hr.below (by go_grown)).more (by go_size))).mono ?_; rintro e w1 ⟨rfl, hb1⟩; replace hb1 : Below w0.heap.size w0 w1 := (Below.refl w0.heap.size w0).drew.trans hb1) | (go_at_call 56; refine (hS _ ((hr.below (bgo D0 hb1)).more (bgo D0 hb1).size)).mono ?_; rintro e w2 ⟨rfl, hb2⟩))
  go_wp2
  go_ret
  exact ⟨rfl, bgo (bgo D0 hb1) hb2⟩
theorem iareSets_at {v u : Value} {l : List Int} {a b : Int} {t : Bool} {w : World} (hE : areS l [a, b] = t) (hr : Rd w w.heap.size .i64 v l) (hs : Rd w w.heap.size .i64 u [a, b]) (hn : l.length ≤ 1048576) (ha : -9223372036854775808 ≤ a ∧ a ≤ 9223372036854775807) (hb : -9223372036854775808 ≤ b ∧ b ≤ 9223372036854775807) :
    Calls Try.prog 47 #[.agg #[v], u] w fun e w' => e = .returned (.bool t) ∧ Below w.heap.size w w' := by
  rw [← hE]
  refine iareSets_any v u l _ w hr hs hn (by simp) fun x hx => ?_
  rcases List.mem_cons.1 hx with rfl | hx
  · exact ha
  · rw [List.mem_singleton] at hx
    rw [hx]; exact hb
theorem Rd.pair {w : World} {n : Nat} (hn : n = w.heap.size) (e : TypeId) (x y : Int) : Rd (w.alloc (.cells #[.int .i64 x, .int .i64 y] e)) (w.alloc (.cells #[.int .i64 x, .int .i64 y] e)).heap.size .i64 (.slice (some ⟨n, 0, none⟩) 2 2) [x, y] := by
  subst hn
  refine ⟨_, 2, rfl, Nat.le_refl _, by decide, fun _ => ⟨w.heap.size, 0, rfl, by simp, fun i hi => ?_⟩⟩
  match i, hi with
  | 0, _ => exact cell2 w .i64 e x y 0 x rfl
  | 1, _ => exact cell2 w .i64 e x y 1 y rfl
theorem iSumOfSets_any (v : Value) (l : List Int) (a b : Int) (w : World) (hr : Rd w w.heap.size .i64 v l) (hn : l.length ≤ 1048576) (ha : -9223372036854775808 ≤ a ∧ a ≤ 9223372036854775807) (hb : -9223372036854775808 ≤ b ∧ b ≤ 9223372036854775807) :
    Calls Try.prog 12 #[.agg #[v], .int .i64 a, .int .i64 b] w fun e w' => e = .returned (.int .i64 (two sumN l a b)) ∧ Below w.heap.size w w' := by
  cases hE : areS l [a, b]
  · rw [two_no (by rw [← areS2]; exact hE)]
    replace ha := hid ha
    replace hb := hid hb
    replace hE := hid hE
    go_enter Try.func12, Try.ntmps12
    go_wp2_with fail
    refine (iareSets_at hE.out (((hr.alloc (Nat.le_refl _) _).alloc (by go_size) _).more (by go_size)) (Rd.pair (by simp) _ _ _) hn ha.out hb.out).mono ?_
    rintro e w1 ⟨rfl, hb1⟩
    have D1 : Below w.heap.size w w1 := by refine Below.trans ?_ (hb1.mono ?_) <;> go_grown
    go_wp2
    go_ret
    exact ⟨rfl, D1⟩
  · have h2 := areS2 l a b
    rw [hE] at h2
    have h3 := (Bool.and_eq_true _ _).mp h2.symm
    obtain ⟨A, rfl, hA⟩ := isSet.nat h3.1
    obtain ⟨B, rfl, hB⟩ := isSet.nat h3.2
    rw [two_yes h3.1 h3.2]
    have hg := isSet.group h3.1
    have hD := fun w hr => isum_any v l A B w hr hg hA hB
    obtain ⟨G, hG⟩ : ∃ G, G = sumN l A B := ⟨_, rfl⟩
    rw [← hG] at hD ⊢
    replace ha := hid ha
    replace hb := hid hb
    replace hE := hid hE
    clear hG h2 h3 hA hB hg
    go_enter Try.func12, Try.ntmps12
    go_wp2_with fail
    refine (iareSets_at hE.out (((hr.alloc (Nat.le_refl _) _).alloc (by go_size) _).more (by go_size)) (Rd.pair (by simp) _ _ _) hn ha.out hb.out).mono ?_
    rintro e w1 ⟨rfl, hb1⟩
    obtain ⟨hc1, hf1⟩ := bcell hb1
    have D1 : Below w.heap.size w w1 := by refine Below.trans ?_ (hb1.mono ?_) <;> go_grown
    have hz1 : w.heap.size < w1.heap.size := by have := hb1.size; simp at this; omega
    go_wp2_with fail
    refine (hD _ ((hr.below D1).more (by go_size))).mono ?_
    rintro e w2 ⟨rfl, hb2⟩
    go_wp2
    go_ret
    exact ⟨rfl, bgo D1 hb2⟩
theorem iDifferenceOfSets_any (v : Value) (l : List Int) (a b : Int) (w : World) (hr : Rd w w.heap.size .i64 v l) (hn : l.length ≤ 1048576) (ha : -9223372036854775808 ≤ a ∧ a ≤ 9223372036854775807) (hb : -9223372036854775808 ≤ b ∧ b ≤ 9223372036854775807) :
    Calls Try.prog 9 #[.agg #[v], .int .i64 a, .int .i64 b] w fun e w' => e = .returned (.int .i64 (two difN l a b)) ∧ Below w.heap.size w w' := by
  cases hE : areS l [a, b]
  · rw [two_no (by rw [← areS2]; exact hE)]
    replace ha := hid ha
    replace hb := hid hb
    replace hE := hid hE
    go_enter Try.func9, Try.ntmps9
    go_wp2_with fail
    refine (iareSets_at hE.out (((hr.alloc (Nat.le_refl _) _).alloc (by go_size) _).more (by go_size)) (Rd.pair (by simp) _ _ _) hn ha.out hb.out).mono ?_
    rintro e w1 ⟨rfl, hb1⟩
    have D1 : Below w.heap.size w w1 := by refine Below.trans ?_ (hb1.mono ?_) <;> go_grown
    go_wp2
    go_ret
    exact ⟨rfl, D1⟩
  · have h2 := areS2 l a b
    rw [hE] at h2
    have h3 := (Bool.and_eq_true _ _).mp h2.symm
    obtain ⟨A, rfl, hA⟩ := isSet.nat h3.1
    obtain ⟨B, rfl, hB⟩ := isSet.nat h3.2
    rw [two_yes h3.1 h3.2]
    have hg := isSet.group h3.1
    have hD := fun w hr => idifference_any v l A B w hr hg hA hB
    obtain ⟨G, hG⟩ : ∃ G, G = difN l A B := ⟨_, rfl⟩
    rw [← hG] at hD ⊢
    replace ha := hid ha
    replace hb := hid hb
    replace hE := hid hE
    clear hG h2 h3 hA hB hg
    go_enter Try.func9, Try.ntmps9
    go_wp2_with fail
    refine (iareSets_at hE.out (((hr.alloc (Nat.le_refl _) _).alloc (by go_size) _).more (by go_size)) (Rd.pair (by simp) _ _ _) hn ha.out hb.out).mono ?_
    rintro e w1 ⟨rfl, hb1⟩
    obtain ⟨hc1, hf1⟩ := bcell hb1
    have D1 : Below w.heap.size w w1 := by refine Below.trans ?_ (hb1.mono ?_) <;> go_grown
    have hz1 : w.heap.size < w1.heap.size := by have := hb1.size; simp at this; omega
    go_wp2_with fail
    refine (hD _ ((hr.below D1).more (by go_size))).mono ?_
    rintro e w2 ⟨rfl, hb2⟩
    go_wp2
    go_ret
    exact ⟨rfl, bgo D1 hb2⟩
theorem sSumOfSets_any (v : Value) (l : List Int) (a b : Int) (w : World) (hr : Rd w w.heap.size .i64 v l) (hn : l.length ≤ 1048576) (ha : -9223372036854775808 ≤ a ∧ a ≤ 9223372036854775807) (hb : -9223372036854775808 ≤ b ∧ b ≤ 9223372036854775807) :
    Calls Try.prog 8 #[.agg #[v], .int .i64 a, .int .i64 b] w fun e w' => e = .returned (.int .i64 (two sumN l a b)) ∧ Below w.heap.size w w' := by
  cases hE : isSet l a
  · rw [two_no (by rw [hE]; rfl)]
    replace ha := hid ha
    replace hE := hid hE
    go_enter Try.func8, Try.ntmps8
    go_wp2_with fail
    refine (sIsSet_at hE.out ((hr.alloc (Nat.le_refl _) _).more (by go_size)) hn ha.out).mono ?_
    rintro e w1 ⟨rfl, hb1⟩
    have D1 : Below w.heap.size w w1 := by refine Below.trans ?_ (hb1.mono ?_) <;> go_grown
    go_wp2
    go_ret
    exact ⟨rfl, D1⟩
  · cases hF : isSet l b
    · rw [two_no (by rw [hE, hF]; rfl)]
      replace ha := hid ha
      replace hb := hid hb
      replace hE := hid hE
      replace hF := hid hF
      go_enter Try.func8, Try.ntmps8
      go_wp2_with fail
      refine (sIsSet_at hE.out ((hr.alloc (Nat.le_refl _) _).more (by go_size)) hn ha.out).mono ?_
      rintro e w1 ⟨rfl, hb1⟩
      obtain ⟨hc1, hf1⟩ := bcell hb1
      have D1 : Below w.heap.size w w1 := by refine Below.trans ?_ (hb1.mono ?_) <;> go_grown
      have hz1 : w.heap.size < w1.heap.size := by have := hb1.size; simp at this; omega
      go_wp2_with fail
      refine (sIsSet_at hF.out ((hr.below D1).more (by go_size)) hn hb.out).mono ?_
      rintro e w2 ⟨rfl, hb2⟩
      go_wp2
      go_ret
      exact ⟨rfl, bgo D1 hb2⟩
    · obtain ⟨A, rfl, hA⟩ := isSet.nat hE
      obtain ⟨B, rfl, hB⟩ := isSet.nat hF
      rw [two_yes hE hF]
      have hg := isSet.group hE
      have hD := fun w hr => sl4Sum_any v l A B w hr hg hA hB
      obtain ⟨G, hG⟩ : ∃ G, G = sumN l A B := ⟨_, rfl⟩
      rw [← hG] at hD ⊢
      replace ha := hid ha
      replace hb := hid hb
      replace hE := hid hE
      replace hF := hid hF
      clear hG hA hB hg
      go_enter Try.func8, Try.ntmps8
      go_wp2_with fail
      refine (sIsSet_at hE.out ((hr.alloc (Nat.le_refl _) _).more (by go_size)) hn ha.out).mono ?_
      rintro e w1 ⟨rfl, hb1⟩
      obtain ⟨hc1, hf1⟩ := bcell hb1
      have D1 : Below w.heap.size w w1 := by refine Below.trans ?_ (hb1.mono ?_) <;> go_grown
      have hz1 : w.heap.size < w1.heap.size := by have := hb1.size; simp at this; omega
      go_wp2_with fail
      refine (sIsSet_at hF.out ((hr.below D1).more (by go_size)) hn hb.out).mono ?_
      rintro e w2 ⟨rfl, hb2⟩
      obtain ⟨hc2, hf2⟩ := bcell hb2
      have D2 := bgo D1 hb2
      have hz2 : w.heap.size < w2.heap.size := by have := hb2.size; omega
      go_wp2_with fail
      refine (hD _ ((hr.below D2).more (by go_size))).mono ?_
      rintro e w3 ⟨rfl, hb3⟩
      go_wp2
      go_ret
      exact ⟨rfl, bgo D2 hb3⟩
end Go.Proofs.Ytknbfohmobjplaa
