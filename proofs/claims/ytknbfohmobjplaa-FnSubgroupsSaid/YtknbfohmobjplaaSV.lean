/- What the program's SubgroupsOf computes. Conditions: at most 2^20 orders. -/
import Derived.Test.YtknbfohmobjplaaST
import Derived.Test.YtknbfohmobjplaaSP
namespace Go.Proofs.Ytknbfohmobjplaa
set_option linter.unusedVariables false
set_option linter.unusedSimpArgs false
open Go.RowKit

theorem Own.one (w : World) (base : Nat) (e : TypeId) (k : IntKind) (x : Int) (hb : base ≤ w.heap.size) : Own (w.alloc (.cells #[.int k x] e)) base e k (.slice (some ⟨w.heap.size, 0, none⟩) 1 1) [x] := by
  have := World.ownsRow_lit (size := 1) (e := e) w #[.int k x] 1 hb (by unfold maxLen; omega) (by simp)
  unfold Own
  simpa [ints] using this
/-- what has been looked at: all places below i, and k elements at place i -/
def Proc (l : List Int) (n : Nat) (L : List Int) (i k : Nat) : Prop := ∀ j (hj : j < L.length) (x : Nat), (j < i ∧ x < n ∨ j = i ∧ x < k) → ∀ H : Nat, L[j] = (H : Int) → ((genN l (H ||| 2 ^ x) : Nat) : Int) ∈ L
theorem Proc.same {l L : List Int} {n i k H : Nat} (h : Proc l n L i k) (hi : i < L.length) (hH : L[i] = (H : Int)) (hm : ((genN l (H ||| 2 ^ k) : Nat) : Int) ∈ L) : Proc l n L i (k + 1) := by
  intro j hj x hx H' hH'
  rcases hx with hx | ⟨rfl, hx⟩
  · exact h j hj x (.inl hx) H' hH'
  · by_cases he : x = k
    · subst he
      rw [hH] at hH'
      rw [show H' = H by omega]
      exact hm
    · exact h j hj x (.inr ⟨rfl, by omega⟩) H' hH'
theorem Proc.app {l L : List Int} {n i k H : Nat} (h : Proc l n L i k) (hi : i < L.length) (hH : L[i] = (H : Int)) : Proc l n (L ++ [((genN l (H ||| 2 ^ k) : Nat) : Int)]) i (k + 1) := by
  intro j hj x hx H' hH'
  have hjl : j < L.length := by omega
  rw [List.getElem_append_left hjl] at hH'
  rcases hx with hx | ⟨rfl, hx⟩
  · exact List.mem_append.2 (.inl (h j hjl x (.inl hx) H' hH'))
  · by_cases he : x = k
    · subst he
      rw [hH] at hH'
      rw [show H' = H by omega]
      simp
    · exact List.mem_append.2 (.inl (h j hjl x (.inr ⟨rfl, by omega⟩) H' hH'))
theorem Proc.next {l L : List Int} {n i : Nat} (h : Proc l n L i n) : Proc l n L (i + 1) 0 := by
  intro j hj x hx H' hH'
  rcases hx with hx | ⟨_, hx⟩
  · by_cases he : j = i
    · exact h j hj x (.inr ⟨he, hx.2⟩) H' hH'
    · exact h j hj x (.inl ⟨by omega, hx.2⟩) H' hH'
  · omega
def SInv (l L : List Int) : Prop := L.Nodup ∧ AllSub l L ∧ (1 : Int) ∈ L
theorem SInv.start {l : List Int} (hg : isGroup l = true) : SInv l [1] := ⟨by simp, (fun c hc => by rw [List.mem_singleton] at hc; exact ⟨1, by omega, sub_one hg⟩), by simp⟩
theorem SInv.app {l L : List Int} (h : SInv l L) {H : Nat} (hH : IsSubN l H) (hn : ¬ (H : Int) ∈ L) : SInv l (L ++ [(H : Int)]) := by
  refine ⟨?_, fun c hc => ?_, List.mem_append.2 (.inl h.2.2)⟩
  · show (L ++ [(H : Int)]).Pairwise (· ≠ ·)
    rw [List.pairwise_append]
    exact ⟨h.1, List.pairwise_singleton _ _, fun a ha b hb he => by rw [List.mem_singleton] at hb; rw [he, hb] at ha; exact hn ha⟩
  · rcases List.mem_append.1 hc with h1 | h1
    · exact h.2.1 c h1
    · rw [List.mem_singleton] at h1
      exact ⟨H, h1, hH⟩
theorem SInv.done {l L : List Int} (hg : isGroup l = true) {n : Nat} (hn : prodL l = (n : Int)) (h : SInv l L) {i : Nat} (hi : L.length ≤ i) (hp : Proc l n L i 0) : sortL L = subsL l := by
  refine sort_subs hg h.1 h.2.1 h.2.2 fun H hH x hx => ?_
  obtain ⟨j, hj, he⟩ := List.mem_iff_getElem.1 hH
  exact hp j hj x (.inl ⟨by omega, by omega⟩) H he
theorem SInv.len {l L : List Int} (hg : isGroup l = true) (h : SInv l L) : L.length ≤ 16777216 := nodup_len h.1 fun c hc => AllSub.bd hg h.2.1 hc
set_option maxHeartbeats 1600000 in
theorem iSubgroupsOf_any (v : Value) (l : List Int) (w : World) (hr : Rd w w.heap.size .i64 v l) (hn : l.length ≤ 1048576) :
    Calls Try.prog 28 #[.agg #[v]] w fun e w' => ∃ ao cap, e = .returned (.tuple #[.slice ao (sbsE l).length cap, .bool (isGroup l)]) ∧ Own w' w.heap.size 3 .i64 (.slice ao (sbsE l).length cap) (sbsE l) ∧ Below w.heap.size w w' := by
  cases hE : isGroup l
  · rw [sbsE_no hE]
    have hI := hid fun w h1 => iIsGroup_any v l w h1 (by omega)
    rw [hE] at hI
    clear hE
    go_enter Try.func28, Try.ntmps28
    go_wp2_with fail
    refine (hI.out _ ((hr.alloc (Nat.le_refl _) _).more (by go_size))).mono ?_
    rintro e w1 ⟨rfl, hb1⟩
    have D1 : Below w.heap.size w w1 := by refine Below.trans ?_ (hb1.mono ?_) <;> go_grown
    have hz1 : w.heap.size < w1.heap.size := by have := hb1.size; simp at this; omega
    obtain ⟨hc1, hf1⟩ := bcell hb1
    go_wp2
    go_ret2
    exact ⟨_, _, rfl, Own.empty _ _ _ _ D1.size, D1.trans ((below_alloc _ _).mono D1.size)⟩
  · have hI := hid fun w h1 => iIsGroup_any v l w h1 (by omega)
    rw [hE] at hI
    rw [sbsE_yes hE]
    have hg := hid hE
    have hp := isGroup.prod hE
    have hO := hid fun w h => iOrderOf_g v l w h hE
    have hG := hid fun A (hA : A < 16777216) w hr => igenerated_any v l A w hr hE hA
    have hpn : prodL l = ((prodL l).toNat : Int) := by omega
    obtain ⟨n, hnn⟩ : ∃ n, n = (prodL l).toNat := ⟨_, rfl⟩
    rw [← hnn] at hpn
    rw [hpn] at hO
    have hn24 : n ≤ 24 := by omega
    have hSL := hid fun L (h : SInv l L) => SInv.len hE h
    obtain ⟨R, hR⟩ : ∃ R, R = subsL l := ⟨_, rfl⟩
    rw [← hR]
    replace hR := hid hR
    replace hpn := hid hpn
    clear hnn hp hE
    go_enter Try.func28, Try.ntmps28
    go_wp2_with fail
    refine (hI.out _ ((hr.alloc (Nat.le_refl _) _).more (by go_size))).mono ?_
    rintro e w1 ⟨rfl, hb1⟩
    have D1 : Below w.heap.size w w1 := by refine Below.trans ?_ (hb1.mono ?_) <;> go_grown
    have hz1 : w.heap.size < w1.heap.size := by have := hb1.size; simp at this; omega
    obtain ⟨hc1, hf1⟩ := bcell hb1
    have c1 : w1.cell? ⟨w.heap.size, 0, none⟩ = some v := by rw [hc1 _ _ (by go_size)]; simp [go_sem]
    clear hc1 hf1 hb1
    have hown1 : Own (w1.alloc (.cells #[.int .i64 1] 3)) (w.heap.size + 1) 3 .i64 (.slice (some ⟨w1.heap.size, 0, none⟩) 1 1) [1] := Own.one _ _ _ _ _ hz1
    have D2 : Below w.heap.size w (w1.alloc (.cells #[.int .i64 1] 3)) := D1.trans ((below_alloc _ _).mono D1.size)
    go_wp2
    go_loopw [4, 5] (fun o i wr => ∃ (L : List Int) (k : Nat), k ≤ L.length ∧ i = .int .i64 k ∧ Own wr (w.heap.size + 1) 3 .i64 o L ∧ Hid (SInv l L) ∧ Hid (Proc l n L k 0) ∧ Below w.heap.size w wr ∧ w.heap.size < wr.heap.size ∧ wr.cell? ⟨w.heap.size, 0, none⟩ = some v) (fun _ i _ => 16777217 - (intOf i).toNat)
    case atStart => exact ⟨[1], 0, by omega, rfl, hown1, SInv.start hg.out, (fun j hj x hx => by omega), D2, by simp; omega, by simpa [go_sem, hz1] using c1⟩
    case round =>
      obtain ⟨L, k, hk, rfl, hown, hs, hpr, hb, hz, hc⟩ := hrel
      have hlen := hSL.out L hs.out
      obtain ⟨ao, cap, rfl, _, _⟩ := hown.shape
      by_cases hlt : k < L.length
      · go_wp2_with fail
        refine (hO.out _ ((hr.below hb).more (by go_size))).mono ?_
        rintro e w2 ⟨rfl, hb2⟩
        have hown2 := hown.below hb2
        have D3 := bgo hb hb2
        have hz2 : w.heap.size < w2.heap.size := by have := hb2.size; omega
        have c2 := (hb2.cell hz).trans hc
        clear hown hb2 hc
        go_wp2
        go_loopw [4, 21] (fun o x wr => ∃ (M : List Int) (m : Nat), m ≤ n ∧ k < M.length ∧ x = .int .i64 m ∧ Own wr (w.heap.size + 1) 3 .i64 o M ∧ Hid (SInv l M) ∧ Hid (Proc l n M k m) ∧ Below w.heap.size w wr ∧ w.heap.size < wr.heap.size ∧ wr.cell? ⟨w.heap.size, 0, none⟩ = some v) (fun _ x _ => n - (intOf x).toNat)
        case atStart => exact ⟨L, 0, by omega, hlt, rfl, hown2, hs, hpr, D3, hz2, c2⟩
        case round =>
          obtain ⟨M, m, hm, hkM, rfl, hown, hs', hpr', hb, hz, hc⟩ := hrel
          have hlenM := hSL.out M hs'.out
          by_cases hlt2 : m < n
          · obtain ⟨gb, cap', rfl, hgb1, hgb2, _, _⟩ := hown.form (by omega)
            have hcm := hown.cell k hkM
            obtain ⟨H, hH, hHs⟩ := hs'.out.2.1 _ (List.getElem_mem hkM)
            rw [hH] at hcm
            have hUt := sub_pow_lt hg.out hHs (x := m) (by have := hpn.out; omega)
            have hUlt := top_24 hg.out hUt
            have hHlt := top_24 hg.out hHs.1
            have hCs := hid (genN_isSub hg.out hUlt)
            have hsame := hid fun h => hpr'.out.same hkM hH h
            have happ := hid (hpr'.out.app hkM hH)
            have hC := hid (hG.out _ hUlt)
            have hT1 : 2 ^ m ≤ 2 ^ 23 := Nat.pow_le_pow_right (by omega) (by omega)
            have hT2 : 2 ^ 23 = 8388608 := rfl
            have hpw : (2 : Int) ^ m = ((2 ^ m : Nat) : Int) := (Int.natCast_pow 2 _).symm
            have hor := or_int (A := H) (B := 2 ^ m) hHlt (by omega)
            obtain ⟨T, hT⟩ : ∃ T, T = 2 ^ m := ⟨_, rfl⟩
            rw [← hT] at hT1 hpw hor hC hsame happ hUlt hCs
            obtain ⟨U, hU⟩ : ∃ U, U = H ||| T := ⟨_, rfl⟩
            rw [← hU] at hor hC hsame happ hUlt hCs
            obtain ⟨G, hGG⟩ : ∃ G, G = genN l U := ⟨_, rfl⟩
            rw [← hGG] at hC hsame happ hCs
            have hGlt := hid (top_24 hg.out hCs.out.1)
            have hT3 : T ≤ 8388608 := by omega
            have hwT : IntKind.i64.wrap (T : Int) = T := IntWalk.i64_in _ (by omega)
            replace hUlt := hid hUlt
            replace hHlt := hid hHlt
            replace hHs := hid hHs
            clear hT hU hGG hT1 hT2 hUt hH hpr'
            have K : ∀ w', Below wr.heap.size wr w' → w'.cell? ⟨w.heap.size, 0, none⟩ = some v ∧ w'.cell? ⟨gb, k, none⟩ = some (.int .i64 (H : Int)) := fun w' h => ⟨(h.cell hz).trans hc, (h.cell (p := ⟨gb, k, none⟩) hgb2).trans hcm⟩
            go_wp2_with fail
            go_region_held3 (fun w' => w'.cell? ⟨w.heap.size, 0, none⟩ = some v ∧ w'.cell? ⟨gb, k, none⟩ = some (.int .i64 (H : Int))) (first | go_keep | exact K _ hb3) ((go_at_call 70; refine (hC.out _ ((hr.below (by go_grown)).more (by go_size))).mono ?_; rintro e w3 ⟨rfl, hb3⟩; replace hb3 : Below wr.heap.size wr w3 := (Below.refl wr.heap.size wr).drew.trans hb3))
            have hown3 := hown.below hb3
            have D4 := bgo hb hb3
            have hz3 : w.heap.size < w3.heap.size := by have := hb3.size; omega
            have c3 := (hb3.cell hz).trans hc
            have hrM := Rd.of_own hown3
            have hCt := hid fun w h => contains_any (.slice (some ⟨gb, 0, none⟩) M.length cap') M (G : Int) w h (by omega)
            clear K hown hb3 hc hcm
            by_cases hin : (G : Int) ∈ M
            · have hpn2 := hid (hsame.out hin)
              rw [decide_eq_true hin] at hCt
              clear hin
              go_wp2_with fail
              refine (hCt.out _ hrM).mono ?_
              rintro e w4 ⟨rfl, rfl⟩
              go_wp2
              go_roundw
              case rel => exact ⟨M, m + 1, by omega, hkM, by go_num, hown3, hs', hpn2, D4, hz3, c3⟩
              case measure => simp [intOf]; omega
            · have hs2 := hid (SInv.app hs'.out hCs.out hin)
              rw [decide_eq_false hin] at hCt
              clear hin
              go_wp2_with fail
              refine (hCt.out _ hrM).mono ?_
              rintro e w4 ⟨rfl, rfl⟩
              go_wp2_with (at_builtin; refine app1 rfl _ _ rfl Try.underlying24 info_int (by decide) rfl hown3 rfl (by omega) (by omega) ?_)
              intro v' w' hown' hb' _
              have hsz' := hb'.size
              have c4 := (hb'.cell (p := ⟨w.heap.size, 0, none⟩) (by simp)).trans c3
              clear hown3 hrM
              go_wp2
              go_roundw
              case rel => exact ⟨_, m + 1, by omega, by rw [List.length_append, List.length_singleton]; omega, by go_num, hown', hs2, happ, D4.trans (hb'.mono (Nat.le_succ _)), by omega, c4⟩
              case measure => simp [intOf]; omega
          · obtain rfl : m = n := by omega
            have hpn2 := hid hpr'.out.next
            go_wp2
            go_roundw
            case rel => exact ⟨M, k + 1, by omega, by go_num, hown, hs', hpn2, hb, hz, hc⟩
            case measure => simp [intOf]; omega
      · have hfin := hid (SInv.done hg.out hpn.out hs.out (by omega) hpr.out)
        have hpos : 0 < L.length := List.length_pos_of_mem hs.out.2.2
        go_wp2_with fail
        refine (sort_any _ L _ _ hown hpos (by omega) (by omega)).mono ?_
        rintro e w2 ⟨rfl, hown2, hb2⟩
        rw [hfin.out, ← hR.out] at hown2
        obtain ⟨ao2, cap2, hv2, _, _⟩ := hown2.shape
        injection hv2 with hv3 hv4 hv5
        rw [hv4, hv3, hv5] at hown2
        rw [hv4]
        go_wp2
        go_ret2
        exact ⟨_, _, rfl, hown2.lower (Nat.le_succ _), hb.trans (hb2.mono (Nat.le_succ _))⟩
end Go.Proofs.Ytknbfohmobjplaa
