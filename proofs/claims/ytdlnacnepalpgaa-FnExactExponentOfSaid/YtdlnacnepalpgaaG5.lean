/- What ExponentOf computes, the program's and the reference's. Conditions: at most 2^20 orders. -/
import Derived.Test.YtdlnacnepalpgaaG4
import Derived.Test.YtdlnacnepalpgaaPlI
namespace Go.Proofs.Ytdlnacnepalpgaa
open Go.RowKit

theorem igcd_any (A B : Nat) (hA : A ≤ 1000000) (hB : B ≤ 1000000) (w : World) :
    Calls Try.prog 73 #[.int .i64 (A : Int), .int .i64 (B : Int)] w fun e w' => e = .returned (.int .i64 (Nat.gcd A B : Nat)) ∧ ∃ m, w' = w.drewN m := by
  obtain ⟨G, hG⟩ : ∃ G, G = Nat.gcd A B := ⟨_, rfl⟩
  rw [← hG]
  replace hG := hid hG
  go_enter Try.func73, Try.ntmps73
  go_wp2
  go_loopw [0, 1] (fun a b wr => ∃ A B : Nat, A ≤ 1000000 ∧ B ≤ 1000000 ∧ a = .int .i64 (A : Int) ∧ b = .int .i64 (B : Int) ∧ Hid (G = Nat.gcd A B) ∧ ∃ m, wr = w.drewN m) (fun _ b _ => (intOf b).toNat)
  case atStart => exact ⟨A, B, hA, hB, rfl, rfl, hG, 0, rfl⟩
  case round =>
    obtain ⟨A, B, hA, hB, rfl, rfl, hG, m, rfl⟩ := hrel
    by_cases h0 : B = 0
    · subst h0
      have hf := hG.out
      rw [Nat.gcd_zero_right] at hf
      replace hf := hid hf
      go_wp2
      go_ret
      exact ⟨by rw [hf.out]; rfl, m, rfl⟩
    · have z1 : ¬ (B : Int) = 0 := by omega
      have z2 : ((B : Int) == 0) = false := by rw [beq_eq_false_iff_ne]; exact z1
      have hf := hG.out
      rw [← gcd_turn] at hf
      have hm : A % B < B := Nat.mod_lt _ (by omega)
      obtain ⟨R, hR⟩ : ∃ R, R = A % B := ⟨_, rfl⟩
      rw [← hR] at hf hm
      have e1 : (A : Int).tmod (B : Int) = (R : Int) := by rw [Int.tmod_eq_emod_of_nonneg (by omega), hR, Int.natCast_emod]
      have e2 : (A : Int) % (B : Int) = (R : Int) := by rw [hR, Int.natCast_emod]
      replace hf := hid hf
      clear hG hR
      go_wp2
      go_region
      go_wp2
      go_roundw
      case rel => exact ⟨B, R, hB, by omega, rfl, by first | rfl | rw [e2], hf, m + 1, rfl⟩
      case measure => simp [intOf]; omega

theorem iExponentOf_any (v : Value) (l : List Int) (w : World) (hr : Rd w w.heap.size .i64 v l) (hn : l.length ≤ 1048576) :
    Calls Try.prog 36 #[.agg #[v]] w fun e w' => e = .returned (.int .i64 (exE l)) ∧ Below w.heap.size w w' := by
  cases hg : isGroup l
  · have hI : ∀ w : World, Rd w w.heap.size .i64 v l → Calls Try.prog 23 #[.agg #[v]] w fun e w' => e = .returned (.bool false) ∧ Below w.heap.size w w' := fun w hr => by rw [← hg]; exact iIsGroup_any v l w hr (by omega)
    rw [exE_no hg]
    clear hg
    go_enter Try.func36, Try.ntmps36
    go_wp2_with (go_at_call 23; refine (hI _ ((hr.alloc (Nat.le_refl _) _).more (by simp))).mono ?_; rintro e w1 ⟨rfl, hb⟩)
    go_ret
    exact ⟨rfl, (below_alloc _ _).trans (hb.mono (by simp))⟩
  · have hI : ∀ w : World, Rd w w.heap.size .i64 v l → Calls Try.prog 23 #[.agg #[v]] w fun e w' => e = .returned (.bool true) ∧ Below w.heap.size w w' := fun w hr => by rw [← hg]; exact iIsGroup_any v l w hr (by omega)
    rw [exE_yes hg]
    have hr0 := hr
    obtain ⟨ao, cap, rfl, _, _, hrd⟩ := hr
    have hl3 := isGroup.len hg
    replace hr0 := hid hr0
    replace hrd := hid hrd
    replace hg := hid hg
    replace hI := hid hI
    go_enter Try.func36, Try.ntmps36
    go_wp2_with fail
    refine (hI.out _ ((hr0.out.alloc (Nat.le_refl _) _).more (by simp))).mono ?_
    rintro e w1 ⟨rfl, hb⟩
    obtain ⟨hbc, hbf⟩ := bcell hb
    replace hb := (below_alloc w (.cells #[.slice ao l.length cap] 27)).trans (hb.mono (by simp))
    have c1 : w1.cell? ⟨w.heap.size, 0, none⟩ = some (.slice ao l.length cap) := by rw [hbc _ _ (by go_size)]; simp [go_sem]
    clear hbc hbf
    go_wp2
    go_loopw [3, 12] (fun p i wr => ∃ k : Nat, k ≤ l.length ∧ i = .int .i64 k ∧ p = .int .i64 (expoN (l.take k) : Nat) ∧ ∃ m, wr = w1.drewN m) (fun _ i _ => l.length - (intOf i).toNat)
    case atStart => exact ⟨0, by omega, rfl, rfl, 0, rfl⟩
    case round =>
      obtain ⟨k, hk, rfl, rfl, m, rfl⟩ := hrel
      by_cases hlt : k < l.length
      · obtain ⟨b, off, rfl, hB, hcell⟩ := hrd.out (by omega)
        have hc := (hb.cell (p := ⟨b, off + k, none⟩) hB).trans (hcell k hlt)
        have ho := ((isGroup_iff l).1 hg.out).2.1 _ (List.getElem_mem hlt)
        have hE := expoN_le hg.out k
        have hE2 := expoN_le hg.out (k + 1)
        have hs := expoN_snoc (l.take k) l[k]
        rw [← take_succ_get l k hlt] at hs
        have hx : l[k] = (l[k].toNat : Int) := (Int.toNat_of_nonneg (by omega)).symm
        obtain ⟨O, hO⟩ : ∃ O, O = l[k].toNat := ⟨_, rfl⟩
        obtain ⟨E, hEE⟩ : ∃ E, E = expoN (l.take k) := ⟨_, rfl⟩
        rw [← hO] at hx hs
        rw [hx] at hc ho
        rw [← hEE] at hE hs ⊢
        have hm := div_gcd_mul E O (by omega)
        rw [hs, ← hm] at hE2
        rw [← hm] at hs
        have hgp : 0 < Nat.gcd E O := Nat.gcd_pos_of_pos_left O (by omega)
        have hgl : Nat.gcd E O ≤ E := Nat.le_of_dvd (by omega) (Nat.gcd_dvd_left E O)
        obtain ⟨G, hG⟩ : ∃ G, G = Nat.gcd E O := ⟨_, rfl⟩
        have hcall : ∀ w : World, Calls Try.prog 73 #[.int .i64 (E : Int), .int .i64 (O : Int)] w fun e w' => e = .returned (.int .i64 (G : Int)) ∧ ∃ m, w' = w.drewN m := fun w => by rw [hG]; exact igcd_any E O (by omega) (by omega) w
        rw [← hG] at hs hgp hgl hE2
        have z1 : ¬ (G : Int) = 0 := by omega
        have z2 : ((G : Int) == 0) = false := by rw [beq_eq_false_iff_ne]; exact z1
        have hq : E / G ≤ E := Nat.div_le_self _ _
        obtain ⟨Q, hQ⟩ : ∃ Q, Q = E / G := ⟨_, rfl⟩
        rw [← hQ] at hq hs hE2
        have e3 : (E : Int) / (G : Int) = (Q : Int) := by rw [hQ, Int.natCast_ediv]
        have e1 : IntKind.i64.wrap ((E : Int).tdiv (G : Int)) = (Q : Int) := by
          rw [Int.tdiv_eq_ediv_of_nonneg (by omega), e3]
          exact IntWalk.i64_in _ (by omega)
        have e4 : IntKind.i64.wrap (Q : Int) = (Q : Int) := IntWalk.i64_in _ (by omega)
        have hprod : ((Q * O : Nat) : Int) = (Q : Int) * (O : Int) := Int.natCast_mul Q O
        have e5 : IntKind.i64.wrap ((Q : Int) * (O : Int)) = (Q : Int) * (O : Int) := IntWalk.i64_in _ (by omega)
        replace hprod := hid hprod
        clear hQ
        replace hs := hid hs
        replace hcall := hid hcall
        clear hcell hO hx hEE hm hG
        go_wp2_with (go_at_call 73; refine (hcall.out _).mono ?_; rintro e w' ⟨rfl, m2, rfl⟩)
        go_roundw
        case rel => exact ⟨k + 1, by omega, by go_num, by rw [hs.out, hprod.out], m + m2, rfl⟩
        case measure => simp [intOf]; omega
      · have e : l.take k = l := List.take_of_length_le (by omega)
        rw [e]
        go_wp2
        go_ret
        exact ⟨rfl, hb.trans (below_drewN _ _ _)⟩
theorem sExponentOf_any (v : Value) (l : List Int) (w : World) (hr : Rd w w.heap.size .i64 v l) (hn : l.length ≤ 1048576) :
    Calls Try.prog 35 #[.agg #[v]] w fun e w' => e = .returned (.int .i64 (exE l)) ∧ Below w.heap.size w w' := by
  cases hg : isGroup l
  · have hI : ∀ w : World, Rd w w.heap.size .i64 v l → Calls Try.prog 21 #[.agg #[v]] w fun e w' => e = .returned (.bool false) ∧ Below w.heap.size w w' := fun w hr => by rw [← hg]; exact sIsGroup_any v l w hr (by omega)
    rw [exE_no hg]
    clear hg
    go_enter Try.func35, Try.ntmps35
    go_wp2_with (go_at_call 21; refine (hI _ ((hr.alloc (Nat.le_refl _) _).more (by simp))).mono ?_; rintro e w1 ⟨rfl, hb⟩)
    go_ret
    exact ⟨rfl, (below_alloc _ _).trans (hb.mono (by simp))⟩
  · have hI : ∀ w : World, Rd w w.heap.size .i64 v l → Calls Try.prog 21 #[.agg #[v]] w fun e w' => e = .returned (.bool true) ∧ Below w.heap.size w w' := fun w hr => by rw [← hg]; exact sIsGroup_any v l w hr (by omega)
    rw [exE_yes hg]
    have hr0 := hr
    obtain ⟨ao, cap, rfl, _, _, hrd⟩ := hr
    have hl3 := isGroup.len hg
    replace hr0 := hid hr0
    replace hrd := hid hrd
    replace hg := hid hg
    replace hI := hid hI
    go_enter Try.func35, Try.ntmps35
    go_wp2_with fail
    refine (hI.out _ ((hr0.out.alloc (Nat.le_refl _) _).more (by simp))).mono ?_
    rintro e w1 ⟨rfl, hb⟩
    obtain ⟨hbc, hbf⟩ := bcell hb
    replace hb := (below_alloc w (.cells #[.slice ao l.length cap] 27)).trans (hb.mono (by simp))
    have c1 : w1.cell? ⟨w.heap.size, 0, none⟩ = some (.slice ao l.length cap) := by rw [hbc _ _ (by go_size)]; simp [go_sem]
    clear hbc hbf
    go_wp2
    go_loopw [3, 4] (fun p i wr => ∃ k : Nat, k ≤ l.length ∧ i = .int .i64 k ∧ p = .int .i64 (expoN (l.take k) : Nat) ∧ ∃ m, wr = w1.drewN m) (fun _ i _ => l.length - (intOf i).toNat)
    case atStart => exact ⟨0, by omega, rfl, rfl, 0, rfl⟩
    case round =>
      obtain ⟨k, hk, rfl, rfl, m, rfl⟩ := hrel
      by_cases hlt : k < l.length
      · obtain ⟨b, off, rfl, hB, hcell⟩ := hrd.out (by omega)
        have hc := (hb.cell (p := ⟨b, off + k, none⟩) hB).trans (hcell k hlt)
        have ho := ((isGroup_iff l).1 hg.out).2.1 _ (List.getElem_mem hlt)
        have hE := expoN_le hg.out k
        have hE2 := expoN_le hg.out (k + 1)
        have hs := expoN_snoc (l.take k) l[k]
        rw [← take_succ_get l k hlt] at hs
        have hx : l[k] = (l[k].toNat : Int) := (Int.toNat_of_nonneg (by omega)).symm
        obtain ⟨O, hO⟩ : ∃ O, O = l[k].toNat := ⟨_, rfl⟩
        obtain ⟨E, hEE⟩ : ∃ E, E = expoN (l.take k) := ⟨_, rfl⟩
        rw [← hO] at hx hs
        rw [hx] at hc ho
        rw [← hEE] at hE hs ⊢
        rw [hs] at hE2
        have hstep := fun x => @lcm_step E O x
        have hle : E ≤ Nat.lcm E O := Nat.le_of_dvd (by omega) (Nat.dvd_lcm_left E O)
        obtain ⟨L, hL⟩ : ∃ L, L = Nat.lcm E O := ⟨_, rfl⟩
        rw [← hL] at hE2 hs hle
        rw [← hL] at hstep
        replace hs := hid hs
        replace hstep := hid hstep
        have z1 : ¬ (O : Int) = 0 := by omega
        have z2 : ((O : Int) == 0) = false := by rw [beq_eq_false_iff_ne]; exact z1
        clear hcell hO hx hEE hL
        have hEd : E ∣ E := Nat.dvd_refl E
        go_wp2
        go_loopw [5] (fun x wr => ∃ (X m : Nat), x = .int .i64 (X : Int) ∧ Hid (E ∣ X) ∧ 1 ≤ X ∧ X ≤ L ∧ wr = w1.drewN m) (fun x _ => 24 - (intOf x).toNat)
        case atStart => exact ⟨E, _, rfl, hEd, by omega, hle, rfl⟩
        case round =>
          obtain ⟨X, m, rfl, hd, hX1, hX2, rfl⟩ := hrel
          have hst := hid (hstep.out X hd.out (by omega) hX2)
          obtain ⟨R, hR⟩ : ∃ R, R = X % O := ⟨_, rfl⟩
          have e1 : (X : Int).tmod (O : Int) = (R : Int) := by rw [Int.tmod_eq_emod_of_nonneg (by omega), hR, Int.natCast_emod]
          have e2 : (X : Int) % (O : Int) = (R : Int) := by rw [hR, Int.natCast_emod]
          by_cases h0 : R = 0
          · have hf := hid (hst.out.1 (Nat.dvd_of_mod_eq_zero (by omega)))
            subst h0
            clear hR
            go_wp2
            go_roundw
            case rel => exact ⟨k + 1, by omega, by go_num, by rw [hs.out, ← hf.out], _, rfl⟩
            case measure => simp [intOf]; omega
          · have hf := hst.out.2 (fun hc => h0 (by rw [hR]; exact Nat.mod_eq_zero_of_dvd hc))
            have hd2 := hid (Nat.dvd_add hd.out (Nat.dvd_refl E))
            have z3 : ((R : Int) == 0) = false := by rw [beq_eq_false_iff_ne]; omega
            clear hR
            go_wp2
            go_roundw
            case rel => exact ⟨X + E, _, by go_num, hd2, by omega, by omega, rfl⟩
            case measure => simp [intOf]; omega
      · have e : l.take k = l := List.take_of_length_le (by omega)
        rw [e]
        go_wp2
        go_ret
        exact ⟨rfl, hb.trans (below_drewN _ _ _)⟩
end Go.Proofs.Ytdlnacnepalpgaa
