
/- Cutting a text at a byte, as the program does it. Conditions: texts of at most 2^20 bytes. -/
import Derived.Test.YtffbamjfpegndabT1
import Derived.Test.YtffbamjfpegndabW9
namespace Go.Proofs.Ytffbamjfpegndab
set_option linter.unusedVariables false
set_option linter.unusedSimpArgs false
open Go.RowKit

/-- the parts that are closed, and the part under way -/
def cutF (b : Int) (p : List (List Int) × List Int) (x : Int) : List (List Int) × List Int := if x = b then (p.1 ++ [p.2], []) else (p.1, p.2 ++ [x])
def cutS (b : Int) (l : List Int) : List (List Int) × List Int := l.foldl (cutF b) ([], [])
def cutP (b : Int) (l : List Int) : List (List Int) := (cutS b l).1 ++ [(cutS b l).2]
theorem cutS_snoc (b : Int) (l : List Int) (x : Int) : cutS b (l ++ [x]) = cutF b (cutS b l) x := by unfold cutS; rw [List.foldl_append]; rfl
theorem cutS_take (b : Int) (l : List Int) (k : Nat) (hk : k < l.length) : cutS b (l.take (k + 1)) = cutF b (cutS b (l.take k)) l[k] := by
  rw [take_succ_get l k hk, cutS_snoc]
theorem cutS_lens (b : Int) (l : List Int) : ∀ k, (cutS b (l.take k)).1.length + (cutS b (l.take k)).2.length ≤ k := by
  intro k
  induction k with
  | zero => simp [cutS]
  | succ k ih =>
    by_cases hk : k < l.length
    · rw [cutS_take b l k hk]
      unfold cutF
      split
      · simp; omega
      · simp; omega
    · rw [List.take_of_length_le (by omega)] at ih ⊢
      omega
theorem cutS_mem (b : Int) (l : List Int) : ∀ k, (∀ t ∈ (cutS b (l.take k)).1, t.length ≤ k ∧ ∀ x ∈ t, x ∈ l) ∧ ∀ x ∈ (cutS b (l.take k)).2, x ∈ l := by
  intro k
  induction k with
  | zero => simp [cutS]
  | succ k ih =>
    by_cases hk : k < l.length
    · have hl := cutS_lens b l k
      rw [cutS_take b l k hk]
      unfold cutF
      split
      · refine ⟨fun t ht => ?_, fun x hx => by simp at hx⟩
        rcases List.mem_append.1 ht with ht | ht
        · exact ⟨by have := (ih.1 t ht).1; omega, (ih.1 t ht).2⟩
        · rw [List.mem_singleton.1 ht]
          exact ⟨by omega, ih.2⟩
      · refine ⟨fun t ht => ⟨by have := (ih.1 t ht).1; omega, (ih.1 t ht).2⟩, fun x hx => ?_⟩
        rcases List.mem_append.1 hx with hx | hx
        · exact ih.2 x hx
        · rw [List.mem_singleton.1 hx]; exact List.getElem_mem hk
    · rw [List.take_of_length_le (by omega)] at ih ⊢
      exact ⟨fun t ht => ⟨by have := (ih.1 t ht).1; omega, (ih.1 t ht).2⟩, ih.2⟩
theorem cutP_facts (b : Int) (l : List Int) : (cutP b l).length ≤ l.length + 1 ∧ 0 < (cutP b l).length ∧ ∀ t ∈ cutP b l, t.length ≤ l.length ∧ ∀ x ∈ t, x ∈ l := by
  have h1 := cutS_lens b l l.length
  have h2 := cutS_mem b l l.length
  rw [List.take_length] at h1 h2
  unfold cutP
  refine ⟨by simp; omega, by simp, fun t ht => ?_⟩
  rcases List.mem_append.1 ht with ht | ht
  · exact h2.1 t ht
  · rw [List.mem_singleton.1 ht]
    exact ⟨by omega, h2.2⟩

theorem extract_nums (s : ByteArray) (f k : Nat) : s.extract f k = strOfNums (((sI s).take k).drop f) := by
  have hj : ∀ a b : ByteArray, a.toList = b.toList → a = b := fun a b h => by
    obtain ⟨⟨a⟩⟩ := a
    obtain ⟨⟨b⟩⟩ := b
    rw [ByteArray.toList_mk, ByteArray.toList_mk] at h
    simpa using h
  apply hj
  rw [toList_strOfNums]
  obtain ⟨d⟩ := s
  obtain ⟨d⟩ := d
  rw [ByteArray.extract_mk, ByteArray.toList_mk]
  unfold sI
  rw [show ((bI d).take k).drop f = bI ((d.take k).drop f) from by unfold bI; rw [List.map_drop, List.map_take], toB_bI]
  simp [List.drop_take]

set_option maxRecDepth 100000 in
theorem icut_any (s : ByteArray) (c : Int) (w : World) (hs : s.size ≤ 1048576) (hc : 0 ≤ c ∧ c ≤ 255) :
    Calls Try.prog 48 #[.string s, .int .u8 c] w fun e w' => (∃ v, e = .returned v ∧ OwnS w' w.heap.size 9 v (cutP c (sI s))) ∧ Below w.heap.size w w' := by
  go_enter Try.func48, Try.ntmps48
  go_wp2
  go_loopw [5, 6, 7] (fun o f i wr => ∃ k F : Nat, k ≤ s.size ∧ F ≤ k ∧ i = .int .i64 k ∧ f = .int .i64 F ∧ OwnS wr w.heap.size 9 o (cutS c ((sI s).take k)).1 ∧ Hid ((cutS c ((sI s).take k)).2 = ((sI s).take k).drop F) ∧ Hid ((cutS c ((sI s).take k)).1.length ≤ k) ∧ Below w.heap.size w wr) (fun _ _ i _ => s.size - (intOf i).toNat)
  case atStart => exact ⟨0, 0, by omega, by omega, rfl, rfl, OwnS.empty _ _ _ (Nat.le_refl _), rfl, Nat.le_refl 0, below_alloc _ _⟩
  case round =>
    obtain ⟨k, F, hk, hF, rfl, rfl, hown, hcur, hlen, hbw⟩ := hrel
    have hsz := hbw.size
    have hlen2 := hlen.out
    by_cases hlt : k < s.size
    · have hst := cutS_take c (sI s) k (by rw [sI_length]; exact hlt)
      have hls := cutS_lens c (sI s) (k + 1)
      have hex := extract_nums s F k
      rw [← hcur.out] at hex
      rw [sI_get s k hlt] at hst
      have hb := digB s[k]
      obtain ⟨x, hx⟩ : ∃ x : Int, x = s[k].toNat := ⟨_, rfl⟩
      rw [← hx] at hst hb
      by_cases he : x = c
      · have hst2 := hst
        unfold cutF at hst2
        rw [if_pos he] at hst2
        obtain ⟨D, hD⟩ : ∃ D, D = cutS c ((sI s).take k) := ⟨_, rfl⟩
        rw [← hD] at hown hst2 hex hlen2
        have q1 : (x == c) = true := by rw [he]; simp
        rw [hx] at q1
        have hls2 : (cutS c ((sI s).take (k + 1))).1.length ≤ k + 1 := by omega
        replace hst2 := hid hst2
        replace hls2 := hid hls2
        clear hst hls hD hcur hlen he hx
        go_wp2_with (at_builtin; refine appS (u := D.2) rfl _ _ rfl Try.underlying63 info_str (by decide) rfl hown rfl (by omega) hsz ?_)
        intro v' w' hown' hb' _
        go_wp2
        go_roundw
        case rel => exact ⟨k + 1, k + 1, by omega, by omega, by go_num, by go_num, by rw [hst2.out]; exact hown', by rw [hst2.out, List.drop_eq_nil_of_le (by rw [List.length_take]; omega)]; rfl, hls2, hbw.trans hb'⟩
        case measure => simp [intOf]; omega
      · unfold cutF at hst
        rw [if_neg he] at hst
        have q1 : (x == c) = false := beq_eq_false_iff_ne.2 he
        rw [hx] at q1
        have hls2 : (cutS c ((sI s).take (k + 1))).1.length ≤ k + 1 := by omega
        have hdr := drop_snoc (sI s) F k hF (by rw [sI_length]; exact hlt)
        rw [sI_get s k hlt, ← hcur.out, ← hx] at hdr
        replace hst := hid hst
        replace hls2 := hid hls2
        replace hdr := hid hdr
        clear hls hcur hlen he hex hlen2 hx
        go_wp2
        go_roundw
        case rel => exact ⟨k + 1, F, by omega, by omega, by go_num, rfl, by rw [hst.out]; exact hown, by rw [hst.out, hdr.out]; rfl, hls2, hbw⟩
        case measure => simp [intOf]; omega
    · have e : (sI s).take k = sI s := List.take_of_length_le (by rw [sI_length]; omega)
      rw [e] at hown hcur hlen2
      have hex := extract_nums s F s.size
      rw [show (sI s).take s.size = sI s from List.take_of_length_le (by rw [sI_length]; omega), ← hcur.out] at hex
      have hP : cutP c (sI s) = (cutS c (sI s)).1 ++ [(cutS c (sI s)).2] := rfl
      obtain ⟨D, hD⟩ : ∃ D, D = cutS c (sI s) := ⟨_, rfl⟩
      rw [← hD] at hown hex hlen2 hP
      replace hP := hid hP
      clear hD hcur hlen e
      go_wp2_with (at_builtin; refine appS (u := D.2) rfl _ _ rfl Try.underlying63 info_str (by decide) rfl hown rfl (by omega) hsz ?_)
      intro v' w' hown' hb' _
      go_wp2
      go_ret
      exact ⟨⟨_, rfl, by rw [hP.out]; exact hown'⟩, hbw.trans hb'⟩
end Go.Proofs.Ytffbamjfpegndab
