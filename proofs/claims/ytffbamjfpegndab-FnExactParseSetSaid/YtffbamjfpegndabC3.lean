
/- What the reference's ParseGroup computes: what the program's does. Conditions: texts of at most 2^20 bytes. -/
import Derived.Test.YtffbamjfpegndabC2
namespace Go.Proofs.Ytffbamjfpegndab
set_option linter.unusedVariables false
set_option linter.unusedSimpArgs false
open Go.RowKit

theorem small_fmt_dec : ∀ n : Fin 25, (fmtI (n.val : Int)).length ≤ 2 ∧ (120 : Int) ∉ fmtI (n.val : Int) ∧ (44 : Int) ∉ fmtI (n.val : Int) := by decide
theorem small_fmt {x : Int} (h : 0 ≤ x ∧ x ≤ 24) : (fmtI x).length ≤ 2 ∧ (120 : Int) ∉ fmtI x ∧ (44 : Int) ∉ fmtI x ∧ parseR (fmtI x) = (x, true) := by
  obtain ⟨n, rfl⟩ := Int.eq_ofNat_of_zero_le h.1
  have hd := small_fmt_dec ⟨n, by omega⟩
  exact ⟨hd.1, hd.2.1, hd.2.2, parseR_some (by rw [parseI_fmtI _ (by omega) (by omega), if_pos (by omega)])⟩
theorem cut_plain {b : Int} : ∀ (t : List Int) (d : List (List Int)) (c : List Int), b ∉ t → t.foldl (cutF b) (d, c) = (d, c ++ t) := by
  intro t
  induction t with
  | nil => intro d c _; simp
  | cons x r ih =>
    intro d c h
    have hx : ¬ x = b := fun e => h (by simp [e])
    have e : cutF b (d, c) x = (d, c ++ [x]) := by unfold cutF; rw [if_neg hx]
    rw [List.foldl_cons, e, ih _ _ fun hm => h (by simp [hm])]
    simp
theorem cut_join {b : Int} : ∀ (ss : List (List Int)) (d : List (List Int)), ss ≠ [] → (∀ t ∈ ss, b ∉ t) →
    ((joinL [b] ss).foldl (cutF b) (d, [])).1 ++ [((joinL [b] ss).foldl (cutF b) (d, [])).2] = d ++ ss := by
  intro ss
  induction ss with
  | nil => intro d h; exact absurd rfl h
  | cons t r ih =>
    intro d _ h
    cases r with
    | nil =>
      rw [show joinL [b] [t] = t from rfl, cut_plain t d [] (h t (by simp))]
      simp
    | cons t' r =>
      have e : cutF b (d, [] ++ t) b = (d ++ [[] ++ t], []) := by unfold cutF; rw [if_pos rfl]
      rw [joinL, List.foldl_append, cut_plain t d [] (h t (by simp)), List.foldl_append, List.foldl_cons, e, List.foldl_nil, ih _ (by simp) fun u hu => h u (by simp [hu])]
      simp
theorem cutP_joinI {b : Int} (hb : b = 120 ∨ b = 44) {l : List Int} (hl : l ≠ []) (hx : ∀ x ∈ l, 0 ≤ x ∧ x ≤ 24) : cutP b (joinI b l) = fmts l := by
  have h := cut_join (b := b) (fmts l) [] (by intro e; exact hl (List.map_eq_nil_iff.1 e)) fun t ht => by
    obtain ⟨x, hm, rfl⟩ := List.mem_map.1 ht
    have := small_fmt (hx x hm)
    rcases hb with rfl | rfl
    · exact this.2.1
    · exact this.2.2.1
  rw [List.nil_append] at h
  exact h
theorem joinI_len2 {b : Int} {l : List Int} (hx : ∀ x ∈ l, 0 ≤ x ∧ x ≤ 24) : (joinI b l).length ≤ l.length * 3 := by
  have h := joinL_len [b] 2 (by simp) (fmts l) fun t ht => by
    obtain ⟨x, hm, rfl⟩ := List.mem_map.1 ht
    exact (small_fmt (hx x hm)).1
  rw [fmts_length] at h
  exact h
theorem fgE_facts {l t : List Int} (h0 : t ≠ []) (h1 : t ≠ [49]) (h : fgE l = t) : t.length ≤ 10 ∧ ∀ u ∈ cutP 120 t, (parseR u).2 = true := by
  cases hE : isGroup l with
  | false => rw [fgE_no hE] at h; exact absurd h.symm h0
  | true =>
    have hi := (isGroup_iff l).1 hE
    have hx : ∀ x ∈ l, 0 ≤ x ∧ x ≤ 24 := fun x hm => by have := hi.2.1 x hm; omega
    have hl : l ≠ [] := fun e => by rw [e] at h; exact h1 h.symm
    have hp : 0 < l.length := List.length_pos_iff.2 hl
    rw [fgE_yes hE hp] at h
    have h3 := joinI_len2 (b := 120) hx
    rw [h] at h3
    refine ⟨by omega, fun u hu => ?_⟩
    rw [← h, cutP_joinI (Or.inl rfl) hl hx] at hu
    obtain ⟨x, hm, rfl⟩ := List.mem_map.1 hu
    rw [(small_fmt (hx x hm)).2.2.2]
theorem cutF_mono {b : Int} : ∀ (l : List Int) (p : List (List Int) × List Int) (u : List Int), u ∈ p.1 → u ∈ (l.foldl (cutF b) p).1 := by
  intro l
  induction l with
  | nil => intro p u h; exact h
  | cons x r ih =>
    intro p u h
    rw [List.foldl_cons]
    refine ih _ _ ?_
    unfold cutF
    split
    · simp [h]
    · exact h
theorem cutS_mono {b : Int} {l : List Int} {k : Nat} {u : List Int} (h : u ∈ (cutS b (l.take k)).1) : u ∈ (cutS b l).1 := by
  have e : cutS b l = (l.drop k).foldl (cutF b) (cutS b (l.take k)) := by
    show l.foldl (cutF b) ([], []) = (l.drop k).foldl (cutF b) ((l.take k).foldl (cutF b) ([], []))
    rw [← List.foldl_append, List.take_append_drop]
  rw [e]
  exact cutF_mono _ _ _ h
theorem cutS_end (b : Int) (l : List Int) : (cutS b (l ++ [b])).1 = cutP b l := by rw [cutS_snoc]; unfold cutF cutP; rw [if_pos rfl]
set_option maxRecDepth 100000 in
theorem sParseGroup_one (s : ByteArray) (w : World) (h1 : sI s = [49]) :
    Calls Try.prog 18 #[.string s] w fun e w' => (∃ ao cap, e = .returned (.tuple #[.agg #[.slice ao (pgE (sI s)).1.length cap], .bool (pgE (sI s)).2]) ∧ Own w' w.heap.size 3 .i64 (.slice ao (pgE (sI s)).1.length cap) (pgE (sI s)).1) ∧ Below w.heap.size w w' := by
  have q1 : (s.toList == [49]) = true := by rw [s_one]; exact decide_eq_true h1
  have hE : pgE [49] = ([], true) := rfl
  rw [h1, hE]
  replace h1 := hid h1
  clear hE
  go_enter Try.func18, Try.ntmps18
  go_wp2
  refine bodyPost_ret (v := .tuple #[.agg #[.slice none 0 0], .bool true]) (by simp [results, Try.results18, go_sem]) rfl ?_
  exact ⟨⟨_, _, rfl, Own.none_ _ _ _ _⟩, (below_alloc w _).alloc (by simp) _⟩
set_option maxRecDepth 100000 in
theorem sParseGroup_big (s : ByteArray) (w : World) (hs : s.size ≤ 1048576) (hb : 10 < s.size) :
    Calls Try.prog 18 #[.string s] w fun e w' => (∃ ao cap, e = .returned (.tuple #[.agg #[.slice ao (pgE (sI s)).1.length cap], .bool (pgE (sI s)).2]) ∧ Own w' w.heap.size 3 .i64 (.slice ao (pgE (sI s)).1.length cap) (pgE (sI s)).1) ∧ Below w.heap.size w w' := by
  have hlen := sI_length s
  have h1 : sI s ≠ [49] := fun e => by rw [e] at hlen; simp at hlen; omega
  have h0 : sI s ≠ [] := fun e => by rw [e] at hlen; simp at hlen; omega
  have q1 : (s.toList == [49]) = false := by rw [s_one]; exact decide_eq_false h1
  have q0 : s.toList.isEmpty = false := by rw [s_empty]; exact decide_eq_false h0
  have hE : pgE (sI s) = ([], false) := pgE_no fun h => by
    have := (fgE_facts h0 h1 h).1
    omega
  have hcmp : ((strOfNums [49]).toList == s.toList) = false := by rw [eq_whole [49] (isB_cons (by decide) isB_nil) s]; exact decide_eq_false fun e => h1 e.symm
  have hF := hid fun w h => sFormatGroup_any (.slice none 0 0) [] w h (by simp)
  rw [hE]
  replace h1 := hid h1
  replace h0 := hid h0
  clear hE hlen
  go_enter Try.func18, Try.ntmps18
  go_wp2
  go_loopw [5, 6] (fun p i wr => i = .int .i64 0 ∧ wr = (w.alloc (.cells #[.slice none 0 0] 28)).alloc (.cells #[.slice none 0 0] 28)) (fun _ _ _ => 0)
  case atStart => exact ⟨rfl, rfl⟩
  case round =>
    obtain ⟨rfl, rfl⟩ := hrel
    go_wp2_with fail
    refine (hF.out _ (Rd.nil _ _ _)).mono ?_
    rintro e w6 ⟨rfl, hb6⟩
    obtain ⟨hc6, hf6⟩ := bcell hb6
    have D6 : Below w.heap.size w w6 := by refine Below.trans ?_ (hb6.mono ?_) <;> go_grown
    have e6 : w6.cell? ⟨w.heap.size, 0, none⟩ = some (.slice none 0 0) := by rw [hc6 _ _ (by go_size)]; simp [go_sem]
    have s6 : w6.frozen? ⟨w.heap.size, 0, none⟩ = false := by rw [hf6 _ _ (by go_size)]; simp [go_sem]
    rw [show fgE [] = [49] from rfl]
    clear hc6 hf6 hb6 hF
    go_wp2
    refine bodyPost_ret (v := .tuple #[.agg #[.slice none 0 0], .bool false]) (by simp [results, Try.results18, go_sem, e6]) rfl ?_
    exact ⟨⟨_, _, rfl, Own.none_ _ _ _ _⟩, D6.setCell (Nat.le_refl _) _⟩
end Go.Proofs.Ytffbamjfpegndab
