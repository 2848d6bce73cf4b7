
/- Plain facts on DecodeVarint and ParseInt: no program in sight. No conditions. -/
import Derived.Test.YtffbamjfpegndabPlA
namespace Go.Proofs.Ytffbamjfpegndab

theorem lowAt_some (l : List Int) (k : Nat) (hk : k < l.length) (h7 : k < 7) (hall : ∀ x ∈ l.take k, 128 ≤ x) (hlow : l[k] < 128) : lowAt l = some k := by
  have e : l.take 7 = l.take k ++ (l[k] :: (l.take 7).drop (k + 1)) := by
    conv => lhs; rw [← List.take_append_drop k (l.take 7)]
    rw [List.take_take, Nat.min_eq_left (by omega), List.drop_eq_getElem_cons (by rw [List.length_take]; omega)]
    simp
  unfold lowAt
  rw [e, List.findIdx?_append]
  have h1 : (l.take k).findIdx? (fun x => decide (x < 128)) = none := by
    rw [List.findIdx?_eq_none_iff]
    intro x hx
    have := hall x hx
    simp
    omega
  rw [h1]
  simp [List.findIdx?_cons, hlow, List.length_take]
  omega
theorem lowAt_none (l : List Int) (hall : ∀ x ∈ l.take 7, 128 ≤ x) : lowAt l = none := by
  unfold lowAt
  rw [List.findIdx?_eq_none_iff]
  intro x hx
  have := hall x hx
  simp
  omega
theorem decVar_at (l : List Int) (k : Nat) (hk : k < l.length) (h7 : k < 7) (hall : ∀ x ∈ l.take k, 128 ≤ x) (hlow : l[k] < 128) :
    decVar l = if encVar 6 (leb (l.take (k + 1))) = l.take (k + 1) then (leb (l.take (k + 1)), (k : Int) + 1) else (0, 0) := by
  unfold decVar
  rw [lowAt_some l k hk h7 hall hlow]
theorem decVar_none (l : List Int) (hall : ∀ x ∈ l.take 7, 128 ≤ x) : decVar l = (0, 0) := by
  unfold decVar
  rw [lowAt_none l hall]
theorem pow128_7 : (128 : Int) ^ 7 = 562949953421312 := by decide
theorem leb_small (l : List Int) (h : l.length ≤ 7) : 0 ≤ leb l ∧ leb l ≤ 562949953421311 := by
  have h1 := leb_bd l
  have h2 : (128 : Int) ^ l.length ≤ 562949953421312 := by
    generalize l.length = m at h
    match m, h with
    | 0, _ | 1, _ | 2, _ | 3, _ | 4, _ | 5, _ | 6, _ | 7, _ => decide
  omega
theorem decVar_hit (l : List Int) (k : Nat) (h1 : 1 ≤ k) (h7 : k ≤ 7) (hk : k ≤ l.length) (h : encVar 6 (leb (l.take k)) = l.take k) : decVar l = (leb (l.take k), (k : Int)) := by
  have hb := leb_small (l.take k) (by rw [List.length_take]; omega)
  have hd := decVar_encVar (leb (l.take k)) hb.1 (by rw [pow128_7]; omega) (l.drop k)
  rw [h, List.take_append_drop] at hd
  rw [hd, List.length_take, Nat.min_eq_left hk]
theorem decVar_miss (l : List Int) (h : ∀ k, 1 ≤ k → k ≤ 7 → k ≤ l.length → encVar 6 (leb (l.take k)) ≠ l.take k) : decVar l = (0, 0) := by
  unfold decVar
  cases hl : lowAt l with
  | none => rfl
  | some i =>
    have hi : i < (l.take 7).length := by
      unfold lowAt at hl
      exact List.of_findIdx?_eq_some hl |> fun _ => by
        rw [List.findIdx?_eq_some_iff_getElem] at hl
        exact hl.1
    rw [List.length_take] at hi
    simp only
    rw [if_neg (h (i + 1) (by omega) (by omega) (by omega))]
/-- the value of the later ones, one more ahead -/
theorem leb_drop (l : List Int) (k i : Nat) (hi : i < k) (hk : k ≤ l.length) : leb ((l.take k).drop i) = l[i]'(by omega) % 128 + 128 * leb ((l.take k).drop (i + 1)) := by
  rw [List.drop_eq_getElem_cons (by rw [List.length_take]; omega), leb]
  simp

/-! ### ParseInt -/
def parseR (l : List Int) : Int × Bool := match parseI l with | some n => (n, true) | none => (0, false)
theorem parseR_some {l : List Int} {n : Int} (h : parseI l = some n) : parseR l = (n, true) := by unfold parseR; rw [h]
theorem parseR_none {l : List Int} (h : parseI l = none) : parseR l = (0, false) := by unfold parseR; rw [h]
def isDig (b : Int) : Bool := decide (48 ≤ b ∧ b ≤ 57)
/-- the digits among the first eleven bytes -/
def dsOf (l : List Int) : List Int := (l.take 11).filter isDig
def numS (l : List Int) : Int := if isMinus l then - val (dsOf l) else val (dsOf l)
theorem dsOf_isD (l : List Int) : IsD (dsOf l) := by
  intro x hx
  unfold dsOf at hx
  rw [List.mem_filter] at hx
  exact of_decide_eq_true hx.2
theorem filter_isD {l : List Int} (h : IsD l) : l.filter isDig = l := by
  rw [List.filter_eq_self]
  intro x hx
  exact decide_eq_true (h x hx)
theorem dsOf_eq (l : List Int) (h10 : l.length ≤ 10) (hd : okDigits (digitsOf l) = true) : dsOf l = digitsOf l := by
  unfold dsOf
  rw [List.take_of_length_le (by omega)]
  unfold digitsOf at hd ⊢
  by_cases hm : isMinus l = true
  · rw [if_pos hm] at hd ⊢
    cases l with
    | nil => rfl
    | cons b t =>
      have hb : b = 45 := by simpa [isMinus] using hm
      subst hb
      simp only [List.tail_cons] at hd ⊢
      rw [List.filter_cons, if_neg (by decide), filter_isD (okDigits_isD hd)]
  · rw [if_neg hm] at hd ⊢
    exact filter_isD (okDigits_isD hd)
theorem numS_eq (l : List Int) (h10 : l.length ≤ 10) (hd : okDigits (digitsOf l) = true) : numS l = numOf l := by
  unfold numS numOf
  rw [dsOf_eq l h10 hd]
theorem digitsOf_length (l : List Int) : l.length ≤ (digitsOf l).length + 1 := by
  unfold digitsOf
  split
  · rw [List.length_tail]; omega
  · omega
theorem dsOf_length (l : List Int) : (dsOf l).length ≤ 11 := by
  unfold dsOf
  exact Nat.le_trans (List.length_filter_le _ _) (by rw [List.length_take]; omega)
theorem numS_bd (l : List Int) : -100000000000 < numS l ∧ numS l < 100000000000 := by
  have h := val_bd _ (dsOf_isD l)
  have h2 : (10 : Int) ^ (dsOf l).length ≤ 100000000000 := by
    have h3 := dsOf_length l
    generalize (dsOf l).length = m at h3
    match m, h3 with
    | 0, _ | 1, _ | 2, _ | 3, _ | 4, _ | 5, _ | 6, _ | 7, _ | 8, _ | 9, _ | 10, _ | 11, _ => decide
  unfold numS
  split <;> omega
/-- the reference's way to read a number gives the same -/
theorem parseS_yes (l : List Int) (h9 : (dsOf l).length ≤ 9) (h10 : l.length ≤ 10) (hf : fmtI (numS l) = l) : parseI l = some (numS l) := by
  have hb := numS_bd l
  have hd : okDigits (digitsOf l) = true := by rw [← hf]; exact okDigits_fmtI _
  have hl := digitsOf_length_fmtI (numS l) (by omega) (by omega)
  rw [hf, ← dsOf_eq l h10 hd] at hl
  have := parseI_fmtI (numS l) (by omega) (by omega)
  rw [hf] at this
  rw [this, if_pos (hl.2.1 h9)]
theorem parseS_no (l : List Int) (h : ¬ ((dsOf l).length ≤ 9 ∧ l.length ≤ 10 ∧ fmtI (numS l) = l)) : parseI l = none := by
  cases hp : parseI l with
  | none => rfl
  | some n =>
    exfalso
    apply h
    have hf := parseI_fmt hp
    unfold parseI at hp
    split at hp
    · rename_i hc
      injection hp with hp
      have h10 : l.length ≤ 10 := by have := digitsOf_length l; omega
      have hn := numS_eq l h10 hc.2.2.1
      exact ⟨by rw [dsOf_eq l h10 hc.2.2.1]; exact hc.2.1, h10, by rw [hn]; exact hc.2.2.2⟩
    · cases hp
/-- one byte more among the first eleven -/
theorem filter_step (l : List Int) (k : Nat) (hk : k < l.length) : (isDig l[k] = true → (l.take (k + 1)).filter isDig = (l.take k).filter isDig ++ [l[k]]) ∧ (isDig l[k] = false → (l.take (k + 1)).filter isDig = (l.take k).filter isDig) := by
  rw [take_succ_get l k hk, List.filter_append]
  constructor
  · intro h; rw [List.filter_cons, if_pos h]; rfl
  · intro h; rw [List.filter_cons, if_neg (by rw [h]; simp)]; simp

end Go.Proofs.Ytffbamjfpegndab
