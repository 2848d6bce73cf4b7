/- Plain facts on the encodings of chapter 1, in lists of integers: no program in sight. No conditions. -/
import Derived.Laws.BytesArg
namespace Go.Proofs.Ytffbamjfpegndab

/-! ### bytes as integers -/
def bI (l : List UInt8) : List Int := l.map fun b => (b.toNat : Int)
def toB (l : List Int) : List UInt8 := l.map fun n => UInt8.ofNat n.toNat
def IsB (l : List Int) : Prop := ∀ x ∈ l, 0 ≤ x ∧ x ≤ 255

theorem bI_length (l : List UInt8) : (bI l).length = l.length := by simp [bI]
theorem toB_length (l : List Int) : (toB l).length = l.length := by simp [toB]
theorem isB_bI (l : List UInt8) : IsB (bI l) := by
  intro x hx
  simp only [bI, List.mem_map] at hx
  obtain ⟨b, _, rfl⟩ := hx
  have := b.toNat_lt
  omega
theorem toB_bI (l : List UInt8) : toB (bI l) = l := by
  simp only [toB, bI, List.map_map]
  conv => rhs; rw [← List.map_id l]
  apply List.map_congr_left
  intro b _
  simp
theorem bI_toB (l : List Int) (h : IsB l) : bI (toB l) = l := by
  simp only [toB, bI, List.map_map]
  conv => rhs; rw [← List.map_id l]
  apply List.map_congr_left
  intro x hx
  have := h x hx
  simp
  omega
theorem bI_inj {l r : List UInt8} (h : bI l = bI r) : l = r := by rw [← toB_bI l, h, toB_bI]
theorem toB_inj {l r : List Int} (hl : IsB l) (hr : IsB r) (h : toB l = toB r) : l = r := by rw [← bI_toB l hl, h, bI_toB r hr]
theorem toB_append (l r : List Int) : toB (l ++ r) = toB l ++ toB r := by simp [toB]
theorem bI_append (l r : List UInt8) : bI (l ++ r) = bI l ++ bI r := by simp [bI]
theorem bI_take (l : List UInt8) (k : Nat) : bI (l.take k) = (bI l).take k := by simp [bI]
theorem isB_append {l r : List Int} (hl : IsB l) (hr : IsB r) : IsB (l ++ r) := by
  intro x hx
  rcases List.mem_append.1 hx with h | h
  · exact hl x h
  · exact hr x h
theorem isB_cons {x : Int} {l : List Int} (hx : 0 ≤ x ∧ x ≤ 255) (hl : IsB l) : IsB (x :: l) := by
  intro y hy
  rcases List.mem_cons.1 hy with h | h
  · exact h ▸ hx
  · exact hl y h
theorem isB_nil : IsB [] := fun x hx => by cases hx
theorem isB_reverse {l : List Int} (hl : IsB l) : IsB l.reverse := fun x hx => hl x (List.mem_reverse.1 hx)
theorem take_succ_get (l : List Int) (k : Nat) (h : k < l.length) : l.take (k + 1) = l.take k ++ [l[k]] := by
  rw [List.take_succ_eq_append_getElem h]
theorem bI_get (l : List UInt8) (k : Nat) (h : k < l.length) : (bI l)[k]'(by simpa [bI] using h) = (l[k].toNat : Int) := by simp [bI]

/-! ### hexadecimal digits -/
def hexD (k : Int) : Int := if k < 10 then 48 + k else 87 + k
def encHex (l : List Int) : List Int := l.flatMap fun b => [hexD (b / 16), hexD (b % 16)]
theorem encHex_nil : encHex [] = [] := rfl
theorem encHex_cons (b : Int) (l : List Int) : encHex (b :: l) = hexD (b / 16) :: hexD (b % 16) :: encHex l := rfl
theorem encHex_snoc (l : List Int) (b : Int) : encHex (l ++ [b]) = encHex l ++ [hexD (b / 16), hexD (b % 16)] := by simp [encHex]
theorem encHex_length (l : List Int) : (encHex l).length = 2 * l.length := by
  induction l with
  | nil => rfl
  | cons b l ih => rw [encHex_cons, List.length_cons, List.length_cons, ih, List.length_cons]; omega
theorem hexD_b (k : Int) (h : 0 ≤ k ∧ k ≤ 15) : 48 ≤ hexD k ∧ hexD k ≤ 102 := by unfold hexD; split <;> omega
theorem isB_encHex (l : List Int) (h : IsB l) : IsB (encHex l) := by
  induction l with
  | nil => exact isB_nil
  | cons b l ih =>
    have hb := h b (by simp)
    have h1 := hexD_b (b / 16) (by omega)
    have h2 := hexD_b (b % 16) (by omega)
    rw [encHex_cons]
    exact isB_cons (by omega) (isB_cons (by omega) (ih fun x hx => h x (by simp [hx])))

def hexV (b : Int) : Int := if 48 ≤ b ∧ b ≤ 57 then b - 48 else if 97 ≤ b ∧ b ≤ 102 then b - 87 else -1
theorem hexV_b (b : Int) : -1 ≤ hexV b ∧ hexV b ≤ 15 := by
  unfold hexV
  split
  · omega
  · split <;> omega
theorem hexV_hexD (k : Int) (h : 0 ≤ k ∧ k ≤ 15) : hexV (hexD k) = k := by
  unfold hexD hexV
  by_cases h1 : k < 10
  · rw [if_pos h1, if_pos (by omega)]; omega
  · rw [if_neg h1, if_neg (by omega), if_pos (by omega)]; omega
theorem hexD_eq (k b : Int) (h : 0 ≤ k ∧ k ≤ 15) : hexD k = b ↔ hexV b = k := by
  constructor
  · rintro rfl; exact hexV_hexD k h
  · intro hb
    unfold hexV at hb
    unfold hexD
    split at hb
    · rw [if_pos (by omega)]; omega
    · split at hb
      · rw [if_neg (by omega)]; omega
      · omega

def decHex : List Int → Option (List Int)
  | [] => some []
  | [_] => none
  | a :: b :: r => if hexV a < 0 ∨ hexV b < 0 then none else (decHex r).map fun t => (hexV a * 16 + hexV b) :: t
theorem decHex_encHex (l : List Int) (h : IsB l) : decHex (encHex l) = some l := by
  induction l with
  | nil => rfl
  | cons b l ih =>
    have hb := h b (by simp)
    rw [encHex_cons, decHex, hexV_hexD _ (by omega), hexV_hexD _ (by omega), if_neg (by omega), ih fun x hx => h x (by simp [hx])]
    simp only [Option.map_some]
    congr 2
    omega
theorem decHex_odd : ∀ (n : Nat) (l : List Int), l.length = 2 * n + 1 → decHex l = none := by
  intro n
  induction n with
  | zero =>
    intro l hl
    match l, hl with
    | [a], _ => rfl
  | succ n ih =>
    intro l hl
    match l, hl with
    | a :: b :: r, hl =>
      simp only [List.length_cons] at hl
      rw [decHex, ih r (by omega)]
      simp
/-- what is decoded of the first k pairs: none where a digit is wrong -/
theorem decHex_step (l : List Int) (k : Nat) (out : List Int) (hk : 2 * k + 1 < l.length) (h : decHex l = (decHex (l.drop (2 * k))).map (out ++ ·)) :
    (¬ (hexV l[2 * k] < 0 ∨ hexV l[2 * k + 1] < 0) → decHex l = (decHex (l.drop (2 * (k + 1)))).map ((out ++ [hexV l[2 * k] * 16 + hexV l[2 * k + 1]]) ++ ·)) ∧
    ((hexV l[2 * k] < 0 ∨ hexV l[2 * k + 1] < 0) → decHex l = none) := by
  have e : l.drop (2 * k) = l[2 * k] :: l[2 * k + 1] :: l.drop (2 * (k + 1)) := by
    rw [List.drop_eq_getElem_cons (by omega), List.drop_eq_getElem_cons (by omega)]
    rfl
  rw [e, decHex] at h
  constructor
  · intro hv
    rw [if_neg hv] at h
    rw [h]
    simp [Option.map_map, Function.comp_def]
  · intro hv
    rw [if_pos hv] at h
    rw [h]
    rfl
theorem decHex_isB : ∀ (l r : List Int), decHex l = some r → IsB r
  | [], r, h => by simp [decHex] at h; subst h; exact isB_nil
  | [_], r, h => by simp [decHex] at h
  | a :: b :: l, r, h => by
    rw [decHex] at h
    split at h
    · cases h
    · rename_i hv
      obtain ⟨t, ht, rfl⟩ := Option.map_eq_some_iff.1 h
      have h1 := hexV_b a
      have h2 := hexV_b b
      exact isB_cons (by omega) (decHex_isB l t ht)

/-! ### numbers of a fixed width -/
def decFix (l : List Int) : Int := l.foldl (fun n b => n * 256 + b) 0
theorem decFix_snoc (l : List Int) (b : Int) : decFix (l ++ [b]) = decFix l * 256 + b := by simp [decFix]
theorem pow256 (k : Nat) : (256 : Int) ^ (k + 1) = 256 ^ k * 256 := Int.pow_succ 256 k
theorem pow256_pos (k : Nat) : (0 : Int) < 256 ^ k := Int.pow_pos (by omega)
theorem decFix_bd (l : List Int) (h : IsB l) : 0 ≤ decFix l ∧ decFix l < 256 ^ l.length := by
  suffices H : ∀ r : List Int, IsB r.reverse → 0 ≤ decFix r.reverse ∧ decFix r.reverse < 256 ^ r.length by
    have := H l.reverse (by simpa using h)
    simpa using this
  intro r
  induction r with
  | nil => intro _; exact ⟨Int.le_refl _, by decide⟩
  | cons b r ih =>
    intro hr
    rw [List.reverse_cons] at hr ⊢
    have hb := hr b (by simp)
    have := ih fun x hx => hr x (by simp at hx ⊢; simp [hx])
    rw [decFix_snoc, List.length_cons, pow256]
    omega
def encFix : Nat → Int → List Int
  | 0, _ => []
  | w + 1, n => encFix w (n / 256) ++ [n % 256]
theorem encFix_length (w : Nat) : ∀ n, (encFix w n).length = w := by
  induction w with
  | zero => intro _; rfl
  | succ w ih => intro n; rw [encFix, List.length_append, ih]; rfl
theorem encFix_isB (w : Nat) : ∀ n, IsB (encFix w n) := by
  induction w with
  | zero => intro _; exact isB_nil
  | succ w ih => intro n; exact isB_append (ih _) (isB_cons (by omega) isB_nil)
theorem div_pow256 (n : Int) (k : Nat) : n / 256 / 256 ^ k = n / 256 ^ (k + 1) := by
  rw [Int.ediv_ediv_of_nonneg (by omega), pow256, Int.mul_comm]
theorem div_pow256' (n : Int) (k : Nat) : n / 256 ^ k / 256 = n / 256 ^ (k + 1) := by
  rw [Int.ediv_ediv_of_nonneg (Int.le_of_lt (pow256_pos k)), pow256]
/-- one digit more, ahead of the others -/
theorem encFix_front (w : Nat) : ∀ n, encFix (w + 1) n = (n / 256 ^ w % 256) :: encFix w n := by
  induction w with
  | zero => intro n; simp [encFix]
  | succ w ih =>
    intro n
    rw [encFix, ih (n / 256), encFix, div_pow256]
    rfl
theorem decFix_encFix (w : Nat) : ∀ n, 0 ≤ n → n < 256 ^ w → decFix (encFix w n) = n := by
  induction w with
  | zero => intro n h0 h; simp at h; simp [encFix, decFix]; omega
  | succ w ih =>
    intro n h0 h
    rw [pow256] at h
    rw [encFix, decFix_snoc, ih (n / 256) (by omega) (by omega)]
    omega

/-! ### varints -/
def encVar : Nat → Int → List Int
  | 0, n => [n]
  | f + 1, n => if 127 < n then (128 + n % 128) :: encVar f (n / 128) else [n]
theorem encVar_isB (f : Nat) : ∀ n, 0 ≤ n → n < 128 ^ (f + 1) → IsB (encVar f n) := by
  induction f with
  | zero => intro n h0 h; simp at h; exact isB_cons (by omega) isB_nil
  | succ f ih =>
    intro n h0 h
    rw [encVar]
    have hp : (128 : Int) ^ (f + 1 + 1) = 128 ^ (f + 1) * 128 := Int.pow_succ 128 (f + 1)
    split
    · exact isB_cons (by omega) (ih (n / 128) (by omega) (by omega))
    · exact isB_cons (by omega) isB_nil
theorem encVar_length (f : Nat) : ∀ n, 1 ≤ (encVar f n).length ∧ (encVar f n).length ≤ f + 1 := by
  induction f with
  | zero => intro n; simp [encVar]
  | succ f ih =>
    intro n
    rw [encVar]
    have := ih (n / 128)
    split <;> simp <;> omega
/-- the value of a list of groups of seven bits -/
def leb : List Int → Int
  | [] => 0
  | b :: l => b % 128 + 128 * leb l
theorem leb_encVar (f : Nat) : ∀ n, 0 ≤ n → n < 128 ^ (f + 1) → leb (encVar f n) = n := by
  induction f with
  | zero => intro n h0 h; simp at h; simp [encVar, leb]; omega
  | succ f ih =>
    intro n h0 h
    have hp : (128 : Int) ^ (f + 1 + 1) = 128 ^ (f + 1) * 128 := Int.pow_succ 128 (f + 1)
    rw [encVar]
    split
    · rw [leb, ih (n / 128) (by omega) (by omega)]; omega
    · simp [leb]; omega
theorem pow128_pos (k : Nat) : (0 : Int) < 128 ^ k := Int.pow_pos (by omega)
theorem leb_bd (l : List Int) : 0 ≤ leb l ∧ leb l < 128 ^ l.length := by
  induction l with
  | nil => exact ⟨Int.le_refl _, by decide⟩
  | cons b l ih =>
    have hp : (128 : Int) ^ (l.length + 1) = 128 ^ l.length * 128 := Int.pow_succ 128 l.length
    rw [leb, List.length_cons]
    omega
theorem leb_snoc (l : List Int) (b : Int) : leb (l ++ [b]) = leb l + 128 ^ l.length * (b % 128) := by
  induction l with
  | nil => simp [leb]
  | cons a l ih =>
    have hp : (128 : Int) ^ (l.length + 1) = 128 * 128 ^ l.length := by rw [Int.pow_succ, Int.mul_comm]
    rw [List.cons_append, leb, ih, leb, List.length_cons, hp, Int.mul_add, Int.mul_assoc, Int.add_assoc]
/-- the first byte below 128, among the first seven -/
def lowAt (l : List Int) : Option Nat := (l.take 7).findIdx? (· < 128)
def decVar (l : List Int) : Int × Int :=
  match lowAt l with
  | none => (0, 0)
  | some i => if encVar 6 (leb (l.take (i + 1))) = l.take (i + 1) then (leb (l.take (i + 1)), (i : Int) + 1) else (0, 0)
/-- all bytes but the last are at least 128, the last one is below -/
theorem encVar_low (f : Nat) : ∀ n, 0 ≤ n → n < 128 ^ (f + 1) → ∀ r, (encVar f n ++ r).findIdx? (· < 128) = some ((encVar f n).length - 1) := by
  induction f with
  | zero => intro n h0 h r; simp at h; simp [encVar, List.findIdx?_cons, h]
  | succ f ih =>
    intro n h0 h r
    have hp : (128 : Int) ^ (f + 1 + 1) = 128 ^ (f + 1) * 128 := Int.pow_succ 128 (f + 1)
    rw [encVar]
    split
    · have hl := encVar_length f (n / 128)
      rw [List.cons_append, List.findIdx?_cons, if_neg (by simp; omega), ih (n / 128) (by omega) (by omega) r]
      simp
      omega
    · have hn : n < 128 := by omega
      simp [List.findIdx?_cons, hn]
theorem decVar_encVar (n : Int) (h0 : 0 ≤ n) (h : n < 128 ^ 7) (r : List Int) : decVar (encVar 6 n ++ r) = (n, ((encVar 6 n).length : Int)) := by
  have hl := encVar_length 6 n
  have e : (encVar 6 n ++ r).take 7 = encVar 6 n ++ r.take (7 - (encVar 6 n).length) := by
    rw [List.take_append, List.take_of_length_le (by omega)]
  have hlow : lowAt (encVar 6 n ++ r) = some ((encVar 6 n).length - 1) := by
    rw [lowAt, e, encVar_low 6 n h0 h]
  have ht : (encVar 6 n ++ r).take ((encVar 6 n).length - 1 + 1) = encVar 6 n := by
    rw [show (encVar 6 n).length - 1 + 1 = (encVar 6 n).length by omega, List.take_left]
  unfold decVar
  rw [hlow]
  simp only [ht, leb_encVar 6 n h0 h, if_true]
  congr 1
  omega

/-! ### decimal numbers -/
def digs : Nat → Int → List Int
  | 0, _ => []
  | f + 1, m => if m = 0 then [] else (48 + m % 10) :: digs f (m / 10)
def absI (n : Int) : Int := if n < 0 then -n else n
def fmtI (n : Int) : List Int := if n = 0 then [48] else (if n < 0 then [45] else []) ++ (digs 20 (absI n)).reverse
def IsD (l : List Int) : Prop := ∀ x ∈ l, 48 ≤ x ∧ x ≤ 57
theorem digs_isD (f : Nat) : ∀ m, 0 ≤ m → IsD (digs f m) := by
  induction f with
  | zero => intro _ _ x hx; cases hx
  | succ f ih =>
    intro m h0
    rw [digs]
    split
    · intro x hx; cases hx
    · intro x hx
      rcases List.mem_cons.1 hx with rfl | hx
      · omega
      · exact ih (m / 10) (by omega) x hx
theorem digs_length (f : Nat) : ∀ m, (digs f m).length ≤ f := by
  induction f with
  | zero => intro _; simp [digs]
  | succ f ih => intro m; rw [digs]; have := ih (m / 10); split <;> simp; omega
theorem absI_nn (n : Int) : 0 ≤ absI n := by unfold absI; split <;> omega
theorem fmtI_isB (n : Int) : IsB (fmtI n) := by
  unfold fmtI
  split
  · exact isB_cons (by omega) isB_nil
  · refine isB_append ?_ (isB_reverse fun x hx => ?_)
    · split
      · exact isB_cons (by omega) isB_nil
      · exact isB_nil
    · have := digs_isD 20 (absI n) (absI_nn n) x hx; omega
theorem fmtI_length (n : Int) : (fmtI n).length ≤ 21 := by
  unfold fmtI
  split
  · simp
  · have := digs_length 20 (absI n)
    split <;> simp <;> omega

/-- the number that a list of digits stands for, the first one the greatest -/
def val (l : List Int) : Int := l.foldl (fun n b => 10 * n + (b - 48)) 0
theorem val_snoc (l : List Int) (b : Int) : val (l ++ [b]) = 10 * val l + (b - 48) := by simp [val]
theorem val_digs (f : Nat) : ∀ m, 0 ≤ m → m < 10 ^ f → val (digs f m).reverse = m := by
  induction f with
  | zero =>
    intro m h0 h
    have h1 : m = 0 := by simp at h; omega
    rw [h1]; rfl
  | succ f ih =>
    intro m h0 h
    have hp : (10 : Int) ^ (f + 1) = 10 ^ f * 10 := Int.pow_succ 10 f
    rw [digs]
    split
    · rename_i e; subst e; rfl
    · rw [List.reverse_cons, val_snoc, ih (m / 10) (by omega) (by omega)]
      omega
theorem val_bd (l : List Int) (h : IsD l) : 0 ≤ val l ∧ val l < 10 ^ l.length := by
  suffices H : ∀ r : List Int, IsD r.reverse → 0 ≤ val r.reverse ∧ val r.reverse < 10 ^ r.length by
    have := H l.reverse (by simpa using h)
    simpa using this
  intro r
  induction r with
  | nil => intro _; exact ⟨Int.le_refl _, by decide⟩
  | cons b r ih =>
    intro hr
    have hp : (10 : Int) ^ (r.length + 1) = 10 ^ r.length * 10 := Int.pow_succ 10 r.length
    rw [List.reverse_cons] at hr ⊢
    have hb := hr b (by simp)
    have := ih fun x hx => hr x (by simp at hx ⊢; simp [hx])
    rw [val_snoc, List.length_cons]
    omega
/-- more digits than the number has -/
theorem digs_enough (f : Nat) : ∀ m, 0 ≤ m → m < 10 ^ f → ∀ g, f ≤ g → digs g m = digs f m := by
  induction f with
  | zero =>
    intro m h0 h g _
    simp at h
    have : m = 0 := by omega
    subst this
    cases g <;> simp [digs]
  | succ f ih =>
    intro m h0 h g hg
    have hp : (10 : Int) ^ (f + 1) = 10 ^ f * 10 := Int.pow_succ 10 f
    obtain ⟨g, rfl⟩ : ∃ g', g = g' + 1 := ⟨g - 1, by omega⟩
    rw [digs, digs, ih (m / 10) (by omega) (by omega) g (by omega)]
/-- so many digits at the least -/
theorem digs_low (k : Nat) : ∀ f m, 10 ^ k ≤ m → m < 10 ^ f → k < (digs f m).length := by
  induction k with
  | zero =>
    intro f m h0 h
    cases f with
    | zero => simp at h h0; omega
    | succ f => rw [digs, if_neg (by simp at h0; omega)]; simp
  | succ k ih =>
    intro f m h0 h
    have hp : (10 : Int) ^ (k + 1) = 10 ^ k * 10 := Int.pow_succ 10 k
    have hk : (0 : Int) < 10 ^ k := Int.pow_pos (by omega)
    cases f with
    | zero => simp at h; omega
    | succ f =>
      have hq : (10 : Int) ^ (f + 1) = 10 ^ f * 10 := Int.pow_succ 10 f
      rw [digs, if_neg (by omega)]
      have := ih f (m / 10) (by omega) (by omega)
      simp; omega

def isMinus (l : List Int) : Bool := l.head? == some 45
def digitsOf (l : List Int) : List Int := if isMinus l then l.tail else l
def numOf (l : List Int) : Int := if isMinus l then - val (digitsOf l) else val (digitsOf l)
def okDigits (l : List Int) : Bool := l.all fun b => decide (48 ≤ b ∧ b ≤ 57)
/-- what 'ParseInt' gives: a number of at most nine digits that is written so -/
def parseI (l : List Int) : Option Int :=
  if 1 ≤ (digitsOf l).length ∧ (digitsOf l).length ≤ 9 ∧ okDigits (digitsOf l) = true ∧ fmtI (numOf l) = l then some (numOf l) else none
theorem isMinus_fmtI (n : Int) : isMinus (fmtI n) = decide (n < 0) := by
  unfold fmtI isMinus
  by_cases h0 : n = 0
  · subst h0; rfl
  · rw [if_neg h0]
    by_cases h : n < 0
    · simp [h]
    · simp only [h, if_false, List.nil_append, decide_false]
      rw [beq_eq_false_iff_ne]
      intro he
      have hm : (45 : Int) ∈ (digs 20 (absI n)).reverse := List.mem_of_mem_head? he
      have := digs_isD 20 (absI n) (absI_nn n) 45 (by simpa using hm)
      omega
theorem digitsOf_fmtI (n : Int) (h0 : n ≠ 0) : digitsOf (fmtI n) = (digs 20 (absI n)).reverse := by
  unfold digitsOf
  rw [isMinus_fmtI]
  by_cases h : n < 0
  · simp [h, fmtI, h0]
  · simp [h, fmtI, h0]
theorem pow10_20 : (10 : Int) ^ 20 = 100000000000000000000 := by decide
theorem numOf_fmtI (n : Int) (hlo : -9223372036854775808 ≤ n) (hhi : n ≤ 9223372036854775807) : numOf (fmtI n) = n := by
  by_cases h0 : n = 0
  · subst h0; decide
  · unfold numOf
    rw [digitsOf_fmtI n h0, isMinus_fmtI, val_digs 20 _ (absI_nn n) (by rw [pow10_20]; unfold absI; split <;> omega)]
    unfold absI
    by_cases h : n < 0 <;> simp [h]
theorem okDigits_of {l : List Int} (h : IsD l) : okDigits l = true := by
  unfold okDigits
  rw [List.all_eq_true]
  intro x hx
  exact decide_eq_true (h x hx)
theorem okDigits_isD {l : List Int} (h : okDigits l = true) : IsD l := by
  unfold okDigits at h
  rw [List.all_eq_true] at h
  intro x hx
  exact of_decide_eq_true (h x hx)
theorem okDigits_fmtI (n : Int) : okDigits (digitsOf (fmtI n)) = true := by
  by_cases h0 : n = 0
  · subst h0; decide
  · rw [digitsOf_fmtI n h0]
    exact okDigits_of fun x hx => digs_isD 20 _ (absI_nn n) x (by simpa using hx)
theorem pow10_9 : (10 : Int) ^ 9 = 1000000000 := by decide
theorem digitsOf_length_fmtI (n : Int) (hlo : -9223372036854775808 ≤ n) (hhi : n ≤ 9223372036854775807) :
    1 ≤ (digitsOf (fmtI n)).length ∧ ((digitsOf (fmtI n)).length ≤ 9 ↔ -1000000000 < n ∧ n < 1000000000) := by
  by_cases h0 : n = 0
  · subst h0; decide
  · rw [digitsOf_fmtI n h0, List.length_reverse]
    have hb : absI n < 10 ^ 20 := by rw [pow10_20]; unfold absI; split <;> omega
    have h1 := digs_low 0 20 (absI n) (by simp; unfold absI; split <;> omega) hb
    refine ⟨h1, ?_⟩
    by_cases hs : -1000000000 < n ∧ n < 1000000000
    · have := digs_enough 9 (absI n) (absI_nn n) (by rw [pow10_9]; unfold absI; split <;> omega) 20 (by omega)
      have hl := digs_length 9 (absI n)
      rw [this]
      exact ⟨fun _ => hs, fun _ => hl⟩
    · have := digs_low 9 20 (absI n) (by rw [pow10_9]; unfold absI; split <;> omega) hb
      exact ⟨fun h => by omega, fun h => absurd h hs⟩
/-- a written number is read back, just where it has at most nine digits -/
theorem parseI_fmtI (n : Int) (hlo : -9223372036854775808 ≤ n) (hhi : n ≤ 9223372036854775807) :
    parseI (fmtI n) = if -1000000000 < n ∧ n < 1000000000 then some n else none := by
  have h1 := digitsOf_length_fmtI n hlo hhi
  unfold parseI
  rw [numOf_fmtI n hlo hhi]
  by_cases hs : -1000000000 < n ∧ n < 1000000000
  · rw [if_pos hs, if_pos ⟨h1.1, h1.2.2 hs, okDigits_fmtI n, rfl⟩]
  · rw [if_neg hs, if_neg fun h => hs (h1.2.1 h.2.1)]
theorem pow10_le (k : Nat) (h : k ≤ 9) : (10 : Int) ^ k ≤ 1000000000 := by
  match k, h with
  | 0, _ | 1, _ | 2, _ | 3, _ | 4, _ | 5, _ | 6, _ | 7, _ | 8, _ | 9, _ => decide
theorem parseI_bd {l : List Int} {n : Int} (h : parseI l = some n) : -1000000000 < n ∧ n < 1000000000 := by
  unfold parseI at h
  split at h
  · rename_i hc
    obtain ⟨h1, h2, h3, h4⟩ := hc
    have hv := val_bd _ (okDigits_isD h3)
    have hle := pow10_le _ h2
    injection h with h
    unfold numOf at h
    split at h <;> omega
  · cases h
theorem parseI_fmt {l : List Int} {n : Int} (h : parseI l = some n) : fmtI n = l := by
  unfold parseI at h
  split at h
  · rename_i hc
    injection h with h
    rw [← h]; exact hc.2.2.2
  · cases h

end Go.Proofs.Ytffbamjfpegndab
