/- Parts of the walk in one text: PlA, PlB, PlG, PlH, PlS, PlT, PlU, PlZ, PlI, PlV, PlW, PlX, PlJ. Conditions: each theorem's own. -/
import Derived.Laws.BytesArg
namespace Go.Proofs.Ytknbfohmobjplab

/-! ### bytes as integers -/
def bI (l : List UInt8) : List Int := l.map fun b => (b.toNat : Int)
def toB (l : List Int) : List UInt8 := l.map fun n => UInt8.ofNat n.toNat
def IsB (l : List Int) : Prop := ∀ x ∈ l, 0 ≤ x ∧ x ≤ 255

theorem bI_length (l : List UInt8) : (bI l).length = l.length := by simp [bI]
theorem toB_length (l : List Int) : (toB l).length = l.length := by simp [toB]
theorem isB_bI (l : List UInt8) : IsB (bI l) := by
  intro x hx
  simp only [bI, List.mem_map] at hx
  obtain ⟨b, _, rfl⟩ := hx
  have := b.toNat_lt
  omega
theorem toB_bI (l : List UInt8) : toB (bI l) = l := by
  simp only [toB, bI, List.map_map]
  conv => rhs; rw [← List.map_id l]
  apply List.map_congr_left
  intro b _
  simp
theorem bI_toB (l : List Int) (h : IsB l) : bI (toB l) = l := by
  simp only [toB, bI, List.map_map]
  conv => rhs; rw [← List.map_id l]
  apply List.map_congr_left
  intro x hx
  have := h x hx
  simp
  omega
theorem bI_inj {l r : List UInt8} (h : bI l = bI r) : l = r := by rw [← toB_bI l, h, toB_bI]
theorem toB_inj {l r : List Int} (hl : IsB l) (hr : IsB r) (h : toB l = toB r) : l = r := by rw [← bI_toB l hl, h, bI_toB r hr]
theorem toB_append (l r : List Int) : toB (l ++ r) = toB l ++ toB r := by simp [toB]
theorem bI_append (l r : List UInt8) : bI (l ++ r) = bI l ++ bI r := by simp [bI]
theorem bI_take (l : List UInt8) (k : Nat) : bI (l.take k) = (bI l).take k := by simp [bI]
theorem isB_append {l r : List Int} (hl : IsB l) (hr : IsB r) : IsB (l ++ r) := by
  intro x hx
  rcases List.mem_append.1 hx with h | h
  · exact hl x h
  · exact hr x h
theorem isB_cons {x : Int} {l : List Int} (hx : 0 ≤ x ∧ x ≤ 255) (hl : IsB l) : IsB (x :: l) := by
  intro y hy
  rcases List.mem_cons.1 hy with h | h
  · exact h ▸ hx
  · exact hl y h
theorem isB_nil : IsB [] := fun x hx => by cases hx
theorem isB_reverse {l : List Int} (hl : IsB l) : IsB l.reverse := fun x hx => hl x (List.mem_reverse.1 hx)
theorem take_succ_get (l : List Int) (k : Nat) (h : k < l.length) : l.take (k + 1) = l.take k ++ [l[k]] := by
  rw [List.take_succ_eq_append_getElem h]
theorem bI_get (l : List UInt8) (k : Nat) (h : k < l.length) : (bI l)[k]'(by simpa [bI] using h) = (l[k].toNat : Int) := by simp [bI]

/-! ### hexadecimal digits -/
def hexD (k : Int) : Int := if k < 10 then 48 + k else 87 + k
def encHex (l : List Int) : List Int := l.flatMap fun b => [hexD (b / 16), hexD (b % 16)]
theorem encHex_nil : encHex [] = [] := rfl
theorem encHex_cons (b : Int) (l : List Int) : encHex (b :: l) = hexD (b / 16) :: hexD (b % 16) :: encHex l := rfl
theorem encHex_snoc (l : List Int) (b : Int) : encHex (l ++ [b]) = encHex l ++ [hexD (b / 16), hexD (b % 16)] := by simp [encHex]
theorem encHex_length (l : List Int) : (encHex l).length = 2 * l.length := by
  induction l with
  | nil => rfl
  | cons b l ih => rw [encHex_cons, List.length_cons, List.length_cons, ih, List.length_cons]; omega
theorem hexD_b (k : Int) (h : 0 ≤ k ∧ k ≤ 15) : 48 ≤ hexD k ∧ hexD k ≤ 102 := by unfold hexD; split <;> omega
theorem isB_encHex (l : List Int) (h : IsB l) : IsB (encHex l) := by
  induction l with
  | nil => exact isB_nil
  | cons b l ih =>
    have hb := h b (by simp)
    have h1 := hexD_b (b / 16) (by omega)
    have h2 := hexD_b (b % 16) (by omega)
    rw [encHex_cons]
    exact isB_cons (by omega) (isB_cons (by omega) (ih fun x hx => h x (by simp [hx])))

def hexV (b : Int) : Int := if 48 ≤ b ∧ b ≤ 57 then b - 48 else if 97 ≤ b ∧ b ≤ 102 then b - 87 else -1
theorem hexV_b (b : Int) : -1 ≤ hexV b ∧ hexV b ≤ 15 := by
  unfold hexV
  split
  · omega
  · split <;> omega
theorem hexV_hexD (k : Int) (h : 0 ≤ k ∧ k ≤ 15) : hexV (hexD k) = k := by
  unfold hexD hexV
  by_cases h1 : k < 10
  · rw [if_pos h1, if_pos (by omega)]; omega
  · rw [if_neg h1, if_neg (by omega), if_pos (by omega)]; omega
theorem hexD_eq (k b : Int) (h : 0 ≤ k ∧ k ≤ 15) : hexD k = b ↔ hexV b = k := by
  constructor
  · rintro rfl; exact hexV_hexD k h
  · intro hb
    unfold hexV at hb
    unfold hexD
    split at hb
    · rw [if_pos (by omega)]; omega
    · split at hb
      · rw [if_neg (by omega)]; omega
      · omega

def decHex : List Int → Option (List Int)
  | [] => some []
  | [_] => none
  | a :: b :: r => if hexV a < 0 ∨ hexV b < 0 then none else (decHex r).map fun t => (hexV a * 16 + hexV b) :: t
theorem decHex_encHex (l : List Int) (h : IsB l) : decHex (encHex l) = some l := by
  induction l with
  | nil => rfl
  | cons b l ih =>
    have hb := h b (by simp)
    rw [encHex_cons, decHex, hexV_hexD _ (by omega), hexV_hexD _ (by omega), if_neg (by omega), ih fun x hx => h x (by simp [hx])]
    simp only [Option.map_some]
    congr 2
    omega
theorem decHex_odd : ∀ (n : Nat) (l : List Int), l.length = 2 * n + 1 → decHex l = none := by
  intro n
  induction n with
  | zero =>
    intro l hl
    match l, hl with
    | [a], _ => rfl
  | succ n ih =>
    intro l hl
    match l, hl with
    | a :: b :: r, hl =>
      simp only [List.length_cons] at hl
      rw [decHex, ih r (by omega)]
      simp
/-- what is decoded of the first k pairs: none where a digit is wrong -/
theorem decHex_step (l : List Int) (k : Nat) (out : List Int) (hk : 2 * k + 1 < l.length) (h : decHex l = (decHex (l.drop (2 * k))).map (out ++ ·)) :
    (¬ (hexV l[2 * k] < 0 ∨ hexV l[2 * k + 1] < 0) → decHex l = (decHex (l.drop (2 * (k + 1)))).map ((out ++ [hexV l[2 * k] * 16 + hexV l[2 * k + 1]]) ++ ·)) ∧
    ((hexV l[2 * k] < 0 ∨ hexV l[2 * k + 1] < 0) → decHex l = none) := by
  have e : l.drop (2 * k) = l[2 * k] :: l[2 * k + 1] :: l.drop (2 * (k + 1)) := by
    rw [List.drop_eq_getElem_cons (by omega), List.drop_eq_getElem_cons (by omega)]
    rfl
  rw [e, decHex] at h
  constructor
  · intro hv
    rw [if_neg hv] at h
    rw [h]
    simp [Option.map_map, Function.comp_def]
  · intro hv
    rw [if_pos hv] at h
    rw [h]
    rfl
theorem decHex_isB : ∀ (l r : List Int), decHex l = some r → IsB r
  | [], r, h => by simp [decHex] at h; subst h; exact isB_nil
  | [_], r, h => by simp [decHex] at h
  | a :: b :: l, r, h => by
    rw [decHex] at h
    split at h
    · cases h
    · rename_i hv
      obtain ⟨t, ht, rfl⟩ := Option.map_eq_some_iff.1 h
      have h1 := hexV_b a
      have h2 := hexV_b b
      exact isB_cons (by omega) (decHex_isB l t ht)

/-! ### numbers of a fixed width -/
def decFix (l : List Int) : Int := l.foldl (fun n b => n * 256 + b) 0
theorem decFix_snoc (l : List Int) (b : Int) : decFix (l ++ [b]) = decFix l * 256 + b := by simp [decFix]
theorem pow256 (k : Nat) : (256 : Int) ^ (k + 1) = 256 ^ k * 256 := Int.pow_succ 256 k
theorem pow256_pos (k : Nat) : (0 : Int) < 256 ^ k := Int.pow_pos (by omega)
theorem decFix_bd (l : List Int) (h : IsB l) : 0 ≤ decFix l ∧ decFix l < 256 ^ l.length := by
  suffices H : ∀ r : List Int, IsB r.reverse → 0 ≤ decFix r.reverse ∧ decFix r.reverse < 256 ^ r.length by
    have := H l.reverse (by simpa using h)
    simpa using this
  intro r
  induction r with
  | nil => intro _; exact ⟨Int.le_refl _, by decide⟩
  | cons b r ih =>
    intro hr
    rw [List.reverse_cons] at hr ⊢
    have hb := hr b (by simp)
    have := ih fun x hx => hr x (by simp at hx ⊢; simp [hx])
    rw [decFix_snoc, List.length_cons, pow256]
    omega
def encFix : Nat → Int → List Int
  | 0, _ => []
  | w + 1, n => encFix w (n / 256) ++ [n % 256]
theorem encFix_length (w : Nat) : ∀ n, (encFix w n).length = w := by
  induction w with
  | zero => intro _; rfl
  | succ w ih => intro n; rw [encFix, List.length_append, ih]; rfl
theorem encFix_isB (w : Nat) : ∀ n, IsB (encFix w n) := by
  induction w with
  | zero => intro _; exact isB_nil
  | succ w ih => intro n; exact isB_append (ih _) (isB_cons (by omega) isB_nil)
theorem div_pow256 (n : Int) (k : Nat) : n / 256 / 256 ^ k = n / 256 ^ (k + 1) := by
  rw [Int.ediv_ediv_of_nonneg (by omega), pow256, Int.mul_comm]
theorem div_pow256' (n : Int) (k : Nat) : n / 256 ^ k / 256 = n / 256 ^ (k + 1) := by
  rw [Int.ediv_ediv_of_nonneg (Int.le_of_lt (pow256_pos k)), pow256]
/-- one digit more, ahead of the others -/
theorem encFix_front (w : Nat) : ∀ n, encFix (w + 1) n = (n / 256 ^ w % 256) :: encFix w n := by
  induction w with
  | zero => intro n; simp [encFix]
  | succ w ih =>
    intro n
    rw [encFix, ih (n / 256), encFix, div_pow256]
    rfl
theorem decFix_encFix (w : Nat) : ∀ n, 0 ≤ n → n < 256 ^ w → decFix (encFix w n) = n := by
  induction w with
  | zero => intro n h0 h; simp at h; simp [encFix, decFix]; omega
  | succ w ih =>
    intro n h0 h
    rw [pow256] at h
    rw [encFix, decFix_snoc, ih (n / 256) (by omega) (by omega)]
    omega

/-! ### varints -/
def encVar : Nat → Int → List Int
  | 0, n => [n]
  | f + 1, n => if 127 < n then (128 + n % 128) :: encVar f (n / 128) else [n]
theorem encVar_isB (f : Nat) : ∀ n, 0 ≤ n → n < 128 ^ (f + 1) → IsB (encVar f n) := by
  induction f with
  | zero => intro n h0 h; simp at h; exact isB_cons (by omega) isB_nil
  | succ f ih =>
    intro n h0 h
    rw [encVar]
    have hp : (128 : Int) ^ (f + 1 + 1) = 128 ^ (f + 1) * 128 := Int.pow_succ 128 (f + 1)
    split
    · exact isB_cons (by omega) (ih (n / 128) (by omega) (by omega))
    · exact isB_cons (by omega) isB_nil
theorem encVar_length (f : Nat) : ∀ n, 1 ≤ (encVar f n).length ∧ (encVar f n).length ≤ f + 1 := by
  induction f with
  | zero => intro n; simp [encVar]
  | succ f ih =>
    intro n
    rw [encVar]
    have := ih (n / 128)
    split <;> simp <;> omega
/-- the value of a list of groups of seven bits -/
def leb : List Int → Int
  | [] => 0
  | b :: l => b % 128 + 128 * leb l
theorem leb_encVar (f : Nat) : ∀ n, 0 ≤ n → n < 128 ^ (f + 1) → leb (encVar f n) = n := by
  induction f with
  | zero => intro n h0 h; simp at h; simp [encVar, leb]; omega
  | succ f ih =>
    intro n h0 h
    have hp : (128 : Int) ^ (f + 1 + 1) = 128 ^ (f + 1) * 128 := Int.pow_succ 128 (f + 1)
    rw [encVar]
    split
    · rw [leb, ih (n / 128) (by omega) (by omega)]; omega
    · simp [leb]; omega
theorem pow128_pos (k : Nat) : (0 : Int) < 128 ^ k := Int.pow_pos (by omega)
theorem leb_bd (l : List Int) : 0 ≤ leb l ∧ leb l < 128 ^ l.length := by
  induction l with
  | nil => exact ⟨Int.le_refl _, by decide⟩
  | cons b l ih =>
    have hp : (128 : Int) ^ (l.length + 1) = 128 ^ l.length * 128 := Int.pow_succ 128 l.length
    rw [leb, List.length_cons]
    omega
theorem leb_snoc (l : List Int) (b : Int) : leb (l ++ [b]) = leb l + 128 ^ l.length * (b % 128) := by
  induction l with
  | nil => simp [leb]
  | cons a l ih =>
    have hp : (128 : Int) ^ (l.length + 1) = 128 * 128 ^ l.length := by rw [Int.pow_succ, Int.mul_comm]
    rw [List.cons_append, leb, ih, leb, List.length_cons, hp, Int.mul_add, Int.mul_assoc, Int.add_assoc]
/-- the first byte below 128, among the first seven -/
def lowAt (l : List Int) : Option Nat := (l.take 7).findIdx? (· < 128)
def decVar (l : List Int) : Int × Int :=
  match lowAt l with
  | none => (0, 0)
  | some i => if encVar 6 (leb (l.take (i + 1))) = l.take (i + 1) then (leb (l.take (i + 1)), (i : Int) + 1) else (0, 0)
/-- all bytes but the last are at least 128, the last one is below -/
theorem encVar_low (f : Nat) : ∀ n, 0 ≤ n → n < 128 ^ (f + 1) → ∀ r, (encVar f n ++ r).findIdx? (· < 128) = some ((encVar f n).length - 1) := by
  induction f with
  | zero => intro n h0 h r; simp at h; simp [encVar, List.findIdx?_cons, h]
  | succ f ih =>
    intro n h0 h r
    have hp : (128 : Int) ^ (f + 1 + 1) = 128 ^ (f + 1) * 128 := Int.pow_succ 128 (f + 1)
    rw [encVar]
    split
    · have hl := encVar_length f (n / 128)
      rw [List.cons_append, List.findIdx?_cons, if_neg (by simp; omega), ih (n / 128) (by omega) (by omega) r]
      simp
      omega
    · have hn : n < 128 := by omega
      simp [List.findIdx?_cons, hn]
theorem decVar_encVar (n : Int) (h0 : 0 ≤ n) (h : n < 128 ^ 7) (r : List Int) : decVar (encVar 6 n ++ r) = (n, ((encVar 6 n).length : Int)) := by
  have hl := encVar_length 6 n
  have e : (encVar 6 n ++ r).take 7 = encVar 6 n ++ r.take (7 - (encVar 6 n).length) := by
    rw [List.take_append, List.take_of_length_le (by omega)]
  have hlow : lowAt (encVar 6 n ++ r) = some ((encVar 6 n).length - 1) := by
    rw [lowAt, e, encVar_low 6 n h0 h]
  have ht : (encVar 6 n ++ r).take ((encVar 6 n).length - 1 + 1) = encVar 6 n := by
    rw [show (encVar 6 n).length - 1 + 1 = (encVar 6 n).length by omega, List.take_left]
  unfold decVar
  rw [hlow]
  simp only [ht, leb_encVar 6 n h0 h, if_true]
  congr 1
  omega

/-! ### decimal numbers -/
def digs : Nat → Int → List Int
  | 0, _ => []
  | f + 1, m => if m = 0 then [] else (48 + m % 10) :: digs f (m / 10)
def absI (n : Int) : Int := if n < 0 then -n else n
def fmtI (n : Int) : List Int := if n = 0 then [48] else (if n < 0 then [45] else []) ++ (digs 20 (absI n)).reverse
def IsD (l : List Int) : Prop := ∀ x ∈ l, 48 ≤ x ∧ x ≤ 57
theorem digs_isD (f : Nat) : ∀ m, 0 ≤ m → IsD (digs f m) := by
  induction f with
  | zero => intro _ _ x hx; cases hx
  | succ f ih =>
    intro m h0
    rw [digs]
    split
    · intro x hx; cases hx
    · intro x hx
      rcases List.mem_cons.1 hx with rfl | hx
      · omega
      · exact ih (m / 10) (by omega) x hx
theorem digs_length (f : Nat) : ∀ m, (digs f m).length ≤ f := by
  induction f with
  | zero => intro _; simp [digs]
  | succ f ih => intro m; rw [digs]; have := ih (m / 10); split <;> simp; omega
theorem absI_nn (n : Int) : 0 ≤ absI n := by unfold absI; split <;> omega
theorem fmtI_isB (n : Int) : IsB (fmtI n) := by
  unfold fmtI
  split
  · exact isB_cons (by omega) isB_nil
  · refine isB_append ?_ (isB_reverse fun x hx => ?_)
    · split
      · exact isB_cons (by omega) isB_nil
      · exact isB_nil
    · have := digs_isD 20 (absI n) (absI_nn n) x hx; omega
theorem fmtI_length (n : Int) : (fmtI n).length ≤ 21 := by
  unfold fmtI
  split
  · simp
  · have := digs_length 20 (absI n)
    split <;> simp <;> omega

/-- the number that a list of digits stands for, the first one the greatest -/
def val (l : List Int) : Int := l.foldl (fun n b => 10 * n + (b - 48)) 0
theorem val_snoc (l : List Int) (b : Int) : val (l ++ [b]) = 10 * val l + (b - 48) := by simp [val]
theorem val_digs (f : Nat) : ∀ m, 0 ≤ m → m < 10 ^ f → val (digs f m).reverse = m := by
  induction f with
  | zero =>
    intro m h0 h
    have h1 : m = 0 := by simp at h; omega
    rw [h1]; rfl
  | succ f ih =>
    intro m h0 h
    have hp : (10 : Int) ^ (f + 1) = 10 ^ f * 10 := Int.pow_succ 10 f
    rw [digs]
    split
    · rename_i e; subst e; rfl
    · rw [List.reverse_cons, val_snoc, ih (m / 10) (by omega) (by omega)]
      omega
theorem val_bd (l : List Int) (h : IsD l) : 0 ≤ val l ∧ val l < 10 ^ l.length := by
  suffices H : ∀ r : List Int, IsD r.reverse → 0 ≤ val r.reverse ∧ val r.reverse < 10 ^ r.length by
    have := H l.reverse (by simpa using h)
    simpa using this
  intro r
  induction r with
  | nil => intro _; exact ⟨Int.le_refl _, by decide⟩
  | cons b r ih =>
    intro hr
    have hp : (10 : Int) ^ (r.length + 1) = 10 ^ r.length * 10 := Int.pow_succ 10 r.length
    rw [List.reverse_cons] at hr ⊢
    have hb := hr b (by simp)
    have := ih fun x hx => hr x (by simp at hx ⊢; simp [hx])
    rw [val_snoc, List.length_cons]
    omega
/-- more digits than the number has -/
theorem digs_enough (f : Nat) : ∀ m, 0 ≤ m → m < 10 ^ f → ∀ g, f ≤ g → digs g m = digs f m := by
  induction f with
  | zero =>
    intro m h0 h g _
    simp at h
    have : m = 0 := by omega
    subst this
    cases g <;> simp [digs]
  | succ f ih =>
    intro m h0 h g hg
    have hp : (10 : Int) ^ (f + 1) = 10 ^ f * 10 := Int.pow_succ 10 f
    obtain ⟨g, rfl⟩ : ∃ g', g = g' + 1 := ⟨g - 1, by omega⟩
    rw [digs, digs, ih (m / 10) (by omega) (by omega) g (by omega)]
/-- so many digits at the least -/
theorem digs_low (k : Nat) : ∀ f m, 10 ^ k ≤ m → m < 10 ^ f → k < (digs f m).length := by
  induction k with
  | zero =>
    intro f m h0 h
    cases f with
    | zero => simp at h h0; omega
    | succ f => rw [digs, if_neg (by simp at h0; omega)]; simp
  | succ k ih =>
    intro f m h0 h
    have hp : (10 : Int) ^ (k + 1) = 10 ^ k * 10 := Int.pow_succ 10 k
    have hk : (0 : Int) < 10 ^ k := Int.pow_pos (by omega)
    cases f with
    | zero => simp at h; omega
    | succ f =>
      have hq : (10 : Int) ^ (f + 1) = 10 ^ f * 10 := Int.pow_succ 10 f
      rw [digs, if_neg (by omega)]
      have := ih f (m / 10) (by omega) (by omega)
      simp; omega

def isMinus (l : List Int) : Bool := l.head? == some 45
def digitsOf (l : List Int) : List Int := if isMinus l then l.tail else l
def numOf (l : List Int) : Int := if isMinus l then - val (digitsOf l) else val (digitsOf l)
def okDigits (l : List Int) : Bool := l.all fun b => decide (48 ≤ b ∧ b ≤ 57)
/-- what 'ParseInt' gives: a number of at most nine digits that is written so -/
def parseI (l : List Int) : Option Int :=
  if 1 ≤ (digitsOf l).length ∧ (digitsOf l).length ≤ 9 ∧ okDigits (digitsOf l) = true ∧ fmtI (numOf l) = l then some (numOf l) else none
theorem isMinus_fmtI (n : Int) : isMinus (fmtI n) = decide (n < 0) := by
  unfold fmtI isMinus
  by_cases h0 : n = 0
  · subst h0; rfl
  · rw [if_neg h0]
    by_cases h : n < 0
    · simp [h]
    · simp only [h, if_false, List.nil_append, decide_false]
      rw [beq_eq_false_iff_ne]
      intro he
      have hm : (45 : Int) ∈ (digs 20 (absI n)).reverse := List.mem_of_mem_head? he
      have := digs_isD 20 (absI n) (absI_nn n) 45 (by simpa using hm)
      omega
theorem digitsOf_fmtI (n : Int) (h0 : n ≠ 0) : digitsOf (fmtI n) = (digs 20 (absI n)).reverse := by
  unfold digitsOf
  rw [isMinus_fmtI]
  by_cases h : n < 0
  · simp [h, fmtI, h0]
  · simp [h, fmtI, h0]
theorem pow10_20 : (10 : Int) ^ 20 = 100000000000000000000 := by decide
theorem numOf_fmtI (n : Int) (hlo : -9223372036854775808 ≤ n) (hhi : n ≤ 9223372036854775807) : numOf (fmtI n) = n := by
  by_cases h0 : n = 0
  · subst h0; decide
  · unfold numOf
    rw [digitsOf_fmtI n h0, isMinus_fmtI, val_digs 20 _ (absI_nn n) (by rw [pow10_20]; unfold absI; split <;> omega)]
    unfold absI
    by_cases h : n < 0 <;> simp [h]
theorem okDigits_of {l : List Int} (h : IsD l) : okDigits l = true := by
  unfold okDigits
  rw [List.all_eq_true]
  intro x hx
  exact decide_eq_true (h x hx)
theorem okDigits_isD {l : List Int} (h : okDigits l = true) : IsD l := by
  unfold okDigits at h
  rw [List.all_eq_true] at h
  intro x hx
  exact of_decide_eq_true (h x hx)
theorem okDigits_fmtI (n : Int) : okDigits (digitsOf (fmtI n)) = true := by
  by_cases h0 : n = 0
  · subst h0; decide
  · rw [digitsOf_fmtI n h0]
    exact okDigits_of fun x hx => digs_isD 20 _ (absI_nn n) x (by simpa using hx)
theorem pow10_9 : (10 : Int) ^ 9 = 1000000000 := by decide
theorem digitsOf_length_fmtI (n : Int) (hlo : -9223372036854775808 ≤ n) (hhi : n ≤ 9223372036854775807) :
    1 ≤ (digitsOf (fmtI n)).length ∧ ((digitsOf (fmtI n)).length ≤ 9 ↔ -1000000000 < n ∧ n < 1000000000) := by
  by_cases h0 : n = 0
  · subst h0; decide
  · rw [digitsOf_fmtI n h0, List.length_reverse]
    have hb : absI n < 10 ^ 20 := by rw [pow10_20]; unfold absI; split <;> omega
    have h1 := digs_low 0 20 (absI n) (by simp; unfold absI; split <;> omega) hb
    refine ⟨h1, ?_⟩
    by_cases hs : -1000000000 < n ∧ n < 1000000000
    · have := digs_enough 9 (absI n) (absI_nn n) (by rw [pow10_9]; unfold absI; split <;> omega) 20 (by omega)
      have hl := digs_length 9 (absI n)
      rw [this]
      exact ⟨fun _ => hs, fun _ => hl⟩
    · have := digs_low 9 20 (absI n) (by rw [pow10_9]; unfold absI; split <;> omega) hb
      exact ⟨fun h => by omega, fun h => absurd h hs⟩
/-- a written number is read back, just where it has at most nine digits -/
theorem parseI_fmtI (n : Int) (hlo : -9223372036854775808 ≤ n) (hhi : n ≤ 9223372036854775807) :
    parseI (fmtI n) = if -1000000000 < n ∧ n < 1000000000 then some n else none := by
  have h1 := digitsOf_length_fmtI n hlo hhi
  unfold parseI
  rw [numOf_fmtI n hlo hhi]
  by_cases hs : -1000000000 < n ∧ n < 1000000000
  · rw [if_pos hs, if_pos ⟨h1.1, h1.2.2 hs, okDigits_fmtI n, rfl⟩]
  · rw [if_neg hs, if_neg fun h => hs (h1.2.1 h.2.1)]
theorem pow10_le (k : Nat) (h : k ≤ 9) : (10 : Int) ^ k ≤ 1000000000 := by
  match k, h with
  | 0, _ | 1, _ | 2, _ | 3, _ | 4, _ | 5, _ | 6, _ | 7, _ | 8, _ | 9, _ => decide
theorem parseI_bd {l : List Int} {n : Int} (h : parseI l = some n) : -1000000000 < n ∧ n < 1000000000 := by
  unfold parseI at h
  split at h
  · rename_i hc
    obtain ⟨h1, h2, h3, h4⟩ := hc
    have hv := val_bd _ (okDigits_isD h3)
    have hle := pow10_le _ h2
    injection h with h
    unfold numOf at h
    split at h <;> omega
  · cases h
theorem parseI_fmt {l : List Int} {n : Int} (h : parseI l = some n) : fmtI n = l := by
  unfold parseI at h
  split at h
  · rename_i hc
    injection h with h
    rw [← h]; exact hc.2.2.2
  · cases h

end Go.Proofs.Ytknbfohmobjplab

namespace Go.Proofs.Ytknbfohmobjplab

theorem lowAt_some (l : List Int) (k : Nat) (hk : k < l.length) (h7 : k < 7) (hall : ∀ x ∈ l.take k, 128 ≤ x) (hlow : l[k] < 128) : lowAt l = some k := by
  have e : l.take 7 = l.take k ++ (l[k] :: (l.take 7).drop (k + 1)) := by
    conv => lhs; rw [← List.take_append_drop k (l.take 7)]
    rw [List.take_take, Nat.min_eq_left (by omega), List.drop_eq_getElem_cons (by rw [List.length_take]; omega)]
    simp
  unfold lowAt
  rw [e, List.findIdx?_append]
  have h1 : (l.take k).findIdx? (fun x => decide (x < 128)) = none := by
    rw [List.findIdx?_eq_none_iff]
    intro x hx
    have := hall x hx
    simp
    omega
  rw [h1]
  simp [List.findIdx?_cons, hlow, List.length_take]
  omega
theorem lowAt_none (l : List Int) (hall : ∀ x ∈ l.take 7, 128 ≤ x) : lowAt l = none := by
  unfold lowAt
  rw [List.findIdx?_eq_none_iff]
  intro x hx
  have := hall x hx
  simp
  omega
theorem decVar_at (l : List Int) (k : Nat) (hk : k < l.length) (h7 : k < 7) (hall : ∀ x ∈ l.take k, 128 ≤ x) (hlow : l[k] < 128) :
    decVar l = if encVar 6 (leb (l.take (k + 1))) = l.take (k + 1) then (leb (l.take (k + 1)), (k : Int) + 1) else (0, 0) := by
  unfold decVar
  rw [lowAt_some l k hk h7 hall hlow]
theorem decVar_none (l : List Int) (hall : ∀ x ∈ l.take 7, 128 ≤ x) : decVar l = (0, 0) := by
  unfold decVar
  rw [lowAt_none l hall]
theorem pow128_7 : (128 : Int) ^ 7 = 562949953421312 := by decide
theorem leb_small (l : List Int) (h : l.length ≤ 7) : 0 ≤ leb l ∧ leb l ≤ 562949953421311 := by
  have h1 := leb_bd l
  have h2 : (128 : Int) ^ l.length ≤ 562949953421312 := by
    generalize l.length = m at h
    match m, h with
    | 0, _ | 1, _ | 2, _ | 3, _ | 4, _ | 5, _ | 6, _ | 7, _ => decide
  omega
theorem decVar_hit (l : List Int) (k : Nat) (h1 : 1 ≤ k) (h7 : k ≤ 7) (hk : k ≤ l.length) (h : encVar 6 (leb (l.take k)) = l.take k) : decVar l = (leb (l.take k), (k : Int)) := by
  have hb := leb_small (l.take k) (by rw [List.length_take]; omega)
  have hd := decVar_encVar (leb (l.take k)) hb.1 (by rw [pow128_7]; omega) (l.drop k)
  rw [h, List.take_append_drop] at hd
  rw [hd, List.length_take, Nat.min_eq_left hk]
theorem decVar_miss (l : List Int) (h : ∀ k, 1 ≤ k → k ≤ 7 → k ≤ l.length → encVar 6 (leb (l.take k)) ≠ l.take k) : decVar l = (0, 0) := by
  unfold decVar
  cases hl : lowAt l with
  | none => rfl
  | some i =>
    have hi : i < (l.take 7).length := by
      unfold lowAt at hl
      exact List.of_findIdx?_eq_some hl |> fun _ => by
        rw [List.findIdx?_eq_some_iff_getElem] at hl
        exact hl.1
    rw [List.length_take] at hi
    simp only
    rw [if_neg (h (i + 1) (by omega) (by omega) (by omega))]
/-- the value of the later ones, one more ahead -/
theorem leb_drop (l : List Int) (k i : Nat) (hi : i < k) (hk : k ≤ l.length) : leb ((l.take k).drop i) = l[i]'(by omega) % 128 + 128 * leb ((l.take k).drop (i + 1)) := by
  rw [List.drop_eq_getElem_cons (by rw [List.length_take]; omega), leb]
  simp

/-! ### ParseInt -/
def parseR (l : List Int) : Int × Bool := match parseI l with | some n => (n, true) | none => (0, false)
theorem parseR_some {l : List Int} {n : Int} (h : parseI l = some n) : parseR l = (n, true) := by unfold parseR; rw [h]
theorem parseR_none {l : List Int} (h : parseI l = none) : parseR l = (0, false) := by unfold parseR; rw [h]
def isDig (b : Int) : Bool := decide (48 ≤ b ∧ b ≤ 57)
/-- the digits among the first eleven bytes -/
def dsOf (l : List Int) : List Int := (l.take 11).filter isDig
def numS (l : List Int) : Int := if isMinus l then - val (dsOf l) else val (dsOf l)
theorem dsOf_isD (l : List Int) : IsD (dsOf l) := by
  intro x hx
  unfold dsOf at hx
  rw [List.mem_filter] at hx
  exact of_decide_eq_true hx.2
theorem filter_isD {l : List Int} (h : IsD l) : l.filter isDig = l := by
  rw [List.filter_eq_self]
  intro x hx
  exact decide_eq_true (h x hx)
theorem dsOf_eq (l : List Int) (h10 : l.length ≤ 10) (hd : okDigits (digitsOf l) = true) : dsOf l = digitsOf l := by
  unfold dsOf
  rw [List.take_of_length_le (by omega)]
  unfold digitsOf at hd ⊢
  by_cases hm : isMinus l = true
  · rw [if_pos hm] at hd ⊢
    cases l with
    | nil => rfl
    | cons b t =>
      have hb : b = 45 := by simpa [isMinus] using hm
      subst hb
      simp only [List.tail_cons] at hd ⊢
      rw [List.filter_cons, if_neg (by decide), filter_isD (okDigits_isD hd)]
  · rw [if_neg hm] at hd ⊢
    exact filter_isD (okDigits_isD hd)
theorem numS_eq (l : List Int) (h10 : l.length ≤ 10) (hd : okDigits (digitsOf l) = true) : numS l = numOf l := by
  unfold numS numOf
  rw [dsOf_eq l h10 hd]
theorem digitsOf_length (l : List Int) : l.length ≤ (digitsOf l).length + 1 := by
  unfold digitsOf
  split
  · rw [List.length_tail]; omega
  · omega
theorem dsOf_length (l : List Int) : (dsOf l).length ≤ 11 := by
  unfold dsOf
  exact Nat.le_trans (List.length_filter_le _ _) (by rw [List.length_take]; omega)
theorem numS_bd (l : List Int) : -100000000000 < numS l ∧ numS l < 100000000000 := by
  have h := val_bd _ (dsOf_isD l)
  have h2 : (10 : Int) ^ (dsOf l).length ≤ 100000000000 := by
    have h3 := dsOf_length l
    generalize (dsOf l).length = m at h3
    match m, h3 with
    | 0, _ | 1, _ | 2, _ | 3, _ | 4, _ | 5, _ | 6, _ | 7, _ | 8, _ | 9, _ | 10, _ | 11, _ => decide
  unfold numS
  split <;> omega
/-- the reference's way to read a number gives the same -/
theorem parseS_yes (l : List Int) (h9 : (dsOf l).length ≤ 9) (h10 : l.length ≤ 10) (hf : fmtI (numS l) = l) : parseI l = some (numS l) := by
  have hb := numS_bd l
  have hd : okDigits (digitsOf l) = true := by rw [← hf]; exact okDigits_fmtI _
  have hl := digitsOf_length_fmtI (numS l) (by omega) (by omega)
  rw [hf, ← dsOf_eq l h10 hd] at hl
  have := parseI_fmtI (numS l) (by omega) (by omega)
  rw [hf] at this
  rw [this, if_pos (hl.2.1 h9)]
theorem parseS_no (l : List Int) (h : ¬ ((dsOf l).length ≤ 9 ∧ l.length ≤ 10 ∧ fmtI (numS l) = l)) : parseI l = none := by
  cases hp : parseI l with
  | none => rfl
  | some n =>
    exfalso
    apply h
    have hf := parseI_fmt hp
    unfold parseI at hp
    split at hp
    · rename_i hc
      injection hp with hp
      have h10 : l.length ≤ 10 := by have := digitsOf_length l; omega
      have hn := numS_eq l h10 hc.2.2.1
      exact ⟨by rw [dsOf_eq l h10 hc.2.2.1]; exact hc.2.1, h10, by rw [hn]; exact hc.2.2.2⟩
    · cases hp
/-- one byte more among the first eleven -/
theorem filter_step (l : List Int) (k : Nat) (hk : k < l.length) : (isDig l[k] = true → (l.take (k + 1)).filter isDig = (l.take k).filter isDig ++ [l[k]]) ∧ (isDig l[k] = false → (l.take (k + 1)).filter isDig = (l.take k).filter isDig) := by
  rw [take_succ_get l k hk, List.filter_append]
  constructor
  · intro h; rw [List.filter_cons, if_pos h]; rfl
  · intro h; rw [List.filter_cons, if_neg (by rw [h]; simp)]; simp

end Go.Proofs.Ytknbfohmobjplab

namespace Go.Proofs.Ytknbfohmobjplab

def prodL (l : List Int) : Int := l.foldl (· * ·) 1
theorem foldl_mul (l : List Int) : ∀ a : Int, l.foldl (· * ·) a = a * prodL l := by
  unfold prodL
  induction l with
  | nil => intro a; simp
  | cons o r ih => intro a; rw [List.foldl_cons, List.foldl_cons, ih (a * o), ih (1 * o), Int.one_mul, Int.mul_assoc]
theorem prodL_nil : prodL [] = 1 := rfl
theorem prodL_cons (o : Int) (r : List Int) : prodL (o :: r) = o * prodL r := by
  show (o :: r).foldl (· * ·) 1 = _
  rw [List.foldl_cons, foldl_mul, Int.one_mul]
theorem prodL_snoc (l : List Int) (o : Int) : prodL (l ++ [o]) = prodL l * o := by
  show (l ++ [o]).foldl (· * ·) 1 = _
  rw [List.foldl_append]
  rfl
theorem prodL_append (l r : List Int) : prodL (l ++ r) = prodL l * prodL r := by
  induction l with
  | nil => rw [List.nil_append, prodL_nil, Int.one_mul]
  | cons o t ih => rw [List.cons_append, prodL_cons, prodL_cons, ih, Int.mul_assoc]
/-- all orders are at least two -/
def Big (l : List Int) : Prop := ∀ o ∈ l, 2 ≤ o
theorem Big.tail {o : Int} {r : List Int} (h : Big (o :: r)) : Big r := fun x hx => h x (by simp [hx])
theorem Big.head {o : Int} {r : List Int} (h : Big (o :: r)) : 2 ≤ o := h o (by simp)
theorem Big.drop {l : List Int} (h : Big l) (k : Nat) : Big (l.drop k) := fun x hx => h x (List.mem_of_mem_drop hx)
theorem Big.take {l : List Int} (h : Big l) (k : Nat) : Big (l.take k) := fun x hx => h x (List.mem_of_mem_take hx)
theorem prodL_pos {l : List Int} (h : Big l) : 1 ≤ prodL l := by
  induction l with
  | nil => decide
  | cons o r ih =>
    rw [prodL_cons]
    have h1 := ih h.tail
    have h2 := h.head
    have := Int.mul_le_mul (show (1 : Int) ≤ o by omega) h1 (by omega) (by omega)
    omega
theorem prodL_take_le {l : List Int} (h : Big l) (k : Nat) : prodL (l.take k) ≤ prodL l := by
  have e : prodL l = prodL (l.take k) * prodL (l.drop k) := by rw [← prodL_append, List.take_append_drop]
  have h1 := prodL_pos (h.take k)
  have h2 := prodL_pos (h.drop k)
  rw [e]
  have := Int.mul_le_mul_of_nonneg_left h2 (show 0 ≤ prodL (l.take k) by omega)
  omega

def isGroup (l : List Int) : Bool := decide (l.length ≤ 3 ∧ (∀ o ∈ l, 2 ≤ o ∧ o ≤ 24) ∧ prodL l ≤ 24)
theorem isGroup_iff (l : List Int) : isGroup l = true ↔ l.length ≤ 3 ∧ (∀ o ∈ l, 2 ≤ o ∧ o ≤ 24) ∧ prodL l ≤ 24 := decide_eq_true_iff
theorem isGroup.big {l : List Int} (h : isGroup l = true) : Big l := fun o ho => (((isGroup_iff l).1 h).2.1 o ho).1
theorem isGroup.len {l : List Int} (h : isGroup l = true) : l.length ≤ 3 := ((isGroup_iff l).1 h).1
theorem isGroup.prod {l : List Int} (h : isGroup l = true) : 1 ≤ prodL l ∧ prodL l ≤ 24 := ⟨prodL_pos (isGroup.big h), ((isGroup_iff l).1 h).2.2⟩
def orderOf (l : List Int) : Int := if isGroup l then prodL l else 0
theorem orderOf_yes {l : List Int} (h : isGroup l = true) : orderOf l = prodL l := if_pos h
theorem orderOf_no {l : List Int} (h : isGroup l = false) : orderOf l = 0 := by unfold orderOf; rw [h]; rfl
theorem orderOf_bd (l : List Int) : 0 ≤ orderOf l ∧ orderOf l ≤ 24 := by
  unfold orderOf
  split
  · rename_i h; have := isGroup.prod h; omega
  · omega
def isEl (l : List Int) (x : Int) : Bool := decide (0 ≤ x ∧ x < orderOf l)
theorem isEl_iff (l : List Int) (x : Int) : isEl l x = true ↔ 0 ≤ x ∧ x < orderOf l := decide_eq_true_iff
theorem isEl.group {l : List Int} {x : Int} (h : isEl l x = true) : isGroup l = true := by
  rw [isEl_iff] at h
  cases hg : isGroup l
  · rw [orderOf_no hg] at h; omega
  · rfl
theorem isEl.bd {l : List Int} {x : Int} (h : isEl l x = true) : 0 ≤ x ∧ x < prodL l := by
  have hg := isEl.group h
  rw [isEl_iff, orderOf_yes hg] at h
  exact h

/-! ### places -/
def places : List Int → Int → List Int
  | [], _ => []
  | o :: r, x => x % o :: places r (x / o)
def elemOf : List Int → List Int → Int
  | o :: r, p :: q => p + o * elemOf r q
  | _, _ => 0
theorem places_length (l : List Int) : ∀ x, (places l x).length = l.length := by
  induction l with
  | nil => intro _; rfl
  | cons o r ih => intro x; rw [places, List.length_cons, ih, List.length_cons]
theorem div_lt_of {o x p : Int} (ho : 0 < o) (h : x < o * p) : x / o < p := Int.ediv_lt_of_lt_mul ho (by rw [Int.mul_comm]; exact h)
theorem elemOf_places (l : List Int) : ∀ x, Big l → 0 ≤ x → x < prodL l → elemOf l (places l x) = x := by
  induction l with
  | nil => intro x _ h0 h; rw [prodL_nil] at h; simp [elemOf]; omega
  | cons o r ih =>
    intro x hb h0 h
    have ho := hb.head
    rw [prodL_cons] at h
    have hd := div_lt_of (by omega) h
    rw [places, elemOf, ih (x / o) hb.tail (Int.ediv_nonneg h0 (by omega)) hd]
    have := Int.mul_ediv_add_emod x o
    omega
/-- whether there is one place for each order, and each is in its range -/
def okPlaces : List Int → List Int → Bool
  | [], [] => true
  | o :: r, p :: q => decide (0 ≤ p ∧ p < o) && okPlaces r q
  | _, _ => false
theorem okPlaces_places (l : List Int) : ∀ x, Big l → okPlaces l (places l x) = true := by
  induction l with
  | nil => intro _ _; rfl
  | cons o r ih =>
    intro x hb
    have ho := hb.head
    have h1 := Int.emod_nonneg x (show o ≠ 0 by omega)
    have h2 := Int.emod_lt_of_pos x (show 0 < o by omega)
    rw [places, okPlaces, ih (x / o) hb.tail, decide_eq_true ⟨h1, h2⟩]
    rfl
theorem elemOf_bd (l : List Int) : ∀ q, Big l → okPlaces l q = true → 0 ≤ elemOf l q ∧ elemOf l q < prodL l := by
  induction l with
  | nil => intro q _ h; cases q <;> simp [elemOf, prodL_nil]
  | cons o r ih =>
    intro q hb h
    cases q with
    | nil => simp [okPlaces] at h
    | cons p q =>
      rw [okPlaces, Bool.and_eq_true, decide_eq_true_iff] at h
      have ho := hb.head
      have hi := ih q hb.tail h.2
      rw [elemOf, prodL_cons]
      have h1 : 0 ≤ o * elemOf r q := Int.mul_nonneg (by omega) hi.1
      have h2 : o * (elemOf r q + 1) ≤ o * prodL r := Int.mul_le_mul_of_nonneg_left (by omega) (by omega)
      rw [Int.mul_add] at h2
      omega

/-! ### sums, negatives, multiples -/
def gadd : List Int → Int → Int → Int
  | [], _, _ => 0
  | o :: r, x, y => (x % o + y % o) % o + o * gadd r (x / o) (y / o)
def gneg : List Int → Int → Int
  | [], _ => 0
  | o :: r, x => (o - x % o) % o + o * gneg r (x / o)
def gmul : List Int → Int → Int → Int
  | [], _, _ => 0
  | o :: r, n, x => (n * (x % o)) % o + o * gmul r n (x / o)
theorem digit_bd {o t g p : Int} (ho : 2 ≤ o) (ht : 0 ≤ t ∧ t < o) (hg : 0 ≤ g ∧ g < p) : 0 ≤ t + o * g ∧ t + o * g < o * p := by
  have h1 : 0 ≤ o * g := Int.mul_nonneg (by omega) hg.1
  have h2 : o * (g + 1) ≤ o * p := Int.mul_le_mul_of_nonneg_left (by omega) (by omega)
  rw [Int.mul_add] at h2
  omega
theorem emod_bd (a : Int) {o : Int} (ho : 2 ≤ o) : 0 ≤ a % o ∧ a % o < o := ⟨Int.emod_nonneg a (by omega), Int.emod_lt_of_pos a (by omega)⟩
theorem gadd_bd (l : List Int) : ∀ x y, Big l → 0 ≤ gadd l x y ∧ gadd l x y < prodL l := by
  induction l with
  | nil => intro _ _ _; exact ⟨Int.le_refl _, Int.one_pos⟩
  | cons o r ih => intro x y hb; rw [gadd, prodL_cons]; exact digit_bd hb.head (emod_bd _ hb.head) (ih _ _ hb.tail)
theorem gneg_bd (l : List Int) : ∀ x, Big l → 0 ≤ gneg l x ∧ gneg l x < prodL l := by
  induction l with
  | nil => intro _ _; exact ⟨Int.le_refl _, Int.one_pos⟩
  | cons o r ih => intro x hb; rw [gneg, prodL_cons]; exact digit_bd hb.head (emod_bd _ hb.head) (ih _ hb.tail)
theorem gmul_bd (l : List Int) : ∀ n x, Big l → 0 ≤ gmul l n x ∧ gmul l n x < prodL l := by
  induction l with
  | nil => intro _ _ _; exact ⟨Int.le_refl _, Int.one_pos⟩
  | cons o r ih => intro n x hb; rw [gmul, prodL_cons]; exact digit_bd hb.head (emod_bd _ hb.head) (ih _ _ hb.tail)
theorem gadd_comm (l : List Int) : ∀ x y, gadd l x y = gadd l y x := by
  induction l with
  | nil => intro _ _; rfl
  | cons o r ih => intro x y; rw [gadd, gadd, ih, Int.add_comm (x % o)]
/-- the digits of what is put together -/
theorem digit_mod {o t g : Int} (ho : 2 ≤ o) (ht : 0 ≤ t ∧ t < o) : (t + o * g) % o = t ∧ (t + o * g) / o = g := by
  constructor
  · rw [Int.add_mul_emod_self_left]; exact Int.emod_eq_of_lt ht.1 ht.2
  · rw [Int.add_mul_ediv_left _ _ (by omega), Int.ediv_eq_zero_of_lt ht.1 ht.2]; omega
theorem mod_assoc (a b c o : Int) : ((a + b) % o + c) % o = (a + (b + c) % o) % o := by rw [Int.emod_add_emod, Int.add_emod_emod, Int.add_assoc]
theorem gadd_assoc (l : List Int) : ∀ x y z, Big l → gadd l (gadd l x y) z = gadd l x (gadd l y z) := by
  induction l with
  | nil => intro _ _ _ _; rfl
  | cons o r ih =>
    intro x y z hb
    have ho := hb.head
    rw [gadd, gadd, gadd, gadd]
    obtain ⟨h1, h2⟩ := digit_mod (g := gadd r (x / o) (y / o)) ho (emod_bd (x % o + y % o) ho)
    obtain ⟨h3, h4⟩ := digit_mod (g := gadd r (y / o) (z / o)) ho (emod_bd (y % o + z % o) ho)
    rw [h1, h2, h3, h4, ih _ _ _ hb.tail]
    rw [mod_assoc]
theorem gadd_zero (l : List Int) : ∀ x, Big l → 0 ≤ x → x < prodL l → gadd l x 0 = x := by
  induction l with
  | nil => intro x _ h0 h; rw [prodL_nil] at h; simp [gadd]; omega
  | cons o r ih =>
    intro x hb h0 h
    have ho := hb.head
    rw [prodL_cons] at h
    have hd := div_lt_of (by omega) h
    rw [gadd, Int.zero_ediv, ih (x / o) hb.tail (Int.ediv_nonneg h0 (by omega)) hd, Int.zero_emod, Int.add_zero, Int.emod_emod_of_dvd _ (Int.dvd_refl o)]
    have := Int.mul_ediv_add_emod x o
    omega
theorem gadd_neg (l : List Int) : ∀ x, Big l → gadd l x (gneg l x) = 0 := by
  induction l with
  | nil => intro _ _; rfl
  | cons o r ih =>
    intro x hb
    have ho := hb.head
    rw [gneg, gadd]
    obtain ⟨h1, h2⟩ := digit_mod (g := gneg r (x / o)) ho (emod_bd (o - x % o) ho)
    rw [h1, h2, ih _ hb.tail, Int.add_emod_emod]
    have : x % o + (o - x % o) = o := by omega
    rw [this, Int.emod_self]
    omega
theorem gadd_digit (o : Int) (r : List Int) (x y : Int) : gadd (o :: r) x y = (x % o + y % o) % o + o * gadd r (x / o) (y / o) := rfl
/-- n + 1 times an element -/
theorem gmul_zero (l : List Int) : ∀ x, gmul l 0 x = 0 := by
  induction l with
  | nil => intro _; rfl
  | cons o r ih => intro x; rw [gmul, ih]; simp
theorem gmul_succ (l : List Int) : ∀ n x, Big l → gadd l (gmul l n x) x = gmul l (n + 1) x := by
  induction l with
  | nil => intro _ _ _; rfl
  | cons o r ih =>
    intro n x hb
    have ho := hb.head
    rw [gmul, gadd, gmul]
    obtain ⟨h1, h2⟩ := digit_mod (g := gmul r n (x / o)) ho (emod_bd (n * (x % o)) ho)
    rw [h1, h2, ih _ _ hb.tail, Int.emod_add_emod, Int.add_mul, Int.one_mul]
theorem gmul_add (l : List Int) : ∀ m n x, Big l → gadd l (gmul l m x) (gmul l n x) = gmul l (m + n) x := by
  induction l with
  | nil => intro _ _ _ _; rfl
  | cons o r ih =>
    intro m n x hb
    have ho := hb.head
    rw [gmul, gmul, gadd, gmul]
    obtain ⟨h1, h2⟩ := digit_mod (g := gmul r m (x / o)) ho (emod_bd (m * (x % o)) ho)
    obtain ⟨h3, h4⟩ := digit_mod (g := gmul r n (x / o)) ho (emod_bd (n * (x % o)) ho)
    rw [h1, h2, h3, h4, ih _ _ _ hb.tail, ← Int.add_emod, Int.add_mul]
theorem gmul_one (l : List Int) : ∀ x, Big l → 0 ≤ x → x < prodL l → gmul l 1 x = x := by
  intro x hb h0 h
  have h1 := gmul_succ l 0 x hb
  rw [gmul_zero, gadd_comm, gadd_zero l x hb h0 h] at h1
  exact h1.symm
/-- a multiple of all orders times an element is 0 -/
theorem gmul_all (l : List Int) : ∀ n x, (∀ o ∈ l, o ∣ n) → gmul l n x = 0 := by
  induction l with
  | nil => intro _ _ _; rfl
  | cons o r ih =>
    intro n x h
    rw [gmul, ih _ _ fun p hp => h p (by simp [hp])]
    have h1 : o ∣ n * (x % o) := Int.dvd_trans (h o (by simp)) (Int.dvd_mul_right n _)
    rw [Int.emod_eq_zero_of_dvd h1]
    omega

end Go.Proofs.Ytknbfohmobjplab

namespace Go.Proofs.Ytknbfohmobjplab

theorem neg_digit (n t o : Int) : (-n * ((o - t) % o)) % o = (n * t) % o := by
  rw [Int.mul_emod, Int.emod_emod_of_dvd _ (Int.dvd_refl o), ← Int.mul_emod, Int.mul_sub, Int.neg_mul, Int.neg_mul, Int.sub_neg, Int.add_comm, ← Int.sub_eq_add_neg, Int.sub_mul_emod_self_right]
theorem gmul_neg (l : List Int) : ∀ n x, Big l → gmul l (-n) (gneg l x) = gmul l n x := by
  induction l with
  | nil => intro _ _ _; rfl
  | cons o r ih =>
    intro n x hb
    have ho := hb.head
    rw [gneg, gmul, gmul]
    obtain ⟨h1, h2⟩ := digit_mod (g := gneg r (x / o)) ho (emod_bd (o - x % o) ho)
    rw [h1, h2, ih _ _ hb.tail, neg_digit]
theorem dvd_prodL {l : List Int} {o : Int} (h : o ∈ l) : o ∣ prodL l := by
  induction l with
  | nil => simp at h
  | cons a r ih =>
    rw [prodL_cons]
    rcases List.mem_cons.1 h with h | h
    · subst h; exact Int.dvd_mul_right _ _
    · exact Int.dvd_trans (ih h) (Int.dvd_mul_left _ _)
theorem gmul_prod (l : List Int) (x : Int) : gmul l (prodL l) x = 0 := gmul_all l _ x fun _ ho => dvd_prodL ho

def addE (l : List Int) (x y : Int) : Int := if isEl l x && isEl l y then gadd l x y else -1
def negE (l : List Int) (x : Int) : Int := if isEl l x then gneg l x else -1
def mulE (l : List Int) (x n : Int) : Int := if isEl l x && decide (-100 ≤ n ∧ n ≤ 100) then gmul l n x else -1
def ordGo (l : List Int) (x : Int) : Nat → Int → Int
  | 0, n => n
  | f + 1, n => if gmul l n x = 0 then n else ordGo l x f (n + 1)
def ordE (l : List Int) (x : Int) : Int := if isEl l x then ordGo l x 24 1 else 0
theorem isEl.small {l : List Int} {x : Int} (h : isEl l x = true) : 0 ≤ x ∧ x < 24 := by
  have h1 := isEl.bd h
  have h2 := isGroup.prod (isEl.group h)
  omega
theorem gadd_small {l : List Int} (h : isGroup l = true) (x y : Int) : 0 ≤ gadd l x y ∧ gadd l x y < 24 := by
  have h1 := gadd_bd l x y (isGroup.big h)
  have h2 := isGroup.prod h
  omega
theorem gneg_small {l : List Int} (h : isGroup l = true) (x : Int) : 0 ≤ gneg l x ∧ gneg l x < 24 := by
  have h1 := gneg_bd l x (isGroup.big h)
  have h2 := isGroup.prod h
  omega
theorem gmul_small {l : List Int} (h : isGroup l = true) (n x : Int) : 0 ≤ gmul l n x ∧ gmul l n x < 24 := by
  have h1 := gmul_bd l n x (isGroup.big h)
  have h2 := isGroup.prod h
  omega
end Go.Proofs.Ytknbfohmobjplab

namespace Go.Proofs.Ytknbfohmobjplab

def topOf (l : List Int) : Nat := 2 ^ (prodL l).toNat
theorem topOf_bd {l : List Int} (h : isGroup l = true) : 2 ≤ topOf l ∧ topOf l ≤ 16777216 := by
  have h1 := isGroup.prod h
  unfold topOf
  constructor
  · have := Nat.pow_le_pow_right (show 0 < 2 by omega) (show 1 ≤ (prodL l).toNat by omega)
    simpa using this
  · have := Nat.pow_le_pow_right (show 0 < 2 by omega) (show (prodL l).toNat ≤ 24 by omega)
    simpa using this
def isSet (l : List Int) (a : Int) : Bool := isGroup l && decide (0 ≤ a ∧ a < topOf l)
theorem isSet.group {l : List Int} {a : Int} (h : isSet l a = true) : isGroup l = true := by
  unfold isSet at h
  exact ((Bool.and_eq_true _ _).mp h).1
theorem isSet.bd {l : List Int} {a : Int} (h : isSet l a = true) : 0 ≤ a ∧ a < topOf l := by
  unfold isSet at h
  exact of_decide_eq_true ((Bool.and_eq_true _ _).mp h).2
def fullE (l : List Int) : Int := if isGroup l then (topOf l : Int) - 1 else 0
/-- the number of the bits -/
def pc : Nat → Nat → Nat
  | 0, _ => 0
  | k + 1, a => a % 2 + pc k (a / 2)
theorem pc_zero (k : Nat) : pc k 0 = 0 := by
  induction k with
  | zero => rfl
  | succ k ih => rw [pc, show 0 / 2 = 0 from rfl, ih]
theorem and_double (a b : Nat) : (2 * a) &&& (2 * b + 1) = 2 * (a &&& b) := by
  apply Nat.eq_of_testBit_eq
  intro i
  cases i with
  | zero => simp [Nat.testBit_zero]
  | succ i => rw [Nat.testBit_and, Nat.testBit_succ, Nat.testBit_succ, Nat.testBit_succ, Nat.mul_div_cancel_left _ (by omega), show (2 * b + 1) / 2 = b by omega, Nat.mul_div_cancel_left _ (by omega), Nat.testBit_and]
theorem and_odd (a : Nat) : (2 * a + 1) &&& (2 * a) = 2 * a := by
  rw [Nat.and_comm, and_double, Nat.and_self]
theorem pc_drop (k : Nat) : ∀ a, 0 < a → a < 2 ^ k → pc k (a &&& (a - 1)) + 1 = pc k a := by
  induction k with
  | zero => intro a h0 h; simp at h; omega
  | succ k ih =>
    intro a h0 h
    rw [Nat.pow_succ] at h
    rcases Nat.mod_two_eq_zero_or_one a with h2 | h2
    · obtain ⟨b, rfl⟩ : ∃ b, a = 2 * b := ⟨a / 2, by omega⟩
      rw [show 2 * b - 1 = 2 * (b - 1) + 1 by omega, and_double, pc, pc, Nat.mul_div_cancel_left _ (by omega), Nat.mul_div_cancel_left _ (by omega), Nat.mul_mod_right, Nat.mul_mod_right, ← ih b (by omega) (by omega)]
      omega
    · obtain ⟨b, rfl⟩ : ∃ b, a = 2 * b + 1 := ⟨a / 2, by omega⟩
      rw [show 2 * b + 1 - 1 = 2 * b by omega, and_odd, pc, pc, Nat.mul_div_cancel_left _ (by omega), Nat.mul_mod_right, show (2 * b + 1) % 2 = 1 by omega, show (2 * b + 1) / 2 = b by omega]
      omega
theorem and_pred_lt (a : Nat) (h : 0 < a) : a &&& (a - 1) < a := Nat.lt_of_le_of_lt Nat.and_le_right (by omega)
def cntE (l : List Int) (a : Int) : Int := if isSet l a then pc 24 a.toNat else -1
end Go.Proofs.Ytknbfohmobjplab

namespace Go.Proofs.Ytknbfohmobjplab

/-- the elements below x, ascending -/
def memTo (A x : Nat) : List Int := ((List.range x).filter fun i : Nat => A.testBit i).map fun i : Nat => (i : Int)
def memL (A : Nat) : List Int := memTo A 24
theorem memTo_zero (A : Nat) : memTo A 0 = [] := rfl
theorem memTo_yes {A x : Nat} (h : A.testBit x = true) : memTo A (x + 1) = memTo A x ++ [(x : Int)] := by
  unfold memTo
  rw [List.range_succ, List.filter_append, List.map_append]
  simp [h]
theorem memTo_no {A x : Nat} (h : A.testBit x = false) : memTo A (x + 1) = memTo A x := by
  unfold memTo
  rw [List.range_succ, List.filter_append, List.map_append]
  simp [h]
theorem bit_div (A x : Nat) : A.testBit x = decide (A / 2 ^ x % 2 = 1) := Nat.testBit_eq_decide_div_mod_eq
theorem div_step (A x : Nat) : A / 2 ^ (x + 1) = A / 2 ^ x / 2 := by rw [Nat.pow_succ, Nat.div_div_eq_div_mul]
theorem memTo_rest {A x : Nat} (h : A / 2 ^ x = 0) : ∀ d, memTo A (x + d) = memTo A x := by
  intro d
  induction d with
  | zero => rfl
  | succ d ih =>
    rw [← Nat.add_assoc, memTo_no, ih]
    rw [bit_div]
    have : A / 2 ^ (x + d) = 0 := by rw [Nat.pow_add, ← Nat.div_div_eq_div_mul, h, Nat.zero_div]
    rw [this]
    rfl
theorem memTo_len (A x : Nat) : (memTo A x).length ≤ x := by
  unfold memTo
  rw [List.length_map]
  have := List.length_filter_le (fun i => A.testBit i) (List.range x)
  rw [List.length_range] at this
  exact this
theorem memL_of {A x : Nat} (h : A / 2 ^ x = 0) (hx : x ≤ 24) : memL A = memTo A x := by
  obtain ⟨d, hd⟩ : ∃ d, 24 = x + d := ⟨24 - x, by omega⟩
  unfold memL
  rw [hd, memTo_rest h]
theorem div_top {A : Nat} (h : A < 16777216) : A / 2 ^ 24 = 0 := by
  apply Nat.div_eq_of_lt
  exact h
theorem memL_len (A : Nat) : (memL A).length ≤ 24 := memTo_len A 24
theorem memL_bd {A : Nat} {x : Int} (h : x ∈ memL A) : 0 ≤ x ∧ x < 24 := by
  unfold memL memTo at h
  obtain ⟨i, hi, rfl⟩ := List.mem_map.1 h
  have := List.mem_range.1 (List.mem_filter.1 hi).1
  omega
/-- the set of the values of a function on some elements -/
def orL (f : Int → Int) (L : List Int) : Nat := L.foldl (fun a x => a ||| 2 ^ (f x).toNat) 0
theorem orL_nil (f : Int → Int) : orL f [] = 0 := rfl
theorem orL_snoc (f : Int → Int) (L : List Int) (x : Int) : orL f (L ++ [x]) = orL f L ||| 2 ^ (f x).toNat := by
  unfold orL
  rw [List.foldl_append]
  rfl
theorem orL_lt {f : Int → Int} {L : List Int} (h : ∀ x ∈ L, (f x).toNat < 24) : orL f L < 16777216 := by
  have gen : ∀ (L : List Int) (a : Nat), a < 2 ^ 24 → (∀ x ∈ L, (f x).toNat < 24) → L.foldl (fun a x => a ||| 2 ^ (f x).toNat) a < 2 ^ 24 := by
    intro L
    induction L with
    | nil => intro a ha _; exact ha
    | cons y r ih =>
      intro a ha hL
      rw [List.foldl_cons]
      exact ih _ (Nat.or_lt_two_pow ha (Nat.pow_lt_pow_right (by omega) (hL y (by simp)))) fun z hz => hL z (by simp [hz])
  exact gen L 0 (by decide) h
theorem orL_congr {f g : Int → Int} {L : List Int} (h : ∀ x ∈ L, f x = g x) : orL f L = orL g L := by
  have gen : ∀ (L : List Int) (a : Nat), (∀ x ∈ L, f x = g x) → L.foldl (fun a x => a ||| 2 ^ (f x).toNat) a = L.foldl (fun a x => a ||| 2 ^ (g x).toNat) a := by
    intro L
    induction L with
    | nil => intro _ _; rfl
    | cons y r ih =>
      intro a hL
      rw [List.foldl_cons, List.foldl_cons, hL y (by simp)]
      exact ih _ fun z hz => hL z (by simp [hz])
  exact gen L 0 h
def negS (l : List Int) (a : Int) : Int := if isSet l a then orL (gneg l) (memL a.toNat) else -1
def shiftS (l : List Int) (a x : Int) : Int := if isSet l a && isEl l x then orL (gadd l x) (memL a.toNat) else -1
def dilS (l : List Int) (a n : Int) : Int := if isSet l a && decide (-100 ≤ n ∧ n ≤ 100) then orL (gmul l n) (memL a.toNat) else -1
end Go.Proofs.Ytknbfohmobjplab

namespace Go.Proofs.Ytknbfohmobjplab
set_option linter.unusedVariables false
set_option linter.unusedSimpArgs false
set_option linter.unusedSectionVars false

/-- x is in the set A -/
def inS (A : Nat) (x : Int) : Prop := 0 ≤ x ∧ A.testBit x.toNat = true
theorem bit_lt {A i k : Nat} (hA : A < 2 ^ k) (h : A.testBit i = true) : i < k := by
  rcases Nat.lt_or_ge i k with h1 | h1
  · exact h1
  · rw [Nat.testBit_lt_two_pow (Nat.lt_of_lt_of_le hA (Nat.pow_le_pow_right (by omega) h1))] at h
    cases h
theorem inS.lt {A : Nat} {x : Int} (h : inS A x) (hA : A < 16777216) : 0 ≤ x ∧ x < 24 := by
  have h1 := bit_lt (k := 24) hA h.2
  have h2 := h.1
  omega
theorem inS_nat (A i : Nat) : inS A (i : Int) ↔ A.testBit i = true := by
  unfold inS
  rw [Int.toNat_natCast]
  exact ⟨fun h => h.2, fun h => ⟨by omega, h⟩⟩
theorem set_ext {A B : Nat} (h : ∀ x, inS A x ↔ inS B x) : A = B := by
  apply Nat.eq_of_testBit_eq
  intro i
  have h1 := h (i : Int)
  rw [inS_nat, inS_nat] at h1
  cases ha : A.testBit i
  · cases hb : B.testBit i
    · rfl
    · rw [ha, hb] at h1; exact absurd (h1.2 rfl) (by decide)
  · rw [ha] at h1; exact (h1.1 rfl).symm
theorem mem_memTo (A x : Nat) (z : Int) : z ∈ memTo A x ↔ inS A z ∧ z < x := by
  unfold memTo
  rw [List.mem_map]
  constructor
  · rintro ⟨i, hi, rfl⟩
    rw [List.mem_filter, List.mem_range] at hi
    exact ⟨(inS_nat _ _).2 hi.2, by omega⟩
  · rintro ⟨hb, hx⟩
    have h0 := hb.1
    refine ⟨z.toNat, ?_, by omega⟩
    rw [List.mem_filter, List.mem_range]
    exact ⟨by omega, hb.2⟩
theorem mem_memL {A : Nat} (hA : A < 16777216) (z : Int) : z ∈ memL A ↔ inS A z := by
  unfold memL
  rw [mem_memTo]
  exact ⟨fun h => h.1, fun h => ⟨h, (h.lt hA).2⟩⟩
theorem inS_zero (x : Int) : ¬ inS 0 x := by
  intro h
  have := h.2
  rw [Nat.zero_testBit] at this
  cases this
theorem inS_or (A B : Nat) (x : Int) : inS (A ||| B) x ↔ inS A x ∨ inS B x := by
  unfold inS
  rw [Nat.testBit_or, Bool.or_eq_true]
  constructor
  · rintro ⟨h0, h | h⟩
    · exact .inl ⟨h0, h⟩
    · exact .inr ⟨h0, h⟩
  · rintro (⟨h0, h⟩ | ⟨h0, h⟩)
    · exact ⟨h0, .inl h⟩
    · exact ⟨h0, .inr h⟩
theorem inS_and (A B : Nat) (x : Int) : inS (A &&& B) x ↔ inS A x ∧ inS B x := by
  unfold inS
  rw [Nat.testBit_and, Bool.and_eq_true]
  constructor
  · rintro ⟨h0, h1, h2⟩
    exact ⟨⟨h0, h1⟩, h0, h2⟩
  · rintro ⟨⟨h0, h1⟩, _, h2⟩
    exact ⟨h0, h1, h2⟩
theorem inS_pow {k : Int} (hk : 0 ≤ k) (x : Int) : inS (2 ^ k.toNat) x ↔ x = k := by
  unfold inS
  rw [Nat.testBit_two_pow, decide_eq_true_iff]
  omega
theorem inS_one (x : Int) : inS 1 x ↔ x = 0 := inS_pow (k := 0) (by omega) x
/-- the union of sets -/
def orU (F : Int → Nat) (L : List Int) : Nat := L.foldl (fun a x => a ||| F x) 0
theorem orU_snoc (F : Int → Nat) (L : List Int) (x : Int) : orU F (L ++ [x]) = orU F L ||| F x := by
  unfold orU
  rw [List.foldl_append]
  rfl
theorem inS_orU (F : Int → Nat) (L : List Int) (z : Int) : inS (orU F L) z ↔ ∃ x ∈ L, inS (F x) z := by
  have gen : ∀ (L : List Int) (a : Nat), inS (L.foldl (fun a x => a ||| F x) a) z ↔ inS a z ∨ ∃ x ∈ L, inS (F x) z := by
    intro L
    induction L with
    | nil => intro a; simp
    | cons y r ih =>
      intro a
      rw [List.foldl_cons, ih, inS_or]
      constructor
      · rintro ((h | h) | ⟨x, hx, h⟩)
        · exact .inl h
        · exact .inr ⟨y, by simp, h⟩
        · exact .inr ⟨x, by simp [hx], h⟩
      · rintro (h | ⟨x, hx, h⟩)
        · exact .inl (.inl h)
        · rcases List.mem_cons.1 hx with rfl | hx
          · exact .inl (.inr h)
          · exact .inr ⟨x, hx, h⟩
  unfold orU
  rw [gen]
  exact ⟨fun h => h.resolve_left (inS_zero z), .inr⟩
theorem orU_lt {F : Int → Nat} {L : List Int} (h : ∀ x ∈ L, F x < 16777216) : orU F L < 16777216 := by
  have gen : ∀ (L : List Int) (a : Nat), a < 2 ^ 24 → (∀ x ∈ L, F x < 2 ^ 24) → L.foldl (fun a x => a ||| F x) a < 2 ^ 24 := by
    intro L
    induction L with
    | nil => intro a ha _; exact ha
    | cons y r ih =>
      intro a ha hL
      rw [List.foldl_cons]
      exact ih _ (Nat.or_lt_two_pow ha (hL y (by simp))) fun z hz => hL z (by simp [hz])
  exact gen L 0 (by decide) h
theorem or_lt24 {A B : Nat} (hA : A < 16777216) (hB : B < 16777216) : A ||| B < 16777216 := Nat.or_lt_two_pow (n := 24) hA hB
theorem and_lt24 {A : Nat} (hA : A < 16777216) (B : Nat) : A &&& B < 16777216 := Nat.lt_of_le_of_lt Nat.and_le_left hA
theorem inS_orL {f : Int → Int} {L : List Int} (hf : ∀ x ∈ L, 0 ≤ f x) (z : Int) : inS (orL f L) z ↔ ∃ x ∈ L, f x = z := by
  show inS (orU (fun x => 2 ^ (f x).toNat) L) z ↔ _
  rw [inS_orU]
  constructor
  · rintro ⟨x, hx, h⟩
    exact ⟨x, hx, ((inS_pow (hf x hx) z).1 h).symm⟩
  · rintro ⟨x, hx, h⟩
    exact ⟨x, hx, (inS_pow (hf x hx) z).2 h.symm⟩
/-- a set whose elements are elements of the group -/
theorem top_of {l : List Int} (hg : isGroup l = true) {A : Nat} (h : ∀ z, inS A z → z < prodL l) : A < topOf l := by
  have hp := isGroup.prod hg
  unfold topOf
  refine Nat.lt_pow_two_of_testBit A fun i hi => ?_
  cases hb : A.testBit i
  · rfl
  · have := h i ((inS_nat A i).2 hb)
    omega
theorem of_top {l : List Int} (hg : isGroup l = true) {A : Nat} (h : A < topOf l) {z : Int} (hz : inS A z) : 0 ≤ z ∧ z < prodL l := by
  have hp := isGroup.prod hg
  have h1 := bit_lt h hz.2
  have h2 := hz.1
  omega
theorem isSet_nat {l : List Int} (hg : isGroup l = true) (A : Nat) : isSet l (A : Int) = true ↔ A < topOf l := by
  unfold isSet
  rw [hg, Bool.true_and, decide_eq_true_iff]
  omega
theorem top_24 {l : List Int} (hg : isGroup l = true) {A : Nat} (h : A < topOf l) : A < 16777216 := Nat.lt_of_lt_of_le h (topOf_bd hg).2

/-! ### shifts, negatives, sums -/
/-- x + B -/
def shN (l : List Int) (B : Nat) (x : Int) : Nat := orL (gadd l x) (memL B)
def negN (l : List Int) (B : Nat) : Nat := orL (gneg l) (memL B)
def sumN (l : List Int) (A B : Nat) : Nat := orU (shN l B) (memL A)
section
variable {l : List Int} (hg : isGroup l = true)
include hg
theorem gadd_in (x y : Int) : 0 ≤ gadd l x y ∧ gadd l x y < prodL l := gadd_bd l x y (isGroup.big hg)
theorem gneg_in (x : Int) : 0 ≤ gneg l x ∧ gneg l x < prodL l := gneg_bd l x (isGroup.big hg)
theorem inS_shN {B : Nat} (hB : B < 16777216) (x z : Int) : inS (shN l B x) z ↔ ∃ y, inS B y ∧ gadd l x y = z := by
  unfold shN
  rw [inS_orL fun y _ => (gadd_in hg x y).1]
  constructor
  · rintro ⟨y, hy, h⟩; exact ⟨y, (mem_memL hB y).1 hy, h⟩
  · rintro ⟨y, hy, h⟩; exact ⟨y, (mem_memL hB y).2 hy, h⟩
theorem inS_negN {B : Nat} (hB : B < 16777216) (z : Int) : inS (negN l B) z ↔ ∃ y, inS B y ∧ gneg l y = z := by
  unfold negN
  rw [inS_orL fun y _ => (gneg_in hg y).1]
  constructor
  · rintro ⟨y, hy, h⟩; exact ⟨y, (mem_memL hB y).1 hy, h⟩
  · rintro ⟨y, hy, h⟩; exact ⟨y, (mem_memL hB y).2 hy, h⟩
theorem shN_top (B : Nat) (x : Int) : shN l B x < topOf l := by
  refine top_of hg fun z hz => ?_
  unfold shN at hz
  rw [inS_orL fun y _ => (gadd_in hg x y).1] at hz
  obtain ⟨y, _, rfl⟩ := hz
  exact (gadd_in hg x y).2
theorem negN_top (B : Nat) : negN l B < topOf l := by
  refine top_of hg fun z hz => ?_
  unfold negN at hz
  rw [inS_orL fun y _ => (gneg_in hg y).1] at hz
  obtain ⟨y, _, rfl⟩ := hz
  exact (gneg_in hg y).2
theorem sumN_top (A B : Nat) : sumN l A B < topOf l := by
  refine top_of hg fun z hz => ?_
  unfold sumN at hz
  rw [inS_orU] at hz
  obtain ⟨x, _, h⟩ := hz
  exact (of_top hg (shN_top hg B x) h).2
theorem shN_lt (B : Nat) (x : Int) : shN l B x < 16777216 := top_24 hg (shN_top hg B x)
theorem negN_lt (B : Nat) : negN l B < 16777216 := top_24 hg (negN_top hg B)
theorem sumN_lt (A B : Nat) : sumN l A B < 16777216 := top_24 hg (sumN_top hg A B)
theorem inS_sumN {A B : Nat} (hA : A < 16777216) (hB : B < 16777216) (z : Int) : inS (sumN l A B) z ↔ ∃ x y, inS A x ∧ inS B y ∧ gadd l x y = z := by
  unfold sumN
  rw [inS_orU]
  constructor
  · rintro ⟨x, hx, h⟩
    obtain ⟨y, hy, e⟩ := (inS_shN hg hB x z).1 h
    exact ⟨x, y, (mem_memL hA x).1 hx, hy, e⟩
  · rintro ⟨x, y, hx, hy, e⟩
    exact ⟨x, (mem_memL hA x).2 hx, (inS_shN hg hB x z).2 ⟨y, hy, e⟩⟩
theorem sumN_comm {A B : Nat} (hA : A < 16777216) (hB : B < 16777216) : sumN l A B = sumN l B A := by
  refine set_ext fun z => ?_
  rw [inS_sumN hg hA hB, inS_sumN hg hB hA]
  constructor
  · rintro ⟨x, y, hx, hy, e⟩; exact ⟨y, x, hy, hx, (gadd_comm l y x).trans e⟩
  · rintro ⟨x, y, hx, hy, e⟩; exact ⟨y, x, hy, hx, (gadd_comm l y x).trans e⟩
/-- the same set, by the elements of the other one -/
theorem sumN_swap {A B : Nat} (hA : A < 16777216) (hB : B < 16777216) : orU (shN l A) (memL B) = sumN l A B := sumN_comm hg hB hA

/-! ### what is generated -/
/-- what the elements of A generate -/
inductive Gen (l : List Int) (A : Nat) : Int → Prop
  | zero : Gen l A 0
  | step {z a : Int} : Gen l A z → inS A a → Gen l A (gadd l z a)
omit hg in
theorem Gen.mono {A B : Nat} (h : ∀ a, inS A a → Gen l B a) (hadd : ∀ x y, Gen l B x → Gen l B y → Gen l B (gadd l x y)) {z : Int} (hz : Gen l A z) : Gen l B z := by
  induction hz with
  | zero => exact .zero
  | step _ ha ih => exact hadd _ _ ih (h _ ha)
theorem Gen.bd {A : Nat} {z : Int} (h : Gen l A z) : 0 ≤ z ∧ z < prodL l := by
  have hp := isGroup.prod hg
  cases h with
  | zero => omega
  | step _ _ => exact gadd_in hg _ _
theorem Gen.add {A : Nat} {x y : Int} (hx : Gen l A x) (hy : Gen l A y) : Gen l A (gadd l x y) := by
  have hb := isGroup.big hg
  induction hy with
  | zero =>
    have h := Gen.bd hg hx
    rw [gadd_zero l x hb h.1 h.2]
    exact hx
  | step _ ha ih =>
    rw [← gadd_assoc l _ _ _ hb]
    exact .step ih ha
theorem Gen.mul {A : Nat} {x : Int} (hx : Gen l A x) (n : Nat) : Gen l A (gmul l n x) := by
  have hb := isGroup.big hg
  induction n with
  | zero => rw [show ((0 : Nat) : Int) = 0 from rfl, gmul_zero]; exact .zero
  | succ n ih =>
    rw [show ((n + 1 : Nat) : Int) = (n : Int) + 1 by omega, ← gmul_succ l n x hb]
    exact Gen.add hg ih hx
/-- a negative is a multiple -/
theorem gneg_mul {x : Int} (h0 : 0 ≤ x) (h : x < prodL l) : gneg l x = gmul l (prodL l - 1) x := by
  have hb := isGroup.big hg
  have h1 : gadd l x (gmul l (prodL l - 1) x) = 0 := by
    rw [gadd_comm, gmul_succ l _ x hb, show prodL l - 1 + 1 = prodL l by omega]
    exact gmul_all l _ x fun o ho => dvd_prodL ho
  have h2 := gadd_assoc l (gneg l x) x (gmul l (prodL l - 1) x) hb
  have hn := gneg_in hg x
  have hm := gmul_bd l (prodL l - 1) x hb
  rw [h1, gadd_comm l (gneg l x) x, gadd_neg l x hb, gadd_zero l _ hb hn.1 hn.2, gadd_comm l 0, gadd_zero l _ hb hm.1 hm.2] at h2
  exact h2.symm
theorem Gen.neg {A : Nat} {x : Int} (hx : Gen l A x) : Gen l A (gneg l x) := by
  have h := Gen.bd hg hx
  have hp := isGroup.prod hg
  rw [gneg_mul hg h.1 h.2]
  have := Gen.mul hg hx (prodL l - 1).toNat
  rw [show (((prodL l - 1).toNat : Nat) : Int) = prodL l - 1 by omega] at this
  exact this
theorem Gen.one {A : Nat} {x : Int} (h : inS A x) (hx : x < prodL l) : Gen l A x := by
  have h1 : Gen l A (gadd l 0 x) := .step .zero h
  rw [gadd_comm, gadd_zero l x (isGroup.big hg) h.1 hx] at h1
  exact h1
/-- .. of an element that may be none of the group -/
theorem Gen.neg1 {A : Nat} {x : Int} (h : inS A x) : Gen l A (gneg l x) := by
  have hb := isGroup.big hg
  have h1 : Gen l A (gadd l 0 x) := .step .zero h
  have h2 := Gen.neg hg h1
  have h3 := gadd_assoc l (gneg l (gadd l 0 x)) (gadd l 0 x) (gneg l x) hb
  have h4 := gadd_assoc l 0 x (gneg l x) hb
  have hn := gneg_in hg x
  have hm := gneg_in hg (gadd l 0 x)
  have hp := isGroup.prod hg
  rw [gadd_neg l x hb, gadd_zero l 0 hb (by omega) (by omega)] at h4
  rw [gadd_comm l (gneg l (gadd l 0 x)) (gadd l 0 x), gadd_neg l _ hb, h4, gadd_zero l _ hb hm.1 hm.2, gadd_comm l 0, gadd_zero l _ hb hn.1 hn.2] at h3
  rw [h3]
  exact h2
end

def closeF (f : Nat → Nat) : Nat → Nat → Nat
  | 0, h => h
  | n + 1, h => if f h = h then h else closeF f n (f h)
def genN (l : List Int) (A : Nat) : Nat := closeF (fun h => h ||| sumN l h A) 16777216 1
/-- a part of what is generated -/
def GenSub (l : List Int) (A h : Nat) : Prop := h < 16777216 ∧ inS h 0 ∧ ∀ z, inS h z → Gen l A z
theorem or_or_left {a b c : Nat} (h : a ||| b ||| c = a) : a ||| b = a := by
  refine set_ext fun z => ?_
  rw [inS_or]
  refine ⟨fun hz => ?_, .inl⟩
  rw [← h, inS_or, inS_or]
  exact .inl hz
theorem or_ge (a b : Nat) : a ≤ a ||| b := Nat.left_le_or
section
variable {l : List Int} (hg : isGroup l = true) {A : Nat} (hA : A < 16777216)
include hg hA
omit hA in
theorem GenSub.one : GenSub l A 1 := by
  refine ⟨by omega, (inS_one 0).2 rfl, fun z hz => ?_⟩
  rw [(inS_one z).1 hz]
  exact .zero
theorem GenSub.sum {h : Nat} (hs : GenSub l A h) : GenSub l A (h ||| sumN l h A) := by
  refine ⟨or_lt24 hs.1 (sumN_lt hg _ _), (inS_or _ _ _).2 (.inl hs.2.1), fun z hz => ?_⟩
  rcases (inS_or _ _ _).1 hz with hz | hz
  · exact hs.2.2 z hz
  · obtain ⟨x, y, hx, hy, rfl⟩ := (inS_sumN hg hs.1 hA z).1 hz
    exact .step (hs.2.2 x hx) hy
theorem GenSub.sums {h : Nat} (hs : GenSub l A h) : GenSub l A (h ||| sumN l h A ||| sumN l h (negN l A)) := by
  have h1 := GenSub.sum hg hA hs
  refine ⟨or_lt24 h1.1 (sumN_lt hg _ _), (inS_or _ _ _).2 (.inl h1.2.1), fun z hz => ?_⟩
  rcases (inS_or _ _ _).1 hz with hz | hz
  · exact h1.2.2 z hz
  · obtain ⟨x, y, hx, hy, rfl⟩ := (inS_sumN hg hs.1 (negN_lt hg A) z).1 hz
    obtain ⟨a, ha, rfl⟩ := (inS_negN hg hA y).1 hy
    exact Gen.add hg (hs.2.2 x hx) (Gen.neg1 hg ha)
theorem GenSub.full {h : Nat} (hs : GenSub l A h) (hc : h ||| sumN l h A = h) {z : Int} : inS h z ↔ Gen l A z := by
  refine ⟨hs.2.2 z, fun hz => ?_⟩
  induction hz with
  | zero => exact hs.2.1
  | step _ ha ih =>
    rw [← hc, inS_or, inS_sumN hg hs.1 hA]
    exact .inr ⟨_, _, ih, ha, rfl⟩
theorem closeF_end : ∀ n h, GenSub l A h → 16777216 ≤ n + h → GenSub l A (closeF (fun h => h ||| sumN l h A) n h) ∧ closeF (fun h => h ||| sumN l h A) n h ||| sumN l (closeF (fun h => h ||| sumN l h A) n h) A = closeF (fun h => h ||| sumN l h A) n h := by
  intro n
  induction n with
  | zero => intro h hs hn; have := hs.1; omega
  | succ n ih =>
    intro h hs hn
    rw [closeF]
    by_cases he : h ||| sumN l h A = h
    · rw [if_pos he]; exact ⟨hs, he⟩
    · rw [if_neg he]
      refine ih _ (GenSub.sum hg hA hs) ?_
      have := or_ge h (sumN l h A)
      omega
theorem genN_sub : GenSub l A (genN l A) := (closeF_end hg hA _ 1 (GenSub.one hg) (by omega)).1
theorem genN_iff (z : Int) : inS (genN l A) z ↔ Gen l A z := GenSub.full hg hA (genN_sub hg hA) (closeF_end hg hA _ 1 (GenSub.one hg) (by omega)).2
theorem GenSub.done {h : Nat} (hs : GenSub l A h) (hc : h ||| sumN l h A = h) : h = genN l A := set_ext fun z => by rw [GenSub.full hg hA hs hc, genN_iff hg hA]
theorem GenSub.dones {h : Nat} (hs : GenSub l A h) (hc : h ||| sumN l h A ||| sumN l h (negN l A) = h) : h = genN l A := GenSub.done hg hA hs (or_or_left hc)
theorem genN_top : genN l A < topOf l := top_of hg fun z hz => (Gen.bd hg ((genN_iff hg hA z).1 hz)).2
theorem genN_lt : genN l A < 16777216 := top_24 hg (genN_top hg hA)
end
end Go.Proofs.Ytknbfohmobjplab

namespace Go.Proofs.Ytknbfohmobjplab
set_option linter.unusedVariables false
set_option linter.unusedSimpArgs false

/-- the set of the elements of a list, each at most once -/
def soTo (l : List Int) : List Int → Nat → Option Nat
  | [], a => some a
  | x :: r, a => if isEl l x && !a.testBit x.toNat then soTo l r (a ||| 2 ^ x.toNat) else none
def soE (l m : List Int) : Int × Bool := match soTo l m 0 with | some a => ((a : Int), isGroup l) | none => (0, false)
theorem soTo_bad {l : List Int} {m : List Int} {k : Nat} (hk : k < m.length) {A : Nat} (h : (isEl l m[k] && !A.testBit m[k].toNat) = false) : soTo l (m.drop k) A = none := by
  rw [List.drop_eq_getElem_cons hk, soTo, h]
  rfl
theorem soTo_good {l : List Int} {m : List Int} {k : Nat} (hk : k < m.length) {A : Nat} (h : (isEl l m[k] && !A.testBit m[k].toNat) = true) : soTo l (m.drop k) A = soTo l (m.drop (k + 1)) (A ||| 2 ^ m[k].toNat) := by
  rw [List.drop_eq_getElem_cons hk, soTo, h]
  rfl
theorem soTo_end {l m : List Int} {k : Nat} (hk : m.length ≤ k) (A : Nat) : soTo l (m.drop k) A = some A := by
  rw [List.drop_eq_nil_of_le hk]
  rfl
theorem soE_none {l m : List Int} (h : soTo l m 0 = none) : soE l m = (0, false) := by unfold soE; rw [h]
theorem soE_some {l m : List Int} {A : Nat} (h : soTo l m 0 = some A) : soE l m = ((A : Int), isGroup l) := by unfold soE; rw [h]
theorem add_bit {A k : Nat} (hA : A < 16777216) (hk : k < 24) (h : A.testBit k = false) : A + 2 ^ k = A ||| 2 ^ k := by
  have h1 := Nat.pow_le_pow_right (show 0 < 2 by omega) (show k ≤ 23 by omega)
  have h2 : 2 ^ 23 = 8388608 := rfl
  have h3 : BitVec.ofNat 64 A &&& BitVec.ofNat 64 (2 ^ k) = 0#64 := by
    apply BitVec.eq_of_toNat_eq
    rw [BitVec.toNat_and, BitVec.toNat_ofNat, BitVec.toNat_ofNat, Nat.mod_eq_of_lt (by omega), Nat.mod_eq_of_lt (by omega)]
    show A &&& 2 ^ k = 0
    apply Nat.eq_of_testBit_eq
    intro i
    rw [Nat.testBit_and, Nat.testBit_two_pow, Nat.zero_testBit]
    by_cases e : k = i
    · rw [← e, h]; rfl
    · rw [decide_eq_false e, Bool.and_false]
  have h4 := congrArg BitVec.toNat (BitVec.add_eq_or_of_and_eq_zero _ _ h3)
  rw [BitVec.toNat_add, BitVec.toNat_or, BitVec.toNat_ofNat, BitVec.toNat_ofNat, Nat.mod_eq_of_lt (a := A) (by omega), Nat.mod_eq_of_lt (a := 2 ^ k) (by omega), Nat.mod_eq_of_lt (by omega)] at h4
  exact h4
end Go.Proofs.Ytknbfohmobjplab

namespace Go.Proofs.Ytknbfohmobjplab

theorem gcd_turn (A B : Nat) : Nat.gcd B (A % B) = Nat.gcd A B := by
  rw [Nat.gcd_comm A B, Nat.gcd_rec B A, Nat.gcd_comm]
theorem div_gcd_mul (A B : Nat) (h : 0 < A) : A / Nat.gcd A B * B = Nat.lcm A B := by
  have h1 := Nat.gcd_mul_lcm A B
  have hp : 0 < Nat.gcd A B := Nat.gcd_pos_of_pos_left B h
  have h2 := Nat.div_mul_cancel (Nat.gcd_dvd_left A B)
  apply Nat.eq_of_mul_eq_mul_left hp
  rw [h1, ← Nat.mul_assoc, Nat.mul_comm (Nat.gcd A B), h2]
def expoN (l : List Int) : Nat := l.foldl (fun a o => Nat.lcm a o.toNat) 1
theorem expoN_nil : expoN [] = 1 := rfl
theorem expoN_snoc (l : List Int) (o : Int) : expoN (l ++ [o]) = Nat.lcm (expoN l) o.toNat := by
  unfold expoN
  rw [List.foldl_append]
  rfl
theorem fold_lcm_dvd (l : List Int) : ∀ a : Nat, Big l → ((l.foldl (fun a o => Nat.lcm a o.toNat) a : Nat) : Int) ∣ a * prodL l := by
  induction l with
  | nil => intro a _; rw [prodL_nil]; simp
  | cons o r ih =>
    intro a hb
    have ho := hb.head
    rw [List.foldl_cons, prodL_cons, ← Int.mul_assoc]
    refine Int.dvd_trans (ih _ hb.tail) (Int.mul_dvd_mul_right _ ?_)
    have h1 := Int.natCast_dvd_natCast.2 (Nat.lcm_dvd_mul a o.toNat)
    rw [Int.natCast_mul, Int.toNat_of_nonneg (by omega)] at h1
    exact h1
theorem expoN_dvd {l : List Int} (hb : Big l) : (expoN l : Int) ∣ prodL l := by
  have := fold_lcm_dvd l 1 hb
  rw [Int.natCast_one, Int.one_mul] at this
  exact this
theorem expoN_le {l : List Int} (hg : isGroup l = true) (k : Nat) : 1 ≤ expoN (l.take k) ∧ expoN (l.take k) ≤ 24 := by
  have hb := (isGroup.big hg).take k
  have h1 := prodL_pos hb
  have h2 := isGroup.prod hg
  have h3 := prodL_take_le (isGroup.big hg) k
  have h4 := expoN_dvd hb
  have h5 := Int.le_of_dvd (by omega) h4
  refine ⟨?_, by omega⟩
  rcases Nat.eq_zero_or_pos (expoN (l.take k)) with h | h
  · rw [h] at h4
    have := Int.zero_dvd.1 h4
    omega
  · exact h
theorem lcm_step {e o x : Nat} (he : e ∣ x) (hx : 0 < x) (hL : x ≤ Nat.lcm e o) : (o ∣ x → x = Nat.lcm e o) ∧ (¬ o ∣ x → x + e ≤ Nat.lcm e o) := by
  constructor
  · intro h
    exact Nat.le_antisymm hL (Nat.le_of_dvd hx (Nat.lcm_dvd he h))
  · intro h
    have hne : x ≠ Nat.lcm e o := fun hc => h (hc ▸ Nat.dvd_lcm_right e o)
    obtain ⟨p, hp⟩ := he
    obtain ⟨q, hq⟩ := Nat.dvd_lcm_left e o
    rw [hq] at hL hne ⊢
    rw [hp] at hL hne ⊢
    have : p < q := by
      rcases Nat.lt_or_ge p q with h1 | h1
      · exact h1
      · have := Nat.mul_le_mul_left e h1; omega
    have := Nat.mul_le_mul_left e this
    rw [Nat.mul_succ] at this
    exact this
def exE (l : List Int) : Int := if isGroup l then expoN l else 0
theorem exE_yes {l : List Int} (h : isGroup l = true) : exE l = expoN l := if_pos h
theorem exE_no {l : List Int} (h : isGroup l = false) : exE l = 0 := by unfold exE; rw [h]; rfl
end Go.Proofs.Ytknbfohmobjplab

namespace Go.Proofs.Ytknbfohmobjplab
set_option linter.unusedVariables false
set_option linter.unusedSimpArgs false
set_option linter.unusedSectionVars false

/-- B without x -/
def remN (B x : Nat) : Nat := B ^^^ (B &&& 2 ^ x)
theorem bit_remN (B x i : Nat) : (remN B x).testBit i = (B.testBit i && !decide (x = i)) := by
  unfold remN
  rw [Nat.testBit_xor, Nat.testBit_and, Nat.testBit_two_pow]
  cases B.testBit i <;> cases decide (x = i) <;> rfl
theorem inS_remN (B x : Nat) (z : Int) : inS (remN B x) z ↔ inS B z ∧ z ≠ x := by
  unfold inS
  rw [bit_remN, Bool.and_eq_true, Bool.not_eq_true', decide_eq_false_iff_not]
  constructor
  · rintro ⟨h0, h1, h2⟩
    exact ⟨⟨h0, h1⟩, by omega⟩
  · rintro ⟨⟨h0, h1⟩, h2⟩
    exact ⟨h0, h1, by omega⟩
theorem remN_lt {B : Nat} (hB : B < 16777216) (x : Nat) : remN B x < 16777216 := by
  refine Nat.lt_pow_two_of_testBit (n := 24) _ fun i hi => ?_
  rw [bit_remN, Nat.testBit_lt_two_pow (Nat.lt_of_lt_of_le hB (Nat.pow_le_pow_right (by omega) hi : 2 ^ 24 ≤ 2 ^ i))]
  rfl
/-- the sums of different elements -/
def resN (l : List Int) (A B : Nat) : Nat := orU (fun x => shN l (remN B x.toNat) x) (memL A)
/-- .. of one element, in a loop -/
def resRow (l : List Int) (x : Int) (M : List Int) (o : Nat) : Nat := M.foldl (fun o y => if x = y then o else o ||| 2 ^ (gadd l x y).toNat) o
theorem resRow_snoc (l : List Int) (x : Int) (M : List Int) (o : Nat) (y : Int) : resRow l x (M ++ [y]) o = if x = y then resRow l x M o else resRow l x M o ||| 2 ^ (gadd l x y).toNat := by
  unfold resRow
  rw [List.foldl_append]
  rfl
def ssN (l : List Int) (A : Nat) : Nat := (memL A).foldl (fun o x => o ||| shN l o x) 1
def ssTo (l : List Int) (M : List Int) : Nat := M.foldl (fun o x => o ||| shN l o x) 1
def bump (t : List Int) (i : Nat) : List Int := t.set i (t.getD i 0 + 1)
def tabRow (l : List Int) (x : Int) (M : List Int) (t : List Int) : List Int := M.foldl (fun t y => bump t (gadd l x y).toNat) t
def tabTo (l : List Int) (N M : List Int) : List Int := M.foldl (fun t x => tabRow l x N t) (List.replicate (prodL l).toNat 0)
def tabN (l : List Int) (A B : Nat) : List Int := tabTo l (memL B) (memL A)
/-- all counts lie between 0 and c -/
def Cnt (t : List Int) (c : Int) : Prop := ∀ v ∈ t, 0 ≤ v ∧ v ≤ c
def stabTo (l : List Int) (A : Nat) : Nat → Nat
  | 0 => 0
  | x + 1 => if shN l A x = A then stabTo l A x ||| 2 ^ x else stabTo l A x
def stabN (l : List Int) (A : Nat) : Nat := stabTo l A (prodL l).toNat
def isSub (l : List Int) (a : Int) : Bool := isSet l a && decide ((genN l a.toNat : Int) = a)
def lowN (A : Nat) : Int := (memL A).headD 0
def hullN (l : List Int) (A : Nat) : Nat := shN l (genN l (shN l A (gneg l (lowN A)))) (lowN A)
def cosTo (l : List Int) (H : Nat) : Nat → List Int × Nat
  | 0 => ([], 0)
  | x + 1 => if (cosTo l H x).2.testBit x then cosTo l H x else ((cosTo l H x).1 ++ [(shN l H x : Int)], (cosTo l H x).2 ||| shN l H x)
theorem ssTo_snoc (l M : List Int) (x : Int) : ssTo l (M ++ [x]) = ssTo l M ||| shN l (ssTo l M) x := by
  unfold ssTo
  rw [List.foldl_append]
  rfl
section
variable {l : List Int} (hg : isGroup l = true)
include hg
theorem inS_resRow {x : Int} (z : Int) : ∀ (M : List Int) (o : Nat), inS (resRow l x M o) z ↔ inS o z ∨ ∃ y ∈ M, x ≠ y ∧ gadd l x y = z := by
  intro M
  induction M with
  | nil => intro o; simp [resRow]
  | cons y r ih =>
    intro o
    have e : resRow l x (y :: r) o = resRow l x r (if x = y then o else o ||| 2 ^ (gadd l x y).toNat) := rfl
    rw [e, ih]
    by_cases hxy : x = y
    · rw [if_pos hxy]
      constructor
      · rintro (h | ⟨u, hu, h⟩)
        · exact .inl h
        · exact .inr ⟨u, by simp [hu], h⟩
      · rintro (h | ⟨u, hu, h1, h2⟩)
        · exact .inl h
        · rcases List.mem_cons.1 hu with rfl | hu
          · exact absurd hxy h1
          · exact .inr ⟨u, hu, h1, h2⟩
    · rw [if_neg hxy, inS_or, inS_pow (gadd_in hg x y).1]
      constructor
      · rintro ((h | h) | ⟨u, hu, h⟩)
        · exact .inl h
        · exact .inr ⟨y, by simp, hxy, h.symm⟩
        · exact .inr ⟨u, by simp [hu], h⟩
      · rintro (h | ⟨u, hu, h1, h2⟩)
        · exact .inl (.inl h)
        · rcases List.mem_cons.1 hu with rfl | hu
          · exact .inl (.inr h2.symm)
          · exact .inr ⟨u, hu, h1, h2⟩
theorem resRow_all {x : Int} {B : Nat} (hB : B < 16777216) (hx : 0 ≤ x) (o : Nat) : resRow l x (memL B) o = o ||| shN l (remN B x.toNat) x := by
  refine set_ext fun z => ?_
  rw [inS_resRow hg, inS_or, inS_shN hg (remN_lt hB _)]
  refine or_congr Iff.rfl ?_
  constructor
  · rintro ⟨y, hy, h1, h2⟩
    exact ⟨y, (inS_remN _ _ _).2 ⟨(mem_memL hB y).1 hy, by omega⟩, h2⟩
  · rintro ⟨y, hy, h2⟩
    rw [inS_remN] at hy
    exact ⟨y, (mem_memL hB y).2 hy.1, by omega, h2⟩
theorem resRow_lt {x : Int} : ∀ (M : List Int) {o : Nat}, o < 16777216 → resRow l x M o < 16777216 := by
  intro M
  induction M with
  | nil => intro o h; exact h
  | cons y r ih =>
    intro o h
    have e : resRow l x (y :: r) o = resRow l x r (if x = y then o else o ||| 2 ^ (gadd l x y).toNat) := rfl
    rw [e]
    refine ih ?_
    split
    · exact h
    · have h1 := gadd_in hg x y
      have h2 := isGroup.prod hg
      exact or_lt24 h (Nat.pow_lt_pow_right (n := 24) (by omega) (by omega))
theorem resN_lt (A B : Nat) : resN l A B < 16777216 := orU_lt fun x _ => shN_lt hg _ _
theorem inS_resN {A B : Nat} (hA : A < 16777216) (hB : B < 16777216) (z : Int) : inS (resN l A B) z ↔ ∃ x y, inS A x ∧ inS B y ∧ x ≠ y ∧ gadd l x y = z := by
  unfold resN
  rw [inS_orU]
  constructor
  · rintro ⟨x, hx, h⟩
    obtain ⟨y, hy, e⟩ := (inS_shN hg (remN_lt hB _) x z).1 h
    have hx2 := (mem_memL hA x).1 hx
    have h0 := hx2.1
    rw [inS_remN] at hy
    exact ⟨x, y, hx2, hy.1, by omega, e⟩
  · rintro ⟨x, y, hx, hy, hne, e⟩
    have h0 := hx.1
    exact ⟨x, (mem_memL hA x).2 hx, (inS_shN hg (remN_lt hB _) x z).2 ⟨y, (inS_remN _ _ _).2 ⟨hy, by omega⟩, e⟩⟩
theorem ssTo_lt (M : List Int) : ssTo l M < 16777216 := by
  have gen : ∀ (M : List Int) (o : Nat), o < 16777216 → M.foldl (fun o x => o ||| shN l o x) o < 16777216 := by
    intro M
    induction M with
    | nil => intro o h; exact h
    | cons y r ih => intro o h; exact ih _ (or_lt24 h (shN_lt hg _ _))
  exact gen M 1 (by omega)

/-! ### tables -/
omit hg
theorem tabRow_snoc (l : List Int) (x : Int) (M t : List Int) (y : Int) : tabRow l x (M ++ [y]) t = bump (tabRow l x M t) (gadd l x y).toNat := by
  unfold tabRow
  rw [List.foldl_append]
  rfl
theorem tabTo_snoc (l N M : List Int) (x : Int) : tabTo l N (M ++ [x]) = tabRow l x N (tabTo l N M) := by
  unfold tabTo
  rw [List.foldl_append]
  rfl
theorem bump_len (t : List Int) (i : Nat) : (bump t i).length = t.length := List.length_set
theorem Cnt.bump {t : List Int} {c : Int} (h : Cnt t c) (i : Nat) : Cnt (bump t i) (c + 1) := by
  intro v hv
  unfold Go.Proofs.Ytknbfohmobjplab.bump at hv
  rcases List.mem_or_eq_of_mem_set hv with h1 | rfl
  · have := h v h1; omega
  · rw [List.getD_eq_getElem?_getD]
    cases hi : t[i]? with
    | none =>
      have hlen := List.getElem?_eq_none_iff.1 hi
      rw [List.set_eq_of_length_le hlen] at hv
      have := h _ hv
      rw [List.getD_eq_getElem?_getD, hi] at this
      simp at this ⊢
      omega
    | some u =>
      have := h u (List.mem_of_getElem? hi)
      simp
      omega
theorem Cnt.more {t : List Int} {c d : Int} (h : Cnt t c) (hd : c ≤ d) : Cnt t d := fun v hv => by have := h v hv; omega
theorem tabRow_len (l : List Int) (x : Int) : ∀ (M t : List Int), (tabRow l x M t).length = t.length := by
  intro M
  induction M with
  | nil => intro t; rfl
  | cons y r ih => intro t; exact (ih _).trans (bump_len _ _)
theorem tabRow_cnt (l : List Int) (x : Int) : ∀ (M t : List Int) (c : Int), Cnt t c → Cnt (tabRow l x M t) (c + M.length) := by
  intro M
  induction M with
  | nil => intro t c h; exact h.more (by simp)
  | cons y r ih => intro t c h; exact (ih _ _ (h.bump _)).more (by rw [List.length_cons]; omega)
theorem tabTo_len (l N M : List Int) : (tabTo l N M).length = (prodL l).toNat := by
  have gen : ∀ (M t : List Int), (M.foldl (fun t x => tabRow l x N t) t).length = t.length := by
    intro M
    induction M with
    | nil => intro t; rfl
    | cons y r ih => intro t; exact (ih _).trans (tabRow_len _ _ _ _)
  unfold tabTo
  rw [gen, List.length_replicate]
theorem tabTo_cnt (l N M : List Int) : Cnt (tabTo l N M) (N.length * M.length) := by
  have gen : ∀ (M t : List Int) (c : Int), Cnt t c → Cnt (M.foldl (fun t x => tabRow l x N t) t) (c + N.length * M.length) := by
    intro M
    induction M with
    | nil => intro t c h; exact h.more (by simp)
    | cons y r ih =>
      intro t c h
      refine (ih _ _ (tabRow_cnt l y N t c h)).more ?_
      rw [List.length_cons, Int.natCast_succ, Int.mul_add]
      omega
  have := gen M (List.replicate (prodL l).toNat 0) 0 fun v hv => by rw [List.eq_of_mem_replicate hv]; omega
  unfold tabTo
  exact this.more (by omega)
include hg

/-! ### stabilizers -/
omit hg in
theorem inS_stabTo (A : Nat) (z : Int) : ∀ x : Nat, inS (stabTo l A x) z ↔ 0 ≤ z ∧ z < x ∧ shN l A z = A := by
  intro x
  induction x with
  | zero =>
    refine ⟨fun h => absurd h (inS_zero z), fun h => ?_⟩
    omega
  | succ x ih =>
    rw [stabTo]
    by_cases h : shN l A x = A
    · rw [if_pos h, inS_or, ih, show 2 ^ x = 2 ^ ((x : Int)).toNat by rw [Int.toNat_natCast], inS_pow (by omega)]
      constructor
      · rintro (⟨h0, h1, h2⟩ | rfl)
        · exact ⟨h0, by omega, h2⟩
        · exact ⟨by omega, by omega, h⟩
      · rintro ⟨h0, h1, h2⟩
        by_cases hz : z = x
        · exact .inr hz
        · exact .inl ⟨h0, by omega, h2⟩
    · rw [if_neg h, ih]
      constructor
      · rintro ⟨h0, h1, h2⟩
        exact ⟨h0, by omega, h2⟩
      · rintro ⟨h0, h1, h2⟩
        refine ⟨h0, ?_, h2⟩
        by_cases hz : z = x
        · rw [hz] at h2; exact absurd h2 h
        · omega
theorem stabTo_lt (A : Nat) {x : Nat} (hx : x ≤ (prodL l).toNat) : stabTo l A x < topOf l := by
  refine top_of hg fun z hz => ?_
  have := (inS_stabTo A z x).1 hz
  omega
theorem inS_stabN (A : Nat) (z : Int) : inS (stabN l A) z ↔ 0 ≤ z ∧ z < prodL l ∧ shN l A z = A := by
  have hp := isGroup.prod hg
  unfold stabN
  rw [inS_stabTo, show (((prodL l).toNat : Nat) : Int) = prodL l by omega]
theorem stabN_top (A : Nat) : stabN l A < topOf l := stabTo_lt hg A (Nat.le_refl _)
theorem shN_zero {A : Nat} (hA : A < topOf l) : shN l A 0 = A := by
  have hb := isGroup.big hg
  refine set_ext fun z => ?_
  rw [inS_shN hg (top_24 hg hA)]
  constructor
  · rintro ⟨y, hy, rfl⟩
    have := of_top hg hA hy
    rw [gadd_comm, gadd_zero l y hb this.1 this.2]
    exact hy
  · intro hz
    have := of_top hg hA hz
    exact ⟨z, hz, by rw [gadd_comm, gadd_zero l z hb this.1 this.2]⟩
theorem shN_shN {A : Nat} (hA : A < topOf l) (x y : Int) : shN l (shN l A x) y = shN l A (gadd l y x) := by
  have hb := isGroup.big hg
  refine set_ext fun z => ?_
  rw [inS_shN hg (shN_lt hg _ _), inS_shN hg (top_24 hg hA)]
  constructor
  · rintro ⟨u, hu, rfl⟩
    obtain ⟨v, hv, rfl⟩ := (inS_shN hg (top_24 hg hA) _ _).1 hu
    exact ⟨v, hv, gadd_assoc l y x v hb⟩
  · rintro ⟨v, hv, rfl⟩
    exact ⟨gadd l x v, (inS_shN hg (top_24 hg hA) _ _).2 ⟨v, hv, rfl⟩, (gadd_assoc l y x v hb).symm⟩
theorem shN_back {A : Nat} (hA : A < topOf l) (x : Int) : shN l (shN l A x) (gneg l x) = A := by
  rw [shN_shN hg hA, gadd_comm, gadd_neg l x (isGroup.big hg), shN_zero hg hA]
theorem shN_forth {A : Nat} (hA : A < topOf l) (x : Int) : shN l (shN l A (gneg l x)) x = A := by
  rw [shN_shN hg hA, gadd_neg l x (isGroup.big hg), shN_zero hg hA]
theorem stabN_odd {A : Nat} (hA : A < topOf l) : stabN l A % 2 = 1 := by
  have h : inS (stabN l A) 0 := (inS_stabN hg A 0).2 ⟨by omega, by have := isGroup.prod hg; omega, shN_zero hg hA⟩
  have h2 := h.2
  rw [show (0 : Int).toNat = 0 from rfl, Nat.testBit_zero] at h2
  exact of_decide_eq_true h2
omit hg
theorem pc_pos (k : Nat) : ∀ a, a < 2 ^ k → 0 < a → 0 < pc k a := by
  induction k with
  | zero => intro a h h0; simp at h; omega
  | succ k ih =>
    intro a h h0
    rw [Nat.pow_succ] at h
    rw [pc]
    rcases Nat.mod_two_eq_zero_or_one a with h2 | h2
    · have := ih (a / 2) (by omega) (by omega)
      omega
    · omega
theorem pc_odd {S : Nat} (hS : S < 16777216) (ho : S % 2 = 1) : (1 < pc 24 S) ↔ 1 < S := by
  rw [show (24 : Nat) = 23 + 1 from rfl, pc, ho]
  constructor
  · intro h
    rcases Nat.eq_zero_or_pos (S / 2) with h0 | h0
    · rw [h0, pc_zero] at h; omega
    · omega
  · intro h
    have := pc_pos 23 (S / 2) (by omega) (by omega)
    omega
theorem rem_odd {S : Nat} (ho : S % 2 = 1) : remN S 0 = S - 1 := by
  apply Nat.eq_of_testBit_eq
  intro i
  rw [bit_remN]
  cases i with
  | zero =>
    rw [Nat.testBit_zero, Nat.testBit_zero]
    have : ¬ (S - 1) % 2 = 1 := by omega
    simp [this]
  | succ i =>
    rw [Nat.testBit_succ, Nat.testBit_succ, show (S - 1) / 2 = S / 2 by omega]
    simp
include hg

/-! ### subgroups and cosets -/
theorem hull_iff {A : Nat} (hA : A < topOf l) : hullN l A = A ↔ genN l (shN l A (gneg l (lowN A))) = shN l A (gneg l (lowN A)) := by
  unfold hullN
  have hG := genN_top hg (shN_lt hg A (gneg l (lowN A)))
  constructor
  · intro h
    have h1 := shN_back hg hG (lowN A)
    rw [h] at h1
    exact h1.symm
  · intro h
    rw [h]
    exact shN_forth hg hA _
omit hg in
theorem cosTo_len (H : Nat) : ∀ x, (cosTo l H x).1.length ≤ x := by
  intro x
  induction x with
  | zero => exact Nat.le_refl _
  | succ x ih =>
    rw [cosTo]
    split
    · omega
    · rw [List.length_append, List.length_singleton]; omega
theorem cosTo_lt (H : Nat) : ∀ x, (cosTo l H x).2 < 16777216 := by
  intro x
  induction x with
  | zero => exact (by decide : 0 < 16777216)
  | succ x ih =>
    rw [cosTo]
    split
    · exact ih
    · exact or_lt24 ih (shN_lt hg _ _)
theorem cosTo_bd (H : Nat) : ∀ x, ∀ c ∈ (cosTo l H x).1, ∃ C : Nat, c = C ∧ C < 16777216 := by
  intro x
  induction x with
  | zero => intro c hc; cases hc
  | succ x ih =>
    rw [cosTo]
    split
    · exact ih
    · intro c hc
      rcases List.mem_append.1 hc with h | h
      · exact ih c h
      · rw [List.mem_singleton] at h
        exact ⟨_, h, shN_lt hg _ _⟩
end
end Go.Proofs.Ytknbfohmobjplab

namespace Go.Proofs.Ytknbfohmobjplab
set_option linter.unusedVariables false
set_option linter.unusedSimpArgs false
set_option linter.unusedSectionVars false

def IsSubN (l : List Int) (H : Nat) : Prop := H < topOf l ∧ genN l H = H
theorem gadd_mid (l : List Int) (hb : Big l) (x y u v : Int) : gadd l (gadd l x y) (gadd l u v) = gadd l (gadd l x u) (gadd l y v) := by
  rw [gadd_assoc l x y _ hb, ← gadd_assoc l y u v hb, gadd_comm l y u, gadd_assoc l u y v hb, ← gadd_assoc l x u _ hb]
section
variable {l : List Int} (hg : isGroup l = true)
include hg
theorem isSubN_iff (H : Nat) : IsSubN l H ↔ H < topOf l ∧ inS H 0 ∧ ∀ x y, inS H x → inS H y → inS H (gadd l x y) := by
  constructor
  · rintro ⟨h1, h2⟩
    have h := genN_iff hg (top_24 hg h1)
    rw [h2] at h
    exact ⟨h1, (h 0).2 .zero, fun x y hx hy => (h _).2 (Gen.add hg ((h x).1 hx) ((h y).1 hy))⟩
  · rintro ⟨h1, h2, h3⟩
    refine ⟨h1, set_ext fun z => ?_⟩
    rw [genN_iff hg (top_24 hg h1)]
    constructor
    · intro hz
      induction hz with
      | zero => exact h2
      | step _ ha ih => exact h3 _ _ ih ha
    · intro hz
      exact Gen.one hg hz (of_top hg h1 hz).2
theorem IsSubN.gen {H : Nat} (h : IsSubN l H) (z : Int) : inS H z ↔ Gen l H z := by
  have := genN_iff hg (top_24 hg h.1) z
  rw [h.2] at this
  exact this
theorem IsSubN.zero {H : Nat} (h : IsSubN l H) : inS H 0 := ((isSubN_iff hg H).1 h).2.1
theorem IsSubN.add {H : Nat} (h : IsSubN l H) {x y : Int} (hx : inS H x) (hy : inS H y) : inS H (gadd l x y) := ((isSubN_iff hg H).1 h).2.2 x y hx hy
theorem IsSubN.neg {H : Nat} (h : IsSubN l H) {x : Int} (hx : inS H x) : inS H (gneg l x) := (IsSubN.gen hg h _).2 (Gen.neg hg ((IsSubN.gen hg h _).1 hx))
theorem IsSubN.mul {H : Nat} (h : IsSubN l H) {x : Int} (hx : inS H x) (n : Nat) : inS H (gmul l n x) := (IsSubN.gen hg h _).2 (Gen.mul hg ((IsSubN.gen hg h _).1 hx) n)
/-- what lies in a subgroup generates no more -/
theorem IsSubN.least {H A : Nat} (h : IsSubN l H) (hA : ∀ z, inS A z → inS H z) {z : Int} (hz : Gen l A z) : inS H z := by
  induction hz with
  | zero => exact IsSubN.zero hg h
  | step _ ha ih => exact IsSubN.add hg h ih (hA _ ha)
theorem genN_isSub {A : Nat} (hA : A < 16777216) : IsSubN l (genN l A) := by
  rw [isSubN_iff hg]
  refine ⟨genN_top hg hA, (genN_iff hg hA 0).2 .zero, fun x y hx hy => ?_⟩
  rw [genN_iff hg hA] at hx hy ⊢
  exact Gen.add hg hx hy
theorem genN_has {A : Nat} (hA : A < topOf l) {z : Int} (hz : inS A z) : inS (genN l A) z := (genN_iff hg (top_24 hg hA) z).2 (Gen.one hg hz (of_top hg hA hz).2)
theorem sub_one : IsSubN l 1 := by
  rw [isSubN_iff hg]
  have hp := isGroup.prod hg
  refine ⟨by have := (topOf_bd hg).1; omega, (inS_one 0).2 rfl, fun x y hx hy => ?_⟩
  rw [(inS_one x).1 hx, (inS_one y).1 hy, gadd_zero l 0 (isGroup.big hg) (by omega) (by omega)]
  exact (inS_one 0).2 rfl
theorem sub_sum {H K : Nat} (hH : IsSubN l H) (hK : IsSubN l K) : IsSubN l (sumN l H K) := by
  have h1 := top_24 hg hH.1
  have h2 := top_24 hg hK.1
  have hb := isGroup.big hg
  have hp := isGroup.prod hg
  rw [isSubN_iff hg]
  refine ⟨sumN_top hg H K, (inS_sumN hg h1 h2 0).2 ⟨0, 0, IsSubN.zero hg hH, IsSubN.zero hg hK, gadd_zero l 0 hb (by omega) (by omega)⟩, fun x y hx hy => ?_⟩
  rw [inS_sumN hg h1 h2] at hx hy ⊢
  obtain ⟨a, b, ha, hb1, rfl⟩ := hx
  obtain ⟨c, d, hc, hd, rfl⟩ := hy
  exact ⟨_, _, IsSubN.add hg hH ha hc, IsSubN.add hg hK hb1 hd, (gadd_mid l hb a b c d).symm⟩
theorem sub_and {H K : Nat} (hH : IsSubN l H) (hK : IsSubN l K) : IsSubN l (H &&& K) := by
  rw [isSubN_iff hg]
  refine ⟨Nat.lt_of_le_of_lt Nat.and_le_left hH.1, (inS_and _ _ _).2 ⟨IsSubN.zero hg hH, IsSubN.zero hg hK⟩, fun x y hx hy => ?_⟩
  rw [inS_and] at hx hy ⊢
  exact ⟨IsSubN.add hg hH hx.1 hy.1, IsSubN.add hg hK hx.2 hy.2⟩
theorem sub_pow_lt {H : Nat} (hH : IsSubN l H) {x : Nat} (hx : (x : Int) < prodL l) : H ||| 2 ^ x < topOf l := by
  refine top_of hg fun z hz => ?_
  rcases (inS_or _ _ _).1 hz with h | h
  · exact (of_top hg hH.1 h).2
  · rw [show 2 ^ x = 2 ^ ((x : Int)).toNat by rw [Int.toNat_natCast], inS_pow (by omega)] at h
    omega
/-- a collection with {0} that is closed under one more element holds all subgroups -/
theorem all_subs {L : Nat → Prop} (h1 : L 1) (hc : ∀ H, L H → ∀ x : Nat, (x : Int) < prodL l → L (genN l (H ||| 2 ^ x))) (hs : ∀ H, L H → IsSubN l H) {K : Nat} (hK : IsSubN l K) : L K := by
  have gen : ∀ m : Nat, (m : Int) ≤ prodL l → ∃ H, L H ∧ (∀ z, inS H z → inS K z) ∧ ∀ z, inS K z → z < m → inS H z := by
    intro m
    induction m with
    | zero =>
      intro _
      refine ⟨1, h1, fun z hz => ?_, fun z hz hlt => ?_⟩
      · rw [(inS_one z).1 hz]; exact IsSubN.zero hg hK
      · have := hz.1; omega
    | succ m ih =>
      intro hm
      obtain ⟨H, hL, hsub, hall⟩ := ih (by omega)
      by_cases hin : inS K m
      · have hx : (m : Int) < prodL l := by omega
        have hlt := sub_pow_lt hg (hs H hL) hx
        have hpow : ∀ z, inS (2 ^ m) z ↔ z = m := fun z => by
          rw [show 2 ^ m = 2 ^ ((m : Int)).toNat by rw [Int.toNat_natCast]]
          exact inS_pow (by omega) z
        refine ⟨_, hc H hL m hx, fun z hz => ?_, fun z hz hzm => ?_⟩
        · refine IsSubN.least hg hK (fun u hu => ?_) ((genN_iff hg (top_24 hg hlt) z).1 hz)
          rcases (inS_or _ _ _).1 hu with h | h
          · exact hsub u h
          · rw [(hpow u).1 h]; exact hin
        · refine genN_has hg hlt ((inS_or _ _ _).2 ?_)
          by_cases he : z = m
          · exact .inr ((hpow z).2 he)
          · exact .inl (hall z hz (by omega))
      · refine ⟨H, hL, hsub, fun z hz hzm => hall z hz ?_⟩
        by_cases he : z = m
        · rw [he] at hz; exact absurd hz hin
        · omega
  have hp := isGroup.prod hg
  obtain ⟨H, hL, hsub, hall⟩ := gen (prodL l).toNat (by omega)
  have : H = K := set_ext fun z => ⟨hsub z, fun hz => hall z hz (by have := (of_top hg hK.1 hz).2; omega)⟩
  rw [← this]
  exact hL
end

/-! ### three generators -/
def comb (l : List Int) : List Nat → List Int → Int
  | n :: ns, g :: gs => gadd l (gmul l n g) (comb l ns gs)
  | _, _ => 0
theorem gmul_lift {o : Int} (r : List Int) (ho : 2 ≤ o) (n y : Int) : gmul (o :: r) n (o * y) = o * gmul r n y := by
  rw [gmul, Int.mul_emod_right, Int.mul_zero, Int.zero_emod, Int.mul_ediv_cancel_left _ (by omega)]
  omega
theorem gadd_lift {o : Int} (r : List Int) (ho : 2 ≤ o) (x y : Int) : gadd (o :: r) (o * x) (o * y) = o * gadd r x y := by
  rw [gadd, Int.mul_emod_right, Int.mul_emod_right, Int.mul_ediv_cancel_left _ (by omega), Int.mul_ediv_cancel_left _ (by omega)]
  simp
theorem gneg_lift {o : Int} (r : List Int) (ho : 2 ≤ o) (x : Int) : gneg (o :: r) (o * x) = o * gneg r x := by
  rw [gneg, Int.mul_emod_right, Int.mul_ediv_cancel_left _ (by omega)]
  simp
theorem comb_lift {o : Int} (r : List Int) (ho : 2 ≤ o) : ∀ (ns : List Nat) (gs : List Int), comb (o :: r) ns (gs.map (o * ·)) = o * comb r ns gs := by
  intro ns
  induction ns with
  | nil => intro gs; cases gs <;> simp [comb]
  | cons n ns ih =>
    intro gs
    cases gs with
    | nil => simp [comb]
    | cons g gs => rw [List.map_cons, comb, comb, ih, gmul_lift r ho, gadd_lift r ho]
/-- the least of some numbers above 0 -/
theorem least_of (P : Nat → Prop) : ∀ n, P n → ∃ m, P m ∧ ∀ k, P k → m ≤ k := by
  intro n
  induction n using Nat.strongRecOn with
  | ind n ih =>
    intro hn
    by_cases h : ∃ k, P k ∧ k < n
    · obtain ⟨k, hk, hlt⟩ := h
      exact ih k hlt hk
    · refine ⟨n, hn, fun k hk => ?_⟩
      rcases Nat.lt_or_ge k n with h1 | h1
      · exact absurd ⟨k, hk, h1⟩ h
      · exact h1
theorem gens (l : List Int) : Big l → ∀ S : Int → Prop, S 0 → (∀ x y, S x → S y → S (gadd l x y)) → (∀ x, S x → S (gneg l x)) → (∀ (n : Nat) x, S x → S (gmul l n x)) → (∀ x, S x → 0 ≤ x ∧ x < prodL l) →
    ∃ gs : List Int, gs.length = l.length ∧ (∀ g ∈ gs, S g) ∧ ∀ x, S x → ∃ ns : List Nat, ns.length = l.length ∧ x = comb l ns gs := by
  induction l with
  | nil =>
    intro _ S _ _ _ _ hbd
    refine ⟨[], rfl, (fun g hg => by cases hg), fun x hx => ⟨[], rfl, ?_⟩⟩
    have := hbd x hx
    rw [prodL_nil] at this
    show x = 0
    omega
  | cons o r ih =>
    intro hb S h0 hadd hneg hmul hbd
    have ho := hb.head
    have hpr := prodL_pos hb.tail
    -- the elements whose first place is 0
    obtain ⟨gs, hlen, hgs, hall⟩ := ih hb.tail (fun y => S (o * y) ∧ 0 ≤ y ∧ y < prodL r) ⟨by rw [Int.mul_zero]; exact h0, by omega, by omega⟩
      (fun x y hx hy => ⟨by rw [← gadd_lift r ho]; exact hadd _ _ hx.1 hy.1, gadd_bd r x y hb.tail⟩)
      (fun x hx => ⟨by rw [← gneg_lift r ho]; exact hneg _ hx.1, gneg_bd r x hb.tail⟩)
      (fun n x hx => ⟨by rw [← gmul_lift r ho]; exact hmul _ _ hx.1, gmul_bd r n x hb.tail⟩) (fun x hx => hx.2)
    have fin : ∀ h, S h → (∀ x, S x → ∃ q : Nat, S (gadd (o :: r) x (gneg (o :: r) (gmul (o :: r) q h))) ∧ gadd (o :: r) x (gneg (o :: r) (gmul (o :: r) q h)) % o = 0) →
        ∃ gs : List Int, gs.length = (o :: r).length ∧ (∀ g ∈ gs, S g) ∧ ∀ x, S x → ∃ ns : List Nat, ns.length = (o :: r).length ∧ x = comb (o :: r) ns gs := by
      intro h hh hq
      refine ⟨h :: gs.map (o * ·), by simp [hlen], fun g hg => ?_, fun x hx => ?_⟩
      · rcases List.mem_cons.1 hg with rfl | hg
        · exact hh
        · obtain ⟨y, hy, rfl⟩ := List.mem_map.1 hg
          exact (hgs y hy).1
      · obtain ⟨q, hk, hk0⟩ := hq x hx
        obtain ⟨k, hK⟩ : ∃ k, k = gadd (o :: r) x (gneg (o :: r) (gmul (o :: r) q h)) := ⟨_, rfl⟩
        rw [← hK] at hk hk0
        have hkd : o * (k / o) = k := by have := Int.mul_ediv_add_emod k o; omega
        have hkb := hbd k hk
        have hk2 : S (o * (k / o)) ∧ 0 ≤ k / o ∧ k / o < prodL r := by
          refine ⟨by rw [hkd]; exact hk, Int.ediv_nonneg hkb.1 (by omega), ?_⟩
          rw [prodL_cons] at hkb
          exact div_lt_of (by omega) hkb.2
        obtain ⟨ns, hns, he⟩ := hall _ hk2
        refine ⟨q :: ns, by simp [hns], ?_⟩
        rw [comb, comb_lift r ho, ← he, hkd, hK]
        have hxb := hbd x hx
        rw [gadd_comm (o :: r) x, ← gadd_assoc (o :: r) _ _ _ hb, gadd_neg (o :: r) _ hb, gadd_comm, gadd_zero (o :: r) x hb hxb.1 hxb.2]
    by_cases hd : ∃ x, S x ∧ x % o ≠ 0
    · obtain ⟨x0, hx0, hne⟩ := hd
      have hm0 := emod_bd x0 ho
      obtain ⟨d, ⟨hdp, h, hh, hhd⟩, hmin⟩ := least_of (fun d => 0 < d ∧ ∃ x, S x ∧ x % o = (d : Int)) (x0 % o).toNat ⟨by omega, x0, hx0, by omega⟩
      refine fin h hh fun x hx => ?_
      have hm := emod_bd x ho
      have hhm := emod_bd h ho
      refine ⟨((x % o) / d).toNat, hadd _ _ hx (hneg _ (hmul _ _ hh)), ?_⟩
      have hk : S (gadd (o :: r) x (gneg (o :: r) (gmul (o :: r) (((x % o) / d).toNat : Nat) h))) := hadd _ _ hx (hneg _ (hmul _ _ hh))
      have hq0 : 0 ≤ (x % o) / d := Int.ediv_nonneg hm.1 (by omega)
      have eq1 : ((((x % o) / d).toNat : Nat) : Int) = (x % o) / d := by omega
      rw [eq1] at hk ⊢
      have hdiv := Int.mul_ediv_add_emod (x % o) d
      have hr : 0 ≤ (x % o) % (d : Int) ∧ (x % o) % (d : Int) < d := ⟨Int.emod_nonneg _ (by omega), Int.emod_lt_of_pos _ (by omega)⟩
      obtain ⟨q, hQ⟩ : ∃ q, q = (x % o) / d := ⟨_, rfl⟩
      rw [← hQ] at hk hdiv ⊢
      have hqd : 0 ≤ q * (d : Int) := Int.mul_nonneg (by omega) (by omega)
      have hqd2 : q * (d : Int) ≤ x % o := by rw [Int.mul_comm]; omega
      -- the first place of the rest
      have e1 : gmul (o :: r) q h % o = q * (d : Int) := by
        rw [gmul, (digit_mod ho (emod_bd _ ho)).1, hhd]
        exact Int.emod_eq_of_lt hqd (by omega)
      have e2 : gneg (o :: r) (gmul (o :: r) q h) % o = (o - q * (d : Int)) % o := by
        rw [gneg, (digit_mod ho (emod_bd _ ho)).1, e1]
      have e3 : gadd (o :: r) x (gneg (o :: r) (gmul (o :: r) q h)) % o = (x % o) % d := by
        rw [gadd, (digit_mod ho (emod_bd _ ho)).1, e2, Int.add_emod_emod, show x % o + (o - q * (d : Int)) = (x % o - q * (d : Int)) + o by omega, Int.add_emod_right]
        rw [Int.emod_eq_of_lt (by omega) (by omega), Int.mul_comm]
        omega
      rw [e3]
      by_cases h0' : (x % o) % d = 0
      · exact h0'
      · have := hmin ((x % o) % d).toNat ⟨by omega, _, hk, by omega⟩
        omega
    · refine fin 0 h0 fun x hx => ⟨0, hadd _ _ hx (hneg _ (hmul _ _ h0)), ?_⟩
      have hk : S (gadd (o :: r) x (gneg (o :: r) (gmul (o :: r) ((0 : Nat) : Int) 0))) := hadd _ _ hx (hneg _ (hmul _ _ h0))
      by_cases hz : gadd (o :: r) x (gneg (o :: r) (gmul (o :: r) ((0 : Nat) : Int) 0)) % o = 0
      · exact hz
      · exact absurd ⟨_, hk, hz⟩ hd
/-- what one element generates -/
def cycN (l : List Int) (x : Int) : Nat := genN l (2 ^ x.toNat)
section
variable {l : List Int} (hg : isGroup l = true)
include hg
theorem pow_top {x : Int} (h0 : 0 ≤ x) (h : x < prodL l) : 2 ^ x.toNat < topOf l := top_of hg fun z hz => by rw [(inS_pow h0 z).1 hz]; exact h
theorem cyc_sub {x : Int} (h0 : 0 ≤ x) (h : x < prodL l) : IsSubN l (cycN l x) := genN_isSub hg (top_24 hg (pow_top hg h0 h))
theorem cyc_mul {x : Int} (h0 : 0 ≤ x) (h : x < prodL l) (n : Nat) : inS (cycN l x) (gmul l n x) := IsSubN.mul hg (cyc_sub hg h0 h) (genN_has hg (pow_top hg h0 h) ((inS_pow h0 x).2 rfl)) n
theorem cyc_least {K : Nat} (hK : IsSubN l K) {x : Int} (hx : inS K x) {z : Int} (hz : inS (cycN l x) z) : inS K z := by
  have hb := of_top hg hK.1 hx
  refine IsSubN.least hg hK (fun u hu => ?_) ((genN_iff hg (top_24 hg (pow_top hg hb.1 hb.2)) z).1 hz)
  rw [(inS_pow hb.1 u).1 hu]
  exact hx
/-- each subgroup is the sum of three cyclic ones -/
theorem three_cyc {K : Nat} (hK : IsSubN l K) : ∃ a b c : Int, (0 ≤ a ∧ a < prodL l) ∧ (0 ≤ b ∧ b < prodL l) ∧ (0 ≤ c ∧ c < prodL l) ∧ K = sumN l (sumN l (cycN l a) (cycN l b)) (cycN l c) := by
  have hb := isGroup.big hg
  have hp := isGroup.prod hg
  obtain ⟨gs, hlen, hgs, hall⟩ := gens l hb (inS K) (IsSubN.zero hg hK) (fun _ _ => IsSubN.add hg hK) (fun _ => IsSubN.neg hg hK) (fun n _ h => IsSubN.mul hg hK h n) (fun _ h => of_top hg hK.1 h)
  have fin : ∀ a b c : Int, inS K a → inS K b → inS K c → (∀ x, inS K x → ∃ m n k : Nat, x = gadd l (gadd l (gmul l m a) (gmul l n b)) (gmul l k c)) → ∃ a b c : Int, (0 ≤ a ∧ a < prodL l) ∧ (0 ≤ b ∧ b < prodL l) ∧ (0 ≤ c ∧ c < prodL l) ∧ K = sumN l (sumN l (cycN l a) (cycN l b)) (cycN l c) := by
    intro a b c ha hb1 hc h
    have ba := of_top hg hK.1 ha
    have bb := of_top hg hK.1 hb1
    have bc := of_top hg hK.1 hc
    have la := top_24 hg (cyc_sub hg ba.1 ba.2).1
    have lb := top_24 hg (cyc_sub hg bb.1 bb.2).1
    have lc := top_24 hg (cyc_sub hg bc.1 bc.2).1
    refine ⟨a, b, c, ba, bb, bc, set_ext fun z => ?_⟩
    rw [inS_sumN hg (sumN_lt hg _ _) lc]
    constructor
    · intro hz
      obtain ⟨m, n, k, rfl⟩ := h z hz
      exact ⟨_, _, (inS_sumN hg la lb _).2 ⟨_, _, cyc_mul hg ba.1 ba.2 m, cyc_mul hg bb.1 bb.2 n, rfl⟩, cyc_mul hg bc.1 bc.2 k, rfl⟩
    · rintro ⟨x, y, hx, hy, rfl⟩
      obtain ⟨u, v, hu, hv, rfl⟩ := (inS_sumN hg la lb _).1 hx
      exact IsSubN.add hg hK (IsSubN.add hg hK (cyc_least hg hK ha hu) (cyc_least hg hK hb1 hv)) (cyc_least hg hK hc hy)
  have z0 := IsSubN.zero hg hK
  have gz : ∀ u, 0 ≤ u → u < prodL l → gadd l u 0 = u := fun u h1 h2 => gadd_zero l u hb h1 h2
  have mz : ∀ u, gmul l ((0 : Nat) : Int) u = 0 := fun u => gmul_zero l u
  have mb := fun n u => gmul_bd l n u hb
  have l3 := isGroup.len hg
  match gs, hlen with
  | [], hl =>
    refine fin 0 0 0 z0 z0 z0 fun x hx => ⟨0, 0, 0, ?_⟩
    obtain ⟨ns, hns, rfl⟩ := hall x hx
    rw [mz, gz 0 (by omega) (by omega), gz 0 (by omega) (by omega)]
    cases ns <;> rfl
  | [a], hl =>
    refine fin a 0 0 (hgs a (by simp)) z0 z0 fun x hx => ?_
    obtain ⟨ns, hns, rfl⟩ := hall x hx
    match ns, hns.trans hl.symm with
    | [n], _ =>
      refine ⟨n, 0, 0, ?_⟩
      have := mb n a
      rw [mz, gz _ this.1 this.2, gz _ this.1 this.2]
      show gadd l (gmul l n a) 0 = _
      rw [gz _ this.1 this.2]
  | [a, b], hl =>
    refine fin a b 0 (hgs a (by simp)) (hgs b (by simp)) z0 fun x hx => ?_
    obtain ⟨ns, hns, rfl⟩ := hall x hx
    match ns, hns.trans hl.symm with
    | [n, m], _ =>
      refine ⟨n, m, 0, ?_⟩
      have h1 := mb m b
      have h2 := gadd_bd l (gmul l n a) (gmul l m b) hb
      rw [mz, gz _ h2.1 h2.2]
      show gadd l (gmul l n a) (gadd l (gmul l m b) 0) = _
      rw [gz _ h1.1 h1.2]
  | [a, b, c], hl =>
    refine fin a b c (hgs a (by simp)) (hgs b (by simp)) (hgs c (by simp)) fun x hx => ?_
    obtain ⟨ns, hns, rfl⟩ := hall x hx
    match ns, hns.trans hl.symm with
    | [n, m, k], _ =>
      refine ⟨n, m, k, ?_⟩
      have h1 := mb k c
      show gadd l (gmul l n a) (gadd l (gmul l m b) (gadd l (gmul l k c) 0)) = _
      rw [gz _ h1.1 h1.2, gadd_assoc l _ _ _ hb]
  | _ :: _ :: _ :: _ :: _, hl => exact absurd hl (by simp; omega)
end
end Go.Proofs.Ytknbfohmobjplab

namespace Go.Proofs.Ytknbfohmobjplab
set_option linter.unusedVariables false
set_option linter.unusedSimpArgs false
set_option linter.unusedSectionVars false

theorem pc_or (k : Nat) : ∀ a b, a &&& b = 0 → pc k (a ||| b) = pc k a + pc k b := by
  induction k with
  | zero => intro a b _; rfl
  | succ k ih =>
    intro a b h
    have h1 : (a / 2) &&& (b / 2) = 0 := by rw [← Nat.and_div_two, h]
    have h2 : (a ||| b) / 2 = a / 2 ||| b / 2 := Nat.or_div_two
    have h3 : (a ||| b) % 2 = a % 2 + b % 2 := by
      have e := congrArg (fun n => Nat.testBit n 0) h
      have e2 : Nat.testBit (a ||| b) 0 = (Nat.testBit a 0 || Nat.testBit b 0) := Nat.testBit_or a b 0
      simp only [Nat.testBit_and, Nat.zero_testBit] at e
      rw [Nat.testBit_zero, Nat.testBit_zero] at e
      rw [Nat.testBit_zero, Nat.testBit_zero, Nat.testBit_zero] at e2
      rcases Nat.mod_two_eq_zero_or_one a with ha | ha <;> rcases Nat.mod_two_eq_zero_or_one b with hb | hb <;> rcases Nat.mod_two_eq_zero_or_one (a ||| b) with hc | hc <;> rw [ha, hb] at e <;> rw [ha, hb, hc] at e2 <;> simp at e e2 <;> omega
    rw [pc, pc, pc, h2, ih _ _ h1, h3]
    omega
theorem pc_pow (k : Nat) : ∀ x, x < k → pc k (2 ^ x) = 1 := by
  induction k with
  | zero => intro x h; omega
  | succ k ih =>
    intro x h
    cases x with
    | zero => rw [pc]; show 1 + pc k 0 = 1; rw [pc_zero]
    | succ x =>
      have := ih x (by omega)
      rw [pc, Nat.pow_succ, Nat.mul_div_cancel _ (by omega), this, Nat.mul_mod_left]
theorem and_zero_of {A B : Nat} (h : ∀ z, inS A z → inS B z → False) : A &&& B = 0 := by
  refine set_ext fun z => ?_
  rw [inS_and]
  exact ⟨fun hz => absurd hz.2 fun hb => h z hz.1 hb, fun hz => absurd hz (inS_zero z)⟩
theorem of_and_zero {A B : Nat} (h : A &&& B = 0) {z : Int} (h1 : inS A z) (h2 : inS B z) : False := by
  have := (inS_and A B z).2 ⟨h1, h2⟩
  rw [h] at this
  exact inS_zero z this
theorem pc_orL (f : Int → Int) : ∀ (L : List Int) (a : Nat), (∀ x ∈ L, 0 ≤ f x ∧ f x < 24) → (∀ x ∈ L, ¬ inS a (f x)) → (L.map f).Pairwise (· ≠ ·) → pc 24 (L.foldl (fun a x => a ||| 2 ^ (f x).toNat) a) = pc 24 a + L.length := by
  obtain ⟨p, hp⟩ : ∃ p : Nat → Nat, p = pc 24 := ⟨_, rfl⟩
  have hor : ∀ a b, a &&& b = 0 → p (a ||| b) = p a + p b := by rw [hp]; exact pc_or 24
  have hpw : ∀ x, x < 24 → p (2 ^ x) = 1 := by rw [hp]; exact pc_pow 24
  rw [← hp]
  clear hp
  intro L
  induction L with
  | nil => intro a _ _ _; rfl
  | cons y r ih =>
    intro a hb hn hp
    rw [List.map_cons, List.pairwise_cons] at hp
    have hy := hb y (by simp)
    have hd : a &&& 2 ^ (f y).toNat = 0 := and_zero_of fun z h1 h2 => by
      rw [inS_pow hy.1] at h2
      rw [h2] at h1
      exact hn y (by simp) h1
    have hn2 : ∀ x ∈ r, ¬ inS (a ||| 2 ^ (f y).toNat) (f x) := fun x hx h => by
      rcases (inS_or _ _ _).1 h with h | h
      · exact hn x (by simp [hx]) h
      · rw [inS_pow hy.1] at h
        exact hp.1 (f x) (List.mem_map.2 ⟨x, hx, rfl⟩) h.symm
    have h1 := ih (a ||| 2 ^ (f y).toNat) (fun x hx => hb x (by simp [hx])) hn2 hp.2
    rw [List.foldl_cons, h1, hor _ _ hd, hpw _ (by omega), List.length_cons]
    omega
theorem memL_asc (A : Nat) : (memL A).Pairwise (· < ·) := by
  unfold memL memTo
  exact List.Pairwise.map _ (fun a b h => Int.ofNat_lt.2 h) (List.Pairwise.filter _ List.pairwise_lt_range)
theorem pw_map {f : Int → Int} {L : List Int} (h : L.Pairwise (· < ·)) (hf : ∀ x ∈ L, ∀ y ∈ L, f x = f y → x = y) : (L.map f).Pairwise (· ≠ ·) := by
  induction L with
  | nil => exact List.Pairwise.nil
  | cons y r ih =>
    rw [List.pairwise_cons] at h
    rw [List.map_cons, List.pairwise_cons]
    refine ⟨fun z hz he => ?_, ih h.2 fun x hx y hy => hf x (by simp [hx]) y (by simp [hy])⟩
    obtain ⟨u, hu, rfl⟩ := List.mem_map.1 hz
    have h1 := h.1 u hu
    have h2 := hf y (by simp) u (by simp [hu]) he
    omega
theorem pc_orL' {f : Int → Int} {A : Nat} (hA : A < 16777216) (hb : ∀ x, inS A x → 0 ≤ f x ∧ f x < 24) (hf : ∀ x y, inS A x → inS A y → f x = f y → x = y) : pc 24 (orL f (memL A)) = (memL A).length := by
  have := pc_orL f (memL A) 0 (fun x hx => hb x ((mem_memL hA x).1 hx)) (fun x _ => inS_zero _) (pw_map (memL_asc A) fun x hx y hy => hf x y ((mem_memL hA x).1 hx) ((mem_memL hA y).1 hy))
  rw [pc_zero, Nat.zero_add] at this
  exact this
theorem orL_id {A : Nat} (hA : A < 16777216) : orL (fun x => x) (memL A) = A := by
  refine set_ext fun z => ?_
  rw [inS_orL fun x hx => ((mem_memL hA x).1 hx).1]
  constructor
  · rintro ⟨x, hx, rfl⟩; exact (mem_memL hA x).1 hx
  · intro hz; exact ⟨z, (mem_memL hA z).2 hz, rfl⟩
theorem pc_len {A : Nat} (hA : A < 16777216) : pc 24 A = (memL A).length := by
  have := pc_orL' (f := fun x => x) hA (fun x hx => hx.lt hA) (fun x y _ _ h => h)
  rw [orL_id hA] at this
  exact this
theorem pc_ones (k : Nat) : ∀ n, n ≤ k → pc k (2 ^ n - 1) = n := by
  induction k with
  | zero => intro n h; obtain rfl : n = 0 := by omega
            rfl
  | succ k ih =>
    intro n h
    cases n with
    | zero => exact pc_zero _
    | succ n =>
      have h1 : 0 < 2 ^ n := Nat.pow_pos (by omega)
      rw [pc, show 2 ^ (n + 1) = 2 * 2 ^ n by rw [Nat.pow_succ, Nat.mul_comm], show (2 * 2 ^ n - 1) / 2 = 2 ^ n - 1 by omega, show (2 * 2 ^ n - 1) % 2 = 1 by omega, ih n (by omega)]
      omega
section
variable {l : List Int} (hg : isGroup l = true)
include hg
theorem gadd_back {x y : Int} (h0 : 0 ≤ y) (h : y < prodL l) : gadd l (gneg l x) (gadd l x y) = y := by
  have hb := isGroup.big hg
  rw [← gadd_assoc l _ _ _ hb, gadd_comm l (gneg l x) x, gadd_neg l x hb, gadd_comm, gadd_zero l y hb h0 h]
theorem gadd_cancel {x y z : Int} (hy : 0 ≤ y ∧ y < prodL l) (hz : 0 ≤ z ∧ z < prodL l) (h : gadd l x y = gadd l x z) : y = z := by
  have h1 := gadd_back hg (x := x) hy.1 hy.2
  rw [h, gadd_back hg hz.1 hz.2] at h1
  exact h1.symm
theorem gneg_gneg {x : Int} (h0 : 0 ≤ x) (h : x < prodL l) : gneg l (gneg l x) = x := by
  have hb := isGroup.big hg
  have h1 := gadd_back hg (x := gneg l x) h0 h
  rw [gadd_comm l (gneg l x) x, gadd_neg l x hb] at h1
  have h2 := gneg_in hg (gneg l x)
  rw [gadd_zero l _ hb h2.1 h2.2] at h1
  exact h1
theorem pc_shN {A : Nat} (hA : A < topOf l) (x : Int) : pc 24 (shN l A x) = pc 24 A := by
  have hp := isGroup.prod hg
  have h24 := top_24 hg hA
  rw [pc_len h24]
  refine pc_orL' h24 (fun y _ => ?_) (fun y z hy hz h => gadd_cancel hg (of_top hg hA hy) (of_top hg hA hz) h)
  have := gadd_in hg x y
  omega
theorem pc_negN {A : Nat} (hA : A < topOf l) : pc 24 (negN l A) = pc 24 A := by
  have hp := isGroup.prod hg
  have h24 := top_24 hg hA
  rw [pc_len h24]
  refine pc_orL' h24 (fun y _ => ?_) (fun y z hy hz h => ?_)
  · have := gneg_in hg y
    omega
  · have h1 := of_top hg hA hy
    have h2 := of_top hg hA hz
    rw [← gneg_gneg hg h1.1 h1.2, h, gneg_gneg hg h2.1 h2.2]
theorem negN_negN {A : Nat} (hA : A < topOf l) : negN l (negN l A) = A := by
  refine set_ext fun z => ?_
  rw [inS_negN hg (negN_lt hg A)]
  constructor
  · rintro ⟨y, hy, rfl⟩
    obtain ⟨u, hu, rfl⟩ := (inS_negN hg (top_24 hg hA) y).1 hy
    have := of_top hg hA hu
    rw [gneg_gneg hg this.1 this.2]
    exact hu
  · intro hz
    have := of_top hg hA hz
    exact ⟨gneg l z, (inS_negN hg (top_24 hg hA) _).2 ⟨z, hz, rfl⟩, gneg_gneg hg this.1 this.2⟩
theorem full_iff (z : Int) : inS (topOf l - 1) z ↔ 0 ≤ z ∧ z < prodL l := by
  have hp := isGroup.prod hg
  unfold inS topOf
  rw [Nat.testBit_two_pow_sub_one, decide_eq_true_iff]
  omega
theorem pc_full : (pc 24 (topOf l - 1) : Int) = prodL l := by
  have hp := isGroup.prod hg
  unfold topOf
  rw [pc_ones 24 _ (by omega)]
  omega

/-! ### cosets -/
theorem shN_coset {H : Nat} (hH : IsSubN l H) {x y : Int} (hx : inS (shN l H y) x) : shN l (shN l H y) (gneg l x) = H := by
  have hb := isGroup.big hg
  obtain ⟨h, hh, rfl⟩ := (inS_shN hg (top_24 hg hH.1) _ _).1 hx
  have bh := of_top hg hH.1 hh
  rw [shN_shN hg hH.1]
  -- -(y + h) + y = -h
  have e : gadd l (gneg l (gadd l y h)) y = gneg l h := by
    have h1 := gadd_back hg (x := gadd l y h) (y := gneg l h) (gneg_in hg h).1 (gneg_in hg h).2
    have h2 : gadd l (gadd l y h) (gneg l h) = gadd l y 0 := by rw [gadd_assoc l _ _ _ hb, gadd_neg l h hb]
    have h3 := gadd_assoc l (gneg l (gadd l y h)) y 0 hb
    have h4 := gadd_in hg (gneg l (gadd l y h)) y
    rw [h2, ← h3, gadd_zero l _ hb h4.1 h4.2] at h1
    exact h1
  rw [e]
  refine set_ext fun z => ?_
  rw [inS_shN hg (top_24 hg hH.1)]
  constructor
  · rintro ⟨u, hu, rfl⟩
    exact IsSubN.add hg hH (IsSubN.neg hg hH hh) hu
  · intro hz
    have bz := of_top hg hH.1 hz
    exact ⟨gadd l h z, IsSubN.add hg hH hh hz, gadd_back hg bz.1 bz.2⟩
theorem shN_self {H : Nat} (hH : IsSubN l H) {y : Int} (h0 : 0 ≤ y) (h : y < prodL l) : inS (shN l H y) y := (inS_shN hg (top_24 hg hH.1) _ _).2 ⟨0, IsSubN.zero hg hH, gadd_zero l y (isGroup.big hg) h0 h⟩
theorem lowN_in {A : Nat} (hA : A < 16777216) (h0 : A ≠ 0) : inS A (lowN A) := by
  unfold lowN
  cases hm : memL A with
  | nil =>
    have := orL_id hA
    rw [hm] at this
    exact absurd this.symm h0
  | cons x r =>
    refine (mem_memL hA _).1 ?_
    rw [hm]
    simp
theorem coset_fix {H : Nat} (hH : IsSubN l H) {y : Int} (h0 : 0 ≤ y) (h : y < prodL l) : shN l H y ≠ 0 ∧ hullN l (shN l H y) = shN l H y := by
  have hne : shN l H y ≠ 0 := fun e => by
    have := shN_self hg hH h0 h
    rw [e] at this
    exact inS_zero y this
  refine ⟨hne, (hull_iff hg (shN_top hg H y)).2 ?_⟩
  rw [shN_coset hg hH (lowN_in hg (shN_lt hg H y) hne)]
  exact hH.2
theorem hull_coset {A : Nat} (hA : A < topOf l) (h0 : A ≠ 0) : ∃ H y, IsSubN l H ∧ (0 ≤ y ∧ y < prodL l) ∧ hullN l A = shN l H y :=
  ⟨_, _, genN_isSub hg (shN_lt hg A (gneg l (lowN A))), of_top hg hA (lowN_in hg (top_24 hg hA) h0), rfl⟩
theorem hull_has {A : Nat} (hA : A < topOf l) (h0 : A ≠ 0) : hullN l A &&& A = A := by
  have hb := isGroup.big hg
  refine set_ext fun z => ?_
  rw [inS_and]
  refine ⟨fun h => h.2, fun hz => ⟨?_, hz⟩⟩
  have bz := of_top hg hA hz
  unfold hullN
  obtain ⟨x, hx⟩ : ∃ x, x = lowN A := ⟨_, rfl⟩
  rw [← hx]
  have h24 := shN_lt hg A (gneg l x)
  rw [inS_shN hg (genN_lt hg h24)]
  refine ⟨gadd l (gneg l x) z, genN_has hg (shN_top hg A _) ((inS_shN hg (top_24 hg hA) _ _).2 ⟨z, hz, rfl⟩), ?_⟩
  rw [← gadd_assoc l _ _ _ hb, gadd_neg l x hb, gadd_comm, gadd_zero l z hb bz.1 bz.2]
/-- the cosets so far -/
def CosInv (l : List Int) (H : Nat) (p : List Int × Nat) (x : Nat) : Prop :=
  (∀ c ∈ p.1, ∃ y, (0 ≤ y ∧ y < prodL l) ∧ c = (shN l H y : Int)) ∧ (∀ z, inS p.2 z ↔ ∃ c ∈ p.1, inS c.toNat z) ∧ (∀ y : Nat, y < x → inS p.2 y) ∧ p.1.Pairwise (fun c d => c.toNat &&& d.toNat = 0) ∧ pc 24 p.2 = p.1.length * pc 24 H
theorem cosTo_inv {H : Nat} (hH : IsSubN l H) : ∀ x : Nat, (x : Int) ≤ prodL l → CosInv l H (cosTo l H x) x := by
  intro x
  induction x with
  | zero =>
    intro _
    refine ⟨(fun c hc => by cases hc), (fun z => ⟨fun h => absurd h (inS_zero z), fun ⟨c, hc, _⟩ => by cases hc⟩), (fun y h => by omega), List.Pairwise.nil, ?_⟩
    show pc 24 0 = 0 * pc 24 H
    rw [pc_zero, Nat.zero_mul]
  | succ x ih =>
    intro hx
    obtain ⟨i1, i2, i3, i4, i5⟩ := ih (by omega)
    rw [cosTo]
    by_cases hin : (cosTo l H x).2.testBit x = true
    · rw [if_pos hin]
      refine ⟨i1, i2, fun y hy => ?_, i4, i5⟩
      by_cases he : y = x
      · rw [he]; exact (inS_nat _ _).2 hin
      · exact i3 y (by omega)
    · rw [if_neg hin]
      have hxb : 0 ≤ (x : Int) ∧ (x : Int) < prodL l := by omega
      have hdis : ∀ z, inS (cosTo l H x).2 z → inS (shN l H x) z → False := by
        intro z h1 h2
        obtain ⟨c, hc, hcz⟩ := (i2 z).1 h1
        obtain ⟨y, hy, rfl⟩ := i1 c hc
        rw [Int.toNat_natCast] at hcz
        -- both are z + H
        have e1 := shN_coset hg hH hcz
        have e2 := shN_coset hg hH h2
        have e3 := shN_forth hg (shN_top hg H y) z
        have e4 := shN_forth hg (shN_top hg H x) z
        rw [e1] at e3
        rw [e2] at e4
        have : inS (shN l H y) x := by rw [← e3, e4]; exact shN_self hg hH hxb.1 hxb.2
        refine hin ((inS_nat _ _).1 ((i2 x).2 ⟨_, hc, ?_⟩))
        rw [Int.toNat_natCast]
        exact this
      refine ⟨fun c hc => ?_, fun z => ?_, fun y hy => ?_, ?_, ?_⟩
      · rcases List.mem_append.1 hc with h | h
        · exact i1 c h
        · rw [List.mem_singleton] at h
          exact ⟨x, hxb, h⟩
      · show inS ((cosTo l H x).2 ||| shN l H x) z ↔ ∃ c ∈ (cosTo l H x).1 ++ [(shN l H x : Int)], inS c.toNat z
        rw [inS_or, i2]
        constructor
        · rintro (⟨c, hc, h⟩ | h)
          · exact ⟨c, List.mem_append.2 (.inl hc), h⟩
          · exact ⟨_, List.mem_append.2 (.inr (List.mem_singleton.2 rfl)), by rw [Int.toNat_natCast]; exact h⟩
        · rintro ⟨c, hc, h⟩
          rcases List.mem_append.1 hc with h1 | h1
          · exact .inl ⟨c, h1, h⟩
          · rw [List.mem_singleton] at h1
            rw [h1, Int.toNat_natCast] at h
            exact .inr h
      · show inS ((cosTo l H x).2 ||| shN l H x) y
        rw [inS_or]
        by_cases he : y = x
        · rw [he]; exact .inr (shN_self hg hH hxb.1 hxb.2)
        · exact .inl (i3 y (by omega))
      · rw [List.pairwise_append]
        refine ⟨i4, List.pairwise_singleton _ _, fun c hc d hd => ?_⟩
        rw [List.mem_singleton] at hd
        rw [hd, Int.toNat_natCast]
        exact and_zero_of fun z h1 h2 => hdis z ((i2 z).2 ⟨c, hc, h1⟩) h2
      · show pc 24 ((cosTo l H x).2 ||| shN l H x) = ((cosTo l H x).1 ++ [(shN l H x : Int)]).length * pc 24 H
        rw [pc_or 24 _ _ (and_zero_of hdis), i5, pc_shN hg hH.1, List.length_append, List.length_singleton, Nat.add_mul, Nat.one_mul]
theorem cos_all {H : Nat} (hH : IsSubN l H) : (cosTo l H (prodL l).toNat).2 = topOf l - 1 := by
  have hp := isGroup.prod hg
  obtain ⟨i1, i2, i3, i4, i5⟩ := cosTo_inv hg hH (prodL l).toNat (by omega)
  refine set_ext fun z => ?_
  rw [full_iff hg]
  constructor
  · intro hz
    obtain ⟨c, hc, h⟩ := (i2 z).1 hz
    obtain ⟨y, _, rfl⟩ := i1 c hc
    rw [Int.toNat_natCast] at h
    exact of_top hg (shN_top hg H y) h
  · intro hz
    have := i3 z.toNat (by omega)
    rw [show ((z.toNat : Nat) : Int) = z by omega] at this
    exact this
theorem cos_count {H : Nat} (hH : IsSubN l H) : ((cosTo l H (prodL l).toNat).1.length : Int) * pc 24 H = prodL l := by
  have hp := isGroup.prod hg
  obtain ⟨i1, i2, i3, i4, i5⟩ := cosTo_inv hg hH (prodL l).toNat (by omega)
  rw [cos_all hg hH] at i5
  have h1 := pc_full hg
  rw [i5, Int.natCast_mul] at h1
  exact h1
theorem sub_divides {H : Nat} (hH : IsSubN l H) : (pc 24 H : Int) ∣ prodL l := ⟨_, by rw [Int.mul_comm]; exact (cos_count hg hH).symm⟩
end
end Go.Proofs.Ytknbfohmobjplab

namespace Go.Proofs.Ytknbfohmobjplab

theorem okPlaces_iff (l : List Int) : ∀ q, okPlaces l q = true ↔ l.length = q.length ∧ ∀ i (h1 : i < l.length) (h2 : i < q.length), 0 ≤ q[i] ∧ q[i] < l[i] := by
  induction l with
  | nil =>
    intro q
    cases q with
    | nil => simp [okPlaces]
    | cons p q => simp [okPlaces]
  | cons o r ih =>
    intro q
    cases q with
    | nil => simp [okPlaces]
    | cons p q =>
      rw [okPlaces, Bool.and_eq_true, decide_eq_true_iff, ih q]
      constructor
      · rintro ⟨h1, h2, h3⟩
        refine ⟨by simp [h2], fun i hi1 hi2 => ?_⟩
        cases i with
        | zero => exact h1
        | succ i => exact h3 i (by simpa using hi1) (by simpa using hi2)
      · rintro ⟨h2, h3⟩
        refine ⟨h3 0 (by simp) (by simp), by simpa using h2, fun i hi1 hi2 => ?_⟩
        exact h3 (i + 1) (by simpa using hi1) (by simpa using hi2)
theorem okPlaces_drop {l q : List Int} (h : okPlaces l q = true) (k : Nat) : okPlaces (l.drop k) (q.drop k) = true := by
  rw [okPlaces_iff] at h ⊢
  refine ⟨by rw [List.length_drop, List.length_drop, h.1], fun i h1 h2 => ?_⟩
  rw [List.length_drop] at h1 h2
  rw [List.getElem_drop, List.getElem_drop]
  exact h.2 (k + i) (by omega) (by omega)
theorem elemOf_drop {l q : List Int} {k : Nat} (h1 : k < l.length) (h2 : k < q.length) : elemOf (l.drop k) (q.drop k) = q[k] + l[k] * elemOf (l.drop (k + 1)) (q.drop (k + 1)) := by
  rw [List.drop_eq_getElem_cons h1, List.drop_eq_getElem_cons h2, elemOf]
theorem prodL_drop_le {l : List Int} (h : Big l) (k : Nat) : prodL (l.drop k) ≤ prodL l := by
  have e : prodL l = prodL (l.take k) * prodL (l.drop k) := by rw [← prodL_append, List.take_append_drop]
  have h1 := prodL_pos (h.take k)
  have h2 := prodL_pos (h.drop k)
  rw [e]
  have := Int.mul_le_mul_of_nonneg_right h1 (show 0 ≤ prodL (l.drop k) by omega)
  omega
theorem elemOf_small {l q : List Int} (hg : isGroup l = true) (hok : okPlaces l q = true) (k : Nat) : 0 ≤ elemOf (l.drop k) (q.drop k) ∧ elemOf (l.drop k) (q.drop k) < 24 := by
  have h1 := elemOf_bd (l.drop k) (q.drop k) ((isGroup.big hg).drop k) (okPlaces_drop hok k)
  have h2 := prodL_drop_le (isGroup.big hg) k
  have h3 := isGroup.prod hg
  omega
end Go.Proofs.Ytknbfohmobjplab
