/- Plain facts on groups given by their orders: no program in sight. No conditions. -/
import Derived.Test.YtffbamjfpegndabPlA
namespace Go.Proofs.Ytffbamjfpegndab

def prodL (l : List Int) : Int := l.foldl (· * ·) 1
theorem foldl_mul (l : List Int) : ∀ a : Int, l.foldl (· * ·) a = a * prodL l := by
  unfold prodL
  induction l with
  | nil => intro a; simp
  | cons o r ih => intro a; rw [List.foldl_cons, List.foldl_cons, ih (a * o), ih (1 * o), Int.one_mul, Int.mul_assoc]
theorem prodL_nil : prodL [] = 1 := rfl
theorem prodL_cons (o : Int) (r : List Int) : prodL (o :: r) = o * prodL r := by
  show (o :: r).foldl (· * ·) 1 = _
  rw [List.foldl_cons, foldl_mul, Int.one_mul]
theorem prodL_snoc (l : List Int) (o : Int) : prodL (l ++ [o]) = prodL l * o := by
  show (l ++ [o]).foldl (· * ·) 1 = _
  rw [List.foldl_append]
  rfl
theorem prodL_append (l r : List Int) : prodL (l ++ r) = prodL l * prodL r := by
  induction l with
  | nil => rw [List.nil_append, prodL_nil, Int.one_mul]
  | cons o t ih => rw [List.cons_append, prodL_cons, prodL_cons, ih, Int.mul_assoc]
/-- all orders are at least two -/
def Big (l : List Int) : Prop := ∀ o ∈ l, 2 ≤ o
theorem Big.tail {o : Int} {r : List Int} (h : Big (o :: r)) : Big r := fun x hx => h x (by simp [hx])
theorem Big.head {o : Int} {r : List Int} (h : Big (o :: r)) : 2 ≤ o := h o (by simp)
theorem Big.drop {l : List Int} (h : Big l) (k : Nat) : Big (l.drop k) := fun x hx => h x (List.mem_of_mem_drop hx)
theorem Big.take {l : List Int} (h : Big l) (k : Nat) : Big (l.take k) := fun x hx => h x (List.mem_of_mem_take hx)
theorem prodL_pos {l : List Int} (h : Big l) : 1 ≤ prodL l := by
  induction l with
  | nil => decide
  | cons o r ih =>
    rw [prodL_cons]
    have h1 := ih h.tail
    have h2 := h.head
    have := Int.mul_le_mul (show (1 : Int) ≤ o by omega) h1 (by omega) (by omega)
    omega
theorem prodL_take_le {l : List Int} (h : Big l) (k : Nat) : prodL (l.take k) ≤ prodL l := by
  have e : prodL l = prodL (l.take k) * prodL (l.drop k) := by rw [← prodL_append, List.take_append_drop]
  have h1 := prodL_pos (h.take k)
  have h2 := prodL_pos (h.drop k)
  rw [e]
  have := Int.mul_le_mul_of_nonneg_left h2 (show 0 ≤ prodL (l.take k) by omega)
  omega

def isGroup (l : List Int) : Bool := decide (l.length ≤ 3 ∧ (∀ o ∈ l, 2 ≤ o ∧ o ≤ 24) ∧ prodL l ≤ 24)
theorem isGroup_iff (l : List Int) : isGroup l = true ↔ l.length ≤ 3 ∧ (∀ o ∈ l, 2 ≤ o ∧ o ≤ 24) ∧ prodL l ≤ 24 := decide_eq_true_iff
theorem isGroup.big {l : List Int} (h : isGroup l = true) : Big l := fun o ho => (((isGroup_iff l).1 h).2.1 o ho).1
theorem isGroup.len {l : List Int} (h : isGroup l = true) : l.length ≤ 3 := ((isGroup_iff l).1 h).1
theorem isGroup.prod {l : List Int} (h : isGroup l = true) : 1 ≤ prodL l ∧ prodL l ≤ 24 := ⟨prodL_pos (isGroup.big h), ((isGroup_iff l).1 h).2.2⟩
def orderOf (l : List Int) : Int := if isGroup l then prodL l else 0
theorem orderOf_yes {l : List Int} (h : isGroup l = true) : orderOf l = prodL l := if_pos h
theorem orderOf_no {l : List Int} (h : isGroup l = false) : orderOf l = 0 := by unfold orderOf; rw [h]; rfl
theorem orderOf_bd (l : List Int) : 0 ≤ orderOf l ∧ orderOf l ≤ 24 := by
  unfold orderOf
  split
  · rename_i h; have := isGroup.prod h; omega
  · omega
def isEl (l : List Int) (x : Int) : Bool := decide (0 ≤ x ∧ x < orderOf l)
theorem isEl_iff (l : List Int) (x : Int) : isEl l x = true ↔ 0 ≤ x ∧ x < orderOf l := decide_eq_true_iff
theorem isEl.group {l : List Int} {x : Int} (h : isEl l x = true) : isGroup l = true := by
  rw [isEl_iff] at h
  cases hg : isGroup l
  · rw [orderOf_no hg] at h; omega
  · rfl
theorem isEl.bd {l : List Int} {x : Int} (h : isEl l x = true) : 0 ≤ x ∧ x < prodL l := by
  have hg := isEl.group h
  rw [isEl_iff, orderOf_yes hg] at h
  exact h

/-! ### places -/
def places : List Int → Int → List Int
  | [], _ => []
  | o :: r, x => x % o :: places r (x / o)
def elemOf : List Int → List Int → Int
  | o :: r, p :: q => p + o * elemOf r q
  | _, _ => 0
theorem places_length (l : List Int) : ∀ x, (places l x).length = l.length := by
  induction l with
  | nil => intro _; rfl
  | cons o r ih => intro x; rw [places, List.length_cons, ih, List.length_cons]
theorem div_lt_of {o x p : Int} (ho : 0 < o) (h : x < o * p) : x / o < p := Int.ediv_lt_of_lt_mul ho (by rw [Int.mul_comm]; exact h)
theorem elemOf_places (l : List Int) : ∀ x, Big l → 0 ≤ x → x < prodL l → elemOf l (places l x) = x := by
  induction l with
  | nil => intro x _ h0 h; rw [prodL_nil] at h; simp [elemOf]; omega
  | cons o r ih =>
    intro x hb h0 h
    have ho := hb.head
    rw [prodL_cons] at h
    have hd := div_lt_of (by omega) h
    rw [places, elemOf, ih (x / o) hb.tail (Int.ediv_nonneg h0 (by omega)) hd]
    have := Int.mul_ediv_add_emod x o
    omega
/-- whether there is one place for each order, and each is in its range -/
def okPlaces : List Int → List Int → Bool
  | [], [] => true
  | o :: r, p :: q => decide (0 ≤ p ∧ p < o) && okPlaces r q
  | _, _ => false
theorem okPlaces_places (l : List Int) : ∀ x, Big l → okPlaces l (places l x) = true := by
  induction l with
  | nil => intro _ _; rfl
  | cons o r ih =>
    intro x hb
    have ho := hb.head
    have h1 := Int.emod_nonneg x (show o ≠ 0 by omega)
    have h2 := Int.emod_lt_of_pos x (show 0 < o by omega)
    rw [places, okPlaces, ih (x / o) hb.tail, decide_eq_true ⟨h1, h2⟩]
    rfl
theorem elemOf_bd (l : List Int) : ∀ q, Big l → okPlaces l q = true → 0 ≤ elemOf l q ∧ elemOf l q < prodL l := by
  induction l with
  | nil => intro q _ h; cases q <;> simp [elemOf, prodL_nil]
  | cons o r ih =>
    intro q hb h
    cases q with
    | nil => simp [okPlaces] at h
    | cons p q =>
      rw [okPlaces, Bool.and_eq_true, decide_eq_true_iff] at h
      have ho := hb.head
      have hi := ih q hb.tail h.2
      rw [elemOf, prodL_cons]
      have h1 : 0 ≤ o * elemOf r q := Int.mul_nonneg (by omega) hi.1
      have h2 : o * (elemOf r q + 1) ≤ o * prodL r := Int.mul_le_mul_of_nonneg_left (by omega) (by omega)
      rw [Int.mul_add] at h2
      omega

/-! ### sums, negatives, multiples -/
def gadd : List Int → Int → Int → Int
  | [], _, _ => 0
  | o :: r, x, y => (x % o + y % o) % o + o * gadd r (x / o) (y / o)
def gneg : List Int → Int → Int
  | [], _ => 0
  | o :: r, x => (o - x % o) % o + o * gneg r (x / o)
def gmul : List Int → Int → Int → Int
  | [], _, _ => 0
  | o :: r, n, x => (n * (x % o)) % o + o * gmul r n (x / o)
theorem digit_bd {o t g p : Int} (ho : 2 ≤ o) (ht : 0 ≤ t ∧ t < o) (hg : 0 ≤ g ∧ g < p) : 0 ≤ t + o * g ∧ t + o * g < o * p := by
  have h1 : 0 ≤ o * g := Int.mul_nonneg (by omega) hg.1
  have h2 : o * (g + 1) ≤ o * p := Int.mul_le_mul_of_nonneg_left (by omega) (by omega)
  rw [Int.mul_add] at h2
  omega
theorem emod_bd (a : Int) {o : Int} (ho : 2 ≤ o) : 0 ≤ a % o ∧ a % o < o := ⟨Int.emod_nonneg a (by omega), Int.emod_lt_of_pos a (by omega)⟩
theorem gadd_bd (l : List Int) : ∀ x y, Big l → 0 ≤ gadd l x y ∧ gadd l x y < prodL l := by
  induction l with
  | nil => intro _ _ _; exact ⟨Int.le_refl _, Int.one_pos⟩
  | cons o r ih => intro x y hb; rw [gadd, prodL_cons]; exact digit_bd hb.head (emod_bd _ hb.head) (ih _ _ hb.tail)
theorem gneg_bd (l : List Int) : ∀ x, Big l → 0 ≤ gneg l x ∧ gneg l x < prodL l := by
  induction l with
  | nil => intro _ _; exact ⟨Int.le_refl _, Int.one_pos⟩
  | cons o r ih => intro x hb; rw [gneg, prodL_cons]; exact digit_bd hb.head (emod_bd _ hb.head) (ih _ hb.tail)
theorem gmul_bd (l : List Int) : ∀ n x, Big l → 0 ≤ gmul l n x ∧ gmul l n x < prodL l := by
  induction l with
  | nil => intro _ _ _; exact ⟨Int.le_refl _, Int.one_pos⟩
  | cons o r ih => intro n x hb; rw [gmul, prodL_cons]; exact digit_bd hb.head (emod_bd _ hb.head) (ih _ _ hb.tail)
theorem gadd_comm (l : List Int) : ∀ x y, gadd l x y = gadd l y x := by
  induction l with
  | nil => intro _ _; rfl
  | cons o r ih => intro x y; rw [gadd, gadd, ih, Int.add_comm (x % o)]
/-- the digits of what is put together -/
theorem digit_mod {o t g : Int} (ho : 2 ≤ o) (ht : 0 ≤ t ∧ t < o) : (t + o * g) % o = t ∧ (t + o * g) / o = g := by
  constructor
  · rw [Int.add_mul_emod_self_left]; exact Int.emod_eq_of_lt ht.1 ht.2
  · rw [Int.add_mul_ediv_left _ _ (by omega), Int.ediv_eq_zero_of_lt ht.1 ht.2]; omega
theorem mod_assoc (a b c o : Int) : ((a + b) % o + c) % o = (a + (b + c) % o) % o := by rw [Int.emod_add_emod, Int.add_emod_emod, Int.add_assoc]
theorem gadd_assoc (l : List Int) : ∀ x y z, Big l → gadd l (gadd l x y) z = gadd l x (gadd l y z) := by
  induction l with
  | nil => intro _ _ _ _; rfl
  | cons o r ih =>
    intro x y z hb
    have ho := hb.head
    rw [gadd, gadd, gadd, gadd]
    obtain ⟨h1, h2⟩ := digit_mod (g := gadd r (x / o) (y / o)) ho (emod_bd (x % o + y % o) ho)
    obtain ⟨h3, h4⟩ := digit_mod (g := gadd r (y / o) (z / o)) ho (emod_bd (y % o + z % o) ho)
    rw [h1, h2, h3, h4, ih _ _ _ hb.tail]
    rw [mod_assoc]
theorem gadd_zero (l : List Int) : ∀ x, Big l → 0 ≤ x → x < prodL l → gadd l x 0 = x := by
  induction l with
  | nil => intro x _ h0 h; rw [prodL_nil] at h; simp [gadd]; omega
  | cons o r ih =>
    intro x hb h0 h
    have ho := hb.head
    rw [prodL_cons] at h
    have hd := div_lt_of (by omega) h
    rw [gadd, Int.zero_ediv, ih (x / o) hb.tail (Int.ediv_nonneg h0 (by omega)) hd, Int.zero_emod, Int.add_zero, Int.emod_emod_of_dvd _ (Int.dvd_refl o)]
    have := Int.mul_ediv_add_emod x o
    omega
theorem gadd_neg (l : List Int) : ∀ x, Big l → gadd l x (gneg l x) = 0 := by
  induction l with
  | nil => intro _ _; rfl
  | cons o r ih =>
    intro x hb
    have ho := hb.head
    rw [gneg, gadd]
    obtain ⟨h1, h2⟩ := digit_mod (g := gneg r (x / o)) ho (emod_bd (o - x % o) ho)
    rw [h1, h2, ih _ hb.tail, Int.add_emod_emod]
    have : x % o + (o - x % o) = o := by omega
    rw [this, Int.emod_self]
    omega
theorem gadd_digit (o : Int) (r : List Int) (x y : Int) : gadd (o :: r) x y = (x % o + y % o) % o + o * gadd r (x / o) (y / o) := rfl
/-- n + 1 times an element -/
theorem gmul_zero (l : List Int) : ∀ x, gmul l 0 x = 0 := by
  induction l with
  | nil => intro _; rfl
  | cons o r ih => intro x; rw [gmul, ih]; simp
theorem gmul_succ (l : List Int) : ∀ n x, Big l → gadd l (gmul l n x) x = gmul l (n + 1) x := by
  induction l with
  | nil => intro _ _ _; rfl
  | cons o r ih =>
    intro n x hb
    have ho := hb.head
    rw [gmul, gadd, gmul]
    obtain ⟨h1, h2⟩ := digit_mod (g := gmul r n (x / o)) ho (emod_bd (n * (x % o)) ho)
    rw [h1, h2, ih _ _ hb.tail, Int.emod_add_emod, Int.add_mul, Int.one_mul]
theorem gmul_add (l : List Int) : ∀ m n x, Big l → gadd l (gmul l m x) (gmul l n x) = gmul l (m + n) x := by
  induction l with
  | nil => intro _ _ _ _; rfl
  | cons o r ih =>
    intro m n x hb
    have ho := hb.head
    rw [gmul, gmul, gadd, gmul]
    obtain ⟨h1, h2⟩ := digit_mod (g := gmul r m (x / o)) ho (emod_bd (m * (x % o)) ho)
    obtain ⟨h3, h4⟩ := digit_mod (g := gmul r n (x / o)) ho (emod_bd (n * (x % o)) ho)
    rw [h1, h2, h3, h4, ih _ _ _ hb.tail, ← Int.add_emod, Int.add_mul]
theorem gmul_one (l : List Int) : ∀ x, Big l → 0 ≤ x → x < prodL l → gmul l 1 x = x := by
  intro x hb h0 h
  have h1 := gmul_succ l 0 x hb
  rw [gmul_zero, gadd_comm, gadd_zero l x hb h0 h] at h1
  exact h1.symm
/-- a multiple of all orders times an element is 0 -/
theorem gmul_all (l : List Int) : ∀ n x, (∀ o ∈ l, o ∣ n) → gmul l n x = 0 := by
  induction l with
  | nil => intro _ _ _; rfl
  | cons o r ih =>
    intro n x h
    rw [gmul, ih _ _ fun p hp => h p (by simp [hp])]
    have h1 : o ∣ n * (x % o) := Int.dvd_trans (h o (by simp)) (Int.dvd_mul_right n _)
    rw [Int.emod_eq_zero_of_dvd h1]
    omega

end Go.Proofs.Ytffbamjfpegndab
