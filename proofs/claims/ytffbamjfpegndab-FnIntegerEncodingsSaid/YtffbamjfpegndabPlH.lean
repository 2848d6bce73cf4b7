
/- More plain facts on groups: negative multiples, orders of elements, what the functions answer. No program in sight. No conditions. -/
import Derived.Test.YtffbamjfpegndabPlG
namespace Go.Proofs.Ytffbamjfpegndab

theorem neg_digit (n t o : Int) : (-n * ((o - t) % o)) % o = (n * t) % o := by
  rw [Int.mul_emod, Int.emod_emod_of_dvd _ (Int.dvd_refl o), ← Int.mul_emod, Int.mul_sub, Int.neg_mul, Int.neg_mul, Int.sub_neg, Int.add_comm, ← Int.sub_eq_add_neg, Int.sub_mul_emod_self_right]
theorem gmul_neg (l : List Int) : ∀ n x, Big l → gmul l (-n) (gneg l x) = gmul l n x := by
  induction l with
  | nil => intro _ _ _; rfl
  | cons o r ih =>
    intro n x hb
    have ho := hb.head
    rw [gneg, gmul, gmul]
    obtain ⟨h1, h2⟩ := digit_mod (g := gneg r (x / o)) ho (emod_bd (o - x % o) ho)
    rw [h1, h2, ih _ _ hb.tail, neg_digit]
theorem dvd_prodL {l : List Int} {o : Int} (h : o ∈ l) : o ∣ prodL l := by
  induction l with
  | nil => simp at h
  | cons a r ih =>
    rw [prodL_cons]
    rcases List.mem_cons.1 h with h | h
    · subst h; exact Int.dvd_mul_right _ _
    · exact Int.dvd_trans (ih h) (Int.dvd_mul_left _ _)
theorem gmul_prod (l : List Int) (x : Int) : gmul l (prodL l) x = 0 := gmul_all l _ x fun _ ho => dvd_prodL ho

def addE (l : List Int) (x y : Int) : Int := if isEl l x && isEl l y then gadd l x y else -1
def negE (l : List Int) (x : Int) : Int := if isEl l x then gneg l x else -1
def mulE (l : List Int) (x n : Int) : Int := if isEl l x && decide (-100 ≤ n ∧ n ≤ 100) then gmul l n x else -1
def ordGo (l : List Int) (x : Int) : Nat → Int → Int
  | 0, n => n
  | f + 1, n => if gmul l n x = 0 then n else ordGo l x f (n + 1)
def ordE (l : List Int) (x : Int) : Int := if isEl l x then ordGo l x 24 1 else 0
theorem isEl.small {l : List Int} {x : Int} (h : isEl l x = true) : 0 ≤ x ∧ x < 24 := by
  have h1 := isEl.bd h
  have h2 := isGroup.prod (isEl.group h)
  omega
theorem gadd_small {l : List Int} (h : isGroup l = true) (x y : Int) : 0 ≤ gadd l x y ∧ gadd l x y < 24 := by
  have h1 := gadd_bd l x y (isGroup.big h)
  have h2 := isGroup.prod h
  omega
theorem gneg_small {l : List Int} (h : isGroup l = true) (x : Int) : 0 ≤ gneg l x ∧ gneg l x < 24 := by
  have h1 := gneg_bd l x (isGroup.big h)
  have h2 := isGroup.prod h
  omega
theorem gmul_small {l : List Int} (h : isGroup l = true) (n x : Int) : 0 ≤ gmul l n x ∧ gmul l n x < 24 := by
  have h1 := gmul_bd l n x (isGroup.big h)
  have h2 := isGroup.prod h
  omega
end Go.Proofs.Ytffbamjfpegndab
