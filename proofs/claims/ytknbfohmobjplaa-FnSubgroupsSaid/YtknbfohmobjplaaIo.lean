/- Facts about the words in the head of the translated program (how it was made), each shown once: reading these words anew in each claim outgrows the checker's memory. No conditions. -/
import Derived.Test.YtknbfohmobjplaaRows
import Derived.Test.YtknbfohmobjplaaChecked
import Derived.KernelRfl
import GoSem.ClaimJoined
namespace Go.Proofs.Ytknbfohmobjplaa.Io
set_option maxRecDepth 100000

theorem signs : Try.pinned.checked.prog.initOrder = String.ofList ['h', 'a', 'r', 'n', 'e', 's', 's', ' ', '0', 'a', 'd', '6', 'e', '3', '4', '6', '4', '8', 'c', 'f', 'c', '9', '1', 'd', 'b', 'f', '6', '3', '3', '1', 'b', 'a', '1', '7', 'a', '4', 'e', '7', '4', '8', '7', '6', '0', 'e', '4', 'f', '8', '7', 'a', 'd', 'e', 'f', '5', 'e', 'f', 'f', 'a', '7', '8', '7', 'a', 'a', 'a', 'b', '3', 'e', '1', 'b', '7', '0', 'e', 'a', ' ', 'c', 'u', 't', ' ', 'a', 't', ' ', 'l', 'o', 'o', 'p', '.', 'e', 'x', 'a', 'm', 'p', 'l', 'e', '/', 'g', '0', '3', '4', '0', '2', '/', 'l', 'a', 'w', 's', '.', 'F', 'n', 'S', 'u', 'm', 's', ' ', 'l', 'o', 'o', 'p', '.', 'e', 'x', 'a', 'm', 'p', 'l', 'e', '/', 'g', '0', '3', '4', '0', '2', '/', 'l', 'a', 'w', 's', '.', 'F', 'n', 'S', 'u', 'b', 'g', 'r', 'o', 'u', 'p', 's'] := by kernel_rfl
theorem words0 : wordsSigns ['h', 'a', 'r', 'n', 'e', 's', 's', ' ', '0', 'a', 'd', '6', 'e', '3', '4', '6', '4', '8', 'c', 'f', 'c', '9', '1', 'd', 'b', 'f', '6', '3', '3', '1', 'b', 'a', '1', '7', 'a', '4', 'e', '7', '4', '8', '7', '6', '0', 'e', '4', 'f', '8', '7', 'a', 'd', 'e', 'f', '5', 'e', 'f', 'f', 'a', '7', '8', '7', 'a', 'a', 'a', 'b', '3', 'e', '1', 'b', '7', '0', 'e', 'a', ' ', 'c', 'u', 't', ' ', 'a', 't', ' ', 'l', 'o', 'o', 'p', '.', 'e', 'x', 'a', 'm', 'p', 'l', 'e', '/', 'g', '0', '3', '4', '0', '2', '/', 'l', 'a', 'w', 's', '.', 'F', 'n', 'S', 'u', 'm', 's', ' ', 'l', 'o', 'o', 'p', '.', 'e', 'x', 'a', 'm', 'p', 'l', 'e', '/', 'g', '0', '3', '4', '0', '2', '/', 'l', 'a', 'w', 's', '.', 'F', 'n', 'S', 'u', 'b', 'g', 'r', 'o', 'u', 'p', 's'] = [['h', 'a', 'r', 'n', 'e', 's', 's'], ['0', 'a', 'd', '6', 'e', '3', '4', '6', '4', '8', 'c', 'f', 'c', '9', '1', 'd', 'b', 'f', '6', '3', '3', '1', 'b', 'a', '1', '7', 'a', '4', 'e', '7', '4', '8', '7', '6', '0', 'e', '4', 'f', '8', '7', 'a', 'd', 'e', 'f', '5', 'e', 'f', 'f', 'a', '7', '8', '7', 'a', 'a', 'a', 'b', '3', 'e', '1', 'b', '7', '0', 'e', 'a'], ['c', 'u', 't'], ['a', 't'], ['l', 'o', 'o', 'p', '.', 'e', 'x', 'a', 'm', 'p', 'l', 'e', '/', 'g', '0', '3', '4', '0', '2', '/', 'l', 'a', 'w', 's', '.', 'F', 'n', 'S', 'u', 'm', 's'], ['l', 'o', 'o', 'p', '.', 'e', 'x', 'a', 'm', 'p', 'l', 'e', '/', 'g', '0', '3', '4', '0', '2', '/', 'l', 'a', 'w', 's', '.', 'F', 'n', 'S', 'u', 'b', 'g', 'r', 'o', 'u', 'p', 's']] := by kernel_rfl
theorem cut0 : behindMainWord [['h', 'a', 'r', 'n', 'e', 's', 's'], ['0', 'a', 'd', '6', 'e', '3', '4', '6', '4', '8', 'c', 'f', 'c', '9', '1', 'd', 'b', 'f', '6', '3', '3', '1', 'b', 'a', '1', '7', 'a', '4', 'e', '7', '4', '8', '7', '6', '0', 'e', '4', 'f', '8', '7', 'a', 'd', 'e', 'f', '5', 'e', 'f', 'f', 'a', '7', '8', '7', 'a', 'a', 'a', 'b', '3', 'e', '1', 'b', '7', '0', 'e', 'a'], ['c', 'u', 't'], ['a', 't'], ['l', 'o', 'o', 'p', '.', 'e', 'x', 'a', 'm', 'p', 'l', 'e', '/', 'g', '0', '3', '4', '0', '2', '/', 'l', 'a', 'w', 's', '.', 'F', 'n', 'S', 'u', 'm', 's'], ['l', 'o', 'o', 'p', '.', 'e', 'x', 'a', 'm', 'p', 'l', 'e', '/', 'g', '0', '3', '4', '0', '2', '/', 'l', 'a', 'w', 's', '.', 'F', 'n', 'S', 'u', 'b', 'g', 'r', 'o', 'u', 'p', 's']] = [['c', 'u', 't'], ['a', 't'], ['l', 'o', 'o', 'p', '.', 'e', 'x', 'a', 'm', 'p', 'l', 'e', '/', 'g', '0', '3', '4', '0', '2', '/', 'l', 'a', 'w', 's', '.', 'F', 'n', 'S', 'u', 'm', 's'], ['l', 'o', 'o', 'p', '.', 'e', 'x', 'a', 'm', 'p', 'l', 'e', '/', 'g', '0', '3', '4', '0', '2', '/', 'l', 'a', 'w', 's', '.', 'F', 'n', 'S', 'u', 'b', 'g', 'r', 'o', 'u', 'p', 's']] := by kernel_rfl
theorem list : behindMainWord (wordsSigns Try.pinned.checked.prog.initOrder.toList) = [['c', 'u', 't'], ['a', 't'], ['l', 'o', 'o', 'p', '.', 'e', 'x', 'a', 'm', 'p', 'l', 'e', '/', 'g', '0', '3', '4', '0', '2', '/', 'l', 'a', 'w', 's', '.', 'F', 'n', 'S', 'u', 'm', 's'], ['l', 'o', 'o', 'p', '.', 'e', 'x', 'a', 'm', 'p', 'l', 'e', '/', 'g', '0', '3', '4', '0', '2', '/', 'l', 'a', 'w', 's', '.', 'F', 'n', 'S', 'u', 'b', 'g', 'r', 'o', 'u', 'p', 's']] := by rw [signs, String.toList_ofList, words0, cut0]
theorem strip_cut : ∀ (o : List String) (l : List (List Char)), (∀ x ∈ o, (['c','u','t'] == x.toList) = false) → stripLifts o (['c','u','t'] :: l) = ([], ['c','u','t'] :: l)
  | [], l, _ => by simp [stripLifts]
  | a :: o, l, h => by
    rw [stripLifts, if_neg (by rw [h a (by simp)]; simp)]
    exact strip_cut o l (fun x hx => h x (by simp [hx]))
theorem strip_it (l : List (List Char)) : stripLifts liftWords (['c','u','t'] :: l) = ([], ['c','u','t'] :: l) :=
  strip_cut _ l (by intro x hx; simp only [liftWords, List.mem_cons, List.not_mem_nil, or_false] at hx; rcases hx with h|h|h|h|h|h|h|h|h|h|h|h|h|h|h <;> subst h <;> decide)
theorem make_of (P : Program) (l) (h : behindMainWord (wordsSigns P.initOrder.toList) = ['c','u','t'] :: l) : P.make = some .cut := by
  unfold Program.make
  rw [h]
  rfl
theorem lifts_of (P : Program) (l) (h : behindMainWord (wordsSigns P.initOrder.toList) = ['c','u','t'] :: l) : P.headLifts = [] := by
  unfold Program.headLifts
  rw [h, strip_it]
  simp
theorem liftsFinal_of (P : Program) (l) (h : behindMainWord (wordsSigns P.initOrder.toList) = ['c','u','t'] :: l) : P.liftsFinal = false := by
  unfold Program.liftsFinal
  rw [h, lifts_of P l h]
  rfl
theorem mayEnter_of (P : Program) (l) (h : behindMainWord (wordsSigns P.initOrder.toList) = ['c','u','t'] :: l) (h1 : P.laysLater = false) (h2 : P.bearsReflect = false) (h3 : P.doorFits [] = true) : P.mayEnter = true := by
  unfold Program.mayEnter
  rw [h]
  simp only [strip_it, h1, h2, h3]
  rfl

theorem make : Try.pinned.checked.prog.make = some .cut := make_of _ _ list
theorem liftsFinal : Try.pinned.checked.prog.liftsFinal = false := liftsFinal_of _ _ list
theorem laysLater : Try.pinned.checked.prog.laysLater = false := by kernel_rfl
theorem bearsReflect : Try.pinned.checked.prog.bearsReflect = false := by kernel_rfl
theorem doorFits : Try.pinned.checked.prog.doorFits [] = true := by kernel_rfl
theorem mayEnter : Try.pinned.checked.prog.mayEnter = true := mayEnter_of _ _ list laysLater bearsReflect doorFits
end Go.Proofs.Ytknbfohmobjplaa.Io
