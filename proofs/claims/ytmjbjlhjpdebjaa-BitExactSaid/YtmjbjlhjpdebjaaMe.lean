/- Things done many times: plain laws, no program. -/
import Derived.RowKit
namespace Go.Proofs.Ytmjbjlhjpdebjaa.E
open Go
variable {α β : Type}
/-- Done so many times. -/
def many (f : α → α) : Nat → α → α
  | 0, a => a
  | n + 1, a => f (many f n a)
theorem many_zero (f : α → α) (a : α) : many f 0 a = a := rfl
theorem many_succ (f : α → α) (n : Nat) (a : α) : many f (n + 1) a = f (many f n a) := rfl
theorem many_in (f : α → α) (n : Nat) (a : α) : many f (n + 1) a = many f n (f a) := by
  induction n with
  | zero => rfl
  | succ n ih => rw [many_succ, ih, many_succ]
end Go.Proofs.Ytmjbjlhjpdebjaa.E
