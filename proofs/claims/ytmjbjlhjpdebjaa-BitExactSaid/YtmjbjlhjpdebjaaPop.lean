/- How many bits of a number are 1: plain laws, no program. -/
import Derived.Laws.BitsLemmas
import Derived.Laws.BitsAllLaws
namespace Go.Proofs.Ytmjbjlhjpdebjaa.Pop

/-- The ones among the lowest n bits. -/
def pop : Nat → Nat → Nat
  | 0, _ => 0
  | n + 1, x => x % 2 + pop n (x / 2)
theorem pop_le (n x : Nat) : pop n x ≤ n := by
  induction n generalizing x with
  | zero => simp [pop]
  | succ n ih => have := ih (x / 2); simp only [pop]; omega
theorem pop_zero (n : Nat) : pop n 0 = 0 := by
  induction n with
  | zero => rfl
  | succ n ih => simp [pop, ih]
theorem xor_mod2 (a b : Nat) : (a ^^^ b) % 2 = (a % 2 + b % 2) % 2 := by
  have h := Nat.xor_mod_two_eq_one (a := a) (b := b)
  omega
theorem xor_div2 (a b : Nat) : (a ^^^ b) / 2 = (a / 2) ^^^ (b / 2) := by
  have h := Nat.shiftRight_xor_distrib (a := a) (b := b) (i := 1)
  simpa [Nat.shiftRight_eq_div_pow] using h
theorem pop_tri (n : Nat) : ∀ a b c : Nat, pop n (a ^^^ c) ≤ pop n (a ^^^ b) + pop n (b ^^^ c) := by
  induction n with
  | zero => intro a b c; simp [pop]
  | succ n ih =>
    intro a b c
    simp only [pop, xor_mod2, xor_div2]
    have := ih (a / 2) (b / 2) (c / 2)
    omega
theorem pop_eq_zero (n : Nat) : ∀ x : Nat, x < 2 ^ n → (pop n x = 0 ↔ x = 0) := by
  induction n with
  | zero => intro x h; simp [pop]; omega
  | succ n ih =>
    intro x h
    simp only [pop]
    have := ih (x / 2) (by rw [Nat.pow_succ] at h; omega)
    omega
theorem pop_add (m n x : Nat) : pop (m + n) x = pop m x + pop n (x / 2 ^ m) := by
  induction m generalizing x with
  | zero => simp [pop]
  | succ m ih =>
    rw [Nat.add_right_comm]
    simp only [pop]
    rw [ih, Nat.div_div_eq_div_mul, Nat.pow_succ, Nat.mul_comm 2]
    omega
theorem pop_mod (n : Nat) : ∀ x : Nat, pop n (x % 2 ^ n) = pop n x := by
  induction n with
  | zero => intro x; rfl
  | succ n ih =>
    intro x
    simp only [pop]
    have h1 : x % 2 ^ (n + 1) % 2 = x % 2 := by rw [Nat.pow_succ, Nat.mul_comm]; exact Nat.mod_mul_right_mod _ _ _
    have h2 : x % 2 ^ (n + 1) / 2 = (x / 2) % 2 ^ n := by rw [Nat.pow_succ, Nat.mul_comm, Nat.mod_mul_right_div_self]
    rw [h1, h2, ih]
/-- The number's bits from place i on, so many of them. -/
theorem pop_of_lt (n m : Nat) (h : n ≤ m) : ∀ x : Nat, x < 2 ^ n → pop m x = pop n x := by
  intro x hx
  obtain ⟨d, rfl⟩ : ∃ d, m = n + d := ⟨m - n, by omega⟩
  rw [pop_add, Nat.div_eq_of_lt hx, pop_zero, Nat.add_zero]
theorem pop_succ (n x : Nat) : pop (n + 1) x = x % 2 + pop n (x / 2) := rfl
/-- The bytes' ones, as a table has them. -/
def tab : List Nat := (List.range 256).map (pop 8)
theorem pop32 (x : Nat) : pop 32 x = pop 8 (x % 256) + pop 8 (x / 256 % 256) + pop 8 (x / 65536 % 256) + pop 8 (x / 16777216 % 256) := by
  have h := fun y => pop_mod 8 y
  rw [show (32 : Nat) = 8 + (8 + (8 + 8)) from rfl, pop_add, pop_add, pop_add]
  simp only [Nat.div_div_eq_div_mul]
  have e := fun y => (pop_mod 8 y)
  simp only [show (2 : Nat) ^ 8 = 256 from rfl, Nat.reduceMul] at e ⊢
  rw [e, e, e, e]
  omega
attribute [irreducible] pop

end Go.Proofs.Ytmjbjlhjpdebjaa.Pop
