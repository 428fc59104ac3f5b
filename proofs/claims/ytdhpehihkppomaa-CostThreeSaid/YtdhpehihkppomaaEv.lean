/- Steps of printed functions, from some number of rounds on: plain laws, no program. -/
import Derived.Test.YtdhpehihkppomaaWWords
namespace Go.Proofs.Ytdhpehihkppomaa.E
open Go.RowKit Go.Proofs.YtdhpehihkppomaaW.PrintWords
variable {α β : Type}

theorem val {x : Option α} {a : α} (h : x = some a) : Ev (fun _ => x) a := ⟨0, fun _ _ => h⟩
theorem now {a : α} : Ev (fun _ => some a) a := Ev.now a
theorem nowEq {a b : α} (h : a = b) : Ev (fun _ => some a) b := h ▸ Ev.now a
theorem pos {c : Prop} [Decidable c] {f g : Nat → Option α} {r : α} (h : c) (k : Ev f r) : Ev (fun n => if c then f n else g n) r := Ev.congr (fun _ => if_pos h) k
theorem neg {c : Prop} [Decidable c] {f g : Nat → Option α} {r : α} (h : ¬ c) (k : Ev g r) : Ev (fun n => if c then f n else g n) r := Ev.congr (fun _ => if_neg h) k
theorem bind {g : Nat → Option α} {f : Nat → α → Option β} {a : α} {r : β} (h : Ev g a) (k : Ev (fun n => f n a) r) : Ev (fun n => (g n).bind (f n)) r := by
  obtain ⟨K, h⟩ := h
  obtain ⟨K', k⟩ := k
  refine ⟨max K K', fun n hn => ?_⟩
  have h1 := h n (by omega)
  have h2 := k n (by omega)
  show (g n).bind (f n) = some r
  rw [h1]
  exact h2
theorem bval {x : Option α} {f : Nat → α → Option β} {a : α} {r : β} (h : x = some a) (k : Ev (fun n => f n a) r) : Ev (fun n => x.bind (f n)) r := bind (val h) k
theorem step {g f : Nat → Option α} {r : α} (h : ∀ k, g (k + 1) = f k) (k : Ev f r) : Ev g r := Ev.step h k
theorem wrap_id {i : Int} (h0 : -9223372036854775808 ≤ i) (h1 : i ≤ 9223372036854775807) : wrap64 i = i := by
  unfold wrap64
  omega
theorem wrap_nat {a : Nat} (h : a ≤ 9223372036854775807) : wrap64 (a : Int) = (a : Int) := wrap_id (by omega) (by omega)
theorem wrap_add (a b : Nat) (h : a + b ≤ 9223372036854775807) : wrap64 ((a : Int) + (b : Int)) = ((a + b : Nat) : Int) := by rw [← Int.natCast_add]; exact wrap_nat h
theorem wrap_snoc {γ : Type} (l : List γ) (x : γ) (h : l.length < 9223372036854775807) : wrap64 ((l.length : Int) + 1) = (((l ++ [x]).length : Nat) : Int) := by
  rw [wrap_id (by omega) (by omega)]
  simp
theorem eqv {g : Nat → Option α} {r r' : α} (e : r = r') (h : Ev g r) : Ev g r' := e ▸ h
/-- Done so many times. -/
def many (f : α → α) : Nat → α → α
  | 0, a => a
  | n + 1, a => f (many f n a)
theorem many_zero (f : α → α) (a : α) : many f 0 a = a := rfl
theorem many_succ (f : α → α) (n : Nat) (a : α) : many f (n + 1) a = f (many f n a) := rfl
/-- The answer is one. -/
theorem Ev_one {g : Nat → Option α} {a b : α} (h : Ev g a) (k : Ev g b) : a = b := by
  obtain ⟨K, h⟩ := h
  obtain ⟨K', k⟩ := k
  have h1 := h (max K K') (by omega)
  have h2 := k (max K K') (by omega)
  rw [h1] at h2
  exact Option.some.inj h2

end Go.Proofs.Ytdhpehihkppomaa.E
