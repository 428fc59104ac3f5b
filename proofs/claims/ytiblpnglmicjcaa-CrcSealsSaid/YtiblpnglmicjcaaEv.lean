/- Steps of printed functions, from some number of rounds on: plain laws, no program. -/
import Derived.Test.YtiblpnglmicjcaaWWords
namespace Go.Proofs.Ytiblpnglmicjcaa.E
open Go.RowKit Go.Proofs.YtiblpnglmicjcaaW.PrintWords
variable {α β : Type}

theorem val {x : Option α} {a : α} (h : x = some a) : Ev (fun _ => x) a := ⟨0, fun _ _ => h⟩
theorem now {a : α} : Ev (fun _ => some a) a := Ev.now a
theorem nowEq {a b : α} (h : a = b) : Ev (fun _ => some a) b := h ▸ Ev.now a
theorem pos {c : Prop} [Decidable c] {f g : Nat → Option α} {r : α} (h : c) (k : Ev f r) : Ev (fun n => if c then f n else g n) r := Ev.congr (fun _ => if_pos h) k
theorem neg {c : Prop} [Decidable c] {f g : Nat → Option α} {r : α} (h : ¬ c) (k : Ev g r) : Ev (fun n => if c then f n else g n) r := Ev.congr (fun _ => if_neg h) k
theorem bind {g : Nat → Option α} {f : Nat → α → Option β} {a : α} {r : β} (h : Ev g a) (k : Ev (fun n => f n a) r) : Ev (fun n => (g n).bind (f n)) r := by
  obtain ⟨K, h⟩ := h
  obtain ⟨K', k⟩ := k
  refine ⟨max K K', fun n hn => ?_⟩
  have h1 := h n (by omega)
  have h2 := k n (by omega)
  show (g n).bind (f n) = some r
  rw [h1]
  exact h2
theorem bval {x : Option α} {f : Nat → α → Option β} {a : α} {r : β} (h : x = some a) (k : Ev (fun n => f n a) r) : Ev (fun n => x.bind (f n)) r := bind (val h) k
theorem step {g f : Nat → Option α} {r : α} (h : ∀ k, g (k + 1) = f k) (k : Ev f r) : Ev g r := Ev.step h k
theorem wrap_id {i : Int} (h0 : -9223372036854775808 ≤ i) (h1 : i ≤ 9223372036854775807) : wrap64 i = i := by
  unfold wrap64
  omega
theorem wrap_nat {a : Nat} (h : a ≤ 9223372036854775807) : wrap64 (a : Int) = (a : Int) := wrap_id (by omega) (by omega)
theorem wrap_add (a b : Nat) (h : a + b ≤ 9223372036854775807) : wrap64 ((a : Int) + (b : Int)) = ((a + b : Nat) : Int) := by rw [← Int.natCast_add]; exact wrap_nat h
theorem wrap_snoc {γ : Type} (l : List γ) (x : γ) (h : l.length < 9223372036854775807) : wrap64 ((l.length : Int) + 1) = (((l ++ [x]).length : Nat) : Int) := by
  rw [wrap_id (by omega) (by omega)]
  simp
theorem eqv {g : Nat → Option α} {r r' : α} (e : r = r') (h : Ev g r) : Ev g r' := e ▸ h
/-- Done so many times. -/
def many (f : α → α) : Nat → α → α
  | 0, a => a
  | n + 1, a => f (many f n a)
theorem many_zero (f : α → α) (a : α) : many f 0 a = a := rfl
theorem many_succ (f : α → α) (n : Nat) (a : α) : many f (n + 1) a = f (many f n a) := rfl
theorem many_in (f : α → α) (n : Nat) (a : α) : many f (n + 1) a = many f n (f a) := by
  induction n with
  | zero => rfl
  | succ n ih => rw [many_succ, ih, many_succ]
/-- The states behind each step. -/
def scan (f : α → β → α) : α → List β → List α
  | _, [] => []
  | s, x :: l => f s x :: scan f (f s x) l
theorem scan_nil (f : α → β → α) (s : α) : scan f s [] = [] := rfl
theorem scan_cons (f : α → β → α) (s : α) (x : β) (l : List β) : scan f s (x :: l) = f s x :: scan f (f s x) l := rfl
theorem scan_length (f : α → β → α) (l : List β) : ∀ s, (scan f s l).length = l.length := by
  induction l with
  | nil => intro s; rfl
  | cons x l ih => intro s; rw [scan_cons, List.length_cons, ih, List.length_cons]
theorem scan_take (f : α → β → α) (l : List β) : ∀ (s : α) (n : Nat), scan f s (l.take n) = (scan f s l).take n := by
  induction l with
  | nil => intro s n; simp [scan_nil]
  | cons x l ih =>
    intro s n
    cases n with
    | zero => simp [scan_nil]
    | succ n => rw [List.take_succ_cons, scan_cons, scan_cons, List.take_succ_cons, ih]
theorem scan_inj (f : α → β → α) (ok : β → Prop) (hf : ∀ s x y, ok x → ok y → f s x = f s y → x = y) (l : List β) : ∀ (s : α) (m : List β), (∀ x ∈ l, ok x) → (∀ x ∈ m, ok x) → scan f s l = scan f s m → l = m := by
  induction l with
  | nil =>
    intro s m _ _ h
    cases m with
    | nil => rfl
    | cons y m => rw [scan_nil, scan_cons] at h; cases h
  | cons x l ih =>
    intro s m hl hm h
    cases m with
    | nil => rw [scan_nil, scan_cons] at h; cases h
    | cons y m =>
      rw [scan_cons, scan_cons] at h
      obtain ⟨h1, h2⟩ := List.cons.inj h
      obtain rfl := hf s x y (hl x (by simp)) (hm y (by simp)) h1
      rw [ih (f s x) m (fun z hz => hl z (by simp [hz])) (fun z hz => hm z (by simp [hz])) h2]
/-- The answer is one. -/
theorem Ev_one {g : Nat → Option α} {a b : α} (h : Ev g a) (k : Ev g b) : a = b := by
  obtain ⟨K, h⟩ := h
  obtain ⟨K', k⟩ := k
  have h1 := h (max K K') (by omega)
  have h2 := k (max K K') (by omega)
  rw [h1] at h2
  exact Option.some.inj h2
theorem rd_at (pre rest : List Int) (x : Int) : rd (pre ++ x :: rest) (pre.length : Int) = x := by
  unfold rd
  simp
theorem rd_at' (pre rest : List Int) (x : Int) (n : Nat) (h : pre.length = n) : rd (pre ++ x :: rest) (n : Int) = x := by
  rw [← h]
  exact rd_at pre rest x

end Go.Proofs.Ytiblpnglmicjcaa.E
