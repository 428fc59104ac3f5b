/- A number's ones are those of its parts; one more bit is one more: a plain law. -/
import Derived.Test.YtmjbjlhjpdebjaaPL
import Derived.Test.YtmjbjlhjpdebjaaMBitOnes
set_option linter.unusedVariables false
namespace Go.Proofs.Ytmjbjlhjpdebjaa.Mini
open Go Go.RowKit Go.Proofs

theorem pop_same : ∀ (n x y : Nat), (∀ j, j < n → x.testBit j = y.testBit j) → Pop.pop n x = Pop.pop n y := by
  intro n
  induction n with
  | zero => intro x y h; simp [Pop.pop]
  | succ n ih =>
    intro x y h
    have h0 := h 0 (by omega)
    rw [Nat.testBit_zero, Nat.testBit_zero] at h0
    have h1 := ih (x / 2) (y / 2) (fun j hj => by
      have := h (j + 1) (by omega)
      rwa [Nat.testBit_succ, Nat.testBit_succ] at this)
    rw [Pop.pop_succ, Pop.pop_succ, h1]
    have : (x % 2 = 1) ↔ (y % 2 = 1) := decide_eq_decide.1 h0
    omega
theorem pop_more : ∀ (n i x y : Nat), i < n → (∀ j, j < n → j ≠ i → x.testBit j = y.testBit j) → x.testBit i = true → y.testBit i = false → Pop.pop n x = Pop.pop n y + 1 := by
  intro n
  induction n with
  | zero => intro i x y h; omega
  | succ n ih =>
    intro i x y hi h hx hy
    rw [Pop.pop_succ, Pop.pop_succ]
    cases i with
    | zero =>
      have h1 := pop_same n (x / 2) (y / 2) (fun j hj => by
        have := h (j + 1) (by omega) (by omega)
        rwa [Nat.testBit_succ, Nat.testBit_succ] at this)
      rw [Nat.testBit_zero] at hx hy
      have a := of_decide_eq_true hx
      have b := of_decide_eq_false hy
      rw [h1]
      omega
    | succ i =>
      have h0 := h 0 (by omega) (by omega)
      rw [Nat.testBit_zero, Nat.testBit_zero] at h0
      have : (x % 2 = 1) ↔ (y % 2 = 1) := decide_eq_decide.1 h0
      rw [Nat.testBit_succ] at hx hy
      have h1 := ih i (x / 2) (y / 2) (by omega) (fun j hj hne => by
        have := h (j + 1) (by omega) (by omega)
        rwa [Nat.testBit_succ, Nat.testBit_succ] at this) hx hy
      rw [h1]
      omega
theorem i64nat (n : Nat) (h : n < 4294967296) : IntKind.i64.wrap (n : Int) = (n : Int) := by
  rw [IntKind.wrap_i64]
  omega
theorem low32 (x : Int) : ∃ n : Nat, n < 4294967296 ∧ bits .and .i64 x 4294967295 = (n : Int) := by
  have h2 := Bv.ofInt64 4294967295 (by decide)
  have hlt : (BitVec.ofInt 64 x &&& BitVec.ofInt 64 ((4294967295 : Nat) : Int)).toNat < 4294967296 := by
    rw [BitVec.toNat_and, h2]
    exact Nat.lt_of_le_of_lt Nat.and_le_right (by decide)
  exact ⟨_, hlt, i64nat _ hlt⟩
theorem put_bit (x i : Nat) (hx : x < 4294967296) (hi : i < 32) : ∃ n : Nat, n < 4294967296 ∧ bits .or .i64 (x : Int) ((2 ^ i : Nat) : Int) = (n : Int) ∧ ∀ j, n.testBit j = (x.testBit j || decide (i = j)) := by
  have hp : 2 ^ i < 2 ^ 32 := Nat.pow_lt_pow_right (by decide) hi
  have h1 := Bv.ofInt64 x (by omega)
  have h2 := Bv.ofInt64 (2 ^ i) (by omega)
  have e : (BitVec.ofInt 64 (x : Int) ||| BitVec.ofInt 64 ((2 ^ i : Nat) : Int)).toNat = x ||| 2 ^ i := by rw [BitVec.toNat_or, h1, h2]
  have hlt : x ||| 2 ^ i < 2 ^ 32 := Nat.or_lt_two_pow (by omega) hp
  refine ⟨x ||| 2 ^ i, hlt, ?_, fun j => by rw [Nat.testBit_or, Nat.testBit_two_pow]⟩
  show IntKind.i64.wrap ((BitVec.ofInt 64 (x : Int) ||| BitVec.ofInt 64 ((2 ^ i : Nat) : Int)).toNat : Int) = _
  rw [e]
  exact i64nat _ hlt
theorem drop_bit (x i : Nat) (hx : x < 4294967296) (hi : i < 32) : ∃ n : Nat, n < 4294967296 ∧ bits .andNot .i64 (x : Int) ((2 ^ i : Nat) : Int) = (n : Int) ∧ ∀ j, j < 32 → n.testBit j = (x.testBit j && !decide (i = j)) := by
  have hp : 2 ^ i < 2 ^ 32 := Nat.pow_lt_pow_right (by decide) hi
  have h1 := Bv.ofInt64 x (by omega)
  have h2 := Bv.ofInt64 (2 ^ i) (by omega)
  have hlt : (BitVec.ofInt 64 (x : Int) &&& ~~~ BitVec.ofInt 64 ((2 ^ i : Nat) : Int)).toNat < 4294967296 := by
    rw [BitVec.toNat_and, h1]
    exact Nat.lt_of_le_of_lt Nat.and_le_left hx
  refine ⟨_, hlt, i64nat _ hlt, fun j hj => ?_⟩
  rw [BitVec.toNat_and, Nat.testBit_and, h1, BitVec.toNat_not, h2, show 2 ^ 64 - 1 - 2 ^ i = 2 ^ 64 - (2 ^ i + 1) by omega, Nat.testBit_two_pow_sub_succ (by omega), Nat.testBit_two_pow]
  have : decide (j < 64) = true := decide_eq_true (by omega)
  rw [this, Bool.true_and]
theorem part_ones (x : Nat) (hx : x < 4294967296) : Pop.pop 32 (x % 65536) + Pop.pop 32 (x / 65536) = Pop.pop 32 x := by
  have h := fun y => Pop.pop_add 16 16 y
  have e1 := h x
  have e2 := h (x % 65536)
  have e3 := h (x / 65536)
  have p : 2 ^ 16 = 65536 := rfl
  have q := Pop.pop_mod 16 x
  rw [p] at e1 e2 e3 q
  have z1 : x % 65536 / 65536 = 0 := by omega
  have z2 : x / 65536 / 65536 = 0 := by omega
  rw [z1, q, Pop.pop_zero] at e2
  rw [z2, Pop.pop_zero] at e3
  show Pop.pop (16 + 16) _ + Pop.pop (16 + 16) _ = Pop.pop (16 + 16) _
  rw [e1, e2, e3]
  omega
theorem ones_ar (a b : Nat) (ha : a ≤ 32) (hb : b ≤ 32) : wr .i64 ((a : Int) + (b : Int)) = ((a + b : Nat) : Int) ∧ wr .i64 ((a : Int) + 1) = ((a + 1 : Nat) : Int) := ⟨by rw [w64 (by omega) (by omega)]; omega, by rw [w64 (by omega) (by omega)]; omega⟩
theorem ones_ar2 (i : Nat) (hi : i < 32) : wr .i64 (i : Int) = (i : Int) ∧ wr .u64 (i : Int) = (i : Int) ∧ leI 0 (i : Int) = true ∧ min (Int.toNat (i : Int)) 64 = i := ⟨w64n (by omega), wu64 (by omega) (by omega), leI_pos (by omega), by omega⟩
theorem ones_ar3 (i : Nat) (hi : i < 32) : wr .i64 (1 * p2 i) = ((2 ^ i : Nat) : Int) := by
  have hp : 2 ^ i < 2 ^ 32 := Nat.pow_lt_pow_right (by decide) hi
  rw [Int.one_mul]
  show wr .i64 ((2 ^ i : Nat) : Int) = _
  exact w64n (by omega)
theorem ones_ar4 (x : Nat) (hx : x < 4294967296) : wr .i64 (-1 - (x : Int)) < 0 ∧ (x : Int) / 65536 = ((x / 65536 : Nat) : Int) ∧ leI 0 16 = true ∧ eqI 32 0 = false := ⟨by rw [w64 (by omega) (by omega)]; omega, by omega, leI_pos (by decide), eqI_neg (by decide)⟩
theorem bitOnes (n i : Int) (wn : (Lit.int .i64 n).wf = true) (wi : (Lit.int .i64 i).wf = true) : ∃ k, m3F k n i = some true := by
  refine ⟨6000, ?_⟩
  obtain ⟨x, hx, ex⟩ := low32 n
  obtain ⟨a, ha, ea⟩ := umod0 i 32 (by decide)
  rw [show ((32 : Nat) : Int) = 32 from rfl] at ea
  obtain ⟨w1, w2, c1, c2⟩ := ones_ar2 a ha
  obtain ⟨m1, d1, c3, c4⟩ := ones_ar4 x hx
  obtain ⟨p, hp, ep, tp⟩ := put_bit x a hx ha
  obtain ⟨q, hq, eq_, tq⟩ := drop_bit x a hx ha
  have hpq : Pop.pop 32 p = Pop.pop 32 q + 1 := pop_more 32 a p q ha (fun j hj hne => by
    rw [tp, tq j hj, decide_eq_false (fun h => hne h.symm), Bool.or_false, Bool.not_false, Bool.and_true]) (by rw [tp, decide_eq_true rfl, Bool.or_true]) (by rw [tq a ha, decide_eq_true rfl, Bool.not_true, Bool.and_false])
  have hone : Pop.pop 32 x = Pop.pop 32 p ∨ Pop.pop 32 x = Pop.pop 32 q := by
    cases hb : x.testBit a with
    | true =>
      refine .inl (pop_same 32 x p fun j hj => ?_)
      rw [tp]
      by_cases h : a = j
      · subst h
        rw [hb, Bool.true_or]
      · rw [decide_eq_false h, Bool.or_false]
    | false =>
      refine .inr (pop_same 32 x q fun j hj => ?_)
      rw [tq j hj]
      by_cases h : a = j
      · subst h
        rw [hb, Bool.false_and]
      · rw [decide_eq_false h, Bool.not_false, Bool.and_true]
  have s := part_ones x hx
  have l1 := Pop.pop_le 32 (x % 65536)
  have l2 := Pop.pop_le 32 (x / 65536)
  have l3 := Pop.pop_le 32 q
  obtain ⟨w3, _⟩ := ones_ar _ _ l1 l2
  obtain ⟨_, w4⟩ := ones_ar _ _ l3 l3
  have h16 : bits .and .i64 (x : Int) 65535 = ((x % 65536 : Nat) : Int) := Bv.and65535i x (by omega)
  have neg : m10F 6000 (wr .i64 (-1 - (x : Int))) = some 0 := by
    rw [ones_any]
    unfold onesV
    rw [if_pos m1]
  have ref := refones_nat 6000 x (by decide) (by omega)
  have e0 : ∀ z : Int, eqI z z = true := fun z => eqI_pos rfl
  have wk := wakes01 6000 (by decide)
  simp only [m3F, m3X, ex, ea, w1, w2, c1, c2, c3, c4, d1, h16, ones_ar3 a ha, ep, eq_, neg, ref, ones_nat, Option.bind_some, Bool.not_false, if_true, w3, w4, s, hpq, e0, wk]
  have hone2 : (Pop.pop 32 x : Int) = ((Pop.pop 32 q + 1 : Nat) : Int) ∨ (Pop.pop 32 x : Int) = (Pop.pop 32 q : Int) := by
    rw [hpq] at hone
    exact hone.imp (congrArg _) (congrArg _)
  rcases hone2 with h | h
  · rw [if_pos (eqI_pos h)]
  · by_cases h2 : eqI (Pop.pop 32 x : Int) ((Pop.pop 32 q + 1 : Nat) : Int) = true
    · rw [if_pos h2]
    · rw [if_neg h2, if_pos (eqI_pos h)]

end Go.Proofs.Ytmjbjlhjpdebjaa.Mini
