/- Numbers as bytes, the highest first: plain laws, no program. -/
import Derived.Test.YtmjbjlhjpdebjaaBv
import Derived.Test.YtmjbjlhjpdebjaaMe
import Derived.Test.YtmjbjlhjpdebjaaCrc
namespace Go.Proofs.Ytmjbjlhjpdebjaa.Be
open Go Bv Crc

theorem orN (a b : Nat) (ha : a < 9223372036854775808) (hb : b < 9223372036854775808) : Go.bits .or .i64 (a : Int) (b : Int) = ((a ||| b : Nat) : Int) := by
  have hx : a ||| b < 2 ^ 63 := Nat.or_lt_two_pow (by omega) (by omega)
  show IntKind.i64.wrap ((BitVec.ofInt 64 (a : Int) ||| BitVec.ofInt 64 (b : Int)).toNat : Int) = _
  rw [BitVec.toNat_or, ofInt64 a ha, ofInt64 b hb, IntKind.wrap_i64]
  omega
theorem or_byte (a c : Nat) (hc : c < 256) : (a * 256) ||| c = a * 256 + c := by
  have h := Nat.shiftLeft_add_eq_or_of_lt (i := 8) (b := c) (by omega) a
  rw [Nat.shiftLeft_eq] at h
  exact h.symm

/-- So many bytes of a number, the highest first. -/
def be : Nat → Int → List Int
  | 0, _ => []
  | s + 1, n => (n / ((256 ^ s : Nat) : Int) % 256) :: be s n
theorem be_length : ∀ (s : Nat) (n : Int), (be s n).length = s
  | 0, _ => rfl
  | s + 1, n => by rw [be, List.length_cons, be_length s n]
theorem be_bytes : ∀ (s : Nat) (n : Int), ∀ c ∈ be s n, isByte c
  | 0, _, c, h => by rw [be] at h; cases h
  | s + 1, n, c, h => by
    rw [be] at h
    rcases List.mem_cons.1 h with h | h
    · unfold isByte; omega
    · exact be_bytes s n c h
/-- The number that bytes tell. -/
def num (l : List Int) : Int := l.foldl (fun a c => a * 256 + c) 0
theorem foldl_num (l : List Int) : ∀ a : Int, l.foldl (fun a c => a * 256 + c) a = a * ((256 ^ l.length : Nat) : Int) + num l := by
  unfold num
  induction l with
  | nil => intro a; simp
  | cons x l ih =>
    intro a
    rw [List.foldl_cons, List.foldl_cons, ih, ih (0 * 256 + x), List.length_cons, Nat.pow_succ]
    generalize ((256 ^ l.length : Nat)) = p
    rw [Int.natCast_mul, Int.add_mul, Int.mul_assoc, Int.mul_comm (256 : Int) (p : Int), Int.zero_mul, Int.zero_add]
    simp only [Int.add_assoc]
    rfl
theorem num_cons (x : Int) (l : List Int) : num (x :: l) = x * ((256 ^ l.length : Nat) : Int) + num l := by
  show List.foldl _ (0 * 256 + x) l = _
  rw [foldl_num, Int.zero_mul, Int.zero_add]
theorem num_nil : num [] = 0 := rfl
theorem num_bound (l : List Int) (h : ∀ c ∈ l, isByte c) : 0 ≤ num l ∧ num l < ((256 ^ l.length : Nat) : Int) := by
  induction l with
  | nil => simp [num_nil]
  | cons x l ih =>
    have h1 := ih (fun c hc => h c (by simp [hc]))
    have h2 : isByte x := h x (by simp)
    unfold isByte at h2
    rw [num_cons, List.length_cons, Nat.pow_succ, Int.natCast_mul]
    generalize ((256 ^ l.length : Nat) : Int) = p at h1 ⊢
    have h3 : 0 ≤ x * p := Int.mul_nonneg h2.1 (by omega)
    have h4 : x * p ≤ 255 * p := Int.mul_le_mul_of_nonneg_right h2.2 (by omega)
    refine ⟨by omega, ?_⟩
    have : p * ((256 : Nat) : Int) = 256 * p := Int.mul_comm _ _
    rw [this]
    omega
/-- The bytes of the number that bytes tell. -/
theorem be_num (l : List Int) (h : ∀ c ∈ l, isByte c) : ∀ m : Int, be l.length (m * ((256 ^ l.length : Nat) : Int) + num l) = l := by
  induction l with
  | nil => intro m; rfl
  | cons x l ih =>
    intro m
    have hl : ∀ c ∈ l, isByte c := fun c hc => h c (by simp [hc])
    have h2 : isByte x := h x (by simp)
    unfold isByte at h2
    have hb := num_bound l hl
    have ht := ih hl (m * 256 + x)
    have hp : (0 : Int) < ((256 ^ l.length : Nat) : Int) := Int.ofNat_lt.2 (Nat.pow_pos (by decide))
    rw [List.length_cons, be, num_cons, Nat.pow_succ, Int.natCast_mul]
    have e : m * (((256 ^ l.length : Nat) : Int) * ((256 : Nat) : Int)) + (x * ((256 ^ l.length : Nat) : Int) + num l) = (m * 256 + x) * ((256 ^ l.length : Nat) : Int) + num l := by
      generalize ((256 ^ l.length : Nat) : Int) = p
      rw [Int.add_mul, Int.mul_assoc, Int.mul_comm (256 : Int) p, Int.add_assoc]
      rfl
    rw [e, ht]
    congr 1
    generalize ((256 ^ l.length : Nat) : Int) = p at hp hb ⊢
    have : ((m * 256 + x) * p + num l) / p = m * 256 + x := by
      rw [Int.add_comm, Int.add_mul_ediv_right _ _ (by omega), Int.ediv_eq_zero_of_lt hb.1 hb.2, Int.zero_add]
    rw [this]
    omega
theorem be_num0 (l : List Int) (h : ∀ c ∈ l, isByte c) : be l.length (num l) = l := by
  have := be_num l h 0
  rwa [Int.zero_mul, Int.zero_add] at this
theorem be_num' (s : Nat) (l : List Int) (hs : l.length = s) (h : ∀ c ∈ l, isByte c) : be s (num l) = l := by
  subst hs
  exact be_num0 l h
theorem emod_split (n p : Int) (hp : 0 < p) : n % (p * ((256 : Nat) : Int)) = n % p + p * (n / p % 256) := by
  have h1 : p * (n / p) + n % p = n := Int.mul_ediv_add_emod n p
  have h2 : 256 * (n / p / 256) + n / p % 256 = n / p := Int.mul_ediv_add_emod _ _
  have h3 := Int.emod_nonneg n (show p ≠ 0 by omega)
  have h4 := Int.emod_lt_of_pos n hp
  have h5 : 0 ≤ n / p % 256 := by omega
  have h6 : n / p % 256 ≤ 255 := by omega
  generalize n / p % 256 = r at h2 h5 h6 ⊢
  generalize n / p / 256 = q at h2
  generalize n % p = t at h1 h3 h4 ⊢
  have h7 : 0 ≤ p * r := Int.mul_nonneg (by omega) h5
  have h8 : p * r ≤ p * 255 := Int.mul_le_mul_of_nonneg_left h6 (by omega)
  have e : n = (t + p * r) + (p * ((256 : Nat) : Int)) * q := by
    rw [← h1, ← h2, Int.mul_add, ← Int.mul_assoc]
    show p * 256 * q + p * r + t = t + p * r + p * 256 * q
    omega
  rw [e, Int.add_mul_emod_self_left]
  refine Int.emod_eq_of_lt (by omega) ?_
  show t + p * r < p * 256
  omega
/-- The number that a number's bytes tell. -/
theorem num_be : ∀ (s : Nat) (n : Int), num (be s n) = n % ((256 ^ s : Nat) : Int)
  | 0, n => by rw [be, num_nil]; exact (Int.emod_one n).symm
  | s + 1, n => by
    rw [be, num_cons, be_length, num_be s n, Nat.pow_succ, Int.natCast_mul]
    have hp : (0 : Int) < ((256 ^ s : Nat) : Int) := Int.ofNat_lt.2 (Nat.pow_pos (by decide))
    generalize ((256 ^ s : Nat) : Int) = p at hp ⊢
    rw [emod_split n p hp, Int.mul_comm p]
    exact Int.add_comm _ _
theorem num_be' (s : Nat) (n : Int) (h0 : 0 ≤ n) (h1 : n < ((256 ^ s : Nat) : Int)) : num (be s n) = n := by
  rw [num_be, Int.emod_eq_of_lt h0 h1]
theorem num_inj (a b : List Int) (hl : a.length = b.length) (ha : ∀ c ∈ a, isByte c) (hb : ∀ c ∈ b, isByte c) (h : num a = num b) : a = b := by
  rw [← be_num0 a ha, ← be_num0 b hb, h, hl]
theorem be_inj (s : Nat) (n m : Int) (h0 : 0 ≤ n) (h1 : n < ((256 ^ s : Nat) : Int)) (k0 : 0 ≤ m) (k1 : m < ((256 ^ s : Nat) : Int)) (h : be s n = be s m) : n = m := by
  rw [← num_be' s n h0 h1, ← num_be' s m k0 k1, h]

end Go.Proofs.Ytmjbjlhjpdebjaa.Be
