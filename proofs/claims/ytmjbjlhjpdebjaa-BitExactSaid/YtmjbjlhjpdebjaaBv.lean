/- Numbers of 32 bits as bit vectors: what the printed functions' words on whole numbers are there. -/
import Derived.Laws.BitsLemmas
import Derived.Laws.BitsAllLaws
import Derived.RowKit
namespace Go.Proofs.Ytmjbjlhjpdebjaa.Bv
open Go

/-- A bit vector, as the whole number that it is. -/
def u {n : Nat} (v : BitVec n) : Int := (v.toNat : Int)
theorem u_nonneg {n : Nat} (v : BitVec n) : 0 ≤ u v := Int.natCast_nonneg _
theorem u_lt {n : Nat} (v : BitVec n) : u v < (2 ^ n : Nat) := by unfold u; exact Int.ofNat_lt.2 v.isLt
theorem u_lt32 (v : BitVec 32) : u v < (4294967296 : Int) := u_lt v
theorem u_inj {n : Nat} {a b : BitVec n} (h : u a = u b) : a = b := BitVec.eq_of_toNat_eq (by unfold u at h; omega)
theorem u_iff {n : Nat} (a b : BitVec n) : u a = u b ↔ a = b := ⟨u_inj, fun h => by rw [h]⟩
theorem exists_u32 {x : Int} (h0 : 0 ≤ x) (h1 : x < 4294967296) : ∃ v : BitVec 32, x = u v :=
  ⟨BitVec.ofNat 32 x.toNat, by unfold u; rw [BitVec.toNat_ofNat]; omega⟩
theorem wf_u32 {x : Int} (h : (Lit.int .u32 x).wf = true) : 0 ≤ x ∧ x < 4294967296 := by
  have h1 : IntKind.u32.min ≤ x ∧ x ≤ IntKind.u32.max := by simpa [Lit.wf] using h
  have e0 : IntKind.u32.min = 0 := rfl
  have e1 : IntKind.u32.max = 4294967295 := rfl
  omega
theorem wf_i64 {x : Int} (h : (Lit.int .i64 x).wf = true) : -9223372036854775808 ≤ x ∧ x ≤ 9223372036854775807 := by
  have h1 : IntKind.i64.min ≤ x ∧ x ≤ IntKind.i64.max := by simpa [Lit.wf] using h
  have e0 : IntKind.i64.min = -9223372036854775808 := rfl
  have e1 : IntKind.i64.max = 9223372036854775807 := rfl
  omega
theorem wf_u8 {x : Int} (h : (Lit.int .u8 x).wf = true) : 0 ≤ x ∧ x ≤ 255 := by
  have h1 : IntKind.u8.min ≤ x ∧ x ≤ IntKind.u8.max := by simpa [Lit.wf] using h
  have e0 : IntKind.u8.min = 0 := rfl
  have e1 : IntKind.u8.max = 255 := rfl
  omega
theorem xor32 (a b : BitVec 32) : Go.bits .xor .u32 (u a) (u b) = u (a ^^^ b) := by
  unfold u
  rw [u32_xor_nat _ _ a.isLt b.isLt, BitVec.toNat_xor]
theorem and32 (a b : BitVec 32) : Go.bits .and .u32 (u a) (u b) = u (a &&& b) := by
  unfold u
  rw [u32_and_nat _ _ a.isLt b.isLt, BitVec.toNat_and]
theorem shr_pow {n : Nat} (a : BitVec n) (k : Nat) : u a / ((2 ^ k : Nat) : Int) = u (a >>> k) := by
  unfold u
  rw [BitVec.toNat_ushiftRight, Nat.shiftRight_eq_div_pow]
  exact (Int.natCast_ediv _ _).symm
theorem shr16 (a : BitVec 32) : u a / (65536 : Int) = u (a >>> 16) := shr_pow a 16
theorem shr15 (a : BitVec 32) : u a / (32768 : Int) = u (a >>> 15) := shr_pow a 15
theorem shr30 (a : BitVec 32) : u a / (1073741824 : Int) = u (a >>> 30) := shr_pow a 30
theorem mul32 (a b : BitVec 32) : (u a * u b) % (4294967296 : Int) = u (a * b) := by
  unfold u
  rw [BitVec.toNat_mul, Int.natCast_emod, Int.natCast_mul]
  rfl
theorem add32 (a b : BitVec 32) : (u a + u b) % (4294967296 : Int) = u (a + b) := by
  unfold u
  rw [BitVec.toNat_add, Int.natCast_emod, Int.natCast_add]
  rfl

theorem ofInt64 (a : Nat) (ha : a < 9223372036854775808) : (BitVec.ofInt 64 (a : Int)).toNat = a := by
  rw [BitVec.ofInt_natCast, BitVec.toNat_ofNat]
  exact Nat.mod_eq_of_lt (by omega)
theorem xorN (a b : Nat) (ha : a < 9223372036854775808) (hb : b < 9223372036854775808) : Go.bits .xor .i64 (a : Int) (b : Int) = ((a ^^^ b : Nat) : Int) := by
  have hx : a ^^^ b < 2 ^ 63 := Nat.xor_lt_two_pow (by omega) (by omega)
  show IntKind.i64.wrap ((BitVec.ofInt 64 (a : Int) ^^^ BitVec.ofInt 64 (b : Int)).toNat : Int) = _
  rw [BitVec.toNat_xor, ofInt64 a ha, ofInt64 b hb, IntKind.wrap_i64]
  omega
theorem andN (a b : Nat) (ha : a < 9223372036854775808) (hb : b < 9223372036854775808) : Go.bits .and .i64 (a : Int) (b : Int) = ((a &&& b : Nat) : Int) := by
  have hx : a &&& b < 2 ^ 63 := Nat.and_lt_two_pow a (by omega)
  show IntKind.i64.wrap ((BitVec.ofInt 64 (a : Int) &&& BitVec.ofInt 64 (b : Int)).toNat : Int) = _
  rw [BitVec.toNat_and, ofInt64 a ha, ofInt64 b hb, IntKind.wrap_i64]
  omega
theorem and1 (a : Nat) (ha : a < 9223372036854775808) : Go.bits .and .i64 (a : Int) 1 = ((a % 2 : Nat) : Int) := by
  have h := andN a 1 ha (by omega)
  rw [Nat.and_one_is_mod] at h
  exact h
theorem and255i (a : Nat) (ha : a < 9223372036854775808) : Go.bits .and .i64 (a : Int) 255 = ((a % 256 : Nat) : Int) := by
  have h := andN a 255 ha (by omega)
  rw [nat_mask8] at h
  exact h
theorem and65535i (a : Nat) (ha : a < 9223372036854775808) : Go.bits .and .i64 (a : Int) 65535 = ((a % 65536 : Nat) : Int) := by
  have h := andN a 65535 ha (by omega)
  rw [nat_mask16] at h
  exact h
theorem u64_nat (m : Nat) (h : m < 9223372036854775808) : IntKind.u64.wrap (m : Int) = (m : Int) := by
  rw [IntKind.wrap_u64]
  omega
theorem lt63 {n : Nat} (h : n ≤ 63) (a : BitVec n) : a.toNat < 9223372036854775808 := Nat.lt_of_lt_of_le a.isLt (Nat.le_trans (Nat.pow_le_pow_right (by decide) h) (by decide))
theorem xor_u {n : Nat} (h : n ≤ 63) (a b : BitVec n) : Go.bits .xor .i64 (u a) (u b) = u (a ^^^ b) := by
  unfold u
  rw [xorN _ _ (lt63 h a) (lt63 h b), BitVec.toNat_xor]
theorem shr1 {n : Nat} (a : BitVec n) : u a / (2 : Int) = u (a >>> 1) := shr_pow a 1
theorem shr8 {n : Nat} (a : BitVec n) : u a / (256 : Int) = u (a >>> 8) := shr_pow a 8

/-! ### The mixer -/
def c1 : BitVec 32 := 2146121005#32
def c2 : BitVec 32 := 2221713035#32
def d1 : BitVec 32 := 493478565#32
def d2 : BitVec 32 := 1124208931#32
theorem u_c1 : u c1 = (2146121005 : Int) := rfl
theorem u_c2 : u c2 = (2221713035 : Int) := rfl
def xs (k : Nat) (x : BitVec 32) : BitVec 32 := x ^^^ (x >>> k)
def xt (x : BitVec 32) : BitVec 32 := x ^^^ ((x >>> 15) ^^^ (x >>> 30))
def mixB (x : BitVec 32) : BitVec 32 := xs 16 (xs 15 (xs 16 x * c1) * c2)
def backB (x : BitVec 32) : BitVec 32 := xs 16 (xt (xs 16 x * d2) * d1)
theorem xs_xs (x : BitVec 32) : xs 16 (xs 16 x) = x := by
  unfold xs
  ext i hi
  simp only [BitVec.getElem_xor, BitVec.getElem_ushiftRight, BitVec.getLsbD_xor, BitVec.getLsbD_ushiftRight]
  have h : x.getLsbD (16 + (16 + i)) = false := BitVec.getLsbD_of_ge _ _ (by omega)
  rw [h]
  cases x[i] <;> cases x.getLsbD (16 + i) <;> rfl
theorem xt_xs (x : BitVec 32) : xt (xs 15 x) = x := by
  unfold xt xs
  ext i hi
  simp only [BitVec.getElem_xor, BitVec.getElem_ushiftRight, BitVec.getLsbD_xor, BitVec.getLsbD_ushiftRight]
  have h : x.getLsbD (15 + (30 + i)) = false := BitVec.getLsbD_of_ge _ _ (by omega)
  have h' : 15 + (15 + i) = 30 + i := by omega
  rw [h, h']
  cases x[i] <;> cases x.getLsbD (15 + i) <;> cases x.getLsbD (30 + i) <;> rfl
theorem xs_xt (x : BitVec 32) : xs 15 (xt x) = x := by
  unfold xt xs
  ext i hi
  simp only [BitVec.getElem_xor, BitVec.getElem_ushiftRight, BitVec.getLsbD_xor, BitVec.getLsbD_ushiftRight]
  have h : x.getLsbD (30 + (15 + i)) = false := BitVec.getLsbD_of_ge _ _ (by omega)
  have h' : 15 + (15 + i) = 30 + i := by omega
  rw [h, h']
  cases x[i] <;> cases x.getLsbD (15 + i) <;> cases x.getLsbD (30 + i) <;> rfl
theorem c2_d2 : c2 * d2 = 1#32 := by decide +kernel
theorem d2_c2 : d2 * c2 = 1#32 := by decide +kernel
theorem c1_d1 : c1 * d1 = 1#32 := by decide +kernel
theorem d1_c1 : d1 * c1 = 1#32 := by decide +kernel
theorem back_mix (x : BitVec 32) : backB (mixB x) = x := by
  unfold backB mixB
  rw [xs_xs, BitVec.mul_assoc, c2_d2, BitVec.mul_one, xt_xs, BitVec.mul_assoc, c1_d1, BitVec.mul_one, xs_xs]
theorem mix_back (x : BitVec 32) : mixB (backB x) = x := by
  unfold backB mixB
  rw [xs_xs, BitVec.mul_assoc, d1_c1, BitVec.mul_one, xs_xt, BitVec.mul_assoc, d2_c2, BitVec.mul_one, xs_xs]
theorem mix_inj {x y : BitVec 32} (h : mixB x = mixB y) : x = y := by rw [← back_mix x, h, back_mix]
theorem back_inj {x y : BitVec 32} (h : backB x = backB y) : x = y := by rw [← mix_back x, h, mix_back]
attribute [irreducible] mixB backB

end Go.Proofs.Ytmjbjlhjpdebjaa.Bv
