/- Sums of bytes as registers of bits: plain laws over bit vectors, no program. -/
import Derived.Test.YtmjbjlhjpdebjaaBv
import Derived.Test.YtmjbjlhjpdebjaaMe
namespace Go.Proofs.Ytmjbjlhjpdebjaa.Crc
open Go Bv
open E (many)

/-- The register of 32 bits behind one bit that is 0 (the lowest first). -/
def L (r : BitVec 32) : BitVec 32 := (r >>> 1) ^^^ (if r.getLsbD 0 then 3988292384#32 else 0#32)
theorem L_xor (a b : BitVec 32) : L (a ^^^ b) = L a ^^^ L b := by
  unfold L
  rw [BitVec.ushiftRight_xor_distrib, BitVec.getLsbD_xor]
  generalize (3988292384#32 : BitVec 32) = p
  cases a.getLsbD 0 <;> cases b.getLsbD 0 <;> simp [BitVec.xor_assoc]
  · rw [BitVec.xor_comm p (b >>> 1)]
  · rw [BitVec.xor_comm p (b >>> 1 ^^^ p), BitVec.xor_assoc, BitVec.xor_self, BitVec.xor_zero]
theorem L_zero : L 0#32 = 0#32 := by decide +kernel
theorem L_top (r : BitVec 32) : (L r).getLsbD 31 = r.getLsbD 0 := by
  unfold L
  rw [BitVec.getLsbD_xor, BitVec.getLsbD_ushiftRight]
  have h : r.getLsbD (1 + 31) = false := BitVec.getLsbD_of_ge _ _ (by omega)
  rw [h]
  cases r.getLsbD 0
  · simp
  · decide +kernel
theorem L_eq_zero {r : BitVec 32} (h : L r = 0#32) : r = 0#32 := by
  have h0 : r.getLsbD 0 = false := by rw [← L_top, h]; decide +kernel
  have h1 : r >>> 1 = 0#32 := by
    unfold L at h
    rw [h0] at h
    simpa using h
  apply BitVec.eq_of_getLsbD_eq
  intro i hi
  cases i with
  | zero => rw [h0]; simp
  | succ i =>
    have : (r >>> 1).getLsbD i = (0#32).getLsbD i := by rw [h1]
    rw [BitVec.getLsbD_ushiftRight] at this
    rw [Nat.add_comm i 1, this]
    simp
theorem bit0 (r : BitVec 32) : r.getLsbD 0 = decide (r.toNat % 2 = 1) := by
  unfold BitVec.getLsbD
  rw [Nat.testBit_zero]
theorem L_odd {r : BitVec 32} (h : r.toNat % 2 = 1) : L r = (r >>> 1) ^^^ 3988292384#32 := by
  unfold L
  rw [bit0, decide_eq_true h, if_pos rfl]
theorem L_even {r : BitVec 32} (h : ¬ r.toNat % 2 = 1) : L r = r >>> 1 := by
  unfold L
  rw [bit0, decide_eq_false h, if_neg (by decide), BitVec.xor_zero]
attribute [irreducible] L
theorem many_xor {n : Nat} {f : BitVec n → BitVec n} (hf : ∀ a b, f (a ^^^ b) = f a ^^^ f b) (k : Nat) (a b : BitVec n) : many f k (a ^^^ b) = many f k a ^^^ many f k b := by
  induction k with
  | zero => simp only [E.many_zero]
  | succ k ih => rw [E.many_succ, ih, hf, E.many_succ, E.many_succ]
theorem many_add {α : Type} (f : α → α) (j k : Nat) (a : α) : many f (j + k) a = many f j (many f k a) := by
  induction j with
  | zero => rw [Nat.zero_add, E.many_zero]
  | succ j ih => rw [Nat.add_right_comm, E.many_succ, ih, E.many_succ]
theorem manyL_zero (k : Nat) : many L k 0#32 = 0#32 := by
  induction k with
  | zero => rfl
  | succ k ih => rw [E.many_succ, ih, L_zero]
theorem manyL_eq_zero {k : Nat} {r : BitVec 32} (h : many L k r = 0#32) : r = 0#32 := by
  induction k with
  | zero => rwa [E.many_zero] at h
  | succ k ih => rw [E.many_succ] at h; exact ih (L_eq_zero h)
theorem xor_eq_zero {n : Nat} {a b : BitVec n} (h : a ^^^ b = 0#n) : a = b := by
  have : a ^^^ b ^^^ b = 0#n ^^^ b := by rw [h]
  rwa [BitVec.xor_assoc, BitVec.xor_self, BitVec.xor_zero, BitVec.zero_xor] at this
theorem manyL_inj {k : Nat} {a b : BitVec 32} (h : many L k a = many L k b) : a = b := by
  apply xor_eq_zero
  apply manyL_eq_zero (k := k)
  rw [many_xor L_xor, h, BitVec.xor_self]
/-- Whose lowest bits are 0 is moved down. -/
theorem low_shift (n : Nat) (z : BitVec 32) (h : ∀ i, i < n → z.getLsbD i = false) : many L n z = z >>> n := by
  induction n with
  | zero => rw [E.many_zero]; simp
  | succ n ih =>
    rw [E.many_succ, ih (fun i hi => h i (by omega))]
    unfold L
    rw [BitVec.getLsbD_ushiftRight, Nat.add_zero, h n (by omega), ← BitVec.shiftRight_add]
    simp
/-- The low bits alone are worked upon, the others moved down. -/
theorem split (n : Nat) (x : BitVec 32) : many L n x = (x >>> n) ^^^ many L n (BitVec.ofNat 32 (x.toNat % 2 ^ n)) := by
  have e : x = (x ^^^ BitVec.ofNat 32 (x.toNat % 2 ^ n)) ^^^ BitVec.ofNat 32 (x.toNat % 2 ^ n) := by rw [BitVec.xor_assoc, BitVec.xor_self, BitVec.xor_zero]
  have hb : ∀ i, i < 32 → (BitVec.ofNat 32 (x.toNat % 2 ^ n)).getLsbD i = (decide (i < n) && x.getLsbD i) := by
    intro i hi
    rw [BitVec.getLsbD_ofNat, Nat.testBit_mod_two_pow, decide_eq_true hi, Bool.true_and]
    rfl
  have hl : many L n (x ^^^ BitVec.ofNat 32 (x.toNat % 2 ^ n)) = x >>> n := by
    rw [low_shift n]
    · apply BitVec.eq_of_getLsbD_eq
      intro i hi
      rw [BitVec.getLsbD_ushiftRight, BitVec.getLsbD_ushiftRight, BitVec.getLsbD_xor]
      by_cases h32 : n + i < 32
      · rw [hb _ h32, decide_eq_false (show ¬ n + i < n by omega), Bool.false_and, Bool.xor_false]
      · rw [BitVec.getLsbD_of_ge (BitVec.ofNat 32 (x.toNat % 2 ^ n)) _ (by omega), Bool.xor_false]
    · intro i hi
      rw [BitVec.getLsbD_xor]
      by_cases h32 : i < 32
      · rw [hb _ h32, decide_eq_true hi, Bool.true_and, Bool.xor_self]
      · rw [BitVec.getLsbD_of_ge x _ (by omega), BitVec.getLsbD_of_ge _ _ (by omega)]
        rfl
  rw [← hl, ← many_xor L_xor, ← e]
/-- A byte, as the register takes it. -/
def by32 (c : Int) : BitVec 32 := BitVec.ofNat 32 c.toNat
/-- The register behind a byte. -/
def step32 (r : BitVec 32) (c : Int) : BitVec 32 := many L 8 (r ^^^ by32 c)
def reg32 (r : BitVec 32) (l : List Int) : BitVec 32 := l.foldl step32 r
def ones32 : BitVec 32 := 4294967295#32
def sum32 (l : List Int) : BitVec 32 := reg32 ones32 l ^^^ ones32
/-- A table's entry. -/
def tab32 (i : Nat) : BitVec 32 := many L 8 (BitVec.ofNat 32 i)
def isByte (c : Int) : Prop := 0 ≤ c ∧ c ≤ 255
theorem step_tab (r : BitVec 32) (c : Int) (hc : isByte c) : step32 r c = (r >>> 8) ^^^ tab32 ((r.toNat % 256) ^^^ c.toNat) := by
  unfold step32 tab32
  obtain ⟨h0, h1⟩ := hc
  have hn : c.toNat < 2 ^ 8 := by omega
  rw [split 8]
  have e1 : (r ^^^ by32 c) >>> 8 = r >>> 8 := by
    apply BitVec.eq_of_getLsbD_eq
    intro i hi
    rw [BitVec.getLsbD_ushiftRight, BitVec.getLsbD_ushiftRight, BitVec.getLsbD_xor]
    unfold by32
    rw [BitVec.getLsbD_ofNat, Nat.testBit_lt_two_pow (Nat.lt_of_lt_of_le hn (Nat.pow_le_pow_right (by decide) (by omega)))]
    simp
  have e2 : (r ^^^ by32 c).toNat % 2 ^ 8 = (r.toNat % 256) ^^^ c.toNat := by
    rw [BitVec.toNat_xor]
    unfold by32
    rw [BitVec.toNat_ofNat, Nat.mod_eq_of_lt (show c.toNat < 2 ^ 32 by omega), Nat.xor_mod_two_pow, Nat.mod_eq_of_lt hn]
  rw [e1, e2]
theorem reg_nil (r : BitVec 32) : reg32 r [] = r := rfl
theorem reg_cons (r : BitVec 32) (c : Int) (l : List Int) : reg32 r (c :: l) = reg32 (step32 r c) l := rfl
theorem reg_append (r : BitVec 32) (l m : List Int) : reg32 r (l ++ m) = reg32 (reg32 r l) m := by unfold reg32; rw [List.foldl_append]

/-- A sum, as it stands behind a text: the lowest byte first. -/
def seal4 (s : BitVec 32) : List Int := [u s % 256, u (s >>> 8) % 256, u (s >>> 16) % 256, u (s >>> 24) % 256]
theorem feed1 (r s : BitVec 32) : step32 r (u s % 256) = many L 8 (r ^^^ s) ^^^ (s >>> 8) := by
  unfold step32
  have e : by32 (u s % 256) = BitVec.ofNat 32 (s.toNat % 2 ^ 8) := by
    unfold by32 u
    have : ((s.toNat : Int) % 256).toNat = s.toNat % 2 ^ 8 := by omega
    rw [this]
  rw [e, many_xor L_xor, many_xor L_xor, split 8 s]
  generalize many L 8 (BitVec.ofNat 32 (s.toNat % 2 ^ 8)) = y
  rw [BitVec.xor_comm (s >>> 8) y, BitVec.xor_assoc, BitVec.xor_assoc, BitVec.xor_self, BitVec.xor_zero]
theorem feed4 (r s : BitVec 32) : reg32 r (seal4 s) = many L 32 (r ^^^ s) := by
  have s1 : (s >>> 8) >>> 8 = s >>> 16 := (BitVec.shiftRight_add s 8 8).symm
  have s2 : (s >>> 16) >>> 8 = s >>> 24 := (BitVec.shiftRight_add s 16 8).symm
  have s3 : (s >>> 24) >>> 8 = s >>> 32 := (BitVec.shiftRight_add s 24 8).symm
  have ca : ∀ a b : BitVec 32, a ^^^ b ^^^ b = a := fun a b => by rw [BitVec.xor_assoc, BitVec.xor_self, BitVec.xor_zero]
  have h32 : s >>> 32 = 0#32 := by
    apply BitVec.eq_of_getLsbD_eq
    intro i hi
    rw [BitVec.getLsbD_ushiftRight, BitVec.getLsbD_of_ge _ _ (by omega)]
    simp
  have f0 := feed1 r s
  have f1 := feed1 (step32 r (u s % 256)) (s >>> 8)
  have f2 := feed1 (step32 (step32 r (u s % 256)) (u (s >>> 8) % 256)) (s >>> 16)
  have f3 := feed1 (step32 (step32 (step32 r (u s % 256)) (u (s >>> 8) % 256)) (u (s >>> 16) % 256)) (s >>> 24)
  unfold seal4
  rw [reg_cons, reg_cons, reg_cons, reg_cons, reg_nil, f3, f2, f1, f0]
  rw [ca, s1, ca, s2, ca, s3, h32, BitVec.xor_zero, ← many_add, ← many_add, ← many_add]
theorem residue : u (many L 32 ones32 ^^^ ones32) = (558161692 : Int) := by decide +kernel
theorem sealed_sum (l : List Int) : u (sum32 (l ++ seal4 (sum32 l))) = (558161692 : Int) := by
  have e : reg32 ones32 l ^^^ sum32 l = ones32 := by
    unfold sum32
    rw [← BitVec.xor_assoc, BitVec.xor_self, BitVec.zero_xor]
  have h : sum32 (l ++ seal4 (sum32 l)) = many L 32 ones32 ^^^ ones32 := by
    rw [sum32.eq_1 (l ++ seal4 (sum32 l)), reg_append, feed4, e]
  rw [h]
  exact residue
theorem seal4_bytes (s : BitVec 32) : ∀ c ∈ seal4 s, isByte c := by
  intro c hc
  unfold seal4 at hc
  unfold isByte
  simp only [List.mem_cons, List.not_mem_nil, or_false] at hc
  rcases hc with rfl | rfl | rfl | rfl <;> omega
theorem seal4_length (s : BitVec 32) : (seal4 s).length = 4 := rfl
attribute [irreducible] seal4

/-! ### 16 bits, the highest first -/
def M (r : BitVec 16) : BitVec 16 := (r <<< 1) ^^^ (if r.msb then 4129#16 else 0#16)
theorem M_xor (a b : BitVec 16) : M (a ^^^ b) = M a ^^^ M b := by
  unfold M
  rw [BitVec.shiftLeft_xor_distrib, BitVec.msb_xor]
  generalize (4129#16 : BitVec 16) = p
  cases a.msb <;> cases b.msb <;> simp [BitVec.xor_assoc]
  · rw [BitVec.xor_comm p (b <<< 1)]
  · rw [BitVec.xor_comm p (b <<< 1 ^^^ p), BitVec.xor_assoc, BitVec.xor_self, BitVec.xor_zero]
theorem M_zero : M 0#16 = 0#16 := by decide +kernel
theorem msb16 (r : BitVec 16) : r.msb = decide (32768 ≤ r.toNat) := BitVec.msb_eq_decide r
theorem M_top {r : BitVec 16} (h : 32768 ≤ r.toNat) : M r = (r <<< 1) ^^^ 4129#16 := by
  unfold M
  rw [msb16, decide_eq_true h, if_pos rfl]
theorem M_not {r : BitVec 16} (h : ¬ 32768 ≤ r.toNat) : M r = r <<< 1 := by
  unfold M
  rw [msb16, decide_eq_false h, if_neg (by decide), BitVec.xor_zero]
theorem M_low (r : BitVec 16) : (M r).getLsbD 0 = r.msb := by
  unfold M
  rw [BitVec.getLsbD_xor, BitVec.getLsbD_shiftLeft]
  cases r.msb
  · simp
  · rw [if_pos rfl, show (4129#16).getLsbD 0 = true from by decide +kernel]
    simp
theorem M_eq_zero {r : BitVec 16} (h : M r = 0#16) : r = 0#16 := by
  have h0 : r.msb = false := by rw [← M_low, h]; decide +kernel
  have h1 : r <<< 1 = 0#16 := by
    unfold M at h
    rw [h0] at h
    simpa using h
  apply BitVec.eq_of_getLsbD_eq
  intro i hi
  by_cases h15 : i = 15
  · subst h15
    rw [BitVec.msb_eq_getLsbD_last] at h0
    rw [show (15 : Nat) = 16 - 1 from rfl, h0]
    simp
  · have : (r <<< 1).getLsbD (i + 1) = (0#16).getLsbD (i + 1) := by rw [h1]
    rw [BitVec.getLsbD_shiftLeft, decide_eq_true (show i + 1 < 16 by omega), decide_eq_false (show ¬ i + 1 < 1 by omega)] at this
    simpa using this
attribute [irreducible] M
theorem manyM_eq_zero {k : Nat} {r : BitVec 16} (h : many M k r = 0#16) : r = 0#16 := by
  induction k with
  | zero => rwa [E.many_zero] at h
  | succ k ih => rw [E.many_succ] at h; exact ih (M_eq_zero h)
theorem manyM_zero (k : Nat) : many M k 0#16 = 0#16 := by
  induction k with
  | zero => rfl
  | succ k ih => rw [E.many_succ, ih, M_zero]
theorem manyM_inj {k : Nat} {a b : BitVec 16} (h : many M k a = many M k b) : a = b := by
  apply xor_eq_zero
  apply manyM_eq_zero (k := k)
  rw [many_xor M_xor, h, BitVec.xor_self]
/-- Whose highest bits are 0 is moved up. -/
theorem high_shift (n : Nat) (z : BitVec 16) (h : z.toNat < 2 ^ (16 - n)) (hn : n ≤ 16) : many M n z = z <<< n := by
  induction n with
  | zero => rw [E.many_zero]; simp
  | succ n ih =>
    have h2 : 2 ^ (16 - n) = 2 * 2 ^ (16 - (n + 1)) := by rw [show 16 - n = (16 - (n + 1)) + 1 by omega, Nat.pow_succ, Nat.mul_comm]
    rw [E.many_succ, ih (by omega) (by omega), M_not, ← BitVec.shiftLeft_add]
    rw [BitVec.toNat_shiftLeft, Nat.shiftLeft_eq]
    have h3 : z.toNat * 2 ^ n < 2 ^ (16 - (n + 1)) * 2 ^ n := Nat.mul_lt_mul_of_pos_right h (Nat.two_pow_pos n)
    rw [← Nat.pow_add, show 16 - (n + 1) + n = 15 by omega] at h3
    rw [Nat.mod_eq_of_lt (by omega)]
    omega
def by16 (c : Int) : BitVec 16 := BitVec.ofNat 16 (c.toNat * 256)
def step16 (r : BitVec 16) (c : Int) : BitVec 16 := many M 8 (r ^^^ by16 c)
def reg16 (r : BitVec 16) (l : List Int) : BitVec 16 := l.foldl step16 r
def ones16 : BitVec 16 := 65535#16
def sum16 (l : List Int) : BitVec 16 := reg16 ones16 l
def tab16 (i : Nat) : BitVec 16 := many M 8 (BitVec.ofNat 16 (i * 256))
theorem step_tab16 (r : BitVec 16) (c : Int) (hc : isByte c) : step16 r c = (r <<< 8) ^^^ tab16 ((r.toNat / 256) ^^^ c.toNat) := by
  unfold step16 tab16
  obtain ⟨h0, h1⟩ := hc
  have hr := r.isLt
  have e : r ^^^ by16 c = BitVec.ofNat 16 (r.toNat % 256) ^^^ BitVec.ofNat 16 (((r.toNat / 256) ^^^ c.toNat) * 256) := by
    apply BitVec.eq_of_toNat_eq
    unfold by16
    rw [BitVec.toNat_xor, BitVec.toNat_xor, BitVec.toNat_ofNat, BitVec.toNat_ofNat, BitVec.toNat_ofNat]
    have hx : (r.toNat / 256) ^^^ c.toNat < 2 ^ 8 := Nat.xor_lt_two_pow (by omega) (by omega)
    rw [Nat.mod_eq_of_lt (show c.toNat * 256 < 2 ^ 16 by omega), Nat.mod_eq_of_lt (show r.toNat % 256 < 2 ^ 16 by omega), Nat.mod_eq_of_lt (show ((r.toNat / 256) ^^^ c.toNat) * 256 < 2 ^ 16 by omega)]
    have s1 : r.toNat = (r.toNat % 256) ^^^ (r.toNat / 256 * 256) := by
      apply Nat.eq_of_testBit_eq
      intro i
      rw [Nat.testBit_xor, show (256 : Nat) = 2 ^ 8 from rfl, Nat.testBit_mod_two_pow, Nat.testBit_mul_two_pow, Nat.testBit_div_two_pow]
      by_cases h : i < 8
      · simp [h, show ¬ 8 ≤ i by omega]
      · simp [h, show 8 ≤ i by omega]
    have s2 : ((r.toNat / 256) ^^^ c.toNat) * 256 = (r.toNat / 256 * 256) ^^^ (c.toNat * 256) := by
      rw [show (256 : Nat) = 2 ^ 8 from rfl, ← Nat.shiftLeft_eq, ← Nat.shiftLeft_eq, ← Nat.shiftLeft_eq, Nat.shiftLeft_xor_distrib]
    rw [s2, ← Nat.xor_assoc, ← s1]
  have hl : many M 8 (BitVec.ofNat 16 (r.toNat % 256)) = r <<< 8 := by
    rw [high_shift 8 _ (by rw [BitVec.toNat_ofNat]; omega) (by omega)]
    apply BitVec.eq_of_toNat_eq
    rw [BitVec.toNat_shiftLeft, BitVec.toNat_shiftLeft, BitVec.toNat_ofNat, Nat.shiftLeft_eq, Nat.shiftLeft_eq]
    omega
  rw [e, many_xor M_xor, hl]
theorem reg16_nil (r : BitVec 16) : reg16 r [] = r := rfl
theorem reg16_cons (r : BitVec 16) (c : Int) (l : List Int) : reg16 r (c :: l) = reg16 (step16 r c) l := rfl

/-! ### Bit by bit, as the reference goes -/
def fd32 (r : BitVec 32) (bs : List (BitVec 32)) : BitVec 32 := bs.foldl (fun r b => L (r ^^^ b)) r
theorem fd32_xor (bs : List (BitVec 32)) : ∀ r s : BitVec 32, fd32 (r ^^^ s) bs = fd32 r bs ^^^ many L bs.length s := by
  induction bs with
  | nil => intro r s; rfl
  | cons b bs ih =>
    intro r s
    show fd32 (L (r ^^^ s ^^^ b)) bs = fd32 (L (r ^^^ b)) bs ^^^ many L (bs.length + 1) s
    rw [E.many_in, ← ih, ← L_xor]
    congr 2
    rw [BitVec.xor_assoc, BitVec.xor_comm s b, ← BitVec.xor_assoc]
/-- A byte's bits, the lowest first. -/
def bits32 (c : Nat) : List (BitVec 32) := (List.range' 0 8).map (fun j => BitVec.ofNat 32 (c / 2 ^ j % 2))
theorem fd32_table : ∀ c : Nat, c < 256 → fd32 0#32 (bits32 c) = many L 8 (BitVec.ofNat 32 c) := by decide +kernel
theorem fd32_byte (r : BitVec 32) (c : Int) (hc : isByte c) : fd32 r (bits32 c.toNat) = step32 r c := by
  have h := fd32_xor (bits32 c.toNat) 0#32 r
  rw [BitVec.zero_xor, fd32_table c.toNat (by have := hc.1; have := hc.2; omega)] at h
  unfold step32 by32
  rw [h, many_xor L_xor, BitVec.xor_comm]
  rfl
def fd16 (r : BitVec 16) (bs : List (BitVec 16)) : BitVec 16 := bs.foldl (fun r b => M (r ^^^ b)) r
theorem fd16_xor (bs : List (BitVec 16)) : ∀ r s : BitVec 16, fd16 (r ^^^ s) bs = fd16 r bs ^^^ many M bs.length s := by
  induction bs with
  | nil => intro r s; rfl
  | cons b bs ih =>
    intro r s
    show fd16 (M (r ^^^ s ^^^ b)) bs = fd16 (M (r ^^^ b)) bs ^^^ many M (bs.length + 1) s
    rw [E.many_in, ← ih, ← M_xor]
    congr 2
    rw [BitVec.xor_assoc, BitVec.xor_comm s b, ← BitVec.xor_assoc]
/-- A bit, as a register of 16 bits takes it. -/
def top16 (b : Nat) : BitVec 16 := BitVec.ofNat 16 (b * 32768)
/-- A byte's bits, the highest first. -/
def bitsOf (c : Nat) : List Nat := (List.range' 0 8).map (fun j => c / 2 ^ (7 - j) % 2)
theorem fd16_table : ∀ c : Nat, c < 256 → fd16 0#16 ((bitsOf c).map top16) = many M 8 (BitVec.ofNat 16 (c * 256)) := by decide +kernel
theorem fd16_byte (r : BitVec 16) (c : Int) (hc : isByte c) : fd16 r ((bitsOf c.toNat).map top16) = step16 r c := by
  have h := fd16_xor ((bitsOf c.toNat).map top16) 0#16 r
  rw [BitVec.zero_xor, fd16_table c.toNat (by have := hc.1; have := hc.2; omega)] at h
  unfold step16 by16
  rw [h, many_xor M_xor, BitVec.xor_comm]
  rfl
theorem fd16_append (bs cs : List (BitVec 16)) (r : BitVec 16) : fd16 r (bs ++ cs) = fd16 (fd16 r bs) cs := by unfold fd16; rw [List.foldl_append]

end Go.Proofs.Ytmjbjlhjpdebjaa.Crc
