/- A packet whose head has bits turned about is none: plain laws. -/
import Derived.Test.YtnhghopkbbdebaaPL
import Derived.Test.YtnhghopkbbdebaaMDataHeads
set_option linter.unusedVariables false
namespace Go.Proofs.Ytnhghopkbbdebaa.Mini
open Go Go.RowKit Go.Proofs

open Bv Crc E Be in
theorem two_more (r : BitVec 16) (a b : Int) (ha : isByte a) (hb : isByte b) : reg16 r [a, b] = many M 16 (r ^^^ BitVec.ofNat 16 (a.toNat * 256 + b.toNat)) := by
  obtain ⟨a0, a1⟩ := ha
  obtain ⟨b0, b1⟩ := hb
  have hs : many M 8 (BitVec.ofNat 16 b.toNat) = by16 b := by
    rw [high_shift 8 _ (by rw [BitVec.toNat_ofNat]; omega) (by omega)]
    unfold by16
    apply BitVec.eq_of_toNat_eq
    rw [BitVec.toNat_shiftLeft, BitVec.toNat_ofNat, BitVec.toNat_ofNat, Nat.shiftLeft_eq]
    omega
  have hx : BitVec.ofNat 16 (a.toNat * 256 + b.toNat) = by16 a ^^^ BitVec.ofNat 16 b.toNat := by
    unfold by16
    rw [← BitVec.ofNat_xor]
    congr 1
    have := Nat.shiftLeft_add_eq_or_of_lt (i := 8) (b := b.toNat) (by omega) a.toNat
    rw [Nat.shiftLeft_eq] at this
    have e : a.toNat * 256 + b.toNat = a.toNat * 2 ^ 8 + b.toNat := rfl
    rw [e, this]
    apply Nat.eq_of_testBit_eq
    intro j
    rw [Nat.testBit_or, Nat.testBit_xor, Nat.testBit_mul_two_pow]
    by_cases hj : 8 ≤ j
    · rw [Nat.testBit_lt_two_pow (show b.toNat < 2 ^ j from Nat.lt_of_lt_of_le (show b.toNat < 2 ^ 8 by omega) (Nat.pow_le_pow_right (by decide) hj))]
      simp
    · simp [hj]
  rw [hx, reg16_cons, reg16_cons, reg16_nil]
  unfold step16
  rw [← hs, ← many_xor M_xor, ← many_add]
  congr 1
  rw [BitVec.xor_assoc]

open Bv Crc E Be in
theorem sum_iff (l : List Int) (hb : ∀ c ∈ l, isByte c) (hl : 11 ≤ l.length) : u (sum16 (l.take 9)) = num ((l.take 11).drop 9) ↔ reg16 ones16 (l.take 11) = 0#16 := by
  obtain ⟨a, b, e⟩ : ∃ a b, (l.take 11).drop 9 = [a, b] := by
    have h2 : ((l.take 11).drop 9).length = 2 := by rw [List.length_drop, List.length_take]; omega
    match (l.take 11).drop 9, h2 with
    | [a, b], _ => exact ⟨a, b, rfl⟩
  have hm : ∀ c ∈ [a, b], isByte c := fun c hc => hb c (List.mem_of_mem_take (List.mem_of_mem_drop (by rw [e]; exact hc)))
  have ha := hm a (by simp)
  have hb2 := hm b (by simp)
  have h11 : l.take 11 = l.take 9 ++ [a, b] := by
    rw [← e]
    have : l.take 9 = (l.take 11).take 9 := by rw [List.take_take]; rfl
    rw [this, List.take_append_drop]
  rw [e, h11, reg16_append, two_more _ _ _ ha hb2]
  have hn : num [a, b] = a * 256 + b := by
    show (0 * 256 + a) * 256 + b = _
    omega
  have hs : reg16 ones16 (l.take 9) = sum16 (l.take 9) := rfl
  rw [hn, hs]
  generalize sum16 (l.take 9) = r
  obtain ⟨a0, a1⟩ := ha
  obtain ⟨b0, b1⟩ := hb2
  have hlt := r.isLt
  constructor
  · intro h
    have h1 : r = BitVec.ofNat 16 (a.toNat * 256 + b.toNat) := by
      apply BitVec.eq_of_toNat_eq
      rw [BitVec.toNat_ofNat]
      unfold u at h
      omega
    rw [← h1, BitVec.xor_self, manyM_zero]
  · intro h
    have h1 := xor_eq_zero (manyM_eq_zero h)
    have h2 := congrArg BitVec.toNat h1
    rw [BitVec.toNat_ofNat] at h2
    unfold u
    omega

open Crc Bv Be E in
theorem heads_end (k : Nat) (hk : 6000 ≤ k) (s r f : Int) (y : List Int) (hy : ∀ c ∈ y, isByte c) (h : datBad s r f y.length = 0) (x : List Int) (a i B : Nat) (hi : i ≤ 16) (hF : Flip16 (datPack s r f y) x (8 + a) i B) :
    m6F32 k (decide (B % 2 ^ i ≠ 0)) x = some true := by
  have hw := wakes14 k (by omega)
  have hlen := datPack_length s r f y
  have hpb := datPack_bytes s r f y hy
  have hn : 1 ≤ y.length ∧ y.length ≤ 64 := by
    unfold datBad at h
    split at h
    · cases h
    split at h
    · cases h
    omega
  have hl : x.length = 11 + y.length := by rw [hF.len, hlen]
  have hr := datRead_eq k (by omega) x (by omega) hF.byt
  simp only [m6F32, m6X32, hr, Option.bind_some, eqI_eq]
  by_cases hz : B % 2 ^ i = 0
  · rw [hF.same hz, datRead_pack s r f y h]
    simp [hz, hw]
  · have h68 : x.getD 0 0 = 68 := by rw [hF.head 0 (by omega), (datPack_parts s r f y).2.2.2.2.2.1]
    have k0 := (sum_iff (datPack s r f y) hpb (by omega)).1 (by
      obtain ⟨e1, e2, _⟩ := datPack_parts s r f y
      have hlt := (sum16 (datHead s r f y.length)).isLt
      rw [e1, e2, num_be' 2 _ (u_nonneg _) (by unfold u; omega)])
    have k1 := sum_iff x hF.byt (by omega)
    rw [hF.reg, k0, BitVec.zero_xor] at k1
    have k2 : ¬ (u (sum16 (x.take 9)) = num ((x.take 11).drop 9)) := fun hh => hz ((mir_zero B i hi).1 (manyM_eq_zero (k1.1 hh)))
    have hread : datRead x = ((0, 0, 0, []), 4) := by
      unfold datRead
      rw [if_neg (by omega), if_neg (by rw [h68]; simp), if_pos k2]
    rw [hread]
    have hq := datEq_eq k (show 5001 ≤ k by omega) 0 0 0 0 0 0 [] [] (by simp)
    simp [hz, hw, hq]

theorem arith80 (a i : Nat) (h : a + i < 80) : Int.tdiv ((a + i : Nat) : Int) 8 = (((a + i) / 8 : Nat) : Int) ∧ wr .i64 (7 - Int.tmod ((a + i : Nat) : Int) 8) = ((7 - (8 + a + i) % 8 : Nat) : Int) ∧ wr .i64 (((a + i) / 8 : Nat) : Int) = (((a + i) / 8 : Nat) : Int) ∧
    wr .i64 (1 + (((a + i) / 8 : Nat) : Int)) = (((8 + a + i) / 8 : Nat) : Int) ∧ (8 + a + i) / 8 < 11 ∧ 7 - (8 + a + i) % 8 < 8 ∧ 8 + a + i < 88 := by
  generalize hz : a + i = z at h
  have e : 8 + a + i = 8 + z := by omega
  rw [e]
  refine ⟨?_, ?_, w64n (by omega), ?_, by omega, by omega, by omega⟩
  · rw [Int.tdiv_eq_ediv_of_nonneg (by omega)]
    omega
  · rw [Int.tmod_eq_emod_of_nonneg (by omega), w64 (by omega) (by omega)]
    omega
  · rw [w64 (by omega) (by omega)]
    omega

theorem look_bit16 (B i : Nat) (hB : B < 65536) (hi : i < 16) : Go.bits .and .u16 ((B : Int) / p2 (min (Int.toNat (wr .u64 (i : Int))) 16)) 1 = ((B / 2 ^ i % 2 : Nat) : Int) := by
  have e : (B : Int) / p2 (min (Int.toNat (wr .u64 (i : Int))) 16) = ((B / 2 ^ i : Nat) : Int) := by
    rw [wu64 (by omega) (by omega), Int.toNat_natCast, Nat.min_eq_left (by omega)]
    unfold p2
    exact (Int.natCast_ediv ..).symm
  have hle : B / 2 ^ i ≤ B := Nat.div_le_self _ _
  rw [e]
  have := u16_and_nat (B / 2 ^ i) 1 (by omega) (by omega)
  rw [Nat.and_one_is_mod] at this
  exact this

theorem turn_bit16 (x : Int) (b : Nat) (hx : Crc.isByte x) (hb : b < 8) : Go.bits .xor .u8 x (wr .u8 (1 * p2 (min (Int.toNat (wr .u64 (b : Int))) 8))) = ((x.toNat ^^^ 2 ^ b : Nat) : Int) := by
  have h2 : 2 ^ b < 2 ^ 8 := Nat.pow_lt_pow_right (by decide) hb
  have e : wr .u8 (1 * p2 (min (Int.toNat (wr .u64 (b : Int))) 8)) = ((2 ^ b : Nat) : Int) := by
    rw [wu64 (by omega) (by omega), Int.toNat_natCast, Nat.min_eq_left (by omega), wu8]
    unfold p2
    show 1 * ((2 ^ b : Nat) : Int) % 256 = _
    generalize 2 ^ b = q at h2
    omega
  have hn : x = ((x.toNat : Nat) : Int) := by have := hx.1; omega
  rw [e]
  conv => lhs; rw [hn]
  exact u8_xor_nat _ _ (by have := hx.2; have := hx.1; omega) (by omega)

open Crc in
theorem heads_loop (k : Nat) (hk : 6000 ≤ k) (s r f : Int) (y : List Int) (hy : ∀ c ∈ y, isByte c) (hbad : datBad s r f y.length = 0) (a B : Nat) (ha : a < 80) (hB : B < 65536) : ∀ (d i m : Nat) (x : List Int), i + d = 16 → d < m → a + i ≤ 80 →
    Flip16 (datPack s r f y) x (8 + a) i B → m6F23 k m (a : Int) (B : Int) (decide (B % 2 ^ i ≠ 0)) (i : Int) x = some true := by
  have hlen := datPack_length s r f y
  intro d
  induction d with
  | zero =>
    intro i m x hi hm hai h
    obtain ⟨m, rfl⟩ : ∃ z, m = z + 1 := ⟨m - 1, by omega⟩
    have c : ¬ (ltI (i : Int) 16 = true) := by rw [ltI_neg (by omega)]; simp
    rw [m6F23, m6X23, if_neg c]
    exact heads_end k hk s r f y hy hbad x a i B (by omega) h
  | succ d ih =>
    intro i m x hi hm hai h
    obtain ⟨m, rfl⟩ : ∃ z, m = z + 1 := ⟨m - 1, by omega⟩
    have w : wr .i64 ((a : Int) + (i : Int)) = ((a + i : Nat) : Int) := by rw [w64 (by omega) (by omega)]; omega
    rw [m6F23, m6X23, if_pos (ltI_pos (by omega)), w]
    by_cases h80 : a + i < 80
    · have hl : x.length = 11 + y.length := by rw [h.len, hlen]
      have hi16 : i < 16 := by clear w h; omega
      have h80i : ((a + i : Nat) : Int) < 80 := by clear w h; omega
      have i64 : (i : Int) < 18446744073709551616 := by clear w h; omega
      have i63 : i < 9223372036854775807 := by clear w h; omega
      have g1 : i + 1 + d = 16 := by clear w h; omega
      have g2 : d < m := by clear w h; omega
      have g3 : a + (i + 1) ≤ 80 := by clear w h; omega
      have l11 : 11 ≤ (datPack s r f y).length := by clear w h; omega
      obtain ⟨t1, t2, w1, w2, n1, n2, n3⟩ := arith80 a i h80
      have n1' : (8 + a + i) / 8 < x.length := by rw [hl]; exact Nat.lt_of_lt_of_le n1 (Nat.le_add_right ..)
      have n1i : (((8 + a + i) / 8 : Nat) : Int) < (x.length : Int) := Int.ofNat_lt.2 n1'
      have hb8 : isByte (x.getD ((8 + a + i) / 8) 0) := by
        rw [List.getD_eq_getElem?_getD, List.getElem?_eq_getElem n1']
        exact h.byt _ (List.getElem_mem _)
      have tb := turn_bit16 (x.getD ((8 + a + i) / 8) 0) (7 - (8 + a + i) % 8) hb8 n2
      have hlk := look_bit16 B i hB hi16
      have hu : wr .u64 (i : Int) = (i : Int) := wu64 (Int.natCast_nonneg _) i64
      have e8 : (!eqI 8 0) = true := by rw [eqI_neg (by decide)]; rfl
      have ws := w64s i63
      have hu7 : (0 : Int) ≤ wr .u64 ((7 - (8 + a + i) % 8 : Nat) : Int) := Int.emod_nonneg _ (by decide)
      rw [if_pos (ltI_pos h80i), if_pos (leI_pos (by rw [hu]; exact Int.natCast_nonneg _)), hlk, t1, t2, w1, w2, Int.toNat_natCast]
      by_cases hbit : B / 2 ^ i % 2 = 1
      · rw [hbit, if_pos (eqI_pos (show ((1 : Nat) : Int) = 1 from rfl)), if_pos e8, if_pos (leI_pos (Int.natCast_nonneg _)), if_pos (ltI_pos n1i), if_pos e8, if_pos (leI_pos hu7), if_pos (leI_pos (Int.natCast_nonneg _)), if_pos (ltI_pos n1i), tb]
        simp only [m6F24, m6X24, ws]
        have hf := h.one hbit n3 hi16 l11
        have := ih (i + 1) m _ g1 g2 g3 hf
        have ht : decide (B % 2 ^ (i + 1) ≠ 0) = true := by
          rw [decide_eq_true_eq, bit_more16, hbit, Nat.mul_one]
          exact Nat.ne_of_gt (Nat.lt_of_lt_of_le (Nat.two_pow_pos i) (Nat.le_add_left ..))
        rw [ht] at this
        exact this
      · have hbit0 : B / 2 ^ i % 2 = 0 := (Nat.mod_two_eq_zero_or_one _).resolve_right hbit
        have c : ¬ (eqI ((B / 2 ^ i % 2 : Nat) : Int) 1 = true) := by rw [hbit0, eqI_neg (by decide)]; simp
        rw [if_neg c]
        simp only [m6F24, m6X24, ws]
        have := ih (i + 1) m _ g1 g2 g3 (h.skip hbit0)
        have ht : decide (B % 2 ^ (i + 1) ≠ 0) = decide (B % 2 ^ i ≠ 0) := by rw [bit_more16, hbit0, Nat.mul_zero, Nat.add_zero]
        rw [ht] at this
        exact this
    · have c : ¬ (ltI ((a + i : Nat) : Int) 80 = true) := by rw [ltI_neg (by omega)]; simp
      rw [if_neg c]
      exact heads_end k hk s r f y hy hbad x a i B (by omega) h

open Crc in
theorem dataHeads (p : Int × (Int × (Int × List Int))) (at_ bits : Int) (wp : WfK (.pair (.int .i64) (.pair (.int .i64) (.pair (.int .i64) (.row (.int .u8))))) p) (wa : (Lit.int .i64 at_).wf = true) (wb : (Lit.int .u16 bits).wf = true) : ∃ k, m6F k p at_ bits = some true := by
  refine ⟨6000, ?_⟩
  obtain ⟨s, r, f, y⟩ := p
  have hy := bytes_wf wp.2.2.2
  have hw := wakes14 6000 (by decide)
  have hb : 0 ≤ bits ∧ bits < 65536 := by
    have h1 : IntKind.u16.min ≤ bits ∧ bits ≤ IntKind.u16.max := by simpa [Lit.wf] using wb
    have e0 : IntKind.u16.min = 0 := rfl
    have e1 : IntKind.u16.max = 65535 := rfl
    omega
  simp only [m6F, m6X]
  by_cases l1 : (200 : Int) < (y.length : Int)
  · rw [if_pos (ltI_pos l1)]
  by_cases l2 : bits = 0
  · rw [if_neg (by rw [ltI_neg l1]; simp), if_pos (eqI_pos l2)]
  rw [if_neg (by rw [ltI_neg l1]; simp), if_neg (by rw [eqI_neg l2]; simp)]
  by_cases h : datBad s r f y.length = 0
  · have hlen := datPack_length s r f y
    have z0 : (!eqI (0 : Int) 0) = false := by rw [eqI_pos rfl]; rfl
    have zl : (!eqI ((datPack s r f y).length : Int) (wr .i64 (11 + (y.length : Int)))) = false := by
      rw [w64 (by omega) (by omega), eqI_pos (by omega)]
      rfl
    have e80 : (!eqI 80 0) = true := by rw [eqI_neg (by decide)]; rfl
    obtain ⟨a, ha, ea⟩ := umod0 at_ 80 (by decide)
    have ea' : wr .i64 (Int.tmod (wr .u64 at_) 80) = (a : Int) := by
      have : Int.tmod (wr .u64 at_) 80 = (a : Int) := ea
      rw [this]
      exact w64n (by omega)
    obtain ⟨B, rfl⟩ := Int.eq_ofNat_of_zero_le hb.1
    have hB : B < 65536 := by clear zl ea' ea; omega
    rw [datMake_eq 6000 (by decide) s r f y h, Option.bind_some]
    simp only [z0, zl, Bool.false_eq_true, if_false, e80, if_true, ea']
    have := heads_loop 6000 (by decide) s r f y hy h a B ha hB 16 0 6000 (datPack s r f y) rfl (by decide) (Nat.le_of_lt ha) (Flip16.zero (datPack_bytes s r f y hy))
    have hz : decide (B % 2 ^ 0 ≠ 0) = false := by rw [Nat.pow_zero, Nat.mod_one]; rfl
    rw [hz] at this
    exact this
  · rw [datMake_bad 6000 s r f y h, Option.bind_some]
    simp [eqI_eq, h, hw]

end Go.Proofs.Ytnhghopkbbdebaa.Mini
