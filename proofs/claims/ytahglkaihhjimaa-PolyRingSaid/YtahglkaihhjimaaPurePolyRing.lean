/- Sums and products hang on no order; products go by parts; a sum with itself is 0: a plain law. -/
import Derived.Test.YtahglkaihhjimaaPL
import Derived.Test.YtahglkaihhjimaaMPolyRing
set_option linter.unusedVariables false
set_option linter.unusedSimpArgs false
namespace Go.Proofs.Ytahglkaihhjimaa.Mini
open Go Go.RowKit Go.Proofs Gf

theorem ring_lt (l : List Int) (hl : l.length ≤ 120) : val (bitsL l) < 2 ^ 120 := Nat.lt_of_lt_of_le (val_lt _ (bitsL_bit l)) (by rw [bitsL_len]; exact Nat.pow_le_pow_right (by decide) hl)
theorem ring_cl {a b m n : Nat} (ha : a < 2 ^ m) (hb : b < 2 ^ (n + 1)) : (rowOf (cm a b)).length ≤ m + n := rowOf_len (cm_lt ha hb)
theorem ring_lens (A B C : Nat) (hA : A < 2 ^ 120) (hB : B < 2 ^ 120) (hC : C < 2 ^ 120) : (rowOf (A ^^^ B)).length ≤ 2000 ∧ (rowOf (cm A B)).length ≤ 2000 ∧ (rowOf (cm A C)).length ≤ 2000 ∧ (rowOf (cm B C)).length ≤ 2000 ∧ (rowOf (cm (A ^^^ B) C)).length ≤ 2000 ∧ (rowOf (cm (cm A B) C)).length ≤ 2000 := by
  have h1 : (rowOf (A ^^^ B)).length ≤ 120 := rowOf_len (Nat.xor_lt_two_pow hA hB)
  have h2 : (rowOf (cm A B)).length ≤ 239 := rowOf_len (cm_lt (m := 120) (n := 119) hA hB)
  have h3 : (rowOf (cm A C)).length ≤ 239 := rowOf_len (cm_lt (m := 120) (n := 119) hA hC)
  have h4 : (rowOf (cm B C)).length ≤ 239 := rowOf_len (cm_lt (m := 120) (n := 119) hB hC)
  have h5 : (rowOf (cm (A ^^^ B) C)).length ≤ 239 := rowOf_len (cm_lt (m := 120) (n := 119) (Nat.xor_lt_two_pow hA hB) hC)
  have h6 : (rowOf (cm (cm A B) C)).length ≤ 239 + 119 := ring_cl (cm_lt (m := 120) (n := 119) hA hB) hC
  clear hA hB hC
  refine ⟨?_, ?_, ?_, ?_, ?_, ?_⟩ <;> omega
theorem le5 {n : Nat} (h : n ≤ 2000) : n ≤ 5000 := by omega
theorem polyRing (a b c : List Int) (wa : WfK (.row (.int .i64)) a) (wb : WfK (.row (.int .i64)) b) (wc : WfK (.row (.int .i64)) c) : ∃ k, m3F k a b c = some true := by
  refine ⟨6000, ?_⟩
  have hk : 5001 ≤ 6000 := by decide
  have hz : ∀ z : Int, (!eqI z z) = false := fun z => by rw [eqI_pos rfl]; rfl
  have e0 : ∀ z : Int, eqI z z = true := fun z => eqI_pos rfl
  have z0 : (!eqI (([] : List Int).length : Int) 0) = false := hz 0
  simp only [m3F, m3X]
  by_cases la : a.length ≤ 120
  · rw [if_neg (show ¬ (ltI 120 (a.length : Int) = true) by rw [ltI_neg (by omega)]; simp)]
    by_cases lb : b.length ≤ 120
    · rw [if_neg (show ¬ (ltI 120 (b.length : Int) = true) by rw [ltI_neg (by omega)]; simp)]
      by_cases lc : c.length ≤ 120
      · rw [if_neg (show ¬ (ltI 120 (c.length : Int) = true) by rw [ltI_neg (by omega)]; simp)]
        have s1 := bits02_eq 6000 hk a (by omega)
        have s2 := bits02_eq 6000 hk b (by omega)
        have s3 := bits02_eq 6000 hk c (by omega)
        have n1 : (bitsL a).length ≤ 2000 := by rw [bitsL_len]; omega
        have n2 : (bitsL b).length ≤ 2000 := by rw [bitsL_len]; omega
        have n3 : (bitsL c).length ≤ 2000 := by rw [bitsL_len]; omega
        obtain ⟨m1, m2, m3, m4, m5, m6⟩ := ring_lens _ _ _ (ring_lt a la) (ring_lt b lb) (ring_lt c lc)
        have b1 := bitsL_bit a
        have b2 := bitsL_bit b
        have b3 := bitsL_bit c
        generalize bitsL a = x at *
        generalize bitsL b = y at *
        generalize bitsL c = z at *
        have a1 := gfAdd_eq 6000 hk x y (le5 n1) (le5 n2) b1 b2
        have a2 := gfAdd_eq 6000 hk y x (le5 n2) (le5 n1) b2 b1
        rw [Nat.xor_comm (val y)] at a2
        have a3 := gfMul_eq 6000 hk x y n1 n2 b1 b2
        have a4 := gfMul_eq 6000 hk y x n2 n1 b2 b1
        rw [cm_comm (val y)] at a4
        have a5 := gfAdd_eq 6000 hk x x (le5 n1) (le5 n1) b1 b1
        rw [Nat.xor_self, rowOf_zero] at a5
        have i1 := ints_eq' 6000 hk (rowOf (val x ^^^ val y)) (rowOf (val x ^^^ val y)) (le5 m1)
        have i2 := ints_eq' 6000 hk (rowOf (cm (val x) (val y))) (rowOf (cm (val x) (val y))) (le5 m2)
        have a6 := gfMul_eq 6000 hk (rowOf (val x ^^^ val y)) z m1 n3 (rowOf_bit _) b3
        have a7 := gfMul_eq 6000 hk x z n1 n3 b1 b3
        have a8 := gfMul_eq 6000 hk y z n2 n3 b2 b3
        have a9 := gfAdd_eq 6000 hk (rowOf (cm (val x) (val z))) (rowOf (cm (val y) (val z))) (le5 m3) (le5 m4) (rowOf_bit _) (rowOf_bit _)
        have a10 := gfMul_eq 6000 hk (rowOf (cm (val x) (val y))) z m2 n3 (rowOf_bit _) b3
        have a11 := gfMul_eq 6000 hk x (rowOf (cm (val y) (val z))) n1 m4 b1 (rowOf_bit _)
        rw [rowOf_val] at a6 a10 a11
        rw [rowOf_val, rowOf_val, ← cm_xor_left] at a9
        rw [← cm_assoc] at a11
        have i3 := ints_eq' 6000 hk (rowOf (cm (val x ^^^ val y) (val z))) (rowOf (cm (val x ^^^ val y) (val z))) (le5 m5)
        have i4 := ints_eq' 6000 hk (rowOf (cm (cm (val x) (val y)) (val z))) (rowOf (cm (cm (val x) (val y)) (val z))) (le5 m6)
        simp only [s1, s2, s3, a1, a2, a3, a4, a5, a6, a7, a8, a9, a10, a11, i1, i2, i3, i4, Option.bind_some, hz, e0, z0, decide_true, Bool.not_true, Bool.false_eq_true, if_false, if_true, wakes02 6000 hk]
      · rw [if_pos (ltI_pos (by omega))]
    · rw [if_pos (ltI_pos (by omega))]
  · rw [if_pos (ltI_pos (by omega))]

end Go.Proofs.Ytahglkaihhjimaa.Mini
