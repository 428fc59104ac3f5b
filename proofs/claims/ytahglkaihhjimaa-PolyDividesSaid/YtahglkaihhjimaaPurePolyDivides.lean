/- What was divided is quotient times divisor, and rest; the rest is less; a multiple has none, and one more than it has that: a plain law. -/
import Derived.Test.YtahglkaihhjimaaPL
import Derived.Test.YtahglkaihhjimaaMPolyDivides
set_option linter.unusedVariables false
namespace Go.Proofs.Ytahglkaihhjimaa.Mini
open Go Go.RowKit Go.Proofs Gf

theorem div_lt (l : List Int) (hl : l.length ≤ 120) : val (bitsL l) < 2 ^ 120 := Nat.lt_of_lt_of_le (val_lt _ (bitsL_bit l)) (by rw [bitsL_len]; exact Nat.pow_le_pow_right (by decide) hl)
theorem div_lens (q M C : Nat) (hq : q < 2 ^ 120) (hM : M < 2 ^ 120) (hC : C < 2 ^ 120) : (rowOf q).length ≤ 1500 ∧ (rowOf (cm q M)).length ≤ 1500 ∧ (rowOf (cm q M ^^^ C)).length ≤ 1500 := by
  have h0 : (rowOf q).length ≤ 120 := rowOf_len hq
  have h2 : (rowOf (cm q M)).length ≤ 239 := rowOf_len (cm_lt (m := 120) (n := 119) hq hM)
  have h3 : (rowOf (cm q M ^^^ C)).length ≤ 239 := rowOf_len (Nat.xor_lt_two_pow (cm_lt (m := 120) (n := 119) hq hM) (Nat.lt_trans hC (Nat.pow_lt_pow_right (by decide) (by decide))))
  clear hq hM hC
  refine ⟨?_, ?_, ?_⟩ <;> omega
theorem le50 {n : Nat} (h : n ≤ 1500) : n ≤ 5000 := by omega
theorem le20 {n : Nat} (h : n ≤ 1500) : n ≤ 2000 := by omega
theorem rest_len {r M : Nat} (h : r < 2 ^ ((rowOf M).length - 1)) (hM : M ≠ 0) : leI ((rowOf M).length : Int) ((rowOf r).length : Int) = false := by
  have h1 := rowOf_len h
  obtain ⟨h2, _⟩ := rowOf_len_iff hM
  clear h
  exact leI_neg (by omega)
theorem polyDivides (a b c : List Int) (wa : WfK (.row (.int .i64)) a) (wb : WfK (.row (.int .i64)) b) (wc : WfK (.row (.int .i64)) c) : ∃ k, m5F k a b c = some true := by
  refine ⟨6000, ?_⟩
  have hk : 5001 ≤ 6000 := by decide
  have hz : ∀ z : Int, (!eqI z z) = false := fun z => by rw [eqI_pos rfl]; rfl
  have e0 : ∀ z : Int, eqI z z = true := fun z => eqI_pos rfl
  have z0 : eqI (([] : List Int).length : Int) 0 = true := e0 0
  simp only [m5F, m5X]
  by_cases la : a.length ≤ 120
  · rw [if_neg (show ¬ (ltI 120 (a.length : Int) = true) by rw [ltI_neg (by omega)]; simp)]
    by_cases lb : b.length ≤ 120
    · rw [if_neg (show ¬ (ltI 120 (b.length : Int) = true) by rw [ltI_neg (by omega)]; simp)]
      by_cases lc : c.length ≤ 120
      · rw [if_neg (show ¬ (ltI 120 (c.length : Int) = true) by rw [ltI_neg (by omega)]; simp)]
        have s1 := bits02_eq 6000 hk a (by omega)
        have s2 := bits02_eq 6000 hk b (by omega)
        have s3 := bits02_eq 6000 hk c (by omega)
        have n1 : (bitsL a).length ≤ 1500 := by rw [bitsL_len]; omega
        have n2 : (bitsL b).length ≤ 1500 := by rw [bitsL_len]; omega
        have n3 : (bitsL c).length ≤ 1500 := by rw [bitsL_len]; omega
        have n4 : (bitsL a).length ≤ 120 := by rw [bitsL_len]; exact la
        have v2 := div_lt b lb
        have v3 := div_lt c lc
        have v1 := div_lt a la
        have b1 := bitsL_bit a
        have b2 := bitsL_bit b
        have b3 := bitsL_bit c
        generalize bitsL a = x at *
        generalize bitsL b = y at *
        generalize bitsL c = z at *
        have t1 := gfTrim_eq 6000 hk y (le50 n2) b2
        have t2 := refTrim_eq 6000 hk y (le50 n2)
        rw [trim_row b2] at t2
        by_cases hM : val y = 0
        · rw [hM, rowOf_zero] at t1 t2
          simp only [s1, s2, s3, t1, t2, Option.bind_some, hz, z0, Bool.false_eq_true, if_false, if_true, wakes02 6000 hk]
        · obtain ⟨hM1, hM2, _⟩ := rowOf_len_iff hM
          have c0 : eqI ((rowOf (val y)).length : Int) 0 = false := eqI_neg (by clear v1 v2 v3 hM2; omega)
          obtain ⟨q, r, d1, d2, d3, d4⟩ := gfDiv_eq 6000 hk x y n1 n2 b1 b2 hM
          have hq : q < 2 ^ 120 := Nat.lt_of_lt_of_le d4 (Nat.pow_le_pow_right (by decide) n4)
          obtain ⟨l1, l2, l3⟩ := div_lens q (val y) (val z) hq v2 v3
          have lx : (rowOf (val x)).length ≤ 1500 := (div_lens (val x) (val y) (val z) v1 v2 v3).1
          have p1 := gfMul_eq 6000 hk (rowOf q) y (le20 l1) (le20 n2) (rowOf_bit _) b2
          rw [rowOf_val] at p1
          have lr : (rowOf r).length ≤ 1500 := by
            have h1 := rowOf_len d3
            have h2 : (rowOf (val y)).length ≤ 120 := rowOf_len v2
            clear v1 v2 v3 hM2 d2 d3 d4 hq
            omega
          have p2 := gfAdd_eq 6000 hk (rowOf (cm q (val y))) (rowOf r) (le50 l2) (le50 lr) (rowOf_bit _) (rowOf_bit _)
          rw [rowOf_val, rowOf_val, ← d2] at p2
          have p3 := gfTrim_eq 6000 hk x (le50 n1) b1
          have i1 := ints_eq' 6000 hk (rowOf (val x)) (rowOf (val x)) (le50 lx)
          have c1 := rest_len d3 hM
          have p4 := gfDiv_is 6000 hk (rowOf (cm q (val y))) y l2 n2 (rowOf_bit _) b2 hM q 0 (by rw [rowOf_val, Nat.xor_zero]) (Nat.two_pow_pos _)
          obtain ⟨q2, r2, f1, f2, f3, f4⟩ := gfDiv_eq 6000 hk z y n3 n2 b3 b2 hM
          have p5 := gfAdd_eq 6000 hk (rowOf (cm q (val y))) z (le50 l2) (le50 n3) (rowOf_bit _) b3
          rw [rowOf_val] at p5
          have p6 := gfDiv_is 6000 hk (rowOf (cm q (val y) ^^^ val z)) y l3 n2 (rowOf_bit _) b2 hM (q ^^^ q2) r2 (by rw [rowOf_val, f2, cm_xor_left, Nat.xor_assoc]) f3
          have lr2 : (rowOf r2).length ≤ 1500 := by
            have h1 := rowOf_len f3
            have h2 : (rowOf (val y)).length ≤ 120 := rowOf_len v2
            clear v1 v2 v3 hM2 d2 d3 d4 hq f2 f3 f4
            omega
          have i2 := ints_eq' 6000 hk (rowOf r2) (rowOf r2) (le50 lr2)
          simp only [s1, s2, s3, t1, t2, d1, p1, p2, p3, p4, f1, p5, p6, i1, i2, c0, c1, Option.bind_some, hz, e0, z0, rowOf_zero, decide_true, Bool.not_true, Bool.false_eq_true, if_false, if_true, wakes02 6000 hk]
      · rw [if_pos (ltI_pos (by omega))]
    · rw [if_pos (ltI_pos (by omega))]
  · rw [if_pos (ltI_pos (by omega))]

end Go.Proofs.Ytahglkaihhjimaa.Mini
