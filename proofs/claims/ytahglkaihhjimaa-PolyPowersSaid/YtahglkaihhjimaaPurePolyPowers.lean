/- A product with a power of x is the row with so many noughts behind; divided by it, the quotient is what it was, the rest what stood behind: a plain law. -/
import Derived.Test.YtahglkaihhjimaaPL
import Derived.Test.YtahglkaihhjimaaMPolyPowers
set_option linter.unusedVariables false
namespace Go.Proofs.Ytahglkaihhjimaa.Mini
open Go Go.RowKit Go.Proofs Gf

theorem pow_lt (l : List Int) (hl : l.length ≤ 120) (hb : ∀ c ∈ l, isBit c) : val l < 2 ^ 120 := Nat.lt_of_lt_of_le (val_lt _ hb) (Nat.pow_le_pow_right (by decide) hl)
theorem le50 {n : Nat} (h : n ≤ 1500) : n ≤ 5000 := by omega
theorem le20 {n : Nat} (h : n ≤ 1500) : n ≤ 2000 := by omega
/-- The power's row. -/
theorem powRow (m : Nat) : List.set (List.replicate (m + 1) (0 : Int)) 0 1 = 1 :: List.replicate m 0 := by rw [List.replicate_succ]; rfl
theorem powRow_bit (m : Nat) : ∀ c ∈ 1 :: List.replicate m (0 : Int), isBit c := fun c hc => by
  rcases List.mem_cons.1 hc with rfl | hc
  · exact .inr rfl
  · exact zeros_bit m c hc
theorem powRow_val (m : Nat) : val (1 :: List.replicate m 0) = 2 ^ m := by
  rw [val_cons, val_zeros, List.length_replicate]
  simp
theorem powRow_row (m : Nat) : rowOf (2 ^ m) = 1 :: List.replicate m 0 := by
  have := rowOf_self (powRow_bit m) (.inr ⟨_, rfl⟩)
  rw [powRow_val] at this
  exact this.symm
theorem shl_row (A m : Nat) : rowOf (A <<< m) = if A = 0 then [] else rowOf A ++ List.replicate m 0 := by
  by_cases h : A = 0
  · rw [if_pos h, h, Nat.zero_shiftLeft, rowOf_zero]
  · rw [if_neg h]
    have hb : ∀ c ∈ rowOf A ++ List.replicate m (0 : Int), isBit c := bits_app (rowOf_bit A) (zeros_bit m)
    obtain ⟨r, hr⟩ := rowOf_cons h
    have := rowOf_self hb (.inr ⟨r ++ List.replicate m 0, by rw [hr]; rfl⟩)
    rw [val_xapp _ _ (zeros_bit m), val_zeros, rowOf_val, List.length_replicate, Nat.xor_zero] at this
    exact this.symm
theorem pow_ar (m i n : Nat) (hm : m ≤ 40) (hi : i < m) (hn : n ≤ 1500) (hn0 : 0 < n) : ltI (i : Int) (m : Int) = true ∧ ltI 0 (n : Int) = true ∧ leI (((n + i + 1) * 8 : Nat) : Int) 140737488355328 = true ∧ wr .i64 ((i : Int) + 1) = ((i + 1 : Nat) : Int) := ⟨ltI_pos (by omega), ltI_pos (by omega), leI_pos (by omega), w64s (by omega)⟩
theorem pow_loop (k : Nat) (t1 x b1 t : List Int) (m : Nat) (hm : m ≤ 40) (ht : t.length ≤ 1500) (ht0 : 0 < t.length) : ∀ (n j i : Nat), i + n = m → n < j → m6F31 k j t1 (m : Int) (i : Int) x b1 t (t ++ List.replicate i 0) = m6F36 k t1 x b1 t (t ++ List.replicate m 0) := by
  intro n
  induction n with
  | zero =>
    intro j i h hj
    obtain ⟨j, rfl⟩ : ∃ n, j = n + 1 := ⟨j - 1, by omega⟩
    obtain rfl : i = m := by omega
    simp only [m6F31, m6X31]
    rw [if_neg (by rw [ltI_neg (by omega)]; simp)]
  | succ n ih =>
    intro j i h hj
    obtain ⟨j, rfl⟩ : ∃ n, j = n + 1 := ⟨j - 1, by omega⟩
    obtain ⟨c1, c2, c3, c4⟩ := pow_ar m i t.length hm (by omega) ht ht0
    have := ih j (i + 1) (by omega) (by omega)
    have e : t ++ List.replicate i (0 : Int) ++ [0] = t ++ List.replicate (i + 1) 0 := by rw [List.append_assoc, List.replicate_succ']
    have el : (t ++ List.replicate i (0 : Int)).length = t.length + i := by rw [List.length_append, List.length_replicate]
    simp only [m6F31, m6X31, c1, c2, if_true, el, c3, c4, one_set, e]
    exact this
theorem pow_fin (k : Nat) (hk : 5001 ≤ k) (t1 : List Int) (A m : Nat) (hm : m ≤ 40) (hl : t1.length ≤ m) (hb : ∀ c ∈ t1, isBit c) (hA : A < 2 ^ 120) : m6F36 k t1 (1 :: List.replicate m 0) (rowOf (A <<< m)) (rowOf A) (rowOf (A <<< m)) = some true := by
  have e0 : ∀ z : Int, eqI z z = true := fun z => eqI_pos rfl
  have l0 : (rowOf A).length ≤ 1500 := Nat.le_trans (rowOf_len hA) (by decide)
  have l1 : (rowOf (A <<< m)).length ≤ 1500 := Nat.le_trans (rowOf_len (shl_lt hA)) (by omega)
  have hL : val t1 < 2 ^ m := Nat.lt_of_lt_of_le (val_lt t1 hb) (Nat.pow_le_pow_right (by decide) hl)
  have l2 : (rowOf (A <<< m ^^^ val t1)).length ≤ 1500 := Nat.le_trans (rowOf_len (n := 120 + m) (Nat.xor_lt_two_pow (shl_lt hA) (Nat.lt_of_lt_of_le hL (Nat.pow_le_pow_right (by decide) (Nat.le_add_left m 120))))) (by omega)
  have l3 : (rowOf (val t1)).length ≤ 1500 := Nat.le_trans (rowOf_len hL) (by omega)
  have n1 : t1.length ≤ 1500 := by omega
  have n2 : (1 :: List.replicate m (0 : Int)).length ≤ 1500 := by rw [List.length_cons, List.length_replicate]; omega
  have p1 := gfAdd_eq k hk (rowOf (A <<< m)) t1 (le50 l1) (le50 n1) (rowOf_bit _) hb
  rw [rowOf_val] at p1
  have hv := powRow_val m
  have hr := powRow_row m
  have p2 := gfDiv_is k hk (rowOf (A <<< m ^^^ val t1)) (1 :: List.replicate m 0) l2 n2 (rowOf_bit _) (powRow_bit m) (by rw [hv]; exact Nat.ne_of_gt (Nat.two_pow_pos m)) A (val t1) (by rw [rowOf_val, hv, cm_pow_right]) (by
    rw [hv, hr, List.length_cons, List.length_replicate]
    exact hL)
  have p3 := gfTrim_eq k hk t1 (le50 n1) hb
  have i1 := ints_eq' k hk (rowOf (A <<< m)) (rowOf (A <<< m)) (le50 l1)
  have i2 := ints_eq' k hk (rowOf A) (rowOf A) (le50 l0)
  have i3 := ints_eq' k hk (rowOf (val t1)) (rowOf (val t1)) (le50 l3)
  simp only [m6F36, m6X36, p1, p2, p3, i1, i2, i3, Option.bind_some, e0, if_true, decide_true, wakes02 k hk]
theorem pow14_ar (m : Nat) (hm : m ≤ 40) : wr .i64 ((m : Int) + 1) = ((m + 1 : Nat) : Int) ∧ leI 0 ((m + 1 : Nat) : Int) = true ∧ leI ((m + 1 : Nat) : Int) ((m + 1 : Nat) : Int) = true ∧ leI (((m + 1 : Nat) : Int) * 8) 140737488355328 = true ∧ leI ((m + 1 : Nat) : Int) 9223372036854775807 = true ∧ leI 0 0 = true ∧ ltI 0 ((m + 1 : Nat) : Int) = true :=
  ⟨w64s (by omega), leI_pos (by omega), leI_pos (by omega), leI_pos (by omega), leI_pos (by omega), leI_pos (by decide), ltI_pos (by omega)⟩
theorem pow14 (k : Nat) (hk : 5001 ≤ k) (t1 b0 : List Int) (m : Nat) (hm : m ≤ 40) (hl : t1.length ≤ m) (hb : ∀ c ∈ t1, isBit c) (hl0 : b0.length ≤ 120) (hb0 : ∀ c ∈ b0, isBit c) : m6F14 k t1 (m : Int) b0 = some true := by
  have hz : ∀ z : Int, (!eqI z z) = false := fun z => by rw [eqI_pos rfl]; rfl
  have hA := pow_lt b0 hl0 hb0
  have n2 : (1 :: List.replicate m (0 : Int)).length ≤ 1500 := by rw [List.length_cons, List.length_replicate]; omega
  have n1 : b0.length ≤ 1500 := by omega
  have p1 := gfMul_eq k hk b0 (1 :: List.replicate m 0) (le20 n1) (le20 n2) hb0 (powRow_bit m)
  rw [powRow_val, cm_pow_right] at p1
  have p2 := gfTrim_eq k hk b0 (le50 n1) hb0
  have l0 : (rowOf (val b0)).length ≤ 1500 := Nat.le_trans (rowOf_len hA) (by decide)
  have p3 := twinInts02 k (rowOf (val b0)) (le50 l0)
  have fin := pow_fin k hk t1 (val b0) m hm hl hb hA
  have lp : m6F31 k k t1 (m : Int) 0 (1 :: List.replicate m 0) (rowOf (val b0 <<< m)) (rowOf (val b0)) (rowOf (val b0)) = some true := by
    have hs := shl_row (val b0) m
    by_cases h0 : val b0 = 0
    · rw [if_pos h0] at hs
      rw [hs, h0, rowOf_zero] at fin
      rw [hs, h0, rowOf_zero]
      have hk2 : ∃ j, k = j + 1 := ⟨k - 1, by clear hA; omega⟩
      have hgen : ∀ j, m6F31 k (j + 1) t1 (m : Int) 0 (1 :: List.replicate m 0) [] [] [] = some true := by
        intro j
        have c1 : ltI 0 (([] : List Int).length : Int) = false := ltI_neg (by simp)
        simp only [m6F31, m6X31, c1, Bool.false_eq_true, if_false, fin]
        split <;> rfl
      obtain ⟨j, hj⟩ := hk2
      have := hgen j
      rw [← hj] at this
      exact this
    · rw [if_neg h0] at hs
      have ht0 := (rowOf_len_iff h0).1
      have := pow_loop k t1 (1 :: List.replicate m 0) (rowOf (val b0 <<< m)) (rowOf (val b0)) m hm l0 ht0 m k 0 (Nat.zero_add m) (by clear hA; omega)
      rw [← hs] at this
      rw [show rowOf (val b0) ++ List.replicate 0 (0 : Int) = rowOf (val b0) from List.append_nil _] at this
      exact this.trans fin
  obtain ⟨a1, a2, a3, a4, a5, a6, a7⟩ := pow14_ar m hm
  have hlr : ((List.replicate (m + 1) (0 : Int)).length : Int) = ((m + 1 : Nat) : Int) := by rw [List.length_replicate]
  simp only [m6F14, m6X14, a1, a2, a3, a4, a5, a6, if_true, Int.toNat_natCast, hlr, a7, powRow, p1, p2, Option.bind_some, hz, Bool.false_eq_true, if_false, p3, lp]
theorem cut_ar (m n : Nat) (hm : m < 40) : wr .i64 (m : Int) = (m : Int) ∧ leI 0 (m : Int) = true ∧ (m < n → ltI (m : Int) (n : Int) = true ∧ leI (m : Int) (n : Int) = true) ∧ (¬ m < n → ltI (m : Int) (n : Int) = false) :=
  ⟨w64n (by omega), leI_pos (by omega), fun h => ⟨ltI_pos (by omega), leI_pos (by omega)⟩, fun h => ltI_neg (by omega)⟩
theorem polyPowers (a b : List Int) (n : Int) (wa : WfK (.row (.int .i64)) a) (wb : WfK (.row (.int .i64)) b) (wn : (Lit.int .i64 n).wf = true) : ∃ k, m6F k a b n = some true := by
  refine ⟨6000, ?_⟩
  have hk : 5001 ≤ 6000 := by decide
  have e40 : (!eqI 40 0) = true := by rw [eqI_neg (by decide)]; rfl
  simp only [m6F, m6X]
  by_cases la : a.length ≤ 120
  · rw [if_neg (show ¬ (ltI 120 (a.length : Int) = true) by rw [ltI_neg (by omega)]; simp)]
    by_cases lb : b.length ≤ 120
    · rw [if_neg (show ¬ (ltI 120 (b.length : Int) = true) by rw [ltI_neg (by omega)]; simp)]
      have s1 := bits02_eq 6000 hk a (by omega)
      have s2 := bits02_eq 6000 hk b (by omega)
      have n1 : (bitsL a).length ≤ 120 := by rw [bitsL_len]; omega
      have b1 := bitsL_bit a
      have b2 := bitsL_bit b
      generalize bitsL a = x at *
      generalize bitsL b = y at *
      obtain ⟨m, hm, em⟩ := umod0 n 40 (by decide)
      rw [show ((40 : Nat) : Int) = 40 from rfl] at em
      obtain ⟨a1, a2, a3, a4⟩ := cut_ar m y.length hm
      have h40 := Nat.le_of_lt hm
      by_cases h : m < y.length
      · obtain ⟨a5, a6⟩ := a3 h
        have f := pow14 6000 hk (y.take m) x m h40 (by rw [List.length_take]; exact Nat.min_le_left ..) (fun c hc => b2 c (List.mem_of_mem_take hc)) n1 b1
        simp only [s1, s2, Option.bind_some, e40, if_true, em, a1, a2, a5, a6, Int.toNat_natCast, List.drop_zero, f]
      · have f := pow14 6000 hk y x m h40 (Nat.not_lt.1 h) b2 n1 b1
        simp only [s1, s2, Option.bind_some, e40, if_true, em, a1, a4 h, Bool.false_eq_true, if_false, f]
    · rw [if_pos (ltI_pos (by omega))]
  · rw [if_pos (ltI_pos (by omega))]

end Go.Proofs.Ytahglkaihhjimaa.Mini
