/- What is trimmed begins with 1, or is nothing; noughts ahead change nothing of sums and products; trimmed twice it is as trimmed: a plain law. -/
import Derived.Test.YtahglkaihhjimaaPL
import Derived.Test.YtahglkaihhjimaaMPolyTrims
set_option linter.unusedVariables false
set_option linter.unusedSimpArgs false
namespace Go.Proofs.Ytahglkaihhjimaa.Mini
open Go Go.RowKit Go.Proofs Gf

theorem trims_lt (l : List Int) (hl : l.length ≤ 120) : val (bitsL l) < 2 ^ 120 := Nat.lt_of_lt_of_le (val_lt _ (bitsL_bit l)) (by rw [bitsL_len]; exact Nat.pow_le_pow_right (by decide) hl)
theorem trims_lens (A B : Nat) (hA : A < 2 ^ 120) (hB : B < 2 ^ 120) : (rowOf A).length ≤ 1500 ∧ (rowOf (A ^^^ B)).length ≤ 1500 ∧ (rowOf (cm A B)).length ≤ 1500 := by
  have h0 : (rowOf A).length ≤ 120 := rowOf_len hA
  have h1 : (rowOf (A ^^^ B)).length ≤ 120 := rowOf_len (Nat.xor_lt_two_pow hA hB)
  have h2 : (rowOf (cm A B)).length ≤ 239 := rowOf_len (cm_lt (m := 120) (n := 119) hA hB)
  clear hA hB
  refine ⟨?_, ?_, ?_⟩ <;> omega
theorem le50 {n : Nat} (h : n ≤ 1500) : n ≤ 5000 := by omega
theorem le20 {n : Nat} (h : n ≤ 1500) : n ≤ 2000 := by omega
theorem val_wide (n : Nat) (l : List Int) (h : ∀ c ∈ l, isBit c) : val (List.replicate n 0 ++ l) = val l := by rw [val_xapp _ _ h, val_zeros, Nat.zero_shiftLeft, Nat.zero_xor]
theorem sum_ar (s i n : Nat) (hs : s ≤ i) (hi : i < n) (hn : n ≤ 5000) : ltI (i : Int) (n : Int) = true ∧ leI 0 (i : Int) = true ∧ wr .i64 ((i : Int) + 1) = ((i + 1 : Nat) : Int) ∧ wr .i64 ((s : Int) + 0) = (s : Int) ∧ wr .i64 ((s : Int) + 1) = ((s + 1 : Nat) : Int) :=
  ⟨ltI_pos (by omega), leI_pos (by omega), w64s (by omega), by rw [w64 (by omega) (by omega)]; omega, w64s (by omega)⟩
theorem val_pos_snoc (l : List Int) (x : Int) (hx : isBit x) : val (l ++ [x]) = 0 ↔ val l = 0 ∧ x = 0 := by
  rw [val_snoc]
  rcases hx with rfl | rfl
  · simp only [Int.toNat_zero, Nat.add_zero, and_true]
    omega
  · simp
theorem sum_loop (k : Nat) (l : List Int) (hl : l.length ≤ 5000) (hb : ∀ c ∈ l, isBit c) (b1 b2 b3 b4 b5 : List Int) : ∀ (rest pre : List Int) (j s : Nat), l = pre ++ rest → rest.length < j → s ≤ pre.length → (s = 0 ↔ val pre = 0) →
    ∃ n : Nat, (n = 0 ↔ val l = 0) ∧ m7F31 k j (s : Int) (pre.length : Int) l b1 b2 b3 b4 b5 = m7F36 k (n : Int) b1 b2 b3 b4 b5 := by
  intro rest
  induction rest with
  | nil =>
    intro pre j s e hj hs hv
    obtain ⟨j, rfl⟩ : ∃ n, j = n + 1 := ⟨j - 1, by omega⟩
    rw [List.append_nil] at e
    subst e
    refine ⟨s, hv, ?_⟩
    simp only [m7F31, m7X31]
    rw [if_neg (by rw [ltI_neg (by omega)]; simp)]
  | cons x rest ih =>
    intro pre j s e hj hs hv
    obtain ⟨j, rfl⟩ : ∃ n, j = n + 1 := ⟨j - 1, by omega⟩
    have hlen : l.length = pre.length + (rest.length + 1) := by rw [e]; simp
    have hx : l.getD (Int.toNat (pre.length : Int)) 0 = x := by rw [e]; exact gd_at pre rest x 0
    have hbx := hb x (by rw [e]; simp)
    have hp := val_pos_snoc pre x hbx
    have hj2 : rest.length < j := by rw [List.length_cons] at hj; omega
    have hs1 : s + 1 ≤ (pre ++ [x]).length := by rw [List.length_append, List.length_singleton]; omega
    have hs0 : s ≤ (pre ++ [x]).length := Nat.le_of_succ_le hs1
    obtain ⟨c1, c2, c3, c4, c5⟩ := sum_ar s pre.length l.length hs (by omega) hl
    have el : (pre ++ [x]).length = pre.length + 1 := by simp
    rcases hbx with rfl | rfl
    · obtain ⟨n, h1, h2⟩ := ih (pre ++ [0]) j s (by rw [e]; simp) hj2 hs0 (by rw [hp, hv]; simp)
      rw [el] at h2
      refine ⟨n, h1, ?_⟩
      simp only [m7F31, m7X31, c1, c2, if_true, hx, c3, c4]
      exact h2
    · obtain ⟨n, h1, h2⟩ := ih (pre ++ [1]) j (s + 1) (by rw [e]; simp) hj2 hs1 (by rw [hp]; simp)
      rw [el] at h2
      refine ⟨n, h1, ?_⟩
      simp only [m7F31, m7X31, c1, c2, if_true, hx, c3, c5]
      exact h2
theorem some_len (n v : Nat) (h : n = 0 ↔ v = 0) : (ltI 0 (n : Int) == ltI 0 ((rowOf v).length : Int)) = true := by
  by_cases hv : v = 0
  · rw [h.2 hv, hv, rowOf_zero]
    rw [ltI_neg (by simp), ltI_neg (by simp)]
    rfl
  · have hn : n ≠ 0 := fun q => hv (h.1 q)
    have h1 := (rowOf_len_iff hv).1
    rw [ltI_pos (by omega), ltI_pos (by omega)]
    rfl
theorem wide_ar (n m : Nat) (hn : n ≤ 20) (hm : m ≤ 120) : wr .i64 (n : Int) = (n : Int) ∧ leI 0 (n : Int) = true ∧ leI (n : Int) (n : Int) = true ∧ leI ((n : Int) * 8) 140737488355328 = true ∧ leI (n : Int) 9223372036854775807 = true ∧ leI (((n + m) * 8 : Nat) : Int) 140737488355328 = true :=
  ⟨w64n (by omega), leI_pos (by omega), leI_pos (by omega), leI_pos (by omega), leI_pos (by omega), leI_pos (by omega)⟩
theorem polyTrims (a b : List Int) (n : Int) (wa : WfK (.row (.int .i64)) a) (wb : WfK (.row (.int .i64)) b) (wn : (Lit.int .i64 n).wf = true) : ∃ k, m7F k a b n = some true := by
  refine ⟨6000, ?_⟩
  have hk : 5001 ≤ 6000 := by decide
  have hz : ∀ z : Int, (!eqI z z) = false := fun z => by rw [eqI_pos rfl]; rfl
  have e0 : ∀ z : Int, eqI z z = true := fun z => eqI_pos rfl
  have e20 : (!eqI 20 0) = true := by rw [eqI_neg (by decide)]; rfl
  simp only [m7F, m7X]
  by_cases la : a.length ≤ 120
  · rw [if_neg (show ¬ (ltI 120 (a.length : Int) = true) by rw [ltI_neg (by omega)]; simp)]
    by_cases lb : b.length ≤ 120
    · rw [if_neg (show ¬ (ltI 120 (b.length : Int) = true) by rw [ltI_neg (by omega)]; simp)]
      have s1 := bits02_eq 6000 hk a (by omega)
      have s2 := bits02_eq 6000 hk b (by omega)
      have n1 : (bitsL a).length ≤ 120 := by rw [bitsL_len]; omega
      have n2 : (bitsL b).length ≤ 1500 := by rw [bitsL_len]; omega
      have v1 := trims_lt a la
      have v2 := trims_lt b lb
      have b1 := bitsL_bit a
      have b2 := bitsL_bit b
      generalize bitsL a = x at *
      generalize bitsL b = y at *
      obtain ⟨m, hm, em⟩ := umod0 n 20 (by decide)
      rw [show ((20 : Nat) : Int) = 20 from rfl] at em
      have hw := val_wide m x b1
      have bw : ∀ c ∈ List.replicate m (0 : Int) ++ x, isBit c := bits_app (zeros_bit m) b1
      have nw : (List.replicate m (0 : Int) ++ x).length ≤ 1500 := by rw [List.length_append, List.length_replicate]; clear v1 v2 em; omega
      have hlw : (List.replicate m (0 : Int)).length = m := List.length_replicate ..
      obtain ⟨l1, l2, l3⟩ := trims_lens (val x) (val y) v1 v2
      have nx : x.length ≤ 1500 := by clear v1 v2 em; omega
      have t1 := gfTrim_eq 6000 hk (List.replicate m 0 ++ x) (le50 nw) bw
      have t2 := gfTrim_eq 6000 hk (rowOf (val x)) (le50 l1) (rowOf_bit _)
      have t3 := gfAdd_eq 6000 hk (List.replicate m 0 ++ x) y (le50 nw) (le50 n2) bw b2
      have t4 := gfAdd_eq 6000 hk x y (le50 nx) (le50 n2) b1 b2
      have t5 := gfMul_eq 6000 hk (List.replicate m 0 ++ x) y (le20 nw) (le20 n2) bw b2
      have t6 := gfMul_eq 6000 hk (rowOf (val x)) y (le20 l1) (le20 n2) (rowOf_bit _) b2
      rw [hw] at t1 t3 t5
      rw [rowOf_val] at t2 t6
      have i1 := ints_eq' 6000 hk (rowOf (val x)) (rowOf (val x)) (le50 l1)
      have i2 := ints_eq' 6000 hk (rowOf (val x ^^^ val y)) (rowOf (val x ^^^ val y)) (le50 l2)
      have i3 := ints_eq' 6000 hk (rowOf (cm (val x) (val y))) (rowOf (cm (val x) (val y))) (le50 l3)
      have hn5 : x.length ≤ 5000 := le50 nx
      obtain ⟨s, h1, h2⟩ := sum_loop 6000 x hn5 b1 (rowOf (val x)) (rowOf (val x ^^^ val y)) (rowOf (val x ^^^ val y)) (rowOf (cm (val x) (val y))) (rowOf (cm (val x) (val y))) x [] 6000 0 rfl (Nat.lt_of_le_of_lt hn5 (by decide)) (Nat.le_refl _) (by rw [val_nil])
      have h3 := some_len s (val x) h1
      have fin : m7F31 6000 6000 0 0 x (rowOf (val x)) (rowOf (val x ^^^ val y)) (rowOf (val x ^^^ val y)) (rowOf (cm (val x) (val y))) (rowOf (cm (val x) (val y))) = some true := by
        refine Eq.trans h2 ?_
        simp only [m7F36, m7X36, h3, if_true, i2, i3, decide_true, Option.bind_some, wakes02 6000 hk]
      obtain ⟨a1, a2, a3, a4, a5, a6⟩ := wide_ar m x.length (Nat.le_of_lt hm) n1
      simp only [s1, s2, Option.bind_some, e20, if_true, em, a1, a2, a3, a4, a5, a6, Int.toNat_natCast, hlw, t1, t2, t3, t4, t5, t6, hz, Bool.false_eq_true, if_false, i1, decide_true, Bool.not_true, fin]
      by_cases hx : val x = 0
      · rw [if_neg (by rw [hx, rowOf_zero, ltI_neg (by simp)]; simp)]
      · obtain ⟨r, hr⟩ := rowOf_cons hx
        have c1 : ltI 0 ((rowOf (val x)).length : Int) = true := by rw [hr, List.length_cons]; exact ltI_pos (by omega)
        have c2 : leI 0 0 = true := leI_pos (by decide)
        have c3 : (rowOf (val x)).getD 0 0 = 1 := by rw [hr]; rfl
        simp only [c1, c2, c3, if_true, hz, Bool.false_eq_true, if_false]
    · rw [if_pos (ltI_pos (by omega))]
  · rw [if_pos (ltI_pos (by omega))]

end Go.Proofs.Ytahglkaihhjimaa.Mini
