/- What is trimmed, added, multiplied, divided, of any rows, is the page's: a plain law. -/
import Derived.Test.YtahglkaihhjimaaPL
import Derived.Test.YtahglkaihhjimaaMPolyExact
set_option linter.unusedVariables false
set_option linter.unusedSimpArgs false
namespace Go.Proofs.Ytahglkaihhjimaa.Mini
open Go Go.RowKit Go.Proofs Gf

theorem le50 {n : Nat} (h : n ≤ 1500) : n ≤ 5000 := by omega
theorem le20 {n : Nat} (h : n ≤ 1500) : n ≤ 2000 := by omega
theorem bit_of {l : List Int} (h : l.any badBit = false) : ∀ c ∈ l, isBit c := fun c hc => by
  have h1 := List.any_eq_false.1 h c hc
  apply Classical.byContradiction
  intro hn
  exact h1 (badBit_true hn)
theorem exact_lens (A B : Nat) (hA : A < 2 ^ 120) (hB : B < 2 ^ 120) : (rowOf A).length ≤ 1500 ∧ (rowOf (A ^^^ B)).length ≤ 1500 ∧ (rowOf (cm A B)).length ≤ 1500 := by
  have h0 : (rowOf A).length ≤ 120 := rowOf_len hA
  have h1 : (rowOf (A ^^^ B)).length ≤ 120 := rowOf_len (Nat.xor_lt_two_pow hA hB)
  have h2 : (rowOf (cm A B)).length ≤ 239 := rowOf_len (cm_lt (m := 120) (n := 119) hA hB)
  clear hA hB
  refine ⟨?_, ?_, ?_⟩ <;> omega
theorem bad_two (k : Nat) (hk : 5001 ≤ k) (a b : List Int) (ha : a.length ≤ 5000) (hb : b.length ≤ 5000) (h : a.any badBit = true ∨ b.any badBit = true) : m21F k [a, b] = some 1 := by
  rw [wrong_eq k hk [a, b] (by simp) (fun x hx => by
    rcases List.mem_cons.1 hx with rfl | hx
    · exact ha
    · rw [List.mem_singleton.1 hx]
      exact hb)]
  have : anyBad [a, b] = true := by
    unfold anyBad
    rw [List.any_cons, List.any_cons]
    rcases h with h | h <;> rw [h] <;> simp
  rw [this]
  rfl
theorem exact20_bad (k : Nat) (hk : 5001 ≤ k) (a b : List Int) (ha : a.length ≤ 120) (hb : b.length ≤ 120) (h : a.any badBit = true ∨ b.any badBit = true) : m4F20 k a b 1 a b = some true := by
  have hw := bad_two k hk a b (by omega) (by omega) h
  have n10 : (!eqI 1 0) = true := by rw [eqI_neg (by decide)]; rfl
  have e0 : ∀ z : Int, eqI z z = true := fun z => eqI_pos rfl
  have g1 : m9F k a b = some ([], 1) := by simp only [m9F, m9X, rows2, hw, Option.bind_some, n10, if_true]
  have g2 : m10F k a b = some ([], 1) := by simp only [m10F, m10X, rows2, hw, Option.bind_some, n10, if_true]
  have g3 : m17F k a b = some ([], [], 1) := by simp only [m17F, m17X, rows2, hw, Option.bind_some, n10, if_true]
  have i1 := ints_eq' k hk a a (by omega)
  have i2 := ints_eq' k hk b b (by omega)
  have w0 : wr .i64 (wr .i64 (wr .i64 ((([] : List Int).length : Int) + (([] : List Int).length : Int)) + (([] : List Int).length : Int)) + (([] : List Int).length : Int)) = 0 := by decide +kernel
  simp only [m4F20, m4X20, g1, g2, g3, i1, i2, Option.bind_some, decide_true, Bool.not_true, Bool.false_eq_true, if_false, n10, e0, if_true, w0, wakes02 k hk]
theorem exact20_good (k : Nat) (hk : 5001 ≤ k) (a b : List Int) (ha : a.length ≤ 120) (hb : b.length ≤ 120) (h1 : ∀ c ∈ a, isBit c) (h2 : ∀ c ∈ b, isBit c) : m4F20 k a b 0 a b = some true := by
  have hz : ∀ z : Int, (!eqI z z) = false := fun z => by rw [eqI_pos rfl]; rfl
  have e0 : ∀ z : Int, eqI z z = true := fun z => eqI_pos rfl
  have va : val a < 2 ^ 120 := Nat.lt_of_lt_of_le (val_lt _ h1) (Nat.pow_le_pow_right (by decide) ha)
  have vb : val b < 2 ^ 120 := Nat.lt_of_lt_of_le (val_lt _ h2) (Nat.pow_le_pow_right (by decide) hb)
  have na : a.length ≤ 1500 := by clear va vb; omega
  have nb : b.length ≤ 1500 := by clear va vb; omega
  obtain ⟨l1, l2, l3⟩ := exact_lens (val a) (val b) va vb
  have g1 := gfAdd_eq k hk a b (le50 na) (le50 nb) h1 h2
  have g2 := gfMul_eq k hk a b (le20 na) (le20 nb) h1 h2
  have r1 := refAdd_eq k hk a b (le20 na) (le20 nb) h1 h2
  have r2 := refMul_eq k hk a b (le20 na) (le20 nb) h1 h2
  have t2 := refTrim_eq k hk b (le50 nb)
  rw [trim_row h2] at t2
  have i1 := ints_eq' k hk a a (le50 na)
  have i2 := ints_eq' k hk b b (le50 nb)
  have i3 := ints_eq' k hk (rowOf (val a ^^^ val b)) (rowOf (val a ^^^ val b)) (le50 l2)
  have i4 := ints_eq' k hk (rowOf (cm (val a) (val b))) (rowOf (cm (val a) (val b))) (le50 l3)
  by_cases hb0 : val b = 0
  · have g3 := gfDiv_zero k hk a b na nb h1 h2 hb0
    rw [hb0, rowOf_zero] at t2
    have w0 : wr .i64 ((([] : List Int).length : Int) + (([] : List Int).length : Int)) = 0 := by decide +kernel
    have c0 : eqI (([] : List Int).length : Int) 0 = true := eqI_pos rfl
    simp only [m4F20, m4X20, g1, g2, g3, r1, r2, t2, i1, i2, i3, i4, Option.bind_some, decide_true, Bool.not_true, Bool.false_eq_true, if_false, hz, e0, if_true, c0, w0, wakes02 k hk]
  · obtain ⟨q, r, d1, d2, d3, d4⟩ := refDiv_eq k hk a b na nb h1 h2 hb0
    have lq : (rowOf q).length ≤ 1500 := Nat.le_trans (rowOf_len d3) na
    have lb : (rowOf (val b)).length ≤ 120 := rowOf_len vb
    have lr : (rowOf r).length ≤ 1500 := Nat.le_trans (rowOf_len d4) (by clear va vb d3 d4; omega)
    have c0 : eqI ((rowOf (val b)).length : Int) 0 = false := by
      have := (rowOf_len_iff hb0).1
      exact eqI_neg (by clear va vb d3 d4; omega)
    have i5 := ints_eq' k hk (rowOf q) (rowOf q) (le50 lq)
    have i6 := ints_eq' k hk (rowOf r) (rowOf r) (le50 lr)
    simp only [m4F20, m4X20, g1, g2, d1, d2, r1, r2, t2, i1, i2, i3, i4, i5, i6, Option.bind_some, decide_true, Bool.not_true, Bool.false_eq_true, if_false, hz, e0, if_true, c0, wakes02 k hk]
theorem polyExact (a b : List Int) (wa : WfK (.row (.int .i64)) a) (wb : WfK (.row (.int .i64)) b) : ∃ k, m4F k a b = some true := by
  refine ⟨6000, ?_⟩
  have hk : 5001 ≤ 6000 := by decide
  have hz : ∀ z : Int, (!eqI z z) = false := fun z => by rw [eqI_pos rfl]; rfl
  have e0 : ∀ z : Int, eqI z z = true := fun z => eqI_pos rfl
  simp only [m4F, m4X]
  by_cases la : a.length ≤ 120
  · rw [if_neg (show ¬ (ltI 120 (a.length : Int) = true) by rw [ltI_neg (by omega)]; simp)]
    by_cases lb : b.length ≤ 120
    · rw [if_neg (show ¬ (ltI 120 (b.length : Int) = true) by rw [ltI_neg (by omega)]; simp)]
      have s1 := twinInts02 6000 a (by omega)
      have s2 := twinInts02 6000 b (by omega)
      have p1 := poly_eq 6000 hk a (by omega)
      have p2 := poly_eq 6000 hk b (by omega)
      have n10 : (!eqI 1 0) = true := by rw [eqI_neg (by decide)]; rfl
      have f10 : eqI 1 0 = false := eqI_neg (by decide)
      cases ha : a.any badBit with
      | true =>
        rw [ha, if_pos rfl] at p1
        have hw : m21F 6000 [a] = some 1 := by
          rw [wrong_eq 6000 hk [a] (by simp) (fun x hx => by
            rw [List.mem_singleton.1 hx]
            omega)]
          have : anyBad [a] = true := by
            unfold anyBad
            rw [List.any_cons, ha]
            rfl
          rw [this]
          rfl
        have t1 : m15F 6000 a = some ([], 1) := by simp only [m15F, m15X, rows1, hw, Option.bind_some, n10, if_true]
        have l0 : ltI 0 (([] : List Int).length : Int) = false := ltI_neg (by simp)
        simp only [s1, s2, p1, t1, Option.bind_some, hz, n10, f10, l0, Bool.false_eq_true, if_false, if_true, exact20_bad 6000 hk a b la lb (.inl ha), ite_self]
      | false =>
        rw [ha] at p1
        simp only [Bool.false_eq_true, if_false] at p1
        have h1 := bit_of ha
        have t1 := gfTrim_eq 6000 hk a (by omega) h1
        have t2 := refTrim_eq 6000 hk a (by omega)
        rw [trim_row h1] at t2
        have lr : (rowOf (val a)).length ≤ 5000 := by
          have := trimL_len a
          rw [trim_row h1] at this
          omega
        have i1 := ints_eq' 6000 hk (rowOf (val a)) (rowOf (val a)) lr
        have hfin : Option.bind (m14F 6000 b) (fun c => m4F20 6000 a b c a b) = some true := by
          rw [p2, Option.bind_some]
          cases hb : b.any badBit with
          | true => rw [if_pos rfl]; exact exact20_bad 6000 hk a b la lb (.inr hb)
          | false =>
            rw [if_neg (by simp)]
            exact exact20_good 6000 hk a b la lb h1 (bit_of hb)
        simp only [s1, s2, p1, t1, t2, i1, Option.bind_some, hz, e0, decide_true, Bool.not_true, Bool.false_eq_true, if_false, if_true, hfin]
    · rw [if_pos (ltI_pos (by omega))]
  · rw [if_pos (ltI_pos (by omega))]

end Go.Proofs.Ytahglkaihhjimaa.Mini
