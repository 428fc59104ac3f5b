/- How many blocks, ticks, cycles: plain laws. -/
import Derived.Test.YthfdejbckheagaaPureConfExact
namespace Go.Proofs.Ythfdejbckheagaa.Mini
open Go Go.RowKit Go.Proofs

theorem div_facts {x y : Int} (hy : 0 < y) : x / y * y ≤ x ∧ x < x / y * y + y := by
  refine ⟨Int.ediv_mul_le x (by omega), ?_⟩
  have := Int.lt_ediv_add_one_mul_self x hy
  rw [Int.add_mul, Int.one_mul] at this
  exact this

variable {a b c d e f g h i j : Int}

theorem mM_eq (o : okC a b c d e f g h i j = true) : mM a h = 2 * (a + 10) * h ∧ 88 ≤ mM a h ∧ mM a h ≤ 832 := by
  have ha := (okC_spec.1 o).1
  have hh := (okC_spec.1 o).2.2.2.2.2.2.2.1
  have h1 : 2 * (a + 10) * h ≤ 52 * 16 := Int.mul_le_mul (by omega) (by omega) (by omega) (by omega)
  have h2 : 22 * 4 ≤ 2 * (a + 10) * h := Int.mul_le_mul (by omega) (by omega) (by omega) (by omega)
  have h3 : mM a h = 2 * (a + 10) * h := by
    unfold mM
    rw [sS_eq ha.1 ha.2]
    exact w64 (by omega) (by omega)
  exact ⟨h3, by omega, by omega⟩

theorem tT_eq (o : okC a b c d e f g h i j = true) : tT a g h = (mM a h + g - 1) / g ∧ 1 ≤ tT a g h ∧ tT a g h ≤ 895 := by
  have hg := (okC_spec.1 o).2.2.2.2.2.2.1
  obtain ⟨_, m1, m2⟩ := mM_eq o
  have h1 : tT a g h = (mM a h + g - 1) / g := by
    unfold tT
    rw [w64 (n := mM a h + g) (by omega) (by omega), w64 (n := mM a h + g - 1) (by omega) (by omega), Int.tdiv_eq_ediv_of_nonneg (by omega)]
    have h0 : 0 ≤ (mM a h + g - 1) / g := Int.ediv_nonneg (by omega) (by omega)
    have h2 : (mM a h + g - 1) / g ≤ mM a h + g - 1 := Int.ediv_le_self _ (by omega)
    exact w64 (by omega) (by omega)
  have h2 : (mM a h + g - 1) / g ≤ mM a h + g - 1 := Int.ediv_le_self _ (by omega)
  have h3 : 1 ≤ (mM a h + g - 1) / g := (Int.le_ediv_iff_mul_le (by omega)).2 (by omega)
  exact ⟨h1, by omega, by omega⟩

theorem cC_eq (o : okC a b c d e f g h i j = true) {n : Int} (hn : 0 ≤ n) (hn' : n ≤ 2000) : cC a g h n = (n + 1) * (3 * tT a g h + 2) ∧ 0 ≤ (n + 1) * (3 * tT a g h + 2) ∧ (n + 1) * (3 * tT a g h + 2) ≤ 2001 * 2700 := by
  obtain ⟨_, t1, t2⟩ := tT_eq o
  have h1 : (n + 1) * (3 * tT a g h + 2) ≤ 2001 * 2700 := Int.mul_le_mul (by omega) (by omega) (by omega) (by omega)
  have h2 : 0 ≤ (n + 1) * (3 * tT a g h + 2) := Int.mul_nonneg (by omega) (by omega)
  refine ⟨?_, h2, h1⟩
  unfold cC
  rw [w64 (n := n + 1) (by omega) (by omega), w64 (n := 3 * tT a g h) (by omega) (by omega), w64 (n := 3 * tT a g h + 2) (by omega) (by omega)]
  exact w64 (by omega) (by omega)

theorem blocks_facts (o : okC a b c d e f g h i j = true) {l : Int} (hl : 0 ≤ l) (hl' : l ≤ 200) : ∃ n, (if l < 0 then 0 else if l > 200 then 0 else if l = 0 then 1 else bB a l) = n ∧ ¬ n < 1 ∧ ¬ wr .i64 (n * a) < l ∧ (n > 1 → ¬ wr .i64 (wr .i64 (n - 1) * a) ≥ l) := by
  have ha := (okC_spec.1 o).1
  rw [if_neg (by omega), if_neg (by omega)]
  by_cases h0 : l = 0
  · refine ⟨1, if_pos h0, by omega, ?_, by omega⟩
    rw [Int.one_mul, w64 (by omega) (by omega)]
    omega
  · refine ⟨bB a l, if_neg h0, ?_, ?_, fun _ => ?_⟩
    · rw [bB_eq ha.1 ha.2 hl hl']
      have : 1 ≤ (l + a - 1) / a := (Int.le_ediv_iff_mul_le (by omega)).2 (by omega)
      omega
    · rw [bB_eq ha.1 ha.2 hl hl']
      obtain ⟨d1, d2⟩ := div_facts (x := l + a - 1) (y := a) (by omega)
      rw [w64 (by omega) (by omega)]
      omega
    · rw [bB_eq ha.1 ha.2 hl hl']
      obtain ⟨d1, d2⟩ := div_facts (x := l + a - 1) (y := a) (by omega)
      have h1 : 0 ≤ (l + a - 1) / a := Int.ediv_nonneg (by omega) (by omega)
      have h2 : (l + a - 1) / a ≤ l + a - 1 := Int.ediv_le_self _ (by omega)
      rw [w64 (n := (l + a - 1) / a - 1) (by omega) (by omega), Int.sub_mul, Int.one_mul, w64 (by omega) (by omega)]
      omega

theorem confCounts (c : Int × Int × Int × Int × Int × Int × Int × Int × Int × Int) (n m : Int) {A B D : Prop} (_ : A) (_ : B) (_ : D) : ∃ k, m6F k c n m = some true := by
  refine ⟨5, ?_⟩
  obtain ⟨a, b, c, d, e, f, g, h, p, q⟩ := c
  have bnd : ∀ (x y : Int), 0 < y → y ≤ 2001 → 0 ≤ wr IntKind.i64 (Int.tmod (wr IntKind.u64 x) y) ∧ wr IntKind.i64 (Int.tmod (wr IntKind.u64 x) y) < y := fun x y hy hy' => by
    have hx : 0 ≤ wr IntKind.u64 x := by
      show 0 ≤ x % 18446744073709551616
      omega
    have h1 := Int.tmod_nonneg y hx
    have h2 := Int.tmod_lt_of_pos (wr IntKind.u64 x) hy
    rw [w64 (by omega) (by omega)]
    exact ⟨h1, h2⟩
  cases o : okC a b c d e f g h p q with
  | false =>
    simp only [m6F, m6X, m11_eq, o, Option.bind_some]
    rfl
  | true =>
    obtain ⟨l0, l1⟩ := bnd n 201 (by omega) (by omega)
    obtain ⟨u0, u1⟩ := bnd m 2000 (by omega) (by omega)
    simp only [m6F, m6X, m11_eq, o, Option.bind_some, m19_ok 5 _ o, m14_T 5 o, m13_S 5 o, m18_M 5 o, m20_ok 5 _ o, m15_eq]
    generalize wr IntKind.i64 (Int.tmod (wr IntKind.u64 n) 201) = l at l0 l1
    generalize wr IntKind.i64 (Int.tmod (wr IntKind.u64 m) 2000) = u at u0 u1
    obtain ⟨x, hx, f1, f2, f3⟩ := blocks_facts o l0 (show l ≤ 200 by omega)
    rw [hx]
    have hg := (okC_spec.1 o).2.2.2.2.2.2.1
    obtain ⟨_, m1, m2⟩ := mM_eq o
    obtain ⟨t0, t1, t2⟩ := tT_eq o
    obtain ⟨d1, d2⟩ := div_facts (x := mM a h + g - 1) (y := g) (by omega)
    rw [← t0] at d1 d2
    have g7 : wr IntKind.i64 (tT a g h * g) ≥ mM a h := by
      rw [w64 (by omega) (by omega)]
      omega
    have g8 : wr IntKind.i64 (wr IntKind.i64 (tT a g h - 1) * g) < mM a h := by
      rw [w64 (n := tT a g h - 1) (by omega) (by omega), Int.sub_mul, Int.one_mul, w64 (by omega) (by omega)]
      omega
    have g3 : wr IntKind.i64 (wr IntKind.i64 (3 * tT a g h) + 2) = 3 * tT a g h + 2 := by
      rw [w64 (n := 3 * tT a g h) (by omega) (by omega), w64 (by omega) (by omega)]
    have g9 : wr IntKind.i64 (u + 1) = u + 1 := w64 (by omega) (by omega)
    obtain ⟨c0, c1, c2⟩ := cC_eq o u0 (show u ≤ 2000 by omega)
    obtain ⟨c3, c4, c5⟩ := cC_eq o (n := u + 1) (by omega) (by omega)
    obtain ⟨c6, c7, c8⟩ := cC_eq o (n := 0) (by omega) (by omega)
    have g10 : wr IntKind.i64 (cC a g h (u + 1) - cC a g h u) = 3 * tT a g h + 2 := by
      rw [c0, c3]
      have : (u + 1 + 1) * (3 * tT a g h + 2) = (u + 1) * (3 * tT a g h + 2) + (3 * tT a g h + 2) := by rw [Int.add_mul, Int.one_mul]
      rw [this, w64 (by omega) (by omega)]
      omega
    have g11 : cC a g h 0 = 3 * tT a g h + 2 := by
      rw [c6]
      omega
    have s4 : sS a = wr IntKind.i64 (2 * wr IntKind.i64 (a + 10)) := rfl
    have s5 : mM a h = wr IntKind.i64 (sS a * h) := rfl
    rw [g9, if_neg (show ¬ u + 1 < 0 by omega), if_neg (show ¬ u + 1 > 2000 by omega), if_neg (show ¬ u < 0 by omega), if_neg (show ¬ u > 2000 by omega), if_neg (show ¬ (0 : Int) < 0 by omega), if_neg (show ¬ (0 : Int) > 2000 by omega), g3, g10, g11, ← s4, ← s5]
    simp only [Bool.not_true, Bool.false_eq_true, if_false, decide_eq_true_eq, if_neg f1, if_neg f2, decide_true, if_true, if_pos t1, if_pos g7, if_pos g8, ge_iff_le]
    by_cases h1 : x > 1
    · have f3' := f3 h1
      rw [if_pos h1, if_neg f3']
    · rw [if_neg h1]

end Go.Proofs.Ythfdejbckheagaa.Mini
