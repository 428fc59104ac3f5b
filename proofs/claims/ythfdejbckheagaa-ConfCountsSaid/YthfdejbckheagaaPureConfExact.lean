/- What a configuration makes: plain laws. -/
import Derived.Test.YthfdejbckheagaaPureConfEnds
import Derived.Test.YthfdejbckheagaaMConf2
namespace Go.Proofs.Ythfdejbckheagaa.Mini
open Go Go.RowKit Go.Proofs

def sS (a : Int) : Int := wr .i64 (2 * wr .i64 (a + 10))
def mM (a h : Int) : Int := wr .i64 (sS a * h)
def tT (a g h : Int) : Int := wr .i64 (Int.tdiv (wr .i64 (wr .i64 (mM a h + g) - 1)) g)
def cC (a g h n : Int) : Int := wr .i64 (wr .i64 (n + 1) * wr .i64 (wr .i64 (3 * tT a g h) + 2))
def bB (a n : Int) : Int := wr .i64 (Int.tdiv (wr .i64 (wr .i64 (n + a) - 1)) a)

variable {a b c d e f g h i j : Int}

theorem sS_eq (ha : 1 ≤ a) (ha' : a ≤ 16) : sS a = 2 * (a + 10) := by
  unfold sS
  rw [w64 (n := a + 10) (by omega) (by omega), w64 (by omega) (by omega)]

theorem m13_S (k : Nat) (o : okC a b c d e f g h i j = true) : m13F k (a, b, c, d, e, f, g, h, i, j) = some (sS a) := by
  have ha := (okC_spec.1 o).1
  rw [m13_ok k o, sS_eq ha.1 ha.2]

theorem m18_M (k : Nat) (o : okC a b c d e f g h i j = true) : m18F k (a, b, c, d, e, f, g, h, i, j) = some (mM a h) := by
  simp only [m18F, m18X, m12_eq, o, if_true, Option.bind_some, m13_S k o]
  rfl

theorem m38_eq (k : Nat) {x y : Int} (hy : y ≠ 0) : m38F k x y = some (wr .i64 (Int.tdiv (wr .i64 (wr .i64 (x + y) - 1)) y)) := by
  simp only [m38F, m38X]
  rw [if_pos hy]

theorem m14_T (k : Nat) (o : okC a b c d e f g h i j = true) : m14F k (a, b, c, d, e, f, g, h, i, j) = some (tT a g h) := by
  have hg := (okC_spec.1 o).2.2.2.2.2.2.1
  simp only [m14F, m14X, m12_eq, o, if_true, Option.bind_some, m18_M k o]
  rw [m38_eq k (by omega)]
  rfl

theorem m18_no (k : Nat) (o : okC a b c d e f g h i j = false) : m18F k (a, b, c, d, e, f, g, h, i, j) = some 0 := by
  simp only [m18F, m18X, m12_eq, Option.bind_some, o]
  simp

theorem m19_no (k : Nat) (n : Int) (o : okC a b c d e f g h i j = false) : m19F k (a, b, c, d, e, f, g, h, i, j) n = some 0 := by
  simp only [m19F, m19X, m12_eq, Option.bind_some, o]
  simp

theorem m20_no (k : Nat) (n : Int) (o : okC a b c d e f g h i j = false) : m20F k (a, b, c, d, e, f, g, h, i, j) n = some 0 := by
  simp only [m20F, m20X, m12_eq, Option.bind_some, o]
  simp

theorem m19_ok (k : Nat) (n : Int) (o : okC a b c d e f g h i j = true) : m19F k (a, b, c, d, e, f, g, h, i, j) n = some (if n < 0 then 0 else if n > 200 then 0 else if n = 0 then 1 else bB a n) := by
  have ha := (okC_spec.1 o).1
  simp only [m19F, m19X, m12_eq, o, if_true, Option.bind_some, decide_true, Bool.not_true, Bool.false_eq_true, if_false, decide_eq_true_eq]
  rw [m38_eq k (by omega)]
  split
  · rfl
  · split
    · rfl
    · split <;> rfl

theorem m20_ok (k : Nat) (n : Int) (o : okC a b c d e f g h i j = true) : m20F k (a, b, c, d, e, f, g, h, i, j) n = some (if n < 0 then 0 else if n > 2000 then 0 else cC a g h n) := by
  simp only [m20F, m20X, m12_eq, o, if_true, Option.bind_some, m14_T k o, decide_true, Bool.not_true, Bool.false_eq_true, if_false, decide_eq_true_eq]
  split
  · rfl
  · split <;> rfl

theorem m23_S (k : Nat) : m23F k (a, b, c, d, e, f, g, h, i, j) = some (sS a) := rfl
theorem m24_M (k : Nat) : m24F k (a, b, c, d, e, f, g, h, i, j) = some (mM a h) := rfl
theorem m25_T (k : Nat) (hg : g ≠ 0) : m25F k (a, b, c, d, e, f, g, h, i, j) = some (tT a g h) := by
  simp only [m25F, m25X, m24_M, Option.bind_some]
  rw [if_pos hg]
  rfl
theorem m22_C (k : Nat) (n : Int) (hg : g ≠ 0) : m22F k (a, b, c, d, e, f, g, h, i, j) n = some (cC a g h n) := by
  simp only [m22F, m22X, m25_T k hg, Option.bind_some]
  rfl

theorem bB_eq {n : Int} (ha : 1 ≤ a) (ha' : a ≤ 16) (hn : 0 ≤ n) (hn' : n ≤ 200) : bB a n = (n + a - 1) / a := by
  unfold bB
  rw [w64 (n := n + a) (by omega) (by omega), w64 (n := n + a - 1) (by omega) (by omega), Int.tdiv_eq_ediv_of_nonneg (by omega)]
  have h0 : 0 ≤ (n + a - 1) / a := Int.ediv_nonneg (by omega) (by omega)
  have h1 : (n + a - 1) / a ≤ n + a - 1 := Int.ediv_le_self _ (by omega)
  exact w64 (by omega) (by omega)

theorem m21_B (k : Nat) {n : Int} (o : okC a b c d e f g h i j = true) (hn : 0 ≤ n) (hn' : n ≤ 200) : m21F k (a, b, c, d, e, f, g, h, i, j) n = some (if n = 0 then 1 else bB a n) := by
  have ha := (okC_spec.1 o).1
  simp only [m21F, m21X]
  rw [if_pos (by omega)]
  show some (mx (bB a n) 1) = _
  rw [bB_eq ha.1 ha.2 hn hn']
  congr 1
  unfold mx
  by_cases h0 : n = 0
  · subst h0
    rw [if_pos rfl, if_pos]
    have : (0 + a - 1) / a = 0 := Int.ediv_eq_zero_of_lt (by omega) (by omega)
    omega
  · rw [if_neg h0, if_neg]
    have : 1 ≤ (n + a - 1) / a := (Int.le_ediv_iff_mul_le (by omega)).2 (by omega)
    omega

theorem m22x_eq (k : Nat) {n t6 t7 : Int} (o : okC a b c d e f g h i j = true) (h6 : t6 = if n < 0 then 0 else if n > 200 then 0 else if n = 0 then 1 else bB a n) (h7 : t7 = if n < 0 then 0 else if n > 2000 then 0 else cC a g h n) :
    m5F22 k n t6 t7 a b c d e f g h i j = some true := by
  have hg := (okC_spec.1 o).2.2.2.2.2.2.1
  simp only [m5F22, m5X22, m13_S k o, m23_S, m18_M k o, m24_M, m19_ok k n o, m14_T k o, m25_T k (show g ≠ 0 by omega), m20_ok k n o, m15_eq, Option.bind_some, ← h6, ← h7, decide_true, if_true]

theorem confExact (c : Int × Int × Int × Int × Int × Int × Int × Int × Int × Int) (n : Int) {A B : Prop} (_ : A) (_ : B) : ∃ k, m5F k c n = some true := by
  refine ⟨5, ?_⟩
  obtain ⟨a, b, c, d, e, f, g, h, p, q⟩ := c
  cases o : okC a b c d e f g h p q with
  | false =>
    simp only [m5F, m5X, m11_eq, m12_eq, o, Option.bind_some, m13_no 5 o, m18_no 5 o, m19_no 5 n o, m14_no 5 o, m20_no 5 n o, m15_eq]
    have hz : wr IntKind.i64 (wr IntKind.i64 (wr IntKind.i64 (wr IntKind.i64 (0 + 0) + 0) + 0) + 0) = 0 := by decide +kernel
    simp only [hz]
    simp
  | true =>
    have hg := (okC_spec.1 o).2.2.2.2.2.2.1
    have hg0 : g ≠ 0 := by omega
    have fin : ∀ t6, (t6 = if n < 0 then 0 else if n > 200 then 0 else if n = 0 then 1 else bB a n) → m5F18 5 n t6 0 a b c d e f g h p q = some true := fun t6 h6 => by
      simp only [m5F18, m5X18, decide_eq_true_eq]
      by_cases h0 : n ≥ 0
      · rw [if_pos h0]
        by_cases h1 : n ≤ 2000
        · rw [if_pos h1, m22_C 5 n hg0, Option.bind_some]
          exact m22x_eq 5 o h6 (by rw [if_neg (by omega), if_neg (by omega)])
        · rw [if_neg h1]
          exact m22x_eq 5 o h6 (by rw [if_neg (by omega), if_pos (by omega)])
      · rw [if_neg h0]
        exact m22x_eq 5 o h6 (by rw [if_pos (by omega)])
    simp only [m5F, m5X, m11_eq, m12_eq, o, Option.bind_some, if_true, decide_true, Bool.not_true, beq_self_eq_true, Bool.false_eq_true, if_false, decide_eq_true_eq]
    simp
    by_cases h0 : 0 ≤ n
    · rw [if_pos h0]
      by_cases h1 : n ≤ 200
      · rw [if_pos h1, m21_B 5 o h0 h1]
        exact fin _ (by simp only [if_neg (show ¬ n < 0 by omega), if_neg (show ¬ n > 200 by omega)])
      · rw [if_neg h1]
        exact fin _ (by rw [if_neg (by omega), if_pos (by omega)])
    · rw [if_neg h0]
      exact fin _ (by rw [if_pos (by omega)])

end Go.Proofs.Ythfdejbckheagaa.Mini
