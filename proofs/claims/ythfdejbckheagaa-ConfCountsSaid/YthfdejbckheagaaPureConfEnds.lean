/- The ends of a configuration: plain laws. -/
import Derived.Test.YthfdejbckheagaaMConf
namespace Go.Proofs.Ythfdejbckheagaa.Mini
open Go Go.RowKit Go.Proofs

theorem w64 {n : Int} (h0 : -9223372036854775808 ≤ n) (h1 : n < 9223372036854775808) : wr .i64 n = n := by
  show wrap64 n = n
  unfold wrap64
  omega

def inB (x a b : Int) : Bool := decide (a ≤ x) && decide (x ≤ b)

theorem m35_eq (k : Nat) (x a b : Int) : m35F k x a b = some (inB x a b) := by
  unfold m35F m35X inB
  by_cases h : a ≤ x
  · simp [h]
  · simp [h]

theorem m36_eq (k : Nat) (x a b : Int) : m36F k x a b = some (inB x a b) := by
  unfold m36F m36X inB
  by_cases h : a ≤ x
  · simp [h]
  · simp [h]

def okC (a b c d e f g h i j : Int) : Bool := inB a 1 16 && (inB b 1 16 && (inB c 1 3 && (inB d 1 16 && (inB e 1 16 && (inB f 1 16 && (inB g 1 64 && (inB h 4 16 && (inB i 0 200 && inB j 0 1073741824))))))))

theorem m11_eq (k : Nat) (a b c d e f g h i j : Int) : m11F k (a, b, c, d, e, f, g, h, i, j) = some (okC a b c d e f g h i j) := by
  simp only [m11F, m11X, m35_eq, Option.bind_some]
  unfold okC
  cases inB a 1 16 <;> cases inB b 1 16 <;> cases inB c 1 3 <;> cases inB d 1 16 <;> cases inB e 1 16 <;> cases inB f 1 16 <;> cases inB g 1 64 <;> cases inB h 4 16 <;> cases inB i 0 200 <;> cases inB j 0 1073741824 <;> rfl

theorem m12_eq (k : Nat) (a b c d e f g h i j : Int) : m12F k (a, b, c, d, e, f, g, h, i, j) = some (if okC a b c d e f g h i j = true then 0 else 1) := by
  simp only [m12F, m12X, m36_eq, Option.bind_some]
  unfold okC
  cases inB a 1 16 <;> cases inB b 1 16 <;> cases inB c 1 3 <;> cases inB d 1 16 <;> cases inB e 1 16 <;> cases inB f 1 16 <;> cases inB g 1 64 <;> cases inB h 4 16 <;> cases inB i 0 200 <;> cases inB j 0 1073741824 <;> rfl

theorem okC_spec {a b c d e f g h i j : Int} : okC a b c d e f g h i j = true ↔ (1 ≤ a ∧ a ≤ 16) ∧ (1 ≤ b ∧ b ≤ 16) ∧ (1 ≤ c ∧ c ≤ 3) ∧ (1 ≤ d ∧ d ≤ 16) ∧ (1 ≤ e ∧ e ≤ 16) ∧ (1 ≤ f ∧ f ≤ 16) ∧ (1 ≤ g ∧ g ≤ 64) ∧ (4 ≤ h ∧ h ≤ 16) ∧ (0 ≤ i ∧ i ≤ 200) ∧ (0 ≤ j ∧ j ≤ 1073741824) := by
  simp only [okC, inB, Bool.and_eq_true, decide_eq_true_eq]

theorem m13_ok (k : Nat) {a b c d e f g h i j : Int} (o : okC a b c d e f g h i j = true) : m13F k (a, b, c, d, e, f, g, h, i, j) = some (2 * (a + 10)) := by
  have ha := (okC_spec.1 o).1
  simp only [m13F, m13X, m12_eq, Option.bind_some, o, if_true, m37F, m37X]
  rw [w64 (n := a + 10) (by omega) (by omega)]
  simp only [decide_true, Bool.not_true, Bool.false_eq_true, if_false, decide_eq_true_eq]
  rw [if_neg (by omega), if_neg (by omega)]
  simp only [Option.bind_some]
  rw [w64 (by omega) (by omega)]

theorem m13_no (k : Nat) {a b c d e f g h i j : Int} (o : okC a b c d e f g h i j = false) : m13F k (a, b, c, d, e, f, g, h, i, j) = some 0 := by
  simp only [m13F, m13X, m12_eq, Option.bind_some, o]
  simp

theorem m14_no (k : Nat) {a b c d e f g h i j : Int} (o : okC a b c d e f g h i j = false) : m14F k (a, b, c, d, e, f, g, h, i, j) = some 0 := by
  simp only [m14F, m14X, m12_eq, Option.bind_some, o]
  simp

theorem m15_eq (k : Nat) : m15F k = some true := by
  have o : okC 4 1 1 1 1 1 1 4 0 0 = true := by decide
  simp only [m15F, m15X, m12_eq, o, if_true, Option.bind_some, m13_ok k o, m18F, m18X]
  decide +kernel

/-- A round of the law's loop. -/
theorem m60_eq (k : Nat) {L : Int → Int → Int → Int → Int → Int → Int → Int → Int → Int → Int → Int → Int → List Int → Option Bool} {t i n u a b c d e f g h p q a' b' c' d' e' f' g' h' p' q' : Int} {l : List Int}
    (ho : okC a' b' c' d' e' f' g' h' p' q' = decide (i < 2)) : m3F60 k L t i n u a b c d e f g h p q a' b' c' d' e' f' g' h' p' q' l = L t n (wr .i64 (u + 1)) a b c d e f g h p q l := by
  by_cases hi : i < 2
  · have o : okC a' b' c' d' e' f' g' h' p' q' = true := by rw [ho]; simpa using hi
    have ha := (okC_spec.1 o).1
    have hge : ¬ i ≥ 2 := by omega
    simp only [m3F60, m3X60, m12_eq, m13_ok k o, o, Option.bind_some, if_true, hi, hge, decide_true, decide_false]
    simp
    omega
  · have o : okC a' b' c' d' e' f' g' h' p' q' = false := by rw [ho]; simpa using hi
    have hge : i ≥ 2 := by omega
    simp only [m3F60, m3X60, m12_eq, m13_no k o, m14_no k o, o, Option.bind_some, hi, hge, decide_true, decide_false]
    simp

/-- The configuration with one number put. -/
def putN (t x : Int) (c : Int × Int × Int × Int × Int × Int × Int × Int × Int × Int) : Bool :=
  match c with
  | (a, b, c, d, e, f, g, h, i, j) => okC (if t = 0 then x else a) (if t = 1 then x else b) (if t = 2 then x else c) (if t = 3 then x else d) (if t = 4 then x else e) (if t = 5 then x else f) (if t = 6 then x else g) (if t = 7 then x else h)
    (if t = 8 then x else i) (if t = 9 then x else j)

theorem m15_step (k j : Nat) {t i a b c d e f g h p q : Int} {l : List Int} (ht0 : 0 ≤ t) (ht : t < 10) (hi0 : 0 ≤ i) (hi : i < 4) (hl : l.length = 4) (ho : putN t (l.getD i.toNat 0) (a, b, c, d, e, f, g, h, p, q) = decide (i < 2)) :
    m3F15 k (j + 1) t 4 i a b c d e f g h p q l = m3F15 k j t 4 (i + 1) a b c d e f g h p q l := by
  have hlen : i < ((l.length : Nat) : Int) := by omega
  rw [m3F15, m3X15]
  rw [if_pos (by simpa using hi), if_pos hi0, if_pos hlen]
  have hw : wr .i64 (i + 1) = i + 1 := w64 (by omega) (by omega)
  simp only [putN] at ho
  have hcases : t = 0 ∨ t = 1 ∨ t = 2 ∨ t = 3 ∨ t = 4 ∨ t = 5 ∨ t = 6 ∨ t = 7 ∨ t = 8 ∨ t = 9 := by omega
  rcases hcases with rfl | rfl | rfl | rfl | rfl | rfl | rfl | rfl | rfl | rfl <;>
    (simp only [decide_eq_true_eq, Int.reduceEq, if_true, if_false] at ho ⊢
     rw [m60_eq k ho, hw])

theorem m15_end (k j : Nat) {t a b c d e f g h p q : Int} {l : List Int} (o : okC a b c d e f g h p q = true) : m3F15 k (j + 1) t 4 4 a b c d e f g h p q l = some true := by
  rw [m3F15, m3X15, if_neg (by decide)]
  simp only [m3F66, m3X66, m12_eq, o, if_true, Option.bind_some, m15_eq]
  decide

theorem m15_all (k : Nat) {t x0 x1 x2 x3 a b c d e f g h p q : Int} (ht0 : 0 ≤ t) (ht : t < 10) (o : okC a b c d e f g h p q = true) (h0 : putN t x0 (a, b, c, d, e, f, g, h, p, q) = true) (h1 : putN t x1 (a, b, c, d, e, f, g, h, p, q) = true)
    (h2 : putN t x2 (a, b, c, d, e, f, g, h, p, q) = false) (h3 : putN t x3 (a, b, c, d, e, f, g, h, p, q) = false) : m3F15 k 5 t 4 0 a b c d e f g h p q [x0, x1, x2, x3] = some true := by
  have e0 := m15_step k 4 (i := 0) (l := [x0, x1, x2, x3]) ht0 ht (by omega) (by omega) rfl h0
  have e1 := m15_step k 3 (i := 1) (l := [x0, x1, x2, x3]) ht0 ht (by omega) (by omega) rfl h1
  have e2 := m15_step k 2 (i := 2) (l := [x0, x1, x2, x3]) ht0 ht (by omega) (by omega) rfl h2
  have e3 := m15_step k 1 (i := 3) (l := [x0, x1, x2, x3]) ht0 ht (by omega) (by omega) rfl h3
  exact e0.trans (e1.trans (e2.trans (e3.trans (m15_end k 0 o))))

theorem confEnds (c : Int × Int × Int × Int × Int × Int × Int × Int × Int × Int) (n : Int) {A B : Prop} (_ : A) (_ : B) : ∃ k, m3F k c n = some true := by
  refine ⟨5, ?_⟩
  obtain ⟨a, b, c, d, e, f, g, h, p, q⟩ := c
  have hm : 0 ≤ Int.tmod (wr IntKind.u64 n) 10 ∧ Int.tmod (wr IntKind.u64 n) 10 < 10 := by
    have : 0 ≤ wr IntKind.u64 n := by
      show 0 ≤ n % 18446744073709551616
      omega
    exact ⟨Int.tmod_nonneg _ this, Int.tmod_lt_of_pos _ (by decide)⟩
  have hw : wr IntKind.i64 (Int.tmod (wr IntKind.u64 n) 10) = Int.tmod (wr IntKind.u64 n) 10 := w64 (by omega) (by omega)
  simp only [m3F, m3X, m11_eq, Option.bind_some]
  rw [hw]
  generalize Int.tmod (wr IntKind.u64 n) 10 = t at hm
  obtain ⟨h0, h1⟩ := hm
  cases o : okC a b c d e f g h p q with
  | false => rfl
  | true =>
    have hs := okC_spec.1 o
    simp only [Bool.not_true, Bool.false_eq_true, if_false, if_pos h0, if_pos h1]
    have hcases : t = 0 ∨ t = 1 ∨ t = 2 ∨ t = 3 ∨ t = 4 ∨ t = 5 ∨ t = 6 ∨ t = 7 ∨ t = 8 ∨ t = 9 := by omega
    have put : ∀ x, putN t x (a, b, c, d, e, f, g, h, p, q) = true ↔ (1 ≤ (if t = 0 then x else a) ∧ (if t = 0 then x else a) ≤ 16) ∧ (1 ≤ (if t = 1 then x else b) ∧ (if t = 1 then x else b) ≤ 16) ∧ (1 ≤ (if t = 2 then x else c) ∧ (if t = 2 then x else c) ≤ 3) ∧
        (1 ≤ (if t = 3 then x else d) ∧ (if t = 3 then x else d) ≤ 16) ∧ (1 ≤ (if t = 4 then x else e) ∧ (if t = 4 then x else e) ≤ 16) ∧ (1 ≤ (if t = 5 then x else f) ∧ (if t = 5 then x else f) ≤ 16) ∧ (1 ≤ (if t = 6 then x else g) ∧ (if t = 6 then x else g) ≤ 64) ∧
        (4 ≤ (if t = 7 then x else h) ∧ (if t = 7 then x else h) ≤ 16) ∧ (0 ≤ (if t = 8 then x else p) ∧ (if t = 8 then x else p) ≤ 200) ∧ (0 ≤ (if t = 9 then x else q) ∧ (if t = 9 then x else q) ≤ 1073741824) := fun x => okC_spec
    have no : ∀ x, ¬ (putN t x (a, b, c, d, e, f, g, h, p, q) = true) → putN t x (a, b, c, d, e, f, g, h, p, q) = false := fun x hx => by simpa using hx
    rcases hcases with rfl | rfl | rfl | rfl | rfl | rfl | rfl | rfl | rfl | rfl <;>
      (refine m15_all 5 h0 h1 o ((put _).2 ?_) ((put _).2 ?_) (no _ fun hx => ?_) (no _ fun hx => ?_)
       · simp only [Int.reduceEq, if_true, if_false]
         refine ⟨?_, ?_, ?_, ?_, ?_, ?_, ?_, ?_, ?_, ?_⟩ <;> first | omega | decide +kernel
       · simp only [Int.reduceEq, if_true, if_false]
         refine ⟨?_, ?_, ?_, ?_, ?_, ?_, ?_, ?_, ?_, ?_⟩ <;> first | omega | decide +kernel
       · have hy := (put _).1 hx
         simp only [Int.reduceEq, if_true, if_false] at hy
         obtain ⟨y0, y1, y2, y3, y4, y5, y6, y7, y8, y9⟩ := hy
         first | exact absurd y0 (by decide +kernel) | exact absurd y1 (by decide +kernel) | exact absurd y2 (by decide +kernel) | exact absurd y3 (by decide +kernel) | exact absurd y4 (by decide +kernel) | exact absurd y5 (by decide +kernel) | exact absurd y6 (by decide +kernel) | exact absurd y7 (by decide +kernel) | exact absurd y8 (by decide +kernel) | exact absurd y9 (by decide +kernel)
       · have hy := (put _).1 hx
         simp only [Int.reduceEq, if_true, if_false] at hy
         obtain ⟨y0, y1, y2, y3, y4, y5, y6, y7, y8, y9⟩ := hy
         first | exact absurd y0 (by decide +kernel) | exact absurd y1 (by decide +kernel) | exact absurd y2 (by decide +kernel) | exact absurd y3 (by decide +kernel) | exact absurd y4 (by decide +kernel) | exact absurd y5 (by decide +kernel) | exact absurd y6 (by decide +kernel) | exact absurd y7 (by decide +kernel) | exact absurd y8 (by decide +kernel) | exact absurd y9 (by decide +kernel))

end Go.Proofs.Ythfdejbckheagaa.Mini
