/- A message grows up to its bound, and no further: a plain law. -/
import Derived.Test.YthfdejbckheagaaPL
import Derived.Test.YthfdejbckheagaaMJoinLong
set_option linter.unusedVariables false
namespace Go.Proofs.Ythfdejbckheagaa.Mini
open Go Go.RowKit Go.Proofs

theorem long_ar (a b : Nat) (ha : a < 18) (hb : b < 17) : wr .i64 (a : Int) = (a : Int) ∧ wr .i64 (b : Int) = (b : Int) ∧ wr .i64 (4096 - (a : Int)) = ((4096 - a : Nat) : Int) ∧ wr .i64 (((4096 - a : Nat) : Int) + 1) = ((4096 - a + 1 : Nat) : Int) ∧ leI 0 ((4096 - a + 1 : Nat) : Int) = true ∧
    leI ((4096 - a + 1 : Nat) : Int) ((4096 - a + 1 : Nat) : Int) = true ∧ leI (((4096 - a + 1 : Nat) : Int) * 1) 140737488355328 = true ∧ leI ((4096 - a + 1 : Nat) : Int) 9223372036854775807 = true ∧ leI 0 (b : Int) = true ∧ leI (b : Int) (b : Int) = true ∧ leI ((b : Int) * 1) 140737488355328 = true ∧ leI (b : Int) 9223372036854775807 = true ∧
    wr .i64 (((4096 - a + 1 : Nat) : Int) + (b : Int)) = ((4096 - a + 1 + b : Nat) : Int) ∧ (!eqI 18 0) = true ∧ (!eqI 17 0) = true :=
  ⟨w64n (by omega), w64n (by omega), by rw [w64 (by omega) (by omega)]; omega, by rw [w64 (by omega) (by omega)]; omega, leI_pos (by omega), leI_pos (by omega), leI_pos (by omega), leI_pos (by omega), leI_pos (by omega), leI_pos (by omega), leI_pos (by omega), leI_pos (by omega), by rw [w64 (by omega) (by omega)]; omega, by rw [eqI_neg (by decide)]; rfl, by rw [eqI_neg (by decide)]; rfl⟩
theorem joinLong (fill n : Int) (wf : (Lit.int .i64 fill).wf = true) (wn : (Lit.int .i64 n).wf = true) : ∃ k, m4F k fill n = some true := by
  refine ⟨6000, ?_⟩
  obtain ⟨a, ha, ea⟩ := umod0 fill 18 (by decide)
  obtain ⟨b, hb, eb⟩ := umod0 n 17 (by decide)
  have e18 : ((18 : Nat) : Int) = 18 := rfl
  have e17 : ((17 : Nat) : Int) = 17 := rfl
  rw [e18] at ea
  rw [e17] at eb
  obtain ⟨r1, r2, r3, r4, r5, r6, r7, r8, r9, ra, rb, rc, rd, re, rf⟩ := long_ar a b ha hb
  have e0 : ∀ z : Int, eqI z z = true := fun z => eqI_pos rfl
  simp only [m4F, m4X, re, rf, if_true, ea, eb, r1, r2, r3, r4, r5, r6, r7, r8, r9, ra, rb, rc, rd, Int.toNat_natCast, List.length_replicate]
  clear r1 r2 r3 r4 r5 r6 r7 r8 r9 ra rb rc rd re rf ea eb
  by_cases h : 4096 < 4096 - a + 1
  · rw [if_pos (ltI_pos (by omega))]
    have ht : m16F 6000 (true, List.replicate (4096 - a + 1) 0) (0, 2, []) = some ((false, []), [], false, 1) := by
      have hc : m39F 6000 (true, List.replicate (4096 - a + 1) 0) = some 1 := by
        simp only [m39F, m39X, List.length_replicate]
        rw [if_pos (ltI_pos (by omega))]
      have n1 : (!eqI 1 0) = true := by rw [eqI_neg (by decide)]; rfl
      simp only [m16F, m16X, hc, Option.bind_some, n1, if_true]
    simp only [ht, Option.bind_some, e0, if_true, Bool.not_false, wakes21]
  · rw [if_neg (by rw [ltI_neg (by omega)]; simp)]
    have ht := take_open 6000 0 0 true (List.replicate (4096 - a + 1) 0) (List.replicate b 0) (by decide) (by decide) (by rw [List.length_replicate]; omega) (by rw [List.length_replicate]; omega) (.inl rfl)
    rw [if_pos (show (0 : Int) = 0 ∨ (0 : Int) = 2 by decide), List.length_replicate, List.length_replicate] at ht
    by_cases h2 : 4096 < 4096 - a + 1 + b
    · rw [if_pos h2] at ht
      rw [ht, Option.bind_some, if_pos (ltI_pos (by omega))]
      simp only [e0, if_true, Bool.not_false, wakes21, Option.bind_some]
    · rw [if_neg h2, if_pos (show (0 : Int) < 2 by decide)] at ht
      have el : eqI (((List.replicate (4096 - a + 1) (0 : Int) ++ List.replicate b 0).length : Nat) : Int) ((4096 - a + 1 + b : Nat) : Int) = true := eqI_pos (by rw [List.length_append, List.length_replicate, List.length_replicate])
      rw [ht, Option.bind_some, if_neg (by rw [ltI_neg (by omega)]; simp)]
      simp only [e0, if_true, Bool.not_false, el, wakes21, Option.bind_some]

end Go.Proofs.Ythfdejbckheagaa.Mini
