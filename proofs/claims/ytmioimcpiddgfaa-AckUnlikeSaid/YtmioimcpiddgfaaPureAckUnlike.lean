/- Unlike acks have unlike packets: a plain law. -/
import Derived.Test.YtmioimcpiddgfaaPL
import Derived.Test.YtmioimcpiddgfaaMAckUnlike
set_option linter.unusedVariables false
namespace Go.Proofs.Ytmioimcpiddgfaa.Mini
open Go Go.RowKit Go.Proofs

open Crc Be in
theorem ackPack_inj (a b c d : Int) (a0 : 0 ≤ a) (a1 : a ≤ 1073741824) (b0 : 0 ≤ b) (b1 : b < 4294967296) (c0 : 0 ≤ c) (c1 : c ≤ 1073741824) (d0 : 0 ≤ d) (d1 : d < 4294967296) (h : ackPack a b = ackPack c d) : a = c ∧ b = d := by
  have h1 := ackRead_pack a b a0 a1 b0 b1
  have h2 := ackRead_pack c d c0 c1 d0 d1
  rw [h, h2] at h1
  simp only [Prod.mk.injEq] at h1
  exact ⟨h1.1.1.symm, h1.1.2.symm⟩

theorem ackUnlike (p q : Int × Int) (wp : WfK (.pair (.int .i64) (.int .u32)) p) (wq : WfK (.pair (.int .i64) (.int .u32)) q) : ∃ k, m7F k p q = some true := by
  refine ⟨6000, ?_⟩
  obtain ⟨a, b⟩ := p
  obtain ⟨c, d⟩ := q
  obtain ⟨_, wb⟩ := wp
  obtain ⟨_, wd⟩ := wq
  obtain ⟨b0, b1⟩ := Bv.wf_u32 wb
  obtain ⟨d0, d1⟩ := Bv.wf_u32 wd
  have hw := wakes15 6000 (by omega)
  simp only [m7F, m7X, eqI_eq]
  by_cases ha : a < 0 ∨ 1073741824 < a
  · rw [ackMake_bad _ a b ha]
    by_cases hc : c < 0 ∨ 1073741824 < c
    · rw [ackMake_bad _ c d hc]
      simp [hw]
    · rw [ackMake_eq _ (by omega) c d (by omega) (by omega) d0 d1]
      simp [hw]
  · rw [ackMake_eq _ (by omega) a b (by omega) (by omega) b0 b1]
    by_cases hc : c < 0 ∨ 1073741824 < c
    · rw [ackMake_bad _ c d hc]
      simp [hw]
    · rw [ackMake_eq _ (by omega) c d (by omega) (by omega) d0 d1]
      have he := bytes_eq' 6000 (by omega) (ackPack a b) (ackPack c d) (by rw [ackPack_length]; omega)
      have hiff : decide (ackPack a b = ackPack c d) = (decide (a = c) && decide (b = d)) := by
        rw [Bool.eq_iff_iff]
        simp only [decide_eq_true_eq, Bool.and_eq_true]
        constructor
        · exact ackPack_inj a b c d (by omega) (by omega) b0 b1 (by omega) (by omega) d0 d1
        · rintro ⟨rfl, rfl⟩
          rfl
      simp [hw, he, ackPack_length, ackEq_eq, hiff]

end Go.Proofs.Ytmioimcpiddgfaa.Mini
