/- The packet of any ack, what it has: plain laws. -/
import Derived.Test.YtmioimcpiddgfaaPL
import Derived.Test.YtmioimcpiddgfaaMAckExact
set_option linter.unusedVariables false
namespace Go.Proofs.Ytmioimcpiddgfaa.Mini
open Go Go.RowKit Go.Proofs

theorem has_same (k : Nat) (n b s : Int) (hn : -9223372036854775808 ≤ n) (hn' : n ≤ 9223372036854775807) (hs : -9223372036854775808 ≤ s) (hs' : s ≤ 9223372036854775807) : ∃ r, m9F k (n, b) s = some r ∧ m10F k (n, b) s = some r := by
  simp only [m9F, m9X, m10F, m10X]
  by_cases h0 : s < 0
  · exact ⟨false, by rw [if_pos (ltI_pos h0)], by rw [if_pos (ltI_pos h0), leI_neg (by omega)]⟩
  have h0' : ¬ (ltI s 0 = true) := by rw [ltI_neg h0]; simp
  rw [if_neg h0', if_neg h0']
  by_cases h1 : s < n
  · exact ⟨true, by rw [if_pos (ltI_pos h1)], by rw [if_pos (ltI_pos h1), leI_pos (by omega)]⟩
  have h1' : ¬ (ltI s n = true) := by rw [ltI_neg h1]; simp
  rw [if_neg h1', if_neg h1']
  by_cases h2 : n < 0
  · have h2' : ¬ (leI 0 n = true) := by rw [leI_neg (by omega)]; simp
    refine ⟨false, by rw [if_pos (ltI_pos h2)], ?_⟩
    rw [if_neg h2']
    split
    · split <;> rfl
    · rfl
  have h2' : ¬ (ltI n 0 = true) := by rw [ltI_neg h2]; simp
  have w : wr .i64 (s - n) = s - n := w64 (by omega) (by omega)
  rw [if_neg h2', w, if_pos (leI_pos (show 0 ≤ s - n by omega)), if_pos (leI_pos (show 0 ≤ n by omega)), wu64 (show 0 ≤ s - n by omega) (by omega), if_pos (leI_pos (show 0 ≤ s - n by omega)), if_pos (leI_pos (show 0 ≤ s - n by omega))]
  by_cases h3 : s - n < 32
  · exact ⟨_, by rw [if_pos (ltI_pos h3)], by rw [if_pos (ltI_pos h3)]⟩
  · have h3' : ¬ (ltI (s - n) 32 = true) := by rw [ltI_neg h3]; simp
    exact ⟨false, by rw [if_neg h3'], by rw [if_neg h3']⟩

theorem ackExact (p : Int × Int) (s : Int) (wp : WfK (.pair (.int .i64) (.int .u32)) p) (ws : (Lit.int .i64 s).wf = true) : ∃ k, m3F k p s = some true := by
  refine ⟨6000, ?_⟩
  obtain ⟨a, b⟩ := p
  obtain ⟨wa, wb⟩ := wp
  obtain ⟨b0, b1⟩ := Bv.wf_u32 wb
  obtain ⟨a0, a1⟩ := Bv.wf_i64 wa
  obtain ⟨s0, s1⟩ := Bv.wf_i64 ws
  have hw := wakes15 6000 (by omega)
  obtain ⟨r, r1, r2⟩ := has_same 6000 a b s a0 a1 s0 s1
  simp only [m3F, m3X, r1, r2, eqI_eq, ltI_eq]
  by_cases ha : a < 0 ∨ 1073741824 < a
  · rw [ackMake_bad _ a b ha]
    by_cases h0 : a < 0
    · simp [hw, h0]
    · have h1 : 1073741824 < a := by omega
      simp [hw, h0, h1]
  · have h0 : ¬ a < 0 := by omega
    have h1 : ¬ 1073741824 < a := by omega
    rw [ackMake_eq _ (by omega) a b (by omega) (by omega) b0 b1]
    have e1 := refack_eq 6000 (by omega) a b b0 b1
    have e2 := bytes_eq' 6000 (by omega) (ackPack a b) (ackPack a b) (by rw [ackPack_length]; omega)
    have e3 := ackRead_eq 6000 (by omega) (ackPack a b) (by rw [ackPack_length]; omega) (ackPack_bytes a b)
    rw [ackRead_pack a b (by omega) (by omega) b0 b1] at e3
    simp [hw, h0, h1, e1, e2, e3, ackEq_eq]

end Go.Proofs.Ytmioimcpiddgfaa.Mini
