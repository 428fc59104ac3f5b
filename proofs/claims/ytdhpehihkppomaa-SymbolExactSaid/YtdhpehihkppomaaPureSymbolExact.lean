/- The symbol of any state and index is the page's: a plain law. -/
import Derived.Test.YtdhpehihkppomaaPL
import Derived.Test.YtdhpehihkppomaaMSymbolExact
set_option linter.unusedVariables false
namespace Go.Proofs.Ytdhpehihkppomaa.Mini
open Go Go.RowKit Go.Proofs

theorem symbolExact (s i : Int) (ws : (Lit.int .u32 s).wf = true) (wi : (Lit.int .i64 i).wf = true) : ∃ k, m7F k s i = some true := by
  refine ⟨6000, ?_⟩
  obtain ⟨hs, hs'⟩ := Bv.wf_u32 ws
  have hw := wakes06 6000 (by decide)
  have e0 : eqI 0 0 = true := eqI_pos rfl
  have e1 : eqI 1 1 = true := eqI_pos rfl
  simp only [m7F, m7X]
  by_cases h0 : 0 ≤ i
  · by_cases h1 : i ≤ 255
    · have hb := symV_byte s i hs hs'
      rw [sym_eq 6000 s i hs hs' h0 h1, sym_ref 6000 s i hs hs' h0 h1, Option.bind_some, if_neg (by rw [ltI_neg (by omega)]; simp), if_neg (by rw [ltI_neg (by omega)]; simp), Option.bind_some]
      have e2 : eqI (symV s i) (symV s i) = true := eqI_pos rfl
      have e3 : leI 0 (symV s i) = true := leI_pos hb.1
      have e4 : leI (symV s i) 255 = true := leI_pos (by omega)
      simp only [e0, e2, e3, e4, if_true, hw, Option.bind_some]
    · have h2 : m17F 6000 s i = some (0, 1) := by
        simp only [m17F, m17X]
        rw [if_neg (by rw [ltI_neg (by omega)]; simp), if_pos (ltI_pos (by omega))]
      rw [h2, Option.bind_some, if_neg (by rw [ltI_neg (by omega)]; simp), if_pos (ltI_pos (by omega))]
      simp only [e0, e1, if_true, hw, Option.bind_some]
  · have h2 : m17F 6000 s i = some (0, 1) := by
      simp only [m17F, m17X]
      rw [if_pos (ltI_pos (by omega))]
    rw [h2, Option.bind_some, if_pos (ltI_pos (by omega))]
    simp only [e0, e1, if_true, hw, Option.bind_some]

end Go.Proofs.Ytdhpehihkppomaa.Mini
