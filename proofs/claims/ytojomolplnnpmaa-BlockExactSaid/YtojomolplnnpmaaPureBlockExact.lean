/- Whether any block may be, and its bytes, are the page's; they are read as it: a plain law. -/
import Derived.Test.YtojomolplnnpmaaPL
import Derived.Test.YtojomolplnnpmaaMBlockExact
set_option linter.unusedVariables false
namespace Go.Proofs.Ytojomolplnnpmaa.Mini
open Go Go.RowKit Go.Proofs

theorem blockExact (c : Int) (b : Int × (Int × List Int)) (wc : (Lit.int .i64 c).wf = true) (wb : WfK (.pair (.int .i64) (.pair (.int .i64) (.row (.int .u8)))) b) : ∃ k, m3F k c b = some true := by
  refine ⟨6000, ?_⟩
  obtain ⟨s, m, t⟩ := b
  have hb := bytes_wf wb.2.2
  have hw := wakes13 6000 (by decide)
  have hz : ∀ z : Int, (!eqI z z) = false := fun z => by rw [eqI_pos rfl]; rfl
  have e0 : ∀ z : Int, eqI z z = true := fun z => eqI_pos rfl
  simp only [m3F, m3X]
  by_cases hn : t.length ≤ 100
  · have kb : m12F 6000 (s, m, t) (s, m, t) = some true := by
      rw [keepBlock_eq 6000 (by decide) (s, m, t) (s, m, t) (show t.length ≤ 5000 by omega), decide_eq_true rfl]
    rw [if_neg (show ¬ (ltI 100 (t.length : Int) = true) by rw [ltI_neg (by omega)]; simp)]
    by_cases h : blkErr c s m t.length = 0
    · obtain ⟨hc, hs, hm, hnc, _⟩ := blkErr_zero h
      have hl := blkPack_length c s m t hnc
      have hp := blkPack_bytes c s m t hm (by omega) hb
      have h1 := blkMake_eq 6000 (by decide) c s m t h hb
      have h2 := refBytes_eq 6000 (by decide) c s m t h hb
      have h3 := blkRead_eq 6000 (by decide) c (blkPack c s m t) (by omega) (.inl (by omega)) hp
      rw [blkRead_pack c s m t h] at h3
      have h4 : m14F 6000 (blkPack c s m t) (blkPack c s m t) = some true := by
        rw [bytes_eq' 6000 (by decide) _ _ (by omega), decide_eq_true rfl]
      simp only [twin_eq 6000 t (by omega), Option.bind_some, refBlock_eq, blkCheck_eq, h, hz, Bool.false_eq_true, if_false, kb, Bool.not_true, h1, h2, h3, h4, e0, if_true, hw]
    · have h1 := blkMake_bad 6000 c s m t h
      have hne : (!eqI (blkErr c s m t.length) 0) = true := by rw [eqI_neg h]; rfl
      have hl0 : eqI (([] : List Int).length : Int) 0 = true := eqI_pos rfl
      simp only [twin_eq 6000 t (by omega), Option.bind_some, refBlock_eq, blkCheck_eq, hz, Bool.false_eq_true, if_false, kb, Bool.not_true, h1, hne, if_true, hl0, hw]
  · rw [if_pos (ltI_pos (by omega))]

end Go.Proofs.Ytojomolplnnpmaa.Mini
