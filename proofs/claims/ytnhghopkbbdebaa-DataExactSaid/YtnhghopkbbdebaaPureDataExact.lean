/- The packet of any data, or why it has none, is the page's; it is read as that: a plain law. -/
import Derived.Test.YtnhghopkbbdebaaPL
import Derived.Test.YtnhghopkbbdebaaMDataExact
set_option linter.unusedVariables false
set_option linter.unusedSimpArgs false
namespace Go.Proofs.Ytnhghopkbbdebaa.Mini
open Go Go.RowKit Go.Proofs

theorem dataExact (d : Int × (Int × (Int × List Int))) (wd : WfK (.pair (.int .i64) (.pair (.int .i64) (.pair (.int .i64) (.row (.int .u8))))) d) : ∃ k, m3F k d = some true := by
  refine ⟨6000, ?_⟩
  obtain ⟨s, r, f, x⟩ := d
  have hb := bytes_wf wd.2.2.2
  have hw := wakes14 6000 (by decide)
  have hz : ∀ z : Int, (!eqI z z) = false := fun z => by rw [eqI_pos rfl]; rfl
  have e0 : ∀ z : Int, eqI z z = true := fun z => eqI_pos rfl
  simp only [m3F, m3X]
  by_cases hn : x.length ≤ 200
  · have kd : m12F 6000 (s, r, f, x) (s, r, f, x) = some true := by
      rw [datEq_eq 6000 (by decide) s r f s r f x x (by omega), decide_eq_true rfl]
    rw [if_neg (show ¬ (ltI 200 (x.length : Int) = true) by rw [ltI_neg (by omega)]; simp)]
    by_cases h : datBad s r f x.length = 0
    · have h1 := datMake_eq 6000 (by decide) s r f x h
      have h2 := refPacket_eq 6000 (by decide) s r f x h
      have hl := datPack_length s r f x
      have h3 := datRead_eq 6000 (by decide) (datPack s r f x) (by omega) (datPack_bytes s r f x hb)
      rw [datRead_pack s r f x h] at h3
      have h4 : m14F 6000 (datPack s r f x) (datPack s r f x) = some true := by
        rw [bytes_eq' 6000 (by decide) _ _ (by omega), decide_eq_true rfl]
      simp only [twin_eq 6000 x (by omega), Option.bind_some, refDat_eq, h, hz, Bool.false_eq_true, if_false, kd, Bool.not_true, h1, h2, h3, h4, e0, if_true, hw]
    · have h1 := datMake_bad 6000 s r f x h
      have hne : (!eqI (datBad s r f x.length) 0) = true := by rw [eqI_neg h]; rfl
      have hl0 : eqI (([] : List Int).length : Int) 0 = true := eqI_pos rfl
      simp only [twin_eq 6000 x (by omega), Option.bind_some, refDat_eq, hz, Bool.false_eq_true, if_false, kd, Bool.not_true, h1, hne, if_true, hl0, hw]
  · rw [if_pos (ltI_pos (by omega))]

end Go.Proofs.Ytnhghopkbbdebaa.Mini
