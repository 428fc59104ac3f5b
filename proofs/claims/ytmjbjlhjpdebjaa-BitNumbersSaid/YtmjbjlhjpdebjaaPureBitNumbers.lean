/- Numbers that are put, and got, of any bytes, and how many ones any number has, are the page's: a plain law. -/
import Derived.Test.YtmjbjlhjpdebjaaPL
import Derived.Test.YtmjbjlhjpdebjaaMBitNumbers
set_option linter.unusedVariables false
set_option linter.unusedSimpArgs false
namespace Go.Proofs.Ytmjbjlhjpdebjaa.Mini
open Go Go.RowKit Go.Proofs

theorem bitNumbers (b : List Int) (n a s : Int) (wb : WfK (.row (.int .u8)) b) (wn : (Lit.int .i64 n).wf = true) (wa : (Lit.int .i64 a).wf = true) (ws : (Lit.int .i64 s).wf = true) : ∃ k, m6F k b n a s = some true := by
  refine ⟨6000, ?_⟩
  have hb := bytes_wf wb
  obtain ⟨n0, n1⟩ := Bv.wf_i64 wn
  have hw := wakes01 6000 (by decide)
  have hz : ∀ z : Int, (!eqI z z) = false := fun z => by rw [eqI_pos rfl]; rfl
  have e0 : ∀ z : Int, eqI z z = true := fun z => eqI_pos rfl
  simp only [m6F, m6X]
  by_cases hn : b.length ≤ 300
  · rw [if_neg (show ¬ (ltI 300 (b.length : Int) = true) by rw [ltI_neg (by omega)]; simp)]
    obtain ⟨r, p1, p2, p3⟩ := put_both 6000 (by decide) b n s hn
    obtain ⟨g, q1, q2⟩ := get_both 6000 (by decide) b a s hn hb
    have h4 : m20F 6000 b b = some true := by
      rw [bytes_eq' 6000 (by decide) _ _ (by omega), decide_eq_true rfl]
    have h5 : m20F 6000 r.1 r.1 = some true := by
      rw [bytes_eq' 6000 (by decide) _ _ (by omega), decide_eq_true rfl]
    obtain ⟨z, h6⟩ := spoil_eq 6000 0 r.1.length (by omega) (by omega) r.1
    have o1 := ones_any 6000 n
    have o2 := refones_any 6000 (by decide) n (by omega)
    simp only [twin_eq 6000 b (by omega), Option.bind_some, p1, p2, q1, q2, h4, h5, h6, o1, o2, hz, e0, Bool.false_eq_true, if_false, Bool.not_true, if_true, hw]
  · rw [if_pos (ltI_pos (by omega))]

end Go.Proofs.Ytmjbjlhjpdebjaa.Mini
