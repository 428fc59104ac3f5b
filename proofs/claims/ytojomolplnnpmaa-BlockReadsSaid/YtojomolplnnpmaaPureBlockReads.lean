/- What any bytes are read as, or why they are none, is the page's; what is read is made again: a plain law. -/
import Derived.Test.YtojomolplnnpmaaPL
import Derived.Test.YtojomolplnnpmaaMBlockReads
set_option linter.unusedVariables false
namespace Go.Proofs.Ytojomolplnnpmaa.Mini
open Go Go.RowKit Go.Proofs

open Crc Be in
theorem blkRead_cases (c : Int) (l : List Int) (hb : ∀ x ∈ l, isByte x) : (∃ s m t, blkRead c l = ((s, m, t), 0) ∧ blkErr c s m t.length = 0 ∧ blkPack c s m t = l ∧ ∀ x ∈ t, isByte x) ∨ ∃ e, e ≠ 0 ∧ blkRead c l = ((0, 0, []), e) := by
  unfold blkRead
  split
  · exact .inr ⟨1, by decide, rfl⟩
  · split
    · exact .inr ⟨2, by decide, rfl⟩
    · split
      · exact .inr ⟨4, by decide, rfl⟩
      · split
        · exact .inr ⟨3, by decide, rfl⟩
        · split
          · exact .inr ⟨3, by decide, rfl⟩
          · split
            · rename_i h5 h6
              exact .inl ⟨_, _, _, rfl, Decidable.not_not.1 h5, h6, fun x hx => hb x (List.mem_of_mem_take (List.mem_of_mem_drop hx))⟩
            · exact .inr ⟨3, by decide, rfl⟩
theorem blockReads (c : Int) (l : List Int) (wc : (Lit.int .i64 c).wf = true) (wl : WfK (.row (.int .u8)) l) : ∃ k, m4F k c l = some true := by
  refine ⟨6000, ?_⟩
  have hb := bytes_wf wl
  obtain ⟨c0, c1⟩ := Bv.wf_i64 wc
  have hw := wakes13 6000 (by decide)
  have hz : ∀ z : Int, (!eqI z z) = false := fun z => by rw [eqI_pos rfl]; rfl
  have e0 : ∀ z : Int, eqI z z = true := fun z => eqI_pos rfl
  simp only [m4F, m4X]
  by_cases hn : l.length ≤ 100
  · rw [if_neg (show ¬ (ltI 100 (l.length : Int) = true) by rw [ltI_neg (by omega)]; simp)]
    have h1 := blkRead_eq 6000 (by decide) c l (by omega) (by omega) hb
    have h2 := refRead_eq 6000 (by decide) c l (by omega) hb
    have h4 : m14F 6000 l l = some true := by
      rw [bytes_eq' 6000 (by decide) _ _ (by omega), decide_eq_true rfl]
    rcases blkRead_cases c l hb with ⟨s, m, t, h, he, hp, ht⟩ | ⟨e, he, h⟩
    · rw [h] at h1 h2
      obtain ⟨hc, hs, hm, hnc, _⟩ := blkErr_zero he
      have kb : m12F 6000 (s, m, t) (s, m, t) = some true := by
        rw [keepBlock_eq 6000 (by decide) (s, m, t) (s, m, t) (show t.length ≤ 5000 by omega), decide_eq_true rfl]
      have h5 := blkMake_eq 6000 (by decide) c s m t he ht
      rw [hp] at h5
      simp only [twin_eq 6000 l (by omega), Option.bind_some, h1, h2, h4, kb, h5, hz, e0, Bool.false_eq_true, if_false, Bool.not_true, if_true, hw]
    · rw [h] at h1 h2
      have kb : m12F 6000 (0, 0, []) (0, 0, []) = some true := by
        rw [keepBlock_eq 6000 (by decide) (0, 0, []) (0, 0, []) (by decide), decide_eq_true rfl]
      have hne : (!eqI e 0) = true := by rw [eqI_neg he]; rfl
      simp only [twin_eq 6000 l (by omega), Option.bind_some, h1, h2, h4, kb, hz, hne, Bool.false_eq_true, if_false, Bool.not_true, if_true, hw]
  · rw [if_pos (ltI_pos (by omega))]

end Go.Proofs.Ytojomolplnnpmaa.Mini
