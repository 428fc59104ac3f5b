/- Bits, nibbles, and what rows of any numbers are put together to, are the page's: a plain law. -/
import Derived.Test.YtmjbjlhjpdebjaaPL
import Derived.Test.YtmjbjlhjpdebjaaMBitExact
set_option linter.unusedVariables false
set_option linter.unusedSimpArgs false
namespace Go.Proofs.Ytmjbjlhjpdebjaa.Mini
open Go Go.RowKit Go.Proofs

theorem pack_both (l : List Int) (hl : l.length ≤ 3000) : ∃ r, m29F 6000 l = some r ∧ m30F 6000 l = some r ∧ r.1.length ≤ 3000 := by
  by_cases hm : l.length % 8 = 0
  · by_cases hb : ∃ x ∈ l, ¬ okS 1 x
    · exact ⟨_, pack_of 6000 l _ (together_bad 6000 1 (.inl rfl) l (by omega) hm (by omega) hb), refpack_bad 6000 l (by omega) hm (by omega) hb, by decide⟩
    · have hb' : ∀ x ∈ l, okS 1 x := fun x hx => Decidable.not_not.1 fun h => hb ⟨x, hx, h⟩
      refine ⟨_, pack_of 6000 l _ (together_eq 6000 1 (l.length / 8) (.inl rfl) l (by rw [show 8 / 1 = 8 from rfl]; omega) (by omega) (by decide) (by omega) hb'), refpack_eq 6000 (l.length / 8) (by omega) l (by omega) (by omega) hb', ?_⟩
      rw [List.length_map, chn_len]
      omega
  · exact ⟨_, pack_of 6000 l _ (together_len 6000 1 (.inl rfl) l (.inr (by rw [show 8 / 1 = 8 from rfl]; exact hm))), refpack_len 6000 l (.inr hm), by decide⟩
theorem join_both (l : List Int) (hl : l.length ≤ 3000) : ∃ r, m31F 6000 l = some r ∧ m32F 6000 l = some r ∧ r.1.length ≤ 3000 := by
  by_cases hm : l.length % 2 = 0
  · by_cases hb : ∃ x ∈ l, ¬ okS 4 x
    · exact ⟨_, join_of 6000 l _ (together_bad 6000 4 (.inr rfl) l (by omega) hm (by omega) hb), refjoin_bad 6000 l (by omega) hm (by omega) hb, by decide⟩
    · have hb' : ∀ x ∈ l, okS 4 x := fun x hx => Decidable.not_not.1 fun h => hb ⟨x, hx, h⟩
      refine ⟨_, join_of 6000 l _ (together_eq 6000 4 (l.length / 2) (.inr rfl) l (by rw [show 8 / 4 = 2 from rfl]; omega) (by omega) (by decide) (by omega) hb'), refjoin_eq 6000 (l.length / 2) (by omega) l (by omega) (by omega) hb', ?_⟩
      rw [List.length_map, chn_len]
      omega
  · exact ⟨_, join_of 6000 l _ (together_len 6000 4 (.inr rfl) l (.inr (by rw [show 8 / 4 = 2 from rfl]; exact hm))), refjoin_len 6000 l (.inr hm), by decide⟩
theorem bitExact (b l : List Int) (wb : WfK (.row (.int .u8)) b) (_ : WfK (.row (.int .i64)) l) : ∃ k, m7F k b l = some true := by
  refine ⟨6000, ?_⟩
  have hb := bytes_wf wb
  have hz : ∀ z : Int, (!eqI z z) = false := fun z => by rw [eqI_pos rfl]; rfl
  have he : ∀ z : Int, eqI z z = true := fun z => eqI_pos rfl
  simp only [m7F, m7X]
  by_cases hl : b.length ≤ 300
  · rw [if_neg (show ¬ (ltI 300 (b.length : Int) = true) by rw [ltI_neg (by omega)]; simp)]
    by_cases hr : l.length ≤ 3000
    · rw [if_neg (show ¬ (ltI 3000 (l.length : Int) = true) by rw [ltI_neg (by omega)]; simp)]
      have t1 := twin_eq 6000 b (by omega)
      have t2 := twinInts_eq' 6000 l (by omega)
      have h1 := bits_eq 6000 b (by omega) (by decide) (by omega) hb
      have h2 := nibbles_eq 6000 b (by omega) (by decide) (by omega) hb
      have h3 := refbits_eq 6000 b (by omega) (by omega) hb
      have h4 := refnib_eq 6000 b (by omega) (by omega) hb
      have h5 := ints_eq' 6000 (by decide) (bitsB b) (bitsB b) (by rw [bitsB_length]; omega)
      rw [decide_eq_true rfl] at h5
      have h6 := ints_eq' 6000 (by decide) (nibB b) (nibB b) (by rw [nibB_len]; omega)
      rw [decide_eq_true rfl] at h6
      obtain ⟨s1, h7⟩ := spoilI_eq 6000 0 (bitsB b).length (by rw [bitsB_length]; omega) (by rw [bitsB_length]; omega) (bitsB b)
      obtain ⟨s2, h8⟩ := spoilI_eq 6000 0 (nibB b).length (by rw [nibB_len]; omega) (by rw [nibB_len]; omega) (nibB b)
      obtain ⟨p, p1, p2, p3⟩ := pack_both l hr
      obtain ⟨q, q1, q2, q3⟩ := join_both l hr
      have h9 := bytes_eq' 6000 (by decide) p.1 p.1 (by omega)
      rw [decide_eq_true rfl] at h9
      have h10 := bytes_eq' 6000 (by decide) q.1 q.1 (by omega)
      rw [decide_eq_true rfl] at h10
      obtain ⟨s3, h11⟩ := spoil_eq 6000 0 p.1.length (by omega) (by omega) p.1
      have h12 := bytes_eq' 6000 (by decide) b b (by omega)
      rw [decide_eq_true rfl] at h12
      have h13 := ints_eq' 6000 (by decide) l l (by omega)
      rw [decide_eq_true rfl] at h13
      have hw := wakes01 6000 (by decide)
      simp only [t1, t2, h1, h2, h3, h4, h5, h6, h7, h8, p1, p2, q1, q2, h9, h10, h11, h12, h13, hw, Option.bind_some, hz, he, Bool.false_eq_true, if_false, if_true, Bool.not_true]
    · rw [if_pos (ltI_pos (by omega))]
  · rw [if_pos (ltI_pos (by omega))]

end Go.Proofs.Ytmjbjlhjpdebjaa.Mini
