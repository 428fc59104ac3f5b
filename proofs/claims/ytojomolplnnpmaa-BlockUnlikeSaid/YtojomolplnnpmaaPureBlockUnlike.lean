/- Unlike blocks have unlike bytes, like ones like ones; where the number, the mark, the length stand: a plain law. -/
import Derived.Test.YtojomolplnnpmaaPL
import Derived.Test.YtojomolplnnpmaaMBlockUnlike
set_option linter.unusedVariables false
namespace Go.Proofs.Ytojomolplnnpmaa.Mini
open Go Go.RowKit Go.Proofs

theorem or4 (a b c d : Nat) (ha : a < 256) (hb : b < 256) (hc : c < 256) (hd : d < 256) : bits .or .i64 (bits .or .i64 (bits .or .i64 (wr .i64 (wr .i64 (a : Int) * 16777216)) (wr .i64 (wr .i64 (b : Int) * 65536))) (wr .i64 (wr .i64 (c : Int) * 256))) (wr .i64 (d : Int)) = ((a * 16777216 + b * 65536 + c * 256 + d : Nat) : Int) := by
  have e1 : wr .i64 (wr .i64 (a : Int) * 16777216) = ((a * 16777216 : Nat) : Int) := by
    rw [w64n (by omega), w64 (by omega) (by omega)]
    omega
  have e2 : wr .i64 (wr .i64 (b : Int) * 65536) = ((b * 65536 : Nat) : Int) := by
    clear e1
    rw [w64n (by omega), w64 (by omega) (by omega)]
    omega
  have e3 : wr .i64 (wr .i64 (c : Int) * 256) = ((c * 256 : Nat) : Int) := by
    clear e1 e2
    rw [w64n (by omega), w64 (by omega) (by omega)]
    omega
  have e4 : wr .i64 (d : Int) = (d : Int) := by
    clear e1 e2 e3
    exact w64n (by omega)
  rw [e1, e2, e3, e4]
  clear e1 e2 e3 e4
  have o1 : a * 16777216 ||| b * 65536 = a * 16777216 + b * 65536 := by
    have := Nat.two_pow_add_eq_or_of_lt (show b * 65536 < 2 ^ 24 by omega) a
    rw [show 2 ^ 24 = 16777216 from rfl, Nat.mul_comm] at this
    exact this.symm
  have o2 : (a * 16777216 + b * 65536) ||| c * 256 = a * 16777216 + b * 65536 + c * 256 := by
    have := Nat.two_pow_add_eq_or_of_lt (show c * 256 < 2 ^ 16 by omega) (a * 256 + b)
    rw [show 2 ^ 16 * (a * 256 + b) = a * 16777216 + b * 65536 by rw [show 2 ^ 16 = 65536 from rfl]; omega] at this
    exact this.symm
  have o3 : (a * 16777216 + b * 65536 + c * 256) ||| d = a * 16777216 + b * 65536 + c * 256 + d := by
    have := Nat.two_pow_add_eq_or_of_lt (show d < 2 ^ 8 by omega) (a * 65536 + b * 256 + c)
    rw [show 2 ^ 8 * (a * 65536 + b * 256 + c) = a * 16777216 + b * 65536 + c * 256 by rw [show 2 ^ 8 = 256 from rfl]; omega] at this
    exact this.symm
  rw [Be.orN _ _ (by omega) (by omega), o1, Be.orN _ _ (by omega) (by omega), o2, Be.orN _ _ (by omega) (by omega), o3]
theorem or4s (s : Int) (h0 : 0 ≤ s) (h1 : s < 1073741824) : bits .or .i64 (bits .or .i64 (bits .or .i64 (wr .i64 (wr .i64 (s / 16777216 % 256) * 16777216)) (wr .i64 (wr .i64 (s / 65536 % 256) * 65536))) (wr .i64 (wr .i64 (s / 256 % 256) * 256))) (wr .i64 (s / 1 % 256)) = s := by
  obtain ⟨n, rfl⟩ := Int.eq_ofNat_of_zero_le h0
  have hn : n < 1073741824 := by omega
  have e := or4 (n / 16777216 % 256) (n / 65536 % 256) (n / 256 % 256) (n / 1 % 256) (by omega) (by omega) (by omega) (by omega)
  refine (Eq.trans e ?_)
  clear e
  have : n / 16777216 % 256 * 16777216 + n / 65536 % 256 * 65536 + n / 256 % 256 * 256 + n / 1 % 256 = n := by omega
  rw [this]
open Be Crc in
theorem blkPack_get (c s m : Int) (t : List Int) : ∃ r, blkPack c s m t = (s / 16777216 % 256) :: (s / 65536 % 256) :: (s / 256 % 256) :: (s / 1 % 256) :: m :: (t.length : Int) :: (t ++ r) := by
  refine ⟨List.replicate (c.toNat - t.length) 0 ++ seal4 (sum32 (blkBody c s m t)), ?_⟩
  have hb : be 4 s = [s / 16777216 % 256, s / 65536 % 256, s / 256 % 256, s / 1 % 256] := rfl
  unfold blkPack
  conv => lhs; arg 1; unfold blkBody
  rw [hb]
  simp only [List.append_assoc, List.cons_append, List.nil_append]
open Be Crc in
theorem blk_like (k : Nat) (hk : 6000 ≤ k) (c s m s' m' : Int) (t t' : List Int) (h : blkErr c s m t.length = 0) (h' : blkErr c s' m' t'.length = 0) (ht : ∀ x ∈ t, isByte x) (ht' : ∀ x ∈ t', isByte x) :
    decide (blkPack c s m t = blkPack c s' m' t') = decide ((s, m, t) = (s', m', t')) := by
  by_cases he : (s, m, t) = (s', m', t')
  · cases he
    rw [decide_eq_true rfl, decide_eq_true rfl]
  · rw [decide_eq_false he, decide_eq_false fun hp => ?_]
    have h1 := blkRead_pack c s m t h
    rw [hp, blkRead_pack c s' m' t' h'] at h1
    exact he (congrArg Prod.fst h1).symm
theorem blk_get_ar (n : Nat) (len : Nat) (c : Int) (hc : 1 ≤ c ∧ c ≤ 16) (hn : (n : Int) ≤ c) (hl : len = 10 + c.toNat) : ltI 0 (len : Int) = true ∧ ltI 1 (len : Int) = true ∧ ltI 2 (len : Int) = true ∧ ltI 3 (len : Int) = true ∧ ltI 4 (len : Int) = true ∧ ltI 5 (len : Int) = true ∧
    wr .i64 (6 + (n : Int)) = ((6 + n : Nat) : Int) ∧ leI 0 ((6 + n : Nat) : Int) = true ∧ leI ((6 + n : Nat) : Int) (len : Int) = true ∧ leI 6 ((6 + n : Nat) : Int) = true ∧ wr .i64 (n : Int) = (n : Int) ∧ (!eqI (len : Int) (c + 10)) = false ∧ 6 + n - 6 = n :=
  ⟨ltI_pos (by omega), ltI_pos (by omega), ltI_pos (by omega), ltI_pos (by omega), ltI_pos (by omega), ltI_pos (by omega), by rw [w64 (by omega) (by omega)]; omega, leI_pos (by omega), leI_pos (by omega), leI_pos (by omega), w64n (by omega), by rw [eqI_pos (by omega)]; rfl, by omega⟩
open Be Crc in
theorem blockUnlike (c : Int) (a b : Int × (Int × List Int)) (wc : (Lit.int .i64 c).wf = true) (wa : WfK (.pair (.int .i64) (.pair (.int .i64) (.row (.int .u8)))) a) (wb : WfK (.pair (.int .i64) (.pair (.int .i64) (.row (.int .u8)))) b) : ∃ k, m6F k c a b = some true := by
  refine ⟨6000, ?_⟩
  obtain ⟨s, m, t⟩ := a
  obtain ⟨s', m', t'⟩ := b
  have hb := bytes_wf wa.2.2
  have hb' := bytes_wf wb.2.2
  have hw := wakes13 6000 (by decide)
  have hz : ∀ z : Int, (!eqI z z) = false := fun z => by rw [eqI_pos rfl]; rfl
  have e0 : ∀ z : Int, eqI z z = true := fun z => eqI_pos rfl
  have hl0 : eqI (([] : List Int).length : Int) 0 = true := eqI_pos rfl
  simp only [m6F, m6X]
  by_cases hn : t.length ≤ 100
  · by_cases hn' : t'.length ≤ 100
    · rw [if_neg (show ¬ (ltI 100 (t.length : Int) = true) by rw [ltI_neg (by omega)]; simp), if_neg (show ¬ (ltI 100 (t'.length : Int) = true) by rw [ltI_neg (by omega)]; simp)]
      by_cases h : blkErr c s m t.length = 0
      · have h1 := blkMake_eq 6000 (by decide) c s m t h hb
        by_cases h' : blkErr c s' m' t'.length = 0
        · have h2 := blkMake_eq 6000 (by decide) c s' m' t' h' hb'
          obtain ⟨hc, hs, hm, hnc, _⟩ := blkErr_zero h
          obtain ⟨_, hs', hm', hnc', _⟩ := blkErr_zero h'
          have hl := blkPack_length c s m t hnc
          have hl' := blkPack_length c s' m' t' hnc'
          have hs1 := sealed_eq 6000 (by decide) (blkPack c s m t) (by omega) (blkPack_bytes c s m t hm (by omega) hb)
          have hs2 : isSealed (blkPack c s m t) = true := isSealed_seal _
          rw [hs2] at hs1
          have hbe := bytes_eq' 6000 (by decide) (blkPack c s m t) (blkPack c s' m' t') (by omega)
          have hke := keepBlock_eq 6000 (by decide) (s, m, t) (s', m', t') (show t.length ≤ 5000 by omega)
          have hlike := blk_like 6000 (by decide) c s m s' m' t t' h h' hb hb'
          have htt : m14F 6000 t t = some true := by
            rw [bytes_eq' 6000 (by decide) _ _ (by omega), decide_eq_true rfl]
          obtain ⟨_, _, _, _, _, _, w10⟩ := blk_ar c m t.length hc hm hnc
          obtain ⟨q0, q1, q2, q3, q4, q5, q6, q7, q8, q9, qa, qb, qc⟩ := blk_get_ar t.length (blkPack c s m t).length c hc hnc hl
          obtain ⟨_, _, _, _, _, _, _, _, _, _, _, qb', _⟩ := blk_get_ar t'.length (blkPack c s' m' t').length c hc hnc' hl'
          have wm : wr .i64 m = m := by
            clear w10 q6 qa
            exact w64 (by omega) (by omega)
          have hor := or4s s hs.1 hs.2
          have g : ∀ z : Int, leI 0 z = true ↔ 0 ≤ z := fun z => leI_iff 0 z
          have g0 : leI 0 0 = true := leI_pos (by decide)
          have g1 : leI 0 1 = true := leI_pos (by decide)
          have g2 : leI 0 2 = true := leI_pos (by decide)
          have g3 : leI 0 3 = true := leI_pos (by decide)
          have g4 : leI 0 4 = true := leI_pos (by decide)
          have g5 : leI 0 5 = true := leI_pos (by decide)
          have g6 : leI 0 6 = true := leI_pos (by decide)
          have g8 : leI 0 8 = true := leI_pos (by decide)
          have g16 : leI 0 16 = true := leI_pos (by decide)
          have g24 : leI 0 24 = true := leI_pos (by decide)
          obtain ⟨r, hr⟩ := blkPack_get c s m t
          have d0 : (blkPack c s m t).getD 0 0 = s / 16777216 % 256 := by rw [hr]; rfl
          have d1 : (blkPack c s m t).getD 1 0 = s / 65536 % 256 := by rw [hr]; rfl
          have d2 : (blkPack c s m t).getD 2 0 = s / 256 % 256 := by rw [hr]; rfl
          have d3 : (blkPack c s m t).getD 3 0 = s / 1 % 256 := by rw [hr]; rfl
          have d4 : (blkPack c s m t).getD 4 0 = m := by rw [hr]; rfl
          have d5 : (blkPack c s m t).getD 5 0 = (t.length : Int) := by rw [hr]; rfl
          have d6 : ((blkPack c s m t).drop 6).take t.length = t := by
            rw [hr]
            exact List.take_left
          have dd : (!decide ((s, m, t) = (s', m', t')) == decide ((s, m, t) = (s', m', t'))) = false := by simp
          simp only [m6F14, m6X14, m6F20, m6X20, m6F22, m6X22, h1, h2, Option.bind_some, hz, Bool.false_eq_true, if_false, hs1, Bool.not_true, w10, qb, qb', hbe, hke, hlike, dd, g0, g1, g2, g3, g4, g5, g6, g8, g16, g24, q0, q1, q2, q3, q4, q5, q6, q7, q8, q9, if_true, d0, d1, d2, d3, hor, e0, d4, wm, d5, qa, Int.toNat_natCast, qc, d6, htt, hw]
        · have h2 := blkMake_bad 6000 c s' m' t' h'
          have hne' : (!eqI (blkErr c s' m' t'.length) 0) = true := by rw [eqI_neg h']; rfl
          have hne2 : eqI (blkErr c s' m' t'.length) 0 = false := eqI_neg h'
          simp only [h1, h2, Option.bind_some, hz, Bool.false_eq_true, if_false, hne', hne2, if_true, e0, hl0, hw, Bool.not_true, Bool.not_false]
      · have h1 := blkMake_bad 6000 c s m t h
        have hne : (!eqI (blkErr c s m t.length) 0) = true := by rw [eqI_neg h]; rfl
        have hne1 : eqI (blkErr c s m t.length) 0 = false := eqI_neg h
        by_cases h' : blkErr c s' m' t'.length = 0
        · have h2 := blkMake_eq 6000 (by decide) c s' m' t' h' hb'
          simp only [h1, h2, Option.bind_some, hne, hne1, if_true, hl0, e0, Bool.false_eq_true, if_false, hw, Bool.not_true, Bool.not_false]
        · have h2 := blkMake_bad 6000 c s' m' t' h'
          have hne2 : eqI (blkErr c s' m' t'.length) 0 = false := eqI_neg h'
          simp only [h1, h2, Option.bind_some, hne, hne1, hne2, if_true, hl0, e0, Bool.false_eq_true, if_false, hw, Bool.not_true, Bool.not_false]
    · rw [if_neg (show ¬ (ltI 100 (t.length : Int) = true) by rw [ltI_neg (by omega)]; simp), if_pos (ltI_pos (by omega))]
  · rw [if_pos (ltI_pos (by omega))]

end Go.Proofs.Ytojomolplnnpmaa.Mini
