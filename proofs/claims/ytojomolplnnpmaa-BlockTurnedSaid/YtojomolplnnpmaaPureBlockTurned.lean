/- A block's bytes with up to 32 bits side by side turned about, one at least, are none: a plain law. -/
import Derived.Test.YtojomolplnnpmaaPL
import Derived.Test.YtojomolplnnpmaaMBlockTurned
set_option linter.unusedVariables false
namespace Go.Proofs.Ytojomolplnnpmaa.Mini
open Go Go.RowKit Go.Proofs

open Crc in
theorem turned_end (k : Nat) (hk : 5001 ≤ k) (c s m : Int) (t : List Int) (h : blkErr c s m t.length = 0) (ht : ∀ x ∈ t, isByte x) (x : List Int) (a i B : Nat) (hi : i ≤ 32) (hf : Flip (blkPack c s m t) x a i B) :
    m5F34 k c (decide (B % 2 ^ i ≠ 0)) x = some true := by
  obtain ⟨hc, hs, hm, hn, _⟩ := blkErr_zero h
  have l0 := blkPack_length c s m t hn
  have hl : x.length = 10 + c.toNat := by rw [hf.len, l0]
  have hr := blkRead_eq k hk c x (by omega) (.inl (by omega)) hf.byt
  have hw := wakes13 k hk
  have hsd := hf.sealed hi (by omega) (blkPack_bytes c s m t hm (by omega) ht) (isSealed_seal _)
  have e0 : ∀ z : Int, eqI z z = true := fun z => eqI_pos rfl
  have kb : m12F k (0, 0, []) (0, 0, []) = some true := by
    rw [keepBlock_eq k hk (0, 0, []) (0, 0, []) (by decide), decide_eq_true rfl]
  by_cases hz : B % 2 ^ i = 0
  · have e1 : decide (B % 2 ^ i ≠ 0) = false := by simp [hz]
    rw [hf.same hz, blkRead_pack c s m t h] at hr
    rw [hf.same hz, e1]
    simp only [m5F34, m5X34, hr, Option.bind_some, Bool.not_false, if_true, e0, hw]
  · have e1 : decide (B % 2 ^ i ≠ 0) = true := by simp [hz]
    have e2 : blkRead c x = ((0, 0, []), 4) := by
      unfold blkRead
      rw [if_neg (show ¬ (c < 1 ∨ 16 < c) by omega), if_neg (show ¬ ((x.length : Int) ≠ c + 10) by omega), hsd, if_pos (by simp [hz])]
    rw [e2] at hr
    rw [e1]
    simp only [m5F34, m5X34, hr, Option.bind_some, Bool.not_true, Bool.false_eq_true, if_false, if_true, e0, kb, hw]
open Crc in
theorem turned_loop (k : Nat) (hk : 5001 ≤ k) (c s m : Int) (t : List Int) (h : blkErr c s m t.length = 0) (ht : ∀ x ∈ t, isByte x) (a B n : Nat) (hn : (blkPack c s m t).length = n) (ha : a < 8 * n) (hn2 : n ≤ 100) (hB : B < 4294967296) : ∀ (d i j : Nat) (x : List Int), i + d = 32 → d < j →
    Flip (blkPack c s m t) x a i B → m5F25 k j c (a : Int) (B : Int) ((8 * n : Nat) : Int) (decide (B % 2 ^ i ≠ 0)) (i : Int) x = some true := by
  have ha5 : a ≤ 50000 := by omega
  intro d
  induction d with
  | zero =>
    intro i j x hi hj hf
    obtain ⟨j, rfl⟩ : ∃ y, j = y + 1 := ⟨j - 1, by omega⟩
    have c1 : ¬ (ltI (i : Int) 32 = true) := by rw [ltI_neg (by omega)]; simp
    rw [m5F25, m5X25, if_neg c1]
    exact turned_end k hk c s m t h ht x a i B (Nat.le.intro hi) hf
  | succ d ih =>
    intro i j x hi hj hf
    obtain ⟨j, rfl⟩ : ∃ y, j = y + 1 := ⟨j - 1, by omega⟩
    have hi32 : i < 32 := by omega
    have g1 : i + 1 + d = 32 := by omega
    have g2 : d < j := by omega
    have e8 : (!eqI 8 0) = true := by rw [eqI_neg (by decide)]; rfl
    have hxl : x.length = n := by rw [hf.len, hn]
    by_cases hlt : a + i < 8 * n
    · obtain ⟨w, t1, t2, w1, w2, n1, n2, q1, q2, q3, q4⟩ := turn_ar a i n hlt (by omega)
      obtain ⟨r1, r2, r3, r4⟩ := turn_ar2 i hi32
      have hb8 : isByte (x.getD ((a + i) / 8) 0) := by
        rw [List.getD_eq_getElem?_getD, List.getElem?_eq_getElem (by rw [hxl]; exact n1)]
        exact hf.byt _ (List.getElem_mem _)
      have tb := turn_bit k (x.getD ((a + i) / 8) 0) ((a + i) % 8) hb8 n2
      have hlk := look_bit B i hB hi32
      rw [w2] at tb
      rw [r2, Int.toNat_natCast] at hlk
      rw [← hxl] at q2
      simp only [m5F25, m5X25, r1, if_true, w, q1, r2, r3, hlk, e8, t1, w1, q3, q2, t2, w2, q4, Int.toNat_natCast]
      rw [Int.toNat_natCast] at tb
      rw [tb]
      by_cases hbit : B / 2 ^ i % 2 = 1
      · rw [hbit, if_pos (eqI_pos (show ((1 : Nat) : Int) = 1 from rfl))]
        simp only [m5F26, m5X26, r4]
        have := ih (i + 1) j _ g1 g2 (hf.one hbit (by rw [hn]; exact hlt) hi32)
        rw [turned_yes B i hbit] at this
        exact this
      · have hbit0 : B / 2 ^ i % 2 = 0 := (Nat.mod_two_eq_zero_or_one _).resolve_right hbit
        have c2 : ¬ (eqI ((B / 2 ^ i % 2 : Nat) : Int) 1 = true) := by rw [hbit0, eqI_neg (by decide)]; simp
        rw [if_neg c2]
        simp only [m5F26, m5X26, r4]
        have := ih (i + 1) j _ g1 g2 (hf.skip hbit0)
        rw [turned_no B i hbit0] at this
        exact this
    · obtain ⟨w, q1⟩ := turn_ar3 a i n hlt ha5 hi32
      obtain ⟨r1, _⟩ := turn_ar2 i hi32
      simp only [m5F25, m5X25, r1, if_true, w, q1, Bool.false_eq_true, if_false]
      exact turned_end k hk c s m t h ht x a i B (Nat.le.intro hi) hf
theorem blockTurned (c : Int) (b : Int × (Int × List Int)) (at_ turn : Int) (wc : (Lit.int .i64 c).wf = true) (wb : WfK (.pair (.int .i64) (.pair (.int .i64) (.row (.int .u8)))) b) (wa : (Lit.int .i64 at_).wf = true) (wt : (Lit.int .u32 turn).wf = true) : ∃ k, m5F k c b at_ turn = some true := by
  refine ⟨6000, ?_⟩
  obtain ⟨s, m, t⟩ := b
  have hb := bytes_wf wb.2.2
  obtain ⟨t0, t1⟩ := Bv.wf_u32 wt
  have hw := wakes13 6000 (by decide)
  have hz : ∀ z : Int, (!eqI z z) = false := fun z => by rw [eqI_pos rfl]; rfl
  simp only [m5F, m5X]
  by_cases hn : t.length ≤ 100
  · rw [if_neg (show ¬ (ltI 100 (t.length : Int) = true) by rw [ltI_neg (by omega)]; simp)]
    by_cases h3 : turn = 0
    · rw [if_pos (eqI_pos h3)]
    · rw [if_neg (show ¬ (eqI turn 0 = true) by rw [eqI_neg h3]; simp)]
      by_cases h : blkErr c s m t.length = 0
      · obtain ⟨hc, hs, hm, hnc, _⟩ := blkErr_zero h
        have hl := blkPack_length c s m t hnc
        obtain ⟨n, hn'⟩ : ∃ n, (blkPack c s m t).length = n := ⟨_, rfl⟩
        obtain ⟨_, _, _, _, _, _, w10⟩ := blk_ar c m t.length hc hm hnc
        have ar : n ≤ 100 ∧ 0 < 8 * n ∧ (!eqI (n : Int) (c + 10)) = false ∧ wr .i64 (8 * (n : Int)) = ((8 * n : Nat) : Int) ∧ wr .u64 ((8 * n : Nat) : Int) = ((8 * n : Nat) : Int) ∧ (!eqI ((8 * n : Nat) : Int) 0) = true := by
          clear w10
          exact ⟨by omega, by omega, by rw [eqI_pos (by omega)]; rfl, by rw [w64 (by omega) (by omega)]; omega, wu64 (by omega) (by omega), by rw [eqI_neg (by omega)]; rfl⟩
        obtain ⟨a1, a2, a3, a4, a5, a6⟩ := ar
        obtain ⟨a, ha, ea⟩ := umod at_ (8 * n) a2 (by clear w10 a4 a5; omega)
        obtain ⟨B, rfl⟩ := Int.eq_ofNat_of_zero_le t0
        have lp := turned_loop 6000 (by decide) c s m t h hb a B n hn' ha a1 (Int.ofNat_lt.1 t1) 32 0 6000 (blkPack c s m t) rfl (by decide) (Flip.zero (blkPack_bytes c s m t hm (by clear w10 a4 a5 ea; omega) hb))
        have hz0 : decide (B % 2 ^ 0 ≠ 0) = false := by rw [Nat.pow_zero, Nat.mod_one]; rfl
        rw [hz0] at lp
        simp only [blkMake_eq 6000 (by decide) c s m t h hb, Option.bind_some, hz, Bool.false_eq_true, if_false, hn', w10, a3, a4, a5, a6, if_true, ea]
        exact lp
      · have h1 := blkMake_bad 6000 c s m t h
        have hne : (!eqI (blkErr c s m t.length) 0) = true := by rw [eqI_neg h]; rfl
        have hl0 : eqI (([] : List Int).length : Int) 0 = true := eqI_pos rfl
        simp only [h1, Option.bind_some, hne, if_true, hl0, hw]
  · rw [if_pos (ltI_pos (by omega))]

end Go.Proofs.Ytojomolplnnpmaa.Mini
