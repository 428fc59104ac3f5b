/- Of a sealed text with up to 32 bits side by side turned about, one at least, it is told that it is not: a plain law. -/
import Derived.Test.YtiblpnglmicjcaaPL
import Derived.Test.YtiblpnglmicjcaaMCrcBurst
set_option linter.unusedVariables false
namespace Go.Proofs.Ytiblpnglmicjcaa.Mini
open Go Go.RowKit Go.Proofs

open Crc in
theorem isSealed_seal (t : List Int) : isSealed (t ++ seal4 (sum32 t)) = true := by
  unfold isSealed
  have h : (t ++ seal4 (sum32 t)).length - 4 = t.length := by rw [List.length_append, seal4_length]; omega
  rw [h, List.take_left, decide_eq_true (show 4 ≤ (t ++ seal4 (sum32 t)).length by rw [List.length_append, seal4_length]; omega)]
  simp
open Crc in
theorem burst_end (k : Nat) (hk : 5001 ≤ k) (x0 x : List Int) (hl : x0.length ≤ 400) (h4 : 4 ≤ x0.length) (h0 : isSealed x0 = true) (hb0 : ∀ c ∈ x0, isByte c) (a i B : Nat) (hi : i ≤ 32) (hf : Flip x0 x a i B) :
    m9F30 k (decide (B % 2 ^ i ≠ 0)) x = some true := by
  have hxl : x.length ≤ 4096 := by rw [hf.len]; omega
  have hs := sealed_eq k hk x hxl hf.byt
  rw [hf.sealed hi h4 hb0 h0] at hs
  have e0 : ∀ z : Int, eqI z z = true := fun z => eqI_pos rfl
  have hd : (!decide (B % 2 ^ i = 0) == decide (B % 2 ^ i ≠ 0)) = true := by
    by_cases h : B % 2 ^ i = 0 <;> simp [h]
  simp only [m9F30, m9X30, hs, Option.bind_some, e0, if_true, hd, wakes03 k hk]
open Crc in
theorem burst_loop (k : Nat) (hk : 5001 ≤ k) (x0 : List Int) (hl : x0.length ≤ 400) (h4 : 4 ≤ x0.length) (h0 : isSealed x0 = true) (hb0 : ∀ c ∈ x0, isByte c) (a B n : Nat) (hn : x0.length = n) (ha : a < 8 * n) (hB : B < 4294967296) : ∀ (d i j : Nat) (x : List Int), i + d = 32 → d < j →
    Flip x0 x a i B → m9F21 k j (a : Int) (B : Int) ((8 * n : Nat) : Int) (decide (B % 2 ^ i ≠ 0)) (i : Int) x = some true := by
  have ha5 : a ≤ 50000 := by omega
  intro d
  induction d with
  | zero =>
    intro i j x hi hj hf
    obtain ⟨j, rfl⟩ : ∃ y, j = y + 1 := ⟨j - 1, by omega⟩
    have c1 : ¬ (ltI (i : Int) 32 = true) := by rw [ltI_neg (by omega)]; simp
    rw [m9F21, m9X21, if_neg c1]
    exact burst_end k hk x0 x hl h4 h0 hb0 a i B (Nat.le.intro hi) hf
  | succ d ih =>
    intro i j x hi hj hf
    obtain ⟨j, rfl⟩ : ∃ y, j = y + 1 := ⟨j - 1, by omega⟩
    have hi32 : i < 32 := by omega
    have g1 : i + 1 + d = 32 := by omega
    have g2 : d < j := by omega
    have e8 : (!eqI 8 0) = true := by rw [eqI_neg (by decide)]; rfl
    have hxl : x.length = n := by rw [hf.len, hn]
    by_cases hlt : a + i < 8 * n
    · obtain ⟨w, t1, t2, w1, w2, n1, n2, q1, q2, q3, q4⟩ := turn_ar a i n hlt (by omega)
      obtain ⟨r1, r2, r3, r4⟩ := turn_ar2 i hi32
      have hb8 : isByte (x.getD ((a + i) / 8) 0) := by
        rw [List.getD_eq_getElem?_getD, List.getElem?_eq_getElem (by rw [hxl]; exact n1)]
        exact hf.byt _ (List.getElem_mem _)
      have tb := turn_bit k (x.getD ((a + i) / 8) 0) ((a + i) % 8) hb8 n2
      have hlk := look_bit B i hB hi32
      rw [w2] at tb
      rw [r2, Int.toNat_natCast] at hlk
      rw [← hxl] at q2
      simp only [m9F21, m9X21, r1, if_true, w, q1, r2, r3, hlk, e8, t1, w1, q3, q2, t2, w2, q4, Int.toNat_natCast]
      rw [Int.toNat_natCast] at tb
      rw [tb]
      by_cases hbit : B / 2 ^ i % 2 = 1
      · rw [hbit, if_pos (eqI_pos (show ((1 : Nat) : Int) = 1 from rfl))]
        simp only [m9F22, m9X22, r4]
        have := ih (i + 1) j _ g1 g2 (hf.one hbit (by rw [hn]; exact hlt) hi32)
        rw [turned_yes B i hbit] at this
        exact this
      · have hbit0 : B / 2 ^ i % 2 = 0 := (Nat.mod_two_eq_zero_or_one _).resolve_right hbit
        have c2 : ¬ (eqI ((B / 2 ^ i % 2 : Nat) : Int) 1 = true) := by rw [hbit0, eqI_neg (by decide)]; simp
        rw [if_neg c2]
        simp only [m9F22, m9X22, r4]
        have := ih (i + 1) j _ g1 g2 (hf.skip hbit0)
        rw [turned_no B i hbit0] at this
        exact this
    · obtain ⟨w, q1⟩ := turn_ar3 a i n hlt ha5 hi32
      obtain ⟨r1, _⟩ := turn_ar2 i hi32
      simp only [m9F21, m9X21, r1, if_true, w, q1, Bool.false_eq_true, if_false]
      exact burst_end k hk x0 x hl h4 h0 hb0 a i B (Nat.le.intro hi) hf
open Crc in
theorem crcBurst (l : List Int) (at_ turn : Int) (wl : WfK (.row (.int .u8)) l) (wa : (Lit.int .i64 at_).wf = true) (wt : (Lit.int .u32 turn).wf = true) : ∃ k, m9F k l at_ turn = some true := by
  refine ⟨6000, ?_⟩
  have hb := bytes_wf wl
  obtain ⟨t0, t1⟩ := Bv.wf_u32 wt
  have hz : ∀ z : Int, (!eqI z z) = false := fun z => by rw [eqI_pos rfl]; rfl
  simp only [m9F, m9X]
  by_cases hn : l.length ≤ 300
  · rw [if_neg (show ¬ (ltI 300 (l.length : Int) = true) by rw [ltI_neg (by omega)]; simp)]
    by_cases h3 : turn = 0
    · rw [if_pos (eqI_pos h3)]
    · rw [if_neg (show ¬ (eqI turn 0 = true) by rw [eqI_neg h3]; simp)]
      have h1 := seal_eq 6000 (by decide) l (by omega) hb
      have hlen : (l ++ seal4 (sum32 l)).length = l.length + 4 := by rw [List.length_append, seal4_length]
      have hby : ∀ c ∈ l ++ seal4 (sum32 l), isByte c := fun c hc => by
        rcases List.mem_append.1 hc with hc | hc
        · exact hb c hc
        · exact seal4_bytes _ c hc
      have hsd := isSealed_seal l
      generalize l ++ seal4 (sum32 l) = x0 at h1 hlen hby hsd
      obtain ⟨n, hn'⟩ : ∃ n, x0.length = n := ⟨_, rfl⟩
      have ar : 0 < 8 * n ∧ 8 * n ≤ 1000000 ∧ wr .i64 ((l.length : Int) + 4) = ((l.length + 4 : Nat) : Int) ∧ wr .i64 (8 * (n : Int)) = ((8 * n : Nat) : Int) ∧ wr .u64 ((8 * n : Nat) : Int) = ((8 * n : Nat) : Int) ∧ (!eqI ((8 * n : Nat) : Int) 0) = true ∧ (!eqI (n : Int) ((l.length + 4 : Nat) : Int)) = false ∧ x0.length ≤ 400 ∧ 4 ≤ x0.length :=
        ⟨by omega, by omega, by rw [w64 (by omega) (by omega)]; omega, by rw [w64 (by omega) (by omega)]; omega, wu64 (by omega) (by omega), by rw [eqI_neg (by omega)]; rfl, by rw [eqI_pos (by omega)]; rfl, by omega, by omega⟩
      obtain ⟨a2, a3, w4, a4, a5, a6, a7, a8, a9⟩ := ar
      obtain ⟨a, ha, ea⟩ := umod at_ (8 * n) a2 a3
      obtain ⟨B, rfl⟩ := Int.eq_ofNat_of_zero_le t0
      have lp := burst_loop 6000 (by decide) x0 a8 a9 hsd hby a B n hn' ha (Int.ofNat_lt.1 t1) 32 0 6000 x0 rfl (by decide) (Flip.zero hby)
      have hz0 : decide (B % 2 ^ 0 ≠ 0) = false := by rw [Nat.pow_zero, Nat.mod_one]; rfl
      rw [hz0] at lp
      simp only [h1, Option.bind_some, hz, Bool.false_eq_true, if_false, hn', w4, a7, a4, a5, a6, if_true, ea]
      exact lp
  · rw [if_pos (ltI_pos (by omega))]

end Go.Proofs.Ytiblpnglmicjcaa.Mini
