/- Unlike states differ in one at least of the first four symbols; later ones are the lowest byte of a mix: a plain law. -/
import Derived.Test.YtdhpehihkppomaaPL
import Derived.Test.YtdhpehihkppomaaMSymbolUnlike
set_option linter.unusedVariables false
namespace Go.Proofs.Ytdhpehihkppomaa.Mini
open Go Go.RowKit Go.Proofs

theorem unlike_fin (k : Nat) (hk : 5001 ≤ k) (s t i : Int) (hs : 0 ≤ s) (hs' : s < 4294967296) (b : Bool) (hb : b = eqI s t) : m9F20 k s t i b = some true := by
  obtain ⟨a, ha, ea⟩ := umod0 i 252 (by decide)
  have e252 : ((252 : Nat) : Int) = 252 := rfl
  rw [e252] at ea
  subst hb
  have n0 : (!eqI (252 : Int) 0) = true := by rw [eqI_neg (by decide)]; rfl
  have nb : (!eqI s t == eqI s t) = false := by simp
  have wa : wr .i64 (a : Int) = (a : Int) := w64n (Nat.lt_trans ha (by decide))
  have w4 : ∀ c : Nat, c < 252 → wr .i64 (4 + (c : Int)) = ((4 + c : Nat) : Int) := fun c hc => by
    rw [w64 (by omega) (by omega)]
    omega
  have h4 : ¬ ((4 + a : Nat) : Int) < 4 := by
    intro h
    have := Int.ofNat_lt.1 h
    exact absurd this (Nat.not_lt.2 (Nat.le_add_right 4 a))
  have hle : ((4 + a : Nat) : Int) ≤ 255 := Int.ofNat_le.2 (Nat.add_le_add_left (Nat.le_of_lt_succ ha) 4)
  have h1 := sym_eq k s ((4 + a : Nat) : Int) hs hs' (Int.natCast_nonneg _) hle
  have hv : symV s ((4 + a : Nat) : Int) = bits .and .u32 (mixI (wr .u32 (s + wr .u32 (wr .u32 ((4 + a : Nat) : Int) * 2654435769)))) 255 := by
    unfold symV
    rw [if_neg h4]
  have hm := mixI_u32 (wr .u32 (s + wr .u32 (wr .u32 ((4 + a : Nat) : Int) * 2654435769)))
  have hb := and_byte hm.1 hm.2
  have hwb : ∀ z : Int, 0 ≤ z → z < 256 → wr .i64 z = z := fun z h1 h2 => w64 (by omega) (by omega)
  have e0 : eqI 0 0 = true := eqI_pos rfl
  simp only [m9F20, m9X20, nb, Bool.false_eq_true, if_false, n0, if_true, ea, wa, w4 a ha, h1, Option.bind_some, e0, mix_eqI, hv, hwb _ hb.1 hb.2, wakes06 k hk]
  rw [if_pos (eqI_pos rfl)]
theorem digits_eq (m n : Nat) (hm : m < 4294967296) (hn : n < 4294967296) (h0 : m / 2 ^ (8 * 0) % 256 = n / 2 ^ (8 * 0) % 256) (h1 : m / 2 ^ (8 * 1) % 256 = n / 2 ^ (8 * 1) % 256) (h2 : m / 2 ^ (8 * 2) % 256 = n / 2 ^ (8 * 2) % 256) (h3 : m / 2 ^ (8 * 3) % 256 = n / 2 ^ (8 * 3) % 256) : m = n := by
  have e0 : 2 ^ (8 * 0) = 1 := rfl
  have e1 : 2 ^ (8 * 1) = 256 := rfl
  have e2 : 2 ^ (8 * 2) = 65536 := rfl
  have e3 : 2 ^ (8 * 3) = 16777216 := rfl
  rw [e0] at h0
  rw [e1] at h1
  rw [e2] at h2
  rw [e3] at h3
  omega
theorem unlike_round (k j : Nat) (m n : Nat) (hm : m < 4294967296) (hn : n < 4294967296) (z : Int) (b : Bool) (i : Nat) (hi : i < 4) :
    m9F7 k (j + 1) (m : Int) (n : Int) z b (i : Int) = m9F7 k j (m : Int) (n : Int) z (b && decide (m / 2 ^ (8 * i) % 256 = n / 2 ^ (8 * i) % 256)) ((i + 1 : Nat) : Int) := by
  have hc : ∀ x y : Nat, eqI (x : Int) (y : Int) = decide (x = y) := fun x y => by
    by_cases h : x = y
    · rw [h, eqI_pos rfl, decide_eq_true rfl]
    · rw [eqI_neg (by omega), decide_eq_false h]
  have ar : ltI (i : Int) 4 = true ∧ (0 : Int) ≤ (i : Int) ∧ (i : Int) ≤ 255 ∧ (0 : Int) ≤ (m : Int) ∧ (m : Int) < 4294967296 ∧ (0 : Int) ≤ (n : Int) ∧ (n : Int) < 4294967296 ∧ wr .i64 ((i : Int) + 1) = ((i + 1 : Nat) : Int) := ⟨ltI_pos (by omega), by omega, by omega, by omega, by omega, by omega, by omega, w64s (by omega)⟩
  obtain ⟨c1, i0, i1, m0, m1, n0, n1, w1⟩ := ar
  have z0 : (!eqI 0 0) = false := by rw [eqI_pos rfl]; rfl
  simp only [m9F7, m9X7, c1, if_true, sym_eq k _ _ m0 m1 i0 i1, sym_eq k _ _ n0 n1 i0 i1, Option.bind_some, z0, Bool.false_eq_true, if_false, w1, symV_nat m hm i hi, symV_nat n hn i hi, hc]
  cases b <;> rfl
theorem symbolUnlike (s t i : Int) (ws : (Lit.int .u32 s).wf = true) (wt : (Lit.int .u32 t).wf = true) (wi : (Lit.int .i64 i).wf = true) : ∃ k, m9F k s t i = some true := by
  refine ⟨5996 + 4, ?_⟩
  obtain ⟨hs, hs'⟩ := Bv.wf_u32 ws
  obtain ⟨ht, ht'⟩ := Bv.wf_u32 wt
  obtain ⟨m, rfl⟩ := Int.eq_ofNat_of_zero_le hs
  obtain ⟨n, rfl⟩ := Int.eq_ofNat_of_zero_le ht
  have hm : m < 4294967296 := by omega
  have hn : n < 4294967296 := by omega
  simp only [m9F, m9X]
  have r0 := unlike_round (5996 + 4) (5996 + 3) m n hm hn i true 0 (by decide)
  have r1 := unlike_round (5996 + 4) (5996 + 2) m n hm hn i (true && decide (m / 2 ^ (8 * 0) % 256 = n / 2 ^ (8 * 0) % 256)) 1 (by decide)
  have r2 := unlike_round (5996 + 4) (5996 + 1) m n hm hn i (true && decide (m / 2 ^ (8 * 0) % 256 = n / 2 ^ (8 * 0) % 256) && decide (m / 2 ^ (8 * 1) % 256 = n / 2 ^ (8 * 1) % 256)) 2 (by decide)
  have r3 := unlike_round (5996 + 4) 5996 m n hm hn i (true && decide (m / 2 ^ (8 * 0) % 256 = n / 2 ^ (8 * 0) % 256) && decide (m / 2 ^ (8 * 1) % 256 = n / 2 ^ (8 * 1) % 256) && decide (m / 2 ^ (8 * 2) % 256 = n / 2 ^ (8 * 2) % 256)) 3 (by decide)
  refine r0.trans (r1.trans (r2.trans (r3.trans ?_)))
  have ex : (5996 : Nat) = 5995 + 1 := rfl
  generalize hb : (true && decide (m / 2 ^ (8 * 0) % 256 = n / 2 ^ (8 * 0) % 256) && decide (m / 2 ^ (8 * 1) % 256 = n / 2 ^ (8 * 1) % 256) && decide (m / 2 ^ (8 * 2) % 256 = n / 2 ^ (8 * 2) % 256) && decide (m / 2 ^ (8 * 3) % 256 = n / 2 ^ (8 * 3) % 256)) = b
  have hbe : b = eqI (m : Int) (n : Int) := by
    rw [← hb]
    by_cases h : m = n
    · subst h
      rw [eqI_pos rfl]
      simp
    · rw [eqI_neg (by omega), ← Bool.not_eq_true]
      intro hall
      simp only [Bool.and_eq_true, decide_eq_true_eq] at hall
      exact h (digits_eq m n hm hn hall.1.1.1.2 hall.1.1.2 hall.1.2 hall.2)
  have fin := unlike_fin (5996 + 4) (by decide) (m : Int) (n : Int) i hs hs' b hbe
  have c1 : ltI ((3 + 1 : Nat) : Int) 4 = false := ltI_neg (by decide)
  have step : ∀ j : Nat, m9F7 (5996 + 4) (j + 1) (m : Int) (n : Int) i b ((3 + 1 : Nat) : Int) = some true := fun j => by
    simp only [m9F7, m9X7, c1, Bool.false_eq_true, if_false]
    exact fin
  exact step 5995

end Go.Proofs.Ytdhpehihkppomaa.Mini
