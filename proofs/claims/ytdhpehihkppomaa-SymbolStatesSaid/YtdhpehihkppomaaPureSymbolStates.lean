/- Of a state's first four symbols it is told; of any others that may be a state that has these; else nothing: a plain law. -/
import Derived.Test.YtdhpehihkppomaaPL
import Derived.Test.YtdhpehihkppomaaMSymbolStates
set_option linter.unusedVariables false
namespace Go.Proofs.Ytdhpehihkppomaa.Mini
open Go Go.RowKit Go.Proofs

theorem ints_eq (k : Nat) (l : List Int) (hl : l.length ≤ 5000) : ∀ (n j i : Nat), i + n = l.length → n < j → m22F9 k j l l (i : Int) = some true := by
  intro n
  induction n with
  | zero =>
    intro j i h hj
    obtain ⟨j, rfl⟩ : ∃ m, j = m + 1 := ⟨j - 1, by omega⟩
    simp only [m22F9, m22X9]
    rw [if_neg (by rw [ltI_neg (by omega)]; simp)]
  | succ n ih =>
    intro j i h hj
    obtain ⟨j, rfl⟩ : ∃ m, j = m + 1 := ⟨j - 1, by omega⟩
    have c1 : ltI (i : Int) (l.length : Int) = true := ltI_pos (by omega)
    have c2 : leI 0 (i : Int) = true := leI_pos (by omega)
    have h2 := ih j (i + 1) (by omega) (by omega)
    have hz : ∀ z : Int, (!eqI z z) = false := fun z => by rw [eqI_pos rfl]; rfl
    have w1 : wr .i64 ((i : Int) + 1) = ((i + 1 : Nat) : Int) := w64s (by omega)
    simp only [m22F9, m22X9, c1, c2, if_true, hz, Bool.false_eq_true, if_false, w1]
    exact h2
theorem ints_same (k : Nat) (hk : 5001 ≤ k) (l : List Int) (hl : l.length ≤ 5000) : m22F k l l = some true := by
  simp only [m22F, m22X]
  rw [if_neg (by rw [eqI_pos rfl]; simp)]
  exact ints_eq k l hl l.length k 0 (by omega) (by omega)
theorem twinInts_eq (k : Nat) (l : List Int) (hl : l.length ≤ 5000) : m21F k l = some l := by
  simp only [m21F, m21X]
  rw [if_pos (leI_pos (by omega))]
/-- The first loop: a state's own symbols. -/
theorem own_round (k j : Nat) (m : Nat) (hm : m < 4294967296) (l b0 : List Int) (i : Nat) (hi : i < 4) (hb : b0.length ≤ 4) :
    m8F11 k (j + 1) (m : Int) l (i : Int) b0 = m8F11 k j (m : Int) l ((i + 1 : Nat) : Int) (b0 ++ [((m / 2 ^ (8 * i) % 256 : Nat) : Int)]) := by
  have ar : ltI (i : Int) 4 = true ∧ (0 : Int) ≤ (i : Int) ∧ (i : Int) ≤ 255 ∧ (0 : Int) ≤ (m : Int) ∧ (m : Int) < 4294967296 ∧ wr .i64 ((i : Int) + 1) = ((i + 1 : Nat) : Int) ∧ leI (((b0.length + 1) * 8 : Nat) : Int) 140737488355328 = true := ⟨ltI_pos (by omega), by omega, by omega, by omega, by omega, w64s (by omega), leI_pos (by omega)⟩
  obtain ⟨c1, i0, i1, m0, m1, w1, c2⟩ := ar
  have z0 : (!eqI 0 0) = false := by rw [eqI_pos rfl]; rfl
  simp only [m8F11, m8X11, c1, if_true, sym_eq k _ _ m0 m1 i0 i1, Option.bind_some, z0, Bool.false_eq_true, if_false, w1, symV_nat m hm i hi, one_set, List.length_singleton, c2]
theorem digits_sum (m : Nat) (hm : m < 4294967296) : m / 2 ^ (8 * 0) % 256 + m / 2 ^ (8 * 1) % 256 * 256 + m / 2 ^ (8 * 2) % 256 * 65536 + m / 2 ^ (8 * 3) % 256 * 16777216 = m := by
  have e0 : 2 ^ (8 * 0) = 1 := rfl
  have e1 : 2 ^ (8 * 1) = 256 := rfl
  have e2 : 2 ^ (8 * 2) = 65536 := rfl
  have e3 : 2 ^ (8 * 3) = 16777216 := rfl
  rw [e0, e1, e2, e3]
  omega
theorem sum_digits (a b c d i : Nat) (ha : a < 256) (hb : b < 256) (hc : c < 256) (hd : d < 256) (hi : i < 4) : (a + b * 256 + c * 65536 + d * 16777216) / 2 ^ (8 * i) % 256 = [a, b, c, d].getD i 0 := by
  have e0 : 2 ^ (8 * 0) = 1 := rfl
  have e1 : 2 ^ (8 * 1) = 256 := rfl
  have e2 : 2 ^ (8 * 2) = 65536 := rfl
  have e3 : 2 ^ (8 * 3) = 16777216 := rfl
  have h : i = 0 ∨ i = 1 ∨ i = 2 ∨ i = 3 := by omega
  rcases h with rfl | rfl | rfl | rfl
  · rw [e0]
    show _ = a
    omega
  · rw [e1]
    show _ = b
    omega
  · rw [e2]
    show _ = c
    omega
  · rw [e3]
    show _ = d
    omega
/-- The last loop: a state's symbols are those that it was told of. -/
theorem back_loop (k : Nat) (hk : 5001 ≤ k) (a b c d : Nat) (ha : a < 256) (hb : b < 256) (hc : c < 256) (hd : d < 256) : ∀ (n j i : Nat), i + n = 4 → n < j →
    m8F53 k j [(a : Int), (b : Int), (c : Int), (d : Int)] ((a + b * 256 + c * 65536 + d * 16777216 : Nat) : Int) 0 (i : Int) = some true := by
  have e0 : eqI 0 0 = true := eqI_pos rfl
  have z0 : (!eqI 0 0) = false := by rw [eqI_pos rfl]; rfl
  intro n
  induction n with
  | zero =>
    intro j i h hj
    obtain ⟨j, rfl⟩ : ∃ m, j = m + 1 := ⟨j - 1, by omega⟩
    simp only [m8F53, m8X53]
    rw [if_neg (by rw [ltI_neg (by omega)]; simp)]
    simp only [m8F62, m8X62, e0, if_true, wakes06 k hk, Option.bind_some]
  | succ n ih =>
    intro j i h hj
    obtain ⟨j, rfl⟩ : ∃ m, j = m + 1 := ⟨j - 1, by omega⟩
    have hm : a + b * 256 + c * 65536 + d * 16777216 < 4294967296 := by omega
    have hi : i < 4 := by omega
    have ar : ltI (i : Int) 4 = true ∧ (0 : Int) ≤ (i : Int) ∧ (i : Int) ≤ 255 ∧ (0 : Int) ≤ ((a + b * 256 + c * 65536 + d * 16777216 : Nat) : Int) ∧ ((a + b * 256 + c * 65536 + d * 16777216 : Nat) : Int) < 4294967296 ∧ wr .i64 ((i : Int) + 1) = ((i + 1 : Nat) : Int) ∧ leI 0 (i : Int) = true ∧ ltI (i : Int) ([(a : Int), (b : Int), (c : Int), (d : Int)].length : Int) = true := ⟨ltI_pos (by omega), by omega, by omega, by omega, by omega, w64s (by omega), leI_pos (by omega), ltI_pos (by simp; omega)⟩
    have h2 := ih j (i + 1) (by omega) (by omega)
    obtain ⟨c1, i0, i1, m0, m1, w1, c2, c3⟩ := ar
    have hd2 := sum_digits a b c d i ha hb hc hd hi
    have hg : [(a : Int), (b : Int), (c : Int), (d : Int)].getD i 0 = (([a, b, c, d].getD i 0 : Nat) : Int) := by
      have h : i = 0 ∨ i = 1 ∨ i = 2 ∨ i = 3 := by omega
      rcases h with rfl | rfl | rfl | rfl <;> rfl
    have hz : ∀ z : Int, (!eqI z z) = false := fun z => by rw [eqI_pos rfl]; rfl
    simp only [m8F53, m8X53, c1, c2, c3, e0, if_true, sym_eq k _ _ m0 m1 i0 i1, Option.bind_some, z0, Bool.false_eq_true, if_false, symV_nat _ hm i hi, hd2, Int.toNat_natCast, hg, hz, w1]
    exact h2
/-- The middle loop: one that may not be is found. -/
theorem find_bad (k : Nat) (hk : 5001 ≤ k) (l : List Int) (hl : l.length = 4) (hbad : l.any badSym = true) : ∀ (rest pre : List Int) (j : Nat), l = pre ++ rest → rest.length < j → rest.any badSym = true → m8F43 k j l 0 1 (pre.length : Int) = some true := by
  have e0 : eqI 0 0 = true := eqI_pos rfl
  have e1 : eqI 1 1 = true := eqI_pos rfl
  intro rest
  induction rest with
  | nil =>
    intro pre j e hj hb
    cases hb
  | cons x rest ih =>
    intro pre j e hj hb
    obtain ⟨j, rfl⟩ : ∃ m, j = m + 1 := ⟨j - 1, by omega⟩
    have hlen : l.length = pre.length + (rest.length + 1) := by rw [e]; simp
    have hx : l.getD (Int.toNat (pre.length : Int)) 0 = x := by rw [e]; exact gd_at pre rest x 0
    have c1 : ltI (pre.length : Int) 4 = true := ltI_pos (by omega)
    have c2 : leI 0 (pre.length : Int) = true := leI_pos (by omega)
    have c3 : ltI (pre.length : Int) (l.length : Int) = true := ltI_pos (by omega)
    have w1 : wr .i64 ((pre.length : Int) + 1) = ((pre.length + 1 : Nat) : Int) := w64s (by omega)
    simp only [m8F43, m8X43, c1, c2, c3, if_true, hx, w1, e0, e1, wakes06 k hk, Option.bind_some]
    by_cases h0 : x < 0
    · rw [if_pos (ltI_pos h0)]
    · rw [if_neg (by rw [ltI_neg h0]; simp)]
      by_cases h1 : 255 < x
      · rw [if_pos (ltI_pos h1)]
      · rw [if_neg (by rw [ltI_neg h1]; simp)]
        have hnb : badSym x = false := by
          unfold badSym
          rw [decide_eq_false (by omega)]
        rw [List.any_cons, hnb, Bool.false_or] at hb
        have := ih (pre ++ [x]) j (by rw [e]; simp) (by simp only [List.length_cons] at hj; omega) hb
        rw [show (pre ++ [x]).length = pre.length + 1 by simp] at this
        exact this
theorem pass_good (k : Nat) (l : List Int) (hl : l.length = 4) (t e : Int) : ∀ (rest pre : List Int) (j : Nat), l = pre ++ rest → rest.length < j → rest.any badSym = false → m8F43 k j l t e (pre.length : Int) = m8F50 k l t e := by
  intro rest
  induction rest with
  | nil =>
    intro pre j e hj _
    obtain ⟨j, rfl⟩ : ∃ m, j = m + 1 := ⟨j - 1, by omega⟩
    have hlen : l.length = pre.length := by rw [e]; simp
    simp only [m8F43, m8X43]
    rw [if_neg (by rw [ltI_neg (by omega)]; simp)]
  | cons x rest ih =>
    intro pre j e hj hb
    obtain ⟨j, rfl⟩ : ∃ m, j = m + 1 := ⟨j - 1, by omega⟩
    have hlen : l.length = pre.length + (rest.length + 1) := by rw [e]; simp
    have hx : l.getD (Int.toNat (pre.length : Int)) 0 = x := by rw [e]; exact gd_at pre rest x 0
    have c1 : ltI (pre.length : Int) 4 = true := ltI_pos (by omega)
    have c2 : leI 0 (pre.length : Int) = true := leI_pos (by omega)
    have c3 : ltI (pre.length : Int) (l.length : Int) = true := ltI_pos (by omega)
    have w1 : wr .i64 ((pre.length : Int) + 1) = ((pre.length + 1 : Nat) : Int) := w64s (by omega)
    rw [List.any_cons, Bool.or_eq_false_iff] at hb
    have hnb : ¬ (x < 0 ∨ 255 < x) := of_decide_eq_false hb.1
    have := ih (pre ++ [x]) j (by rw [e]; simp) (by simp only [List.length_cons] at hj; omega) hb.2
    rw [show (pre ++ [x]).length = pre.length + 1 by simp] at this
    simp only [m8F43, m8X43, c1, c2, c3, if_true, hx, w1]
    rw [if_neg (by rw [ltI_neg (fun h => hnb (.inl h))]; simp), if_neg (by rw [ltI_neg (fun h => hnb (.inr h))]; simp)]
    exact this
theorem states_fin (k : Nat) (hk : 5001 ≤ k) (m : Nat) (hm : m < 4294967296) (l : List Int) (hl : l.length ≤ 20) :
    m8F22 k (m : Int) l [((m / 2 ^ (8 * 0) % 256 : Nat) : Int), ((m / 2 ^ (8 * 1) % 256 : Nat) : Int), ((m / 2 ^ (8 * 2) % 256 : Nat) : Int), ((m / 2 ^ (8 * 3) % 256 : Nat) : Int)] = some true := by
  have lt : ∀ x : Nat, x % 256 < 256 := fun x => Nat.mod_lt _ (by decide)
  have h1 := state_four k hk _ _ _ _ (lt (m / 2 ^ (8 * 0))) (lt (m / 2 ^ (8 * 1))) (lt (m / 2 ^ (8 * 2))) (lt (m / 2 ^ (8 * 3)))
  rw [digits_sum m hm] at h1
  have e0 : eqI 0 0 = true := eqI_pos rfl
  have e2 : eqI 2 2 = true := eqI_pos rfl
  have hz : ∀ z : Int, (!eqI z z) = false := fun z => by rw [eqI_pos rfl]; rfl
  simp only [m8F22, m8X22, h1, Option.bind_some, hz, Bool.false_eq_true, if_false, twinInts_eq k l (by omega), ints_same k hk l (by omega), Bool.not_true]
  by_cases h4 : l.length = 4
  · have n4 : (!eqI (l.length : Int) 4) = false := by rw [eqI_pos (by omega)]; rfl
    cases hb : l.any badSym with
    | true =>
      have hf := find_bad k hk l h4 hb l [] k rfl (by omega) hb
      simp only [state_bad k hk l h4 hb, Option.bind_some, n4, Bool.false_eq_true, if_false]
      exact hf
    | false =>
      obtain ⟨a, b, c, d, rfl, ha, hb, hc, hd⟩ : ∃ a b c d : Nat, l = [(a : Int), (b : Int), (c : Int), (d : Int)] ∧ a < 256 ∧ b < 256 ∧ c < 256 ∧ d < 256 := by
        match l, h4, hb with
        | [x, y, z, w], _, hb =>
          simp only [List.any_cons, List.any_nil, Bool.or_false, Bool.or_eq_false_iff, badSym, decide_eq_false_iff_not] at hb
          obtain ⟨h1, h2, h3, h4⟩ := hb
          exact ⟨x.toNat, y.toNat, z.toNat, w.toNat, by rw [Int.toNat_of_nonneg (by omega), Int.toNat_of_nonneg (by omega), Int.toNat_of_nonneg (by omega), Int.toNat_of_nonneg (by omega)], by omega, by omega, by omega, by omega⟩
      have hp := pass_good k [(a : Int), (b : Int), (c : Int), (d : Int)] rfl ((a + b * 256 + c * 65536 + d * 16777216 : Nat) : Int) 0 [(a : Int), (b : Int), (c : Int), (d : Int)] [] k rfl (by simp; omega) (by assumption)
      have hbk := back_loop k hk a b c d ha hb hc hd 4 k 0 rfl (by omega)
      simp only [state_four k hk a b c d ha hb hc hd, Option.bind_some, n4, Bool.false_eq_true, if_false]
      refine hp.trans ?_
      simp only [m8F50, m8X50]
      exact hbk
  · have n4 : (!eqI (l.length : Int) 4) = true := by rw [eqI_neg (by omega)]; rfl
    simp only [state_len k l h4, Option.bind_some, n4, if_true, e0, e2, wakes06 k hk]
theorem symbolStates (s : Int) (l : List Int) (ws : (Lit.int .u32 s).wf = true) (wl : WfK (.row (.int .i64)) l) : ∃ k, m8F k s l = some true := by
  refine ⟨5995 + 5, ?_⟩
  obtain ⟨hs, hs'⟩ := Bv.wf_u32 ws
  obtain ⟨m, rfl⟩ := Int.eq_ofNat_of_zero_le hs
  have hm : m < 4294967296 := by omega
  simp only [m8F, m8X]
  by_cases hn : l.length ≤ 20
  · rw [if_neg (by rw [ltI_neg (by omega)]; simp)]
    have r0 := own_round (5995 + 5) (5995 + 4) m hm l [] 0 (by decide) (by decide)
    have r1 := own_round (5995 + 5) (5995 + 3) m hm l ([] ++ [((m / 2 ^ (8 * 0) % 256 : Nat) : Int)]) 1 (by decide) (by simp)
    have r2 := own_round (5995 + 5) (5995 + 2) m hm l ([] ++ [((m / 2 ^ (8 * 0) % 256 : Nat) : Int)] ++ [((m / 2 ^ (8 * 1) % 256 : Nat) : Int)]) 2 (by decide) (by simp)
    have r3 := own_round (5995 + 5) (5995 + 1) m hm l ([] ++ [((m / 2 ^ (8 * 0) % 256 : Nat) : Int)] ++ [((m / 2 ^ (8 * 1) % 256 : Nat) : Int)] ++ [((m / 2 ^ (8 * 2) % 256 : Nat) : Int)]) 3 (by decide) (by simp)
    refine r0.trans (r1.trans (r2.trans (r3.trans ?_)))
    have fin := states_fin (5995 + 5) (by decide) m hm l hn
    have c1 : ltI ((3 + 1 : Nat) : Int) 4 = false := ltI_neg (by decide)
    have step : ∀ (j : Nat) (b : List Int), m8F11 (5995 + 5) (j + 1) (m : Int) l ((3 + 1 : Nat) : Int) b = m8F22 (5995 + 5) (m : Int) l b := fun j b => by
      simp only [m8F11, m8X11, c1, Bool.false_eq_true, if_false]
    exact (step 5995 _).trans fin
  · rw [if_pos (ltI_pos (by omega))]

end Go.Proofs.Ytdhpehihkppomaa.Mini
