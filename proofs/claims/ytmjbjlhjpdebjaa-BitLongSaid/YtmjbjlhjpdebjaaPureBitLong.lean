/- As long a text, or row, as may be is taken; one more is refused: a plain law. -/
import Derived.Test.YtmjbjlhjpdebjaaPL
import Derived.Test.YtmjbjlhjpdebjaaMBitLong
set_option linter.unusedVariables false
set_option linter.unusedSimpArgs false
namespace Go.Proofs.Ytmjbjlhjpdebjaa.Mini
open Go Go.RowKit Go.Proofs

theorem long_ar (p : Int) (h0 : -1 ≤ p) (h1 : p ≤ 1) : ∃ n : Nat, (n : Int) = 4096 + p ∧ wr .i64 (4096 + p) = (n : Int) ∧ leI 0 (n : Int) = true ∧ leI (n : Int) (n : Int) = true ∧ leI ((n : Int) * 1) 140737488355328 = true ∧ leI (n : Int) 9223372036854775807 = true ∧
    wr .i64 (32768 + wr .i64 (8 * p)) = ((8 * n : Nat) : Int) ∧ leI 0 ((8 * n : Nat) : Int) = true ∧ leI ((8 * n : Nat) : Int) ((8 * n : Nat) : Int) = true ∧ leI (((8 * n : Nat) : Int) * 8) 140737488355328 = true ∧ leI ((8 * n : Nat) : Int) 9223372036854775807 = true ∧
    wr .i64 (8 * (n : Int)) = ((8 * n : Nat) : Int) ∧ wr .i64 (2 * (n : Int)) = ((2 * n : Nat) : Int) ∧ wr .i64 (Int.tdiv ((8 * n : Nat) : Int) 8) = (n : Int) := by
  obtain ⟨n, hn⟩ : ∃ n : Nat, (n : Int) = 4096 + p := ⟨(4096 + p).toNat, by omega⟩
  refine ⟨n, hn, by rw [w64 (by omega) (by omega)]; omega, leI_pos (by omega), leI_pos (by omega), leI_pos (by omega), leI_pos (by omega), ?_, leI_pos (by omega), leI_pos (by omega), leI_pos (by omega), leI_pos (by omega), by rw [w64 (by omega) (by omega)]; omega, by rw [w64 (by omega) (by omega)]; omega, ?_⟩
  · rw [w64 (n := 8 * p) (by omega) (by omega), w64 (by omega) (by omega)]
    omega
  · rw [Int.tdiv_eq_ediv_of_nonneg (by omega), w64 (by omega) (by omega)]
    omega
theorem zeros_byte (n : Nat) : ∀ c ∈ List.replicate n (0 : Int), Crc.isByte c := fun c hc => by
  rw [(List.mem_replicate.1 hc).2]
  exact ⟨by decide, by decide⟩
theorem zeros_ok (n : Nat) : ∀ c ∈ List.replicate n (0 : Int), okS 1 c := fun c hc => by
  rw [(List.mem_replicate.1 hc).2]
  exact ⟨by decide, by decide⟩
theorem turn_none (k n : Nat) (hn : n ≤ 4096) (hk : 1 ≤ k) : m18F k (List.replicate n 0) [] = some (List.replicate n 0, 0) := by
  obtain ⟨k, rfl⟩ : ∃ x, k = x + 1 := ⟨k - 1, by omega⟩
  have hm : mn ((List.replicate n (0 : Int)).length : Int) (([] : List Int).length : Int) = 0 := by
    unfold mn
    rw [List.length_nil]
    split
    · rfl
    · rename_i h
      have : ((List.replicate n (0 : Int)).length : Int) = (n : Int) := by simp
      omega
  simp only [m18F, m18X]
  rw [if_neg (by rw [List.length_replicate, ltI_neg (by omega)]; simp), if_neg (by rw [List.length_nil, ltI_neg (by decide)]; simp), clone_eq (k + 1) _ (by rw [List.length_replicate]; omega), Option.bind_some, hm, m18F11, m18X11, if_neg (by rw [ltI_neg (by decide)]; simp)]
  rfl
theorem turn_none' (k n : Nat) (hn : n ≤ 4096) (hk : 1 ≤ k) : m18F k [] (List.replicate n 0) = some ([], 0) := by
  obtain ⟨k, rfl⟩ : ∃ x, k = x + 1 := ⟨k - 1, by omega⟩
  have hm : mn (([] : List Int).length : Int) ((List.replicate n (0 : Int)).length : Int) = 0 := by
    unfold mn
    rw [List.length_nil, if_neg (by omega)]
    rfl
  simp only [m18F, m18X]
  rw [if_neg (by rw [List.length_nil, ltI_neg (by decide)]; simp), if_neg (by rw [List.length_replicate, ltI_neg (by omega)]; simp), clone_eq (k + 1) _ (by simp), Option.bind_some, hm, m18F11, m18X11, if_neg (by rw [ltI_neg (by decide)]; simp)]
  rfl
theorem turn_long (k n : Nat) (hn : 4096 < n) : m18F k (List.replicate n 0) [] = some ([], 2) ∧ m18F k [] (List.replicate n 0) = some ([], 2) := by
  constructor
  · simp only [m18F, m18X]
    rw [if_pos (ltI_pos (by rw [List.length_replicate]; omega))]
  · simp only [m18F, m18X]
    rw [if_neg (by rw [List.length_nil, ltI_neg (by decide)]; simp), if_pos (ltI_pos (by rw [List.length_replicate]; omega))]
/-- What each of the four tells. -/
theorem long_four (n : Nat) (h1 : 4095 ≤ n) (h2 : n ≤ 4097) : ∃ x y z w u : List Int, ∃ e : Int, m14F 40000 (List.replicate n 0) = some (x, e) ∧ m15F 40000 (List.replicate n 0) = some (y, e) ∧ m18F 40000 (List.replicate n 0) [] = some (z, e) ∧ m18F 40000 [] (List.replicate n 0) = some (w, e) ∧
    m29F 40000 (List.replicate (8 * n) 0) = some (u, e) ∧ ((n ≤ 4096 ∧ e = 0 ∧ x.length = 8 * n ∧ y.length = 2 * n ∧ z.length = n ∧ u.length = n) ∨ (n = 4097 ∧ e = 2 ∧ x = [] ∧ y = [] ∧ z = [] ∧ u = [])) := by
  by_cases h : n ≤ 4096
  · have k1 := bits_eq 40000 (List.replicate n 0) (by rw [List.length_replicate]; omega) (by decide) (by rw [List.length_replicate]; omega) (zeros_byte n)
    have k2 := nibbles_eq 40000 (List.replicate n 0) (by rw [List.length_replicate]; omega) (by decide) (by rw [List.length_replicate]; omega) (zeros_byte n)
    have k3 := pack_of 40000 _ _ (together_eq 40000 1 n (.inl rfl) (List.replicate (8 * n) 0) (by rw [List.length_replicate]) (by rw [List.length_replicate]; omega) (by decide) (by rw [List.length_replicate]; omega) (zeros_ok _))
    exact ⟨_, _, _, _, _, 0, k1, k2, turn_none 40000 n h (by decide), turn_none' 40000 n h (by decide), k3, .inl ⟨h, rfl, by rw [bitsB_length, List.length_replicate], by rw [nibB_len, List.length_replicate], List.length_replicate, by rw [List.length_map, chn_len]⟩⟩
  · have k1 : m14F 40000 (List.replicate n 0) = some ([], 2) := by
      simp only [m14F, m14X]
      rw [apart_long 40000 1 _ (by rw [List.length_replicate]; omega), Option.bind_some]
    have k2 : m15F 40000 (List.replicate n 0) = some ([], 2) := by
      simp only [m15F, m15X]
      rw [apart_long 40000 4 _ (by rw [List.length_replicate]; omega), Option.bind_some]
    have k3 := pack_of 40000 _ _ (together_len 40000 1 (.inl rfl) (List.replicate (8 * n) 0) (.inl (by rw [List.length_replicate]; omega)))
    obtain ⟨k4, k5⟩ := turn_long 40000 n (by omega)
    exact ⟨_, _, _, _, _, 2, k1, k2, k4, k5, k3, .inr ⟨by omega, rfl, rfl, rfl, rfl, rfl⟩⟩
theorem bitLong (over which : Int) (_ : WfK (.int .i64) over) (_ : WfK (.int .i64) which) : ∃ k, m8F k over which = some true := by
  refine ⟨40000, ?_⟩
  have he : ∀ z : Int, eqI z z = true := fun z => eqI_pos rfl
  simp only [m8F, m8X]
  by_cases g0 : over < -1
  · rw [if_pos (ltI_pos g0)]
  · rw [if_neg (by rw [ltI_neg g0]; simp)]
    by_cases g1 : 1 < over
    · rw [if_pos (ltI_pos g1)]
    · rw [if_neg (by rw [ltI_neg g1]; simp)]
      obtain ⟨n, hn, a1, a2, a3, a4, a5, b1, b2, b3, b4, b5, c1, c2, c3⟩ := long_ar over (by omega) (by omega)
      rw [a1, if_pos a2, if_pos a3, if_pos a4, if_pos a5, Int.toNat_natCast]
      have hw := wakes01 40000 (by decide)
      obtain ⟨x, y, z, w, u, e, k1, k2, k3, k4, k5, hcase⟩ := long_four n (by omega) (by omega)
      obtain ⟨q, hq, eq⟩ := umod0 which 4 (by decide)
      rw [show ((4 : Nat) : Int) = 4 from rfl] at eq
      have e8 : (!eqI 4 0) = true := by rw [eqI_neg (by decide)]; rfl
      have e9 : (!eqI 8 0) = true := by rw [eqI_neg (by decide)]; rfl
      have et : (if ltI 0 over = true then m8F14 40000 over which 2 (List.replicate n 0) else m8F14 40000 over which 0 (List.replicate n 0)) = m8F14 40000 over which e (List.replicate n 0) := by
        rcases hcase with ⟨h1, h2, _⟩ | ⟨h1, h2, _⟩
        · rw [if_neg (by rw [ltI_neg (by omega)]; simp), h2]
        · rw [if_pos (ltI_pos (by omega)), h2]
      rw [et]
      simp only [m8F14, m8X14, e8, if_true, eq, b1, b2, b3, b4, b5, Int.toNat_natCast, k1, k2, k3, k4, k5, Option.bind_some, he, List.length_replicate, c1, c2, c3, e9, hw]
      rcases hcase with ⟨h1, rfl, h3, h4, h5, h6⟩ | ⟨h1, rfl, rfl, rfl, rfl, rfl⟩
      · have f0 : eqI (z.length : Int) 0 = false := eqI_neg (by omega)
        have t0 : (!eqI (0 : Int) 0) = false := by rw [he]; rfl
        simp only [h3, h4, h6, he, f0, t0, if_true, Bool.false_eq_true, if_false]
        split
        · rfl
        · split
          · rfl
          · split <;> rfl
      · have t0 : (!eqI (2 : Int) 0) = true := by rw [eqI_neg (by decide)]; rfl
        have t1 : eqI (([] : List Int).length : Int) 0 = true := eqI_pos (by simp)
        simp only [t0, t1, if_true]
        split
        · rfl
        · split
          · rfl
          · split <;> rfl

end Go.Proofs.Ytmjbjlhjpdebjaa.Mini
