/- The texts of the blocks, one behind the other, are the message; they are numbered side by side; just the first is First, just the last Last; each may be made: a plain law. -/
import Derived.Test.YthfdejbckheagaaPL
import Derived.Test.YthfdejbckheagaaMCutAll
set_option linter.unusedVariables false
namespace Go.Proofs.Ythfdejbckheagaa.Mini
open Go Go.RowKit Go.Proofs

theorem all_ar (s : Int) (i n B pl tl : Nat) (hs : 0 ≤ s) (hs2 : s ≤ 1073741524) (hi : i < n) (hn : n ≤ 201) (hp : pl ≤ B) (hB : B ≤ 16) (ht : tl ≤ 200) : ltI (i : Int) (n : Int) = true ∧ leI 0 (i : Int) = true ∧ wr .i64 (s + (i : Int)) = s + (i : Int) ∧ wr .i64 ((n : Int) - 1) = ((n - 1 : Nat) : Int) ∧ wr .i64 ((i : Int) + 1) = ((i + 1 : Nat) : Int) ∧
    leI (((tl + pl) * 1 : Nat) : Int) 140737488355328 = true ∧ (i + 1 = n → eqI (i : Int) ((n - 1 : Nat) : Int) = true ∧ ltI (i : Int) ((n - 1 : Nat) : Int) = false) ∧ (i + 1 ≠ n → eqI (i : Int) ((n - 1 : Nat) : Int) = false ∧ ltI (i : Int) ((n - 1 : Nat) : Int) = true) ∧ (i ≠ 0 → eqI (i : Int) 0 = false) ∧ 0 ≤ s + (i : Int) ∧ s + (i : Int) < 1073741824 :=
  ⟨ltI_pos (by omega), leI_pos (by omega), w64 (by omega) (by omega), by rw [w64 (by omega) (by omega)]; omega, w64s (by omega), leI_pos (by omega), fun h => ⟨eqI_pos (by omega), ltI_neg (by omega)⟩, fun h => ⟨eqI_neg (by omega), ltI_pos (by omega)⟩, fun h => eqI_neg (by omega), by omega, by omega⟩
theorem mk_range (n i : Nat) : 0 ≤ mkMark n i ∧ mkMark n i ≤ 3 ∧ (i + 1 ≠ n → mkMark n i < 2) ∧ (i + 1 = n → 2 ≤ mkMark n i) := by
  unfold mkMark
  by_cases h1 : i = 0 <;> by_cases h2 : i + 1 = n
  · rw [if_pos h1, if_pos h2]
    exact ⟨by omega, by omega, fun h => absurd h2 h, fun _ => by omega⟩
  · rw [if_pos h1, if_neg h2]
    exact ⟨by omega, by omega, fun _ => by omega, fun h => absurd h h2⟩
  · rw [if_neg h1, if_pos h2]
    exact ⟨by omega, by omega, fun h => absurd h2 h, fun _ => by omega⟩
  · rw [if_neg h1, if_neg h2]
    exact ⟨by omega, by omega, fun _ => by omega, fun h => absurd h h2⟩
theorem all_loop (k : Nat) (hk : 5001 ≤ k) (s : Int) (msg : List Int) (B : Nat) (c1 c2 c3 c4 c5 c6 c7 c8 c9 : Int) (n : Nat) (hn : n = nBlk B msg.length) (hB : 1 ≤ B) (hB2 : B ≤ 16) (hl : msg.length ≤ 200) (hs : 0 ≤ s) (hs2 : s ≤ 1073741524) : ∀ (d i j : Nat), i + d = n → d < j →
    m9F17 k j s msg (i : Int) (B : Int) c1 c2 c3 c4 c5 c6 c7 c8 c9 (cutL B s msg) (msg.take (i * B)) = some true := by
  have hn2 : n ≤ 201 := by
    have := nBlk_le B msg.length hB
    omega
  have hlen : (cutL B s msg).length = n := by rw [hn]; exact cutL_length B s msg
  intro d
  induction d with
  | zero =>
    intro i j hi hj
    obtain ⟨j, rfl⟩ : ∃ y, j = y + 1 := ⟨j - 1, by omega⟩
    obtain rfl : i = n := by omega
    have hall : msg.take (i * B) = msg := List.take_of_length_le (by rw [hn]; exact nBlk_end B msg.length hB)
    simp only [m9F17, m9X17]
    rw [if_neg (by rw [ltI_neg (by omega)]; simp), hall]
    simp only [m9F36, m9X36, bytes_eq' k hk msg msg (by omega), decide_true, Option.bind_some, if_true, wakes20 k hk]
  | succ d ih =>
    intro i j hi hj
    obtain ⟨j, rfl⟩ : ∃ y, j = y + 1 := ⟨j - 1, by omega⟩
    have hin : i < n := by omega
    have g1 : i + 1 + d = n := by omega
    have g2 : d < j := by omega
    have hlo := nBlk_lt B msg.length i hB (hn ▸ hin)
    have hpl := piece_length B msg i
    have hget := cutL_get B s msg i (hn ▸ hin)
    rw [← hn] at hget
    have htl : (msg.take (i * B)).length ≤ 200 := Nat.le_trans (List.length_take_le' _ _) hl
    have hpB : (piece B msg i).length ≤ B := by rw [hpl]; exact Nat.min_le_left _ _
    have h2 := ih (i + 1) j g1 g2
    rw [← piece_more] at h2
    obtain ⟨m1, m2, m3, m4⟩ := mk_range n i
    have hfull : i + 1 ≠ n → (piece B msg i).length = B := fun h => by
      have h3 := nBlk_lt B msg.length (i + 1) hB (hn ▸ (by omega))
      rw [Nat.add_mul, Nat.one_mul] at h3
      rw [hpl]
      omega
    have herr : blkErr (B : Int) (s + (i : Int)) (mkMark n i) (piece B msg i).length = 0 := by
      unfold blkErr
      rw [if_neg (by omega), if_neg]
      intro h
      rcases h with h | ⟨h, h'⟩
      · omega
      · by_cases hx : i + 1 = n
        · have := m4 hx
          omega
        · have := hfull hx
          omega
    obtain ⟨r1, r2, r3, r4, r5, r6, r7, r8, r9, ra, rb⟩ := all_ar s i n B (piece B msg i).length (msg.take (i * B)).length hs hs2 hin hn2 hpB hB2 htl
    have hz : ∀ z : Int, (!eqI z z) = false := fun z => by rw [eqI_pos rfl]; rfl
    have x30 : m9F30 k (m9F17 k j) s msg (i : Int) (mkMark n i) (B : Int) c1 c2 c3 c4 c5 c6 c7 c8 c9 (cutL B s msg) (msg.take (i * B)) = some true := by
      simp only [m9F30, m9X30, r2, hlen, r1, if_true, Int.toNat_natCast, hget, blkAt, r3, hz, Bool.false_eq_true, if_false, blkCheck_eq, herr, Option.bind_some, r4, r6, r5]
      by_cases hx : i + 1 = n
      · rw [if_neg (by rw [(r7 hx).2]; simp)]
        exact h2
      · rw [if_pos (r8 hx).2, if_neg (by rw [hfull hx, hz]; simp)]
        exact h2
    have x26 : ∀ t : Int, t = (if i = 0 then 1 else 0) → m9F26 k (m9F17 k j) s msg (i : Int) t (B : Int) c1 c2 c3 c4 c5 c6 c7 c8 c9 (cutL B s msg) (msg.take (i * B)) = some true := by
      intro t ht
      simp only [m9F26, m9X26, hlen, r4]
      by_cases hx : i + 1 = n
      · have e : wr .i64 (t + 2) = mkMark n i := by
          unfold mkMark
          rw [if_pos hx, ← ht]
          clear r3 r4 r5
          exact w64 (by split at ht <;> omega) (by split at ht <;> omega)
        rw [if_pos (r7 hx).1, e]
        exact x30
      · have e : t = mkMark n i := by
          unfold mkMark
          rw [if_neg hx, ← ht, Int.add_zero]
        rw [if_neg (by rw [(r8 hx).1]; simp), e]
        exact x30
    simp only [m9F17, m9X17, hlen, r1, if_true]
    by_cases h0 : i = 0
    · rw [if_pos (eqI_pos (by rw [h0]; rfl))]
      exact x26 1 (by rw [if_pos h0])
    · rw [if_neg (by rw [r9 h0]; simp)]
      exact x26 0 (by rw [if_neg h0])
theorem cutAll (c : Int × (Int × (Int × (Int × (Int × (Int × (Int × (Int × (Int × Int))))))))) (s : Int) (msg : List Int) (wc : WfK (.pair (.int .i64) (.pair (.int .i64) (.pair (.int .i64) (.pair (.int .i64) (.pair (.int .i64) (.pair (.int .i64) (.pair (.int .i64) (.pair (.int .i64) (.pair (.int .i64) (.int .i64)))))))))) c) (ws : (Lit.int .i64 s).wf = true) (wm : WfK (.row (.int .u8)) msg) : ∃ k, m9F k c s msg = some true := by
  refine ⟨6000, ?_⟩
  obtain ⟨c0, c1, c2, c3, c4, c5, c6, c7, c8, c9⟩ := c
  simp only [m9F, m9X, config_eq, Option.bind_some]
  by_cases ok : cfgOk c0 c1 c2 c3 c4 c5 c6 c7 c8 c9
  · rw [if_neg (show ¬ ((!decide (cfgOk c0 c1 c2 c3 c4 c5 c6 c7 c8 c9)) = true) by simp [ok])]
    have hB := ok.1
    have h8 := ok.2.2.2.2.2.2.2.2.1
    unfold within at hB h8
    by_cases h1 : c8 < (msg.length : Int)
    · rw [if_pos (ltI_pos h1)]
    · rw [if_neg (by rw [ltI_neg h1]; simp)]
      by_cases h2 : s < 0
      · rw [if_pos (ltI_pos h2)]
      · rw [if_neg (by rw [ltI_neg h2]; simp)]
        by_cases h3 : 1073741524 < s
        · rw [if_pos (ltI_pos h3)]
        · rw [if_neg (by rw [ltI_neg h3]; simp)]
          obtain ⟨B, rfl⟩ : ∃ B : Nat, c0 = (B : Int) := ⟨c0.toNat, by omega⟩
          have hle := nBlk_le B msg.length (by omega)
          have hpos := nBlk_pos B msg.length (by omega)
          have hc := cutCut_eq 6000 (by decide) s msg B c1 c2 c3 c4 c5 c6 c7 c8 c9 ok (by omega) (by omega) (by omega)
          have hb := blocks_eq 6000 B c1 c2 c3 c4 c5 c6 c7 c8 c9 ok msg.length (by omega)
          have hz : ∀ z : Int, (!eqI z z) = false := fun z => by rw [eqI_pos rfl]; rfl
          have l1 : ltI (nBlk B msg.length : Int) 1 = false := ltI_neg (by omega)
          have lp := all_loop 6000 (by decide) s msg B c1 c2 c3 c4 c5 c6 c7 c8 c9 (nBlk B msg.length) rfl (by omega) (by omega) (by omega) (by omega) (by omega) (nBlk B msg.length) 0 6000 (by omega) (by omega)
          rw [Nat.zero_mul, List.take_zero] at lp
          simp only [hc, hb, Option.bind_some, hz, Bool.false_eq_true, if_false, cutL_length, l1]
          exact lp
  · rw [if_pos (show (!decide (cfgOk c0 c1 c2 c3 c4 c5 c6 c7 c8 c9)) = true by simp [ok])]

end Go.Proofs.Ythfdejbckheagaa.Mini
