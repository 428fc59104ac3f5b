/- A message cut behind so many bytes of whole blocks is cut as both its parts are, but for the marks; numbered elsewhere it is the same, but for the numbers: a plain law. -/
import Derived.Test.YthfdejbckheagaaPL
import Derived.Test.YthfdejbckheagaaMCutSides
set_option linter.unusedVariables false
namespace Go.Proofs.Ythfdejbckheagaa.Mini
open Go Go.RowKit Go.Proofs

theorem nBlk_whole (B K : Nat) (hB : 1 ≤ B) (hK : 1 ≤ K) : nBlk B (K * B) = K := by
  unfold nBlk
  have h : K * B ≠ 0 := Nat.ne_of_gt (Nat.mul_pos hK hB)
  rw [if_neg h]
  have e : K * B + B - 1 = (B - 1) + B * K := by
    rw [Nat.mul_comm]
    omega
  rw [e, Nat.add_mul_div_left _ _ hB, Nat.div_eq_of_lt (by omega), Nat.zero_add]
theorem nBlk_rest (B K len : Nat) (hB : 1 ≤ B) (h : K * B < len) : nBlk B (len - K * B) + K = nBlk B len := by
  unfold nBlk
  rw [if_neg (by omega), if_neg (by omega)]
  have e : len + B - 1 = (len - K * B + B - 1) + B * K := by
    rw [Nat.mul_comm B K]
    omega
  rw [e, Nat.add_mul_div_left _ _ hB]
theorem piece_take (B K : Nat) (msg : List Int) (i : Nat) (h : i < K) : piece B (msg.take (K * B)) i = piece B msg i := by
  unfold piece
  have h2 : i * B + B ≤ K * B := by
    have := Nat.mul_le_mul_right B (show i + 1 ≤ K from h)
    rw [Nat.add_mul, Nat.one_mul] at this
    exact this
  rw [List.drop_take, List.take_take, Nat.min_eq_left (by omega)]
theorem piece_drop (B K : Nat) (msg : List Int) (i : Nat) (h : K ≤ i) : piece B (msg.drop (K * B)) (i - K) = piece B msg i := by
  unfold piece
  rw [List.drop_drop]
  have e : K * B + (i - K) * B = i * B := by
    rw [← Nat.add_mul]
    congr 1
    omega
  rw [e]
theorem sides_ar (S K i n : Nat) (hS : S < 1000) (hi : i < n) (hn : n ≤ 201) (hK : K ≤ n) : ltI (i : Int) (n : Int) = true ∧ leI 0 (i : Int) = true ∧ wr .i64 ((S : Int) + (i : Int)) = (S : Int) + (i : Int) ∧ wr .i64 ((i : Int) + 1) = ((i + 1 : Nat) : Int) ∧
    (i < K → ltI (i : Int) (K : Int) = true ∧ leI (K : Int) (i : Int) = false) ∧ (¬ i < K → ltI (i : Int) (K : Int) = false ∧ leI (K : Int) (i : Int) = true ∧ wr .i64 ((i : Int) - (K : Int)) = ((i - K : Nat) : Int) ∧ leI 0 ((i - K : Nat) : Int) = true ∧ ltI ((i - K : Nat) : Int) ((n - K : Nat) : Int) = true ∧ (K : Int) + ((i - K : Nat) : Int) = 0 + (i : Int)) :=
  ⟨ltI_pos (by omega), leI_pos (by omega), w64 (by omega) (by omega), w64s (by omega), fun h => ⟨ltI_pos (by omega), leI_neg (by omega)⟩, fun h => ⟨ltI_neg (by omega), leI_pos (by omega), by rw [w64 (by omega) (by omega)]; omega, leI_pos (by omega), ltI_pos (by omega), by omega⟩⟩
theorem sides_loop (k : Nat) (hk : 5001 ≤ k) (S K : Nat) (msg : List Int) (B n : Nat) (hn : n = nBlk B msg.length) (hB : 1 ≤ B) (hB2 : B ≤ 16) (hl : msg.length ≤ 200) (hS : S < 1000) (hK1 : 1 ≤ K) (hKB : K * B < msg.length) : ∀ (d i j : Nat), i + d = n → d < j →
    m8F29 k j (S : Int) (K : Int) (i : Int) (cutL B 0 msg) (cutL B 0 (msg.take (K * B))) (cutL B (K : Int) (msg.drop (K * B))) (cutL B (S : Int) msg) = some true := by
  have hn2 : n ≤ 201 := by
    have := nBlk_le B msg.length hB
    omega
  have hla : (msg.take (K * B)).length = K * B := by rw [List.length_take]; omega
  have hlb : (msg.drop (K * B)).length = msg.length - K * B := List.length_drop ..
  have hna : nBlk B (msg.take (K * B)).length = K := by rw [hla, nBlk_whole B K hB hK1]
  have hnb : nBlk B (msg.drop (K * B)).length + K = n := by rw [hlb, hn]; exact nBlk_rest B K _ hB hKB
  have hnb2 : nBlk B (msg.drop (K * B)).length = n - K := by omega
  have hKn : K ≤ n := by omega
  intro d
  induction d with
  | zero =>
    intro i j hi hj
    obtain ⟨j, rfl⟩ : ∃ y, j = y + 1 := ⟨j - 1, by omega⟩
    simp only [m8F29, m8X29]
    rw [if_neg (by rw [cutL_length, ← hn, ltI_neg (by omega)]; simp)]
    simp only [wakes20 k hk, Option.bind_some]
  | succ d ih =>
    intro i j hi hj
    obtain ⟨j, rfl⟩ : ∃ y, j = y + 1 := ⟨j - 1, by omega⟩
    have hin : i < n := by omega
    have g1 : i + 1 + d = n := by omega
    have g2 : d < j := by omega
    have h2 := ih (i + 1) j g1 g2
    have ga := cutL_get B 0 msg i (hn ▸ hin)
    have gd := cutL_get B (S : Int) msg i (hn ▸ hin)
    have hpl : (piece B msg i).length ≤ 5000 := by
      unfold piece
      exact Nat.le_trans (List.length_take_le _ _) (Nat.le_trans hB2 (by decide))
    have hby : m28F k (piece B msg i) (piece B msg i) = some true := by
      rw [bytes_eq' k hk _ _ hpl, decide_eq_true rfl]
    have gl : i < K → (cutL B 0 (msg.take (K * B))).getD i (0, 0, []) = blkAt B K 0 (msg.take (K * B)) i := fun h => by
      have := cutL_get B 0 (msg.take (K * B)) i (by rw [hna]; exact h)
      rw [hna] at this
      exact this
    have gr : ¬ i < K → (cutL B (K : Int) (msg.drop (K * B))).getD (i - K) (0, 0, []) = blkAt B (n - K) (K : Int) (msg.drop (K * B)) (i - K) := fun h => by
      have := cutL_get B (K : Int) (msg.drop (K * B)) (i - K) (by rw [hnb2]; omega)
      rw [hnb2] at this
      exact this
    obtain ⟨r1, r2, r3, r4, r5, r6⟩ := sides_ar S K i n hS hin hn2 hKn
    have hz : ∀ z : Int, (!eqI z z) = false := fun z => by rw [eqI_pos rfl]; rfl
    simp only [m8F29, m8X29, cutL_length, ← hn, hna, hnb2, r1, r2, if_true, Int.toNat_natCast, ga, gd, blkAt, r3, hz, Bool.false_eq_true, if_false, hby, Option.bind_some, Bool.not_true, r4]
    by_cases h : i < K
    · obtain ⟨s1, s2⟩ := r5 h
      simp only [s1, s2, if_true, gl h, blkAt, hz, Bool.false_eq_true, if_false, piece_take B K msg i h, hby, Option.bind_some, Bool.not_true]
      exact h2
    · obtain ⟨s1, s2, s3, s4, s5, s6⟩ := r6 h
      simp only [s1, s2, s3, s4, s5, if_true, Int.toNat_natCast, gr h, blkAt, s6, hz, Bool.false_eq_true, if_false, piece_drop B K msg i (Nat.le_of_not_lt h), hby, Option.bind_some, Bool.not_true]
      exact h2
theorem sides_ar2 (B K len n : Nat) (hB : 1 ≤ B) (hB2 : B ≤ 16) (hl : len ≤ 200) (hn : n ≤ 201) (z : Nat) (hz : z = K * B) (hK : z < len) : wr .i64 (z : Int) = (z : Int) ∧ leI 0 (z : Int) = true ∧ leI (z : Int) (len : Int) = true :=
  ⟨w64n (by omega), leI_pos (by omega), leI_pos (by omega)⟩
theorem sides_mid (k : Nat) (hk : 5001 ≤ k) (q : Int) (K : Nat) (msg : List Int) (B : Nat) (c1 c2 c3 c4 c5 c6 c7 c8 c9 : Int) (ok : cfgOk (B : Int) c1 c2 c3 c4 c5 c6 c7 c8 c9) (hl8 : (msg.length : Int) ≤ c8) (hK1 : 1 ≤ K) (hKB : K * B < msg.length) :
    m8F12 k msg q (K : Int) (B : Int) c1 c2 c3 c4 c5 c6 c7 c8 c9 = some true := by
  have hB := ok.1
  have h8 := ok.2.2.2.2.2.2.2.2.1
  unfold within at hB h8
  have hB1 : 1 ≤ B := by omega
  have hB2 : B ≤ 16 := by omega
  have hl : msg.length ≤ 200 := by omega
  have hle := nBlk_le B msg.length hB1
  have hla : (msg.take (K * B)).length = K * B := by rw [List.length_take]; omega
  have hlb : (msg.drop (K * B)).length = msg.length - K * B := List.length_drop ..
  have hna : nBlk B (msg.take (K * B)).length = K := by rw [hla, nBlk_whole B K hB1 hK1]
  have hnb : nBlk B (msg.drop (K * B)).length + K = nBlk B msg.length := by rw [hlb]; exact nBlk_rest B K _ hB1 hKB
  have hKn : K ≤ nBlk B msg.length := by omega
  obtain ⟨S, hS, eS⟩ := umod0 q 1000 (by decide)
  have e1000 : ((1000 : Nat) : Int) = 1000 := rfl
  rw [e1000] at eS
  have k1 := cutCut_eq k hk 0 msg B c1 c2 c3 c4 c5 c6 c7 c8 c9 ok hl8 (by decide) (by clear eS; omega)
  have k2 := cutCut_eq k hk 0 (msg.take (K * B)) B c1 c2 c3 c4 c5 c6 c7 c8 c9 ok (by clear eS; rw [hla]; omega) (by decide) (by clear eS; rw [hna]; omega)
  have k3 := cutCut_eq k hk (K : Int) (msg.drop (K * B)) B c1 c2 c3 c4 c5 c6 c7 c8 c9 ok (by clear eS; rw [hlb]; omega) (Int.natCast_nonneg _) (by clear eS; omega)
  have k4 := cutCut_eq k hk (S : Int) msg B c1 c2 c3 c4 c5 c6 c7 c8 c9 ok hl8 (Int.natCast_nonneg _) (by clear eS; omega)
  have lp := sides_loop k hk S K msg B (nBlk B msg.length) rfl hB1 hB2 hl hS hK1 hKB (nBlk B msg.length) 0 k (by clear eS; omega) (by clear eS; omega)
  have ar : wr .i64 (S : Int) = (S : Int) ∧ (!eqI ((nBlk B (msg.take (K * B)).length : Nat) : Int) (K : Int)) = false ∧ wr .i64 (((nBlk B (msg.take (K * B)).length : Nat) : Int) + ((nBlk B (msg.drop (K * B)).length : Nat) : Int)) = ((nBlk B msg.length : Nat) : Int) ∧ (!eqI (1000 : Int) 0) = true := by
    clear eS
    exact ⟨w64n (by omega), by rw [eqI_pos (by omega)]; rfl, by rw [w64 (by omega) (by omega)]; omega, by rw [eqI_neg (by decide)]; rfl⟩
  obtain ⟨a1, a2, a3, a4⟩ := ar
  obtain ⟨b1, b2, b3⟩ := sides_ar2 B K msg.length (nBlk B msg.length) hB1 hB2 hl (by clear eS a1 a3; omega) (K * B) rfl hKB
  have eKB : (K : Int) * (B : Int) = ((K * B : Nat) : Int) := (Int.natCast_mul K B).symm
  have hz : ∀ z : Int, (!eqI z z) = false := fun z => by rw [eqI_pos rfl]; rfl
  simp only [m8F12, m8X12, a4, if_true, k1, Option.bind_some, eKB, b1, b2, b3, Int.toNat_natCast, k2, k3, eS, a1, k4, hz, Bool.false_eq_true, if_false, cutL_length, a2, a3]
  exact lp
theorem sides_ar3 (B len a : Nat) (hB : 1 ≤ B) (hB2 : B ≤ 16) (hl : len ≤ 200) (h2 : 2 * B ≤ len) (hd : len / B ≤ 200) (hd1 : 2 ≤ len / B) (ha : a < len / B) (z : Nat) (hz : z = (1 + a) * B) (hz2 : z ≤ len) : (!eqI (B : Int) 0) = true ∧ Int.tdiv (len : Int) (B : Int) = ((len / B : Nat) : Int) ∧ wr .i64 ((len / B : Nat) : Int) = ((len / B : Nat) : Int) ∧ wr .u64 ((len / B : Nat) : Int) = ((len / B : Nat) : Int) ∧ (!eqI ((len / B : Nat) : Int) 0) = true ∧
    wr .i64 (1 + (a : Int)) = ((1 + a : Nat) : Int) ∧ wr .i64 (((1 + a : Nat) : Int) - 1) = (a : Int) ∧ wr .i64 (z : Int) = (z : Int) ∧ wr .i64 (a : Int) = (a : Int) := by
  refine ⟨by rw [eqI_neg (by omega)]; rfl, ?_, w64n (by omega), wu64 (by omega) (by omega), by rw [eqI_neg (by omega)]; rfl, by rw [w64 (by omega) (by omega)]; omega, by rw [w64 (by omega) (by omega)]; omega, w64n (by omega), w64n (by omega)⟩
  rw [Int.tdiv_eq_ediv_of_nonneg (Int.natCast_nonneg _)]
  exact (Int.natCast_ediv _ _).symm
theorem cutSides (c : Int × (Int × (Int × (Int × (Int × (Int × (Int × (Int × (Int × Int))))))))) (msg : List Int) (at_ q : Int) (wc : WfK (.pair (.int .i64) (.pair (.int .i64) (.pair (.int .i64) (.pair (.int .i64) (.pair (.int .i64) (.pair (.int .i64) (.pair (.int .i64) (.pair (.int .i64) (.pair (.int .i64) (.int .i64)))))))))) c) (wm : WfK (.row (.int .u8)) msg) (wa : (Lit.int .i64 at_).wf = true) (wq : (Lit.int .i64 q).wf = true) : ∃ k, m8F k c msg at_ q = some true := by
  refine ⟨6000, ?_⟩
  obtain ⟨c0, c1, c2, c3, c4, c5, c6, c7, c8, c9⟩ := c
  simp only [m8F, m8X, config_eq, Option.bind_some]
  by_cases ok : cfgOk c0 c1 c2 c3 c4 c5 c6 c7 c8 c9
  · rw [if_neg (show ¬ ((!decide (cfgOk c0 c1 c2 c3 c4 c5 c6 c7 c8 c9)) = true) by simp [ok])]
    have hB := ok.1
    have h8 := ok.2.2.2.2.2.2.2.2.1
    unfold within at hB h8
    by_cases h1 : c8 < (msg.length : Int)
    · rw [if_pos (ltI_pos h1)]
    · rw [if_neg (by rw [ltI_neg h1]; simp)]
      obtain ⟨B, rfl⟩ : ∃ B : Nat, c0 = (B : Int) := ⟨c0.toNat, by omega⟩
      have w2 : wr .i64 (2 * (B : Int)) = ((2 * B : Nat) : Int) := by
        rw [w64 (by omega) (by omega)]
        omega
      rw [w2]
      clear w2
      by_cases h2 : (msg.length : Int) < ((2 * B : Nat) : Int)
      · rw [if_pos (ltI_pos h2)]
      · rw [if_neg (by rw [ltI_neg h2]; simp)]
        have hB1 : 1 ≤ B := by omega
        have hB2 : B ≤ 16 := by omega
        have hl : msg.length ≤ 200 := by omega
        have hdl : msg.length / B ≤ 200 := Nat.le_trans (Nat.div_le_self _ _) hl
        have hd2 : 2 ≤ msg.length / B := (Nat.le_div_iff_mul_le hB1).2 (by omega)
        obtain ⟨a, ha, ea⟩ := umod0 at_ (msg.length / B) (by omega)
        have hz2 : (1 + a) * B ≤ msg.length := by
          clear ea
          exact (Nat.le_div_iff_mul_le hB1).1 (by omega)
        obtain ⟨r1, r2, r3, r4, r5, r6, r7, r8, r9⟩ := sides_ar3 B msg.length a hB1 hB2 hl (by clear ea; omega) hdl hd2 ha _ rfl hz2
        have eKB : ((1 + a : Nat) : Int) * (B : Int) = (((1 + a) * B : Nat) : Int) := (Int.natCast_mul (1 + a) B).symm
        simp only [r1, if_true, r2, r3, r4, r5, ea, r9, r6, eKB, r8, r7]
        clear r1 r2 r3 r4 r5 r6 r7 r8 r9 ea eKB
        by_cases hx : msg.length ≤ (1 + a) * B
        · rw [if_pos (leI_pos (by omega))]
          have hxe : (1 + a) * B = msg.length := Nat.le_antisymm hz2 hx
          have ha1 : 1 ≤ a := by
            rcases Nat.eq_zero_or_pos a with h0 | h0
            · rw [h0, Nat.add_zero, Nat.one_mul] at hxe
              omega
            · exact h0
          refine sides_mid 6000 (by decide) q a msg B c1 c2 c3 c4 c5 c6 c7 c8 c9 ok (by omega) ha1 ?_
          rw [Nat.add_mul, Nat.one_mul] at hxe
          omega
        · rw [if_neg (by rw [leI_neg (by omega)]; simp)]
          exact sides_mid 6000 (by decide) q (1 + a) msg B c1 c2 c3 c4 c5 c6 c7 c8 c9 ok (by omega) (by omega) (by omega)
  · rw [if_pos (show (!decide (cfgOk c0 c1 c2 c3 c4 c5 c6 c7 c8 c9)) = true by simp [ok])]

end Go.Proofs.Ythfdejbckheagaa.Mini
