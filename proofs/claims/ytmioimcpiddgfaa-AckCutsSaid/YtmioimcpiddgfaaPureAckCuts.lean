/- An ack's packet cut short, made longer, with bits turned about: plain laws. -/
import Derived.Test.YtmioimcpiddgfaaPL
import Derived.Test.YtmioimcpiddgfaaMAckCuts
set_option linter.unusedVariables false
namespace Go.Proofs.Ytmioimcpiddgfaa.Mini
open Go Go.RowKit Go.Proofs

open Crc in
theorem cut_end (k : Nat) (hk : 6000 ≤ k) (n b : Int) (h0 : 0 ≤ n) (h1 : n ≤ 1073741824) (hb : 0 ≤ b) (hb' : b < 4294967296) (x : List Int) (a i B : Nat) (hi : i ≤ 32) (ha : a + i ≤ 96)
    (h : Flip (ackPack n b) x (8 + a) i B) : m5F42 k (decide (B % 2 ^ i ≠ 0)) x = some true := by
  have hl : x.length = 13 := by rw [h.len, ackPack_length]
  have hr := ackRead_eq k (by omega) x (by omega) h.byt
  have hw := wakes15 k (by omega)
  have hs := h.sealed hi (by rw [ackPack_length]; omega) (ackPack_bytes n b) (isSealed_seal _)
  have h65 : x.getD 0 0 = 65 := by
    rw [h.head 0 (by omega)]
    rfl
  simp only [m5F42, m5X42, hr, Option.bind_some, eqI_eq]
  by_cases hz : B % 2 ^ i = 0
  · rw [h.same hz, ackRead_pack n b h0 h1 hb hb']
    simp [hz, hw]
  · have : ackRead x = ((0, 0), 4) := by
      unfold ackRead
      rw [hs, h65, hl]
      simp [hz]
    rw [this]
    simp [hz, hw]

theorem arith8 (a i : Nat) (h : a + i < 96) : Int.tdiv ((a + i : Nat) : Int) 8 = (((a + i) / 8 : Nat) : Int) ∧ Int.tmod ((a + i : Nat) : Int) 8 = (((a + i) % 8 : Nat) : Int) ∧ wr .i64 (((a + i) / 8 : Nat) : Int) = (((a + i) / 8 : Nat) : Int) ∧
    wr .i64 (1 + (((a + i) / 8 : Nat) : Int)) = (((8 + a + i) / 8 : Nat) : Int) ∧ wr .u64 (((a + i) % 8 : Nat) : Int) = (((a + i) % 8 : Nat) : Int) ∧ (a + i) % 8 = (8 + a + i) % 8 ∧ (8 + a + i) / 8 < 13 ∧ (8 + a + i) % 8 < 8 ∧ 8 + a + i < 8 * 13 := by
  generalize hz : a + i = z at h
  have e : 8 + a + i = 8 + z := by omega
  rw [e]
  refine ⟨?_, ?_, w64n (by omega), ?_, wu64 (by omega) (by omega), by omega, by omega, by omega, by omega⟩
  · rw [Int.tdiv_eq_ediv_of_nonneg (by omega)]
    omega
  · rw [Int.tmod_eq_emod_of_nonneg (by omega)]
    omega
  · rw [w64 (by omega) (by omega)]
    omega

open Crc in
theorem cut_loop (k : Nat) (hk : 6000 ≤ k) (n b : Int) (h0 : 0 ≤ n) (h1 : n ≤ 1073741824) (hb : 0 ≤ b) (hb' : b < 4294967296) (a B : Nat) (ha : a < 96) (hB : B < 4294967296) : ∀ (d i m : Nat) (x : List Int), i + d = 32 → d < m → a + i ≤ 96 →
    Flip (ackPack n b) x (8 + a) i B → m5F33 k m (a : Int) (B : Int) (decide (B % 2 ^ i ≠ 0)) (i : Int) x = some true := by
  intro d
  induction d with
  | zero =>
    intro i m x hi hm hai h
    obtain ⟨m, rfl⟩ : ∃ y, m = y + 1 := ⟨m - 1, by omega⟩
    have c : ¬ (ltI (i : Int) 32 = true) := by rw [ltI_neg (by omega)]; simp
    rw [m5F33, m5X33, if_neg c]
    exact cut_end k hk n b h0 h1 hb hb' x a i B (by omega) hai h
  | succ d ih =>
    intro i m x hi hm hai h
    obtain ⟨m, rfl⟩ : ∃ y, m = y + 1 := ⟨m - 1, by omega⟩
    have w : wr .i64 ((a : Int) + (i : Int)) = ((a + i : Nat) : Int) := by rw [w64 (by omega) (by omega)]; omega
    rw [m5F33, m5X33, if_pos (ltI_pos (by omega)), w]
    by_cases h96 : a + i < 96
    · have hl : x.length = 13 := by rw [h.len, ackPack_length]
      have hi32 : i < 32 := by clear w h; omega
      have h96i : ((a + i : Nat) : Int) < 96 := by clear w h; omega
      have i64 : (i : Int) < 18446744073709551616 := by clear w h; omega
      have i63 : i < 9223372036854775807 := by clear w h; omega
      have g1 : i + 1 + d = 32 := by clear w h; omega
      have g2 : d < m := by clear w h; omega
      have g3 : a + (i + 1) ≤ 96 := by clear w h; omega
      obtain ⟨t1, t2, w1, w2, w3, hm8, n1, n2, n3⟩ := arith8 a i h96
      have n1' : (8 + a + i) / 8 < x.length := by rw [hl]; exact n1
      have n1i : (((8 + a + i) / 8 : Nat) : Int) < (x.length : Int) := Int.ofNat_lt.2 n1'
      have hb8 : isByte (x.getD ((8 + a + i) / 8) 0) := by
        rw [List.getD_eq_getElem?_getD, List.getElem?_eq_getElem n1']
        exact h.byt _ (List.getElem_mem _)
      have tb := turn_bit k (x.getD ((8 + a + i) / 8) 0) ((8 + a + i) % 8) hb8 n2
      have hlk := look_bit B i hB hi32
      have hu : wr .u64 (i : Int) = (i : Int) := wu64 (Int.natCast_nonneg _) i64
      have e8 : (!eqI 8 0) = true := by rw [eqI_neg (by decide)]; rfl
      have ws := w64s i63
      rw [if_pos (ltI_pos h96i), if_pos (leI_pos (by rw [hu]; exact Int.natCast_nonneg _)), hlk, t1, t2, w1, w2, w3, Int.toNat_natCast]
      by_cases hbit : B / 2 ^ i % 2 = 1
      · rw [hbit, if_pos (eqI_pos (show ((1 : Nat) : Int) = 1 from rfl)), if_pos e8, if_pos (leI_pos (Int.natCast_nonneg _)), if_pos (ltI_pos n1i), if_pos e8, if_pos (leI_pos (Int.natCast_nonneg _)), if_pos (leI_pos (Int.natCast_nonneg _)), if_pos (ltI_pos n1i)]
        simp only [m5F34, m5X34, ws]
        rw [← w3, hm8, tb]
        have hf := h.one hbit (by rw [ackPack_length]; exact n3) hi32
        have := ih (i + 1) m _ g1 g2 g3 hf
        have ht : decide (B % 2 ^ (i + 1) ≠ 0) = true := by
          rw [decide_eq_true_eq, bit_more, hbit]
          rw [Nat.mul_one]
          exact Nat.ne_of_gt (Nat.lt_of_lt_of_le (Nat.two_pow_pos i) (Nat.le_add_left ..))
        rw [ht] at this
        exact this
      · have hbit0 : B / 2 ^ i % 2 = 0 := (Nat.mod_two_eq_zero_or_one _).resolve_right hbit
        have c : ¬ (eqI ((B / 2 ^ i % 2 : Nat) : Int) 1 = true) := by rw [hbit0, eqI_neg (by decide)]; simp
        rw [if_neg c]
        simp only [m5F34, m5X34, ws]
        have := ih (i + 1) m _ g1 g2 g3 (h.skip hbit0)
        have ht : decide (B % 2 ^ (i + 1) ≠ 0) = decide (B % 2 ^ i ≠ 0) := by rw [bit_more, hbit0, Nat.mul_zero, Nat.add_zero]
        rw [ht] at this
        exact this
    · have c : ¬ (ltI ((a + i : Nat) : Int) 96 = true) := by rw [ltI_neg (by omega)]; simp
      rw [if_neg c]
      exact cut_end k hk n b h0 h1 hb hb' x a i B (by omega) hai h

theorem umod (x : Int) (m : Nat) (hm : 0 < m) (hm2 : m ≤ 1000000) : ∃ a : Nat, a < m ∧ wr .i64 (Int.tmod (wr .u64 x) (m : Int)) = (a : Int) := by
  have h0 : 0 ≤ wr .u64 x := Int.emod_nonneg _ (by decide)
  have h1 : Int.tmod (wr .u64 x) (m : Int) = wr .u64 x % (m : Int) := Int.tmod_eq_emod_of_nonneg h0
  have h2 := Int.emod_nonneg (wr .u64 x) (show (m : Int) ≠ 0 by omega)
  have h3 := Int.emod_lt_of_pos (wr .u64 x) (show (0 : Int) < m by omega)
  refine ⟨(wr .u64 x % (m : Int)).toNat, by omega, ?_⟩
  rw [h1, w64 (by omega) (by omega)]
  omega

open Crc in
theorem read_short (k : Nat) (hk : 6000 ≤ k) (l : List Int) (hl : l.length ≤ 4096) (hb : ∀ c ∈ l, isByte c) (h : l.length ≠ 13) : m14F k l = some ((0, 0), 2) := by
  rw [ackRead_eq k (by omega) l hl hb]
  unfold ackRead
  rw [if_pos h]

open Crc in
theorem ackCuts (p : Int × Int) (cut : Int) (more : List Int) (at_ bits : Int) (wp : WfK (.pair (.int .i64) (.int .u32)) p) (wc : (Lit.int .i64 cut).wf = true) (wm : WfK (.row (.int .u8)) more) (wa : (Lit.int .i64 at_).wf = true) (wb : (Lit.int .u32 bits).wf = true) :
    ∃ k, m5F k p cut more at_ bits = some true := by
  refine ⟨6000, ?_⟩
  obtain ⟨n, b⟩ := p
  obtain ⟨_, wb2⟩ := wp
  obtain ⟨b0, b1⟩ := Bv.wf_u32 wb2
  obtain ⟨c0, c1⟩ := Bv.wf_u32 wb
  simp only [m5F, m5X]
  by_cases h0 : n < 0
  · rw [if_pos (ltI_pos h0)]
  by_cases h1 : 1073741824 < n
  · rw [if_neg (by rw [ltI_neg h0]; simp), if_pos (ltI_pos h1)]
  by_cases h2 : (100 : Int) < (more.length : Int)
  · rw [if_neg (by rw [ltI_neg h0]; simp), if_neg (by rw [ltI_neg h1]; simp), if_pos (ltI_pos h2)]
  by_cases h3 : bits = 0
  · rw [if_neg (by rw [ltI_neg h0]; simp), if_neg (by rw [ltI_neg h1]; simp), if_neg (by rw [ltI_neg h2]; simp), if_pos (eqI_pos h3)]
  rw [if_neg (by rw [ltI_neg h0]; simp), if_neg (by rw [ltI_neg h1]; simp), if_neg (by rw [ltI_neg h2]; simp), if_neg (by rw [eqI_neg h3]; simp), ackMake_eq 6000 (by omega) n b (by omega) (by omega) b0 b1, Option.bind_some]
  have hlen := ackPack_length n b
  have hbytes := ackPack_bytes n b
  have rest : m5F26 6000 at_ bits (ackPack n b) = some true := by
    obtain ⟨a, ha, ea⟩ := umod at_ 96 (by omega) (by omega)
    obtain ⟨B, rfl⟩ := Int.eq_ofNat_of_zero_le c0
    have ea' : wr .i64 (Int.tmod (wr .u64 at_) 96) = (a : Int) := ea
    simp only [m5F26, m5X26]
    rw [if_pos (by rw [eqI_neg (by decide)]; rfl), ea']
    have := cut_loop 6000 (by omega) n b (by omega) (by omega) b0 b1 a B ha (by omega) 32 0 6000 (ackPack n b) rfl (by omega) (by omega) (Flip.zero hbytes)
    have hz : decide (B % 2 ^ 0 ≠ 0) = false := by rw [Nat.pow_zero, Nat.mod_one]; rfl
    rw [hz] at this
    exact this
  obtain ⟨c, hc, ec⟩ := umod cut 13 (by omega) (by omega)
  have ec' : wr .i64 (Int.tmod (wr .u64 cut) 13) = (c : Int) := ec
  have s1 := read_short 6000 (by omega) ((ackPack n b).take c) (by rw [List.length_take]; omega) (fun x hx => hbytes x (List.mem_of_mem_take hx)) (by rw [List.length_take]; omega)
  have z0 : (!eqI (0 : Int) 0) = false := by rw [eqI_pos rfl]; rfl
  have z13 : (!eqI ((ackPack n b).length : Int) 13) = false := by rw [eqI_pos (by omega)]; rfl
  simp only [z0, z13, Bool.false_eq_true, if_false, ec', Int.toNat_natCast, List.drop_zero]
  rw [if_pos (by rw [eqI_neg (by decide)]; rfl), if_pos (leI_pos (by omega)), if_pos (leI_pos (by omega)), s1, Option.bind_some]
  have z2 : (!eqI (2 : Int) 2) = false := by rw [eqI_pos rfl]; rfl
  simp only [z2, Bool.false_eq_true, if_false]
  rw [ackEq_eq, Option.bind_some]
  simp only [decide_true, Bool.and_self, Bool.not_true, Bool.false_eq_true, if_false]
  by_cases hm : 0 < more.length
  · have s2 := read_short 6000 (by omega) (ackPack n b ++ more) (by rw [List.length_append]; omega) (fun x hx => by
      rcases List.mem_append.1 hx with hx | hx
      · exact hbytes x hx
      · exact bytes_wf wm x hx) (by rw [List.length_append]; omega)
    rw [if_pos (ltI_pos (by omega)), twin_eq 6000 _ (by omega), Option.bind_some, if_pos (leI_pos (by omega)), s2, Option.bind_some]
    simp only [z2, Bool.false_eq_true, if_false]
    exact rest
  · rw [if_neg (by rw [ltI_neg (by omega)]; simp)]
    exact rest

end Go.Proofs.Ytmioimcpiddgfaa.Mini
