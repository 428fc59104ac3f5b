/- The blocks of messages, in order, are put together to these, one by one, whatever was open ahead: a plain law. -/
import Derived.Test.YthfdejbckheagaaPL
import Derived.Test.YthfdejbckheagaaMJoinMessages
set_option linter.unusedVariables false
namespace Go.Proofs.Ythfdejbckheagaa.Mini
open Go Go.RowKit Go.Proofs

theorem ends_eq (k : Nat) (o : Bool) (txt : List Int) (s m : Int) (t : List Int) (hm0 : 0 ≤ m) (hm : m ≤ 3) : m34F k (o, txt) (s, m, t) = some (decide (2 ≤ m) && (o || !decide (m = 0 ∨ m = 2))) := by
  obtain ⟨e1, e2⟩ := mark_bits m hm0 hm
  simp only [m34F, m34X, e1, e2]
  by_cases h : m < 2
  · rw [if_neg (by simp [h]), decide_eq_false (show ¬ 2 ≤ m by omega)]
    rfl
  · rw [if_pos (by simp [h]), decide_eq_true (show 2 ≤ m by omega)]
    cases o <;> rfl
theorem mk_facts (n i : Nat) (hi : i < n) : 0 ≤ mkMark n i ∧ mkMark n i ≤ 3 ∧ ((mkMark n i = 0 ∨ mkMark n i = 2) ↔ i ≠ 0) ∧ (mkMark n i < 2 ↔ i + 1 ≠ n) := by
  unfold mkMark
  by_cases h1 : i = 0 <;> by_cases h2 : i + 1 = n
  · rw [if_pos h1, if_pos h2]
    exact ⟨by omega, by omega, ⟨by omega, by omega⟩, ⟨by omega, by omega⟩⟩
  · rw [if_pos h1, if_neg h2]
    exact ⟨by omega, by omega, ⟨by omega, by omega⟩, ⟨by omega, by omega⟩⟩
  · rw [if_neg h1, if_pos h2]
    exact ⟨by omega, by omega, ⟨by omega, by omega⟩, ⟨by omega, by omega⟩⟩
  · rw [if_neg h1, if_neg h2]
    exact ⟨by omega, by omega, ⟨by omega, by omega⟩, ⟨by omega, by omega⟩⟩
/-- What is open ahead of a block. -/
def stO (n i : Nat) (o : Bool) : Bool := if i = 0 then o else decide (i < n)
def stT (B n i : Nat) (txt msg : List Int) : List Int := if i = 0 then txt else if i < n then msg.take (i * B) else []
theorem msgs_ar (n i : Nat) (hi : i < n) (hn : n ≤ 201) : ltI (i : Int) (n : Int) = true ∧ leI 0 (i : Int) = true ∧ wr .i64 ((n : Int) - 1) = ((n - 1 : Nat) : Int) ∧ wr .i64 ((i : Int) + 1) = ((i + 1 : Nat) : Int) ∧ eqI (i : Int) ((n - 1 : Nat) : Int) = decide (i + 1 = n) := by
  refine ⟨ltI_pos (by omega), leI_pos (by omega), by rw [w64 (by omega) (by omega)]; omega, w64s (by omega), ?_⟩
  by_cases h : i + 1 = n
  · rw [eqI_pos (by omega), decide_eq_true h]
  · rw [eqI_neg (by omega), decide_eq_false h]
theorem msg_loop (k : Nat) (hk : 5001 ≤ k) (L : List (List Int) → Int → Int → Int → Int → Int → Int → Int → Int → Int → Int → Int → Int → Bool → List Int → Option Bool) (ms : List (List Int)) (q : Int) (p : Nat) (hp : p < ms.length) (hp2 : p ≤ 10) (msg : List Int) (hmsg : ms.getD p [] = msg) (B : Nat) (c1 c2 c3 c4 c5 c6 c7 c8 c9 : Int) (n : Nat) (hn : n = nBlk B msg.length) (hB : 1 ≤ B) (hB2 : B ≤ 16) (hl : msg.length ≤ 200)
    (o : Bool) (txt : List Int) (ho : o = true ∨ txt = []) (ht : txt.length ≤ 4096) : ∀ (d i j : Nat), i + d = n → d < j →
    m10F29 k L j ms q (p : Int) (i : Int) (B : Int) c1 c2 c3 c4 c5 c6 c7 c8 c9 (stO n i o) (stT B n i txt msg) (cutL B q msg) = m10F44 k L ms q (p : Int) (B : Int) c1 c2 c3 c4 c5 c6 c7 c8 c9 false [] (cutL B q msg) := by
  have hn2 : n ≤ 201 := by
    have := nBlk_le B msg.length hB
    omega
  have hpos : 1 ≤ n := by rw [hn]; exact nBlk_pos B msg.length hB
  intro d
  induction d with
  | zero =>
    intro i j hi hj
    obtain ⟨j, rfl⟩ : ∃ y, j = y + 1 := ⟨j - 1, by omega⟩
    obtain rfl : i = n := by omega
    simp only [m10F29, m10X29]
    rw [if_neg (by rw [cutL_length, ← hn, ltI_neg (by omega)]; simp)]
    have e1 : stO i i o = false := by
      unfold stO
      rw [if_neg (by omega), decide_eq_false (by omega)]
    have e2 : stT B i i txt msg = [] := by
      unfold stT
      rw [if_neg (by omega), if_neg (by omega)]
    rw [e1, e2]
  | succ d ih =>
    intro i j hi hj
    obtain ⟨j, rfl⟩ : ∃ y, j = y + 1 := ⟨j - 1, by omega⟩
    have hin : i < n := by omega
    have g1 : i + 1 + d = n := by omega
    have g2 : d < j := by omega
    have h2 := ih (i + 1) j g1 g2
    have ga := cutL_get B q msg i (hn ▸ hin)
    rw [← hn] at ga
    obtain ⟨m0, m3, modd, mlast⟩ := mk_facts n i hin
    have hpl : (piece B msg i).length ≤ 16 := by
      unfold piece
      exact Nat.le_trans (List.length_take_le _ _) hB2
    have hend := ends_eq k (stO n i o) (stT B n i txt msg) (q + (i : Int)) (mkMark n i) (piece B msg i) m0 m3
    have hlt : (stT B n i txt msg).length ≤ 4096 := by
      unfold stT
      by_cases h0 : i = 0
      · rw [if_pos h0]
        exact ht
      · rw [if_neg h0, if_pos hin]
        exact Nat.le_trans (List.length_take_le' _ _) (by omega)
    have hso : stO n i o = true ∨ (stT B n i txt msg = [] ∧ ¬ (mkMark n i = 0 ∨ mkMark n i = 2)) := by
      unfold stO stT
      by_cases h0 : i = 0
      · rw [if_pos h0, if_pos h0]
        exact ho.imp_right fun h => ⟨h, fun h' => modd.1 h' h0⟩
      · rw [if_neg h0]
        exact .inl (decide_eq_true hin)
    have htk := take_open k (q + (i : Int)) (mkMark n i) (stO n i o) (stT B n i txt msg) (piece B msg i) m0 m3 hpl hlt hso
    have hbase : (if mkMark n i = 0 ∨ mkMark n i = 2 then stT B n i txt msg else []) = msg.take (i * B) := by
      by_cases h0 : i = 0
      · rw [if_neg fun h => modd.1 h h0, h0, Nat.zero_mul, List.take_zero]
      · rw [if_pos (modd.2 h0)]
        unfold stT
        rw [if_neg h0, if_pos hin]
    have hcl : ¬ 4096 < (msg.take (i * B)).length + (piece B msg i).length := by
      have := List.length_take_le' (i * B) msg
      omega
    rw [hbase, if_neg hcl, piece_more] at htk
    obtain ⟨r1, r2, r3, r4, r5⟩ := msgs_ar n i hin hn2
    have hz : ∀ z : Int, (!eqI z z) = false := fun z => by rw [eqI_pos rfl]; rfl
    by_cases hlast : i + 1 = n
    · have hm2 : ¬ mkMark n i < 2 := fun h => mlast.1 h hlast
      have hee : (decide (2 ≤ mkMark n i) && (stO n i o || !decide (mkMark n i = 0 ∨ mkMark n i = 2))) = true := by
        rw [decide_eq_true (by omega)]
        rcases hso with h | ⟨_, h⟩
        · rw [h]
          rfl
        · rw [decide_eq_false h]
          simp
      rw [hee] at hend
      have hall : msg.take ((i + 1) * B) = msg := List.take_of_length_le (by rw [hlast, hn]; exact nBlk_end B msg.length hB)
      rw [if_neg hm2, hall] at htk
      have hby : m28F k msg msg = some true := by
        rw [bytes_eq' k hk _ _ (by omega), decide_eq_true rfl]
      have e1 : stO n (i + 1) o = false := by
        unfold stO
        rw [if_neg (Nat.succ_ne_zero i), decide_eq_false (by omega)]
      have e2 : stT B n (i + 1) txt msg = [] := by
        unfold stT
        rw [if_neg (Nat.succ_ne_zero i), if_neg (by omega)]
      have e3 : decide (i + 1 = n) = true := decide_eq_true hlast
      have p1 : leI 0 (p : Int) = true := leI_pos (Int.natCast_nonneg _)
      have p2 : ltI (p : Int) (ms.length : Int) = true := ltI_pos (Int.ofNat_lt.2 hp)
      rw [e1, e2] at h2
      simp only [m10F29, m10X29, cutL_length, ← hn, r1, r2, if_true, Int.toNat_natCast, ga, blkAt, hend, Option.bind_some, r3, r5, e3, beq_self_eq_true, Bool.not_true, Bool.false_eq_true, if_false, htk, hz, p1, p2, hmsg, hby, r4]
      exact h2
    · have hm2 : mkMark n i < 2 := mlast.2 hlast
      have hee : (decide (2 ≤ mkMark n i) && (stO n i o || !decide (mkMark n i = 0 ∨ mkMark n i = 2))) = false := by
        rw [decide_eq_false (by omega)]
        rfl
      rw [hee] at hend
      rw [if_pos hm2] at htk
      have e1 : stO n (i + 1) o = true := by
        unfold stO
        rw [if_neg (Nat.succ_ne_zero i), decide_eq_true (by omega)]
      have e2 : stT B n (i + 1) txt msg = msg.take ((i + 1) * B) := by
        unfold stT
        rw [if_neg (Nat.succ_ne_zero i), if_pos (by omega)]
      have e3 : decide (i + 1 = n) = false := decide_eq_false hlast
      have el : ltI 0 (([] : List Int).length : Int) = false := ltI_neg (by decide)
      rw [e1, e2] at h2
      simp only [m10F29, m10X29, cutL_length, ← hn, r1, r2, if_true, Int.toNat_natCast, ga, blkAt, hend, Option.bind_some, r3, r5, e3, beq_self_eq_true, Bool.not_true, Bool.not_false, Bool.false_eq_true, if_false, htk, hz, el, r4]
      exact h2
theorem msgs_ar2 (q n p l : Nat) (hq : q ≤ 201 * p) (hn : n ≤ 201) (hp : p < l) (hl : l ≤ 10) (h1 : 1 ≤ n) : ltI (p : Int) (l : Int) = true ∧ leI 0 (p : Int) = true ∧ wr .i64 ((q : Int) + (n : Int)) = ((q + n : Nat) : Int) ∧ wr .i64 ((p : Int) + 1) = ((p + 1 : Nat) : Int) ∧ eqI (n : Int) 0 = false ∧ (q : Int) + (n : Int) ≤ 1073741824 :=
  ⟨ltI_pos (by omega), leI_pos (by omega), by rw [w64 (by omega) (by omega)]; omega, w64s (by omega), eqI_neg (by omega), by omega⟩
theorem msgs_loop (k : Nat) (hk : 5001 ≤ k) (ms : List (List Int)) (hl : ms.length ≤ 10) (B : Nat) (c1 c2 c3 c4 c5 c6 c7 c8 c9 : Int) (ok : cfgOk (B : Int) c1 c2 c3 c4 c5 c6 c7 c8 c9) : ∀ (d p j q : Nat) (o : Bool) (txt : List Int), p + d = ms.length → d < j → q ≤ 201 * p → (o = true ∨ txt = []) → txt.length ≤ 4096 →
    m10F13 k j ms (q : Int) (p : Int) (B : Int) c1 c2 c3 c4 c5 c6 c7 c8 c9 o txt = some true := by
  have hB := ok.1
  have h8 := ok.2.2.2.2.2.2.2.2.1
  unfold within at hB h8
  intro d
  induction d with
  | zero =>
    intro p j q o txt hp hj hq ho ht
    obtain ⟨j, rfl⟩ : ∃ y, j = y + 1 := ⟨j - 1, by omega⟩
    simp only [m10F13, m10X13]
    rw [if_neg (by rw [ltI_neg (by omega)]; simp), wakes21, Option.bind_some]
  | succ d ih =>
    intro p j q o txt hp hj hq ho ht
    obtain ⟨j, rfl⟩ : ∃ y, j = y + 1 := ⟨j - 1, by omega⟩
    have hpl : p < ms.length := by omega
    obtain ⟨msg, hmsg⟩ : ∃ msg, ms.getD p [] = msg := ⟨_, rfl⟩
    have p1 : ltI (p : Int) (ms.length : Int) = true := ltI_pos (by omega)
    have p2 : leI 0 (p : Int) = true := leI_pos (by omega)
    simp only [m10F13, m10X13, p1, p2, if_true, Int.toNat_natCast, hmsg]
    by_cases h : c8 < (msg.length : Int)
    · rw [if_pos (ltI_pos h)]
    · rw [if_neg (by rw [ltI_neg h]; simp)]
      have hml : msg.length ≤ 200 := by omega
      have hle := nBlk_le B msg.length (by omega)
      have hpos := nBlk_pos B msg.length (by omega)
      obtain ⟨_, _, a3, a4, a5, a6⟩ := msgs_ar2 q (nBlk B msg.length) p ms.length hq (by omega) hpl hl hpos
      have g1 : p + 1 + d = ms.length := by clear a3 a4; omega
      have g2 : d < j := by clear a3 a4; omega
      have g3 : q + nBlk B msg.length ≤ 201 * (p + 1) := by clear a3 a4; omega
      have hB1 : 1 ≤ B := by clear a3 a4; omega
      have hB2 : B ≤ 16 := by clear a3 a4; omega
      have hp10 : p ≤ 10 := by clear a3 a4; omega
      have h8' : (msg.length : Int) ≤ c8 := by clear a3 a4; omega
      have hkk : nBlk B msg.length < k := by clear a3 a4; omega
      have hc := cutCut_eq k hk (q : Int) msg B c1 c2 c3 c4 c5 c6 c7 c8 c9 ok h8' (Int.natCast_nonneg _) a6
      have lp := msg_loop k hk (m10F13 k j) ms (q : Int) p hpl hp10 msg hmsg B c1 c2 c3 c4 c5 c6 c7 c8 c9 (nBlk B msg.length) rfl hB1 hB2 hml o txt ho ht (nBlk B msg.length) 0 k (Nat.zero_add _) hkk
      have e1 : stO (nBlk B msg.length) 0 o = o := rfl
      have e2 : stT B (nBlk B msg.length) 0 txt msg = txt := rfl
      rw [e1, e2] at lp
      have hz : ∀ z : Int, (!eqI z z) = false := fun z => by rw [eqI_pos rfl]; rfl
      have nx := ih (p + 1) j (q + nBlk B msg.length) false [] g1 g2 g3 (.inr rfl) (Nat.zero_le _)
      simp only [hc, Option.bind_some, hz, Bool.false_eq_true, if_false, cutL_length, a5]
      refine lp.trans ?_
      simp only [m10F44, m10X44, m10F14, m10X14, cutL_length, a3, a4]
      exact nx
theorem joinMessages (c : Int × (Int × (Int × (Int × (Int × (Int × (Int × (Int × (Int × Int))))))))) (ms : List (List Int)) (opn : List Int) (wc : WfK (.pair (.int .i64) (.pair (.int .i64) (.pair (.int .i64) (.pair (.int .i64) (.pair (.int .i64) (.pair (.int .i64) (.pair (.int .i64) (.pair (.int .i64) (.pair (.int .i64) (.int .i64)))))))))) c) (wm : WfK (.row (.row (.int .u8))) ms) (wo : WfK (.row (.int .u8)) opn) : ∃ k, m10F k c ms opn = some true := by
  refine ⟨6000, ?_⟩
  obtain ⟨c0, c1, c2, c3, c4, c5, c6, c7, c8, c9⟩ := c
  simp only [m10F, m10X, config_eq, Option.bind_some]
  by_cases ok : cfgOk c0 c1 c2 c3 c4 c5 c6 c7 c8 c9
  · rw [if_neg (show ¬ ((!decide (cfgOk c0 c1 c2 c3 c4 c5 c6 c7 c8 c9)) = true) by simp [ok])]
    have hB := ok.1
    unfold within at hB
    by_cases h1 : ms.length ≤ 10
    · by_cases h2 : opn.length ≤ 100
      · obtain ⟨B, rfl⟩ : ∃ B : Nat, c0 = (B : Int) := ⟨c0.toNat, by omega⟩
        rw [if_neg (by rw [ltI_neg (by omega)]; simp), if_neg (by rw [ltI_neg (by omega)]; simp), twin_eq 6000 opn (by omega), Option.bind_some]
        have lp := msgs_loop 6000 (by decide) ms h1 B c1 c2 c3 c4 c5 c6 c7 c8 c9 ok ms.length 0 6000 0 true opn (by omega) (by omega) (by omega) (.inl rfl) (by omega)
        exact lp
      · rw [if_neg (by rw [ltI_neg (by omega)]; simp), if_pos (ltI_pos (by omega))]
    · rw [if_pos (ltI_pos (by omega))]
  · rw [if_pos (show (!decide (cfgOk c0 c1 c2 c3 c4 c5 c6 c7 c8 c9)) = true by simp [ok])]

end Go.Proofs.Ythfdejbckheagaa.Mini
