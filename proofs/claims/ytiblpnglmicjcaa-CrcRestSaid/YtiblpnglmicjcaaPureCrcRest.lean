/- The sums are rests of divisions of polynomials: of the text, its first bits turned about, with as many noughts behind as the sum has bits: a plain law. -/
import Derived.Test.YtiblpnglmicjcaaPL
import Derived.Test.YtiblpnglmicjcaaMCrcRest
set_option linter.unusedVariables false
set_option linter.unusedSimpArgs false
namespace Go.Proofs.Ytiblpnglmicjcaa.Mini
open Go Go.RowKit Go.Proofs Gf

/-- A number of bits, the highest first. -/
theorem number_loop (k : Nat) (l : List Int) (hl : l.length ≤ 40) (hb : ∀ c ∈ l, isBit c) : ∀ (rest pre : List Int) (j : Nat), l = pre ++ rest → rest.length < j → m29F7 k j l (val pre : Int) (pre.length : Int) = some (val l : Int) := by
  intro rest
  induction rest with
  | nil =>
    intro pre j e hj
    obtain ⟨j, rfl⟩ : ∃ n, j = n + 1 := ⟨j - 1, by omega⟩
    rw [List.append_nil] at e
    subst e
    rw [m29F7, m29X7, if_neg (by rw [ltI_neg (by omega)]; simp)]
  | cons x rest ih =>
    intro pre j e hj
    obtain ⟨j, rfl⟩ : ∃ n, j = n + 1 := ⟨j - 1, by omega⟩
    have hlen : l.length = pre.length + (rest.length + 1) := by rw [e]; simp
    have hx : l.getD (Int.toNat (pre.length : Int)) 0 = x := by rw [e]; exact gd_at pre rest x 0
    have hbx := hb x (by rw [e]; simp)
    have hlt : val pre < 2 ^ 40 := Nat.lt_of_lt_of_le (val_lt pre fun c hc => hb c (by rw [e]; simp [hc])) (Nat.pow_le_pow_right (by decide) (by omega))
    have := ih (pre ++ [x]) j (by rw [e]; simp) (by simp only [List.length_cons] at hj; omega)
    rw [List.length_append, List.length_singleton, val_snoc] at this
    have c1 : ltI (pre.length : Int) (l.length : Int) = true := ltI_pos (by omega)
    have c2 : leI 0 (pre.length : Int) = true := leI_pos (by omega)
    have c3 : leI 0 1 = true := leI_pos (by decide)
    have e3 := w64s (show pre.length < 9223372036854775807 by omega)
    have e1 : wr .i64 ((val pre : Int) * 2) = ((2 * val pre : Nat) : Int) := by
      have h40 : (2 : Nat) ^ 40 = 1099511627776 := by decide +kernel
      rw [h40] at hlt
      rw [w64 (by omega) (by omega)]
      omega
    have e2 : bits .or .i64 ((2 * val pre : Nat) : Int) (bits .and .i64 x 1) = ((2 * val pre + x.toNat : Nat) : Int) := by
      have h40 : (2 : Nat) ^ 40 = 1099511627776 := by decide +kernel
      rw [h40] at hlt
      rcases hbx with rfl | rfl
      · have := Bv.and1 0 (by decide)
        rw [show ((0 : Nat) : Int) = 0 from rfl] at this
        rw [this]
        have := Be.orN (2 * val pre) 0 (by omega) (by omega)
        rw [Nat.or_zero] at this
        exact this
      · have := Bv.and1 1 (by decide)
        rw [show ((1 : Nat) : Int) = 1 from rfl] at this
        rw [this]
        have := Be.orN (2 * val pre) 1 (by omega) (by omega)
        have h2 : 2 * val pre ||| 1 = 2 * val pre + 1 := (Nat.two_pow_add_eq_or_of_lt (i := 1) (b := 1) (by decide) (val pre)).symm
        rw [h2] at this
        exact this
    rw [m29F7, m29X7]
    simp only [c1, c2, c3, if_true, hx, e1, e2, e3]
    exact this
theorem number_eq (k : Nat) (hk : 41 ≤ k) (l : List Int) (hl : l.length ≤ 40) (hb : ∀ c ∈ l, isBit c) : m29F k l = some (val l : Int) := by
  simp only [m29F, m29X]
  have := number_loop k l hl hb l [] k rfl (by omega)
  rw [val_nil] at this
  exact this
theorem flip_bit {c : Int} (h : isBit c) : wr .i64 (1 - c) = xb c 1 := by
  rcases h with rfl | rfl <;> decide +kernel
theorem fl_ar (i n lim : Nat) (hi : i < lim) (h : lim ≤ n) (hn : n ≤ 5000) : ltI (i : Int) (lim : Int) = true ∧ leI 0 (i : Int) = true ∧ ltI (i : Int) (n : Int) = true ∧ wr .i64 ((i : Int) + 1) = ((i + 1 : Nat) : Int) := ⟨ltI_pos (by omega), leI_pos (by omega), ltI_pos (by omega), w64s (by omega)⟩
theorem set_mid (done rest t : List Int) (x z : Int) : List.set (done ++ x :: rest ++ t) done.length z = (done ++ [z]) ++ rest ++ t := by
  rw [List.append_assoc, List.cons_append, List.set_append_right _ _ (Nat.le_refl _), Nat.sub_self]
  simp
theorem get_mid (done rest t : List Int) (x : Int) : (done ++ x :: rest ++ t).getD done.length 0 = x := by
  rw [List.append_assoc, List.cons_append, List.getD_eq_getElem?_getD, List.getElem?_append_right (Nat.le_refl _), Nat.sub_self]
  rfl
theorem flip16_loop (k : Nat) (p0 l t : List Int) (n : Nat) (hn : n ≤ 5000) : ∀ (rest done : List Int) (j : Nat), (∀ c ∈ rest, isBit c) → done.length + rest.length = 16 → (done ++ rest ++ t).length = n → rest.length < j →
    m11F15 k j p0 (done.length : Int) l (done ++ rest ++ t) = m11F20 k p0 l (done ++ List.zipWith xb rest (List.replicate rest.length 1) ++ t) := by
  intro rest
  induction rest with
  | nil =>
    intro done j _ h h2 hj
    obtain ⟨j, rfl⟩ : ∃ x, j = x + 1 := ⟨j - 1, by omega⟩
    rw [m11F15, m11X15, if_neg (by rw [ltI_neg (by simp only [List.length_nil] at h; omega)]; simp)]
    rfl
  | cons x rest ih =>
    intro done j hb h h2 hj
    obtain ⟨j, rfl⟩ : ∃ y, j = y + 1 := ⟨j - 1, by omega⟩
    rw [List.length_cons] at h hj
    have hg := get_mid done rest t x
    have hs := set_mid done rest t x (xb x 1)
    have hf := flip_bit (hb x (by simp))
    have hi := ih (done ++ [xb x 1]) j (fun c hc => hb c (by simp [hc])) (by rw [List.length_append, List.length_singleton]; omega) (by rw [← h2]; simp) (by omega)
    rw [List.length_append, List.length_singleton] at hi
    obtain ⟨c1, c2, c3, c4⟩ := fl_ar done.length n 16 (by omega) (by rw [← h2]; simp only [List.length_append, List.length_cons]; omega) hn
    rw [show ((16 : Nat) : Int) = 16 from rfl] at c1
    rw [m11F15, m11X15]
    simp only [c1, c2, h2, c3, if_true, Int.toNat_natCast, hg, hf, hs, c4]
    rw [hi, List.length_cons, List.replicate_succ, List.zipWith_cons_cons, List.append_assoc done]
    rfl
theorem flip32_loop (k : Nat) (p0 t : List Int) (n : Nat) (hn : n ≤ 5000) : ∀ (rest done : List Int) (j : Nat), (∀ c ∈ rest, isBit c) → done.length + rest.length = 32 → (done ++ rest ++ t).length = n → rest.length < j →
    m11F41 k j p0 (done.length : Int) (done ++ rest ++ t) = m11F46 k p0 (done ++ List.zipWith xb rest (List.replicate rest.length 1) ++ t) := by
  intro rest
  induction rest with
  | nil =>
    intro done j _ h h2 hj
    obtain ⟨j, rfl⟩ : ∃ x, j = x + 1 := ⟨j - 1, by omega⟩
    rw [m11F41, m11X41, if_neg (by rw [ltI_neg (by simp only [List.length_nil] at h; omega)]; simp)]
    rfl
  | cons x rest ih =>
    intro done j hb h h2 hj
    obtain ⟨j, rfl⟩ : ∃ y, j = y + 1 := ⟨j - 1, by omega⟩
    rw [List.length_cons] at h hj
    have hg := get_mid done rest t x
    have hs := set_mid done rest t x (xb x 1)
    have hf := flip_bit (hb x (by simp))
    have hi := ih (done ++ [xb x 1]) j (fun c hc => hb c (by simp [hc])) (by rw [List.length_append, List.length_singleton]; omega) (by rw [← h2]; simp) (by omega)
    rw [List.length_append, List.length_singleton] at hi
    obtain ⟨c1, c2, c3, c4⟩ := fl_ar done.length n 32 (by omega) (by rw [← h2]; simp only [List.length_append, List.length_cons]; omega) hn
    rw [show ((32 : Nat) : Int) = 32 from rfl] at c1
    rw [m11F41, m11X41]
    simp only [c1, c2, h2, c3, if_true, Int.toNat_natCast, hg, hf, hs, c4]
    rw [hi, List.length_cons, List.replicate_succ, List.zipWith_cons_cons, List.append_assoc done]
    rfl
/-- The value of a text's bits with noughts behind, the first ones turned. -/
theorem flipped_val (w : Nat) (m : List Int) (hb : ∀ c ∈ m, isBit c) : ∀ f : List Int, f = List.zipWith xb ((m ++ List.replicate w 0).take w) (List.replicate w 1) ++ (m ++ List.replicate w 0).drop w → val f = (val m <<< w) ^^^ (val (List.replicate w 1) <<< m.length) := by
  rintro f rfl
  have hbz : ∀ c ∈ m ++ List.replicate w (0 : Int), isBit c := bits_app hb (zeros_bit w)
  have hl : (m ++ List.replicate w (0 : Int)).length = m.length + w := by rw [List.length_append, List.length_replicate]
  have ho : ∀ c ∈ List.replicate w (1 : Int), isBit c := fun c hc => .inr (List.eq_of_mem_replicate hc)
  have hv := val_add [] ((m ++ List.replicate w (0 : Int)).take w) ((m ++ List.replicate w (0 : Int)).drop w) (List.replicate w 1) (fun c hc => hbz c (List.mem_of_mem_take hc)) (fun c hc => hbz c (List.mem_of_mem_drop hc)) ho (by rw [List.length_take, List.length_replicate, hl]; omega)
  rw [List.nil_append, List.nil_append, List.take_append_drop, List.length_drop, hl, Nat.add_sub_cancel] at hv
  rw [hv, val_xapp m _ (zeros_bit w), val_zeros, List.length_replicate, Nat.xor_zero]
theorem bitsB_bit (l : List Int) : ∀ c ∈ bitsB l, isBit c := by
  intro c hc
  rw [bitsB_eq] at hc
  obtain ⟨b, hb, rfl⟩ := List.mem_map.1 hc
  have := bitsB_lt l b hb
  unfold isBit
  omega
theorem bitsN_bit (l : List Int) : ∀ c ∈ (bitsN l).map (fun b : Nat => (b : Int)), isBit c := by
  intro c hc
  obtain ⟨b, hb, rfl⟩ := List.mem_map.1 hc
  have := bitsN_lt l b hb
  unfold isBit
  omega
theorem p16_val : val (bitsB [0, 1, 16, 33]) = 69665 := by decide +kernel
theorem p32_val : val (bitsB [0, 0, 0, 1, 4, 193, 29, 183]) = 4374732215 := by decide +kernel
theorem ones16_val : val (List.replicate 16 1) = Crc.ones16.toNat := by decide +kernel
theorem ones32_val : val (List.replicate 32 1) = Crc.ones32.reverse.toNat := by decide +kernel

theorem rowOf_len_of (v n : Nat) (h1 : 2 ^ n ≤ v) (h2 : v < 2 ^ (n + 1)) : (rowOf v).length = n + 1 := by
  have hv : v ≠ 0 := fun h => by
    have := Nat.two_pow_pos n
    omega
  obtain ⟨h0, h3, h4⟩ := rowOf_len_iff hv
  have a1 := (Nat.pow_lt_pow_iff_right (a := 2) (by decide)).1 (Nat.lt_of_le_of_lt h1 h4)
  have a2 := (Nat.pow_lt_pow_iff_right (a := 2) (by decide)).1 (Nat.lt_of_le_of_lt h3 h2)
  clear h1 h2 h3 h4
  omega
/-! The second half: the bits stand the other way about. -/
theorem pm_ar (n j N : Nat) (hj : j < 8) (hn : n < N) (hN : N ≤ 60) : ltI ((8 * n + j : Nat) : Int) ((8 * N : Nat) : Int) = true ∧ wr .i64 (wr .i64 (wr .i64 (wr .i64 (Int.tdiv ((8 * n + j : Nat) : Int) 8) * 8) + 7) - Int.tmod ((8 * n + j : Nat) : Int) 8) = ((8 * n + (7 - j) : Nat) : Int) ∧
    leI 0 ((8 * n + (7 - j) : Nat) : Int) = true ∧ ltI ((8 * n + (7 - j) : Nat) : Int) ((8 * N : Nat) : Int) = true ∧ leI 0 ((8 * n + j : Nat) : Int) = true ∧ wr .i64 (((8 * n + j : Nat) : Int) + 1) = ((8 * n + (j + 1) : Nat) : Int) ∧ ltI ((8 * n + j : Nat) : Int) ((8 * N + 32 : Nat) : Int) = true := by
  refine ⟨ltI_pos (by omega), ?_, leI_pos (by omega), ltI_pos (by omega), leI_pos (by omega), by rw [w64 (by omega) (by omega)]; omega, ltI_pos (by omega)⟩
  rw [Int.tdiv_eq_ediv_of_nonneg (by omega), Int.tmod_eq_emod_of_nonneg (by omega)]
  have e1 : ((8 * n + j : Nat) : Int) / 8 = (n : Int) := by omega
  have e2 : ((8 * n + j : Nat) : Int) % 8 = (j : Int) := by omega
  have e3 : wr .i64 ((n : Int)) = (n : Int) := w64n (by omega)
  have e4 : wr .i64 ((n : Int) * 8) = (n : Int) * 8 := w64 (by omega) (by omega)
  have e5 : wr .i64 ((n : Int) * 8 + 7) = (n : Int) * 8 + 7 := w64 (by omega) (by omega)
  rw [e1, e2, e3, e4, e5, w64 (by omega) (by omega)]
  omega
theorem zs_set (acc : List Int) (z : Nat) (v : Int) : List.set (acc ++ List.replicate (z + 1) 0) acc.length v = (acc ++ [v]) ++ List.replicate z 0 := by
  rw [List.set_append_right _ _ (Nat.le_refl _), Nat.sub_self, List.replicate_succ]
  simp
theorem perm_inner (k : Nat) (p0 l : List Int) (n c N : Nat) (hl : l.length = 8 * N) (hn : n < N) (hN : N ≤ 60) (hbits : ∀ j, j < 8 → l.getD (8 * n + (7 - j)) 0 = ((c / 2 ^ j % 2 : Nat) : Int)) (X : Option Bool) : ∀ (d j m z : Nat) (acc : List Int), j + d = 8 → acc.length = 8 * n + j → 8 * n + j + (z + d) = 8 * N + 32 →
    m11F33 k m p0 ((8 * n + 8 : Nat) : Int) l (acc ++ ((List.range' j d).map (fun j => c / 2 ^ j % 2)).map (fun b : Nat => (b : Int)) ++ List.replicate z 0) = X →
    m11F33 k (m + d) p0 ((8 * n + j : Nat) : Int) l (acc ++ List.replicate (z + d) 0) = X := by
  intro d
  induction d with
  | zero =>
    intro j m z acc hj _ _ R
    obtain rfl : j = 8 := by omega
    simpa using R
  | succ d ih =>
    intro j m z acc hj ha hz R
    rw [List.range'_succ, List.map_cons, List.map_cons] at R
    have e8 : (!eqI 8 0) = true := by rw [eqI_neg (by decide)]; rfl
    have hb := hbits j (by omega)
    have hs := zs_set acc (z + d) ((c / 2 ^ j % 2 : Nat) : Int)
    have hlen : (acc ++ List.replicate (z + (d + 1)) (0 : Int)).length = 8 * N + 32 := by rw [List.length_append, List.length_replicate]; omega
    have h1 : j + 1 + d = 8 := by omega
    have h2 : (acc ++ [((c / 2 ^ j % 2 : Nat) : Int)]).length = 8 * n + (j + 1) := by rw [List.length_append, List.length_singleton]; omega
    have h3 : 8 * n + (j + 1) + (z + d) = 8 * N + 32 := by omega
    obtain ⟨a1, a2, a3, a4, a5, a6, a7⟩ := pm_ar n j N (by omega) hn hN
    rw [show m + (d + 1) = (m + d) + 1 from rfl, m11F33, m11X33]
    rw [ha] at hs
    simp only [hl, hlen, a1, a2, a3, a4, a5, a6, a7, if_true, e8, Int.toNat_natCast, hb]
    rw [show z + (d + 1) = (z + d) + 1 from rfl, hs]
    refine ih (j + 1) m z _ h1 h2 h3 ?_
    rw [List.append_assoc acc]
    exact R
open Crc in
theorem bitsB_at (pre rest : List Int) (c : Int) (j : Nat) (hj : j < 8) : (bitsB (pre ++ c :: rest)).getD (8 * pre.length + (7 - j)) 0 = ((c.toNat / 2 ^ j % 2 : Nat) : Int) := by
  rw [bitsB_app, bitsB_cons, List.getD_eq_getElem?_getD, List.getElem?_append_right (by rw [bitsB_length]; omega), bitsB_length, Nat.add_sub_cancel_left, List.getElem?_append_left (by simp [bitsOf]; omega), List.getElem?_map]
  unfold bitsOf
  rw [List.getElem?_map, List.getElem?_range' (by omega)]
  simp
  have : 7 - (7 - j) = j := by omega
  rw [this]
open Crc in
theorem perm_loop (k : Nat) (p0 b : List Int) (hl : b.length ≤ 60) : ∀ (rest pre : List Int) (m : Nat), b = pre ++ rest → 8 * rest.length < m →
    m11F33 k m p0 ((8 * pre.length : Nat) : Int) (bitsB b) ((bitsN pre).map (fun b : Nat => (b : Int)) ++ List.replicate (32 + 8 * rest.length) 0) = m11F38 k p0 ((bitsN b).map (fun b : Nat => (b : Int)) ++ List.replicate 32 0) := by
  intro rest
  induction rest with
  | nil =>
    intro pre m h hm
    obtain ⟨m, rfl⟩ : ∃ x, m = x + 1 := ⟨m - 1, by omega⟩
    rw [List.append_nil] at h
    subst h
    rw [m11F33, m11X33, if_neg (by rw [bitsB_length, ltI_neg (by omega)]; simp)]
    rfl
  | cons c rest ih =>
    intro pre m h hm
    have hlen : b.length = pre.length + (rest.length + 1) := by rw [h]; simp
    rw [List.length_cons] at hm
    obtain ⟨m, rfl⟩ : ∃ x, m = x + 8 := ⟨m - 8, by omega⟩
    have e : (bitsN (pre ++ [c])).map (fun b : Nat => (b : Int)) = (bitsN pre).map (fun b : Nat => (b : Int)) ++ ((List.range' 0 8).map (fun j => c.toNat / 2 ^ j % 2)).map (fun b : Nat => (b : Int)) := by
      unfold bitsN
      rw [List.flatMap_append, List.map_append]
      simp
    have := ih (pre ++ [c]) m (by rw [h]; simp) (by omega)
    rw [e, List.length_append, List.length_singleton, Nat.mul_add, Nat.mul_one] at this
    refine perm_inner k p0 (bitsB b) pre.length c.toNat b.length (bitsB_length b) (by omega) hl (fun j hj => by rw [h]; exact bitsB_at pre rest c j hj) _ 8 0 m (32 + 8 * rest.length) _ rfl (by rw [List.length_map, bitsN_len, Nat.add_zero]) (by omega) this
/-- The bits of a number, the other way about. -/
theorem rev_digit (R : BitVec 32) (i : Nat) (hi : i < 32) : R.toNat / 2 ^ (31 - i) % 2 = R.reverse.toNat / 2 ^ i % 2 := by
  have h : R.reverse.getLsbD i = R.getLsbD (31 - i) := by
    rw [BitVec.getLsbD_reverse, BitVec.getMsbD_eq_getLsbD]
    simp [hi]
  have h1 : R.reverse.toNat.testBit i = R.toNat.testBit (31 - i) := h
  rw [Nat.testBit_eq_decide_div_mod_eq, Nat.testBit_eq_decide_div_mod_eq] at h1
  have a := Nat.mod_two_eq_zero_or_one (R.reverse.toNat / 2 ^ i)
  have b := Nat.mod_two_eq_zero_or_one (R.toNat / 2 ^ (31 - i))
  rcases a with a | a <;> rcases b with b | b <;> rw [a, b] at h1 ⊢ <;> simp at h1
theorem rev_step (V i : Nat) (hi : i < 32) : V / 2 ^ (32 - (i + 1)) = 2 * (V / 2 ^ (32 - i)) + V / 2 ^ (31 - i) % 2 := by
  have e1 : 32 - (i + 1) = 31 - i := by omega
  have e2 : 32 - i = (31 - i) + 1 := by omega
  rw [e1, e2, Nat.pow_succ, ← Nat.div_div_eq_div_mul]
  omega
theorem bk_ar (i : Nat) (hi : i < 32) : ltI (i : Int) 32 = true ∧ leI 0 1 = true ∧ leI 0 (wr .u64 (i : Int)) = true ∧ min (Int.toNat (wr .u64 (i : Int))) 64 = i ∧ wr .i64 ((i : Int) + 1) = ((i + 1 : Nat) : Int) := by
  have e := wu64 (n := (i : Int)) (by omega) (by omega)
  rw [e]
  exact ⟨ltI_pos (by omega), leI_pos (by decide), leI_pos (by omega), by rw [Int.toNat_natCast]; omega, w64s (by omega)⟩
theorem back_val (V b : Nat) (hV : V < 4294967296) (hb : b < 2) : bits .or .i64 (wr .i64 ((V : Int) * 2)) (b : Int) = ((2 * V + b : Nat) : Int) := by
  have e1 : wr .i64 ((V : Int) * 2) = ((2 * V : Nat) : Int) := by rw [w64 (by omega) (by omega)]; omega
  have h2 : 2 * V ||| b = 2 * V + b := (Nat.two_pow_add_eq_or_of_lt (i := 1) (b := b) (by omega) V).symm
  have := Be.orN (2 * V) b (by omega) (by omega)
  rw [h2] at this
  rw [e1]
  exact this
theorem back_loop (k : Nat) (e1 e2 s : Int) (R : BitVec 32) : ∀ (d i j : Nat), i + d = 32 → d < j → m11F57 k j e1 e2 s (R.reverse.toNat : Int) ((R.toNat / 2 ^ (32 - i) : Nat) : Int) (i : Int) = m11F62 k e1 e2 s (R.toNat : Int) := by
  intro d
  induction d with
  | zero =>
    intro i j h hj
    obtain ⟨j, rfl⟩ : ∃ x, j = x + 1 := ⟨j - 1, by omega⟩
    obtain rfl : i = 32 := by omega
    rw [m11F57, m11X57, if_neg (by rw [ltI_neg (by decide)]; simp)]
    simp
  | succ d ih =>
    intro i j h hj
    obtain ⟨j, rfl⟩ : ∃ x, j = x + 1 := ⟨j - 1, by omega⟩
    have hR := R.isLt
    have hR2 := R.reverse.isLt
    have hd := rev_digit R i (by omega)
    have hs := rev_step R.toNat i (by omega)
    have hi := ih (i + 1) j (by omega) (by omega)
    have hq : (R.reverse.toNat : Int) / p2 i = ((R.reverse.toNat / 2 ^ i : Nat) : Int) := by
      unfold p2
      exact (Int.natCast_ediv ..).symm
    have hlt : R.reverse.toNat / 2 ^ i ≤ R.reverse.toNat := Nat.div_le_self _ _
    have hb := Bv.and1 (R.reverse.toNat / 2 ^ i) (by omega)
    have hlt2 : R.toNat / 2 ^ (32 - i) ≤ R.toNat := Nat.div_le_self _ _
    have hv := back_val (R.toNat / 2 ^ (32 - i)) (R.reverse.toNat / 2 ^ i % 2) (by omega) (Nat.mod_lt _ (by decide))
    rw [← hd, ← hs, hd] at hv
    obtain ⟨c1, c2, c3, c4, c5⟩ := bk_ar i (by omega)
    rw [m11F57, m11X57]
    simp only [c1, c2, c3, if_true, c4, hq, hb, hv, c5]
    exact hi
open Bv Crc in
theorem rest62 (k : Nat) (hk : 5001 ≤ k) (R : BitVec 32) : m11F62 k 0 0 (u (R ^^^ ones32)) (R.toNat : Int) = some true := by
  have hlt := (R ^^^ ones32).isLt
  have p1 : m30F k [] (u (R ^^^ ones32)) 4 = some ([] ++ Be.be 4 (u (R ^^^ ones32)), 0) := put_eq k (by omega) [] _ 4 (by decide) (by decide) (by decide) (u_nonneg _) (by unfold u; omega)
  have e1 : bits .xor .i64 (R.toNat : Int) 4294967295 = u (R ^^^ ones32) := by
    have := xor_u (by decide) R ones32
    rw [← this]
    rfl
  have e0 : ∀ z : Int, eqI z z = true := fun z => eqI_pos rfl
  have hl : eqI (([] ++ Be.be 4 (u (R ^^^ ones32)) : List Int).length : Int) 4 = true := eqI_pos (by rw [List.nil_append, Be.be_length]; rfl)
  simp only [m11F62, m11X62, p1, Option.bind_some, e0, if_true, e1, hl, wakes03 k hk]
theorem set4 : List.set (List.set (List.set (List.set (List.replicate 4 (0 : Int)) 0 0) 1 1) 2 16) 3 33 = [0, 1, 16, 33] := by decide +kernel
theorem set8 : List.set (List.set (List.set (List.set (List.set (List.set (List.set (List.set (List.replicate 8 (0 : Int)) 0 0) 1 0) 2 0) 3 1) 4 4) 5 193) 6 29) 7 183 = [0, 0, 0, 1, 4, 193, 29, 183] := by decide +kernel
open Bv Crc in
theorem rest46 (k : Nat) (hk : 5001 ≤ k) (b : List Int) (hb : ∀ c ∈ b, isByte c) (hl : b.length ≤ 60) (f : List Int) (hf : f.length ≤ 1500) (bf : ∀ c ∈ f, isBit c) (hv : val f = (val ((bitsN b).map fun b : Nat => (b : Int)) <<< 32) ^^^ (val (List.replicate 32 1) <<< (8 * b.length))) : m11F46 k b f = some true := by
  have hB := refbits_eq k [0, 0, 0, 1, 4, 193, 29, 183] (by decide) (by simp only [List.length_cons, List.length_nil]; omega) (fun c hc => by
    simp only [List.mem_cons, List.not_mem_nil, or_false] at hc
    unfold isByte
    omega)
  have hpl : (bitsB [0, 0, 0, 1, 4, 193, 29, 183]).length ≤ 1500 := by rw [bitsB_length]; decide
  have hp0 : val (bitsB [0, 0, 0, 1, 4, 193, 29, 183]) ≠ 0 := by rw [p32_val]; decide
  obtain ⟨q, hq⟩ := cong_steps 32 4374732215 (fun s : BitVec 32 => s.reverse.toNat) (fun s b => L (s ^^^ BitVec.ofNat 32 b)) step32_cong (bitsN b) ones32 (bitsN_lt b)
  rw [fd_bitsN b hb, bitsN_len, ← ones32_val, Nat.xor_comm] at hq
  have hd := gfDiv_is k hk f (bitsB [0, 0, 0, 1, 4, 193, 29, 183]) hf hpl bf (bitsB_bit _) hp0 q (reg32 ones32 b).reverse.toNat (by rw [hv, p32_val]; exact hq) (by
    rw [p32_val, rowOf_len_of 4374732215 32 (by decide +kernel) (by decide +kernel)]
    exact (reg32 ones32 b).reverse.isLt)
  have hrl : (rowOf (reg32 ones32 b).reverse.toNat).length ≤ 40 := Nat.le_trans (rowOf_len (reg32 ones32 b).reverse.isLt) (by decide)
  have hn := number_eq k (by omega) (rowOf (reg32 ones32 b).reverse.toNat) hrl (rowOf_bit _)
  rw [rowOf_val] at hn
  have hs := sum32_eq k (by omega) b (by omega) hb
  have hlp := back_loop k 0 0 (u (sum32 b)) (reg32 ones32 b) 32 0 k rfl (by omega)
  have hz : (reg32 ones32 b).toNat / 2 ^ (32 - 0) = 0 := Nat.div_eq_of_lt (reg32 ones32 b).isLt
  rw [hz] at hlp
  simp only [m11F46, m11X46, set8, hB, Option.bind_some, hd, hs, hn]
  exact hlp.trans (rest62 k hk (reg32 ones32 b))
theorem mk_ar (n w : Nat) (hn : n ≤ 60) (hw : w ≤ 32) : wr .i64 (((8 * n : Nat) : Int) + (w : Int)) = ((8 * n + w : Nat) : Int) ∧ leI 0 ((8 * n + w : Nat) : Int) = true ∧ leI ((8 * n + w : Nat) : Int) ((8 * n + w : Nat) : Int) = true ∧ leI (((8 * n + w : Nat) : Int) * 8) 140737488355328 = true ∧ leI ((8 * n + w : Nat) : Int) 9223372036854775807 = true :=
  ⟨by rw [w64 (by omega) (by omega)]; omega, leI_pos (by omega), leI_pos (by omega), leI_pos (by omega), leI_pos (by omega)⟩
open Bv Crc in
theorem rest20 (k : Nat) (hk : 5001 ≤ k) (b : List Int) (hb : ∀ c ∈ b, isByte c) (hl : b.length ≤ 60) (f : List Int) (hf : f.length ≤ 1500) (bf : ∀ c ∈ f, isBit c) (hv : val f = (val (bitsB b) <<< 16) ^^^ (val (List.replicate 16 1) <<< (8 * b.length))) : m11F20 k b (bitsB b) f = some true := by
  have hB := refbits_eq k [0, 1, 16, 33] (by decide) (by simp only [List.length_cons, List.length_nil]; omega) (fun c hc => by
    simp only [List.mem_cons, List.not_mem_nil, or_false] at hc
    unfold isByte
    omega)
  have hpl : (bitsB [0, 1, 16, 33]).length ≤ 1500 := by rw [bitsB_length]; decide
  have hp0 : val (bitsB [0, 1, 16, 33]) ≠ 0 := by rw [p16_val]; decide
  obtain ⟨q, hq⟩ := cong_steps 16 69665 BitVec.toNat (fun s b => M (s ^^^ top16 b)) step16_cong (b.flatMap fun c => bitsOf c.toNat) ones16 (bitsB_lt b)
  have hbl : (b.flatMap fun c => bitsOf c.toNat).length = 8 * b.length := by
    have := bitsB_length b
    rw [bitsB_eq, List.length_map] at this
    exact this
  rw [fd_bitsB b hb, ← bitsB_eq, hbl, ← ones16_val, Nat.xor_comm] at hq
  have hd := gfDiv_is k hk f (bitsB [0, 1, 16, 33]) hf hpl bf (bitsB_bit _) hp0 q (reg16 ones16 b).toNat (by rw [hv, p16_val]; exact hq) (by
    rw [p16_val, rowOf_len_of 69665 16 (by decide +kernel) (by decide +kernel)]
    exact (reg16 ones16 b).isLt)
  have hrl : (rowOf (reg16 ones16 b).toNat).length ≤ 40 := Nat.le_trans (rowOf_len (reg16 ones16 b).isLt) (by decide)
  have hn := number_eq k (by omega) (rowOf (reg16 ones16 b).toNat) hrl (rowOf_bit _)
  rw [rowOf_val] at hn
  have hs := sum16_eq k (by omega) b (by omega) hb
  have hz : ∀ z : Int, (!eqI z z) = false := fun z => by rw [eqI_pos rfl]; rfl
  have hus : (u (sum16 b) : Int) = ((reg16 ones16 b).toNat : Int) := rfl
  have hbb := bitsB_length b
  obtain ⟨a1, a2, a3, a4, a5⟩ := mk_ar b.length 32 hl (by decide)
  have e8 : (((8 : Nat) : Int)) = 8 := rfl
  have e32 : (((32 : Nat) : Int)) = 32 := rfl
  rw [e32] at a1
  have lp := perm_loop k b b hl b [] k rfl (by omega)
  have hm : ((bitsN b).map fun b : Nat => (b : Int)).length = 8 * b.length := by rw [List.length_map, bitsN_len]
  have hmb := bitsN_bit b
  have fin : m11F38 k b ((bitsN b).map (fun b : Nat => (b : Int)) ++ List.replicate 32 0) = some true := by
    have hflip := flipped_val 32 ((bitsN b).map fun b : Nat => (b : Int)) hmb _ rfl
    have hlen : ((bitsN b).map (fun b : Nat => (b : Int)) ++ List.replicate 32 0).length = 8 * b.length + 32 := by rw [List.length_append, hm, List.length_replicate]
    have hbz : ∀ c ∈ (bitsN b).map (fun b : Nat => (b : Int)) ++ List.replicate 32 0, isBit c := bits_app hmb (zeros_bit 32)
    have htl : (((bitsN b).map (fun b : Nat => (b : Int)) ++ List.replicate 32 0).take 32).length = 32 := by rw [List.length_take, hlen]; omega
    have fl := flip32_loop k b (((bitsN b).map (fun b : Nat => (b : Int)) ++ List.replicate 32 0).drop 32) (8 * b.length + 32) (by omega) (((bitsN b).map (fun b : Nat => (b : Int)) ++ List.replicate 32 0).take 32) [] k (fun c hc => hbz c (List.mem_of_mem_take hc)) (by rw [htl]; rfl) (by rw [List.nil_append, List.take_append_drop]; exact hlen) (by rw [htl]; omega)
    rw [htl, List.nil_append, List.take_append_drop, List.nil_append] at fl
    rw [hm] at hflip
    simp only [m11F38, m11X38]
    refine Eq.trans fl (rest46 k hk b hb hl _ ?_ ?_ hflip)
    · rw [List.length_append, List.length_zipWith, htl, List.length_replicate, List.length_drop, hlen]
      omega
    · exact bits_app (zip_bit _ _) fun c hc => hbz c (List.mem_of_mem_drop hc)
  have lp' : m11F33 k k b 0 (bitsB b) (List.replicate (8 * b.length + 32) 0) = some true := by
    rw [Nat.add_comm (8 * b.length)]
    exact lp.trans fin
  simp only [m11F20, m11X20, set4, hB, Option.bind_some, hd, hs, hz, Bool.false_eq_true, if_false, hn, hus, hbb, a1, a2, a3, a4, a5, e8, if_true, Int.toNat_natCast, lp']
open Bv Crc in
theorem crcRest (b : List Int) (wb : WfK (.row (.int .u8)) b) : ∃ k, m11F k b = some true := by
  refine ⟨6000, ?_⟩
  have hb := bytes_wf wb
  have hk : 5001 ≤ 6000 := by decide
  simp only [m11F, m11X]
  by_cases hl : b.length ≤ 60
  · rw [if_neg (show ¬ (ltI 60 (b.length : Int) = true) by rw [ltI_neg (by omega)]; simp)]
    have hB := refbits_eq 6000 b (by omega) (by omega) hb
    have hbb := bitsB_length b
    obtain ⟨a1, a2, a3, a4, a5⟩ := mk_ar b.length 16 hl (by decide)
    have e8 : (((8 : Nat) : Int)) = 8 := rfl
    have e16 : (((16 : Nat) : Int)) = 16 := rfl
    rw [e16] at a1
    have hsp : splice (List.replicate (8 * b.length + 16) (0 : Int)) 0 (List.take (List.replicate (8 * b.length + 16) (0 : Int)).length (bitsB b)) = bitsB b ++ List.replicate 16 0 := by
      have e1 : List.take (List.replicate (8 * b.length + 16) (0 : Int)).length (bitsB b) = bitsB b := List.take_of_length_le (by rw [List.length_replicate]; omega)
      rw [e1]
      unfold splice
      rw [List.take_zero, List.nil_append, hbb, List.drop_replicate]
      congr 2
      omega
    have hmb := bitsB_bit b
    have hflip := flipped_val 16 (bitsB b) hmb _ rfl
    have hlen : (bitsB b ++ List.replicate 16 0).length = 8 * b.length + 16 := by rw [List.length_append, hbb, List.length_replicate]
    have hbz : ∀ c ∈ bitsB b ++ List.replicate 16 0, isBit c := bits_app hmb (zeros_bit 16)
    have htl : ((bitsB b ++ List.replicate 16 0).take 16).length = 16 := by rw [List.length_take, hlen]; omega
    have fl := flip16_loop 6000 b (bitsB b) ((bitsB b ++ List.replicate 16 0).drop 16) (8 * b.length + 16) (by omega) ((bitsB b ++ List.replicate 16 0).take 16) [] 6000 (fun c hc => hbz c (List.mem_of_mem_take hc)) (by rw [htl]; rfl) (by rw [List.nil_append, List.take_append_drop]; exact hlen) (by rw [htl]; decide)
    rw [htl, List.nil_append, List.take_append_drop, List.nil_append] at fl
    rw [hbb] at hflip
    have fin : m11F15 6000 6000 b 0 (bitsB b) (bitsB b ++ List.replicate 16 0) = some true := by
      refine Eq.trans fl (rest20 6000 hk b hb hl _ ?_ ?_ hflip)
      · rw [List.length_append, List.length_zipWith, htl, List.length_replicate, List.length_drop, hlen]
        omega
      · exact bits_app (zip_bit _ _) fun c hc => hbz c (List.mem_of_mem_drop hc)
    simp only [hB, Option.bind_some, hbb, a1, a2, a3, a4, a5, e8, if_true, Int.toNat_natCast, hsp, fin]
  · rw [if_pos (ltI_pos (by omega))]

end Go.Proofs.Ytiblpnglmicjcaa.Mini
