/- What shared functions tell: plain laws. -/
import Derived.Test.YtmjbjlhjpdebjaaMF
import Derived.Test.YtmjbjlhjpdebjaaCrc
import Derived.Test.YtmjbjlhjpdebjaaBe
import Derived.Test.YtmjbjlhjpdebjaaPop
import Derived.Laws.Closers25b
set_option linter.unusedSimpArgs false
set_option linter.unusedVariables false
namespace Go.Proofs.Ytmjbjlhjpdebjaa.Mini
open Go Go.RowKit Go.Proofs
theorem w64 {n : Int} (h0 : -9223372036854775808 ≤ n) (h1 : n < 9223372036854775808) : wr .i64 n = n := by
  show wrap64 n = n
  unfold wrap64
  omega
theorem w64n {n : Nat} (h1 : n < 9223372036854775808) : wr .i64 (n : Int) = (n : Int) := w64 (by omega) (by omega)
theorem w64s {n : Nat} (h1 : n < 9223372036854775807) : wr .i64 ((n : Int) + 1) = ((n + 1 : Nat) : Int) := w64 (by omega) (by omega)
theorem wu64 {n : Int} (h0 : 0 ≤ n) (h1 : n < 18446744073709551616) : wr .u64 n = n := by
  show n % 18446744073709551616 = n
  omega
theorem wu8 (n : Int) : wr .u8 n = n % 256 := (congrArg (fun x : Int => x % 256) (Eq.refl n) : n % 256 = n % 256)
theorem wu32 (n : Int) : wr .u32 n = n % 4294967296 := (congrArg (fun x : Int => x % 4294967296) (Eq.refl n) : n % 4294967296 = n % 4294967296)
theorem gd_at {α : Type} (pre rest : List α) (x d : α) : (pre ++ x :: rest).getD (Int.toNat (pre.length : Int)) d = x := by
  rw [Int.toNat_natCast, List.getD_eq_getElem?_getD, List.getElem?_append_right (Nat.le_refl _), Nat.sub_self]
  rfl
theorem gd_at' {α : Type} (pre rest : List α) (x d : α) (n : Nat) (h : pre.length = n) : (pre ++ x :: rest).getD (Int.toNat (n : Int)) d = x := by
  subst h
  exact gd_at pre rest x d
theorem getD_nat {α : Type} (l : List α) (n : Nat) (d : α) : l.getD (Int.toNat (n : Int)) d = l.getD n d := rfl
theorem nilK_same {R : Type} {e : Bool} {a : Option R} : nilK e a a = a := by
  unfold nilK both
  cases e <;> simp
theorem nilK_of {R : Type} {e : Bool} {a b : Option R} (h : e = true → a = b) : nilK e a b = b := by
  unfold nilK both
  cases e
  · rfl
  · simp [h rfl]
theorem one_set (x d : Int) : List.set (List.replicate 1 d) 0 x = [x] := (congrArg (fun y : Int => [y]) (Eq.refl x) : [x] = [x])
theorem bytes_wf {l : List Int} (h : WfK (.row (.int .u8)) l) : ∀ c ∈ l, Crc.isByte c := fun c hc => Bv.wf_u8 (h.2 c hc)
theorem leI_pos {a b : Int} (h : a ≤ b) : leI a b = true := (leI_iff a b).2 h
theorem leI_neg {a b : Int} (h : ¬ a ≤ b) : leI a b = false := by
  rw [leI_eq]
  simpa using h
theorem ltI_pos {a b : Int} (h : a < b) : ltI a b = true := (ltI_iff a b).2 h
theorem ltI_neg {a b : Int} (h : ¬ a < b) : ltI a b = false := by
  rw [ltI_eq]
  simpa using h
theorem eqI_pos {a b : Int} (h : a = b) : eqI a b = true := (eqI_iff a b).2 h
theorem eqI_neg {a b : Int} (h : ¬ a = b) : eqI a b = false := by
  rw [eqI_eq]
  simpa using h
theorem umod0 (x : Int) (m : Nat) (hm : 0 < m) : ∃ a : Nat, a < m ∧ Int.tmod (wr .u64 x) (m : Int) = (a : Int) := by
  have h0 : 0 ≤ wr .u64 x := Int.emod_nonneg _ (by decide)
  have h1 : Int.tmod (wr .u64 x) (m : Int) = wr .u64 x % (m : Int) := Int.tmod_eq_emod_of_nonneg h0
  have h2 := Int.emod_nonneg (wr .u64 x) (show (m : Int) ≠ 0 by omega)
  have h3 := Int.emod_lt_of_pos (wr .u64 x) (show (0 : Int) < m by omega)
  refine ⟨(wr .u64 x % (m : Int)).toNat, ?_, ?_⟩
  · generalize wr .u64 x % (m : Int) = z at h2 h3
    omega
  · rw [h1]
    generalize wr .u64 x % (m : Int) = z at h2 h3
    omega
theorem clone_eq (k : Nat) (l : List Int) (h : l.length ≤ 5000) : m35F k l = some l := by
  simp only [m35F, m35X, leI_eq, decide_eq_true_eq]
  rw [nilK_of, if_pos (by omega)]
  · rfl
  · intro he
    rw [if_pos (by omega)]
    rw [List.isEmpty_iff.1 he]
    rfl
theorem twin_eq (k : Nat) (l : List Int) (h : l.length ≤ 5000) : m13F k l = some l := by
  simp only [m13F, m13X, leI_eq, decide_eq_true_eq]
  rw [if_pos (by omega)]
theorem bytes_loop (k : Nat) (a b : List Int) (hl : a.length ≤ 5000) (he : a.length = b.length) : ∀ (ra rb pa pb : List Int) (j : Nat), a = pa ++ ra → b = pb ++ rb → pa.length = pb.length → ra.length < j →
    m20F9 k j a b (pa.length : Int) = some (decide (ra = rb)) := by
  intro ra
  induction ra with
  | nil =>
    intro rb pa pb j ha hb hp hj
    obtain ⟨j, rfl⟩ : ∃ i, j = i + 1 := ⟨j - 1, by simp only [List.length_nil] at hj; omega⟩
    have h1 : a.length = pa.length := by rw [ha]; simp
    have h2 : b.length = pb.length + rb.length := by rw [hb]; simp
    obtain rfl : rb = [] := List.eq_nil_of_length_eq_zero (by omega)
    rw [m20F9, m20X9]
    simp only [leI_eq, ltI_eq, eqI_eq, decide_eq_true_eq, if_neg (show ¬ (pa.length : Int) < (a.length : Int) by omega), decide_true]
  | cons x ra ih =>
    intro rb pa pb j ha hb hp hj
    obtain ⟨j, rfl⟩ : ∃ i, j = i + 1 := ⟨j - 1, by omega⟩
    have h1 : a.length = pa.length + (ra.length + 1) := by rw [ha]; simp
    have h2 : b.length = pb.length + rb.length := by rw [hb]; simp
    cases rb with
    | nil => simp only [List.length_nil] at h2; omega
    | cons y rb =>
      simp only [List.length_cons] at h2 hj
      have e1 : a.getD (Int.toNat (pa.length : Int)) 0 = x := by rw [ha]; exact gd_at pa ra x 0
      have e2 : b.getD (Int.toNat (pa.length : Int)) 0 = y := by rw [hb]; exact gd_at' pb rb y 0 pa.length hp.symm
      have c1 : (pa.length : Int) < (a.length : Int) := by omega
      have c2 : (0 : Int) ≤ (pa.length : Int) := by omega
      have c3 : (pa.length : Int) < (b.length : Int) := by omega
      rw [m20F9, m20X9]
      simp only [leI_eq, ltI_eq, eqI_eq, decide_eq_true_eq, if_pos c1, if_pos c2, if_pos c3, e1, e2, w64s (show pa.length < 9223372036854775807 by omega)]
      by_cases hxy : x = y
      · subst hxy
        have := ih rb (pa ++ [x]) (pb ++ [x]) j (by rw [ha]; simp) (by rw [hb]; simp) (by simp [hp]) (by omega)
        rw [List.length_append, List.length_singleton] at this
        simp only [decide_true, Bool.not_true, Bool.false_eq_true, if_false]
        rw [this]
        simp
      · simp [hxy]
theorem bytes_eq' (k : Nat) (hk : 5001 ≤ k) (a b : List Int) (hl : a.length ≤ 5000) : m20F k a b = some (decide (a = b)) := by
  simp only [m20F, m20X]
  by_cases he : a.length = b.length
  · have := bytes_loop k a b hl he a b [] [] k rfl rfl rfl (by omega)
    simp only [List.length_nil] at this
    simp only [he, eqI_eq, decide_true, Bool.not_true, Bool.false_eq_true, if_false]
    exact this
  · have : ¬ ((a.length : Int) = (b.length : Int)) := by omega
    have h2 : ¬ a = b := fun h => he (by rw [h])
    simp [eqI_eq, this, h2]
/-! A number's ones. -/
noncomputable def onesTab : ByteArray := ByteArray.mk (List.toArray (List.append (List.append [0, 1, 1, 2, 1, 2, 2, 3, 1, 2, 2, 3, 2, 3, 3, 4, 1, 2, 2, 3, 2, 3, 3, 4, 2, 3, 3, 4, 3, 4, 4, 5, 1, 2, 2, 3, 2, 3, 3, 4, 2, 3, 3, 4, 3, 4, 4, 5, 2, 3, 3, 4, 3, 4, 4, 5, 3, 4, 4, 5, 4, 5, 5, 6] [1, 2, 2, 3, 2, 3, 3, 4, 2, 3, 3, 4, 3, 4, 4, 5, 2, 3, 3, 4, 3, 4, 4, 5, 3, 4, 4, 5, 4, 5, 5, 6, 2, 3, 3, 4, 3, 4, 4, 5, 3, 4, 4, 5, 4, 5, 5, 6, 3, 4, 4, 5, 4, 5, 5, 6, 4, 5, 5, 6, 5, 6, 6, 7]) (List.append [1, 2, 2, 3, 2, 3, 3, 4, 2, 3, 3, 4, 3, 4, 4, 5, 2, 3, 3, 4, 3, 4, 4, 5, 3, 4, 4, 5, 4, 5, 5, 6, 2, 3, 3, 4, 3, 4, 4, 5, 3, 4, 4, 5, 4, 5, 5, 6, 3, 4, 4, 5, 4, 5, 5, 6, 4, 5, 5, 6, 5, 6, 6, 7] [2, 3, 3, 4, 3, 4, 4, 5, 3, 4, 4, 5, 4, 5, 5, 6, 3, 4, 4, 5, 4, 5, 5, 6, 4, 5, 5, 6, 5, 6, 6, 7, 3, 4, 4, 5, 4, 5, 5, 6, 4, 5, 5, 6, 5, 6, 6, 7, 4, 5, 5, 6, 5, 6, 6, 7, 5, 6, 6, 7, 6, 7, 7, 8])))
theorem onesTab_at : ∀ i : Fin 256, onesTab[i.val]? = some (UInt8.ofNat (Pop.pop 8 i.val)) := by
  decide +kernel
theorem onesTab_nat (i : Nat) (h : i < 256) : onesTab[Int.toNat (i : Int)]? = some (UInt8.ofNat (Pop.pop 8 i)) := onesTab_at ⟨i, h⟩
theorem u32and255 (x : Nat) (h : x < 4294967296) : bits .and .u32 (x : Int) 255 = ((x % 256 : Nat) : Int) := by
  have := u32_and_nat x 255 h (by decide)
  rw [show (255 : Nat) = 2 ^ 8 - 1 from rfl, Nat.and_two_pow_sub_one_eq_mod] at this
  exact this
theorem ones32_nat (k x : Nat) (hx : x < 4294967296) : m33F k (x : Int) = some (Pop.pop 32 x : Int) := by
  have ar : ((x : Int) / 16777216 = ((x / 16777216 : Nat) : Int)) ∧ ((x : Int) / 65536 = ((x / 65536 : Nat) : Int)) ∧ ((x : Int) / 256 = ((x / 256 : Nat) : Int)) := ⟨by omega, by omega, by omega⟩
  obtain ⟨e1, e2, e3⟩ := ar
  have c0 : ∀ n : Nat, leI 0 (n : Int) = true := fun n => leI_pos (by omega)
  have c1 : leI 0 24 = true := leI_pos (by decide)
  have c2 : leI 0 16 = true := leI_pos (by decide)
  have c3 : leI 0 8 = true := leI_pos (by decide)
  have g1 := onesTab_nat (x / 16777216) (by omega)
  have g2 := onesTab_nat (x / 65536 % 256) (by omega)
  have g3 := onesTab_nat (x / 256 % 256) (by omega)
  have g4 := onesTab_nat (x % 256) (by omega)
  simp only [m33F, m33X, e1, e2, e3, c1, c2, c3, u32and255 _ (show x / 65536 < 4294967296 by omega), u32and255 _ (show x / 256 < 4294967296 by omega), u32and255 _ hx, c0, if_true]
  rw [show ByteArray.mk (List.toArray (List.append (List.append [0, 1, 1, 2, 1, 2, 2, 3, 1, 2, 2, 3, 2, 3, 3, 4, 1, 2, 2, 3, 2, 3, 3, 4, 2, 3, 3, 4, 3, 4, 4, 5, 1, 2, 2, 3, 2, 3, 3, 4, 2, 3, 3, 4, 3, 4, 4, 5, 2, 3, 3, 4, 3, 4, 4, 5, 3, 4, 4, 5, 4, 5, 5, 6] [1, 2, 2, 3, 2, 3, 3, 4, 2, 3, 3, 4, 3, 4, 4, 5, 2, 3, 3, 4, 3, 4, 4, 5, 3, 4, 4, 5, 4, 5, 5, 6, 2, 3, 3, 4, 3, 4, 4, 5, 3, 4, 4, 5, 4, 5, 5, 6, 3, 4, 4, 5, 4, 5, 5, 6, 4, 5, 5, 6, 5, 6, 6, 7]) (List.append [1, 2, 2, 3, 2, 3, 3, 4, 2, 3, 3, 4, 3, 4, 4, 5, 2, 3, 3, 4, 3, 4, 4, 5, 3, 4, 4, 5, 4, 5, 5, 6, 2, 3, 3, 4, 3, 4, 4, 5, 3, 4, 4, 5, 4, 5, 5, 6, 3, 4, 4, 5, 4, 5, 5, 6, 4, 5, 5, 6, 5, 6, 6, 7] [2, 3, 3, 4, 3, 4, 4, 5, 3, 4, 4, 5, 4, 5, 5, 6, 3, 4, 4, 5, 4, 5, 5, 6, 4, 5, 5, 6, 5, 6, 6, 7, 3, 4, 4, 5, 4, 5, 5, 6, 4, 5, 5, 6, 5, 6, 6, 7, 4, 5, 5, 6, 5, 6, 6, 7, 5, 6, 6, 7, 6, 7, 7, 8]))) = onesTab from rfl]
  simp only [g1, g2, g3, g4, Option.bind_some]
  have p := Pop.pop32 x
  have hm : x / 16777216 % 256 = x / 16777216 := by omega
  rw [hm] at p
  have l1 := Pop.pop_le 8 (x / 16777216)
  have l2 := Pop.pop_le 8 (x / 65536 % 256)
  have l3 := Pop.pop_le 8 (x / 256 % 256)
  have l4 := Pop.pop_le 8 (x % 256)
  rw [p]
  clear p hm g1 g2 g3 g4 e1 e2 e3 c0 c1 c2 c3
  generalize Pop.pop 8 (x / 16777216) = a at *
  generalize Pop.pop 8 (x / 65536 % 256) = b at *
  generalize Pop.pop 8 (x / 256 % 256) = c at *
  generalize Pop.pop 8 (x % 256) = d at *
  clear hx
  have q : ∀ n : Nat, n ≤ 8 → (UInt8.ofNat n).toNat = n := fun n hn => by
    rw [UInt8.toNat_ofNat']
    omega
  rw [q a l1, q b l2, q c l3, q d l4]
  simp only [wu8]
  rw [w64 (by omega) (by omega)]
  congr 1
  omega
/-- The ones among a number's lowest 32 bits; none of one below 0. -/
noncomputable def onesV (n : Int) : Int := if n < 0 then 0 else (Pop.pop 32 n.toNat : Int)
theorem onesV_nat (x : Nat) : onesV (x : Int) = (Pop.pop 32 x : Int) := by
  unfold onesV
  rw [if_neg (by omega), Int.toNat_natCast]
theorem ones_any (k : Nat) (n : Int) : m10F k n = some (onesV n) := by
  simp only [m10F, m10X]
  unfold onesV
  by_cases h : n < 0
  · rw [if_pos (ltI_pos h), if_pos h]
  · rw [if_neg (by rw [ltI_neg h]; simp), if_neg h, wu32]
    have e : n % 4294967296 = ((n.toNat % 4294967296 : Nat) : Int) := by omega
    rw [e, ones32_nat k _ (by omega), show (4294967296 : Nat) = 2 ^ 32 from rfl, Pop.pop_mod, Option.bind_some]
theorem ones_nat (k x : Nat) : m10F k (x : Int) = some (Pop.pop 32 x : Int) := by rw [ones_any, onesV_nat]
theorem pop_one (y : Nat) : Pop.pop 1 y = y % 2 := by simp [Pop.pop]
theorem refones_ar (i : Nat) (hi : i < 32) (x : Nat) : ltI (i : Int) 32 = true ∧ wr .u64 (i : Int) = (i : Int) ∧ leI 0 (i : Int) = true ∧ leI 0 (x : Int) = true ∧ min (Int.toNat (i : Int)) 64 = i ∧ wr .i64 ((i : Int) + 1) = ((i + 1 : Nat) : Int) :=
  ⟨ltI_pos (by omega), wu64 (by omega) (by omega), leI_pos (by omega), leI_pos (by omega), by omega, w64s (by omega)⟩
theorem refones_loop (k x : Nat) (hx : x < 9223372036854775808) : ∀ (n j i : Nat), i + n = 32 → n < j → m11F7 k j (x : Int) (Pop.pop i x : Int) (i : Int) = some (Pop.pop 32 x : Int) := by
  intro n
  induction n with
  | zero =>
    intro j i h hj
    obtain ⟨j, rfl⟩ : ∃ m, j = m + 1 := ⟨j - 1, by omega⟩
    obtain rfl : i = 32 := by omega
    simp only [m11F7, m11X7]
    rw [if_neg (by rw [ltI_neg (by omega)]; simp)]
  | succ n ih =>
    intro j i h hj
    obtain ⟨j, rfl⟩ : ∃ m, j = m + 1 := ⟨j - 1, by omega⟩
    have h2 := ih j (i + 1) (by omega) (by omega)
    obtain ⟨c1, c2, c3, c4, c5, c6⟩ := refones_ar i (by omega) x
    have hd : (x : Int) / p2 i = ((x / 2 ^ i : Nat) : Int) := Int.natCast_ediv x (2 ^ i)
    have hlt : x / 2 ^ i < 9223372036854775808 := Nat.lt_of_le_of_lt (Nat.div_le_self _ _) hx
    have ha := Bv.and1 (x / 2 ^ i) hlt
    have hp : Pop.pop (i + 1) x = Pop.pop i x + x / 2 ^ i % 2 := by rw [Pop.pop_add, pop_one]
    have hle := Pop.pop_le (i + 1) x
    rw [hp] at h2 hle
    generalize x / 2 ^ i % 2 = d at *
    generalize Pop.pop i x = q at *
    have w : wr .i64 ((q : Int) + (d : Int)) = ((q + d : Nat) : Int) := by
      clear hd hlt ha hp h2 c1 c2 c3 c4 c5 c6 ih
      rw [w64 (by omega) (by omega)]
      omega
    simp only [m11F7, m11X7, c1, c2, c3, c4, c5, c6, if_true, hd, ha, w]
    exact h2
theorem refones_nat (k x : Nat) (hk : 5001 ≤ k) (hx : x < 9223372036854775808) : m11F k (x : Int) = some (Pop.pop 32 x : Int) := by
  have := refones_loop k x hx 32 k 0 rfl (by omega)
  rw [show Pop.pop 0 x = 0 by simp [Pop.pop]] at this
  simp only [m11F, m11X]
  exact this
theorem refones_any (k : Nat) (hk : 5001 ≤ k) (n : Int) (h1 : n < 9223372036854775808) : m11F k n = some (onesV n) := by
  by_cases h : n < 0
  · obtain ⟨k', hk'⟩ : ∃ m, k = m + 1 := ⟨k - 1, by omega⟩
    have e : m11F k n = m11F7 k k n 0 0 := by simp only [m11F, m11X]
    rw [e]
    generalize hj : k = j
    have hj2 : k' + 1 = j := by omega
    subst hj2
    simp only [m11F7, m11X7]
    rw [if_pos (ltI_pos (by decide)), if_neg (show ¬ leI 0 n = true by rw [leI_neg (by omega)]; simp)]
    unfold onesV
    rw [if_pos h]
  · have := refones_nat k n.toNat hk (by omega)
    rw [← onesV_nat, Int.toNat_of_nonneg (by omega)] at this
    exact this
theorem ints_loop (k : Nat) (a b : List Int) (hl : a.length ≤ 5000) (he : a.length = b.length) : ∀ (ra rb pa pb : List Int) (j : Nat), a = pa ++ ra → b = pb ++ rb → pa.length = pb.length → ra.length < j →
    m16F9 k j a b (pa.length : Int) = some (decide (ra = rb)) := by
  intro ra
  induction ra with
  | nil =>
    intro rb pa pb j ha hb hp hj
    obtain ⟨j, rfl⟩ : ∃ i, j = i + 1 := ⟨j - 1, by simp only [List.length_nil] at hj; omega⟩
    have h1 : a.length = pa.length := by rw [ha]; simp
    have h2 : b.length = pb.length + rb.length := by rw [hb]; simp
    obtain rfl : rb = [] := List.eq_nil_of_length_eq_zero (by omega)
    rw [m16F9, m16X9]
    simp only [leI_eq, ltI_eq, eqI_eq, decide_eq_true_eq, if_neg (show ¬ (pa.length : Int) < (a.length : Int) by omega), decide_true]
  | cons x ra ih =>
    intro rb pa pb j ha hb hp hj
    obtain ⟨j, rfl⟩ : ∃ i, j = i + 1 := ⟨j - 1, by omega⟩
    have h1 : a.length = pa.length + (ra.length + 1) := by rw [ha]; simp
    have h2 : b.length = pb.length + rb.length := by rw [hb]; simp
    cases rb with
    | nil => simp only [List.length_nil] at h2; omega
    | cons y rb =>
      simp only [List.length_cons] at h2 hj
      have e1 : a.getD (Int.toNat (pa.length : Int)) 0 = x := by rw [ha]; exact gd_at pa ra x 0
      have e2 : b.getD (Int.toNat (pa.length : Int)) 0 = y := by rw [hb]; exact gd_at' pb rb y 0 pa.length hp.symm
      have c1 : (pa.length : Int) < (a.length : Int) := by omega
      have c2 : (0 : Int) ≤ (pa.length : Int) := by omega
      have c3 : (pa.length : Int) < (b.length : Int) := by omega
      rw [m16F9, m16X9]
      simp only [leI_eq, ltI_eq, eqI_eq, decide_eq_true_eq, if_pos c1, if_pos c2, if_pos c3, e1, e2, w64s (show pa.length < 9223372036854775807 by omega)]
      by_cases hxy : x = y
      · subst hxy
        have := ih rb (pa ++ [x]) (pb ++ [x]) j (by rw [ha]; simp) (by rw [hb]; simp) (by simp [hp]) (by omega)
        rw [List.length_append, List.length_singleton] at this
        simp only [decide_true, Bool.not_true, Bool.false_eq_true, if_false]
        rw [this]
        simp
      · simp [hxy]
theorem ints_eq' (k : Nat) (hk : 5001 ≤ k) (a b : List Int) (hl : a.length ≤ 5000) : m16F k a b = some (decide (a = b)) := by
  simp only [m16F, m16X]
  by_cases he : a.length = b.length
  · have := ints_loop k a b hl he a b [] [] k rfl rfl rfl (by omega)
    simp only [List.length_nil] at this
    simp only [he, eqI_eq, decide_true, Bool.not_true, Bool.false_eq_true, if_false]
    exact this
  · have : ¬ ((a.length : Int) = (b.length : Int)) := by omega
    have h2 : ¬ a = b := fun h => he (by rw [h])
    simp [eqI_eq, this, h2]
theorem twinInts_eq' (k : Nat) (l : List Int) (hl : l.length ≤ 5000) : m17F k l = some l := by
  simp only [m17F, m17X]
  rw [if_pos (leI_pos (by omega))]
theorem apart_eq (k : Nat) (b : List Int) (hb : b.length ≤ 4096) (size : Nat) (hs : size = 1 ∨ size = 4) : m34F k b (size : Int) = some (Try.all size b b.length, 0) := by
  unfold m34F
  rw [if_pos (by omega), if_neg (by omega), Int.toNat_natCast]
theorem apart_long (k : Nat) (b : List Int) (hb : 4096 < b.length) (size : Nat) (hs : size = 1 ∨ size = 4) : m34F k b (size : Int) = some ([], 2) := by
  unfold m34F
  rw [if_pos (by omega), if_pos hb]
theorem bits_eq (k : Nat) (b : List Int) (hb : b.length ≤ 4096) : m14F k b = some (Try.all 1 b b.length, 0) := by
  have h := apart_eq k b hb 1 (.inl rfl)
  simp only [m14F, m14X]
  rw [show ((1 : Nat) : Int) = 1 from rfl] at h
  rw [h, Option.bind_some]
theorem nibbles_eq (k : Nat) (b : List Int) (hb : b.length ≤ 4096) : m15F k b = some (Try.all 4 b b.length, 0) := by
  have h := apart_eq k b hb 4 (.inr rfl)
  simp only [m15F, m15X]
  rw [show ((4 : Nat) : Int) = 4 from rfl] at h
  rw [h, Option.bind_some]
theorem wake_all : Try.all 4 [165] 1 = [10, 5] := by decide +kernel
theorem wakes01 (k : Nat) (hk : 5001 ≤ k) : m12F k = some true := by
  have e : List.set (List.set (List.replicate 2 (0 : Int)) 0 10) 1 5 = [10, 5] := rfl
  have h1 := nibbles_eq k [165] (by decide)
  have h2 := ints_eq' k hk [10, 5] [10, 5] (by decide)
  have h3 := ones_nat k 7
  have p7 : Pop.pop 32 7 = 3 := by decide +kernel
  have e0 : ∀ z : Int, eqI z z = true := fun z => eqI_pos rfl
  rw [p7] at h3
  simp only [m12F, m12X, one_set, e]
  rw [h1]
  simp only [List.length_singleton, wake_all, Option.bind_some, e0, if_true, h2, decide_true]
  rw [show (7 : Int) = ((7 : Nat) : Int) from rfl, h3]
  simp only [Option.bind_some]
  rw [show ((3 : Nat) : Int) = 3 from rfl, e0]
open Be in
theorem p2_256 (s : Nat) (h : s ≤ 4) : p2 (min (Int.toNat (wr .i64 (8 * (s : Int)))) 64) = ((256 ^ s : Nat) : Int) := by
  obtain rfl | rfl | rfl | rfl | rfl : s = 0 ∨ s = 1 ∨ s = 2 ∨ s = 3 ∨ s = 4 := by omega
  all_goals decide +kernel
open Be in
theorem put_loop (k : Nat) (n : Int) : ∀ (s : Nat) (acc : List Int) (m : Nat), s ≤ 4 → s < m → acc.length + s ≤ 4200 → m21F15 k m n ((s : Int) - 1) acc = some (acc ++ be s n, 0) := by
  intro s
  induction s with
  | zero =>
    intro acc m _ hm h
    obtain ⟨m, rfl⟩ : ∃ x, m = x + 1 := ⟨m - 1, by omega⟩
    rw [m21F15, m21X15]
    simp only [leI_eq, decide_eq_true_eq]
    rw [if_neg (by omega)]
    simp only [m21F20, m21X20]
    rw [clone_eq k acc (by omega), Option.bind_some, be, List.append_nil]
  | succ s ih =>
    intro acc m hs hm h
    obtain ⟨m, rfl⟩ : ∃ x, m = x + 1 := ⟨m - 1, by omega⟩
    have w0 : ((s + 1 : Nat) : Int) - 1 = (s : Int) := by omega
    have w2 : wr .i64 ((s : Int) - 1) = (s : Int) - 1 := w64 (by omega) (by omega)
    have w1 : (0 : Int) ≤ wr .i64 (8 * (s : Int)) := by rw [w64 (by omega) (by omega)]; omega
    rw [m21F15, m21X15]
    simp only [leI_eq, decide_eq_true_eq, w0, w2, one_set, p2_256 s (by omega), if_pos w1, if_pos (show (s : Int) ≥ 0 by omega), wu8]
    rw [if_pos (by simp only [List.length_singleton]; omega), ih _ m (by omega) (by omega) (by simp; omega), be, List.append_assoc]
    rfl
open Be in
theorem put_eq (k : Nat) (hk : 10 ≤ k) (l : List Int) (n : Int) (s : Nat) (h1 : 1 ≤ s) (h4 : s ≤ 4) (hl : l.length + s ≤ 4096) (h0 : 0 ≤ n) (hn : n < ((256 ^ s : Nat) : Int)) : m21F k l n (s : Int) = some (l ++ be s n, 0) := by
  have w1 : (0 : Int) ≤ wr .i64 (8 * (s : Int)) := by rw [w64 (by omega) (by omega)]; omega
  have w2 : wr .i64 (4096 - (s : Int)) = 4096 - (s : Int) := w64 (by omega) (by omega)
  have w3 : wr .i64 ((s : Int) - 1) = (s : Int) - 1 := w64 (by omega) (by omega)
  have hp : ((256 ^ s : Nat) : Int) ≤ 4294967296 := by
    have : 256 ^ s ≤ 256 ^ 4 := Nat.pow_le_pow_right (by decide) h4
    omega
  have w4 : wr .i64 (1 * ((256 ^ s : Nat) : Int)) = ((256 ^ s : Nat) : Int) := by
    generalize ((256 ^ s : Nat) : Int) = q at hp hn
    rw [w64 (by omega) (by omega)]
    omega
  simp only [m21F, m21X, leI_eq, ltI_eq, decide_eq_true_eq, p2_256 s h4, w2, w3, w4, if_pos w1]
  generalize ((256 ^ s : Nat) : Int) = q at hp hn
  rw [if_neg (by omega), if_neg (by omega), if_neg (by omega), if_neg (by omega), if_neg (by omega), clone_eq k l (by omega), Option.bind_some]
  exact put_loop k n s l k h4 (by omega) (by omega)
open Be in
theorem put_bad (k : Nat) (l : List Int) (n : Int) (s : Nat) (h1 : 1 ≤ s) (h4 : s ≤ 4) (hn : n < 0 ∨ ((256 ^ s : Nat) : Int) ≤ n) : m21F k l n (s : Int) = some ([], 1) := by
  have w1 : (0 : Int) ≤ wr .i64 (8 * (s : Int)) := by rw [w64 (by omega) (by omega)]; omega
  have hp : ((256 ^ s : Nat) : Int) ≤ 4294967296 := by
    have : 256 ^ s ≤ 256 ^ 4 := Nat.pow_le_pow_right (by decide) h4
    omega
  have hq : (0 : Int) ≤ ((256 ^ s : Nat) : Int) := Int.natCast_nonneg _
  have w4 : wr .i64 (1 * ((256 ^ s : Nat) : Int)) = ((256 ^ s : Nat) : Int) := by
    generalize ((256 ^ s : Nat) : Int) = q at hp hn hq
    rw [w64 (by omega) (by omega)]
    omega
  simp only [m21F, m21X, leI_eq, ltI_eq, decide_eq_true_eq, p2_256 s h4, w4, if_pos w1]
  generalize ((256 ^ s : Nat) : Int) = q at hp hn hq
  rw [if_neg (by omega), if_neg (by omega)]
  by_cases h : n < 0
  · rw [if_pos (by omega)]
  · rw [if_neg (by omega), if_pos (by omega)]
open Be Crc in
theorem num_snoc (pre : List Int) (x : Int) : num (pre ++ [x]) = num pre * 256 + x := by unfold num; rw [List.foldl_append]; rfl
open Be Crc in
theorem num_or (pre : List Int) (x : Int) (hp3 : pre.length ≤ 3) (hb : ∀ c ∈ pre, isByte c) (hx : isByte x) : Go.bits .or .i64 (wr .i64 (num pre * 256)) (wr .i64 x) = num (pre ++ [x]) := by
  have hp := num_bound pre hb
  have hq : ((256 ^ pre.length : Nat) : Int) ≤ 16777216 := by
    have : 256 ^ pre.length ≤ 256 ^ 3 := Nat.pow_le_pow_right (by decide) (by omega)
    omega
  unfold isByte at hx
  generalize ((256 ^ pre.length : Nat) : Int) = q at hp hq
  rw [w64 (by omega) (by omega), w64 (by omega) (by omega), num_snoc]
  obtain ⟨a, ha⟩ := Int.eq_ofNat_of_zero_le hp.1
  obtain ⟨b, hb'⟩ := Int.eq_ofNat_of_zero_le hx.1
  rw [ha] at hp ⊢
  subst hb'
  have := orN (a * 256) b (by omega) (by omega)
  rw [Int.natCast_mul] at this
  exact this.trans (by rw [or_byte a b (by omega)]; omega)
open Be Crc in
theorem get_loop (k : Nat) (l : List Int) (hl : l.length ≤ 4) : ∀ (rest pre : List Int) (n : Nat), l = pre ++ rest → (∀ c ∈ l, isByte c) → rest.length < n →
    m24F15 k n (num pre) l (l.length : Int) (pre.length : Int) = some (num l, 0) := by
  intro rest
  induction rest with
  | nil =>
    intro pre n h _ hn
    obtain ⟨n, rfl⟩ : ∃ x, n = x + 1 := ⟨n - 1, by simp only [List.length_nil] at hn; omega⟩
    rw [List.append_nil] at h
    subst h
    rw [m24F15, m24X15]
    simp only [ltI_eq, decide_eq_true_eq]
    rw [if_neg (by omega)]
    rfl
  | cons x rest ih =>
    intro pre n h hb hn
    obtain ⟨n, rfl⟩ : ∃ x, n = x + 1 := ⟨n - 1, by omega⟩
    have h1 : l.length = pre.length + (rest.length + 1) := by rw [h]; simp
    have e1 : l.getD (Int.toNat (pre.length : Int)) 0 = x := by rw [h]; exact gd_at pre rest x 0
    have hx : isByte x := hb x (by rw [h]; simp)
    have e2 := num_or pre x (by omega) (fun c hc => hb c (by rw [h]; simp [hc])) hx
    rw [m24F15, m24X15]
    simp only [leI_eq, ltI_eq, decide_eq_true_eq, if_pos (show (pre.length : Int) < (l.length : Int) by omega), if_pos (show (0 : Int) ≤ (pre.length : Int) by omega), if_pos (show (0 : Int) ≤ 8 by decide), e1, e2, w64s (show pre.length < 9223372036854775807 by omega)]
    have := ih (pre ++ [x]) n (by rw [h]; simp) hb (by simp only [List.length_cons] at hn; omega)
    rw [List.length_append, List.length_singleton] at this
    exact this
open Be Crc in
theorem get_eq (k : Nat) (hk : 10 ≤ k) (l : List Int) (at_ s : Nat) (h1 : 1 ≤ s) (h4 : s ≤ 4) (hl : at_ + s ≤ l.length) (hm : l.length ≤ 5000) (hb : ∀ c ∈ l, isByte c) :
    m24F k l (at_ : Int) (s : Int) = some (num ((l.take (at_ + s)).drop at_), 0) := by
  have w1 : wr .i64 ((l.length : Int) - (at_ : Int)) = (l.length : Int) - (at_ : Int) := w64 (by omega) (by omega)
  have w2 : wr .i64 ((at_ : Int) + (s : Int)) = ((at_ + s : Nat) : Int) := by rw [w64 (by omega) (by omega)]; omega
  simp only [m24F, m24X, leI_eq, ltI_eq, decide_eq_true_eq, w1, w2, Int.toNat_natCast]
  rw [if_neg (by omega), if_neg (by omega), if_neg (by omega), if_neg (by omega), if_neg (by omega), if_pos (by omega), if_pos (by omega), if_pos (by omega), if_pos (by omega)]
  have hlen : ((l.take (at_ + s)).drop at_).length = s := by rw [List.length_drop, List.length_take]; omega
  exact get_loop k _ (by omega) _ [] k rfl (fun c hc => hb c (List.mem_of_mem_take (List.mem_of_mem_drop hc))) (by omega)
/-! Numbers put and got, the page's. -/
open Be in
theorem p2_256w (s : Nat) (h : s ≤ 4) : p2 (min (Int.toNat (wr .u64 (wr .i64 (8 * (s : Int))))) 64) = ((256 ^ s : Nat) : Int) := by
  obtain rfl | rfl | rfl | rfl | rfl : s = 0 ∨ s = 1 ∨ s = 2 ∨ s = 3 ∨ s = 4 := by omega
  all_goals decide +kernel
theorem rp_ar (s n : Nat) (hs : s + 1 ≤ 4) (hn : n ≤ 4200) : ((s + 1 : Nat) : Int) - 1 = (s : Int) ∧ wr .i64 ((s : Int) - 1) = (s : Int) - 1 ∧ leI 0 (wr .u64 (wr .i64 (8 * (s : Int)))) = true ∧ leI 0 (s : Int) = true ∧ leI (((n + 1) * 1 : Nat) : Int) 140737488355328 = true :=
  ⟨by omega, w64 (by omega) (by omega), by rw [w64 (by omega) (by omega), wu64 (by omega) (by omega)]; exact leI_pos (by omega), leI_pos (by omega), leI_pos (by omega)⟩
open Be in
theorem refput_loop (k : Nat) (n : Int) : ∀ (s : Nat) (acc : List Int) (m : Nat), s ≤ 4 → s < m → acc.length + s ≤ 4200 → m22F15 k m n ((s : Int) - 1) acc = some (acc ++ be s n, 0) := by
  intro s
  induction s with
  | zero =>
    intro acc m _ hm h
    obtain ⟨m, rfl⟩ : ∃ x, m = x + 1 := ⟨m - 1, by omega⟩
    rw [m22F15, m22X15, if_neg (by rw [leI_neg (by omega)]; simp), be, List.append_nil]
    rfl
  | succ s ih =>
    intro acc m hs hm h
    obtain ⟨m, rfl⟩ : ∃ x, m = x + 1 := ⟨m - 1, by omega⟩
    have hi := ih (acc ++ [n / ((256 ^ s : Nat) : Int) % 256]) m (by omega) (by omega) (by rw [List.length_append, List.length_singleton]; omega)
    have hp := p2_256w s (by omega)
    obtain ⟨w0, w2, w1, w4, w5⟩ := rp_ar s acc.length hs (by omega)
    rw [m22F15, m22X15]
    simp only [w0, w1, w2, w4, if_true, one_set, List.length_singleton, hp, wu8, w5, hi, be]
    rw [List.append_assoc]
    rfl
open Be in
theorem refput_eq (k : Nat) (hk : 10 ≤ k) (l : List Int) (n : Int) (s : Nat) (h1 : 1 ≤ s) (h4 : s ≤ 4) (hl : l.length + s ≤ 4096) (h0 : 0 ≤ n) (hn : n < ((256 ^ s : Nat) : Int)) : m22F k l n (s : Int) = some (l ++ be s n, 0) := by
  have w1 : leI 0 (wr .u64 (wr .i64 (8 * (s : Int)))) = true := by rw [w64 (by omega) (by omega), wu64 (by omega) (by omega)]; exact leI_pos (by omega)
  have w2 : ltI (wr .i64 (4096 - (s : Int))) (l.length : Int) = false := by rw [w64 (by omega) (by omega)]; exact ltI_neg (by omega)
  have w3 : wr .i64 ((s : Int) - 1) = (s : Int) - 1 := w64 (by omega) (by omega)
  have c1 : ltI (s : Int) 1 = false := ltI_neg (by omega)
  have c2 : ltI 4 (s : Int) = false := ltI_neg (by omega)
  have c3 : ltI n 0 = false := ltI_neg (by omega)
  have lp := refput_loop k n s l k h4 (by omega) (by omega)
  have tw := twin_eq k l (by omega)
  have hp := p2_256w s h4
  have hq : n / ((256 ^ s : Nat) : Int) = 0 := Int.ediv_eq_zero_of_lt h0 hn
  have e0 : (!eqI 0 0) = false := by rw [eqI_pos rfl]; rfl
  simp only [m22F, m22X, c1, c2, c3, Bool.false_eq_true, if_false, w1, if_true, hp, hq, e0, w2, tw, Option.bind_some, w3]
  exact lp
open Be in
theorem refput_bad (k : Nat) (l : List Int) (n : Int) (s : Nat) (h1 : 1 ≤ s) (h4 : s ≤ 4) (hn : n < 0 ∨ ((256 ^ s : Nat) : Int) ≤ n) : m22F k l n (s : Int) = some ([], 1) := by
  have w1 : leI 0 (wr .u64 (wr .i64 (8 * (s : Int)))) = true := by rw [w64 (by omega) (by omega), wu64 (by omega) (by omega)]; exact leI_pos (by omega)
  have c1 : ltI (s : Int) 1 = false := ltI_neg (by omega)
  have c2 : ltI 4 (s : Int) = false := ltI_neg (by omega)
  have hp := p2_256w s h4
  have hpos : (0 : Int) < ((256 ^ s : Nat) : Int) := Int.ofNat_lt.2 (Nat.pow_pos (by decide))
  by_cases h : n < 0
  · simp only [m22F, m22X, c1, c2, ltI_pos h, Bool.false_eq_true, if_false, if_true]
  · have hq : (!eqI (n / ((256 ^ s : Nat) : Int)) 0) = true := by
      rw [eqI_neg]
      · rfl
      · intro hz
        have h2 : ((256 ^ s : Nat) : Int) ≤ n := hn.resolve_left h
        have := (Int.le_ediv_iff_mul_le (a := 1) hpos).2 (by rw [Int.one_mul]; exact h2)
        rw [hz] at this
        exact absurd this (by decide)
    simp only [m22F, m22X, c1, c2, ltI_neg h, Bool.false_eq_true, if_false, w1, if_true, hp, hq]
/-- Sizes that are none. -/
theorem put_size (k : Nat) (l : List Int) (n s : Int) (h : s < 1 ∨ 4 < s) : m21F k l n s = some ([], 1) ∧ m22F k l n s = some ([], 1) := by
  by_cases h1 : s < 1
  · simp only [m21F, m21X, m22F, m22X, ltI_pos h1, if_true, and_self]
  · simp only [m21F, m21X, m22F, m22X, ltI_neg h1, ltI_pos (h.resolve_left h1), if_true, Bool.false_eq_true, if_false, and_self]
theorem rg_ar (a s i n : Nat) (hi : i < s) (h : a + s ≤ n) (hn : n ≤ 5000) : ltI (i : Int) (s : Int) = true ∧ wr .i64 ((a : Int) + (i : Int)) = ((a + i : Nat) : Int) ∧ leI 0 ((a + i : Nat) : Int) = true ∧ ltI ((a + i : Nat) : Int) (n : Int) = true ∧ wr .i64 ((i : Int) + 1) = ((i + 1 : Nat) : Int) ∧ leI 0 8 = true :=
  ⟨ltI_pos (by omega), by rw [w64 (by omega) (by omega)]; omega, leI_pos (by omega), ltI_pos (by omega), w64s (by omega), leI_pos (by decide)⟩
open Be Crc in
theorem refget_loop (k : Nat) (l : List Int) (a s : Nat) (h4 : s ≤ 4) (hl : a + s ≤ l.length) (hm : l.length ≤ 5000) (hb : ∀ c ∈ l, isByte c) : ∀ (d i j : Nat), i + d = s → d < j →
    m25F15 k j l (a : Int) (s : Int) (num ((l.drop a).take i)) (i : Int) = some (num ((l.drop a).take s), 0) := by
  intro d
  induction d with
  | zero =>
    intro i j h hj
    obtain ⟨j, rfl⟩ : ∃ x, j = x + 1 := ⟨j - 1, by omega⟩
    obtain rfl : i = s := by omega
    rw [m25F15, m25X15, if_neg (by rw [ltI_neg (by omega)]; simp)]
    rfl
  | succ d ih =>
    intro i j h hj
    obtain ⟨j, rfl⟩ : ∃ x, j = x + 1 := ⟨j - 1, by omega⟩
    have hg : l.getD (a + i) 0 = l[a + i] := by rw [List.getD_eq_getElem?_getD, List.getElem?_eq_getElem (by omega)]; rfl
    have ht : (l.drop a).take (i + 1) = (l.drop a).take i ++ [l[a + i]] := by
      rw [List.take_add_one, List.getElem?_drop, List.getElem?_eq_getElem (by omega)]
      rfl
    have hx : isByte l[a + i] := hb _ (List.getElem_mem _)
    have e2 := num_or ((l.drop a).take i) l[a + i] (by rw [List.length_take]; omega) (fun c hc => hb c (List.mem_of_mem_drop (List.mem_of_mem_take hc))) hx
    have hi := ih (i + 1) j (by omega) (by omega)
    rw [ht] at hi
    obtain ⟨c1, c2, c3, c4, c5, c6⟩ := rg_ar a s i l.length (by omega) hl hm
    rw [m25F15, m25X15]
    simp only [c1, c2, c3, c4, c5, c6, if_true, Int.toNat_natCast, hg, e2]
    exact hi
open Be Crc in
theorem refget_eq (k : Nat) (hk : 10 ≤ k) (l : List Int) (at_ s : Nat) (h1 : 1 ≤ s) (h4 : s ≤ 4) (hl : at_ + s ≤ l.length) (hm : l.length ≤ 5000) (hb : ∀ c ∈ l, isByte c) :
    m25F k l (at_ : Int) (s : Int) = some (num ((l.take (at_ + s)).drop at_), 0) := by
  have w1 : ltI (wr .i64 ((l.length : Int) - (at_ : Int))) (s : Int) = false := by rw [w64 (by omega) (by omega)]; exact ltI_neg (by omega)
  have c1 : ltI (s : Int) 1 = false := ltI_neg (by omega)
  have c2 : ltI 4 (s : Int) = false := ltI_neg (by omega)
  have c3 : ltI (at_ : Int) 0 = false := ltI_neg (by omega)
  have c4 : ltI (l.length : Int) (at_ : Int) = false := ltI_neg (by omega)
  have e : (l.take (at_ + s)).drop at_ = (l.drop at_).take s := by rw [List.drop_take, Nat.add_sub_cancel_left]
  have lp := refget_loop k l at_ s h4 hl hm hb s 0 k (Nat.zero_add s) (by omega)
  rw [e]
  simp only [m25F, m25X, c1, c2, c3, c4, w1, Bool.false_eq_true, if_false]
  exact lp
/-- Places and sizes that are none. -/
theorem get_bad (k : Nat) (l : List Int) (a s : Int) (hl : l.length ≤ 5000) (h : s < 1 ∨ 4 < s ∨ a < 0 ∨ (l.length : Int) < a ∨ (l.length : Int) - a < s) : ∃ r, m24F k l a s = some r ∧ m25F k l a s = some r := by
  simp only [m24F, m24X, m25F, m25X]
  by_cases h1 : s < 1
  · rw [ltI_pos h1]
    exact ⟨_, if_pos rfl, if_pos rfl⟩
  rw [ltI_neg h1]
  by_cases h2 : 4 < s
  · rw [ltI_pos h2]
    exact ⟨_, (if_neg (by simp)).trans (if_pos rfl), (if_neg (by simp)).trans (if_pos rfl)⟩
  rw [ltI_neg h2]
  by_cases h3 : a < 0
  · rw [ltI_pos h3]
    exact ⟨_, (if_neg (by simp)).trans ((if_neg (by simp)).trans (if_pos rfl)), (if_neg (by simp)).trans ((if_neg (by simp)).trans (if_pos rfl))⟩
  rw [ltI_neg h3]
  by_cases h4 : (l.length : Int) < a
  · rw [ltI_pos h4]
    exact ⟨_, (if_neg (by simp)).trans ((if_neg (by simp)).trans ((if_neg (by simp)).trans (if_pos rfl))), (if_neg (by simp)).trans ((if_neg (by simp)).trans ((if_neg (by simp)).trans (if_pos rfl)))⟩
  have w : wr .i64 ((l.length : Int) - a) = (l.length : Int) - a := w64 (by omega) (by omega)
  rw [ltI_neg h4, w, ltI_pos (show (l.length : Int) - a < s by omega)]
  exact ⟨_, (if_neg (by simp)).trans ((if_neg (by simp)).trans ((if_neg (by simp)).trans ((if_neg (by simp)).trans (if_pos rfl)))), (if_neg (by simp)).trans ((if_neg (by simp)).trans ((if_neg (by simp)).trans ((if_neg (by simp)).trans (if_pos rfl))))⟩
/-- Both do the same. -/
theorem put_both (k : Nat) (hk : 10 ≤ k) (l : List Int) (n s : Int) (hl : l.length ≤ 300) : ∃ r, m21F k l n s = some r ∧ m22F k l n s = some r ∧ r.1.length ≤ 310 := by
  by_cases h : s < 1 ∨ 4 < s
  · exact ⟨_, (put_size k l n s h).1, (put_size k l n s h).2, by simp⟩
  · obtain ⟨m, rfl⟩ := Int.eq_ofNat_of_zero_le (show 0 ≤ s by omega)
    by_cases hn : n < 0 ∨ ((256 ^ m : Nat) : Int) ≤ n
    · exact ⟨_, put_bad k l n m (by omega) (by omega) hn, refput_bad k l n m (by omega) (by omega) hn, by simp⟩
    · have h0 : 0 ≤ n := Int.not_lt.1 fun q => hn (.inl q)
      have h1 : n < ((256 ^ m : Nat) : Int) := Int.not_le.1 fun q => hn (.inr q)
      exact ⟨_, put_eq k hk l n m (by omega) (by omega) (by omega) h0 h1, refput_eq k hk l n m (by omega) (by omega) (by omega) h0 h1, by rw [List.length_append, Be.be_length]; omega⟩
open Crc in
theorem get_both (k : Nat) (hk : 10 ≤ k) (l : List Int) (a s : Int) (hl : l.length ≤ 300) (hb : ∀ c ∈ l, isByte c) : ∃ r, m24F k l a s = some r ∧ m25F k l a s = some r := by
  by_cases h : s < 1 ∨ 4 < s ∨ a < 0 ∨ (l.length : Int) < a ∨ (l.length : Int) - a < s
  · exact get_bad k l a s (by omega) h
  · obtain ⟨m, rfl⟩ := Int.eq_ofNat_of_zero_le (show 0 ≤ s by omega)
    obtain ⟨x, rfl⟩ := Int.eq_ofNat_of_zero_le (show 0 ≤ a by omega)
    exact ⟨_, get_eq k hk l x m (by omega) (by omega) (by omega) (by omega) hb, refget_eq k hk l x m (by omega) (by omega) (by omega) (by omega) hb⟩
/-! What is written over: it ends. -/
theorem spoil_loop (k o n : Nat) (hn : n ≤ 100000) : ∀ (d i j : Nat) (b : List Int), i + d = n → d < j → ∃ r, m23F3 k j o n (i : Int) b = some r := by
  intro d
  induction d with
  | zero =>
    intro i j b h hj
    obtain ⟨j, rfl⟩ : ∃ x, j = x + 1 := ⟨j - 1, by omega⟩
    refine ⟨b, ?_⟩
    rw [m23F3, m23X3, if_neg (by rw [ltI_neg (by omega)]; simp)]
  | succ d ih =>
    intro i j b h hj
    obtain ⟨j, rfl⟩ : ∃ x, j = x + 1 := ⟨j - 1, by omega⟩
    have e := w64s (show i < 9223372036854775807 by omega)
    rw [m23F3, m23X3, if_pos (ltI_pos (by omega)), if_pos (leI_pos (by omega)), if_pos (ltI_pos (by omega)), if_pos (leI_pos (by omega)), if_pos (ltI_pos (by omega)), e]
    exact ih (i + 1) j _ (by omega) (by omega)
theorem spoil_eq (k o n : Nat) (hk : n < k) (hn : n ≤ 100000) (b : List Int) : ∃ r, m23F k b o n = some r := by
  obtain ⟨r, h⟩ := spoil_loop k o n hn n 0 k b (Nat.zero_add n) hk
  refine ⟨r, ?_⟩
  simp only [m23F, m23X]
  exact h

end Go.Proofs.Ytmjbjlhjpdebjaa.Mini
