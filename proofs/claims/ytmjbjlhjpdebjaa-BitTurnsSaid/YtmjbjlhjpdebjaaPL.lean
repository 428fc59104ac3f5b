/- What shared functions tell: plain laws. -/
import Derived.Test.YtmjbjlhjpdebjaaMF
import Derived.Test.YtmjbjlhjpdebjaaCrc
import Derived.Test.YtmjbjlhjpdebjaaBe
import Derived.Test.YtmjbjlhjpdebjaaPop
import Derived.Laws.Closers25b
set_option linter.unusedSimpArgs false
set_option linter.unusedVariables false
namespace Go.Proofs.Ytmjbjlhjpdebjaa.Mini
open Go Go.RowKit Go.Proofs
theorem w64 {n : Int} (h0 : -9223372036854775808 ≤ n) (h1 : n < 9223372036854775808) : wr .i64 n = n := by
  show wrap64 n = n
  unfold wrap64
  omega
theorem w64n {n : Nat} (h1 : n < 9223372036854775808) : wr .i64 (n : Int) = (n : Int) := w64 (by omega) (by omega)
theorem w64s {n : Nat} (h1 : n < 9223372036854775807) : wr .i64 ((n : Int) + 1) = ((n + 1 : Nat) : Int) := w64 (by omega) (by omega)
theorem wu64 {n : Int} (h0 : 0 ≤ n) (h1 : n < 18446744073709551616) : wr .u64 n = n := by
  show n % 18446744073709551616 = n
  omega
theorem wu8 (n : Int) : wr .u8 n = n % 256 := (congrArg (fun x : Int => x % 256) (Eq.refl n) : n % 256 = n % 256)
theorem wu32 (n : Int) : wr .u32 n = n % 4294967296 := (congrArg (fun x : Int => x % 4294967296) (Eq.refl n) : n % 4294967296 = n % 4294967296)
theorem gd_at {α : Type} (pre rest : List α) (x d : α) : (pre ++ x :: rest).getD (Int.toNat (pre.length : Int)) d = x := by
  rw [Int.toNat_natCast, List.getD_eq_getElem?_getD, List.getElem?_append_right (Nat.le_refl _), Nat.sub_self]
  rfl
theorem gd_at' {α : Type} (pre rest : List α) (x d : α) (n : Nat) (h : pre.length = n) : (pre ++ x :: rest).getD (Int.toNat (n : Int)) d = x := by
  subst h
  exact gd_at pre rest x d
theorem getD_nat {α : Type} (l : List α) (n : Nat) (d : α) : l.getD (Int.toNat (n : Int)) d = l.getD n d := rfl
theorem nilK_same {R : Type} {e : Bool} {a : Option R} : nilK e a a = a := by
  unfold nilK both
  cases e <;> simp
theorem nilK_of {R : Type} {e : Bool} {a b : Option R} (h : e = true → a = b) : nilK e a b = b := by
  unfold nilK both
  cases e
  · rfl
  · simp [h rfl]
theorem one_set (x d : Int) : List.set (List.replicate 1 d) 0 x = [x] := (congrArg (fun y : Int => [y]) (Eq.refl x) : [x] = [x])
theorem bytes_wf {l : List Int} (h : WfK (.row (.int .u8)) l) : ∀ c ∈ l, Crc.isByte c := fun c hc => Bv.wf_u8 (h.2 c hc)
theorem leI_pos {a b : Int} (h : a ≤ b) : leI a b = true := (leI_iff a b).2 h
theorem leI_neg {a b : Int} (h : ¬ a ≤ b) : leI a b = false := by
  rw [leI_eq]
  simpa using h
theorem ltI_pos {a b : Int} (h : a < b) : ltI a b = true := (ltI_iff a b).2 h
theorem ltI_neg {a b : Int} (h : ¬ a < b) : ltI a b = false := by
  rw [ltI_eq]
  simpa using h
theorem eqI_pos {a b : Int} (h : a = b) : eqI a b = true := (eqI_iff a b).2 h
theorem eqI_neg {a b : Int} (h : ¬ a = b) : eqI a b = false := by
  rw [eqI_eq]
  simpa using h
theorem umod0 (x : Int) (m : Nat) (hm : 0 < m) : ∃ a : Nat, a < m ∧ Int.tmod (wr .u64 x) (m : Int) = (a : Int) := by
  have h0 : 0 ≤ wr .u64 x := Int.emod_nonneg _ (by decide)
  have h1 : Int.tmod (wr .u64 x) (m : Int) = wr .u64 x % (m : Int) := Int.tmod_eq_emod_of_nonneg h0
  have h2 := Int.emod_nonneg (wr .u64 x) (show (m : Int) ≠ 0 by omega)
  have h3 := Int.emod_lt_of_pos (wr .u64 x) (show (0 : Int) < m by omega)
  refine ⟨(wr .u64 x % (m : Int)).toNat, ?_, ?_⟩
  · generalize wr .u64 x % (m : Int) = z at h2 h3
    omega
  · rw [h1]
    generalize wr .u64 x % (m : Int) = z at h2 h3
    omega
theorem clone_eq (k : Nat) (l : List Int) (h : l.length ≤ 5000) : m35F k l = some l := by
  simp only [m35F, m35X, leI_eq, decide_eq_true_eq]
  rw [nilK_of, if_pos (by omega)]
  · rfl
  · intro he
    rw [if_pos (by omega)]
    rw [List.isEmpty_iff.1 he]
    rfl
theorem twin_eq (k : Nat) (l : List Int) (h : l.length ≤ 5000) : m13F k l = some l := by
  simp only [m13F, m13X, leI_eq, decide_eq_true_eq]
  rw [if_pos (by omega)]
theorem bytes_loop (k : Nat) (a b : List Int) (hl : a.length ≤ 5000) (he : a.length = b.length) : ∀ (ra rb pa pb : List Int) (j : Nat), a = pa ++ ra → b = pb ++ rb → pa.length = pb.length → ra.length < j →
    m20F9 k j a b (pa.length : Int) = some (decide (ra = rb)) := by
  intro ra
  induction ra with
  | nil =>
    intro rb pa pb j ha hb hp hj
    obtain ⟨j, rfl⟩ : ∃ i, j = i + 1 := ⟨j - 1, by simp only [List.length_nil] at hj; omega⟩
    have h1 : a.length = pa.length := by rw [ha]; simp
    have h2 : b.length = pb.length + rb.length := by rw [hb]; simp
    obtain rfl : rb = [] := List.eq_nil_of_length_eq_zero (by omega)
    rw [m20F9, m20X9]
    simp only [leI_eq, ltI_eq, eqI_eq, decide_eq_true_eq, if_neg (show ¬ (pa.length : Int) < (a.length : Int) by omega), decide_true]
  | cons x ra ih =>
    intro rb pa pb j ha hb hp hj
    obtain ⟨j, rfl⟩ : ∃ i, j = i + 1 := ⟨j - 1, by omega⟩
    have h1 : a.length = pa.length + (ra.length + 1) := by rw [ha]; simp
    have h2 : b.length = pb.length + rb.length := by rw [hb]; simp
    cases rb with
    | nil => simp only [List.length_nil] at h2; omega
    | cons y rb =>
      simp only [List.length_cons] at h2 hj
      have e1 : a.getD (Int.toNat (pa.length : Int)) 0 = x := by rw [ha]; exact gd_at pa ra x 0
      have e2 : b.getD (Int.toNat (pa.length : Int)) 0 = y := by rw [hb]; exact gd_at' pb rb y 0 pa.length hp.symm
      have c1 : (pa.length : Int) < (a.length : Int) := by omega
      have c2 : (0 : Int) ≤ (pa.length : Int) := by omega
      have c3 : (pa.length : Int) < (b.length : Int) := by omega
      rw [m20F9, m20X9]
      simp only [leI_eq, ltI_eq, eqI_eq, decide_eq_true_eq, if_pos c1, if_pos c2, if_pos c3, e1, e2, w64s (show pa.length < 9223372036854775807 by omega)]
      by_cases hxy : x = y
      · subst hxy
        have := ih rb (pa ++ [x]) (pb ++ [x]) j (by rw [ha]; simp) (by rw [hb]; simp) (by simp [hp]) (by omega)
        rw [List.length_append, List.length_singleton] at this
        simp only [decide_true, Bool.not_true, Bool.false_eq_true, if_false]
        rw [this]
        simp
      · simp [hxy]
theorem bytes_eq' (k : Nat) (hk : 5001 ≤ k) (a b : List Int) (hl : a.length ≤ 5000) : m20F k a b = some (decide (a = b)) := by
  simp only [m20F, m20X]
  by_cases he : a.length = b.length
  · have := bytes_loop k a b hl he a b [] [] k rfl rfl rfl (by omega)
    simp only [List.length_nil] at this
    simp only [he, eqI_eq, decide_true, Bool.not_true, Bool.false_eq_true, if_false]
    exact this
  · have : ¬ ((a.length : Int) = (b.length : Int)) := by omega
    have h2 : ¬ a = b := fun h => he (by rw [h])
    simp [eqI_eq, this, h2]
/-! A number's ones. -/
noncomputable def onesTab : ByteArray := ByteArray.mk (List.toArray (List.append (List.append [0, 1, 1, 2, 1, 2, 2, 3, 1, 2, 2, 3, 2, 3, 3, 4, 1, 2, 2, 3, 2, 3, 3, 4, 2, 3, 3, 4, 3, 4, 4, 5, 1, 2, 2, 3, 2, 3, 3, 4, 2, 3, 3, 4, 3, 4, 4, 5, 2, 3, 3, 4, 3, 4, 4, 5, 3, 4, 4, 5, 4, 5, 5, 6] [1, 2, 2, 3, 2, 3, 3, 4, 2, 3, 3, 4, 3, 4, 4, 5, 2, 3, 3, 4, 3, 4, 4, 5, 3, 4, 4, 5, 4, 5, 5, 6, 2, 3, 3, 4, 3, 4, 4, 5, 3, 4, 4, 5, 4, 5, 5, 6, 3, 4, 4, 5, 4, 5, 5, 6, 4, 5, 5, 6, 5, 6, 6, 7]) (List.append [1, 2, 2, 3, 2, 3, 3, 4, 2, 3, 3, 4, 3, 4, 4, 5, 2, 3, 3, 4, 3, 4, 4, 5, 3, 4, 4, 5, 4, 5, 5, 6, 2, 3, 3, 4, 3, 4, 4, 5, 3, 4, 4, 5, 4, 5, 5, 6, 3, 4, 4, 5, 4, 5, 5, 6, 4, 5, 5, 6, 5, 6, 6, 7] [2, 3, 3, 4, 3, 4, 4, 5, 3, 4, 4, 5, 4, 5, 5, 6, 3, 4, 4, 5, 4, 5, 5, 6, 4, 5, 5, 6, 5, 6, 6, 7, 3, 4, 4, 5, 4, 5, 5, 6, 4, 5, 5, 6, 5, 6, 6, 7, 4, 5, 5, 6, 5, 6, 6, 7, 5, 6, 6, 7, 6, 7, 7, 8])))
theorem onesTab_at : ∀ i : Fin 256, onesTab[i.val]? = some (UInt8.ofNat (Pop.pop 8 i.val)) := by
  decide +kernel
theorem onesTab_nat (i : Nat) (h : i < 256) : onesTab[Int.toNat (i : Int)]? = some (UInt8.ofNat (Pop.pop 8 i)) := onesTab_at ⟨i, h⟩
theorem u32and255 (x : Nat) (h : x < 4294967296) : bits .and .u32 (x : Int) 255 = ((x % 256 : Nat) : Int) := by
  have := u32_and_nat x 255 h (by decide)
  rw [show (255 : Nat) = 2 ^ 8 - 1 from rfl, Nat.and_two_pow_sub_one_eq_mod] at this
  exact this
theorem ones32_nat (k x : Nat) (hx : x < 4294967296) : m33F k (x : Int) = some (Pop.pop 32 x : Int) := by
  have ar : ((x : Int) / 16777216 = ((x / 16777216 : Nat) : Int)) ∧ ((x : Int) / 65536 = ((x / 65536 : Nat) : Int)) ∧ ((x : Int) / 256 = ((x / 256 : Nat) : Int)) := ⟨by omega, by omega, by omega⟩
  obtain ⟨e1, e2, e3⟩ := ar
  have c0 : ∀ n : Nat, leI 0 (n : Int) = true := fun n => leI_pos (by omega)
  have c1 : leI 0 24 = true := leI_pos (by decide)
  have c2 : leI 0 16 = true := leI_pos (by decide)
  have c3 : leI 0 8 = true := leI_pos (by decide)
  have g1 := onesTab_nat (x / 16777216) (by omega)
  have g2 := onesTab_nat (x / 65536 % 256) (by omega)
  have g3 := onesTab_nat (x / 256 % 256) (by omega)
  have g4 := onesTab_nat (x % 256) (by omega)
  simp only [m33F, m33X, e1, e2, e3, c1, c2, c3, u32and255 _ (show x / 65536 < 4294967296 by omega), u32and255 _ (show x / 256 < 4294967296 by omega), u32and255 _ hx, c0, if_true]
  rw [show ByteArray.mk (List.toArray (List.append (List.append [0, 1, 1, 2, 1, 2, 2, 3, 1, 2, 2, 3, 2, 3, 3, 4, 1, 2, 2, 3, 2, 3, 3, 4, 2, 3, 3, 4, 3, 4, 4, 5, 1, 2, 2, 3, 2, 3, 3, 4, 2, 3, 3, 4, 3, 4, 4, 5, 2, 3, 3, 4, 3, 4, 4, 5, 3, 4, 4, 5, 4, 5, 5, 6] [1, 2, 2, 3, 2, 3, 3, 4, 2, 3, 3, 4, 3, 4, 4, 5, 2, 3, 3, 4, 3, 4, 4, 5, 3, 4, 4, 5, 4, 5, 5, 6, 2, 3, 3, 4, 3, 4, 4, 5, 3, 4, 4, 5, 4, 5, 5, 6, 3, 4, 4, 5, 4, 5, 5, 6, 4, 5, 5, 6, 5, 6, 6, 7]) (List.append [1, 2, 2, 3, 2, 3, 3, 4, 2, 3, 3, 4, 3, 4, 4, 5, 2, 3, 3, 4, 3, 4, 4, 5, 3, 4, 4, 5, 4, 5, 5, 6, 2, 3, 3, 4, 3, 4, 4, 5, 3, 4, 4, 5, 4, 5, 5, 6, 3, 4, 4, 5, 4, 5, 5, 6, 4, 5, 5, 6, 5, 6, 6, 7] [2, 3, 3, 4, 3, 4, 4, 5, 3, 4, 4, 5, 4, 5, 5, 6, 3, 4, 4, 5, 4, 5, 5, 6, 4, 5, 5, 6, 5, 6, 6, 7, 3, 4, 4, 5, 4, 5, 5, 6, 4, 5, 5, 6, 5, 6, 6, 7, 4, 5, 5, 6, 5, 6, 6, 7, 5, 6, 6, 7, 6, 7, 7, 8]))) = onesTab from rfl]
  simp only [g1, g2, g3, g4, Option.bind_some]
  have p := Pop.pop32 x
  have hm : x / 16777216 % 256 = x / 16777216 := by omega
  rw [hm] at p
  have l1 := Pop.pop_le 8 (x / 16777216)
  have l2 := Pop.pop_le 8 (x / 65536 % 256)
  have l3 := Pop.pop_le 8 (x / 256 % 256)
  have l4 := Pop.pop_le 8 (x % 256)
  rw [p]
  clear p hm g1 g2 g3 g4 e1 e2 e3 c0 c1 c2 c3
  generalize Pop.pop 8 (x / 16777216) = a at *
  generalize Pop.pop 8 (x / 65536 % 256) = b at *
  generalize Pop.pop 8 (x / 256 % 256) = c at *
  generalize Pop.pop 8 (x % 256) = d at *
  clear hx
  have q : ∀ n : Nat, n ≤ 8 → (UInt8.ofNat n).toNat = n := fun n hn => by
    rw [UInt8.toNat_ofNat']
    omega
  rw [q a l1, q b l2, q c l3, q d l4]
  simp only [wu8]
  rw [w64 (by omega) (by omega)]
  congr 1
  omega
/-- The ones among a number's lowest 32 bits; none of one below 0. -/
noncomputable def onesV (n : Int) : Int := if n < 0 then 0 else (Pop.pop 32 n.toNat : Int)
theorem onesV_nat (x : Nat) : onesV (x : Int) = (Pop.pop 32 x : Int) := by
  unfold onesV
  rw [if_neg (by omega), Int.toNat_natCast]
theorem ones_any (k : Nat) (n : Int) : m10F k n = some (onesV n) := by
  simp only [m10F, m10X]
  unfold onesV
  by_cases h : n < 0
  · rw [if_pos (ltI_pos h), if_pos h]
  · rw [if_neg (by rw [ltI_neg h]; simp), if_neg h, wu32]
    have e : n % 4294967296 = ((n.toNat % 4294967296 : Nat) : Int) := by omega
    rw [e, ones32_nat k _ (by omega), show (4294967296 : Nat) = 2 ^ 32 from rfl, Pop.pop_mod, Option.bind_some]
theorem ones_nat (k x : Nat) : m10F k (x : Int) = some (Pop.pop 32 x : Int) := by rw [ones_any, onesV_nat]
theorem pop_one (y : Nat) : Pop.pop 1 y = y % 2 := by simp [Pop.pop]
theorem refones_ar (i : Nat) (hi : i < 32) (x : Nat) : ltI (i : Int) 32 = true ∧ wr .u64 (i : Int) = (i : Int) ∧ leI 0 (i : Int) = true ∧ leI 0 (x : Int) = true ∧ min (Int.toNat (i : Int)) 64 = i ∧ wr .i64 ((i : Int) + 1) = ((i + 1 : Nat) : Int) :=
  ⟨ltI_pos (by omega), wu64 (by omega) (by omega), leI_pos (by omega), leI_pos (by omega), by omega, w64s (by omega)⟩
theorem refones_loop (k x : Nat) (hx : x < 9223372036854775808) : ∀ (n j i : Nat), i + n = 32 → n < j → m11F7 k j (x : Int) (Pop.pop i x : Int) (i : Int) = some (Pop.pop 32 x : Int) := by
  intro n
  induction n with
  | zero =>
    intro j i h hj
    obtain ⟨j, rfl⟩ : ∃ m, j = m + 1 := ⟨j - 1, by omega⟩
    obtain rfl : i = 32 := by omega
    simp only [m11F7, m11X7]
    rw [if_neg (by rw [ltI_neg (by omega)]; simp)]
  | succ n ih =>
    intro j i h hj
    obtain ⟨j, rfl⟩ : ∃ m, j = m + 1 := ⟨j - 1, by omega⟩
    have h2 := ih j (i + 1) (by omega) (by omega)
    obtain ⟨c1, c2, c3, c4, c5, c6⟩ := refones_ar i (by omega) x
    have hd : (x : Int) / p2 i = ((x / 2 ^ i : Nat) : Int) := Int.natCast_ediv x (2 ^ i)
    have hlt : x / 2 ^ i < 9223372036854775808 := Nat.lt_of_le_of_lt (Nat.div_le_self _ _) hx
    have ha := Bv.and1 (x / 2 ^ i) hlt
    have hp : Pop.pop (i + 1) x = Pop.pop i x + x / 2 ^ i % 2 := by rw [Pop.pop_add, pop_one]
    have hle := Pop.pop_le (i + 1) x
    rw [hp] at h2 hle
    generalize x / 2 ^ i % 2 = d at *
    generalize Pop.pop i x = q at *
    have w : wr .i64 ((q : Int) + (d : Int)) = ((q + d : Nat) : Int) := by
      clear hd hlt ha hp h2 c1 c2 c3 c4 c5 c6 ih
      rw [w64 (by omega) (by omega)]
      omega
    simp only [m11F7, m11X7, c1, c2, c3, c4, c5, c6, if_true, hd, ha, w]
    exact h2
theorem refones_nat (k x : Nat) (hk : 5001 ≤ k) (hx : x < 9223372036854775808) : m11F k (x : Int) = some (Pop.pop 32 x : Int) := by
  have := refones_loop k x hx 32 k 0 rfl (by omega)
  rw [show Pop.pop 0 x = 0 by simp [Pop.pop]] at this
  simp only [m11F, m11X]
  exact this
theorem refones_any (k : Nat) (hk : 5001 ≤ k) (n : Int) (h1 : n < 9223372036854775808) : m11F k n = some (onesV n) := by
  by_cases h : n < 0
  · obtain ⟨k', hk'⟩ : ∃ m, k = m + 1 := ⟨k - 1, by omega⟩
    have e : m11F k n = m11F7 k k n 0 0 := by simp only [m11F, m11X]
    rw [e]
    generalize hj : k = j
    have hj2 : k' + 1 = j := by omega
    subst hj2
    simp only [m11F7, m11X7]
    rw [if_pos (ltI_pos (by decide)), if_neg (show ¬ leI 0 n = true by rw [leI_neg (by omega)]; simp)]
    unfold onesV
    rw [if_pos h]
  · have := refones_nat k n.toNat hk (by omega)
    rw [← onesV_nat, Int.toNat_of_nonneg (by omega)] at this
    exact this
theorem ints_loop (k : Nat) (a b : List Int) (hl : a.length ≤ 5000) (he : a.length = b.length) : ∀ (ra rb pa pb : List Int) (j : Nat), a = pa ++ ra → b = pb ++ rb → pa.length = pb.length → ra.length < j →
    m16F9 k j a b (pa.length : Int) = some (decide (ra = rb)) := by
  intro ra
  induction ra with
  | nil =>
    intro rb pa pb j ha hb hp hj
    obtain ⟨j, rfl⟩ : ∃ i, j = i + 1 := ⟨j - 1, by simp only [List.length_nil] at hj; omega⟩
    have h1 : a.length = pa.length := by rw [ha]; simp
    have h2 : b.length = pb.length + rb.length := by rw [hb]; simp
    obtain rfl : rb = [] := List.eq_nil_of_length_eq_zero (by omega)
    rw [m16F9, m16X9]
    simp only [leI_eq, ltI_eq, eqI_eq, decide_eq_true_eq, if_neg (show ¬ (pa.length : Int) < (a.length : Int) by omega), decide_true]
  | cons x ra ih =>
    intro rb pa pb j ha hb hp hj
    obtain ⟨j, rfl⟩ : ∃ i, j = i + 1 := ⟨j - 1, by omega⟩
    have h1 : a.length = pa.length + (ra.length + 1) := by rw [ha]; simp
    have h2 : b.length = pb.length + rb.length := by rw [hb]; simp
    cases rb with
    | nil => simp only [List.length_nil] at h2; omega
    | cons y rb =>
      simp only [List.length_cons] at h2 hj
      have e1 : a.getD (Int.toNat (pa.length : Int)) 0 = x := by rw [ha]; exact gd_at pa ra x 0
      have e2 : b.getD (Int.toNat (pa.length : Int)) 0 = y := by rw [hb]; exact gd_at' pb rb y 0 pa.length hp.symm
      have c1 : (pa.length : Int) < (a.length : Int) := by omega
      have c2 : (0 : Int) ≤ (pa.length : Int) := by omega
      have c3 : (pa.length : Int) < (b.length : Int) := by omega
      rw [m16F9, m16X9]
      simp only [leI_eq, ltI_eq, eqI_eq, decide_eq_true_eq, if_pos c1, if_pos c2, if_pos c3, e1, e2, w64s (show pa.length < 9223372036854775807 by omega)]
      by_cases hxy : x = y
      · subst hxy
        have := ih rb (pa ++ [x]) (pb ++ [x]) j (by rw [ha]; simp) (by rw [hb]; simp) (by simp [hp]) (by omega)
        rw [List.length_append, List.length_singleton] at this
        simp only [decide_true, Bool.not_true, Bool.false_eq_true, if_false]
        rw [this]
        simp
      · simp [hxy]
theorem ints_eq' (k : Nat) (hk : 5001 ≤ k) (a b : List Int) (hl : a.length ≤ 5000) : m16F k a b = some (decide (a = b)) := by
  simp only [m16F, m16X]
  by_cases he : a.length = b.length
  · have := ints_loop k a b hl he a b [] [] k rfl rfl rfl (by omega)
    simp only [List.length_nil] at this
    simp only [he, eqI_eq, decide_true, Bool.not_true, Bool.false_eq_true, if_false]
    exact this
  · have : ¬ ((a.length : Int) = (b.length : Int)) := by omega
    have h2 : ¬ a = b := fun h => he (by rw [h])
    simp [eqI_eq, this, h2]
theorem twinInts_eq' (k : Nat) (l : List Int) (hl : l.length ≤ 5000) : m17F k l = some l := by
  simp only [m17F, m17X]
  rw [if_pos (leI_pos (by omega))]
theorem apart_eq (k : Nat) (b : List Int) (hb : b.length ≤ 4096) (size : Nat) (hs : size = 1 ∨ size = 4) : m34F k b (size : Int) = some (Try.all size b b.length, 0) := by
  unfold m34F
  rw [if_pos (by omega), if_neg (by omega), Int.toNat_natCast]
theorem apart_long (k : Nat) (b : List Int) (hb : 4096 < b.length) (size : Nat) (hs : size = 1 ∨ size = 4) : m34F k b (size : Int) = some ([], 2) := by
  unfold m34F
  rw [if_pos (by omega), if_pos hb]
theorem bits_eq (k : Nat) (b : List Int) (hb : b.length ≤ 4096) : m14F k b = some (Try.all 1 b b.length, 0) := by
  have h := apart_eq k b hb 1 (.inl rfl)
  simp only [m14F, m14X]
  rw [show ((1 : Nat) : Int) = 1 from rfl] at h
  rw [h, Option.bind_some]
theorem nibbles_eq (k : Nat) (b : List Int) (hb : b.length ≤ 4096) : m15F k b = some (Try.all 4 b b.length, 0) := by
  have h := apart_eq k b hb 4 (.inr rfl)
  simp only [m15F, m15X]
  rw [show ((4 : Nat) : Int) = 4 from rfl] at h
  rw [h, Option.bind_some]
theorem wake_all : Try.all 4 [165] 1 = [10, 5] := by decide +kernel
theorem wakes01 (k : Nat) (hk : 5001 ≤ k) : m12F k = some true := by
  have e : List.set (List.set (List.replicate 2 (0 : Int)) 0 10) 1 5 = [10, 5] := rfl
  have h1 := nibbles_eq k [165] (by decide)
  have h2 := ints_eq' k hk [10, 5] [10, 5] (by decide)
  have h3 := ones_nat k 7
  have p7 : Pop.pop 32 7 = 3 := by decide +kernel
  have e0 : ∀ z : Int, eqI z z = true := fun z => eqI_pos rfl
  rw [p7] at h3
  simp only [m12F, m12X, one_set, e]
  rw [h1]
  simp only [List.length_singleton, wake_all, Option.bind_some, e0, if_true, h2, decide_true]
  rw [show (7 : Int) = ((7 : Nat) : Int) from rfl, h3]
  simp only [Option.bind_some]
  rw [show ((3 : Nat) : Int) = 3 from rfl, e0]

end Go.Proofs.Ytmjbjlhjpdebjaa.Mini
