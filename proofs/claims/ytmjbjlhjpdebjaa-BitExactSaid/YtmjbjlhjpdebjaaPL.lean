/- What shared functions tell: plain laws. -/
import Derived.Test.YtmjbjlhjpdebjaaMF
import Derived.Test.YtmjbjlhjpdebjaaCrc
import Derived.Test.YtmjbjlhjpdebjaaBe
import Derived.Test.YtmjbjlhjpdebjaaPop
import Derived.Laws.Closers25b
set_option linter.unusedSimpArgs false
set_option linter.unusedVariables false
namespace Go.Proofs.Ytmjbjlhjpdebjaa.Mini
open Go Go.RowKit Go.Proofs
theorem w64 {n : Int} (h0 : -9223372036854775808 ≤ n) (h1 : n < 9223372036854775808) : wr .i64 n = n := by
  show wrap64 n = n
  unfold wrap64
  omega
theorem w64n {n : Nat} (h1 : n < 9223372036854775808) : wr .i64 (n : Int) = (n : Int) := w64 (by omega) (by omega)
theorem w64s {n : Nat} (h1 : n < 9223372036854775807) : wr .i64 ((n : Int) + 1) = ((n + 1 : Nat) : Int) := w64 (by omega) (by omega)
theorem wu64 {n : Int} (h0 : 0 ≤ n) (h1 : n < 18446744073709551616) : wr .u64 n = n := by
  show n % 18446744073709551616 = n
  omega
theorem wu8 (n : Int) : wr .u8 n = n % 256 := (congrArg (fun x : Int => x % 256) (Eq.refl n) : n % 256 = n % 256)
theorem wu32 (n : Int) : wr .u32 n = n % 4294967296 := (congrArg (fun x : Int => x % 4294967296) (Eq.refl n) : n % 4294967296 = n % 4294967296)
theorem gd_at {α : Type} (pre rest : List α) (x d : α) : (pre ++ x :: rest).getD (Int.toNat (pre.length : Int)) d = x := by
  rw [Int.toNat_natCast, List.getD_eq_getElem?_getD, List.getElem?_append_right (Nat.le_refl _), Nat.sub_self]
  rfl
theorem gd_at' {α : Type} (pre rest : List α) (x d : α) (n : Nat) (h : pre.length = n) : (pre ++ x :: rest).getD (Int.toNat (n : Int)) d = x := by
  subst h
  exact gd_at pre rest x d
theorem getD_nat {α : Type} (l : List α) (n : Nat) (d : α) : l.getD (Int.toNat (n : Int)) d = l.getD n d := rfl
theorem nilK_same {R : Type} {e : Bool} {a : Option R} : nilK e a a = a := by
  unfold nilK both
  cases e <;> simp
theorem nilK_of {R : Type} {e : Bool} {a b : Option R} (h : e = true → a = b) : nilK e a b = b := by
  unfold nilK both
  cases e
  · rfl
  · simp [h rfl]
theorem one_set (x d : Int) : List.set (List.replicate 1 d) 0 x = [x] := (congrArg (fun y : Int => [y]) (Eq.refl x) : [x] = [x])
theorem bytes_wf {l : List Int} (h : WfK (.row (.int .u8)) l) : ∀ c ∈ l, Crc.isByte c := fun c hc => Bv.wf_u8 (h.2 c hc)
theorem leI_pos {a b : Int} (h : a ≤ b) : leI a b = true := (leI_iff a b).2 h
theorem leI_neg {a b : Int} (h : ¬ a ≤ b) : leI a b = false := by
  rw [leI_eq]
  simpa using h
theorem ltI_pos {a b : Int} (h : a < b) : ltI a b = true := (ltI_iff a b).2 h
theorem ltI_neg {a b : Int} (h : ¬ a < b) : ltI a b = false := by
  rw [ltI_eq]
  simpa using h
theorem eqI_pos {a b : Int} (h : a = b) : eqI a b = true := (eqI_iff a b).2 h
theorem eqI_neg {a b : Int} (h : ¬ a = b) : eqI a b = false := by
  rw [eqI_eq]
  simpa using h
theorem umod0 (x : Int) (m : Nat) (hm : 0 < m) : ∃ a : Nat, a < m ∧ Int.tmod (wr .u64 x) (m : Int) = (a : Int) := by
  have h0 : 0 ≤ wr .u64 x := Int.emod_nonneg _ (by decide)
  have h1 : Int.tmod (wr .u64 x) (m : Int) = wr .u64 x % (m : Int) := Int.tmod_eq_emod_of_nonneg h0
  have h2 := Int.emod_nonneg (wr .u64 x) (show (m : Int) ≠ 0 by omega)
  have h3 := Int.emod_lt_of_pos (wr .u64 x) (show (0 : Int) < m by omega)
  refine ⟨(wr .u64 x % (m : Int)).toNat, ?_, ?_⟩
  · generalize wr .u64 x % (m : Int) = z at h2 h3
    omega
  · rw [h1]
    generalize wr .u64 x % (m : Int) = z at h2 h3
    omega

theorem clone_eq (k : Nat) (l : List Int) (h : l.length ≤ 5000) : m35F k l = some l := by
  simp only [m35F, m35X, leI_eq, decide_eq_true_eq]
  rw [nilK_of, if_pos (by omega)]
  · rfl
  · intro he
    rw [if_pos (by omega)]
    rw [List.isEmpty_iff.1 he]
    rfl

theorem twin_eq (k : Nat) (l : List Int) (h : l.length ≤ 5000) : m13F k l = some l := by
  simp only [m13F, m13X, leI_eq, decide_eq_true_eq]
  rw [if_pos (by omega)]

theorem bytes_loop (k : Nat) (a b : List Int) (hl : a.length ≤ 5000) (he : a.length = b.length) : ∀ (ra rb pa pb : List Int) (j : Nat), a = pa ++ ra → b = pb ++ rb → pa.length = pb.length → ra.length < j →
    m20F9 k j a b (pa.length : Int) = some (decide (ra = rb)) := by
  intro ra
  induction ra with
  | nil =>
    intro rb pa pb j ha hb hp hj
    obtain ⟨j, rfl⟩ : ∃ i, j = i + 1 := ⟨j - 1, by simp only [List.length_nil] at hj; omega⟩
    have h1 : a.length = pa.length := by rw [ha]; simp
    have h2 : b.length = pb.length + rb.length := by rw [hb]; simp
    obtain rfl : rb = [] := List.eq_nil_of_length_eq_zero (by omega)
    rw [m20F9, m20X9]
    simp only [leI_eq, ltI_eq, eqI_eq, decide_eq_true_eq, if_neg (show ¬ (pa.length : Int) < (a.length : Int) by omega), decide_true]
  | cons x ra ih =>
    intro rb pa pb j ha hb hp hj
    obtain ⟨j, rfl⟩ : ∃ i, j = i + 1 := ⟨j - 1, by omega⟩
    have h1 : a.length = pa.length + (ra.length + 1) := by rw [ha]; simp
    have h2 : b.length = pb.length + rb.length := by rw [hb]; simp
    cases rb with
    | nil => simp only [List.length_nil] at h2; omega
    | cons y rb =>
      simp only [List.length_cons] at h2 hj
      have e1 : a.getD (Int.toNat (pa.length : Int)) 0 = x := by rw [ha]; exact gd_at pa ra x 0
      have e2 : b.getD (Int.toNat (pa.length : Int)) 0 = y := by rw [hb]; exact gd_at' pb rb y 0 pa.length hp.symm
      have c1 : (pa.length : Int) < (a.length : Int) := by omega
      have c2 : (0 : Int) ≤ (pa.length : Int) := by omega
      have c3 : (pa.length : Int) < (b.length : Int) := by omega
      rw [m20F9, m20X9]
      simp only [leI_eq, ltI_eq, eqI_eq, decide_eq_true_eq, if_pos c1, if_pos c2, if_pos c3, e1, e2, w64s (show pa.length < 9223372036854775807 by omega)]
      by_cases hxy : x = y
      · subst hxy
        have := ih rb (pa ++ [x]) (pb ++ [x]) j (by rw [ha]; simp) (by rw [hb]; simp) (by simp [hp]) (by omega)
        rw [List.length_append, List.length_singleton] at this
        simp only [decide_true, Bool.not_true, Bool.false_eq_true, if_false]
        rw [this]
        simp
      · simp [hxy]
theorem bytes_eq' (k : Nat) (hk : 5001 ≤ k) (a b : List Int) (hl : a.length ≤ 5000) : m20F k a b = some (decide (a = b)) := by
  simp only [m20F, m20X]
  by_cases he : a.length = b.length
  · have := bytes_loop k a b hl he a b [] [] k rfl rfl rfl (by omega)
    simp only [List.length_nil] at this
    simp only [he, eqI_eq, decide_true, Bool.not_true, Bool.false_eq_true, if_false]
    exact this
  · have : ¬ ((a.length : Int) = (b.length : Int)) := by omega
    have h2 : ¬ a = b := fun h => he (by rw [h])
    simp [eqI_eq, this, h2]

/-! A number's ones. -/
noncomputable def onesTab : ByteArray := ByteArray.mk (List.toArray (List.append (List.append [0, 1, 1, 2, 1, 2, 2, 3, 1, 2, 2, 3, 2, 3, 3, 4, 1, 2, 2, 3, 2, 3, 3, 4, 2, 3, 3, 4, 3, 4, 4, 5, 1, 2, 2, 3, 2, 3, 3, 4, 2, 3, 3, 4, 3, 4, 4, 5, 2, 3, 3, 4, 3, 4, 4, 5, 3, 4, 4, 5, 4, 5, 5, 6] [1, 2, 2, 3, 2, 3, 3, 4, 2, 3, 3, 4, 3, 4, 4, 5, 2, 3, 3, 4, 3, 4, 4, 5, 3, 4, 4, 5, 4, 5, 5, 6, 2, 3, 3, 4, 3, 4, 4, 5, 3, 4, 4, 5, 4, 5, 5, 6, 3, 4, 4, 5, 4, 5, 5, 6, 4, 5, 5, 6, 5, 6, 6, 7]) (List.append [1, 2, 2, 3, 2, 3, 3, 4, 2, 3, 3, 4, 3, 4, 4, 5, 2, 3, 3, 4, 3, 4, 4, 5, 3, 4, 4, 5, 4, 5, 5, 6, 2, 3, 3, 4, 3, 4, 4, 5, 3, 4, 4, 5, 4, 5, 5, 6, 3, 4, 4, 5, 4, 5, 5, 6, 4, 5, 5, 6, 5, 6, 6, 7] [2, 3, 3, 4, 3, 4, 4, 5, 3, 4, 4, 5, 4, 5, 5, 6, 3, 4, 4, 5, 4, 5, 5, 6, 4, 5, 5, 6, 5, 6, 6, 7, 3, 4, 4, 5, 4, 5, 5, 6, 4, 5, 5, 6, 5, 6, 6, 7, 4, 5, 5, 6, 5, 6, 6, 7, 5, 6, 6, 7, 6, 7, 7, 8])))
theorem onesTab_at : ∀ i : Fin 256, onesTab[i.val]? = some (UInt8.ofNat (Pop.pop 8 i.val)) := by
  decide +kernel
theorem onesTab_nat (i : Nat) (h : i < 256) : onesTab[Int.toNat (i : Int)]? = some (UInt8.ofNat (Pop.pop 8 i)) := onesTab_at ⟨i, h⟩
theorem u32and255 (x : Nat) (h : x < 4294967296) : bits .and .u32 (x : Int) 255 = ((x % 256 : Nat) : Int) := by
  have := u32_and_nat x 255 h (by decide)
  rw [show (255 : Nat) = 2 ^ 8 - 1 from rfl, Nat.and_two_pow_sub_one_eq_mod] at this
  exact this
theorem ones32_nat (k x : Nat) (hx : x < 4294967296) : m33F k (x : Int) = some (Pop.pop 32 x : Int) := by
  have ar : ((x : Int) / 16777216 = ((x / 16777216 : Nat) : Int)) ∧ ((x : Int) / 65536 = ((x / 65536 : Nat) : Int)) ∧ ((x : Int) / 256 = ((x / 256 : Nat) : Int)) := ⟨by omega, by omega, by omega⟩
  obtain ⟨e1, e2, e3⟩ := ar
  have c0 : ∀ n : Nat, leI 0 (n : Int) = true := fun n => leI_pos (by omega)
  have c1 : leI 0 24 = true := leI_pos (by decide)
  have c2 : leI 0 16 = true := leI_pos (by decide)
  have c3 : leI 0 8 = true := leI_pos (by decide)
  have g1 := onesTab_nat (x / 16777216) (by omega)
  have g2 := onesTab_nat (x / 65536 % 256) (by omega)
  have g3 := onesTab_nat (x / 256 % 256) (by omega)
  have g4 := onesTab_nat (x % 256) (by omega)
  simp only [m33F, m33X, e1, e2, e3, c1, c2, c3, u32and255 _ (show x / 65536 < 4294967296 by omega), u32and255 _ (show x / 256 < 4294967296 by omega), u32and255 _ hx, c0, if_true]
  rw [show ByteArray.mk (List.toArray (List.append (List.append [0, 1, 1, 2, 1, 2, 2, 3, 1, 2, 2, 3, 2, 3, 3, 4, 1, 2, 2, 3, 2, 3, 3, 4, 2, 3, 3, 4, 3, 4, 4, 5, 1, 2, 2, 3, 2, 3, 3, 4, 2, 3, 3, 4, 3, 4, 4, 5, 2, 3, 3, 4, 3, 4, 4, 5, 3, 4, 4, 5, 4, 5, 5, 6] [1, 2, 2, 3, 2, 3, 3, 4, 2, 3, 3, 4, 3, 4, 4, 5, 2, 3, 3, 4, 3, 4, 4, 5, 3, 4, 4, 5, 4, 5, 5, 6, 2, 3, 3, 4, 3, 4, 4, 5, 3, 4, 4, 5, 4, 5, 5, 6, 3, 4, 4, 5, 4, 5, 5, 6, 4, 5, 5, 6, 5, 6, 6, 7]) (List.append [1, 2, 2, 3, 2, 3, 3, 4, 2, 3, 3, 4, 3, 4, 4, 5, 2, 3, 3, 4, 3, 4, 4, 5, 3, 4, 4, 5, 4, 5, 5, 6, 2, 3, 3, 4, 3, 4, 4, 5, 3, 4, 4, 5, 4, 5, 5, 6, 3, 4, 4, 5, 4, 5, 5, 6, 4, 5, 5, 6, 5, 6, 6, 7] [2, 3, 3, 4, 3, 4, 4, 5, 3, 4, 4, 5, 4, 5, 5, 6, 3, 4, 4, 5, 4, 5, 5, 6, 4, 5, 5, 6, 5, 6, 6, 7, 3, 4, 4, 5, 4, 5, 5, 6, 4, 5, 5, 6, 5, 6, 6, 7, 4, 5, 5, 6, 5, 6, 6, 7, 5, 6, 6, 7, 6, 7, 7, 8]))) = onesTab from rfl]
  simp only [g1, g2, g3, g4, Option.bind_some]
  have p := Pop.pop32 x
  have hm : x / 16777216 % 256 = x / 16777216 := by omega
  rw [hm] at p
  have l1 := Pop.pop_le 8 (x / 16777216)
  have l2 := Pop.pop_le 8 (x / 65536 % 256)
  have l3 := Pop.pop_le 8 (x / 256 % 256)
  have l4 := Pop.pop_le 8 (x % 256)
  rw [p]
  clear p hm g1 g2 g3 g4 e1 e2 e3 c0 c1 c2 c3
  generalize Pop.pop 8 (x / 16777216) = a at *
  generalize Pop.pop 8 (x / 65536 % 256) = b at *
  generalize Pop.pop 8 (x / 256 % 256) = c at *
  generalize Pop.pop 8 (x % 256) = d at *
  clear hx
  have q : ∀ n : Nat, n ≤ 8 → (UInt8.ofNat n).toNat = n := fun n hn => by
    rw [UInt8.toNat_ofNat']
    omega
  rw [q a l1, q b l2, q c l3, q d l4]
  simp only [wu8]
  rw [w64 (by omega) (by omega)]
  congr 1
  omega
/-- The ones among a number's lowest 32 bits; none of one below 0. -/
noncomputable def onesV (n : Int) : Int := if n < 0 then 0 else (Pop.pop 32 n.toNat : Int)
theorem onesV_nat (x : Nat) : onesV (x : Int) = (Pop.pop 32 x : Int) := by
  unfold onesV
  rw [if_neg (by omega), Int.toNat_natCast]
theorem ones_any (k : Nat) (n : Int) : m10F k n = some (onesV n) := by
  simp only [m10F, m10X]
  unfold onesV
  by_cases h : n < 0
  · rw [if_pos (ltI_pos h), if_pos h]
  · rw [if_neg (by rw [ltI_neg h]; simp), if_neg h, wu32]
    have e : n % 4294967296 = ((n.toNat % 4294967296 : Nat) : Int) := by omega
    rw [e, ones32_nat k _ (by omega), show (4294967296 : Nat) = 2 ^ 32 from rfl, Pop.pop_mod, Option.bind_some]
theorem ones_nat (k x : Nat) : m10F k (x : Int) = some (Pop.pop 32 x : Int) := by rw [ones_any, onesV_nat]
theorem pop_one (y : Nat) : Pop.pop 1 y = y % 2 := by simp [Pop.pop]
theorem refones_ar (i : Nat) (hi : i < 32) (x : Nat) : ltI (i : Int) 32 = true ∧ wr .u64 (i : Int) = (i : Int) ∧ leI 0 (i : Int) = true ∧ leI 0 (x : Int) = true ∧ min (Int.toNat (i : Int)) 64 = i ∧ wr .i64 ((i : Int) + 1) = ((i + 1 : Nat) : Int) :=
  ⟨ltI_pos (by omega), wu64 (by omega) (by omega), leI_pos (by omega), leI_pos (by omega), by omega, w64s (by omega)⟩
theorem ints_loop (k : Nat) (a b : List Int) (hl : a.length ≤ 5000) (he : a.length = b.length) : ∀ (ra rb pa pb : List Int) (j : Nat), a = pa ++ ra → b = pb ++ rb → pa.length = pb.length → ra.length < j →
    m16F9 k j a b (pa.length : Int) = some (decide (ra = rb)) := by
  intro ra
  induction ra with
  | nil =>
    intro rb pa pb j ha hb hp hj
    obtain ⟨j, rfl⟩ : ∃ i, j = i + 1 := ⟨j - 1, by simp only [List.length_nil] at hj; omega⟩
    have h1 : a.length = pa.length := by rw [ha]; simp
    have h2 : b.length = pb.length + rb.length := by rw [hb]; simp
    obtain rfl : rb = [] := List.eq_nil_of_length_eq_zero (by omega)
    rw [m16F9, m16X9]
    simp only [leI_eq, ltI_eq, eqI_eq, decide_eq_true_eq, if_neg (show ¬ (pa.length : Int) < (a.length : Int) by omega), decide_true]
  | cons x ra ih =>
    intro rb pa pb j ha hb hp hj
    obtain ⟨j, rfl⟩ : ∃ i, j = i + 1 := ⟨j - 1, by omega⟩
    have h1 : a.length = pa.length + (ra.length + 1) := by rw [ha]; simp
    have h2 : b.length = pb.length + rb.length := by rw [hb]; simp
    cases rb with
    | nil => simp only [List.length_nil] at h2; omega
    | cons y rb =>
      simp only [List.length_cons] at h2 hj
      have e1 : a.getD (Int.toNat (pa.length : Int)) 0 = x := by rw [ha]; exact gd_at pa ra x 0
      have e2 : b.getD (Int.toNat (pa.length : Int)) 0 = y := by rw [hb]; exact gd_at' pb rb y 0 pa.length hp.symm
      have c1 : (pa.length : Int) < (a.length : Int) := by omega
      have c2 : (0 : Int) ≤ (pa.length : Int) := by omega
      have c3 : (pa.length : Int) < (b.length : Int) := by omega
      rw [m16F9, m16X9]
      simp only [leI_eq, ltI_eq, eqI_eq, decide_eq_true_eq, if_pos c1, if_pos c2, if_pos c3, e1, e2, w64s (show pa.length < 9223372036854775807 by omega)]
      by_cases hxy : x = y
      · subst hxy
        have := ih rb (pa ++ [x]) (pb ++ [x]) j (by rw [ha]; simp) (by rw [hb]; simp) (by simp [hp]) (by omega)
        rw [List.length_append, List.length_singleton] at this
        simp only [decide_true, Bool.not_true, Bool.false_eq_true, if_false]
        rw [this]
        simp
      · simp [hxy]
theorem ints_eq' (k : Nat) (hk : 5001 ≤ k) (a b : List Int) (hl : a.length ≤ 5000) : m16F k a b = some (decide (a = b)) := by
  simp only [m16F, m16X]
  by_cases he : a.length = b.length
  · have := ints_loop k a b hl he a b [] [] k rfl rfl rfl (by omega)
    simp only [List.length_nil] at this
    simp only [he, eqI_eq, decide_true, Bool.not_true, Bool.false_eq_true, if_false]
    exact this
  · have : ¬ ((a.length : Int) = (b.length : Int)) := by omega
    have h2 : ¬ a = b := fun h => he (by rw [h])
    simp [eqI_eq, this, h2]
theorem twinInts_eq' (k : Nat) (l : List Int) (hl : l.length ≤ 5000) : m17F k l = some l := by
  simp only [m17F, m17X]
  rw [if_pos (leI_pos (by omega))]

open Bv in
theorem shr_u8 (c j : Nat) (hj : j < 8) : (c : Int) / p2 (min (Int.toNat (wr .u64 (j : Int))) 8) = ((c / 2 ^ j : Nat) : Int) := by
  rw [wu64 (by omega) (by omega), Int.toNat_natCast, Nat.min_eq_left (by omega)]
  unfold p2
  exact (Int.natCast_ediv ..).symm

/-! A text's bits, the page's. -/
def bitsB (l : List Int) : List Int := l.flatMap (fun c => (Crc.bitsOf c.toNat).map (fun b : Nat => (b : Int)))
theorem bitsB_nil : bitsB [] = [] := rfl
theorem bitsB_cons (c : Int) (l : List Int) : bitsB (c :: l) = (Crc.bitsOf c.toNat).map (fun b : Nat => (b : Int)) ++ bitsB l := rfl
theorem bitsB_app (l m : List Int) : bitsB (l ++ m) = bitsB l ++ bitsB m := List.flatMap_append ..
theorem bitsB_length (l : List Int) : (bitsB l).length = 8 * l.length := by
  induction l with
  | nil => rfl
  | cons c l ih =>
    rw [bitsB_cons, List.length_append, ih, List.length_cons]
    have : ((Crc.bitsOf c.toNat).map (fun b : Nat => (b : Int))).length = 8 := by simp [Crc.bitsOf]
    omega
theorem bitsB_eq (l : List Int) : bitsB l = (l.flatMap (fun c => Crc.bitsOf c.toNat)).map (fun b : Nat => (b : Int)) := by
  unfold bitsB
  rw [List.map_flatMap]
theorem bitsB_lt (l : List Int) : ∀ b ∈ l.flatMap (fun c => Crc.bitsOf c.toNat), b < 2 := by
  intro b hb'
  obtain ⟨c, _, hc⟩ := List.mem_flatMap.1 hb'
  unfold Crc.bitsOf at hc
  obtain ⟨j, _, rfl⟩ := List.mem_map.1 hc
  omega
theorem rb_ar (n j len : Nat) (hj : j < 8) (hn : n < len) (hl : len ≤ 4096) : wr .i64 (8 * (len : Int)) = ((8 * len : Nat) : Int) ∧ ltI ((8 * n + j : Nat) : Int) ((8 * len : Nat) : Int) = true ∧ wr .i64 (Int.tdiv ((8 * n + j : Nat) : Int) 8) = (n : Int) ∧ leI 0 (n : Int) = true ∧ ltI (n : Int) (len : Int) = true ∧
    wr .i64 (7 - Int.tmod ((8 * n + j : Nat) : Int) 8) = ((7 - j : Nat) : Int) ∧ wr .i64 (((8 * n + j : Nat) : Int) + 1) = ((8 * n + (j + 1) : Nat) : Int) ∧ leI (((8 * n + j + 1) * 8 : Nat) : Int) 140737488355328 = true ∧ leI 0 (wr .u64 ((7 - j : Nat) : Int)) = true := by
  refine ⟨by rw [w64 (by omega) (by omega)]; omega, ltI_pos (by omega), ?_, leI_pos (by omega), ltI_pos (by omega), ?_, by rw [w64 (by omega) (by omega)]; omega, leI_pos (by omega), ?_⟩
  · rw [Int.tdiv_eq_ediv_of_nonneg (by omega), w64 (by omega) (by omega)]
    omega
  · rw [Int.tmod_eq_emod_of_nonneg (by omega), w64 (by omega) (by omega)]
    omega
  · rw [wu64 (by omega) (by omega)]
    exact leI_pos (by omega)
theorem refbits_inner (k : Nat) (l : List Int) (n c : Nat) (hl : l.length ≤ 4096) (hc : c < 256) (hn : n < l.length) (hr : l.getD n 0 = (c : Int)) (X : Option (List Int)) : ∀ (d j m : Nat) (acc : List Int), j + d = 8 → acc.length = 8 * n + j →
    m26F7 k m l ((8 * n + 8 : Nat) : Int) (acc ++ ((List.range' j d).map (fun j => c / 2 ^ (7 - j) % 2)).map (fun b : Nat => (b : Int))) = X →
    m26F7 k (m + d) l ((8 * n + j : Nat) : Int) acc = X := by
  intro d
  induction d with
  | zero =>
    intro j m acc hj _ R
    obtain rfl : j = 8 := by omega
    simpa using R
  | succ d ih =>
    intro j m acc hj ha R
    rw [List.range'_succ, List.map_cons, List.map_cons] at R
    have e8 : (!eqI 8 0) = true := by rw [eqI_neg (by decide)]; rfl
    have hd : c / 2 ^ (7 - j) ≤ c := Nat.div_le_self _ _
    have hd2 : c / 2 ^ (7 - j) < 9223372036854775808 := by omega
    have hs := shr_u8 c (7 - j) (by omega)
    have h1 : j + 1 + d = 8 := by omega
    have h2 : (acc ++ [((c / 2 ^ (7 - j) % 2 : Nat) : Int)]).length = 8 * n + (j + 1) := by rw [List.length_append, List.length_singleton]; omega
    obtain ⟨a1, a2, a3, a4, a5, a6, a7, a8, a9⟩ := rb_ar n j l.length (by omega) hn hl
    have ew := w64n hd2
    have e1 := Bv.and1 (c / 2 ^ (7 - j)) hd2
    rw [show m + (d + 1) = (m + d) + 1 from rfl, m26F7, m26X7]
    simp only [a1, a2, a3, a4, a5, a6, a7, a9, if_true, e8, Int.toNat_natCast, hr, hs, ew, e1, one_set, List.length_singleton, ha, a8]
    refine ih (j + 1) m _ h1 h2 ?_
    rw [List.append_assoc]
    exact R
open Crc in
theorem refbits_loop (k : Nat) (l : List Int) (hl : l.length ≤ 4096) : ∀ (rest pre : List Int) (m : Nat), l = pre ++ rest → (∀ c ∈ rest, isByte c) → 8 * rest.length < m →
    m26F7 k m l ((8 * pre.length : Nat) : Int) (bitsB pre) = some (bitsB l) := by
  intro rest
  induction rest with
  | nil =>
    intro pre m h _ hm
    obtain ⟨m, rfl⟩ : ∃ x, m = x + 1 := ⟨m - 1, by omega⟩
    rw [List.append_nil] at h
    subst h
    have w8 : wr .i64 (8 * (l.length : Int)) = ((8 * l.length : Nat) : Int) := by rw [w64 (by omega) (by omega)]; omega
    rw [m26F7, m26X7, w8, if_neg (by rw [ltI_neg (by omega)]; simp)]
  | cons c rest ih =>
    intro pre m h hb hm
    have hlen : l.length = pre.length + (rest.length + 1) := by rw [h]; simp
    obtain ⟨h0, h1⟩ := hb c (by simp)
    have hp : l.getD pre.length 0 = ((c.toNat : Nat) : Int) := by
      have := gd_at pre rest c 0
      rw [Int.toNat_natCast] at this
      rw [h, this]
      omega
    rw [List.length_cons] at hm
    obtain ⟨m, rfl⟩ : ∃ x, m = x + 8 := ⟨m - 8, by omega⟩
    refine refbits_inner k l pre.length c.toNat hl (by omega) (by omega) hp _ 8 0 m (bitsB pre) rfl (by rw [bitsB_length, Nat.add_zero]) ?_
    have e : bitsB (pre ++ [c]) = bitsB pre ++ ((List.range' 0 8).map (fun j => c.toNat / 2 ^ (7 - j) % 2)).map (fun b : Nat => (b : Int)) := by
      unfold bitsB bitsOf
      rw [List.flatMap_append]
      simp
    have := ih (pre ++ [c]) m (by rw [h]; simp) (fun y hy => hb y (by simp [hy])) (by omega)
    rw [e, List.length_append, List.length_singleton, Nat.mul_add, Nat.mul_one] at this
    exact this
open Crc in
theorem refbits_eq (k : Nat) (l : List Int) (hl : l.length ≤ 4096) (hk : 8 * l.length < k) (hb : ∀ c ∈ l, isByte c) : m26F k l = some (bitsB l) := by
  simp only [m26F, m26X]
  exact refbits_loop k l hl l [] k rfl hb hk

/-! Texts taken apart, and put together. -/
theorem gcons_of {X : Type} {x : X} {a b : Option (List X)} {l : List X} (ha : a = some l) (hb : b = some []) : gcons x a b = some (x :: l) := by
  subst ha
  subst hb
  rfl
theorem uncH_nil {X R : Type} (a : Option R) (f : X → Option R) : uncH [] a f = a := rfl
theorem uncH_cons {X R : Type} (x : X) (l : List X) (a : Option R) (f : X → Option R) : uncH (x :: l) a f = f x := rfl
def dn (s c : Nat) : Nat → List Int
  | 0 => []
  | m + 1 => ((c / 2 ^ (s * m) % 2 ^ s : Nat) : Int) :: dn s c m
theorem dn_len (s c : Nat) : ∀ m, (dn s c m).length = m
  | 0 => rfl
  | m + 1 => by rw [dn, List.length_cons, dn_len]
theorem p2_nat (m : Nat) (h : m ≤ 64) : p2 (min (Int.toNat (m : Int)) 64) = ((2 ^ m : Nat) : Int) := by
  unfold p2
  rw [Int.toNat_natCast, Nat.min_eq_left h]
  rfl
theorem mask_of (s : Nat) (hs : s = 1 ∨ s = 4) : wr .i64 (wr .i64 (1 * p2 (min (Int.toNat (s : Int)) 64)) - 1) = ((2 ^ s - 1 : Nat) : Int) := by
  rcases hs with rfl | rfl <;> decide +kernel
theorem part_at (s c t : Nat) (hs : s = 1 ∨ s = 4) (hc : c < 256) (ht : t ≤ 8) : bits .and .i64 (wr .i64 (c : Int) / p2 (min (Int.toNat (t : Int)) 64)) (wr .i64 (wr .i64 (1 * p2 (min (Int.toNat (s : Int)) 64)) - 1)) = ((c / 2 ^ t % 2 ^ s : Nat) : Int) := by
  rw [mask_of s hs, w64n (by omega), p2_nat t (by omega), ← Int.natCast_ediv]
  have hd : c / 2 ^ t ≤ c := Nat.div_le_self _ _
  generalize c / 2 ^ t = d at hd
  rw [Bv.andN d (2 ^ s - 1) (by omega) (by rcases hs with rfl | rfl <;> decide), Nat.and_two_pow_sub_one_eq_mod]
theorem in_ar (s m : Nat) (hs : s = 1 ∨ s = 4) (hm : m + 1 ≤ 8) : ((s * (m + 1) : Nat) : Int) - (s : Int) = ((s * m : Nat) : Int) ∧ leI 0 ((s * m : Nat) : Int) = true ∧ leI 0 (s : Int) = true ∧ wr .i64 (((s * m : Nat) : Int) - (s : Int)) = ((s * m : Nat) : Int) - (s : Int) := by
  have h1 : s * m ≤ 4 * 7 := Nat.mul_le_mul (by omega) (by omega)
  refine ⟨?_, leI_pos (by omega), leI_pos (by omega), w64 (by omega) (by omega)⟩
  rw [Nat.mul_add, Nat.mul_one]
  omega
theorem parts_inner (k : Nat) (L3 : Int → List Int → Int → Int → Option (List Int)) (s c : Nat) (hs : s = 1 ∨ s = 4) (hc : c < 256) (l : List Int) (n i : Int) (r : List Int) (hr : L3 s l n (wr .i64 (i + 1)) = some r) : ∀ (m j : Nat), m < j → s * m ≤ 8 →
    m42F9 k L3 j (s : Int) (c : Int) (((s * m : Nat) : Int) - (s : Int)) l n i = some (dn s c m ++ r) := by
  intro m
  induction m with
  | zero =>
    intro j hj _
    obtain ⟨j, rfl⟩ : ∃ x, j = x + 1 := ⟨j - 1, by omega⟩
    rw [m42F9, m42X9, if_neg (by rw [leI_neg (by omega)]; simp), hr]
    rfl
  | succ m ih =>
    intro j hj hm
    obtain ⟨j, rfl⟩ : ∃ x, j = x + 1 := ⟨j - 1, by omega⟩
    have hm' : s * m ≤ 8 := Nat.le_trans (Nat.mul_le_mul_left s (Nat.le_succ m)) hm
    have hm8 : m + 1 ≤ 8 := by rcases hs with rfl | rfl <;> omega
    obtain ⟨e1, e2, e3, e4⟩ := in_ar s m hs hm8
    have h1 := ih j (by omega) hm'
    have h2 := part_at s c (s * m) hs hc hm'
    rw [e1, m42F9, m42X9]
    simp only [e2, e3, if_true]
    rw [h2, e4, gcons_of h1 rfl]
    rfl
theorem parts_eq (k : Nat) (s : Nat) (hs : s = 1 ∨ s = 4) (l : List Int) (hl : l.length ≤ 4096) (hk : 9 ≤ k) (hkl : l.length < k) (hb : ∀ c ∈ l, Crc.isByte c) : m42F k l (s : Int) = some (l.flatMap fun c => dn s c.toNat (8 / s)) := by
  have main : ∀ (rest pre : List Int) (j : Nat), l = pre ++ rest → rest.length < j → m42F3 k j (s : Int) l (l.length : Int) (pre.length : Int) = some (rest.flatMap fun c => dn s c.toNat (8 / s)) := by
    intro rest
    induction rest with
    | nil =>
      intro pre j h hj
      obtain ⟨j, rfl⟩ : ∃ x, j = x + 1 := ⟨j - 1, by omega⟩
      rw [List.append_nil] at h
      subst h
      rw [m42F3, m42X3, if_neg (by rw [ltI_neg (by omega)]; simp)]
      rfl
    | cons c rest ih =>
      intro pre j h hj
      rw [List.length_cons] at hj
      obtain ⟨j, rfl⟩ : ∃ x, j = x + 1 := ⟨j - 1, by omega⟩
      have hlen : l.length = pre.length + (rest.length + 1) := by rw [h]; simp
      obtain ⟨h0, h1⟩ := hb c (by rw [h]; simp)
      have h2 := ih (pre ++ [c]) j (by rw [h]; simp) (by omega)
      rw [List.length_append, List.length_singleton] at h2
      have hg : l.getD (Int.toNat (pre.length : Int)) 0 = ((c.toNat : Nat) : Int) := by rw [h, gd_at]; omega
      have e8 : wr .i64 (8 - (s : Int)) = ((s * (8 / s) : Nat) : Int) - (s : Int) := by rcases hs with rfl | rfl <;> decide +kernel
      have e9 : s * (8 / s) ≤ 8 := Nat.mul_div_le _ _
      have e10 : 8 / s ≤ 8 := Nat.div_le_self _ _
      rw [m42F3, m42X3, if_pos (ltI_pos (by omega)), if_pos (leI_pos (by omega)), if_pos (ltI_pos (by omega)), hg, e8]
      rw [parts_inner k _ s c.toNat hs (by omega) l _ _ _ (by rw [w64s (by omega)]; exact h2) (8 / s) k (by omega) e9]
      rfl
  have := main l [] k rfl hkl
  unfold m42F m42X
  exact this
theorem apart_loop (k : Nat) : ∀ (l acc : List Int) (t : Int), (acc.length + l.length) * 8 ≤ 140737488355328 → m34F13 k l t acc = some (acc ++ l, 0) := by
  intro l
  induction l with
  | nil =>
    intro acc t _
    rw [m34F13, m34X13, uncH_nil, m34F14, m34X14, List.append_nil]
  | cons x l ih =>
    intro acc t h
    rw [List.length_cons] at h
    rw [m34F13, m34X13, uncH_cons, one_set, if_pos (leI_pos (by rw [List.length_singleton]; omega)), ih _ _ (by rw [List.length_append, List.length_singleton]; omega), List.append_assoc]
    rfl
theorem apart_eq (k : Nat) (s : Nat) (hs : s = 1 ∨ s = 4) (l : List Int) (hl : l.length ≤ 4096) (hk : 9 ≤ k) (hkl : l.length < k) (hb : ∀ c ∈ l, Crc.isByte c) : m34F k l (s : Int) = some (l.flatMap fun c => dn s c.toNat (8 / s), 0) := by
  unfold m34F m34X
  have hlen : (l.flatMap fun c => dn s c.toNat (8 / s)).length ≤ 40000 := by
    rw [List.length_flatMap]
    have : (l.map fun c => (dn s c.toNat (8 / s)).length) = List.replicate l.length (8 / s) := by
      apply List.ext_getElem
      · simp
      · intro i _ _
        simp [dn_len]
    rw [this]
    have e10 : 8 / s ≤ 8 := Nat.div_le_self _ _
    simp only [List.sum_replicate_nat]
    have := Nat.mul_le_mul hl e10
    omega
  rw [if_neg (by rw [ltI_neg (by omega)]; simp), parts_eq k s hs l hl hk hkl hb, Option.bind_some, apart_loop k _ [] 0 (by rw [List.length_nil]; omega)]
  rfl
theorem apart_long (k : Nat) (s : Int) (l : List Int) (hl : 4096 < l.length) : m34F k l s = some ([], 2) := by
  unfold m34F m34X
  rw [if_pos (ltI_pos (by omega))]
def nibB (l : List Int) : List Int := l.flatMap fun c => [c / 16, c % 16]
theorem dn1 (c : Nat) : dn 1 c 8 = (Crc.bitsOf c).map (fun b : Nat => (b : Int)) := rfl
theorem dn4 (c : Int) (h0 : 0 ≤ c) (h1 : c ≤ 255) : dn 4 c.toNat 2 = [c / 16, c % 16] := by
  have e : dn 4 c.toNat 2 = [((c.toNat / 16 % 16 : Nat) : Int), ((c.toNat / 1 % 16 : Nat) : Int)] := rfl
  rw [e, Nat.div_one]
  congr 1
  · omega
  · congr 1
    omega
theorem bits_eq (k : Nat) (l : List Int) (hl : l.length ≤ 4096) (hk : 9 ≤ k) (hkl : l.length < k) (hb : ∀ c ∈ l, Crc.isByte c) : m14F k l = some (bitsB l, 0) := by
  have h := apart_eq k 1 (.inl rfl) l hl hk hkl hb
  rw [show ((1 : Nat) : Int) = 1 from rfl] at h
  simp only [m14F, m14X]
  rw [h, Option.bind_some]
  rfl
theorem nibbles_eq (k : Nat) (l : List Int) (hl : l.length ≤ 4096) (hk : 9 ≤ k) (hkl : l.length < k) (hb : ∀ c ∈ l, Crc.isByte c) : m15F k l = some (nibB l, 0) := by
  have h := apart_eq k 4 (.inr rfl) l hl hk hkl hb
  rw [show ((4 : Nat) : Int) = 4 from rfl] at h
  have e : (l.flatMap fun c => dn 4 c.toNat (8 / 4)) = nibB l := by
    unfold nibB
    clear h hl hkl
    induction l with
    | nil => rfl
    | cons c l ih =>
      obtain ⟨h0, h1⟩ := hb c (by simp)
      rw [List.flatMap_cons, List.flatMap_cons, ih fun y hy => hb y (by simp [hy]), show 8 / 4 = 2 from rfl, dn4 c h0 (by omega)]
  rw [e] at h
  simp only [m15F, m15X]
  rw [h, Option.bind_some]
theorem nibB_len (l : List Int) : (nibB l).length = 2 * l.length := by
  induction l with
  | nil => rfl
  | cons c l ih =>
    show ([c / 16, c % 16] ++ nibB l).length = _
    rw [List.length_append, ih, List.length_cons]
    simp
    omega

/-! Texts put together. -/
def okS (s : Nat) (x : Int) : Prop := 0 ≤ x ∧ x < ((2 ^ s : Nat) : Int)
instance (s : Nat) (x : Int) : Decidable (okS s x) := inferInstanceAs (Decidable (_ ∧ _))
theorem bad_eq (k s : Nat) (hs : s = 1 ∨ s = 4) (x : Int) : m40F k x (s : Int) = some (decide (¬ okS s x)) := by
  have e : wr .i64 (1 * p2 (min (Int.toNat (s : Int)) 64)) = ((2 ^ s : Nat) : Int) := by rcases hs with rfl | rfl <;> decide +kernel
  simp only [m40F, m40X, e]
  unfold okS
  by_cases h0 : x < 0
  · rw [if_pos (ltI_pos h0), decide_eq_true (by omega)]
  · rw [if_neg (by rw [ltI_neg h0]; simp), if_pos (leI_pos (by omega)), leI_eq]
    congr 1
    exact decide_eq_decide.2 ⟨fun h1 h2 => by omega, fun h1 => Int.not_lt.1 fun h2 => h1 ⟨by omega, h2⟩⟩
theorem bad_loop (k s : Nat) (hs : s = 1 ∨ s = 4) (l : List Int) (hl : l.length ≤ 40000) : ∀ (rest pre : List Int) (j : Nat), l = pre ++ rest → rest.length < j →
    ∃ r, m43c40F5 k j l (s : Int) (l.length : Int) (pre.length : Int) = some r ∧ leI 0 r = decide (∃ x ∈ rest, ¬ okS s x) := by
  intro rest
  induction rest with
  | nil =>
    intro pre j h hj
    obtain ⟨j, rfl⟩ : ∃ x, j = x + 1 := ⟨j - 1, by omega⟩
    rw [List.append_nil] at h
    subst h
    refine ⟨-1, ?_, ?_⟩
    · rw [m43c40F5, m43c40X5, if_neg (by rw [ltI_neg (by omega)]; simp)]
    · rw [leI_neg (by omega), decide_eq_false]
      rintro ⟨x, hx, _⟩
      cases hx
  | cons c rest ih =>
    intro pre j h hj
    rw [List.length_cons] at hj
    obtain ⟨j, rfl⟩ : ∃ x, j = x + 1 := ⟨j - 1, by omega⟩
    have hlen : l.length = pre.length + (rest.length + 1) := by rw [h]; simp
    obtain ⟨r, h1, h2⟩ := ih (pre ++ [c]) j (by rw [h]; simp) (by omega)
    rw [List.length_append, List.length_singleton] at h1
    have hg : l.getD (Int.toNat (pre.length : Int)) 0 = c := by rw [h, gd_at]
    rw [m43c40F5, m43c40X5, if_pos (ltI_pos (by omega)), if_pos (leI_pos (by omega)), if_pos (ltI_pos (by omega)), hg, bad_eq k s hs, Option.bind_some, w64s (by omega), h1]
    by_cases hc : okS s c
    · refine ⟨r, by rw [decide_eq_false (fun h => h hc)]; rfl, ?_⟩
      rw [h2]
      refine decide_eq_decide.2 ⟨fun ⟨x, hx, hb⟩ => ⟨x, by simp [hx], hb⟩, fun ⟨x, hx, hb⟩ => ?_⟩
      rcases List.mem_cons.1 hx with rfl | hx
      · exact absurd hc hb
      · exact ⟨x, hx, hb⟩
    · refine ⟨(pre.length : Int), by rw [decide_eq_true hc, if_pos rfl], ?_⟩
      rw [leI_pos (by omega), decide_eq_true ⟨c, by simp, hc⟩]
theorem contains_eq (k s : Nat) (hs : s = 1 ∨ s = 4) (l : List Int) (hl : l.length ≤ 40000) (hk : l.length < k) : m39c40F k l (s : Int) = some (decide (∃ x ∈ l, ¬ okS s x)) := by
  obtain ⟨r, h1, h2⟩ := bad_loop k s hs l hl l [] k rfl hk
  have h3 : m43c40F k l (s : Int) = some r := h1
  simp only [m39c40F, m39c40X]
  rw [h3, Option.bind_some, h2]
def chn (q : Nat) : Nat → List Int → List (List Int)
  | 0, _ => []
  | n + 1, l => l.take q :: chn q n (l.drop q)
theorem chn_len (q : Nat) : ∀ (n : Nat) (l : List Int), (chn q n l).length = n
  | 0, _ => rfl
  | n + 1, l => by rw [chn, List.length_cons, chn_len]
theorem chn_rows (q : Nat) : ∀ (n : Nat) (l : List Int), l.length = q * n → ∀ row ∈ chn q n l, row.length = q ∧ ∀ x ∈ row, x ∈ l
  | 0, _, _, row, h => by cases h
  | n + 1, l, hl, row, h => by
    rw [Nat.mul_add, Nat.mul_one] at hl
    rcases List.mem_cons.1 h with rfl | h
    · exact ⟨by rw [List.length_take]; omega, fun x hx => List.mem_of_mem_take hx⟩
    · obtain ⟨h1, h2⟩ := chn_rows q n (l.drop q) (by rw [List.length_drop]; omega) row h
      exact ⟨h1, fun x hx => List.mem_of_mem_drop (h2 x hx)⟩
theorem chn_flat {q : Nat} {f : Int → List Int} : ∀ (b : List Int), (∀ c ∈ b, (f c).length = q) → chn q b.length (b.flatMap f) = b.map f
  | [], _ => rfl
  | c :: b, h => by
    have hc := h c (by simp)
    rw [List.length_cons, List.flatMap_cons, List.map_cons, chn, ← hc, List.take_left, List.drop_left, hc, chn_flat b fun y hy => h y (by simp [hy])]
theorem chunk_ar (q i d n : Nat) (hq : 1 ≤ q) (hq8 : q ≤ 8) (h : i + (d + 1) = n) (hn : q * n ≤ 40000) : q * i < q * n ∧ q * i + q = q * (i + 1) ∧ q * (i + 1) ≤ q * n ∧ q * n - q * i = q * (d + 1) ∧ q ≤ q * (d + 1) := by
  have h1 : q * n = q * i + q * (d + 1) := by rw [← h, Nat.mul_add]
  have h2 : q ≤ q * (d + 1) := Nat.le_mul_of_pos_right q (by omega)
  have h3 : q * (i + 1) = q * i + q := by rw [Nat.mul_add, Nat.mul_one]
  exact ⟨by omega, h3.symm, by omega, by omega, h2⟩
theorem chunk_ar2 (q i d n : Nat) (hq : 1 ≤ q) (hq8 : q ≤ 8) (h : i + (d + 1) = n) (hn : q * n ≤ 40000) : wr .i64 (((q * i : Nat) : Int) + (q : Int)) = ((q * (i + 1) : Nat) : Int) ∧ ltI ((q * i : Nat) : Int) ((q * n : Nat) : Int) = true ∧ leI 0 ((q * i : Nat) : Int) = true ∧ leI ((q * i : Nat) : Int) ((q * n : Nat) : Int) = true ∧ leI 0 ((q * (i + 1) : Nat) : Int) = true ∧
    leI ((q * (i + 1) : Nat) : Int) ((q * n : Nat) : Int) = true ∧ leI ((q * (i + 1) : Nat) : Int) ((q * (i + 1) : Nat) : Int) = true ∧ leI ((q * i : Nat) : Int) ((q * (i + 1) : Nat) : Int) = true ∧ mn (q : Int) ((q * n - q * i : Nat) : Int) = (q : Int) ∧ q * (i + 1) - q * i = q := by
  obtain ⟨a1, a2, a3, a4, a5⟩ := chunk_ar q i d n hq hq8 h hn
  have hm : mn (q : Int) ((q * n - q * i : Nat) : Int) = (q : Int) := by
    unfold mn
    rw [a4, if_neg (by omega)]
  generalize q * i = x at *
  generalize q * n = y at *
  generalize q * (i + 1) = z at *
  exact ⟨by rw [w64 (by omega) (by omega)]; omega, ltI_pos (by omega), leI_pos (by omega), leI_pos (by omega), leI_pos (by omega), leI_pos (by omega), leI_pos (by omega), leI_pos (by omega), hm, by omega⟩
theorem chunk_eq (k q n : Nat) (hq : 1 ≤ q) (hq8 : q ≤ 8) (l : List Int) (hl : l.length = q * n) (hn : q * n ≤ 40000) (hk : n < k) : m46F k l (q : Int) = some (chn q n l) := by
  have main : ∀ (d i j : Nat), i + d = n → d < j → m46F3 k j l (q : Int) ((q * i : Nat) : Int) = some (chn q d (l.drop (q * i))) := by
    intro d
    induction d with
    | zero =>
      intro i j h hj
      obtain ⟨j, rfl⟩ : ∃ x, j = x + 1 := ⟨j - 1, by omega⟩
      obtain rfl : i = n := by omega
      rw [m46F3, m46X3, if_neg (by rw [ltI_neg (by omega)]; simp)]
      rfl
    | succ d ih =>
      intro i j h hj
      obtain ⟨j, rfl⟩ : ∃ x, j = x + 1 := ⟨j - 1, by omega⟩
      obtain ⟨_, a2, _, _, _⟩ := chunk_ar q i d n hq hq8 h hn
      obtain ⟨hw, c1, c2, c3, c4, c5, c6, c7, hm, e9⟩ := chunk_ar2 q i d n hq hq8 h hn
      have h2 := ih (i + 1) j (by omega) (by omega)
      have hlen : (List.drop (q * i) l).length = q * n - q * i := by rw [List.length_drop, hl]
      rw [m46F3, m46X3]
      simp only [hlen, hm, hw, hl, c1, c2, c3, c4, c5, c6, c7, if_true, Int.toNat_natCast]
      rw [gcons_of h2 rfl, chn, List.drop_take, List.drop_drop, e9, a2]
  have := main n 0 k (by omega) hk
  unfold m46F m46X
  rw [Nat.mul_zero] at this
  exact this
/-- A byte out of its parts. -/
def pk (s : Nat) (row : List Int) : Int := row.foldl (fun c x => c * ((2 ^ s : Nat) : Int) + x) 0
theorem or_add64 (a x s : Nat) (hx : x < 2 ^ s) (h : a * 2 ^ s + x < 9223372036854775808) : bits .or .i64 ((a * 2 ^ s : Nat) : Int) (x : Int) = ((a * 2 ^ s + x : Nat) : Int) := by
  rw [Be.orN _ _ (by omega) (by omega), Nat.mul_comm a, ← Nat.two_pow_add_eq_or_of_lt hx a]
theorem pk_step (s c x m : Nat) (hc : c < 2 ^ (s * m)) (hx : x < 2 ^ s) : c * 2 ^ s + x < 2 ^ (s * (m + 1)) := by
  rw [Nat.mul_add, Nat.mul_one, Nat.pow_add]
  have : (c + 1) * 2 ^ s ≤ 2 ^ (s * m) * 2 ^ s := Nat.mul_le_mul_right _ hc
  rw [Nat.add_mul, Nat.one_mul] at this
  omega
theorem wi_ar (s c xn p r n : Nat) (hs : s = 1 ∨ s = 4) (hr : s * n ≤ 8) (hlen : n = p + (r + 1)) (hc : c < 2 ^ (s * p)) (hx : xn < 2 ^ s) : c * 2 ^ s + xn < 2 ^ (s * (p + 1)) ∧ ltI (p : Int) (n : Int) = true ∧ leI 0 (p : Int) = true ∧ leI 0 (s : Int) = true ∧ wr .i64 ((c : Int) * p2 (min (Int.toNat (s : Int)) 64)) = ((c * 2 ^ s : Nat) : Int) ∧
    bits .or .i64 ((c * 2 ^ s : Nat) : Int) (xn : Int) = ((c * 2 ^ s + xn : Nat) : Int) ∧ wr .i64 ((p : Int) + 1) = ((p + 1 : Nat) : Int) := by
  have hst := pk_step s c xn p hc hx
  have h8 : 2 ^ (s * (p + 1)) ≤ 2 ^ 8 := Nat.pow_le_pow_right (by decide) (Nat.le_trans (Nat.mul_le_mul_left s (by omega)) hr)
  have hr8 : n ≤ 8 := by rcases hs with rfl | rfl <;> omega
  have hlt : c * 2 ^ s + xn < 256 := Nat.lt_of_lt_of_le hst h8
  refine ⟨hst, ltI_pos (by omega), leI_pos (by omega), leI_pos (by omega), ?_, or_add64 c xn s hx (by omega), w64s (by omega)⟩
  rw [p2_nat s (by omega), ← Int.natCast_mul, w64n (by omega)]
theorem whole_inner (k s : Nat) (hs : s = 1 ∨ s = 4) (L7 : Int → Option (List Int)) (h7 : Int) (row : List Int) (hr : s * row.length ≤ 8) (hb : ∀ x ∈ row, okS s x) : ∀ (rest pre : List Int) (c j : Nat), row = pre ++ rest → c < 2 ^ (s * pre.length) → rest.length < j →
    ∃ c' : Nat, c' < 2 ^ (s * row.length) ∧ (c' : Int) = rest.foldl (fun c x => c * ((2 ^ s : Nat) : Int) + x) (c : Int) ∧ m44F11 k L7 h7 j (s : Int) (c : Int) row (row.length : Int) (pre.length : Int) = m44F18 k L7 h7 (c' : Int) := by
  intro rest
  induction rest with
  | nil =>
    intro pre c j h hc hj
    cases j with
    | zero => exact absurd hj (Nat.not_lt_zero _)
    | succ j =>
      rw [List.append_nil] at h
      subst h
      refine ⟨c, hc, rfl, ?_⟩
      rw [m44F11, m44X11, if_neg (by rw [ltI_neg (Int.lt_irrefl _)]; simp)]
  | cons x rest ih =>
    intro pre c j h hc hj
    rw [List.length_cons] at hj
    cases j with
    | zero => exact absurd hj (Nat.not_lt_zero _)
    | succ j =>
      have hlen : row.length = pre.length + (rest.length + 1) := by rw [h]; simp
      obtain ⟨h0, h1⟩ := hb x (by rw [h]; simp)
      obtain ⟨xn, rfl⟩ : ∃ n : Nat, x = n := ⟨x.toNat, (Int.toNat_of_nonneg h0).symm⟩
      have hx : xn < 2 ^ s := Int.ofNat_lt.1 h1
      obtain ⟨hst, c1, c2, c3, e1, e2, e3⟩ := wi_ar s c xn pre.length rest.length row.length hs hr hlen hc hx
      have hl1 : (pre ++ [(xn : Int)]).length = pre.length + 1 := by simp
      obtain ⟨c', k1, k2, k3⟩ := ih (pre ++ [(xn : Int)]) (c * 2 ^ s + xn) j (by rw [h]; simp) (by rw [hl1]; exact hst) (Nat.lt_of_succ_lt_succ hj)
      rw [hl1] at k3
      have hg : row.getD (Int.toNat (pre.length : Int)) 0 = (xn : Int) := by rw [h, gd_at]
      refine ⟨c', k1, ?_, ?_⟩
      · rw [k2, List.foldl_cons, Int.natCast_add, Int.natCast_mul]
      · rw [m44F11, m44X11]
        rw [if_pos c1, if_pos c2, if_pos c1, if_pos c3, hg, e1, e2, e3]
        exact k3
theorem whole_loop (k s : Nat) (hs : s = 1 ∨ s = 4) (hk : 9 ≤ k) : ∀ (rows : List (List Int)), (∀ row ∈ rows, s * row.length = 8 ∧ ∀ x ∈ row, okS s x) → m44F7 k rows (s : Int) = some (rows.map (pk s)) := by
  intro rows
  induction rows with
  | nil =>
    intro _
    rw [m44F7, m44X7, uncH_nil]
    rfl
  | cons row rows ih =>
    intro h
    obtain ⟨h1, h2⟩ := h row (by simp)
    have h3 := ih fun r hr => h r (by simp [hr])
    have hr8 : row.length ≤ 8 := by rcases hs with rfl | rfl <;> omega
    obtain ⟨c', k1, k2, k3⟩ := whole_inner k s hs (m44F7 k rows) (s : Int) row (by omega) h2 row [] 0 k rfl (by simp) (by omega)
    rw [h1] at k1
    rw [m44F7, m44X7, uncH_cons]
    refine Eq.trans k3 ?_
    have e : wr .u8 (c' : Int) = pk s row := by
      rw [wu8]
      have : pk s row = (c' : Int) := k2.symm
      rw [this]
      have : c' < 256 := k1
      omega
    rw [m44F18, m44X18, gcons_of h3 rfl, e]
    rfl
theorem together_loop (k : Nat) : ∀ (l acc : List Int) (t : Int), (acc.length + l.length) * 1 ≤ 140737488355328 → m36F17 k l t acc = some (acc ++ l, 0) := by
  intro l
  induction l with
  | nil =>
    intro acc t _
    rw [m36F17, m36X17, uncH_nil, m36F18, m36X18, List.append_nil]
  | cons x l ih =>
    intro acc t h
    rw [List.length_cons] at h
    rw [m36F17, m36X17, uncH_cons, one_set, if_pos (leI_pos (by rw [List.length_singleton]; omega)), ih _ _ (by rw [List.length_append, List.length_singleton]; omega), List.append_assoc]
    rfl
theorem div8 (s : Nat) (hs : s = 1 ∨ s = 4) : wr .i64 (Int.tdiv 8 (s : Int)) = ((8 / s : Nat) : Int) ∧ (!eqI (s : Int) 0) = true ∧ (!eqI ((8 / s : Nat) : Int) 0) = true ∧ s * (8 / s) = 8 ∧ 1 ≤ 8 / s ∧ 8 / s ≤ 8 := by
  refine ⟨by rcases hs with rfl | rfl <;> decide +kernel, by rw [eqI_neg (by omega)]; rfl, by rw [eqI_neg (by rcases hs with rfl | rfl <;> decide)]; rfl, ?_, ?_, ?_⟩ <;> rcases hs with rfl | rfl <;> decide
theorem tmod_nat (a b : Nat) : Int.tmod (a : Int) (b : Int) = ((a % b : Nat) : Int) := by
  rw [Int.tmod_eq_emod_of_nonneg (by omega), Int.natCast_emod]
theorem together_eq (k s n : Nat) (hs : s = 1 ∨ s = 4) (l : List Int) (hl : l.length = (8 / s) * n) (h32 : l.length ≤ 32768) (hk : 9 ≤ k) (hkl : l.length < k) (hb : ∀ x ∈ l, okS s x) : m36F k l (s : Int) = some ((chn (8 / s) n l).map (pk s), 0) := by
  obtain ⟨d1, d2, d3, d4, d5, d6⟩ := div8 s hs
  have hn : n ≤ l.length := by rw [hl]; exact Nat.le_mul_of_pos_left n (by omega)
  have hc := contains_eq k s hs l (by omega) hkl
  rw [decide_eq_false (fun ⟨x, hx, hx2⟩ => hx2 (hb x hx))] at hc
  have hch := chunk_eq k (8 / s) n d5 d6 l hl (by omega) (by omega)
  have hw : m44F k l (s : Int) = some ((chn (8 / s) n l).map (pk s)) := by
    simp only [m44F, m44X, d1, d2, if_true]
    rw [if_neg (by rw [ltI_neg (by omega)]; simp), hch, Option.bind_some]
    refine whole_loop k s hs hk _ fun row hrow => ?_
    obtain ⟨h1, h2⟩ := chn_rows (8 / s) n l hl row hrow
    exact ⟨by rw [h1]; exact d4, fun x hx => hb x (h2 x hx)⟩
  have hm : (!eqI (Int.tmod (l.length : Int) ((8 / s : Nat) : Int)) 0) = false := by
    rw [tmod_nat, hl, Nat.mul_mod_right, eqI_pos (by simp)]
    rfl
  simp only [m36F, m36X, d1, d2, d3, if_true, hm, Bool.false_eq_true, if_false]
  rw [if_neg (by rw [ltI_neg (by omega)]; simp), hc, Option.bind_some, if_neg (by simp), hw, Option.bind_some, together_loop k _ [] 0 (by rw [List.length_map, chn_len, List.length_nil]; omega)]
  rfl
theorem together_len (k s : Nat) (hs : s = 1 ∨ s = 4) (l : List Int) (h : 32768 < l.length ∨ l.length % (8 / s) ≠ 0) : m36F k l (s : Int) = some ([], 2) := by
  obtain ⟨d1, d2, d3, d4, d5, d6⟩ := div8 s hs
  simp only [m36F, m36X, d1, d2, d3, if_true]
  by_cases h1 : 32768 < l.length
  · rw [if_pos (ltI_pos (by omega))]
  · rw [if_neg (by rw [ltI_neg (by omega)]; simp), tmod_nat, if_pos]
    rw [eqI_neg (by have := h.resolve_left h1; omega)]
    rfl
theorem together_bad (k s : Nat) (hs : s = 1 ∨ s = 4) (l : List Int) (h32 : l.length ≤ 32768) (hm : l.length % (8 / s) = 0) (hkl : l.length < k) (hb : ∃ x ∈ l, ¬ okS s x) : m36F k l (s : Int) = some ([], 1) := by
  obtain ⟨d1, d2, d3, d4, d5, d6⟩ := div8 s hs
  have hc := contains_eq k s hs l (by omega) hkl
  rw [decide_eq_true hb] at hc
  have hm' : (!eqI (Int.tmod (l.length : Int) ((8 / s : Nat) : Int)) 0) = false := by
    rw [tmod_nat, hm, eqI_pos (by simp)]
    rfl
  simp only [m36F, m36X, d1, d2, d3, if_true, hm', Bool.false_eq_true, if_false]
  rw [if_neg (by rw [ltI_neg (by omega)]; simp), hc, Option.bind_some, if_pos rfl]
theorem pack_of (k : Nat) (l : List Int) (r : List Int × Int) (h : m36F k l ((1 : Nat) : Int) = some r) : m29F k l = some r := by
  rw [show ((1 : Nat) : Int) = 1 from rfl] at h
  simp only [m29F, m29X]
  rw [h, Option.bind_some]
theorem join_of (k : Nat) (l : List Int) (r : List Int × Int) (h : m36F k l ((4 : Nat) : Int) = some r) : m31F k l = some r := by
  rw [show ((4 : Nat) : Int) = 4 from rfl] at h
  simp only [m31F, m31X]
  rw [h, Option.bind_some]
theorem pk_bits : ∀ c : Fin 256, pk 1 ((Crc.bitsOf c.val).map (fun b : Nat => (b : Int))) = (c.val : Int) := by decide +kernel
theorem bitsOf_ok (c : Nat) : ((Crc.bitsOf c).map (fun b : Nat => (b : Int))).length = 8 ∧ ∀ x ∈ (Crc.bitsOf c).map (fun b : Nat => (b : Int)), okS 1 x := by
  refine ⟨by simp [Crc.bitsOf], fun x hx => ?_⟩
  obtain ⟨b, hb, rfl⟩ := List.mem_map.1 hx
  unfold Crc.bitsOf at hb
  obtain ⟨j, _, rfl⟩ := List.mem_map.1 hb
  unfold okS
  omega
theorem bitsB_ok (b : List Int) : ∀ x ∈ bitsB b, okS 1 x := fun x hx => by
  obtain ⟨c, _, hc⟩ := List.mem_flatMap.1 hx
  exact (bitsOf_ok c.toNat).2 x hc
theorem nibB_ok (b : List Int) (hb : ∀ c ∈ b, Crc.isByte c) : ∀ x ∈ nibB b, okS 4 x := fun x hx => by
  obtain ⟨c, h, hc⟩ := List.mem_flatMap.1 hx
  obtain ⟨h0, h1⟩ := hb c h
  unfold okS
  simp only [List.mem_cons, List.not_mem_nil, or_false] at hc
  rcases hc with rfl | rfl <;> constructor <;> omega
theorem pack_bits (k : Nat) (b : List Int) (hl : b.length ≤ 4096) (hk : 9 ≤ k) (hkl : 8 * b.length < k) (hb : ∀ c ∈ b, Crc.isByte c) : m29F k (bitsB b) = some (b, 0) := by
  refine pack_of k _ _ ?_
  have h := together_eq k 1 b.length (.inl rfl) (bitsB b) (by rw [bitsB_length]) (by rw [bitsB_length]; omega) hk (by rw [bitsB_length]; omega) (bitsB_ok b)
  rw [h, show 8 / 1 = 8 from rfl, show chn 8 b.length (bitsB b) = b.map fun c => (Crc.bitsOf c.toNat).map (fun b : Nat => (b : Int)) from chn_flat b fun c _ => (bitsOf_ok c.toNat).1, List.map_map]
  congr 2
  conv => rhs; rw [← List.map_id b]
  refine List.map_congr_left fun c hc => ?_
  obtain ⟨h0, h1⟩ := hb c hc
  have := pk_bits ⟨c.toNat, by omega⟩
  show pk 1 ((Crc.bitsOf c.toNat).map (fun b : Nat => (b : Int))) = c
  rw [this]
  show ((c.toNat : Nat) : Int) = c
  omega
theorem join_nibs (k : Nat) (b : List Int) (hl : b.length ≤ 4096) (hk : 9 ≤ k) (hkl : 2 * b.length < k) (hb : ∀ c ∈ b, Crc.isByte c) : m31F k (nibB b) = some (b, 0) := by
  refine join_of k _ _ ?_
  have h := together_eq k 4 b.length (.inr rfl) (nibB b) (by rw [nibB_len]) (by rw [nibB_len]; omega) hk (by rw [nibB_len]; omega) (nibB_ok b hb)
  rw [h, show 8 / 4 = 2 from rfl, show chn 2 b.length (nibB b) = b.map fun c => [c / 16, c % 16] from chn_flat b fun c _ => rfl, List.map_map]
  congr 2
  conv => rhs; rw [← List.map_id b]
  refine List.map_congr_left fun c hc => ?_
  show (0 * ((2 ^ 4 : Nat) : Int) + c / 16) * ((2 ^ 4 : Nat) : Int) + c % 16 = c
  have : ((2 ^ 4 : Nat) : Int) = 16 := rfl
  rw [this]
  omega

/-! The page's side of what is put together. -/
theorem within_loop (k : Nat) (hi : Int) (l : List Int) (hl : l.length ≤ 40000) : ∀ (rest pre : List Int) (j : Nat), l = pre ++ rest → rest.length < j →
    m37F5 k j l 0 hi (pre.length : Int) = some (decide (∀ x ∈ rest, 0 ≤ x ∧ x ≤ hi)) := by
  intro rest
  induction rest with
  | nil =>
    intro pre j h hj
    obtain ⟨j, rfl⟩ : ∃ x, j = x + 1 := ⟨j - 1, by omega⟩
    rw [List.append_nil] at h
    subst h
    rw [m37F5, m37X5, if_neg (by rw [ltI_neg (by omega)]; simp), decide_eq_true (fun x hx => by cases hx)]
  | cons c rest ih =>
    intro pre j h hj
    rw [List.length_cons] at hj
    obtain ⟨j, rfl⟩ : ∃ x, j = x + 1 := ⟨j - 1, by omega⟩
    have hlen : l.length = pre.length + (rest.length + 1) := by rw [h]; simp
    have h1 := ih (pre ++ [c]) j (by rw [h]; simp) (by omega)
    rw [List.length_append, List.length_singleton] at h1
    have hg : l.getD (Int.toNat (pre.length : Int)) 0 = c := by rw [h, gd_at]
    rw [m37F5, m37X5, if_pos (ltI_pos (by omega)), if_pos (leI_pos (by omega)), if_pos (ltI_pos (by omega)), hg]
    by_cases h0 : c < 0
    · rw [if_pos (ltI_pos h0), decide_eq_false]
      intro hx
      have := (hx c (by simp)).1
      omega
    · rw [if_neg (by rw [ltI_neg h0]; simp), if_pos (leI_pos (by omega)), if_pos (ltI_pos (by omega))]
      by_cases h2 : hi < c
      · rw [if_pos (ltI_pos h2), decide_eq_false]
        intro hx
        have := (hx c (by simp)).2
        omega
      · rw [if_neg (by rw [ltI_neg h2]; simp), w64s (by omega), h1]
        congr 1
        refine decide_eq_decide.2 ⟨fun hx x hm => ?_, fun hx x hm => hx x (by simp [hm])⟩
        rcases List.mem_cons.1 hm with rfl | hm
        · exact ⟨by omega, by omega⟩
        · exact hx x hm
theorem within_eq (k s : Nat) (hs : s = 1 ∨ s = 4) (l : List Int) (hl : l.length ≤ 40000) (hk : l.length < k) : m37F k l 0 ((2 ^ s - 1 : Nat) : Int) = some (decide (¬ ∃ x ∈ l, ¬ okS s x)) := by
  have h := within_loop k ((2 ^ s - 1 : Nat) : Int) l hl l [] k rfl hk
  unfold m37F m37X
  refine Eq.trans h (congrArg some (decide_eq_decide.2 ⟨fun hx ⟨x, hm, hb⟩ => hb ?_, fun hx x hm => ?_⟩))
  · obtain ⟨h0, h1⟩ := hx x hm
    refine ⟨h0, ?_⟩
    rcases hs with rfl | rfl
    · have : ((2 ^ 1 - 1 : Nat) : Int) = 1 := rfl
      have : ((2 ^ 1 : Nat) : Int) = 2 := rfl
      omega
    · have : ((2 ^ 4 - 1 : Nat) : Int) = 15 := rfl
      have : ((2 ^ 4 : Nat) : Int) = 16 := rfl
      omega
  · have : okS s x := Decidable.not_not.1 fun hn => hx ⟨x, hm, hn⟩
    obtain ⟨h0, h1⟩ := this
    refine ⟨h0, ?_⟩
    rcases hs with rfl | rfl
    · have : ((2 ^ 1 - 1 : Nat) : Int) = 1 := rfl
      have : ((2 ^ 1 : Nat) : Int) = 2 := rfl
      omega
    · have : ((2 ^ 4 - 1 : Nat) : Int) = 15 := rfl
      have : ((2 ^ 4 : Nat) : Int) = 16 := rfl
      omega
theorem set_at {α : Type} (D Z : List α) (v x : α) (a : Nat) (h : D.length = a) : List.set (D ++ v :: Z) a x = D ++ x :: Z := by
  subst h
  rw [List.set_append_right _ _ (Nat.le_refl _), Nat.sub_self]
  rfl
theorem u8or (v b : Nat) (hb : b < 2) (h : v * 2 + b < 256) : bits .or .u8 (wr .u8 ((v : Int) * 2)) (wr .u8 (b : Int)) = ((v * 2 + b : Nat) : Int) := by
  have key : ∀ v : Fin 128, ∀ b : Fin 2, bits .or .u8 (wr .u8 (((v.val : Nat) : Int) * 2)) (wr .u8 ((b.val : Nat) : Int)) = ((v.val * 2 + b.val : Nat) : Int) := by decide +kernel
  exact key ⟨v, by omega⟩ ⟨b, hb⟩
theorem rp_inner_ar (a i n : Nat) (hi : i < 8) (hn : 8 * a + 8 ≤ 8 * n) (h : n ≤ 4096) : ltI ((8 * a + i : Nat) : Int) ((8 * n : Nat) : Int) = true ∧ (!eqI 8 0) = true ∧ wr .i64 (Int.tdiv ((8 * a + i : Nat) : Int) 8) = (a : Int) ∧ leI 0 (a : Int) = true ∧ ltI (a : Int) (n : Int) = true ∧ leI 0 1 = true ∧ leI 0 ((8 * a + i : Nat) : Int) = true ∧ wr .i64 (((8 * a + i : Nat) : Int) + 1) = ((8 * a + (i + 1) : Nat) : Int) := by
  refine ⟨ltI_pos (by omega), by rw [eqI_neg (by decide)]; rfl, ?_, leI_pos (by omega), ltI_pos (by omega), leI_pos (by decide), leI_pos (by omega), by rw [w64 (by omega) (by omega)]; omega⟩
  rw [Int.tdiv_eq_ediv_of_nonneg (by omega), w64 (by omega) (by omega)]
  omega
theorem refpack_inner (k n a : Nat) (h4 : n ≤ 4096) (ha : 8 * a + 8 ≤ 8 * n) (l L1 : List Int) (row L2 D Z : List Int) (hl : l.length = 8 * n) (hD : D.length = a) (hDZ : D.length + (1 + Z.length) = n) (h1 : L1.length = 8 * a) (hr : row.length = 8) (hrow : l = L1 ++ (row ++ L2)) (hb : ∀ x ∈ row, okS 1 x) : ∀ (rest pre : List Int) (v j : Nat), row = pre ++ rest → v < 2 ^ pre.length →
    ∃ v' : Nat, v' < 256 ∧ (v' : Int) = rest.foldl (fun c x => c * ((2 ^ 1 : Nat) : Int) + x) (v : Int) ∧ m30F15 k (j + rest.length) l ((8 * a + pre.length : Nat) : Int) (D ++ (v : Int) :: Z) = m30F15 k j l ((8 * (a + 1) : Nat) : Int) (D ++ (v' : Int) :: Z) := by
  intro rest
  induction rest with
  | nil =>
    intro pre v j h hv
    rw [List.append_nil] at h
    subst h
    refine ⟨v, by rw [hr] at hv; exact hv, rfl, ?_⟩
    rw [hr]
    rfl
  | cons x rest ih =>
    intro pre v j h hv
    have hlen : pre.length + (rest.length + 1) = 8 := by rw [← hr, h]; simp
    have hp8 : pre.length < 8 := by omega
    obtain ⟨h0, h1'⟩ := hb x (by rw [h]; simp)
    obtain ⟨xn, rfl⟩ : ∃ m : Nat, x = m := ⟨x.toNat, (Int.toNat_of_nonneg h0).symm⟩
    have hx : xn < 2 := Int.ofNat_lt.1 h1'
    have hst : v * 2 + xn < 2 ^ (pre.length + 1) := by
      rw [Nat.pow_succ]
      generalize 2 ^ pre.length = q at hv
      omega
    have h256 : v * 2 + xn < 256 := Nat.lt_of_lt_of_le hst (Nat.pow_le_pow_right (by decide) (by omega) : 2 ^ (pre.length + 1) ≤ 2 ^ 8)
    have hl1 : (pre ++ [(xn : Int)]).length = pre.length + 1 := by simp
    obtain ⟨v', k1, k2, k3⟩ := ih (pre ++ [(xn : Int)]) (v * 2 + xn) j (by rw [h]; simp) (by rw [hl1]; exact hst)
    rw [hl1] at k3
    refine ⟨v', k1, ?_, ?_⟩
    · rw [k2, List.foldl_cons]
      rfl
    · obtain ⟨c1, c2, c3, c4, c5, c6, c7, c8⟩ := rp_inner_ar a pre.length n hp8 ha h4
      have hbl : (D ++ (v : Int) :: Z).length = n := by rw [List.length_append, List.length_cons, ← hDZ]; omega
      have hg : l.getD (8 * a + pre.length) 0 = (xn : Int) := by
        rw [hrow, h, List.append_assoc, ← List.append_assoc L1 pre, List.cons_append, List.getD_eq_getElem?_getD, List.getElem?_append_right (by rw [List.length_append, h1]; exact Nat.le_refl _), List.length_append, h1, Nat.sub_self]
        rfl
      have hgd : (D ++ (v : Int) :: Z).getD a 0 = (v : Int) := by
        rw [List.getD_eq_getElem?_getD, List.getElem?_append_right (by rw [hD]; exact Nat.le_refl _), hD, Nat.sub_self]
        rfl
      rw [List.length_cons, show j + (rest.length + 1) = (j + rest.length) + 1 from rfl, m30F15, m30X15]
      simp only [hl, hbl, c1, c2, c3, c4, c5, c6, c7, c8, if_true, Int.toNat_natCast, hg, hgd, u8or v xn hx h256, set_at D Z _ _ a hD]
      exact k3
theorem refpack_loop (k n : Nat) (h4 : n ≤ 4096) (l : List Int) (hl : l.length = 8 * n) (hb : ∀ x ∈ l, okS 1 x) : ∀ (d a j : Nat) (L1 L2 D : List Int), a + d = n → l = L1 ++ L2 → L1.length = 8 * a → D.length = a →
    m30F15 k (j + 1 + 8 * d) l ((8 * a : Nat) : Int) (D ++ List.replicate d 0) = some (D ++ (chn 8 d L2).map (pk 1), 0) := by
  intro d
  induction d with
  | zero =>
    intro a j L1 L2 D h _ _ _
    obtain rfl : a = n := by omega
    rw [Nat.mul_zero, Nat.add_zero, m30F15, m30X15, if_neg (by rw [hl, ltI_neg (by omega)]; simp), m30F20, m30X20]
    rfl
  | succ d ih =>
    intro a j L1 L2 D h hL h1 hD
    have hL2 : L2.length = 8 * (d + 1) := by
      have := congrArg List.length hL
      rw [List.length_append, hl, h1] at this
      omega
    have hrow : (L2.take 8).length = 8 := by rw [List.length_take]; omega
    have hsplit : l = L1 ++ (L2.take 8 ++ L2.drop 8) := by rw [List.take_append_drop]; exact hL
    obtain ⟨v', k1, k2, k3⟩ := refpack_inner k n a h4 (by omega) l L1 (L2.take 8) (L2.drop 8) D (List.replicate d 0) hl hD (by rw [List.length_replicate]; omega) h1 hrow hsplit (fun x hx => hb x (by rw [hL]; exact List.mem_append.2 (.inr (List.mem_of_mem_take hx)))) (L2.take 8) [] 0 (j + 1 + 8 * d) rfl (by simp)
    rw [hrow, List.length_nil, Nat.add_zero] at k3
    have h5 := ih (a + 1) j (L1 ++ L2.take 8) (L2.drop 8) (D ++ [(v' : Int)]) (by omega) (by rw [List.append_assoc, List.take_append_drop]; exact hL) (by rw [List.length_append, hrow, h1]; omega) (by rw [List.length_append, hD]; rfl)
    rw [List.append_assoc] at h5
    have e : pk 1 (L2.take 8) = (v' : Int) := k2.symm
    rw [show j + 1 + 8 * (d + 1) = j + 1 + 8 * d + 8 by omega, List.replicate_succ]
    refine Eq.trans k3 (Eq.trans h5 ?_)
    rw [chn, List.map_cons, e, List.append_assoc]
    rfl
theorem refpack_eq (k n : Nat) (h4 : n ≤ 4096) (l : List Int) (hl : l.length = 8 * n) (hk : 8 * n < k) (hb : ∀ x ∈ l, okS 1 x) : m30F k l = some ((chn 8 n l).map (pk 1), 0) := by
  have e8 : (!eqI 8 0) = true := by rw [eqI_neg (by decide)]; rfl
  have hw := within_eq k 1 (.inl rfl) l (by omega) (by omega)
  rw [show (decide (¬ ∃ x ∈ l, ¬ okS 1 x)) = true by (rw [decide_eq_true_eq]; exact fun ⟨x, hx, h⟩ => h (hb x hx)), show ((2 ^ 1 - 1 : Nat) : Int) = 1 from rfl] at hw
  have hm : (!eqI (Int.tmod (l.length : Int) 8) 0) = false := by
    rw [show (8 : Int) = ((8 : Nat) : Int) from rfl, tmod_nat, hl, Nat.mul_mod_right, eqI_pos (by simp)]
    rfl
  have hd : wr .i64 (Int.tdiv (l.length : Int) 8) = (n : Int) := by
    rw [Int.tdiv_eq_ediv_of_nonneg (by omega), w64 (by omega) (by omega)]
    omega
  have c1 : leI 0 (n : Int) = true := leI_pos (by omega)
  have c2 : leI (n : Int) (n : Int) = true := leI_pos (by omega)
  have c3 : leI ((n : Int) * 1) 140737488355328 = true := leI_pos (by omega)
  have c4 : leI (n : Int) 9223372036854775807 = true := leI_pos (by omega)
  have c0 : ¬ (ltI 32768 (l.length : Int) = true) := by rw [ltI_neg (by omega)]; simp
  have h := refpack_loop k n h4 l hl hb n 0 (k - 1 - 8 * n) [] l [] (by omega) rfl rfl rfl
  rw [show k - 1 - 8 * n + 1 + 8 * n = k by omega] at h
  simp only [m30F, m30X]
  rw [if_neg c0]
  simp only [e8, if_true, hm, Bool.false_eq_true, if_false, hw, Option.bind_some, Bool.not_true, hd, c1, c2, c3, c4, Int.toNat_natCast]
  exact h
theorem refpack_bad (k : Nat) (l : List Int) (hl : l.length ≤ 32768) (hm : l.length % 8 = 0) (hk : l.length < k) (hb : ∃ x ∈ l, ¬ okS 1 x) : m30F k l = some ([], 1) := by
  have e8 : (!eqI 8 0) = true := by rw [eqI_neg (by decide)]; rfl
  have hw := within_eq k 1 (.inl rfl) l (by omega) hk
  rw [show (decide (¬ ∃ x ∈ l, ¬ okS 1 x)) = false by (rw [decide_eq_false_iff_not]; exact fun h => h hb), show ((2 ^ 1 - 1 : Nat) : Int) = 1 from rfl] at hw
  have hm' : (!eqI (Int.tmod (l.length : Int) 8) 0) = false := by
    rw [show (8 : Int) = ((8 : Nat) : Int) from rfl, tmod_nat, hm, eqI_pos (by simp)]
    rfl
  have c0 : ¬ (ltI 32768 (l.length : Int) = true) := by rw [ltI_neg (by omega)]; simp
  simp only [m30F, m30X]
  rw [if_neg c0]
  simp only [e8, if_true, hm', Bool.false_eq_true, if_false, hw, Option.bind_some, Bool.not_false]
theorem refpack_len (k : Nat) (l : List Int) (h : 32768 < l.length ∨ l.length % 8 ≠ 0) : m30F k l = some ([], 2) := by
  have e8 : (!eqI 8 0) = true := by rw [eqI_neg (by decide)]; rfl
  simp only [m30F, m30X]
  by_cases h1 : 32768 < l.length
  · rw [if_pos (ltI_pos (by omega))]
  · rw [if_neg (by rw [ltI_neg (by omega)]; simp), if_pos e8, show (8 : Int) = ((8 : Nat) : Int) from rfl, tmod_nat, if_pos]
    rw [eqI_neg (by have := h.resolve_left h1; omega)]
    rfl
theorem rj_ar (a n : Nat) (h : 2 * a + 2 ≤ 2 * n) (hn : n ≤ 20000) : ltI ((2 * a : Nat) : Int) ((2 * n : Nat) : Int) = true ∧ leI 0 ((2 * a : Nat) : Int) = true ∧ leI 0 4 = true ∧ wr .i64 (((2 * a : Nat) : Int) + 1) = ((2 * a + 1 : Nat) : Int) ∧ leI 0 ((2 * a + 1 : Nat) : Int) = true ∧ ltI ((2 * a + 1 : Nat) : Int) ((2 * n : Nat) : Int) = true ∧ wr .i64 (((2 * a : Nat) : Int) + 2) = ((2 * (a + 1) : Nat) : Int) ∧
    leI (((a + 1) * 1 : Nat) : Int) 140737488355328 = true :=
  ⟨ltI_pos (by omega), leI_pos (by omega), leI_pos (by decide), by rw [w64 (by omega) (by omega)]; omega, leI_pos (by omega), ltI_pos (by omega), by rw [w64 (by omega) (by omega)]; omega, leI_pos (by omega)⟩
theorem nib_or (x y : Int) (hx : okS 4 x) (hy : okS 4 y) : wr .u8 (bits .or .i64 (wr .i64 (x * 16)) y) = pk 4 [x, y] := by
  have key : ∀ a b : Fin 16, wr .u8 (bits .or .i64 (wr .i64 (((a.val : Nat) : Int) * 16)) ((b.val : Nat) : Int)) = pk 4 [((a.val : Nat) : Int), ((b.val : Nat) : Int)] := by decide +kernel
  obtain ⟨h0, h1⟩ := hx
  obtain ⟨g0, g1⟩ := hy
  rw [show ((2 ^ 4 : Nat) : Int) = 16 from rfl] at h1 g1
  have := key ⟨x.toNat, by omega⟩ ⟨y.toNat, by omega⟩
  rw [show ((x.toNat : Nat) : Int) = x from Int.toNat_of_nonneg h0, show ((y.toNat : Nat) : Int) = y from Int.toNat_of_nonneg g0] at this
  exact this
theorem refjoin_loop (k n : Nat) (hn : n ≤ 20000) (l : List Int) (hl : l.length = 2 * n) (hb : ∀ x ∈ l, okS 4 x) : ∀ (d a j : Nat) (L1 L2 acc : List Int), a + d = n → l = L1 ++ L2 → L1.length = 2 * a → acc.length = a → d < j →
    m32F15 k j l ((2 * a : Nat) : Int) acc = some (acc ++ (chn 2 d L2).map (pk 4), 0) := by
  intro d
  induction d with
  | zero =>
    intro a j L1 L2 acc h _ _ _ hj
    obtain ⟨j, rfl⟩ : ∃ x, j = x + 1 := ⟨j - 1, by omega⟩
    obtain rfl : a = n := by omega
    rw [m32F15, m32X15, if_neg (by rw [hl, ltI_neg (by omega)]; simp), m32F20, m32X20]
    simp [chn]
  | succ d ih =>
    intro a j L1 L2 acc h hL h1 ha hj
    obtain ⟨j, rfl⟩ : ∃ x, j = x + 1 := ⟨j - 1, by omega⟩
    have hL2 : L2.length = 2 * (d + 1) := by
      have := congrArg List.length hL
      rw [List.length_append, hl, h1] at this
      omega
    obtain ⟨x, y, L3, rfl⟩ : ∃ x y L3, L2 = x :: y :: L3 := by
      cases L2 with
      | nil => simp at hL2
      | cons x L2 =>
        cases L2 with
        | nil => simp at hL2; omega
        | cons y L3 => exact ⟨x, y, L3, rfl⟩
    have hx := hb x (by rw [hL]; simp)
    have hy := hb y (by rw [hL]; simp)
    have h5 := ih (a + 1) j (L1 ++ [x, y]) L3 (acc ++ [pk 4 [x, y]]) (by omega) (by rw [hL]; simp) (by rw [List.length_append, h1]; simp; omega) (by rw [List.length_append, ha]; rfl) (by omega)
    obtain ⟨c1, c2, c3, c4, c5, c6, c7, c8⟩ := rj_ar a n (by omega) hn
    have g1 : l.getD (2 * a) 0 = x := by
      rw [hL, List.getD_eq_getElem?_getD, List.getElem?_append_right (by rw [h1]; exact Nat.le_refl _), h1, Nat.sub_self]
      rfl
    have g2 : l.getD (2 * a + 1) 0 = y := by
      rw [hL, List.getD_eq_getElem?_getD, List.getElem?_append_right (by rw [h1]; exact Nat.le_succ _), h1, show 2 * a + 1 - 2 * a = 1 by omega]
      rfl
    rw [m32F15, m32X15]
    simp only [hl, c1, c2, c3, c4, c5, c6, c7, if_true, Int.toNat_natCast, g1, g2, one_set, List.length_singleton, ha, c8, nib_or x y hx hy]
    rw [h5, chn, List.map_cons, List.append_assoc]
    rfl
theorem refjoin_eq (k n : Nat) (hn : n ≤ 16384) (l : List Int) (hl : l.length = 2 * n) (hk : 2 * n < k) (hb : ∀ x ∈ l, okS 4 x) : m32F k l = some ((chn 2 n l).map (pk 4), 0) := by
  have e8 : (!eqI 2 0) = true := by rw [eqI_neg (by decide)]; rfl
  have hw := within_eq k 4 (.inr rfl) l (by omega) (by omega)
  rw [show (decide (¬ ∃ x ∈ l, ¬ okS 4 x)) = true by (rw [decide_eq_true_eq]; exact fun ⟨x, hx, h⟩ => h (hb x hx)), show ((2 ^ 4 - 1 : Nat) : Int) = 15 from rfl] at hw
  have hm : (!eqI (Int.tmod (l.length : Int) 2) 0) = false := by
    rw [show (2 : Int) = ((2 : Nat) : Int) from rfl, tmod_nat, hl, Nat.mul_mod_right, eqI_pos (by simp)]
    rfl
  have c0 : ¬ (ltI 32768 (l.length : Int) = true) := by rw [ltI_neg (by omega)]; simp
  have h := refjoin_loop k n (by omega) l hl hb n 0 k [] l [] (by omega) rfl rfl rfl (by omega)
  simp only [m32F, m32X]
  rw [if_neg c0]
  simp only [e8, if_true, hm, Bool.false_eq_true, if_false, hw, Option.bind_some, Bool.not_true]
  exact h
theorem refjoin_bad (k : Nat) (l : List Int) (hl : l.length ≤ 32768) (hm : l.length % 2 = 0) (hk : l.length < k) (hb : ∃ x ∈ l, ¬ okS 4 x) : m32F k l = some ([], 1) := by
  have e8 : (!eqI 2 0) = true := by rw [eqI_neg (by decide)]; rfl
  have hw := within_eq k 4 (.inr rfl) l (by omega) hk
  rw [show (decide (¬ ∃ x ∈ l, ¬ okS 4 x)) = false by (rw [decide_eq_false_iff_not]; exact fun h => h hb), show ((2 ^ 4 - 1 : Nat) : Int) = 15 from rfl] at hw
  have hm' : (!eqI (Int.tmod (l.length : Int) 2) 0) = false := by
    rw [show (2 : Int) = ((2 : Nat) : Int) from rfl, tmod_nat, hm, eqI_pos (by simp)]
    rfl
  have c0 : ¬ (ltI 32768 (l.length : Int) = true) := by rw [ltI_neg (by omega)]; simp
  simp only [m32F, m32X]
  rw [if_neg c0]
  simp only [e8, if_true, hm', Bool.false_eq_true, if_false, hw, Option.bind_some, Bool.not_false]
theorem refjoin_len (k : Nat) (l : List Int) (h : 32768 < l.length ∨ l.length % 2 ≠ 0) : m32F k l = some ([], 2) := by
  have e8 : (!eqI 2 0) = true := by rw [eqI_neg (by decide)]; rfl
  simp only [m32F, m32X]
  by_cases h1 : 32768 < l.length
  · rw [if_pos (ltI_pos (by omega))]
  · rw [if_neg (by rw [ltI_neg (by omega)]; simp), if_pos e8, show (2 : Int) = ((2 : Nat) : Int) from rfl, tmod_nat, if_pos]
    rw [eqI_neg (by have := h.resolve_left h1; omega)]
    rfl
theorem refnib_eq (k : Nat) (l : List Int) (hl : l.length ≤ 4096) (hk : l.length < k) (hb : ∀ c ∈ l, Crc.isByte c) : m27F k l = some (nibB l) := by
  have byte : ∀ c : Fin 256, [wr .i64 (((c.val : Nat) : Int) / 16), wr .i64 (bits .and .u8 ((c.val : Nat) : Int) 15)] = [((c.val : Nat) : Int) / 16, ((c.val : Nat) : Int) % 16] := by decide +kernel
  have main : ∀ (rest pre acc : List Int) (j : Nat), l = pre ++ rest → acc.length = 2 * pre.length → rest.length < j → m27F7 k j l (pre.length : Int) acc = some (acc ++ nibB rest) := by
    intro rest
    induction rest with
    | nil =>
      intro pre acc j h ha hj
      obtain ⟨j, rfl⟩ : ∃ x, j = x + 1 := ⟨j - 1, by omega⟩
      rw [List.append_nil] at h
      subst h
      rw [m27F7, m27X7, if_neg (by rw [ltI_neg (by omega)]; simp)]
      simp [nibB]
    | cons c rest ih =>
      intro pre acc j h ha hj
      rw [List.length_cons] at hj
      obtain ⟨j, rfl⟩ : ∃ x, j = x + 1 := ⟨j - 1, by omega⟩
      have hlen : l.length = pre.length + (rest.length + 1) := by rw [h]; simp
      obtain ⟨h0, h1⟩ := hb c (by rw [h]; simp)
      have h2 := ih (pre ++ [c]) (acc ++ [c / 16, c % 16]) j (by rw [h]; simp) (by rw [List.length_append, List.length_append, ha]; simp; omega) (by omega)
      rw [List.length_append, List.length_singleton] at h2
      have hg : l.getD (Int.toNat (pre.length : Int)) 0 = c := by rw [h, gd_at]
      have hbt := byte ⟨c.toNat, by omega⟩
      have hcn : ((c.toNat : Nat) : Int) = c := Int.toNat_of_nonneg h0
      simp only [hcn] at hbt
      have hset : ∀ x y : Int, List.set (List.set (List.replicate 2 (0 : Int)) 0 x) 1 y = [x, y] := fun _ _ => rfl
      rw [m27F7, m27X7, if_pos (ltI_pos (by omega)), if_pos (leI_pos (by omega)), if_pos (ltI_pos (by omega)), if_pos (leI_pos (by decide)), if_pos (leI_pos (by omega)), if_pos (ltI_pos (by omega)), hg, hset, hbt, if_pos (leI_pos (by rw [ha]; simp; omega)), w64s (by omega), h2, List.append_assoc]
      rfl
  have h := main l [] [] k rfl rfl hk
  unfold m27F m27X
  rw [List.nil_append] at h
  exact h

theorem wakes01 (k : Nat) (hk : 5001 ≤ k) : m12F k = some true := by
  have e : List.set (List.set (List.replicate 2 (0 : Int)) 0 10) 1 5 = [10, 5] := rfl
  have h1 := nibbles_eq k [165] (by decide) (by omega) (by rw [List.length_singleton]; omega) (fun c hc => by
    rw [List.mem_singleton] at hc
    subst hc
    exact ⟨by decide, by decide⟩)
  have e5 : nibB [165] = [10, 5] := by decide +kernel
  have h2 := ints_eq' k hk [10, 5] [10, 5] (by decide)
  have h3 := ones_nat k 7
  have p7 : Pop.pop 32 7 = 3 := by decide +kernel
  have e0 : ∀ z : Int, eqI z z = true := fun z => eqI_pos rfl
  rw [p7] at h3
  rw [e5] at h1
  simp only [m12F, m12X, one_set, e]
  rw [h1]
  simp only [Option.bind_some, e0, if_true, h2, decide_true]
  rw [show (7 : Int) = ((7 : Nat) : Int) from rfl, h3]
  simp only [Option.bind_some]
  rw [show ((3 : Nat) : Int) = 3 from rfl, e0]

open Be in
theorem p2_256 (s : Nat) (h : s ≤ 4) : p2 (min (Int.toNat (wr .i64 (8 * (s : Int)))) 64) = ((256 ^ s : Nat) : Int) := by
  obtain rfl | rfl | rfl | rfl | rfl : s = 0 ∨ s = 1 ∨ s = 2 ∨ s = 3 ∨ s = 4 := by omega
  all_goals decide +kernel
open Be in
theorem put_loop (k : Nat) (n : Int) : ∀ (s : Nat) (acc : List Int) (m : Nat), s ≤ 4 → s < m → acc.length + s ≤ 4200 → m21F15 k m n ((s : Int) - 1) acc = some (acc ++ be s n, 0) := by
  intro s
  induction s with
  | zero =>
    intro acc m _ hm h
    obtain ⟨m, rfl⟩ : ∃ x, m = x + 1 := ⟨m - 1, by omega⟩
    rw [m21F15, m21X15]
    simp only [leI_eq, decide_eq_true_eq]
    rw [if_neg (by omega)]
    simp only [m21F20, m21X20]
    rw [clone_eq k acc (by omega), Option.bind_some, be, List.append_nil]
  | succ s ih =>
    intro acc m hs hm h
    obtain ⟨m, rfl⟩ : ∃ x, m = x + 1 := ⟨m - 1, by omega⟩
    have w0 : ((s + 1 : Nat) : Int) - 1 = (s : Int) := by omega
    have w2 : wr .i64 ((s : Int) - 1) = (s : Int) - 1 := w64 (by omega) (by omega)
    have w1 : (0 : Int) ≤ wr .i64 (8 * (s : Int)) := by rw [w64 (by omega) (by omega)]; omega
    rw [m21F15, m21X15]
    simp only [leI_eq, decide_eq_true_eq, w0, w2, one_set, p2_256 s (by omega), if_pos w1, if_pos (show (s : Int) ≥ 0 by omega), wu8]
    rw [if_pos (by simp only [List.length_singleton]; omega), ih _ m (by omega) (by omega) (by simp; omega), be, List.append_assoc]
    rfl
open Be in
theorem put_eq (k : Nat) (hk : 10 ≤ k) (l : List Int) (n : Int) (s : Nat) (h1 : 1 ≤ s) (h4 : s ≤ 4) (hl : l.length + s ≤ 4096) (h0 : 0 ≤ n) (hn : n < ((256 ^ s : Nat) : Int)) : m21F k l n (s : Int) = some (l ++ be s n, 0) := by
  have w1 : (0 : Int) ≤ wr .i64 (8 * (s : Int)) := by rw [w64 (by omega) (by omega)]; omega
  have w2 : wr .i64 (4096 - (s : Int)) = 4096 - (s : Int) := w64 (by omega) (by omega)
  have w3 : wr .i64 ((s : Int) - 1) = (s : Int) - 1 := w64 (by omega) (by omega)
  have hp : ((256 ^ s : Nat) : Int) ≤ 4294967296 := by
    have : 256 ^ s ≤ 256 ^ 4 := Nat.pow_le_pow_right (by decide) h4
    omega
  have w4 : wr .i64 (1 * ((256 ^ s : Nat) : Int)) = ((256 ^ s : Nat) : Int) := by
    generalize ((256 ^ s : Nat) : Int) = q at hp hn
    rw [w64 (by omega) (by omega)]
    omega
  simp only [m21F, m21X, leI_eq, ltI_eq, decide_eq_true_eq, p2_256 s h4, w2, w3, w4, if_pos w1]
  generalize ((256 ^ s : Nat) : Int) = q at hp hn
  rw [if_neg (by omega), if_neg (by omega), if_neg (by omega), if_neg (by omega), if_neg (by omega), clone_eq k l (by omega), Option.bind_some]
  exact put_loop k n s l k h4 (by omega) (by omega)
open Be in
theorem put_bad (k : Nat) (l : List Int) (n : Int) (s : Nat) (h1 : 1 ≤ s) (h4 : s ≤ 4) (hn : n < 0 ∨ ((256 ^ s : Nat) : Int) ≤ n) : m21F k l n (s : Int) = some ([], 1) := by
  have w1 : (0 : Int) ≤ wr .i64 (8 * (s : Int)) := by rw [w64 (by omega) (by omega)]; omega
  have hp : ((256 ^ s : Nat) : Int) ≤ 4294967296 := by
    have : 256 ^ s ≤ 256 ^ 4 := Nat.pow_le_pow_right (by decide) h4
    omega
  have hq : (0 : Int) ≤ ((256 ^ s : Nat) : Int) := Int.natCast_nonneg _
  have w4 : wr .i64 (1 * ((256 ^ s : Nat) : Int)) = ((256 ^ s : Nat) : Int) := by
    generalize ((256 ^ s : Nat) : Int) = q at hp hn hq
    rw [w64 (by omega) (by omega)]
    omega
  simp only [m21F, m21X, leI_eq, ltI_eq, decide_eq_true_eq, p2_256 s h4, w4, if_pos w1]
  generalize ((256 ^ s : Nat) : Int) = q at hp hn hq
  rw [if_neg (by omega), if_neg (by omega)]
  by_cases h : n < 0
  · rw [if_pos (by omega)]
  · rw [if_neg (by omega), if_pos (by omega)]

open Be Crc in
theorem num_snoc (pre : List Int) (x : Int) : num (pre ++ [x]) = num pre * 256 + x := by unfold num; rw [List.foldl_append]; rfl
open Be Crc in
theorem num_or (pre : List Int) (x : Int) (hp3 : pre.length ≤ 3) (hb : ∀ c ∈ pre, isByte c) (hx : isByte x) : Go.bits .or .i64 (wr .i64 (num pre * 256)) (wr .i64 x) = num (pre ++ [x]) := by
  have hp := num_bound pre hb
  have hq : ((256 ^ pre.length : Nat) : Int) ≤ 16777216 := by
    have : 256 ^ pre.length ≤ 256 ^ 3 := Nat.pow_le_pow_right (by decide) (by omega)
    omega
  unfold isByte at hx
  generalize ((256 ^ pre.length : Nat) : Int) = q at hp hq
  rw [w64 (by omega) (by omega), w64 (by omega) (by omega), num_snoc]
  obtain ⟨a, ha⟩ := Int.eq_ofNat_of_zero_le hp.1
  obtain ⟨b, hb'⟩ := Int.eq_ofNat_of_zero_le hx.1
  rw [ha] at hp ⊢
  subst hb'
  have := orN (a * 256) b (by omega) (by omega)
  rw [Int.natCast_mul] at this
  exact this.trans (by rw [or_byte a b (by omega)]; omega)
open Be Crc in
theorem get_loop (k : Nat) (l : List Int) (hl : l.length ≤ 4) : ∀ (rest pre : List Int) (n : Nat), l = pre ++ rest → (∀ c ∈ l, isByte c) → rest.length < n →
    m24F15 k n (num pre) l (l.length : Int) (pre.length : Int) = some (num l, 0) := by
  intro rest
  induction rest with
  | nil =>
    intro pre n h _ hn
    obtain ⟨n, rfl⟩ : ∃ x, n = x + 1 := ⟨n - 1, by simp only [List.length_nil] at hn; omega⟩
    rw [List.append_nil] at h
    subst h
    rw [m24F15, m24X15]
    simp only [ltI_eq, decide_eq_true_eq]
    rw [if_neg (by omega)]
    rfl
  | cons x rest ih =>
    intro pre n h hb hn
    obtain ⟨n, rfl⟩ : ∃ x, n = x + 1 := ⟨n - 1, by omega⟩
    have h1 : l.length = pre.length + (rest.length + 1) := by rw [h]; simp
    have e1 : l.getD (Int.toNat (pre.length : Int)) 0 = x := by rw [h]; exact gd_at pre rest x 0
    have hx : isByte x := hb x (by rw [h]; simp)
    have e2 := num_or pre x (by omega) (fun c hc => hb c (by rw [h]; simp [hc])) hx
    rw [m24F15, m24X15]
    simp only [leI_eq, ltI_eq, decide_eq_true_eq, if_pos (show (pre.length : Int) < (l.length : Int) by omega), if_pos (show (0 : Int) ≤ (pre.length : Int) by omega), if_pos (show (0 : Int) ≤ 8 by decide), e1, e2, w64s (show pre.length < 9223372036854775807 by omega)]
    have := ih (pre ++ [x]) n (by rw [h]; simp) hb (by simp only [List.length_cons] at hn; omega)
    rw [List.length_append, List.length_singleton] at this
    exact this
open Be Crc in
theorem get_eq (k : Nat) (hk : 10 ≤ k) (l : List Int) (at_ s : Nat) (h1 : 1 ≤ s) (h4 : s ≤ 4) (hl : at_ + s ≤ l.length) (hm : l.length ≤ 5000) (hb : ∀ c ∈ l, isByte c) :
    m24F k l (at_ : Int) (s : Int) = some (num ((l.take (at_ + s)).drop at_), 0) := by
  have w1 : wr .i64 ((l.length : Int) - (at_ : Int)) = (l.length : Int) - (at_ : Int) := w64 (by omega) (by omega)
  have w2 : wr .i64 ((at_ : Int) + (s : Int)) = ((at_ + s : Nat) : Int) := by rw [w64 (by omega) (by omega)]; omega
  simp only [m24F, m24X, leI_eq, ltI_eq, decide_eq_true_eq, w1, w2, Int.toNat_natCast]
  rw [if_neg (by omega), if_neg (by omega), if_neg (by omega), if_neg (by omega), if_neg (by omega), if_pos (by omega), if_pos (by omega), if_pos (by omega), if_pos (by omega)]
  have hlen : ((l.take (at_ + s)).drop at_).length = s := by rw [List.length_drop, List.length_take]; omega
  exact get_loop k _ (by omega) _ [] k rfl (fun c hc => hb c (List.mem_of_mem_take (List.mem_of_mem_drop hc))) (by omega)

/-! Numbers put and got, the page's. -/
open Be in
theorem p2_256w (s : Nat) (h : s ≤ 4) : p2 (min (Int.toNat (wr .u64 (wr .i64 (8 * (s : Int))))) 64) = ((256 ^ s : Nat) : Int) := by
  obtain rfl | rfl | rfl | rfl | rfl : s = 0 ∨ s = 1 ∨ s = 2 ∨ s = 3 ∨ s = 4 := by omega
  all_goals decide +kernel
theorem rp_ar (s n : Nat) (hs : s + 1 ≤ 4) (hn : n ≤ 4200) : ((s + 1 : Nat) : Int) - 1 = (s : Int) ∧ wr .i64 ((s : Int) - 1) = (s : Int) - 1 ∧ leI 0 (wr .u64 (wr .i64 (8 * (s : Int)))) = true ∧ leI 0 (s : Int) = true ∧ leI (((n + 1) * 1 : Nat) : Int) 140737488355328 = true :=
  ⟨by omega, w64 (by omega) (by omega), by rw [w64 (by omega) (by omega), wu64 (by omega) (by omega)]; exact leI_pos (by omega), leI_pos (by omega), leI_pos (by omega)⟩
theorem rg_ar (a s i n : Nat) (hi : i < s) (h : a + s ≤ n) (hn : n ≤ 5000) : ltI (i : Int) (s : Int) = true ∧ wr .i64 ((a : Int) + (i : Int)) = ((a + i : Nat) : Int) ∧ leI 0 ((a + i : Nat) : Int) = true ∧ ltI ((a + i : Nat) : Int) (n : Int) = true ∧ wr .i64 ((i : Int) + 1) = ((i + 1 : Nat) : Int) ∧ leI 0 8 = true :=
  ⟨ltI_pos (by omega), by rw [w64 (by omega) (by omega)]; omega, leI_pos (by omega), ltI_pos (by omega), w64s (by omega), leI_pos (by decide)⟩
/-! What is written over: it ends. -/
theorem spoil_loop (k o n : Nat) (hn : n ≤ 100000) : ∀ (d i j : Nat) (b : List Int), i + d = n → d < j → ∃ r, m23F3 k j o n (i : Int) b = some r := by
  intro d
  induction d with
  | zero =>
    intro i j b h hj
    obtain ⟨j, rfl⟩ : ∃ x, j = x + 1 := ⟨j - 1, by omega⟩
    refine ⟨b, ?_⟩
    rw [m23F3, m23X3, if_neg (by rw [ltI_neg (by omega)]; simp)]
  | succ d ih =>
    intro i j b h hj
    obtain ⟨j, rfl⟩ : ∃ x, j = x + 1 := ⟨j - 1, by omega⟩
    have e := w64s (show i < 9223372036854775807 by omega)
    rw [m23F3, m23X3, if_pos (ltI_pos (by omega)), if_pos (leI_pos (by omega)), if_pos (ltI_pos (by omega)), if_pos (leI_pos (by omega)), if_pos (ltI_pos (by omega)), e]
    exact ih (i + 1) j _ (by omega) (by omega)
theorem spoil_eq (k o n : Nat) (hk : n < k) (hn : n ≤ 100000) (b : List Int) : ∃ r, m23F k b o n = some r := by
  obtain ⟨r, h⟩ := spoil_loop k o n hn n 0 k b (Nat.zero_add n) hk
  refine ⟨r, ?_⟩
  simp only [m23F, m23X]
  exact h

theorem spoilI_loop (k o n : Nat) (hn : n ≤ 100000) : ∀ (d i j : Nat) (b : List Int), i + d = n → d < j → ∃ r, m28F3 k j o n (i : Int) b = some r := by
  intro d
  induction d with
  | zero =>
    intro i j b h hj
    obtain ⟨j, rfl⟩ : ∃ x, j = x + 1 := ⟨j - 1, by omega⟩
    refine ⟨b, ?_⟩
    rw [m28F3, m28X3, if_neg (by rw [ltI_neg (by omega)]; simp)]
  | succ d ih =>
    intro i j b h hj
    obtain ⟨j, rfl⟩ : ∃ x, j = x + 1 := ⟨j - 1, by omega⟩
    have e := w64s (show i < 9223372036854775807 by omega)
    rw [m28F3, m28X3, if_pos (ltI_pos (by omega)), if_pos (leI_pos (by omega)), if_pos (ltI_pos (by omega)), e]
    exact ih (i + 1) j _ (by omega) (by omega)
theorem spoilI_eq (k o n : Nat) (hk : n < k) (hn : n ≤ 100000) (b : List Int) : ∃ r, m28F k b o n = some r := by
  obtain ⟨r, h⟩ := spoilI_loop k o n hn n 0 k b (Nat.zero_add n) hk
  refine ⟨r, ?_⟩
  simp only [m28F, m28X]
  exact h


end Go.Proofs.Ytmjbjlhjpdebjaa.Mini
