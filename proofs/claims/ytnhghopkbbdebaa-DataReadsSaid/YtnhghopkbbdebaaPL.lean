/- What shared functions tell: plain laws. -/
import Derived.Test.YtnhghopkbbdebaaMF
import Derived.Test.YtnhghopkbbdebaaCrc
import Derived.Test.YtnhghopkbbdebaaBe
import Derived.Test.YtnhghopkbbdebaaPop
import Derived.Laws.Closers25b
set_option linter.unusedSimpArgs false
set_option linter.unusedVariables false
namespace Go.Proofs.Ytnhghopkbbdebaa.Mini
open Go Go.RowKit Go.Proofs
theorem w64 {n : Int} (h0 : -9223372036854775808 ≤ n) (h1 : n < 9223372036854775808) : wr .i64 n = n := by
  show wrap64 n = n
  unfold wrap64
  omega
theorem w64n {n : Nat} (h1 : n < 9223372036854775808) : wr .i64 (n : Int) = (n : Int) := w64 (by omega) (by omega)
theorem w64s {n : Nat} (h1 : n < 9223372036854775807) : wr .i64 ((n : Int) + 1) = ((n + 1 : Nat) : Int) := w64 (by omega) (by omega)
theorem wu64 {n : Int} (h0 : 0 ≤ n) (h1 : n < 18446744073709551616) : wr .u64 n = n := by
  show n % 18446744073709551616 = n
  omega
theorem wu8 (n : Int) : wr .u8 n = n % 256 := (congrArg (fun x : Int => x % 256) (Eq.refl n) : n % 256 = n % 256)
theorem wu32 (n : Int) : wr .u32 n = n % 4294967296 := (congrArg (fun x : Int => x % 4294967296) (Eq.refl n) : n % 4294967296 = n % 4294967296)
theorem gd_at {α : Type} (pre rest : List α) (x d : α) : (pre ++ x :: rest).getD (Int.toNat (pre.length : Int)) d = x := by
  rw [Int.toNat_natCast, List.getD_eq_getElem?_getD, List.getElem?_append_right (Nat.le_refl _), Nat.sub_self]
  rfl
theorem gd_at' {α : Type} (pre rest : List α) (x d : α) (n : Nat) (h : pre.length = n) : (pre ++ x :: rest).getD (Int.toNat (n : Int)) d = x := by
  subst h
  exact gd_at pre rest x d
theorem getD_nat {α : Type} (l : List α) (n : Nat) (d : α) : l.getD (Int.toNat (n : Int)) d = l.getD n d := rfl
theorem nilK_same {R : Type} {e : Bool} {a : Option R} : nilK e a a = a := by
  unfold nilK both
  cases e <;> simp
theorem nilK_of {R : Type} {e : Bool} {a b : Option R} (h : e = true → a = b) : nilK e a b = b := by
  unfold nilK both
  cases e
  · rfl
  · simp [h rfl]
theorem one_set (x d : Int) : List.set (List.replicate 1 d) 0 x = [x] := (congrArg (fun y : Int => [y]) (Eq.refl x) : [x] = [x])
theorem bytes_wf {l : List Int} (h : WfK (.row (.int .u8)) l) : ∀ c ∈ l, Crc.isByte c := fun c hc => Bv.wf_u8 (h.2 c hc)
theorem leI_pos {a b : Int} (h : a ≤ b) : leI a b = true := (leI_iff a b).2 h
theorem leI_neg {a b : Int} (h : ¬ a ≤ b) : leI a b = false := by
  rw [leI_eq]
  simpa using h
theorem ltI_pos {a b : Int} (h : a < b) : ltI a b = true := (ltI_iff a b).2 h
theorem ltI_neg {a b : Int} (h : ¬ a < b) : ltI a b = false := by
  rw [ltI_eq]
  simpa using h
theorem eqI_pos {a b : Int} (h : a = b) : eqI a b = true := (eqI_iff a b).2 h
theorem eqI_neg {a b : Int} (h : ¬ a = b) : eqI a b = false := by
  rw [eqI_eq]
  simpa using h
theorem umod0 (x : Int) (m : Nat) (hm : 0 < m) : ∃ a : Nat, a < m ∧ Int.tmod (wr .u64 x) (m : Int) = (a : Int) := by
  have h0 : 0 ≤ wr .u64 x := Int.emod_nonneg _ (by decide)
  have h1 : Int.tmod (wr .u64 x) (m : Int) = wr .u64 x % (m : Int) := Int.tmod_eq_emod_of_nonneg h0
  have h2 := Int.emod_nonneg (wr .u64 x) (show (m : Int) ≠ 0 by omega)
  have h3 := Int.emod_lt_of_pos (wr .u64 x) (show (0 : Int) < m by omega)
  refine ⟨(wr .u64 x % (m : Int)).toNat, ?_, ?_⟩
  · generalize wr .u64 x % (m : Int) = z at h2 h3
    omega
  · rw [h1]
    generalize wr .u64 x % (m : Int) = z at h2 h3
    omega
theorem clone_eq (k : Nat) (l : List Int) (h : l.length ≤ 5000) : m24F k l = some l := by
  simp only [m24F, m24X, leI_eq, decide_eq_true_eq]
  rw [nilK_of, if_pos (by omega)]
  · rfl
  · intro he
    rw [if_pos (by omega)]
    rw [List.isEmpty_iff.1 he]
    rfl
theorem twin_eq (k : Nat) (l : List Int) (h : l.length ≤ 5000) : m9F k l = some l := by
  simp only [m9F, m9X, leI_eq, decide_eq_true_eq]
  rw [if_pos (by omega)]
theorem bytes_loop (k : Nat) (a b : List Int) (hl : a.length ≤ 5000) (he : a.length = b.length) : ∀ (ra rb pa pb : List Int) (j : Nat), a = pa ++ ra → b = pb ++ rb → pa.length = pb.length → ra.length < j →
    m14F9 k j a b (pa.length : Int) = some (decide (ra = rb)) := by
  intro ra
  induction ra with
  | nil =>
    intro rb pa pb j ha hb hp hj
    obtain ⟨j, rfl⟩ : ∃ i, j = i + 1 := ⟨j - 1, by simp only [List.length_nil] at hj; omega⟩
    have h1 : a.length = pa.length := by rw [ha]; simp
    have h2 : b.length = pb.length + rb.length := by rw [hb]; simp
    obtain rfl : rb = [] := List.eq_nil_of_length_eq_zero (by omega)
    rw [m14F9, m14X9]
    simp only [leI_eq, ltI_eq, eqI_eq, decide_eq_true_eq, if_neg (show ¬ (pa.length : Int) < (a.length : Int) by omega), decide_true]
  | cons x ra ih =>
    intro rb pa pb j ha hb hp hj
    obtain ⟨j, rfl⟩ : ∃ i, j = i + 1 := ⟨j - 1, by omega⟩
    have h1 : a.length = pa.length + (ra.length + 1) := by rw [ha]; simp
    have h2 : b.length = pb.length + rb.length := by rw [hb]; simp
    cases rb with
    | nil => simp only [List.length_nil] at h2; omega
    | cons y rb =>
      simp only [List.length_cons] at h2 hj
      have e1 : a.getD (Int.toNat (pa.length : Int)) 0 = x := by rw [ha]; exact gd_at pa ra x 0
      have e2 : b.getD (Int.toNat (pa.length : Int)) 0 = y := by rw [hb]; exact gd_at' pb rb y 0 pa.length hp.symm
      have c1 : (pa.length : Int) < (a.length : Int) := by omega
      have c2 : (0 : Int) ≤ (pa.length : Int) := by omega
      have c3 : (pa.length : Int) < (b.length : Int) := by omega
      rw [m14F9, m14X9]
      simp only [leI_eq, ltI_eq, eqI_eq, decide_eq_true_eq, if_pos c1, if_pos c2, if_pos c3, e1, e2, w64s (show pa.length < 9223372036854775807 by omega)]
      by_cases hxy : x = y
      · subst hxy
        have := ih rb (pa ++ [x]) (pb ++ [x]) j (by rw [ha]; simp) (by rw [hb]; simp) (by simp [hp]) (by omega)
        rw [List.length_append, List.length_singleton] at this
        simp only [decide_true, Bool.not_true, Bool.false_eq_true, if_false]
        rw [this]
        simp
      · simp [hxy]
theorem bytes_eq' (k : Nat) (hk : 5001 ≤ k) (a b : List Int) (hl : a.length ≤ 5000) : m14F k a b = some (decide (a = b)) := by
  simp only [m14F, m14X]
  by_cases he : a.length = b.length
  · have := bytes_loop k a b hl he a b [] [] k rfl rfl rfl (by omega)
    simp only [List.length_nil] at this
    simp only [he, eqI_eq, decide_true, Bool.not_true, Bool.false_eq_true, if_false]
    exact this
  · have : ¬ ((a.length : Int) = (b.length : Int)) := by omega
    have h2 : ¬ a = b := fun h => he (by rw [h])
    simp [eqI_eq, this, h2]
open Be in
theorem p2_256 (s : Nat) (h : s ≤ 4) : p2 (min (Int.toNat (wr .i64 (8 * (s : Int)))) 64) = ((256 ^ s : Nat) : Int) := by
  obtain rfl | rfl | rfl | rfl | rfl : s = 0 ∨ s = 1 ∨ s = 2 ∨ s = 3 ∨ s = 4 := by omega
  all_goals decide +kernel
open Be in
theorem put_loop (k : Nat) (n : Int) : ∀ (s : Nat) (acc : List Int) (m : Nat), s ≤ 4 → s < m → acc.length + s ≤ 4200 → m20F15 k m n ((s : Int) - 1) acc = some (acc ++ be s n, 0) := by
  intro s
  induction s with
  | zero =>
    intro acc m _ hm h
    obtain ⟨m, rfl⟩ : ∃ x, m = x + 1 := ⟨m - 1, by omega⟩
    rw [m20F15, m20X15]
    simp only [leI_eq, decide_eq_true_eq]
    rw [if_neg (by omega)]
    simp only [m20F20, m20X20]
    rw [clone_eq k acc (by omega), Option.bind_some, be, List.append_nil]
  | succ s ih =>
    intro acc m hs hm h
    obtain ⟨m, rfl⟩ : ∃ x, m = x + 1 := ⟨m - 1, by omega⟩
    have w0 : ((s + 1 : Nat) : Int) - 1 = (s : Int) := by omega
    have w2 : wr .i64 ((s : Int) - 1) = (s : Int) - 1 := w64 (by omega) (by omega)
    have w1 : (0 : Int) ≤ wr .i64 (8 * (s : Int)) := by rw [w64 (by omega) (by omega)]; omega
    rw [m20F15, m20X15]
    simp only [leI_eq, decide_eq_true_eq, w0, w2, one_set, p2_256 s (by omega), if_pos w1, if_pos (show (s : Int) ≥ 0 by omega), wu8]
    rw [if_pos (by simp only [List.length_singleton]; omega), ih _ m (by omega) (by omega) (by simp; omega), be, List.append_assoc]
    rfl
open Be in
theorem put_eq (k : Nat) (hk : 10 ≤ k) (l : List Int) (n : Int) (s : Nat) (h1 : 1 ≤ s) (h4 : s ≤ 4) (hl : l.length + s ≤ 4096) (h0 : 0 ≤ n) (hn : n < ((256 ^ s : Nat) : Int)) : m20F k l n (s : Int) = some (l ++ be s n, 0) := by
  have w1 : (0 : Int) ≤ wr .i64 (8 * (s : Int)) := by rw [w64 (by omega) (by omega)]; omega
  have w2 : wr .i64 (4096 - (s : Int)) = 4096 - (s : Int) := w64 (by omega) (by omega)
  have w3 : wr .i64 ((s : Int) - 1) = (s : Int) - 1 := w64 (by omega) (by omega)
  have hp : ((256 ^ s : Nat) : Int) ≤ 4294967296 := by
    have : 256 ^ s ≤ 256 ^ 4 := Nat.pow_le_pow_right (by decide) h4
    omega
  have w4 : wr .i64 (1 * ((256 ^ s : Nat) : Int)) = ((256 ^ s : Nat) : Int) := by
    generalize ((256 ^ s : Nat) : Int) = q at hp hn
    rw [w64 (by omega) (by omega)]
    omega
  simp only [m20F, m20X, leI_eq, ltI_eq, decide_eq_true_eq, p2_256 s h4, w2, w3, w4, if_pos w1]
  generalize ((256 ^ s : Nat) : Int) = q at hp hn
  rw [if_neg (by omega), if_neg (by omega), if_neg (by omega), if_neg (by omega), if_neg (by omega), clone_eq k l (by omega), Option.bind_some]
  exact put_loop k n s l k h4 (by omega) (by omega)
open Be in
theorem put_bad (k : Nat) (l : List Int) (n : Int) (s : Nat) (h1 : 1 ≤ s) (h4 : s ≤ 4) (hn : n < 0 ∨ ((256 ^ s : Nat) : Int) ≤ n) : m20F k l n (s : Int) = some ([], 1) := by
  have w1 : (0 : Int) ≤ wr .i64 (8 * (s : Int)) := by rw [w64 (by omega) (by omega)]; omega
  have hp : ((256 ^ s : Nat) : Int) ≤ 4294967296 := by
    have : 256 ^ s ≤ 256 ^ 4 := Nat.pow_le_pow_right (by decide) h4
    omega
  have hq : (0 : Int) ≤ ((256 ^ s : Nat) : Int) := Int.natCast_nonneg _
  have w4 : wr .i64 (1 * ((256 ^ s : Nat) : Int)) = ((256 ^ s : Nat) : Int) := by
    generalize ((256 ^ s : Nat) : Int) = q at hp hn hq
    rw [w64 (by omega) (by omega)]
    omega
  simp only [m20F, m20X, leI_eq, ltI_eq, decide_eq_true_eq, p2_256 s h4, w4, if_pos w1]
  generalize ((256 ^ s : Nat) : Int) = q at hp hn hq
  rw [if_neg (by omega), if_neg (by omega)]
  by_cases h : n < 0
  · rw [if_pos (by omega)]
  · rw [if_neg (by omega), if_pos (by omega)]
open Be Crc in
theorem num_snoc (pre : List Int) (x : Int) : num (pre ++ [x]) = num pre * 256 + x := by unfold num; rw [List.foldl_append]; rfl
open Be Crc in
theorem num_or (pre : List Int) (x : Int) (hp3 : pre.length ≤ 3) (hb : ∀ c ∈ pre, isByte c) (hx : isByte x) : Go.bits .or .i64 (wr .i64 (num pre * 256)) (wr .i64 x) = num (pre ++ [x]) := by
  have hp := num_bound pre hb
  have hq : ((256 ^ pre.length : Nat) : Int) ≤ 16777216 := by
    have : 256 ^ pre.length ≤ 256 ^ 3 := Nat.pow_le_pow_right (by decide) (by omega)
    omega
  unfold isByte at hx
  generalize ((256 ^ pre.length : Nat) : Int) = q at hp hq
  rw [w64 (by omega) (by omega), w64 (by omega) (by omega), num_snoc]
  obtain ⟨a, ha⟩ := Int.eq_ofNat_of_zero_le hp.1
  obtain ⟨b, hb'⟩ := Int.eq_ofNat_of_zero_le hx.1
  rw [ha] at hp ⊢
  subst hb'
  have := orN (a * 256) b (by omega) (by omega)
  rw [Int.natCast_mul] at this
  exact this.trans (by rw [or_byte a b (by omega)]; omega)
open Be Crc in
theorem get_loop (k : Nat) (l : List Int) (hl : l.length ≤ 4) : ∀ (rest pre : List Int) (n : Nat), l = pre ++ rest → (∀ c ∈ l, isByte c) → rest.length < n →
    m23F15 k n (num pre) l (l.length : Int) (pre.length : Int) = some (num l, 0) := by
  intro rest
  induction rest with
  | nil =>
    intro pre n h _ hn
    obtain ⟨n, rfl⟩ : ∃ x, n = x + 1 := ⟨n - 1, by simp only [List.length_nil] at hn; omega⟩
    rw [List.append_nil] at h
    subst h
    rw [m23F15, m23X15]
    simp only [ltI_eq, decide_eq_true_eq]
    rw [if_neg (by omega)]
    rfl
  | cons x rest ih =>
    intro pre n h hb hn
    obtain ⟨n, rfl⟩ : ∃ x, n = x + 1 := ⟨n - 1, by omega⟩
    have h1 : l.length = pre.length + (rest.length + 1) := by rw [h]; simp
    have e1 : l.getD (Int.toNat (pre.length : Int)) 0 = x := by rw [h]; exact gd_at pre rest x 0
    have hx : isByte x := hb x (by rw [h]; simp)
    have e2 := num_or pre x (by omega) (fun c hc => hb c (by rw [h]; simp [hc])) hx
    rw [m23F15, m23X15]
    simp only [leI_eq, ltI_eq, decide_eq_true_eq, if_pos (show (pre.length : Int) < (l.length : Int) by omega), if_pos (show (0 : Int) ≤ (pre.length : Int) by omega), if_pos (show (0 : Int) ≤ 8 by decide), e1, e2, w64s (show pre.length < 9223372036854775807 by omega)]
    have := ih (pre ++ [x]) n (by rw [h]; simp) hb (by simp only [List.length_cons] at hn; omega)
    rw [List.length_append, List.length_singleton] at this
    exact this
open Be Crc in
theorem get_eq (k : Nat) (hk : 10 ≤ k) (l : List Int) (at_ s : Nat) (h1 : 1 ≤ s) (h4 : s ≤ 4) (hl : at_ + s ≤ l.length) (hm : l.length ≤ 5000) (hb : ∀ c ∈ l, isByte c) :
    m23F k l (at_ : Int) (s : Int) = some (num ((l.take (at_ + s)).drop at_), 0) := by
  have w1 : wr .i64 ((l.length : Int) - (at_ : Int)) = (l.length : Int) - (at_ : Int) := w64 (by omega) (by omega)
  have w2 : wr .i64 ((at_ : Int) + (s : Int)) = ((at_ + s : Nat) : Int) := by rw [w64 (by omega) (by omega)]; omega
  simp only [m23F, m23X, leI_eq, ltI_eq, decide_eq_true_eq, w1, w2, Int.toNat_natCast]
  rw [if_neg (by omega), if_neg (by omega), if_neg (by omega), if_neg (by omega), if_neg (by omega), if_pos (by omega), if_pos (by omega), if_pos (by omega), if_pos (by omega)]
  have hlen : ((l.take (at_ + s)).drop at_).length = s := by rw [List.length_drop, List.length_take]; omega
  exact get_loop k _ (by omega) _ [] k rfl (fun c hc => hb c (List.mem_of_mem_take (List.mem_of_mem_drop hc))) (by omega)
open Bv Crc in
theorem shl1_u (v : BitVec 16) : wr .i64 (u v * 2) = ((v.toNat * 2 : Nat) : Int) := by
  have hv := v.isLt
  unfold u
  rw [w64 (by omega) (by omega)]
  omega
open Bv Crc in
theorem t16_inner (k : Nat) (X : Option (List Int)) (L7 : Int → List Int → Option (List Int)) (x1 : List Int) (i : Int) (hx : x1.length < 1000) : ∀ (d j n : Nat) (v : BitVec 16), j + d = 8 → d < n →
    L7 (wr .i64 (i + 1)) (x1 ++ [u (E.many M d v)]) = X → m26F15 k L7 n (u v) i (j : Int) x1 = X := by
  intro d
  induction d with
  | zero =>
    intro j n v hj hn R
    obtain ⟨n, rfl⟩ : ∃ m, n = m + 1 := ⟨n - 1, by omega⟩
    rw [m26F15, m26X15, if_neg (by rw [ltI_neg (by omega)]; simp)]
    simp only [m26F24, m26X24, one_set]
    rw [if_pos (leI_pos (by simp only [List.length_singleton]; omega))]
    exact R
  | succ d ih =>
    intro j n v hj hn R
    obtain ⟨n, rfl⟩ : ∃ m, n = m + 1 := ⟨n - 1, by omega⟩
    rw [E.many_in] at R
    have hv := v.isLt
    have es : u (v <<< 1) = ((v.toNat * 2 % 65536 : Nat) : Int) := by
      unfold u
      rw [BitVec.toNat_shiftLeft, Nat.shiftLeft_eq]
    have ws := w64s (show j < 9223372036854775807 by omega)
    rw [m26F15, m26X15, if_pos (ltI_pos (by omega)), if_pos (leI_pos (by decide)), shl1_u, ws]
    by_cases h : 32768 ≤ v.toNat
    · have e2 : Go.bits .xor .i64 (Go.bits .and .i64 ((v.toNat * 2 : Nat) : Int) 65535) 4129 = u (M v) := by
        rw [and65535i _ (by omega), M_top h, ← es]
        exact xor_u (by decide) (v <<< 1) 4129#16
      rw [if_pos (ltI_pos (by omega)), e2]
      exact ih (j + 1) n (M v) (by omega) (by omega) R
    · have e2 : ((v.toNat * 2 : Nat) : Int) = u (M v) := by rw [M_not h, es]; omega
      rw [if_neg (by rw [ltI_neg (by omega)]; simp), e2]
      exact ih (j + 1) n (M v) (by omega) (by omega) R
open Bv Crc in
def tbl16 (n : Nat) : List Int := (List.range n).map (fun i : Nat => u (tab16 i))
open Bv Crc in
theorem tbl16_at (n i : Nat) (h : i < n) : (tbl16 n).getD (Int.toNat (i : Int)) 0 = u (tab16 i) := by
  unfold tbl16
  rw [Int.toNat_natCast, List.getD_eq_getElem?_getD, List.getElem?_map, List.getElem?_range h]
  rfl
theorem tbl16_length (n : Nat) : (tbl16 n).length = n := by simp [tbl16]
open Bv Crc in
theorem t16_outer (k : Nat) (hk : 10 ≤ k) : ∀ (d i n : Nat), i + d = 256 → d < n → m26F7 k n (i : Int) (tbl16 i) = some (tbl16 256) := by
  intro d
  induction d with
  | zero =>
    intro i n hi hn
    obtain ⟨n, rfl⟩ : ∃ m, n = m + 1 := ⟨n - 1, by omega⟩
    obtain rfl : i = 256 := by omega
    rw [m26F7, m26X7, if_neg (by rw [ltI_neg (by omega)]; simp)]
  | succ d ih =>
    intro i n hi hn
    obtain ⟨n, rfl⟩ : ∃ m, n = m + 1 := ⟨n - 1, by omega⟩
    have e : wr .i64 ((i : Int) * 256) = u (BitVec.ofNat 16 (i * 256)) := by
      unfold u
      rw [BitVec.toNat_ofNat, Nat.mod_eq_of_lt (by omega), w64 (by omega) (by omega)]
      omega
    have R := ih (i + 1) n (by omega) (by omega)
    have e3 : tbl16 (i + 1) = tbl16 i ++ [u (E.many M 8 (BitVec.ofNat 16 (i * 256)))] := by unfold tbl16; rw [List.range_succ, List.map_append]; rfl
    rw [e3, ← w64s (show i < 9223372036854775807 by omega)] at R
    rw [m26F7, m26X7, if_pos (ltI_pos (by omega)), if_pos (leI_pos (by decide)), e]
    exact t16_inner k _ (m26F7 k n) (tbl16 i) (i : Int) (by rw [tbl16_length]; omega) 8 0 k (BitVec.ofNat 16 (i * 256)) rfl (by omega) R
theorem table16_eq (k : Nat) (hk : 300 ≤ k) : m26F k = some (tbl16 256) := t16_outer k (by omega) 256 0 k rfl (by omega)
open Bv Crc in
theorem sum16_loop (k : Nat) (l : List Int) (hl : l.length ≤ 4096) : ∀ (rest pre : List Int) (n : Nat) (r : BitVec 16), l = pre ++ rest → (∀ c ∈ rest, isByte c) → rest.length < n →
    m19F11 k n (u r) l (l.length : Int) (pre.length : Int) (tbl16 256) = some (u (reg16 r rest), 0) := by
  intro rest
  induction rest with
  | nil =>
    intro pre n r h _ hn
    obtain ⟨n, rfl⟩ : ∃ m, n = m + 1 := ⟨n - 1, by simp only [List.length_nil] at hn; omega⟩
    have hlen : l.length = pre.length := by rw [h]; simp
    rw [m19F11, m19X11, if_neg (by rw [ltI_neg (by omega)]; simp)]
    rfl
  | cons c rest ih =>
    intro pre n r h hb hn
    obtain ⟨n, rfl⟩ : ∃ m, n = m + 1 := ⟨n - 1, by omega⟩
    have hlen : l.length = pre.length + (rest.length + 1) := by rw [h]; simp
    have hp : l.getD (Int.toNat (pre.length : Int)) 0 = c := by rw [h]; exact gd_at pre rest c 0
    obtain ⟨h0, h1⟩ := hb c (by simp)
    have ec : c = ((c.toNat : Nat) : Int) := by omega
    have hr := r.isLt
    have hix : (r.toNat / 256) ^^^ c.toNat < 2 ^ 8 := Nat.xor_lt_two_pow (by omega) (by omega)
    have ei : Go.bits .xor .i64 (u r / (256 : Int)) (wr .i64 c) = (((r.toNat / 256) ^^^ c.toNat : Nat) : Int) := by
      have e1 : u r / (256 : Int) = ((r.toNat / 256 : Nat) : Int) := by unfold u; omega
      rw [e1, w64 (by omega) (by omega), ec, xorN _ _ (by omega) (by omega), Int.toNat_natCast]
    have es : Go.bits .xor .i64 (Go.bits .and .i64 (wr .i64 (u r * 256)) 65535) (u (tab16 ((r.toNat / 256) ^^^ c.toNat))) = u (step16 r c) := by
      have e1 : wr .i64 (u r * 256) = ((r.toNat * 256 : Nat) : Int) := by
        unfold u
        rw [w64 (by omega) (by omega)]
        omega
      have e2 : ((r.toNat * 256 % 65536 : Nat) : Int) = u (r <<< 8) := by
        unfold u
        rw [BitVec.toNat_shiftLeft, Nat.shiftLeft_eq]
      rw [e1, and65535i _ (by omega), e2, xor_u (by decide), step_tab16 r c ⟨h0, h1⟩]
    have hlt : ((((r.toNat / 256) ^^^ c.toNat : Nat)) : Int) < ((tbl16 256).length : Int) := by rw [tbl16_length]; omega
    have c1 : (pre.length : Int) < (l.length : Int) := by omega
    have c2 : (0 : Int) ≤ (pre.length : Int) := by omega
    have h8 : (0 : Int) ≤ 8 := by decide
    have ws := w64s (show pre.length < 9223372036854775807 by omega)
    have hix' : (r.toNat / 256) ^^^ c.toNat < 256 := by omega
    have := ih (pre ++ [c]) n (step16 r c) (by rw [h]; simp) (fun y hy => hb y (by simp [hy])) (by simp only [List.length_cons] at hn; omega)
    rw [List.length_append, List.length_singleton] at this
    rw [m19F11, m19X11, if_pos (ltI_pos c1), if_pos (leI_pos c2), if_pos (ltI_pos c1), if_pos (leI_pos h8), if_pos (leI_pos h8), hp, ei, if_pos (leI_pos (Int.natCast_nonneg _)), if_pos (ltI_pos hlt), tbl16_at _ _ hix', es, ws]
    exact this
open Bv Crc in
theorem sum16_eq (k : Nat) (hk : 5000 ≤ k) (l : List Int) (hl : l.length ≤ 4096) (hb : ∀ c ∈ l, isByte c) : m19F k l = some (u (sum16 l), 0) := by
  simp only [m19F, m19X]
  rw [if_neg (by rw [ltI_neg (by omega)]; simp), table16_eq k (by omega), Option.bind_some]
  exact sum16_loop k l hl l [] k ones16 rfl hb (by omega)
open Crc Be Bv in
def datHead (s r f : Int) (n : Nat) : List Int := 68 :: (be 4 s ++ (be 1 r ++ (be 2 f ++ be 1 (n : Int))))
open Crc Be in
theorem datHead_length (s r f : Int) (n : Nat) : (datHead s r f n).length = 9 := by
  unfold datHead
  simp only [List.length_cons, List.length_append, be_length]
open Crc Be in
theorem datHead_bytes (s r f : Int) (n : Nat) : ∀ c ∈ datHead s r f n, isByte c := by
  unfold datHead
  intro c hc
  simp only [List.mem_cons, List.mem_append] at hc
  rcases hc with rfl | hc | hc | hc | hc
  · exact ⟨by omega, by omega⟩
  · exact be_bytes _ _ c hc
  · exact be_bytes _ _ c hc
  · exact be_bytes _ _ c hc
  · exact be_bytes _ _ c hc
open Crc Be Bv in
def datPack (s r f : Int) (x : List Int) : List Int := datHead s r f x.length ++ (be 2 (u (sum16 (datHead s r f x.length))) ++ x)
open Crc Be in
theorem datPack_length (s r f : Int) (x : List Int) : (datPack s r f x).length = 11 + x.length := by
  unfold datPack
  rw [List.length_append, List.length_append, datHead_length, be_length]
  omega
open Crc Be in
theorem datPack_bytes (s r f : Int) (x : List Int) (hx : ∀ c ∈ x, isByte c) : ∀ c ∈ datPack s r f x, isByte c := by
  unfold datPack
  intro c hc
  rcases List.mem_append.1 hc with hc | hc
  · exact datHead_bytes _ _ _ _ c hc
  · rcases List.mem_append.1 hc with hc | hc
    · exact be_bytes _ _ c hc
    · exact hx c hc
/-- What is wrong with data. -/
def datBad (s r f : Int) (n : Nat) : Int := if s < 0 ∨ 1073741824 ≤ s ∨ r < 0 ∨ 255 < r ∨ f < 0 ∨ 65535 < f then 1 else if n < 1 ∨ 64 < n then 2 else 0
open Crc Be Bv in
theorem datMake_eq (k : Nat) (hk : 5001 ≤ k) (s r f : Int) (x : List Int) (h : datBad s r f x.length = 0) : m10F k (s, r, f, x) = some (datPack s r f x, 0) := by
  unfold datBad at h
  split at h
  · cases h
  rename_i h1
  split at h
  · cases h
  rename_i h2
  have p1 : m20F k [68] s 4 = some ([68] ++ be 4 s, 0) := put_eq k (by omega) [68] s 4 (by omega) (by omega) (by simp) (by omega) (by omega)
  have p2 : m20F k ([68] ++ be 4 s) r 1 = some ([68] ++ be 4 s ++ be 1 r, 0) := put_eq k (by omega) _ r 1 (by omega) (by omega) (by simp [be_length]) (by omega) (by omega)
  have p3 : m20F k ([68] ++ be 4 s ++ be 1 r) f 2 = some ([68] ++ be 4 s ++ be 1 r ++ be 2 f, 0) := put_eq k (by omega) _ f 2 (by omega) (by omega) (by simp [be_length]) (by omega) (by omega)
  have p4 : m20F k ([68] ++ be 4 s ++ be 1 r ++ be 2 f) (x.length : Int) 1 = some ([68] ++ be 4 s ++ be 1 r ++ be 2 f ++ be 1 (x.length : Int), 0) := put_eq k (by omega) _ (x.length : Int) 1 (by omega) (by omega) (by simp [be_length]) (by omega) (by omega)
  have e : [68] ++ be 4 s ++ be 1 r ++ be 2 f ++ be 1 (x.length : Int) = datHead s r f x.length := by
    unfold datHead
    simp only [List.append_assoc, List.cons_append, List.nil_append]
  have hs := sum16_eq k (by omega) (datHead s r f x.length) (by rw [datHead_length]; omega) (datHead_bytes _ _ _ _)
  have hlt := (sum16 (datHead s r f x.length)).isLt
  have p5 : m20F k (datHead s r f x.length) (u (sum16 (datHead s r f x.length))) 2 = some (datHead s r f x.length ++ be 2 (u (sum16 (datHead s r f x.length))), 0) :=
    put_eq k (by omega) _ _ 2 (by omega) (by omega) (by rw [datHead_length]; omega) (u_nonneg _) (by unfold u; omega)
  simp only [m10F, m10X, one_set]
  rw [if_neg (by rw [ltI_neg (by omega)]; simp), if_neg (by rw [leI_neg (by omega)]; simp), if_neg (by rw [ltI_neg (by omega)]; simp), if_neg (by rw [ltI_neg (by omega)]; simp), if_neg (by rw [ltI_neg (by omega)]; simp), if_neg (by rw [ltI_neg (by omega)]; simp), if_neg (by rw [ltI_neg (by omega)]; simp), if_neg (by rw [ltI_neg (by omega)]; simp)]
  rw [p1, Option.bind_some]
  simp only [p2, Option.bind_some, p3, p4, e, hs, p5]
  rw [if_pos (leI_pos (by rw [List.length_append, datHead_length, be_length]; omega))]
  unfold datPack
  rw [List.append_assoc]
theorem datMake_bad (k : Nat) (s r f : Int) (x : List Int) (h : datBad s r f x.length ≠ 0) : m10F k (s, r, f, x) = some ([], datBad s r f x.length) := by
  unfold datBad at h ⊢
  simp only [m10F, m10X, ltI_eq, leI_eq, decide_eq_true_eq]
  by_cases h1 : s < 0
  · rw [if_pos h1, if_pos (.inl h1)]
  rw [if_neg h1]
  by_cases h2 : 1073741824 ≤ s
  · rw [if_pos h2, if_pos (.inr (.inl h2))]
  rw [if_neg h2]
  by_cases h3 : r < 0
  · rw [if_pos h3, if_pos (.inr (.inr (.inl h3)))]
  rw [if_neg h3]
  by_cases h4 : 255 < r
  · rw [if_pos h4, if_pos (.inr (.inr (.inr (.inl h4))))]
  rw [if_neg h4]
  by_cases h5 : f < 0
  · rw [if_pos h5, if_pos (.inr (.inr (.inr (.inr (.inl h5)))))]
  rw [if_neg h5]
  by_cases h6 : 65535 < f
  · rw [if_pos h6, if_pos (.inr (.inr (.inr (.inr (.inr h6)))))]
  rw [if_neg h6]
  have h7 : ¬ (s < 0 ∨ 1073741824 ≤ s ∨ r < 0 ∨ 255 < r ∨ f < 0 ∨ 65535 < f) := by omega
  rw [if_neg h7] at h ⊢
  by_cases h8 : (x.length : Int) < 1
  · rw [if_pos h8, if_pos (by omega)]
  rw [if_neg h8]
  by_cases h9 : (64 : Int) < (x.length : Int)
  · rw [if_pos h9, if_pos (by omega)]
  · rw [if_neg (show ¬ (x.length < 1 ∨ 64 < x.length) by omega)] at h
    exact absurd rfl h
open Crc Be Bv in
/-- What bytes are read as. -/
def datRead (l : List Int) : (Int × (Int × (Int × (List Int)))) × Int :=
  if l.length < 12 ∨ 75 < l.length then ((0, 0, 0, []), 2) else if l.getD 0 0 ≠ 68 then ((0, 0, 0, []), 12) else if u (sum16 (l.take 9)) ≠ num ((l.take 11).drop 9) then ((0, 0, 0, []), 4)
  else if 1073741824 ≤ num ((l.take 5).drop 1) then ((0, 0, 0, []), 1) else if l.getD 8 0 ≠ (l.length : Int) - 11 then ((0, 0, 0, []), 2)
  else ((num ((l.take 5).drop 1), l.getD 5 0, num ((l.take 8).drop 6), l.drop 11), 0)
theorem getD_byte (l : List Int) (hb : ∀ c ∈ l, Crc.isByte c) (i : Nat) (h : i < l.length) : Crc.isByte (l.getD i 0) := by
  rw [List.getD_eq_getElem?_getD, List.getElem?_eq_getElem h]
  exact hb _ (List.getElem_mem h)
open Crc Be Bv in
theorem datRead_eq (k : Nat) (hk : 5001 ≤ k) (l : List Int) (hl : l.length ≤ 4096) (hb : ∀ c ∈ l, isByte c) : m16F k l = some (datRead l) := by
  simp only [m16F, m16X]
  unfold datRead
  by_cases h1 : l.length < 12
  · rw [if_pos (leI_pos (by omega)), if_pos (.inl h1)]
  rw [if_neg (by rw [leI_neg (by omega)]; simp)]
  by_cases h2 : 75 < l.length
  · rw [if_pos (ltI_pos (by omega)), if_pos (.inr h2)]
  rw [if_neg (by rw [ltI_neg (by omega)]; simp), if_neg (show ¬ (l.length < 12 ∨ 75 < l.length) by omega), if_pos (leI_pos (by decide)), if_pos (ltI_pos (by omega))]
  by_cases h3 : l.getD 0 0 = 68
  · have s1 := sum16_eq k (by omega) (l.take 9) (by rw [List.length_take]; omega) (fun c hc => hb c (List.mem_of_mem_take hc))
    have g1 : m23F k l 9 2 = some (num ((l.take 11).drop 9), 0) := get_eq k (by omega) l 9 2 (by omega) (by omega) (by omega) (by omega) hb
    have g2 : m23F k l 1 4 = some (num ((l.take 5).drop 1), 0) := get_eq k (by omega) l 1 4 (by omega) (by omega) (by omega) (by omega) hb
    have g3 : m23F k l 6 2 = some (num ((l.take 8).drop 6), 0) := get_eq k (by omega) l 6 2 (by omega) (by omega) (by omega) (by omega) hb
    rw [if_neg (by rw [eqI_pos h3]; simp), if_pos (leI_pos (by decide)), if_pos (leI_pos (by omega)), s1, Option.bind_some, g1, Option.bind_some, g2, Option.bind_some, g3, Option.bind_some, if_neg (show ¬ l.getD 0 0 ≠ 68 by omega)]
    by_cases h4 : u (sum16 (l.take 9)) = num ((l.take 11).drop 9)
    · rw [if_neg (by rw [eqI_pos h4]; simp), if_neg (show ¬ u (sum16 (l.take 9)) ≠ num ((l.take 11).drop 9) from fun h => h h4)]
      by_cases h5 : 1073741824 ≤ num ((l.take 5).drop 1)
      · rw [if_pos (leI_pos h5), if_pos h5]
      · rw [if_neg (by rw [leI_neg h5]; simp), if_neg h5, if_pos (leI_pos (by decide)), if_pos (ltI_pos (by omega))]
        have b8 := getD_byte l hb 8 (by omega)
        have b5 := getD_byte l hb 5 (by omega)
        have w8 : wr .i64 (l.getD 8 0) = l.getD 8 0 := w64 (by have := b8.1; omega) (by have := b8.2; omega)
        have w5 : wr .i64 (l.getD 5 0) = l.getD 5 0 := w64 (by have := b5.1; omega) (by have := b5.2; omega)
        have wl : wr .i64 ((l.length : Int) - 11) = (l.length : Int) - 11 := w64 (by omega) (by omega)
        rw [w8, w5, wl]
        by_cases h6 : l.getD 8 0 = (l.length : Int) - 11
        · rw [if_neg (by rw [eqI_pos h6]; simp), if_neg (show ¬ l.getD 8 0 ≠ (l.length : Int) - 11 from fun h => h h6), if_pos (leI_pos (by decide)), if_pos (ltI_pos (by omega)), if_pos (leI_pos (by decide)), if_pos (leI_pos (by omega)), clone_eq k _ (by rw [List.length_drop]; omega), Option.bind_some]
        · rw [if_pos (by rw [eqI_neg h6]; rfl), if_pos h6]
    · rw [if_pos (by rw [eqI_neg h4]; rfl), if_pos h4]
  · rw [if_pos (by rw [eqI_neg h3]; rfl), if_pos h3]
open Crc Be Bv in
theorem datPack_parts (s r f : Int) (x : List Int) : (datPack s r f x).take 9 = datHead s r f x.length ∧ ((datPack s r f x).take 11).drop 9 = be 2 (u (sum16 (datHead s r f x.length))) ∧ ((datPack s r f x).take 5).drop 1 = be 4 s ∧ ((datPack s r f x).take 8).drop 6 = be 2 f ∧
    (datPack s r f x).drop 11 = x ∧ (datPack s r f x).getD 0 0 = 68 ∧ (datPack s r f x).getD 5 0 = r % 256 ∧ (datPack s r f x).getD 8 0 = (x.length : Int) % 256 := by
  have l9 := datHead_length s r f x.length
  refine ⟨?_, ?_, ?_, ?_, ?_, rfl, ?_, ?_⟩
  · unfold datPack
    rw [← l9, List.take_left]
  · unfold datPack
    generalize u (sum16 (datHead s r f x.length)) = z
    have h : datHead s r f x.length ++ (be 2 z ++ x) = (datHead s r f x.length ++ be 2 z) ++ x := (List.append_assoc ..).symm
    have l11 : (datHead s r f x.length ++ be 2 z).length = 11 := by rw [List.length_append, l9, be_length]
    rw [h, ← l11, List.take_left]
    rw [← l9, List.drop_left]
  · have h : datPack s r f x = [68] ++ be 4 s ++ (be 1 r ++ (be 2 f ++ be 1 (x.length : Int)) ++ (be 2 (u (sum16 (datHead s r f x.length))) ++ x)) := by
      unfold datPack
      conv => lhs; arg 1; unfold datHead
      simp only [List.append_assoc, List.cons_append, List.nil_append]
    have l5 : ([68] ++ be 4 s).length = 5 := by rw [List.length_append, be_length]; rfl
    rw [h, ← l5, List.take_left]
    rfl
  · have h : datPack s r f x = [68] ++ be 4 s ++ be 1 r ++ be 2 f ++ (be 1 (x.length : Int) ++ (be 2 (u (sum16 (datHead s r f x.length))) ++ x)) := by
      unfold datPack
      conv => lhs; arg 1; unfold datHead
      simp only [List.append_assoc, List.cons_append, List.nil_append]
    have l6 : ([68] ++ be 4 s ++ be 1 r).length = 6 := by rw [List.length_append, List.length_append, be_length, be_length]; rfl
    have l8 : ([68] ++ be 4 s ++ be 1 r ++ be 2 f).length = 8 := by rw [List.length_append, l6, be_length]
    rw [h, ← l8, List.take_left, ← l6, List.drop_left]
  · have h : datPack s r f x = (datHead s r f x.length ++ be 2 (u (sum16 (datHead s r f x.length)))) ++ x := by
      unfold datPack
      rw [List.append_assoc]
    have l11 : (datHead s r f x.length ++ be 2 (u (sum16 (datHead s r f x.length)))).length = 11 := by rw [List.length_append, l9, be_length]
    rw [h, ← l11, List.drop_left]
  · show r / ((256 ^ 0 : Nat) : Int) % 256 = r % 256
    simp
  · show (x.length : Int) / ((256 ^ 0 : Nat) : Int) % 256 = (x.length : Int) % 256
    simp
open Crc Be Bv in
theorem datRead_pack (s r f : Int) (x : List Int) (h : datBad s r f x.length = 0) : datRead (datPack s r f x) = ((s, r, f, x), 0) := by
  unfold datBad at h
  split at h
  · cases h
  rename_i h1
  split at h
  · cases h
  rename_i h2
  obtain ⟨e1, e2, e3, e4, e5, e6, e7, e8⟩ := datPack_parts s r f x
  have hlt := (sum16 (datHead s r f x.length)).isLt
  have hlen := datPack_length s r f x
  unfold datRead
  rw [e1, e2, e3, e4, e5, e6, e7, e8, num_be' 2 _ (u_nonneg _) (by unfold u; omega), num_be' 4 s (by omega) (by omega), num_be' 2 f (by omega) (by omega), hlen]
  rw [if_neg (by omega), if_neg (by omega), if_neg (by simp), if_neg (by omega), if_neg (by omega)]
  have : r % 256 = r := by omega
  rw [this]
theorem datEq_eq (k : Nat) (hk : 5001 ≤ k) (s r f s' r' f' : Int) (x x' : List Int) (hx : x.length ≤ 5000) : m12F k (s, r, f, x) (s', r', f', x') = some (decide ((s, r, f, x) = (s', r', f', x'))) := by
  simp only [m12F, m12X, bytes_eq' k hk x x' hx, Option.bind_some]
  by_cases h1 : s = s'
  · by_cases h2 : r = r'
    · by_cases h3 : f = f'
      · simp [eqI_eq, h1, h2, h3]
      · simp [eqI_eq, h1, h2, h3]
    · simp [eqI_eq, h1, h2]
  · simp [eqI_eq, h1]
open Crc Be Bv in
theorem wakes14 (k : Nat) (hk : 5001 ≤ k) : m13F k = some true := by
  have m := datMake_eq k hk 3 2 5 [9] rfl
  have r := datRead_eq k hk (datPack 3 2 5 [9]) (by rw [datPack_length]; simp) (datPack_bytes 3 2 5 [9] (fun c hc => by
    rw [List.mem_singleton] at hc
    subst hc
    exact ⟨by omega, by omega⟩))
  rw [datRead_pack 3 2 5 [9] rfl] at r
  have hl : ((datPack 3 2 5 [9]).length : Int) = 12 := by rw [datPack_length]; rfl
  simp only [m13F, m13X, one_set, m, Option.bind_some, r, eqI_eq, decide_true, if_true, hl, List.length_singleton]
  rfl
open Bv Crc E in
theorem one_down16 : ∀ i : Fin 16, many M i.val (BitVec.ofNat 16 (2 ^ (15 - i.val))) = 32768#16 := by decide +kernel
open Bv Crc E in
theorem one_up16 : ∀ b : Fin 8, many M 8 (BitVec.ofNat 16 (2 ^ (7 - b.val) * 256)) = many M (8 - b.val) 32768#16 := by decide +kernel
open Bv Crc E in
theorem flip_byte16 (r : BitVec 16) (c b : Nat) (hb : b < 8) : step16 r ((c ^^^ 2 ^ (7 - b) : Nat) : Int) = step16 r (c : Int) ^^^ many M (8 - b) 32768#16 := by
  have e : by16 ((c ^^^ 2 ^ (7 - b) : Nat) : Int) = by16 (c : Int) ^^^ BitVec.ofNat 16 (2 ^ (7 - b) * 256) := by
    unfold by16
    rw [Int.toNat_natCast, Int.toNat_natCast, ← BitVec.ofNat_xor]
    congr 1
    rw [show (256 : Nat) = 2 ^ 8 from rfl, ← Nat.shiftLeft_eq, ← Nat.shiftLeft_eq, ← Nat.shiftLeft_eq, Nat.shiftLeft_xor_distrib]
  unfold step16
  rw [e, ← BitVec.xor_assoc, many_xor M_xor, one_up16 ⟨b, hb⟩]
open Bv Crc E in
theorem step_xor16 (r d : BitVec 16) (c : Int) : step16 (r ^^^ d) c = step16 r c ^^^ many M 8 d := by
  unfold step16
  rw [← many_xor M_xor]
  congr 1
  rw [BitVec.xor_assoc, BitVec.xor_comm d, ← BitVec.xor_assoc]
open Bv Crc E in
theorem reg_xor16 (l : List Int) : ∀ r d : BitVec 16, reg16 (r ^^^ d) l = reg16 r l ^^^ many M (8 * l.length) d := by
  induction l with
  | nil => intro r d; rw [reg16_nil, reg16_nil, List.length_nil, Nat.mul_zero, many_zero]
  | cons c l ih =>
    intro r d
    rw [reg16_cons, reg16_cons, step_xor16, ih, ← many_add, List.length_cons]
    congr 2
open Bv Crc E in
theorem reg16_append (r : BitVec 16) (l m : List Int) : reg16 r (l ++ m) = reg16 (reg16 r l) m := by unfold reg16; rw [List.foldl_append]
open Bv Crc E in
theorem flip_reg16 (r : BitVec 16) (l : List Int) (hb : ∀ c ∈ l, isByte c) (j : Nat) (hj : j < 8 * l.length) :
    reg16 r (l.set (j / 8) (((l.getD (j / 8) 0).toNat ^^^ 2 ^ (7 - j % 8) : Nat) : Int)) = reg16 r l ^^^ many M (8 * l.length - j) 32768#16 := by
  have hi : j / 8 < l.length := by omega
  have hc : isByte (l[j / 8]) := hb _ (List.getElem_mem hi)
  have hg : l.getD (j / 8) 0 = l[j / 8] := by rw [List.getD_eq_getElem?_getD, List.getElem?_eq_getElem hi]; rfl
  have e1 : l = l.take (j / 8) ++ l[j / 8] :: l.drop (j / 8 + 1) := by
    rw [List.getElem_cons_drop, List.take_append_drop]
  have hn : (l[j / 8]) = ((l[j / 8].toNat : Nat) : Int) := by have := hc.1; omega
  rw [hg, List.set_eq_take_append_cons_drop, if_pos hi, reg16_append, reg16_cons, flip_byte16 _ _ _ (by omega), reg_xor16, ← many_add]
  have e2 : reg16 r l = reg16 (step16 (reg16 r (l.take (j / 8))) (l[j / 8])) (l.drop (j / 8 + 1)) := by
    conv => lhs; rw [e1]
    rw [reg16_append, reg16_cons]
  rw [e2, ← hn, List.length_drop]
  congr 2
  omega
/-- The bits of B below i, each mirrored. -/
def mir (B : Nat) : Nat → BitVec 16
  | 0 => 0#16
  | i + 1 => if B / 2 ^ i % 2 = 1 then mir B i ^^^ BitVec.ofNat 16 (2 ^ (15 - i)) else mir B i
theorem mir_bit (B : Nat) : ∀ i, i ≤ 16 → ∀ j, j < 16 → (mir B i).getLsbD j = (decide (15 - j < i) && B.testBit (15 - j))
  | 0, _, j, hj => by
    rw [mir]
    simp
  | i + 1, hi, j, hj => by
    have ih := mir_bit B i (by omega) j hj
    have hb : (B / 2 ^ i % 2 = 1) ↔ B.testBit i = true := by
      rw [Nat.testBit_eq_decide_div_mod_eq, decide_eq_true_eq]
    rw [mir]
    split
    · rename_i h
      rw [BitVec.getLsbD_xor, ih, BitVec.getLsbD_ofNat, Nat.testBit_two_pow]
      by_cases e : 15 - i = j
      · have e' : 15 - j = i := by omega
        rw [e', hb.1 h]
        simp [e, hj]
      · have e' : ¬ 15 - j = i := by omega
        by_cases k : 15 - j < i
        · simp [e, k, show 15 - j < i + 1 by omega]
        · simp [e, k, show ¬ 15 - j < i + 1 by omega]
    · rename_i h
      rw [ih]
      by_cases e' : 15 - j = i
      · have : B.testBit i = false := by
          cases hh : B.testBit i
          · rfl
          · exact absurd (hb.2 hh) h
        rw [e', this]
        simp
      · by_cases k : 15 - j < i
        · simp [k, show 15 - j < i + 1 by omega]
        · simp [k, show ¬ 15 - j < i + 1 by omega]
theorem mir_zero (B i : Nat) (hi : i ≤ 16) : mir B i = 0#16 ↔ B % 2 ^ i = 0 := by
  constructor
  · intro h
    apply Nat.eq_of_testBit_eq
    intro j
    rw [Nat.testBit_mod_two_pow, Nat.zero_testBit]
    by_cases k : j < i
    · have := mir_bit B i hi (15 - j) (by omega)
      rw [h, show 15 - (15 - j) = j by omega, decide_eq_true k] at this
      simpa [k] using this.symm
    · simp [k]
  · intro h
    apply BitVec.eq_of_getLsbD_eq
    intro j hj
    rw [mir_bit B i hi j hj]
    by_cases k : 15 - j < i
    · have := congrArg (fun n => n.testBit (15 - j)) h
      simp only [Nat.testBit_mod_two_pow, Nat.zero_testBit] at this
      rw [decide_eq_true k, Bool.true_and] at this
      rw [this]
      simp
    · simp [k]
open Bv Crc E in
/-- Bits of B from the bit p on, turned about in a text, the highest of each byte first. -/
structure Flip16 (x0 x : List Int) (p i B : Nat) : Prop where
  len : x.length = x0.length
  byt : ∀ c ∈ x, isByte c
  reg : reg16 ones16 (x.take 11) = reg16 ones16 (x0.take 11) ^^^ many M (88 - p) (mir B i)
  same : B % 2 ^ i = 0 → x = x0
  head : ∀ t, 8 * t + 8 ≤ p → x.getD t 0 = x0.getD t 0
  tail : ∀ t, 11 ≤ t → x.getD t 0 = x0.getD t 0
open Bv Crc E in
theorem Flip16.zero {x0 : List Int} {p B : Nat} (hb : ∀ c ∈ x0, isByte c) : Flip16 x0 x0 p 0 B := by
  refine ⟨rfl, hb, ?_, fun _ => rfl, fun _ _ => rfl, fun _ _ => rfl⟩
  rw [mir, manyM_zero, BitVec.xor_zero]
theorem bit_more16 (B i : Nat) : B % 2 ^ (i + 1) = B % 2 ^ i + 2 ^ i * (B / 2 ^ i % 2) := by
  rw [Nat.pow_succ, Nat.mod_mul]
open Bv Crc E in
theorem Flip16.skip {x0 x : List Int} {p i B : Nat} (h : Flip16 x0 x p i B) (hb : B / 2 ^ i % 2 = 0) : Flip16 x0 x p (i + 1) B := by
  have e : B % 2 ^ (i + 1) = B % 2 ^ i := by rw [bit_more16, hb, Nat.mul_zero, Nat.add_zero]
  have e2 : mir B (i + 1) = mir B i := by rw [mir, if_neg (by omega)]
  exact ⟨h.len, h.byt, by rw [e2]; exact h.reg, by rw [e]; exact h.same, h.head, h.tail⟩
open Bv Crc E in
theorem Flip16.one {x0 x : List Int} {p i B : Nat} (h : Flip16 x0 x p i B) (hb : B / 2 ^ i % 2 = 1) (hp : p + i < 88) (hi : i < 16) (hl : 11 ≤ x0.length) :
    Flip16 x0 (x.set ((p + i) / 8) (((x.getD ((p + i) / 8) 0).toNat ^^^ 2 ^ (7 - (p + i) % 8) : Nat) : Int)) p (i + 1) B := by
  have e : B % 2 ^ (i + 1) = B % 2 ^ i + 2 ^ i := by rw [bit_more16, hb, Nat.mul_one]
  have hpos := Nat.two_pow_pos i
  have h11 : (p + i) / 8 < 11 := by clear e hb; omega
  have hix : (p + i) / 8 < x.length := by rw [h.len]; clear e hb; omega
  have hbt : isByte (x.getD ((p + i) / 8) 0) := by
    rw [List.getD_eq_getElem?_getD, List.getElem?_eq_getElem hix]
    exact h.byt _ (List.getElem_mem hix)
  refine ⟨by rw [List.length_set]; exact h.len, fun c hc => ?_, ?_, fun h0 => by omega, fun t ht => ?_, fun t ht => ?_⟩
  · rcases List.mem_or_eq_of_mem_set hc with hc | rfl
    · exact h.byt c hc
    · have h2 : 2 ^ (7 - (p + i) % 8) < 2 ^ 8 := Nat.pow_lt_pow_right (by decide) (by omega)
      have h3 : (x.getD ((p + i) / 8) 0).toNat ^^^ 2 ^ (7 - (p + i) % 8) < 2 ^ 8 := Nat.xor_lt_two_pow (by have := hbt.1; have := hbt.2; omega) h2
      exact ⟨Int.natCast_nonneg _, by generalize (x.getD ((p + i) / 8) 0).toNat ^^^ 2 ^ (7 - (p + i) % 8) = z at h3 ⊢; omega⟩
  · have hlt : (x.take 11).length = 11 := by rw [List.length_take, h.len]; omega
    have hg : (x.take 11).getD ((p + i) / 8) 0 = x.getD ((p + i) / 8) 0 := by
      rw [List.getD_eq_getElem?_getD, List.getD_eq_getElem?_getD, List.getElem?_take, if_pos h11]
    have f := flip_reg16 ones16 (x.take 11) (fun c hc => h.byt c (List.mem_of_mem_take hc)) (p + i) (by rw [hlt]; exact hp)
    rw [hg, hlt] at f
    rw [List.take_set, f, h.reg, BitVec.xor_assoc]
    have e3 : mir B (i + 1) = mir B i ^^^ BitVec.ofNat 16 (2 ^ (15 - i)) := by rw [mir, if_pos hb]
    rw [e3, many_xor M_xor]
    congr 2
    have := one_down16 ⟨i, hi⟩
    rw [← this, ← many_add]
    congr 1
    show 8 * 11 - (p + i) + i = _
    clear e hb
    omega
  · rw [← h.head t ht, List.getD_eq_getElem?_getD, List.getD_eq_getElem?_getD, List.getElem?_set_ne (by clear e hb; omega)]
    rfl
  · rw [← h.tail t ht, List.getD_eq_getElem?_getD, List.getD_eq_getElem?_getD, List.getElem?_set_ne (by clear e hb; omega)]
    rfl
open Bv in
theorem shr_u8 (c j : Nat) (hj : j < 8) : (c : Int) / p2 (min (Int.toNat (wr .u64 (j : Int))) 8) = ((c / 2 ^ j : Nat) : Int) := by
  rw [wu64 (by omega) (by omega), Int.toNat_natCast, Nat.min_eq_left (by omega)]
  unfold p2
  exact (Int.natCast_ediv ..).symm
/-! A text's bits, the page's. -/
def bitsB (l : List Int) : List Int := l.flatMap (fun c => (Crc.bitsOf c.toNat).map (fun b : Nat => (b : Int)))
theorem bitsB_nil : bitsB [] = [] := rfl
theorem bitsB_cons (c : Int) (l : List Int) : bitsB (c :: l) = (Crc.bitsOf c.toNat).map (fun b : Nat => (b : Int)) ++ bitsB l := rfl
theorem bitsB_app (l m : List Int) : bitsB (l ++ m) = bitsB l ++ bitsB m := List.flatMap_append ..
theorem bitsB_length (l : List Int) : (bitsB l).length = 8 * l.length := by
  induction l with
  | nil => rfl
  | cons c l ih =>
    rw [bitsB_cons, List.length_append, ih, List.length_cons]
    have : ((Crc.bitsOf c.toNat).map (fun b : Nat => (b : Int))).length = 8 := by simp [Crc.bitsOf]
    omega
theorem bitsB_eq (l : List Int) : bitsB l = (l.flatMap (fun c => Crc.bitsOf c.toNat)).map (fun b : Nat => (b : Int)) := by
  unfold bitsB
  rw [List.map_flatMap]
theorem bitsB_lt (l : List Int) : ∀ b ∈ l.flatMap (fun c => Crc.bitsOf c.toNat), b < 2 := by
  intro b hb'
  obtain ⟨c, _, hc⟩ := List.mem_flatMap.1 hb'
  unfold Crc.bitsOf at hc
  obtain ⟨j, _, rfl⟩ := List.mem_map.1 hc
  omega
theorem rb_ar (n j len : Nat) (hj : j < 8) (hn : n < len) (hl : len ≤ 4096) : wr .i64 (8 * (len : Int)) = ((8 * len : Nat) : Int) ∧ ltI ((8 * n + j : Nat) : Int) ((8 * len : Nat) : Int) = true ∧ wr .i64 (Int.tdiv ((8 * n + j : Nat) : Int) 8) = (n : Int) ∧ leI 0 (n : Int) = true ∧ ltI (n : Int) (len : Int) = true ∧
    wr .i64 (7 - Int.tmod ((8 * n + j : Nat) : Int) 8) = ((7 - j : Nat) : Int) ∧ wr .i64 (((8 * n + j : Nat) : Int) + 1) = ((8 * n + (j + 1) : Nat) : Int) ∧ leI (((8 * n + j + 1) * 8 : Nat) : Int) 140737488355328 = true ∧ leI 0 (wr .u64 ((7 - j : Nat) : Int)) = true := by
  refine ⟨by rw [w64 (by omega) (by omega)]; omega, ltI_pos (by omega), ?_, leI_pos (by omega), ltI_pos (by omega), ?_, by rw [w64 (by omega) (by omega)]; omega, leI_pos (by omega), ?_⟩
  · rw [Int.tdiv_eq_ediv_of_nonneg (by omega), w64 (by omega) (by omega)]
    omega
  · rw [Int.tmod_eq_emod_of_nonneg (by omega), w64 (by omega) (by omega)]
    omega
  · rw [wu64 (by omega) (by omega)]
    exact leI_pos (by omega)
theorem refbits_inner (k : Nat) (l : List Int) (n c : Nat) (hl : l.length ≤ 4096) (hc : c < 256) (hn : n < l.length) (hr : l.getD n 0 = (c : Int)) (X : Option (List Int)) : ∀ (d j m : Nat) (acc : List Int), j + d = 8 → acc.length = 8 * n + j →
    m27F7 k m l ((8 * n + 8 : Nat) : Int) (acc ++ ((List.range' j d).map (fun j => c / 2 ^ (7 - j) % 2)).map (fun b : Nat => (b : Int))) = X →
    m27F7 k (m + d) l ((8 * n + j : Nat) : Int) acc = X := by
  intro d
  induction d with
  | zero =>
    intro j m acc hj _ R
    obtain rfl : j = 8 := by omega
    simpa using R
  | succ d ih =>
    intro j m acc hj ha R
    rw [List.range'_succ, List.map_cons, List.map_cons] at R
    have e8 : (!eqI 8 0) = true := by rw [eqI_neg (by decide)]; rfl
    have hd : c / 2 ^ (7 - j) ≤ c := Nat.div_le_self _ _
    have hd2 : c / 2 ^ (7 - j) < 9223372036854775808 := by omega
    have hs := shr_u8 c (7 - j) (by omega)
    have h1 : j + 1 + d = 8 := by omega
    have h2 : (acc ++ [((c / 2 ^ (7 - j) % 2 : Nat) : Int)]).length = 8 * n + (j + 1) := by rw [List.length_append, List.length_singleton]; omega
    obtain ⟨a1, a2, a3, a4, a5, a6, a7, a8, a9⟩ := rb_ar n j l.length (by omega) hn hl
    have ew := w64n hd2
    have e1 := Bv.and1 (c / 2 ^ (7 - j)) hd2
    rw [show m + (d + 1) = (m + d) + 1 from rfl, m27F7, m27X7]
    simp only [a1, a2, a3, a4, a5, a6, a7, a9, if_true, e8, Int.toNat_natCast, hr, hs, ew, e1, one_set, List.length_singleton, ha, a8]
    refine ih (j + 1) m _ h1 h2 ?_
    rw [List.append_assoc]
    exact R
open Crc in
theorem refbits_loop (k : Nat) (l : List Int) (hl : l.length ≤ 4096) : ∀ (rest pre : List Int) (m : Nat), l = pre ++ rest → (∀ c ∈ rest, isByte c) → 8 * rest.length < m →
    m27F7 k m l ((8 * pre.length : Nat) : Int) (bitsB pre) = some (bitsB l) := by
  intro rest
  induction rest with
  | nil =>
    intro pre m h _ hm
    obtain ⟨m, rfl⟩ : ∃ x, m = x + 1 := ⟨m - 1, by omega⟩
    rw [List.append_nil] at h
    subst h
    have w8 : wr .i64 (8 * (l.length : Int)) = ((8 * l.length : Nat) : Int) := by rw [w64 (by omega) (by omega)]; omega
    rw [m27F7, m27X7, w8, if_neg (by rw [ltI_neg (by omega)]; simp)]
  | cons c rest ih =>
    intro pre m h hb hm
    have hlen : l.length = pre.length + (rest.length + 1) := by rw [h]; simp
    obtain ⟨h0, h1⟩ := hb c (by simp)
    have hp : l.getD pre.length 0 = ((c.toNat : Nat) : Int) := by
      have := gd_at pre rest c 0
      rw [Int.toNat_natCast] at this
      rw [h, this]
      omega
    rw [List.length_cons] at hm
    obtain ⟨m, rfl⟩ : ∃ x, m = x + 8 := ⟨m - 8, by omega⟩
    refine refbits_inner k l pre.length c.toNat hl (by omega) (by omega) hp _ 8 0 m (bitsB pre) rfl (by rw [bitsB_length, Nat.add_zero]) ?_
    have e : bitsB (pre ++ [c]) = bitsB pre ++ ((List.range' 0 8).map (fun j => c.toNat / 2 ^ (7 - j) % 2)).map (fun b : Nat => (b : Int)) := by
      unfold bitsB bitsOf
      rw [List.flatMap_append]
      simp
    have := ih (pre ++ [c]) m (by rw [h]; simp) (fun y hy => hb y (by simp [hy])) (by omega)
    rw [e, List.length_append, List.length_singleton, Nat.mul_add, Nat.mul_one] at this
    exact this
open Crc in
theorem refbits_eq (k : Nat) (l : List Int) (hl : l.length ≤ 4096) (hk : 8 * l.length < k) (hb : ∀ c ∈ l, isByte c) : m27F k l = some (bitsB l) := by
  simp only [m27F, m27X]
  exact refbits_loop k l hl l [] k rfl hb hk
open Bv Crc in
theorem shift16_eq (k : Nat) (r : BitVec 16) (b : Nat) (hb : b < 2) : m28F k (u r) (b : Int) = some (u (M (r ^^^ top16 b))) := by
  have hr := r.isLt
  have e1 : u r / (32768 : Int) = ((r.toNat / 32768 : Nat) : Int) := by unfold u; omega
  have e2 : wr .i64 (u r * 2) = ((r.toNat * 2 : Nat) : Int) := by
    unfold u
    rw [w64 (by omega) (by omega)]
    omega
  have e3 : ((r.toNat * 2 % 65536 : Nat) : Int) = u (r <<< 1) := by
    unfold u
    rw [BitVec.toNat_shiftLeft, Nat.shiftLeft_eq]
  have hx : (r ^^^ top16 b).toNat = r.toNat ^^^ (b * 32768) := by unfold top16; rw [BitVec.toNat_xor, BitVec.toNat_ofNat, Nat.mod_eq_of_lt (by omega)]
  have hd : (r.toNat ^^^ (b * 32768)) / 32768 = (r.toNat / 32768) ^^^ b := by
    have h := Nat.shiftRight_xor_distrib (a := r.toNat) (b := b * 32768) (i := 15)
    rw [Nat.shiftRight_eq_div_pow, Nat.shiftRight_eq_div_pow, Nat.shiftRight_eq_div_pow] at h
    have h2 : b * 32768 / 2 ^ 15 = b := by omega
    rw [h2] at h
    exact h
  have hlt : r.toNat ^^^ (b * 32768) < 2 ^ 16 := Nat.xor_lt_two_pow (by omega) (by omega)
  have hs : (r ^^^ top16 b) <<< 1 = r <<< 1 := by
    apply BitVec.eq_of_getLsbD_eq
    intro i hi
    rw [BitVec.getLsbD_shiftLeft, BitVec.getLsbD_shiftLeft, BitVec.getLsbD_xor]
    have ht : (top16 b).getLsbD (i - 1) = false := by
      unfold top16
      rw [BitVec.getLsbD_ofNat, show (32768 : Nat) = 2 ^ 15 from rfl, Nat.testBit_mul_two_pow]
      simp
      omega
    rw [ht, Bool.xor_false]
  have hq : r.toNat / 32768 < 2 := by omega
  have c1 : leI 0 15 = true := leI_pos (by decide)
  have c2 : leI 0 1 = true := leI_pos (by decide)
  simp only [m28F, m28X, c1, c2, if_true, e1, e2, and65535i _ (show r.toNat * 2 < 9223372036854775808 by omega), e3]
  by_cases h : r.toNat / 32768 = b
  · have hz : (r.toNat ^^^ (b * 32768)) / 32768 = 0 := by rw [hd, h, Nat.xor_self]
    have e : (!eqI ((r.toNat / 32768 : Nat) : Int) (b : Int)) = false := by rw [eqI_pos (by omega)]; rfl
    rw [if_neg (by rw [e]; simp), M_not (by rw [hx]; omega), hs]
  · have hz : (r.toNat ^^^ (b * 32768)) / 32768 = 1 := by
      rw [hd]
      have hb2 : b = 0 ∨ b = 1 := by omega
      have hq2 : r.toNat / 32768 = 0 ∨ r.toNat / 32768 = 1 := by omega
      rcases hb2 with hb2 | hb2 <;> rcases hq2 with hq2 | hq2 <;> rw [hb2, hq2] <;> first | rfl | (exfalso; omega)
    have e : (!eqI ((r.toNat / 32768 : Nat) : Int) (b : Int)) = true := by rw [eqI_neg (by omega)]; rfl
    rw [if_pos e, M_top (by rw [hx]; omega), hs]
    have := xor_u (by decide) (r <<< 1) 4129#16
    rw [← this]
    rfl
open Bv Crc in
theorem ref16_loop (k : Nat) (l : List Int) (hl : l.length < 100000) : ∀ (bs : List Nat) (pre : List Int) (m : Nat) (r : BitVec 16), l = pre ++ bs.map (fun b : Nat => (b : Int)) → (∀ b ∈ bs, b < 2) → bs.length < m →
    m22F9 k m (u r) (pre.length : Int) l = some (u (fd16 r (bs.map top16))) := by
  intro bs
  induction bs with
  | nil =>
    intro pre m r h _ hm
    obtain ⟨m, rfl⟩ : ∃ x, m = x + 1 := ⟨m - 1, by omega⟩
    have hlen : l.length = pre.length := by rw [h]; simp
    rw [m22F9, m22X9, if_neg (by rw [ltI_neg (by omega)]; simp)]
    rfl
  | cons b bs ih =>
    intro pre m r h hb hm
    obtain ⟨m, rfl⟩ : ∃ x, m = x + 1 := ⟨m - 1, by omega⟩
    have hlen : l.length = pre.length + (bs.length + 1) := by rw [h]; simp
    have hp : l.getD (Int.toNat (pre.length : Int)) 0 = (b : Int) := by rw [h, List.map_cons]; exact gd_at pre _ _ 0
    have := ih (pre ++ [(b : Int)]) m (M (r ^^^ top16 b)) (by rw [h]; simp) (fun y hy => hb y (by simp [hy])) (by simp only [List.length_cons] at hm; omega)
    rw [List.length_append, List.length_singleton] at this
    have hs := shift16_eq k r b (hb b (by simp))
    have ws := w64s (show pre.length < 9223372036854775807 by omega)
    rw [m22F9, m22X9, if_pos (ltI_pos (by omega)), if_pos (leI_pos (by omega)), if_pos (ltI_pos (by omega)), hp, hs, Option.bind_some, ws]
    exact this
open Bv Crc in
theorem fd16_bits (l : List Int) (hb : ∀ c ∈ l, isByte c) : ∀ r : BitVec 16, fd16 r ((l.flatMap (fun c => bitsOf c.toNat)).map top16) = reg16 r l := by
  induction l with
  | nil => intro r; rfl
  | cons c l ih =>
    intro r
    rw [List.flatMap_cons, List.map_append, fd16_append, fd16_byte r c (hb c (by simp)), ih (fun y hy => hb y (by simp [hy])), reg16_cons]
open Bv Crc in
theorem ref16_eq (k : Nat) (l : List Int) (hl : l.length ≤ 4096) (hk : 8 * l.length < k) (hb : ∀ c ∈ l, isByte c) : m22F k l = some (u (sum16 l)) := by
  have e := bitsB_eq l
  have hlen : (l.flatMap (fun c => bitsOf c.toNat)).length = 8 * l.length := by
    have := bitsB_length l
    rw [e, List.length_map] at this
    exact this
  have := ref16_loop k (bitsB l) (by rw [bitsB_length]; omega) _ [] k ones16 e (bitsB_lt l) (by rw [hlen]; exact hk)
  rw [fd16_bits l hb] at this
  simp only [m22F, m22X, refbits_eq k l hl hk hb, Option.bind_some]
  exact this
open Be in
theorem p2_256u (s : Nat) (h : s ≤ 4) : p2 (min (Int.toNat (wr .u64 (wr .i64 (8 * (s : Int))))) 64) = ((256 ^ s : Nat) : Int) := by
  obtain rfl | rfl | rfl | rfl | rfl : s = 0 ∨ s = 1 ∨ s = 2 ∨ s = 3 ∨ s = 4 := by omega
  all_goals decide +kernel
open Be in
theorem be13_loop (k : Nat) (n : Int) : ∀ (s : Nat) (acc : List Int) (m : Nat), s ≤ 4 → s < m → acc.length + s ≤ 4200 → m21F7 k m n ((s : Int) - 1) acc = some (acc ++ be s n) := by
  intro s
  induction s with
  | zero =>
    intro acc m _ hm h
    obtain ⟨m, rfl⟩ : ∃ x, m = x + 1 := ⟨m - 1, by omega⟩
    rw [m21F7, m21X7]
    simp only [leI_eq, decide_eq_true_eq]
    rw [if_neg (by omega), be, List.append_nil]
  | succ s ih =>
    intro acc m hs hm h
    obtain ⟨m, rfl⟩ : ∃ x, m = x + 1 := ⟨m - 1, by omega⟩
    have w0 : ((s + 1 : Nat) : Int) - 1 = (s : Int) := by omega
    have w2 : wr .i64 ((s : Int) - 1) = (s : Int) - 1 := w64 (by omega) (by omega)
    have w1 : (0 : Int) ≤ wr .u64 (wr .i64 (8 * (s : Int))) := by rw [w64 (by omega) (by omega), wu64 (by omega) (by omega)]; omega
    rw [m21F7, m21X7]
    simp only [leI_eq, decide_eq_true_eq, w0, w2, one_set, p2_256u s (by omega), if_pos w1, wu8]
    rw [if_pos (by omega), if_pos (by simp only [List.length_singleton]; omega), ih _ m (by omega) (by omega) (by simp; omega), be, List.append_assoc]
    rfl
open Be in
theorem be13_eq (k : Nat) (hk : 10 ≤ k) (n : Int) (s : Nat) (h4 : s ≤ 4) : m21F k n (s : Int) = some (be s n) := by
  have w3 : wr .i64 ((s : Int) - 1) = (s : Int) - 1 := w64 (by omega) (by omega)
  simp only [m21F, m21X, w3]
  exact be13_loop k n s [] k h4 (by omega) (by simp; omega)
open Be Crc in
theorem num13_loop (k : Nat) (l : List Int) (hl : l.length ≤ 4) : ∀ (rest pre : List Int) (n : Nat), l = pre ++ rest → (∀ c ∈ l, isByte c) → rest.length < n →
    m25F7 k n l (num pre) (pre.length : Int) = some (num l) := by
  intro rest
  induction rest with
  | nil =>
    intro pre n h _ hn
    obtain ⟨n, rfl⟩ : ∃ x, n = x + 1 := ⟨n - 1, by simp only [List.length_nil] at hn; omega⟩
    rw [List.append_nil] at h
    subst h
    rw [m25F7, m25X7]
    simp only [ltI_eq, decide_eq_true_eq]
    rw [if_neg (by omega)]
  | cons x rest ih =>
    intro pre n h hb hn
    obtain ⟨n, rfl⟩ : ∃ x, n = x + 1 := ⟨n - 1, by omega⟩
    have h1 : l.length = pre.length + (rest.length + 1) := by rw [h]; simp
    have e1 : l.getD (Int.toNat (pre.length : Int)) 0 = x := by rw [h]; exact gd_at pre rest x 0
    have hx : isByte x := hb x (by rw [h]; simp)
    have e2 := num_or pre x (by omega) (fun c hc => hb c (by rw [h]; simp [hc])) hx
    rw [m25F7, m25X7]
    simp only [leI_eq, ltI_eq, decide_eq_true_eq, if_pos (show (pre.length : Int) < (l.length : Int) by omega), if_pos (show (0 : Int) ≤ (pre.length : Int) by omega), if_pos (show (0 : Int) ≤ 8 by decide), e1, e2, w64s (show pre.length < 9223372036854775807 by omega)]
    have := ih (pre ++ [x]) n (by rw [h]; simp) hb (by simp only [List.length_cons] at hn; omega)
    rw [List.length_append, List.length_singleton] at this
    exact this
open Be Crc in
theorem num13_eq (k : Nat) (hk : 10 ≤ k) (l : List Int) (hl : l.length ≤ 4) (hb : ∀ c ∈ l, isByte c) : m25F k l = some (num l) :=
  num13_loop k l hl l [] k rfl hb (by omega)
/-! Data, the page's. -/
theorem refDat_eq (k : Nat) (s r f : Int) (x : List Int) : m11F k (s, r, f, x) = some (datBad s r f x.length) := by
  unfold datBad
  simp only [m11F, m11X, ltI_eq, leI_eq, decide_eq_true_eq]
  by_cases h1 : s < 0
  · rw [if_pos h1, if_pos (.inl h1)]
  rw [if_neg h1]
  by_cases h2 : 1073741824 ≤ s
  · rw [if_pos h2, if_pos (.inr (.inl h2))]
  rw [if_neg h2]
  by_cases h3 : r < 0
  · rw [if_pos h3, if_pos (.inr (.inr (.inl h3)))]
  rw [if_neg h3]
  by_cases h4 : 255 < r
  · rw [if_pos h4, if_pos (.inr (.inr (.inr (.inl h4))))]
  rw [if_neg h4]
  by_cases h5 : f < 0
  · rw [if_pos h5, if_pos (.inr (.inr (.inr (.inr (.inl h5)))))]
  rw [if_neg h5]
  by_cases h6 : 65535 < f
  · rw [if_pos h6, if_pos (.inr (.inr (.inr (.inr (.inr h6)))))]
  rw [if_neg h6, if_neg (show ¬ (s < 0 ∨ 1073741824 ≤ s ∨ r < 0 ∨ 255 < r ∨ f < 0 ∨ 65535 < f) by omega)]
  by_cases h8 : (x.length : Int) < 1
  · rw [if_pos h8, if_pos (by omega)]
  rw [if_neg h8]
  by_cases h9 : (64 : Int) < (x.length : Int)
  · rw [if_pos h9, if_pos (by omega)]
  · rw [if_neg h9, if_neg (show ¬ (x.length < 1 ∨ 64 < x.length) by omega)]
open Crc Be Bv in
theorem be_one (n : Int) (h : 0 ≤ n ∧ n < 256) : be 1 n = [n] := by
  show [n / ((256 ^ 0 : Nat) : Int) % 256] = [n]
  congr 1
  simp
  omega
theorem le_pack (n : Nat) (h : n ≤ 100) : leI ((n * 1 : Nat) : Int) 140737488355328 = true := leI_pos (by omega)
open Crc Be Bv in
theorem refPacket_eq (k : Nat) (hk : 5001 ≤ k) (s r f : Int) (x : List Int) (h : datBad s r f x.length = 0) : m15F k (s, r, f, x) = some (datPack s r f x) := by
  unfold datBad at h
  split at h
  · cases h
  rename_i h1
  split at h
  · cases h
  rename_i h2
  have p1 : m21F k s 4 = some (be 4 s) := be13_eq k (by omega) s 4 (by decide)
  have p3 : m21F k f 2 = some (be 2 f) := be13_eq k (by omega) f 2 (by decide)
  have p5 : m21F k (u (sum16 (datHead s r f x.length))) 2 = some (be 2 (u (sum16 (datHead s r f x.length)))) := be13_eq k (by omega) _ 2 (by decide)
  have e1 : wr .u8 r = r := by rw [wu8]; omega
  have e2 : wr .u8 (x.length : Int) = (x.length : Int) := by rw [wu8]; omega
  have b1 := be_one r (by omega)
  have b2 := be_one (x.length : Int) (by omega)
  have e : [68] ++ be 4 s ++ [r] ++ be 2 f ++ [(x.length : Int)] = datHead s r f x.length := by
    unfold datHead
    rw [b1, b2]
    simp only [List.append_assoc, List.cons_append, List.nil_append]
  have hs := ref16_eq k (datHead s r f x.length) (by rw [datHead_length]; omega) (by rw [datHead_length]; omega) (datHead_bytes _ _ _ _)
  have l4 : (be 4 s).length = 4 := be_length ..
  have l2 : (be 2 f).length = 2 := be_length ..
  have l2' : (be 2 (u (sum16 (datHead s r f x.length)))).length = 2 := be_length ..
  have l9 := datHead_length s r f x.length
  have hx : x.length ≤ 64 := by omega
  have o : ∀ n : Nat, n ≤ 100 → leI ((n * 1 : Nat) : Int) 140737488355328 = true := le_pack
  simp only [m15F, m15X, one_set, p1, Option.bind_some, e1, e2, p3, e, hs, p5]
  rw [if_pos (o _ (by omega)), if_pos (o _ (by simp only [List.length_append, List.length_singleton]; omega)), if_pos (o _ (by simp only [List.length_append, List.length_singleton]; omega)), if_pos (o _ (by simp only [List.length_append, List.length_singleton]; omega)), if_pos (o _ (by omega)), if_pos (o _ (by rw [List.length_append]; omega))]
  unfold datPack
  rw [List.append_assoc]
open Crc Be Bv in
theorem refReadData_eq (k : Nat) (hk : 5001 ≤ k) (l : List Int) (hl : l.length ≤ 4096) (hb : ∀ c ∈ l, isByte c) : m17F k l = some (datRead l) := by
  simp only [m17F, m17X]
  unfold datRead
  by_cases h1 : l.length < 12
  · rw [if_pos (ltI_pos (by omega)), if_pos (.inl h1)]
  rw [if_neg (by rw [ltI_neg (by omega)]; simp)]
  by_cases h2 : 75 < l.length
  · rw [if_pos (ltI_pos (by omega)), if_pos (.inr h2)]
  have c0 : ∀ i : Nat, leI 0 (i : Int) = true := fun i => leI_pos (by omega)
  have t : ∀ a b : Nat, b ≤ 4 → ((l.take (a + b)).drop a).length ≤ 4 := fun a b hb => by rw [List.length_drop, List.length_take]; omega
  have s1 := ref16_eq k (l.take 9) (by rw [List.length_take]; omega) (by rw [List.length_take]; omega) (fun c hc => hb c (List.mem_of_mem_take hc))
  have g1 := num13_eq k (by omega) ((l.take 11).drop 9) (t 9 2 (by decide)) (fun c hc => hb c (List.mem_of_mem_take (List.mem_of_mem_drop hc)))
  have g2 := num13_eq k (by omega) ((l.take 5).drop 1) (t 1 4 (by decide)) (fun c hc => hb c (List.mem_of_mem_take (List.mem_of_mem_drop hc)))
  have g3 := num13_eq k (by omega) ((l.take 8).drop 6) (t 6 2 (by decide)) (fun c hc => hb c (List.mem_of_mem_take (List.mem_of_mem_drop hc)))
  rw [if_neg (by rw [ltI_neg (by omega)]; simp), if_neg (show ¬ (l.length < 12 ∨ 75 < l.length) by omega), if_pos (leI_pos (by decide)), if_pos (ltI_pos (by omega))]
  by_cases h3 : l.getD 0 0 = 68
  · rw [if_neg (by rw [eqI_pos h3]; simp), if_neg (show ¬ l.getD 0 0 ≠ 68 by omega), if_pos (leI_pos (by decide)), if_pos (leI_pos (by omega)), s1, Option.bind_some, if_pos (leI_pos (by decide)), if_pos (leI_pos (by omega)), if_pos (leI_pos (by decide)), if_pos (leI_pos (by decide)), g1, Option.bind_some]
    by_cases h4 : u (sum16 (l.take 9)) = num ((l.take 11).drop 9)
    · rw [if_neg (by rw [eqI_pos h4]; simp), if_neg (show ¬ u (sum16 (l.take 9)) ≠ num ((l.take 11).drop 9) from fun h => h h4), if_pos (leI_pos (by decide)), if_pos (leI_pos (by omega)), if_pos (leI_pos (by decide)), if_pos (leI_pos (by decide)), g2, Option.bind_some]
      by_cases h5 : 1073741824 ≤ num ((l.take 5).drop 1)
      · rw [if_pos (leI_pos h5), if_pos h5]
      · rw [if_neg (by rw [leI_neg h5]; simp), if_neg h5, if_pos (leI_pos (by decide)), if_pos (ltI_pos (by omega))]
        have b8 := getD_byte l hb 8 (by omega)
        have b5 := getD_byte l hb 5 (by omega)
        have w8 : wr .i64 (l.getD 8 0) = l.getD 8 0 := w64 (by have := b8.1; omega) (by have := b8.2; omega)
        have w5 : wr .i64 (l.getD 5 0) = l.getD 5 0 := w64 (by have := b5.1; omega) (by have := b5.2; omega)
        have wl : wr .i64 ((l.length : Int) - 11) = (l.length : Int) - 11 := w64 (by omega) (by omega)
        rw [w8, w5, wl]
        by_cases h6 : l.getD 8 0 = (l.length : Int) - 11
        · rw [if_neg (by rw [eqI_pos h6]; simp), if_neg (show ¬ l.getD 8 0 ≠ (l.length : Int) - 11 from fun h => h h6), if_pos (leI_pos (by decide)), if_pos (leI_pos (by omega)), if_pos (leI_pos (by decide)), if_pos (leI_pos (by decide)), Option.bind_some,
            if_pos (leI_pos (by decide)), if_pos (ltI_pos (by omega)), if_pos (leI_pos (by decide)), if_pos (leI_pos (by omega)), if_pos (leI_pos (by decide)), if_pos (leI_pos (by decide)), g3, Option.bind_some, if_pos (leI_pos (by decide)), if_pos (leI_pos (by omega)), twin_eq k _ (by rw [List.length_drop]; omega), Option.bind_some]
        · rw [if_pos (by rw [eqI_neg h6]; rfl), if_pos h6]
    · rw [if_pos (by rw [eqI_neg h4]; rfl), if_pos h4]
  · rw [if_pos (by rw [eqI_neg h3]; rfl), if_pos h3]
/-! What is written over: it ends. -/
theorem spoil_loop (k o n : Nat) (hn : n ≤ 100000) : ∀ (d i j : Nat) (b : List Int), i + d = n → d < j → ∃ r, m18F3 k j o n (i : Int) b = some r := by
  intro d
  induction d with
  | zero =>
    intro i j b h hj
    obtain ⟨j, rfl⟩ : ∃ x, j = x + 1 := ⟨j - 1, by omega⟩
    refine ⟨b, ?_⟩
    rw [m18F3, m18X3, if_neg (by rw [ltI_neg (by omega)]; simp)]
  | succ d ih =>
    intro i j b h hj
    obtain ⟨j, rfl⟩ : ∃ x, j = x + 1 := ⟨j - 1, by omega⟩
    have e := w64s (show i < 9223372036854775807 by omega)
    rw [m18F3, m18X3, if_pos (ltI_pos (by omega)), if_pos (leI_pos (by omega)), if_pos (ltI_pos (by omega)), if_pos (leI_pos (by omega)), if_pos (ltI_pos (by omega)), e]
    exact ih (i + 1) j _ (by omega) (by omega)
theorem spoil_eq (k o n : Nat) (hk : n < k) (hn : n ≤ 100000) (b : List Int) : ∃ r, m18F k b o n = some r := by
  obtain ⟨r, h⟩ := spoil_loop k o n hn n 0 k b (Nat.zero_add n) hk
  refine ⟨r, ?_⟩
  simp only [m18F, m18X]
  exact h

end Go.Proofs.Ytnhghopkbbdebaa.Mini
