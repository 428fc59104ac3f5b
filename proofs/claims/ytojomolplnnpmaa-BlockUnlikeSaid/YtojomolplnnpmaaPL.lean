/- What shared functions tell: plain laws. -/
import Derived.Test.YtojomolplnnpmaaMF
import Derived.Test.YtojomolplnnpmaaCrc
import Derived.Test.YtojomolplnnpmaaBe
import Derived.Test.YtojomolplnnpmaaPop
import Derived.Laws.Closers25b
set_option linter.unusedSimpArgs false
set_option linter.unusedVariables false
namespace Go.Proofs.Ytojomolplnnpmaa.Mini
open Go Go.RowKit Go.Proofs
theorem w64 {n : Int} (h0 : -9223372036854775808 ≤ n) (h1 : n < 9223372036854775808) : wr .i64 n = n := by
  show wrap64 n = n
  unfold wrap64
  omega
theorem w64n {n : Nat} (h1 : n < 9223372036854775808) : wr .i64 (n : Int) = (n : Int) := w64 (by omega) (by omega)
theorem w64s {n : Nat} (h1 : n < 9223372036854775807) : wr .i64 ((n : Int) + 1) = ((n + 1 : Nat) : Int) := w64 (by omega) (by omega)
theorem wu64 {n : Int} (h0 : 0 ≤ n) (h1 : n < 18446744073709551616) : wr .u64 n = n := by
  show n % 18446744073709551616 = n
  omega
theorem wu8 (n : Int) : wr .u8 n = n % 256 := (congrArg (fun x : Int => x % 256) (Eq.refl n) : n % 256 = n % 256)
theorem wu32 (n : Int) : wr .u32 n = n % 4294967296 := (congrArg (fun x : Int => x % 4294967296) (Eq.refl n) : n % 4294967296 = n % 4294967296)
theorem gd_at {α : Type} (pre rest : List α) (x d : α) : (pre ++ x :: rest).getD (Int.toNat (pre.length : Int)) d = x := by
  rw [Int.toNat_natCast, List.getD_eq_getElem?_getD, List.getElem?_append_right (Nat.le_refl _), Nat.sub_self]
  rfl
theorem gd_at' {α : Type} (pre rest : List α) (x d : α) (n : Nat) (h : pre.length = n) : (pre ++ x :: rest).getD (Int.toNat (n : Int)) d = x := by
  subst h
  exact gd_at pre rest x d
theorem getD_nat {α : Type} (l : List α) (n : Nat) (d : α) : l.getD (Int.toNat (n : Int)) d = l.getD n d := rfl
theorem nilK_same {R : Type} {e : Bool} {a : Option R} : nilK e a a = a := by
  unfold nilK both
  cases e <;> simp
theorem nilK_of {R : Type} {e : Bool} {a b : Option R} (h : e = true → a = b) : nilK e a b = b := by
  unfold nilK both
  cases e
  · rfl
  · simp [h rfl]
theorem one_set (x d : Int) : List.set (List.replicate 1 d) 0 x = [x] := (congrArg (fun y : Int => [y]) (Eq.refl x) : [x] = [x])
theorem bytes_wf {l : List Int} (h : WfK (.row (.int .u8)) l) : ∀ c ∈ l, Crc.isByte c := fun c hc => Bv.wf_u8 (h.2 c hc)
theorem leI_pos {a b : Int} (h : a ≤ b) : leI a b = true := (leI_iff a b).2 h
theorem leI_neg {a b : Int} (h : ¬ a ≤ b) : leI a b = false := by
  rw [leI_eq]
  simpa using h
theorem ltI_pos {a b : Int} (h : a < b) : ltI a b = true := (ltI_iff a b).2 h
theorem ltI_neg {a b : Int} (h : ¬ a < b) : ltI a b = false := by
  rw [ltI_eq]
  simpa using h
theorem eqI_pos {a b : Int} (h : a = b) : eqI a b = true := (eqI_iff a b).2 h
theorem eqI_neg {a b : Int} (h : ¬ a = b) : eqI a b = false := by
  rw [eqI_eq]
  simpa using h
theorem umod0 (x : Int) (m : Nat) (hm : 0 < m) : ∃ a : Nat, a < m ∧ Int.tmod (wr .u64 x) (m : Int) = (a : Int) := by
  have h0 : 0 ≤ wr .u64 x := Int.emod_nonneg _ (by decide)
  have h1 : Int.tmod (wr .u64 x) (m : Int) = wr .u64 x % (m : Int) := Int.tmod_eq_emod_of_nonneg h0
  have h2 := Int.emod_nonneg (wr .u64 x) (show (m : Int) ≠ 0 by omega)
  have h3 := Int.emod_lt_of_pos (wr .u64 x) (show (0 : Int) < m by omega)
  refine ⟨(wr .u64 x % (m : Int)).toNat, ?_, ?_⟩
  · generalize wr .u64 x % (m : Int) = z at h2 h3
    omega
  · rw [h1]
    generalize wr .u64 x % (m : Int) = z at h2 h3
    omega
theorem clone_eq (k : Nat) (l : List Int) (h : l.length ≤ 5000) : m25F k l = some l := by
  simp only [m25F, m25X, leI_eq, decide_eq_true_eq]
  rw [nilK_of, if_pos (by omega)]
  · rfl
  · intro he
    rw [if_pos (by omega)]
    rw [List.isEmpty_iff.1 he]
    rfl
theorem twin_eq (k : Nat) (l : List Int) (h : l.length ≤ 5000) : m8F k l = some l := by
  simp only [m8F, m8X, leI_eq, decide_eq_true_eq]
  rw [if_pos (by omega)]
theorem equal_loop (k : Nat) (a b : List Int) (hl : a.length ≤ 5000) (he : a.length = b.length) : ∀ (ra rb pa pb : List Int) (j : Nat), a = pa ++ ra → b = pb ++ rb → pa.length = pb.length → ra.length < j →
    m26F9 k j a b (a.length : Int) (pa.length : Int) = some (decide (ra = rb)) := by
  intro ra
  induction ra with
  | nil =>
    intro rb pa pb j ha hb hp hj
    obtain ⟨j, rfl⟩ : ∃ i, j = i + 1 := ⟨j - 1, by simp only [List.length_nil] at hj; omega⟩
    have h1 : a.length = pa.length := by rw [ha]; simp
    have h2 : b.length = pb.length + rb.length := by rw [hb]; simp
    obtain rfl : rb = [] := List.eq_nil_of_length_eq_zero (by omega)
    rw [m26F9, m26X9]
    simp only [leI_eq, ltI_eq, eqI_eq, decide_eq_true_eq, if_neg (show ¬ (pa.length : Int) < (a.length : Int) by omega), decide_true]
  | cons x ra ih =>
    intro rb pa pb j ha hb hp hj
    obtain ⟨j, rfl⟩ : ∃ i, j = i + 1 := ⟨j - 1, by omega⟩
    have h1 : a.length = pa.length + (ra.length + 1) := by rw [ha]; simp
    have h2 : b.length = pb.length + rb.length := by rw [hb]; simp
    cases rb with
    | nil => simp only [List.length_nil] at h2; omega
    | cons y rb =>
      simp only [List.length_cons] at h2 hj
      have e1 : a.getD (Int.toNat (pa.length : Int)) 0 = x := by rw [ha]; exact gd_at pa ra x 0
      have e2 : b.getD (Int.toNat (pa.length : Int)) 0 = y := by rw [hb]; exact gd_at' pb rb y 0 pa.length hp.symm
      have c1 : (pa.length : Int) < (a.length : Int) := by omega
      have c2 : (0 : Int) ≤ (pa.length : Int) := by omega
      have c3 : (pa.length : Int) < (b.length : Int) := by omega
      rw [m26F9, m26X9]
      simp only [leI_eq, ltI_eq, eqI_eq, decide_eq_true_eq, if_pos c1, if_pos c2, if_pos c3, e1, e2, w64s (show pa.length < 9223372036854775807 by omega)]
      by_cases hxy : x = y
      · subst hxy
        have := ih rb (pa ++ [x]) (pb ++ [x]) j (by rw [ha]; simp) (by rw [hb]; simp) (by simp [hp]) (by omega)
        rw [List.length_append, List.length_singleton] at this
        simp only [decide_true, Bool.not_true, Bool.false_eq_true, if_false]
        rw [this]
        simp
      · simp [hxy]
theorem equal_eq (k : Nat) (hk : 5001 ≤ k) (a b : List Int) (hl : a.length ≤ 5000) : m26F k a b = some (decide (a = b)) := by
  simp only [m26F, m26X]
  by_cases he : a.length = b.length
  · have := equal_loop k a b hl he a b [] [] k rfl rfl rfl (by omega)
    simp only [List.length_nil] at this
    simp only [he, eqI_eq, decide_true, Bool.not_true, Bool.false_eq_true, if_false]
    rw [← he]
    exact this
  · have : ¬ ((a.length : Int) = (b.length : Int)) := by omega
    have h2 : ¬ a = b := fun h => he (by rw [h])
    simp [eqI_eq, this, h2]
theorem bytes_loop (k : Nat) (a b : List Int) (hl : a.length ≤ 5000) (he : a.length = b.length) : ∀ (ra rb pa pb : List Int) (j : Nat), a = pa ++ ra → b = pb ++ rb → pa.length = pb.length → ra.length < j →
    m14F9 k j a b (pa.length : Int) = some (decide (ra = rb)) := by
  intro ra
  induction ra with
  | nil =>
    intro rb pa pb j ha hb hp hj
    obtain ⟨j, rfl⟩ : ∃ i, j = i + 1 := ⟨j - 1, by simp only [List.length_nil] at hj; omega⟩
    have h1 : a.length = pa.length := by rw [ha]; simp
    have h2 : b.length = pb.length + rb.length := by rw [hb]; simp
    obtain rfl : rb = [] := List.eq_nil_of_length_eq_zero (by omega)
    rw [m14F9, m14X9]
    simp only [leI_eq, ltI_eq, eqI_eq, decide_eq_true_eq, if_neg (show ¬ (pa.length : Int) < (a.length : Int) by omega), decide_true]
  | cons x ra ih =>
    intro rb pa pb j ha hb hp hj
    obtain ⟨j, rfl⟩ : ∃ i, j = i + 1 := ⟨j - 1, by omega⟩
    have h1 : a.length = pa.length + (ra.length + 1) := by rw [ha]; simp
    have h2 : b.length = pb.length + rb.length := by rw [hb]; simp
    cases rb with
    | nil => simp only [List.length_nil] at h2; omega
    | cons y rb =>
      simp only [List.length_cons] at h2 hj
      have e1 : a.getD (Int.toNat (pa.length : Int)) 0 = x := by rw [ha]; exact gd_at pa ra x 0
      have e2 : b.getD (Int.toNat (pa.length : Int)) 0 = y := by rw [hb]; exact gd_at' pb rb y 0 pa.length hp.symm
      have c1 : (pa.length : Int) < (a.length : Int) := by omega
      have c2 : (0 : Int) ≤ (pa.length : Int) := by omega
      have c3 : (pa.length : Int) < (b.length : Int) := by omega
      rw [m14F9, m14X9]
      simp only [leI_eq, ltI_eq, eqI_eq, decide_eq_true_eq, if_pos c1, if_pos c2, if_pos c3, e1, e2, w64s (show pa.length < 9223372036854775807 by omega)]
      by_cases hxy : x = y
      · subst hxy
        have := ih rb (pa ++ [x]) (pb ++ [x]) j (by rw [ha]; simp) (by rw [hb]; simp) (by simp [hp]) (by omega)
        rw [List.length_append, List.length_singleton] at this
        simp only [decide_true, Bool.not_true, Bool.false_eq_true, if_false]
        rw [this]
        simp
      · simp [hxy]
theorem bytes_eq' (k : Nat) (hk : 5001 ≤ k) (a b : List Int) (hl : a.length ≤ 5000) : m14F k a b = some (decide (a = b)) := by
  simp only [m14F, m14X]
  by_cases he : a.length = b.length
  · have := bytes_loop k a b hl he a b [] [] k rfl rfl rfl (by omega)
    simp only [List.length_nil] at this
    simp only [he, eqI_eq, decide_true, Bool.not_true, Bool.false_eq_true, if_false]
    exact this
  · have : ¬ ((a.length : Int) = (b.length : Int)) := by omega
    have h2 : ¬ a = b := fun h => he (by rw [h])
    simp [eqI_eq, this, h2]
open Be in
theorem p2_256 (s : Nat) (h : s ≤ 4) : p2 (min (Int.toNat (wr .i64 (8 * (s : Int)))) 64) = ((256 ^ s : Nat) : Int) := by
  obtain rfl | rfl | rfl | rfl | rfl : s = 0 ∨ s = 1 ∨ s = 2 ∨ s = 3 ∨ s = 4 := by omega
  all_goals decide +kernel
open Be in
theorem put_loop (k : Nat) (n : Int) : ∀ (s : Nat) (acc : List Int) (m : Nat), s ≤ 4 → s < m → acc.length + s ≤ 4200 → m20F15 k m n ((s : Int) - 1) acc = some (acc ++ be s n, 0) := by
  intro s
  induction s with
  | zero =>
    intro acc m _ hm h
    obtain ⟨m, rfl⟩ : ∃ x, m = x + 1 := ⟨m - 1, by omega⟩
    rw [m20F15, m20X15]
    simp only [leI_eq, decide_eq_true_eq]
    rw [if_neg (by omega)]
    simp only [m20F20, m20X20]
    rw [clone_eq k acc (by omega), Option.bind_some, be, List.append_nil]
  | succ s ih =>
    intro acc m hs hm h
    obtain ⟨m, rfl⟩ : ∃ x, m = x + 1 := ⟨m - 1, by omega⟩
    have w0 : ((s + 1 : Nat) : Int) - 1 = (s : Int) := by omega
    have w2 : wr .i64 ((s : Int) - 1) = (s : Int) - 1 := w64 (by omega) (by omega)
    have w1 : (0 : Int) ≤ wr .i64 (8 * (s : Int)) := by rw [w64 (by omega) (by omega)]; omega
    rw [m20F15, m20X15]
    simp only [leI_eq, decide_eq_true_eq, w0, w2, one_set, p2_256 s (by omega), if_pos w1, if_pos (show (s : Int) ≥ 0 by omega), wu8]
    rw [if_pos (by simp only [List.length_singleton]; omega), ih _ m (by omega) (by omega) (by simp; omega), be, List.append_assoc]
    rfl
open Be in
theorem put_eq (k : Nat) (hk : 10 ≤ k) (l : List Int) (n : Int) (s : Nat) (h1 : 1 ≤ s) (h4 : s ≤ 4) (hl : l.length + s ≤ 4096) (h0 : 0 ≤ n) (hn : n < ((256 ^ s : Nat) : Int)) : m20F k l n (s : Int) = some (l ++ be s n, 0) := by
  have w1 : (0 : Int) ≤ wr .i64 (8 * (s : Int)) := by rw [w64 (by omega) (by omega)]; omega
  have w2 : wr .i64 (4096 - (s : Int)) = 4096 - (s : Int) := w64 (by omega) (by omega)
  have w3 : wr .i64 ((s : Int) - 1) = (s : Int) - 1 := w64 (by omega) (by omega)
  have hp : ((256 ^ s : Nat) : Int) ≤ 4294967296 := by
    have : 256 ^ s ≤ 256 ^ 4 := Nat.pow_le_pow_right (by decide) h4
    omega
  have w4 : wr .i64 (1 * ((256 ^ s : Nat) : Int)) = ((256 ^ s : Nat) : Int) := by
    generalize ((256 ^ s : Nat) : Int) = q at hp hn
    rw [w64 (by omega) (by omega)]
    omega
  simp only [m20F, m20X, leI_eq, ltI_eq, decide_eq_true_eq, p2_256 s h4, w2, w3, w4, if_pos w1]
  generalize ((256 ^ s : Nat) : Int) = q at hp hn
  rw [if_neg (by omega), if_neg (by omega), if_neg (by omega), if_neg (by omega), if_neg (by omega), clone_eq k l (by omega), Option.bind_some]
  exact put_loop k n s l k h4 (by omega) (by omega)
open Be in
theorem put_bad (k : Nat) (l : List Int) (n : Int) (s : Nat) (h1 : 1 ≤ s) (h4 : s ≤ 4) (hn : n < 0 ∨ ((256 ^ s : Nat) : Int) ≤ n) : m20F k l n (s : Int) = some ([], 1) := by
  have w1 : (0 : Int) ≤ wr .i64 (8 * (s : Int)) := by rw [w64 (by omega) (by omega)]; omega
  have hp : ((256 ^ s : Nat) : Int) ≤ 4294967296 := by
    have : 256 ^ s ≤ 256 ^ 4 := Nat.pow_le_pow_right (by decide) h4
    omega
  have hq : (0 : Int) ≤ ((256 ^ s : Nat) : Int) := Int.natCast_nonneg _
  have w4 : wr .i64 (1 * ((256 ^ s : Nat) : Int)) = ((256 ^ s : Nat) : Int) := by
    generalize ((256 ^ s : Nat) : Int) = q at hp hn hq
    rw [w64 (by omega) (by omega)]
    omega
  simp only [m20F, m20X, leI_eq, ltI_eq, decide_eq_true_eq, p2_256 s h4, w4, if_pos w1]
  generalize ((256 ^ s : Nat) : Int) = q at hp hn hq
  rw [if_neg (by omega), if_neg (by omega)]
  by_cases h : n < 0
  · rw [if_pos (by omega)]
  · rw [if_neg (by omega), if_pos (by omega)]
open Be Crc in
theorem num_snoc (pre : List Int) (x : Int) : num (pre ++ [x]) = num pre * 256 + x := by unfold num; rw [List.foldl_append]; rfl
open Be Crc in
theorem num_or (pre : List Int) (x : Int) (hp3 : pre.length ≤ 3) (hb : ∀ c ∈ pre, isByte c) (hx : isByte x) : Go.bits .or .i64 (wr .i64 (num pre * 256)) (wr .i64 x) = num (pre ++ [x]) := by
  have hp := num_bound pre hb
  have hq : ((256 ^ pre.length : Nat) : Int) ≤ 16777216 := by
    have : 256 ^ pre.length ≤ 256 ^ 3 := Nat.pow_le_pow_right (by decide) (by omega)
    omega
  unfold isByte at hx
  generalize ((256 ^ pre.length : Nat) : Int) = q at hp hq
  rw [w64 (by omega) (by omega), w64 (by omega) (by omega), num_snoc]
  obtain ⟨a, ha⟩ := Int.eq_ofNat_of_zero_le hp.1
  obtain ⟨b, hb'⟩ := Int.eq_ofNat_of_zero_le hx.1
  rw [ha] at hp ⊢
  subst hb'
  have := orN (a * 256) b (by omega) (by omega)
  rw [Int.natCast_mul] at this
  exact this.trans (by rw [or_byte a b (by omega)]; omega)
open Be Crc in
theorem get_loop (k : Nat) (l : List Int) (hl : l.length ≤ 4) : ∀ (rest pre : List Int) (n : Nat), l = pre ++ rest → (∀ c ∈ l, isByte c) → rest.length < n →
    m24F15 k n (num pre) l (l.length : Int) (pre.length : Int) = some (num l, 0) := by
  intro rest
  induction rest with
  | nil =>
    intro pre n h _ hn
    obtain ⟨n, rfl⟩ : ∃ x, n = x + 1 := ⟨n - 1, by simp only [List.length_nil] at hn; omega⟩
    rw [List.append_nil] at h
    subst h
    rw [m24F15, m24X15]
    simp only [ltI_eq, decide_eq_true_eq]
    rw [if_neg (by omega)]
    rfl
  | cons x rest ih =>
    intro pre n h hb hn
    obtain ⟨n, rfl⟩ : ∃ x, n = x + 1 := ⟨n - 1, by omega⟩
    have h1 : l.length = pre.length + (rest.length + 1) := by rw [h]; simp
    have e1 : l.getD (Int.toNat (pre.length : Int)) 0 = x := by rw [h]; exact gd_at pre rest x 0
    have hx : isByte x := hb x (by rw [h]; simp)
    have e2 := num_or pre x (by omega) (fun c hc => hb c (by rw [h]; simp [hc])) hx
    rw [m24F15, m24X15]
    simp only [leI_eq, ltI_eq, decide_eq_true_eq, if_pos (show (pre.length : Int) < (l.length : Int) by omega), if_pos (show (0 : Int) ≤ (pre.length : Int) by omega), if_pos (show (0 : Int) ≤ 8 by decide), e1, e2, w64s (show pre.length < 9223372036854775807 by omega)]
    have := ih (pre ++ [x]) n (by rw [h]; simp) hb (by simp only [List.length_cons] at hn; omega)
    rw [List.length_append, List.length_singleton] at this
    exact this
open Be Crc in
theorem get_eq (k : Nat) (hk : 10 ≤ k) (l : List Int) (at_ s : Nat) (h1 : 1 ≤ s) (h4 : s ≤ 4) (hl : at_ + s ≤ l.length) (hm : l.length ≤ 5000) (hb : ∀ c ∈ l, isByte c) :
    m24F k l (at_ : Int) (s : Int) = some (num ((l.take (at_ + s)).drop at_), 0) := by
  have w1 : wr .i64 ((l.length : Int) - (at_ : Int)) = (l.length : Int) - (at_ : Int) := w64 (by omega) (by omega)
  have w2 : wr .i64 ((at_ : Int) + (s : Int)) = ((at_ + s : Nat) : Int) := by rw [w64 (by omega) (by omega)]; omega
  simp only [m24F, m24X, leI_eq, ltI_eq, decide_eq_true_eq, w1, w2, Int.toNat_natCast]
  rw [if_neg (by omega), if_neg (by omega), if_neg (by omega), if_neg (by omega), if_neg (by omega), if_pos (by omega), if_pos (by omega), if_pos (by omega), if_pos (by omega)]
  have hlen : ((l.take (at_ + s)).drop at_).length = s := by rw [List.length_drop, List.length_take]; omega
  exact get_loop k _ (by omega) _ [] k rfl (fun c hc => hb c (List.mem_of_mem_take (List.mem_of_mem_drop hc))) (by omega)
open Bv Crc in
theorem t32_inner (k : Nat) (X : Option (List Int)) (L7 : Int → List Int → Option (List Int)) (x1 : List Int) (i : Int) (hx : x1.length < 1000) : ∀ (d j n : Nat) (v : BitVec 32), j + d = 8 → d < n →
    L7 (wr .i64 (i + 1)) (x1 ++ [u (E.many L d v)]) = X → m31F15 k L7 n (u v) i (j : Int) x1 = X := by
  intro d
  induction d with
  | zero =>
    intro j n v hj hn R
    obtain ⟨n, rfl⟩ : ∃ m, n = m + 1 := ⟨n - 1, by omega⟩
    rw [m31F15, m31X15]
    simp only [leI_eq, ltI_eq, eqI_eq, decide_eq_true_eq, if_neg (show ¬ (j : Int) < 8 by omega), m31F26, m31X26, one_set]
    rw [if_pos (by simp only [List.length_singleton]; omega)]
    exact R
  | succ d ih =>
    intro j n v hj hn R
    obtain ⟨n, rfl⟩ : ∃ m, n = m + 1 := ⟨n - 1, by omega⟩
    rw [E.many_in] at R
    have e : Go.bits .and .i64 (u v) 1 = ((v.toNat % 2 : Nat) : Int) := and1 v.toNat (lt63 (by decide) v)
    rw [m31F15, m31X15]
    simp only [leI_eq, ltI_eq, eqI_eq, decide_eq_true_eq, if_pos (show (j : Int) < 8 by omega), if_pos (show (0 : Int) ≤ 1 by decide), e, w64s (show j < 9223372036854775807 by omega)]
    by_cases h : v.toNat % 2 = 1
    · have e2 : Go.bits .xor .i64 (u v / (2 : Int)) 3988292384 = u (L v) := by
        rw [shr1, L_odd h]
        exact xor_u (by decide) (v >>> 1) 3988292384#32
      rw [if_pos (by omega), e2]
      exact ih (j + 1) n (L v) (by omega) (by omega) R
    · have e2 : u v / (2 : Int) = u (L v) := by rw [shr1, L_even h]
      rw [if_neg (by omega), e2]
      exact ih (j + 1) n (L v) (by omega) (by omega) R
open Bv Crc in
def tbl32 (n : Nat) : List Int := (List.range n).map (fun i : Nat => u (tab32 i))
open Bv Crc in
theorem tbl32_at (n i : Nat) (h : i < n) : (tbl32 n).getD (Int.toNat (i : Int)) 0 = u (tab32 i) := by
  unfold tbl32
  rw [Int.toNat_natCast, List.getD_eq_getElem?_getD, List.getElem?_map, List.getElem?_range h]
  rfl
theorem tbl32_length (n : Nat) : (tbl32 n).length = n := by simp [tbl32]
open Bv Crc in
theorem t32_outer (k : Nat) (hk : 10 ≤ k) : ∀ (d i n : Nat), i + d = 256 → d < n → m31F7 k n (i : Int) (tbl32 i) = some (tbl32 256) := by
  intro d
  induction d with
  | zero =>
    intro i n hi hn
    obtain ⟨n, rfl⟩ : ∃ m, n = m + 1 := ⟨n - 1, by omega⟩
    obtain rfl : i = 256 := by omega
    rw [m31F7, m31X7]
    simp only [ltI_eq, decide_eq_true_eq]
    rw [if_neg (by omega)]
  | succ d ih =>
    intro i n hi hn
    obtain ⟨n, rfl⟩ : ∃ m, n = m + 1 := ⟨n - 1, by omega⟩
    have e : (i : Int) = u (BitVec.ofNat 32 i) := by unfold u; rw [BitVec.toNat_ofNat, Nat.mod_eq_of_lt (by omega)]
    have R := ih (i + 1) n (by omega) (by omega)
    have e3 : tbl32 (i + 1) = tbl32 i ++ [u (E.many L 8 (BitVec.ofNat 32 i))] := by unfold tbl32; rw [List.range_succ, List.map_append]; rfl
    rw [e3, ← w64s (show i < 9223372036854775807 by omega)] at R
    rw [m31F7, m31X7]
    simp only [ltI_eq, decide_eq_true_eq]
    rw [if_pos (by omega)]
    have := t32_inner k _ (m31F7 k n) (tbl32 i) (i : Int) (by rw [tbl32_length]; omega) 8 0 k (BitVec.ofNat 32 i) rfl (by omega) R
    rw [← e] at this
    exact this
theorem table32_eq (k : Nat) (hk : 300 ≤ k) : m31F k = some (tbl32 256) := t32_outer k (by omega) 256 0 k rfl (by omega)
open Bv Crc in
theorem sum32_loop (k : Nat) (l : List Int) (hl : l.length ≤ 4096) : ∀ (rest pre : List Int) (n : Nat) (r : BitVec 32), l = pre ++ rest → (∀ c ∈ rest, isByte c) → rest.length < n →
    m29F11 k n (u r) l (l.length : Int) (pre.length : Int) (tbl32 256) = some (u (reg32 r rest ^^^ ones32), 0) := by
  intro rest
  induction rest with
  | nil =>
    intro pre n r h _ hn
    obtain ⟨n, rfl⟩ : ∃ m, n = m + 1 := ⟨n - 1, by simp only [List.length_nil] at hn; omega⟩
    have hlen : l.length = pre.length := by rw [h]; simp
    have := xor_u (by decide) r ones32
    rw [m29F11, m29X11]
    simp only [ltI_eq, decide_eq_true_eq, if_neg (show ¬ (pre.length : Int) < (l.length : Int) by omega), m29F18, m29X18, reg_nil]
    rw [← this]
    rfl
  | cons c rest ih =>
    intro pre n r h hb hn
    obtain ⟨n, rfl⟩ : ∃ m, n = m + 1 := ⟨n - 1, by omega⟩
    have hlen : l.length = pre.length + (rest.length + 1) := by rw [h]; simp
    have hp : l.getD (Int.toNat (pre.length : Int)) 0 = c := by rw [h]; exact gd_at pre rest c 0
    obtain ⟨h0, h1⟩ := hb c (by simp)
    have ec : c = ((c.toNat : Nat) : Int) := by omega
    have hr := r.isLt
    have hix : (r.toNat % 256) ^^^ c.toNat < 2 ^ 8 := Nat.xor_lt_two_pow (by omega) (by omega)
    have ei : Go.bits .xor .i64 (Go.bits .and .i64 (u r) 255) (wr .i64 c) = (((r.toNat % 256) ^^^ c.toNat : Nat) : Int) := by
      have e1 : Go.bits .and .i64 (u r) 255 = ((r.toNat % 256 : Nat) : Int) := and255i r.toNat (by omega)
      rw [e1, w64 (by omega) (by omega), ec, xorN _ _ (by omega) (by omega), Int.toNat_natCast]
    have es : Go.bits .xor .i64 (u r / (256 : Int)) (u (tab32 ((r.toNat % 256) ^^^ c.toNat))) = u (step32 r c) := by
      rw [shr8, xor_u (by decide), step_tab r c ⟨h0, h1⟩]
    have hlt : ((((r.toNat % 256) ^^^ c.toNat : Nat)) : Int) < ((tbl32 256).length : Int) := by rw [tbl32_length]; omega
    rw [m29F11, m29X11]
    simp only [leI_eq, ltI_eq, decide_eq_true_eq, if_pos (show (pre.length : Int) < (l.length : Int) by omega), if_pos (show (0 : Int) ≤ (pre.length : Int) by omega), if_pos (show (0 : Int) ≤ 8 by decide), hp, ei, if_pos hlt, if_pos (show (0 : Int) ≤ ((((r.toNat % 256) ^^^ c.toNat : Nat)) : Int) by omega)]
    rw [tbl32_at _ _ (by omega), es, w64s (show pre.length < 9223372036854775807 by omega)]
    have := ih (pre ++ [c]) n (step32 r c) (by rw [h]; simp) (fun y hy => hb y (by simp [hy])) (by simp only [List.length_cons] at hn; omega)
    rw [List.length_append, List.length_singleton] at this
    exact this
open Bv Crc in
theorem sum32_eq (k : Nat) (hk : 5000 ≤ k) (l : List Int) (hl : l.length ≤ 4096) (hb : ∀ c ∈ l, isByte c) : m29F k l = some (u (sum32 l), 0) := by
  simp only [m29F, m29X, ltI_eq, decide_eq_true_eq]
  rw [if_neg (by omega), table32_eq k (by omega), Option.bind_some]
  exact sum32_loop k l hl l [] k ones32 rfl hb (by omega)
open Bv Crc in
theorem shr8u (s : BitVec 32) (j : Nat) : u (s >>> j) / (256 : Int) = u (s >>> (j + 8)) := by rw [shr8, ← BitVec.shiftRight_add]
open Bv Crc in
theorem seal_step (k n : Nat) (s : BitVec 32) (b : List Int) (i : Nat) (hi : i < 4) (hb : b.length ≤ 4096) (j : Nat) : m19F17 k (n + 1) (u (s >>> j)) (i : Int) b = m19F17 k n (u (s >>> (j + 8))) ((i + 1 : Nat) : Int) (b ++ [u (s >>> j) % 256]) := by
  rw [m19F17, m19X17]
  simp only [leI_eq, ltI_eq, decide_eq_true_eq, if_pos (show (i : Int) < 4 by omega), one_set, wu8, if_pos (show (0 : Int) ≤ 8 by decide), shr8u, w64s (show i < 9223372036854775807 by omega)]
  rw [if_pos (by simp only [List.length_singleton]; omega)]
open Bv Crc in
theorem seal_eq (k : Nat) (hk : 5000 ≤ k) (l : List Int) (hl : l.length ≤ 4092) (hb : ∀ c ∈ l, isByte c) : m19F k l = some (l ++ seal4 (sum32 l), 0) := by
  have hl0 : ¬ ((l.length : Int) > 4092) := by omega
  simp only [m19F, m19X, ltI_eq, eqI_eq, decide_eq_true_eq]
  rw [if_neg (by omega), sum32_eq k hk l (by omega) hb, Option.bind_some]
  simp only [decide_true, Bool.not_true, Bool.false_eq_true, if_false]
  rw [clone_eq k l (by omega), Option.bind_some]
  generalize sum32 l = s
  obtain ⟨n, hn⟩ : ∃ n, k = n + 1 + 1 + 1 + 1 + 1 := ⟨k - 5, by omega⟩
  have e0 : (u s : Int) = u (s >>> 0) := by rw [BitVec.ushiftRight_zero]
  have hF : m19F17 k k (u s) 0 l = some (l ++ seal4 s, 0) := by
    have key : ∀ m, m = n + 1 + 1 + 1 + 1 + 1 → m19F17 k m (u s) 0 l = some (l ++ seal4 s, 0) := fun m hm => by
      rw [hm, e0]
      have s0 := seal_step k (n + 1 + 1 + 1 + 1) s l 0 (by omega) (by omega) 0
      have s1 := seal_step k (n + 1 + 1 + 1) s (l ++ [u (s >>> 0) % 256]) 1 (by omega) (by simp; omega) 8
      have s2 := seal_step k (n + 1 + 1) s (l ++ [u (s >>> 0) % 256] ++ [u (s >>> 8) % 256]) 2 (by omega) (by simp; omega) 16
      have s3 := seal_step k (n + 1) s (l ++ [u (s >>> 0) % 256] ++ [u (s >>> 8) % 256] ++ [u (s >>> 16) % 256]) 3 (by omega) (by simp; omega) 24
      refine s0.trans (s1.trans (s2.trans (s3.trans ?_)))
      have ef : l ++ [u (s >>> 0) % 256] ++ [u (s >>> 8) % 256] ++ [u (s >>> 16) % 256] ++ [u (s >>> 24) % 256] = l ++ seal4 s := by
        unfold seal4
        rw [BitVec.ushiftRight_zero]
        simp only [List.append_assoc, List.cons_append, List.nil_append]
      rw [ef, m19F17, m19X17]
      simp only [ltI_eq, decide_eq_true_eq]
      rw [if_neg (by omega)]
      simp only [m19F24, m19X24]
      rw [clone_eq k _ (by rw [List.length_append, seal4_length]; omega), Option.bind_some]
    exact key k hn
  exact hF
open Bv Crc in
theorem sum_u_seal (l : List Int) : (l ++ seal4 (sum32 l)).length = l.length + 4 := by rw [List.length_append, seal4_length]
open Bv Crc in
/-- Is the last of it the sum of what is ahead? -/
def isSealed (l : List Int) : Bool := decide (4 ≤ l.length) && decide (l.take (l.length - 4) ++ seal4 (sum32 (l.take (l.length - 4))) = l)
open Bv Crc in
theorem sealed_eq (k : Nat) (hk : 5001 ≤ k) (l : List Int) (hl : l.length ≤ 4096) (hb : ∀ c ∈ l, isByte c) : m18F k l = some (isSealed l, 0) := by
  simp only [m18F, m18X, ltI_eq, leI_eq, eqI_eq, decide_eq_true_eq]
  rw [if_neg (by omega)]
  by_cases h : l.length < 4
  · rw [if_pos (by omega)]
    unfold isSealed
    rw [decide_eq_false (show ¬ 4 ≤ l.length by omega), Bool.false_and]
  · have w : wr .i64 ((l.length : Int) - 4) = ((l.length - 4 : Nat) : Int) := by rw [w64 (by omega) (by omega)]; omega
    have hb' : ∀ c ∈ l.take (l.length - 4), isByte c := fun c hc => hb c (List.mem_of_mem_take hc)
    have hl' : (l.take (l.length - 4)).length ≤ 4092 := by rw [List.length_take]; omega
    rw [if_neg (by omega), w, if_pos (by omega), if_pos (by omega), Int.toNat_natCast, seal_eq k (by omega) _ hl' hb', Option.bind_some]
    simp only [if_true]
    rw [equal_eq k hk _ l (by rw [List.length_append, seal4_length]; omega), Option.bind_some]
    unfold isSealed
    rw [decide_eq_true (show 4 ≤ l.length by omega), Bool.true_and]
open Be in
theorem p2_256u (s : Nat) (h : s ≤ 4) : p2 (min (Int.toNat (wr .u64 (wr .i64 (8 * (s : Int))))) 64) = ((256 ^ s : Nat) : Int) := by
  obtain rfl | rfl | rfl | rfl | rfl : s = 0 ∨ s = 1 ∨ s = 2 ∨ s = 3 ∨ s = 4 := by omega
  all_goals decide +kernel
open Be in
theorem be13_loop (k : Nat) (n : Int) : ∀ (s : Nat) (acc : List Int) (m : Nat), s ≤ 4 → s < m → acc.length + s ≤ 4200 → m22F7 k m n ((s : Int) - 1) acc = some (acc ++ be s n) := by
  intro s
  induction s with
  | zero =>
    intro acc m _ hm h
    obtain ⟨m, rfl⟩ : ∃ x, m = x + 1 := ⟨m - 1, by omega⟩
    rw [m22F7, m22X7]
    simp only [leI_eq, decide_eq_true_eq]
    rw [if_neg (by omega), be, List.append_nil]
  | succ s ih =>
    intro acc m hs hm h
    obtain ⟨m, rfl⟩ : ∃ x, m = x + 1 := ⟨m - 1, by omega⟩
    have w0 : ((s + 1 : Nat) : Int) - 1 = (s : Int) := by omega
    have w2 : wr .i64 ((s : Int) - 1) = (s : Int) - 1 := w64 (by omega) (by omega)
    have w1 : (0 : Int) ≤ wr .u64 (wr .i64 (8 * (s : Int))) := by rw [w64 (by omega) (by omega), wu64 (by omega) (by omega)]; omega
    rw [m22F7, m22X7]
    simp only [leI_eq, decide_eq_true_eq, w0, w2, one_set, p2_256u s (by omega), if_pos w1, wu8]
    rw [if_pos (by omega), if_pos (by simp only [List.length_singleton]; omega), ih _ m (by omega) (by omega) (by simp; omega), be, List.append_assoc]
    rfl
open Be in
theorem be13_eq (k : Nat) (hk : 10 ≤ k) (n : Int) (s : Nat) (h4 : s ≤ 4) : m22F k n (s : Int) = some (be s n) := by
  have w3 : wr .i64 ((s : Int) - 1) = (s : Int) - 1 := w64 (by omega) (by omega)
  simp only [m22F, m22X, w3]
  exact be13_loop k n s [] k h4 (by omega) (by simp; omega)
open Be Crc in
theorem num13_loop (k : Nat) (l : List Int) (hl : l.length ≤ 4) : ∀ (rest pre : List Int) (n : Nat), l = pre ++ rest → (∀ c ∈ l, isByte c) → rest.length < n →
    m28F7 k n l (num pre) (pre.length : Int) = some (num l) := by
  intro rest
  induction rest with
  | nil =>
    intro pre n h _ hn
    obtain ⟨n, rfl⟩ : ∃ x, n = x + 1 := ⟨n - 1, by simp only [List.length_nil] at hn; omega⟩
    rw [List.append_nil] at h
    subst h
    rw [m28F7, m28X7]
    simp only [ltI_eq, decide_eq_true_eq]
    rw [if_neg (by omega)]
  | cons x rest ih =>
    intro pre n h hb hn
    obtain ⟨n, rfl⟩ : ∃ x, n = x + 1 := ⟨n - 1, by omega⟩
    have h1 : l.length = pre.length + (rest.length + 1) := by rw [h]; simp
    have e1 : l.getD (Int.toNat (pre.length : Int)) 0 = x := by rw [h]; exact gd_at pre rest x 0
    have hx : isByte x := hb x (by rw [h]; simp)
    have e2 := num_or pre x (by omega) (fun c hc => hb c (by rw [h]; simp [hc])) hx
    rw [m28F7, m28X7]
    simp only [leI_eq, ltI_eq, decide_eq_true_eq, if_pos (show (pre.length : Int) < (l.length : Int) by omega), if_pos (show (0 : Int) ≤ (pre.length : Int) by omega), if_pos (show (0 : Int) ≤ 8 by decide), e1, e2, w64s (show pre.length < 9223372036854775807 by omega)]
    have := ih (pre ++ [x]) n (by rw [h]; simp) hb (by simp only [List.length_cons] at hn; omega)
    rw [List.length_append, List.length_singleton] at this
    exact this
open Be Crc in
theorem num13_eq (k : Nat) (hk : 10 ≤ k) (l : List Int) (hl : l.length ≤ 4) (hb : ∀ c ∈ l, isByte c) : m28F k l = some (num l) :=
  num13_loop k l hl l [] k rfl hb (by omega)
open Bv in
theorem shr_u8 (c j : Nat) (hj : j < 8) : (c : Int) / p2 (min (Int.toNat (wr .u64 (j : Int))) 8) = ((c / 2 ^ j : Nat) : Int) := by
  rw [wu64 (by omega) (by omega), Int.toNat_natCast, Nat.min_eq_left (by omega)]
  unfold p2
  exact (Int.natCast_ediv ..).symm
open Bv Crc in
theorem shift32_eq (k : Nat) (r : BitVec 32) (b : Nat) (hb : b < 2) : m32F k (u r) (b : Int) = some (u (L (r ^^^ BitVec.ofNat 32 b))) := by
  have e : Go.bits .and .i64 (u r) 1 = ((r.toNat % 2 : Nat) : Int) := and1 r.toNat (lt63 (by decide) r)
  have hx : (r ^^^ BitVec.ofNat 32 b).toNat = r.toNat ^^^ b := by rw [BitVec.toNat_xor, BitVec.toNat_ofNat, Nat.mod_eq_of_lt (by omega)]
  have hm : (r ^^^ BitVec.ofNat 32 b).toNat % 2 = (r.toNat % 2 + b) % 2 := by
    rw [hx, show (r.toNat ^^^ b) % 2 = (r.toNat % 2 + b % 2) % 2 from Pop.xor_mod2 _ _, Nat.mod_eq_of_lt hb]
  have hs : (r ^^^ BitVec.ofNat 32 b) >>> 1 = r >>> 1 := by
    apply BitVec.eq_of_getLsbD_eq
    intro i hi
    rw [BitVec.getLsbD_ushiftRight, BitVec.getLsbD_ushiftRight, BitVec.getLsbD_xor, BitVec.getLsbD_ofNat, Nat.testBit_lt_two_pow (Nat.lt_of_lt_of_le hb (Nat.pow_le_pow_right (n := 2) (i := 1) (by decide) (by omega)))]
    simp
  simp only [m32F, m32X, eqI_eq, e, leI_eq, decide_eq_true_eq, if_pos (show (0 : Int) ≤ 1 by decide)]
  by_cases h : r.toNat % 2 = b
  · have h' : ((r.toNat % 2 : Nat) : Int) = (b : Int) := by omega
    rw [L_even (by rw [hm]; omega), hs]
    simp only [h', decide_true, Bool.not_true, Bool.false_eq_true, if_false, shr1]
  · have h' : ¬ ((r.toNat % 2 : Nat) : Int) = (b : Int) := by omega
    rw [L_odd (by rw [hm]; omega), hs]
    simp only [h', decide_false, Bool.not_false, if_true, shr1]
    have := xor_u (by decide) (r >>> 1) 3988292384#32
    rw [← this]
    rfl
open Bv Crc in
theorem ref32_inner (k : Nat) (L7 : List Int → Int → Int → Option Int) (l : List Int) (i c : Nat) (hc : c < 256) (hi : i < l.length) (hl : l.length ≤ 5000) (hr : l.getD (Int.toNat (i : Int)) 0 = (c : Int)) (X : Option Int) : ∀ (d j n : Nat) (r : BitVec 32), j + d = 8 → d < n →
    L7 l (u (fd32 r ((List.range' j d).map (fun j => BitVec.ofNat 32 (c / 2 ^ j % 2))))) ((i + 1 : Nat) : Int) = X → m30F13 k L7 n l (u r) (i : Int) (j : Int) = X := by
  intro d
  induction d with
  | zero =>
    intro j n r hj hn R
    obtain ⟨n, rfl⟩ : ∃ x, n = x + 1 := ⟨n - 1, by omega⟩
    rw [m30F13, m30X13]
    simp only [ltI_eq, decide_eq_true_eq]
    rw [if_neg (by omega)]
    simp only [m30F8, m30X8, w64s (show i < 9223372036854775807 by omega)]
    exact R
  | succ d ih =>
    intro j n r hj hn R
    obtain ⟨n, rfl⟩ : ∃ x, n = x + 1 := ⟨n - 1, by omega⟩
    have hd : c / 2 ^ j ≤ c := Nat.div_le_self _ _
    have hu : (0 : Int) ≤ wr .u64 (j : Int) := by rw [wu64 (by omega) (by omega)]; omega
    rw [m30F13, m30X13]
    simp only [leI_eq, ltI_eq, decide_eq_true_eq, if_pos (show (j : Int) < 8 by omega), if_pos (show (0 : Int) ≤ (i : Int) by omega), if_pos (show (i : Int) < (l.length : Int) by omega), if_pos hu, hr, shr_u8 c j (by omega), w64n (show c / 2 ^ j < 9223372036854775808 by omega), Bv.and1 (c / 2 ^ j) (by omega), w64s (show j < 9223372036854775807 by omega)]
    rw [shift32_eq k r (c / 2 ^ j % 2) (by omega), Option.bind_some]
    rw [List.range'_succ, List.map_cons] at R
    exact ih (j + 1) n _ (by omega) (by omega) R
open Bv Crc in
theorem ref32_loop (k : Nat) (hk : 10 ≤ k) (l : List Int) (hl : l.length ≤ 4096) : ∀ (rest pre : List Int) (n : Nat) (r : BitVec 32), l = pre ++ rest → (∀ c ∈ rest, isByte c) → rest.length < n →
    m30F7 k n l (u r) (pre.length : Int) = some (u (reg32 r rest ^^^ ones32)) := by
  intro rest
  induction rest with
  | nil =>
    intro pre n r h _ hn
    obtain ⟨n, rfl⟩ : ∃ x, n = x + 1 := ⟨n - 1, by simp only [List.length_nil] at hn; omega⟩
    have hlen : l.length = pre.length := by rw [h]; simp
    have := xor_u (by decide) r ones32
    rw [m30F7, m30X7]
    simp only [ltI_eq, decide_eq_true_eq]
    rw [if_neg (by omega)]
    simp only [m30F18, m30X18, reg_nil]
    rw [← this]
    rfl
  | cons c rest ih =>
    intro pre n r h hb hn
    obtain ⟨n, rfl⟩ : ∃ x, n = x + 1 := ⟨n - 1, by omega⟩
    have hlen : l.length = pre.length + (rest.length + 1) := by rw [h]; simp
    have hcb := hb c (by simp)
    have h0 := hcb.1
    have h1 := hcb.2
    have hp : l.getD (Int.toNat (pre.length : Int)) 0 = ((c.toNat : Nat) : Int) := by rw [h, gd_at pre rest c 0]; omega
    rw [m30F7, m30X7]
    simp only [ltI_eq, decide_eq_true_eq]
    rw [if_pos (by omega)]
    refine ref32_inner k _ l pre.length c.toNat (by omega) (by omega) (by omega) hp _ 8 0 k r rfl (by omega) ?_
    have hby := fd32_byte r c hcb
    unfold bits32 at hby
    rw [hby]
    have := ih (pre ++ [c]) n (step32 r c) (by rw [h]; simp) (fun y hy => hb y (by simp [hy])) (by simp only [List.length_cons] at hn; omega)
    rw [List.length_append, List.length_singleton] at this
    exact this
open Bv Crc in
theorem ref32_eq (k : Nat) (hk : 5000 ≤ k) (l : List Int) (hl : l.length ≤ 4096) (hb : ∀ c ∈ l, isByte c) : m30F k l = some (u (sum32 l)) := by
  simp only [m30F, m30X]
  exact ref32_loop k (by omega) l hl l [] k ones32 rfl hb (by omega)
open Bv Crc in
theorem refseal_eq (k : Nat) (hk : 5000 ≤ k) (l : List Int) (hl : l.length ≤ 4092) (hb : ∀ c ∈ l, isByte c) : m23F k l = some (l ++ seal4 (sum32 l)) := by
  simp only [m23F, m23X, leI_eq, decide_eq_true_eq]
  rw [ref32_eq k hk l (by omega) hb, Option.bind_some, twin_eq k l (by omega), Option.bind_some]
  generalize sum32 l = s
  have e : List.set (List.set (List.set (List.set (List.replicate 4 0) 0 (wr .u8 (u s))) 1 (wr .u8 (u s / 256))) 2 (wr .u8 (u s / 65536))) 3 (wr .u8 (u s / 16777216)) = seal4 s := by
    unfold seal4
    have e1 : u s / (65536 : Int) = u (s >>> 16) := shr_pow s 16
    have e2 : u s / (16777216 : Int) = u (s >>> 24) := shr_pow s 24
    rw [← e1, ← e2, ← shr8]
    rfl
  simp only [e, if_pos (show (0 : Int) ≤ 8 by decide), if_pos (show (0 : Int) ≤ 16 by decide), if_pos (show (0 : Int) ≤ 24 by decide)]
  rw [if_pos (by rw [seal4_length]; omega)]
open Bv Crc in
theorem refsealed_eq (k : Nat) (hk : 5001 ≤ k) (l : List Int) (hl : l.length ≤ 4096) (hb : ∀ c ∈ l, isByte c) : m27F k l = some (isSealed l) := by
  simp only [m27F, m27X, leI_eq, decide_eq_true_eq]
  by_cases h : l.length < 4
  · rw [if_neg (by omega)]
    unfold isSealed
    rw [decide_eq_false (show ¬ 4 ≤ l.length by omega), Bool.false_and]
  · have w : wr .i64 ((l.length : Int) - 4) = ((l.length - 4 : Nat) : Int) := by rw [w64 (by omega) (by omega)]; omega
    have hb' : ∀ c ∈ l.take (l.length - 4), isByte c := fun c hc => hb c (List.mem_of_mem_take hc)
    have hl' : (l.take (l.length - 4)).length ≤ 4092 := by rw [List.length_take]; omega
    rw [if_pos (by omega), w, if_pos (by omega), if_pos (by omega), Int.toNat_natCast, refseal_eq k (by omega) _ hl' hb', Option.bind_some]
    rw [bytes_eq' k hk _ l (by rw [List.length_append, seal4_length]; omega), Option.bind_some]
    unfold isSealed
    rw [decide_eq_true (show 4 ≤ l.length by omega), Bool.true_and]
/-! Blocks. -/
theorem two_set (x y d : Int) : List.set (List.set (List.replicate 2 d) 0 x) 1 y = [x, y] := (congrArg (fun z : Int => [z, y]) (Eq.refl x) : [x, y] = [x, y])
open Crc Be Bv in
theorem isSealed_seal (t : List Int) : isSealed (t ++ seal4 (sum32 t)) = true := by
  unfold isSealed
  have h : (t ++ seal4 (sum32 t)).length - 4 = t.length := by rw [List.length_append, seal4_length]; omega
  rw [h, List.take_left, decide_eq_true (show 4 ≤ (t ++ seal4 (sum32 t)).length by rw [List.length_append, seal4_length]; omega)]
  simp
open Crc Be in
theorem drop_take_mid {α : Type} (a b c : List α) : ((a ++ b ++ c).take (a.length + b.length)).drop a.length = b := by
  rw [List.append_assoc, ← List.append_assoc a b c, show a.length + b.length = (a ++ b).length by rw [List.length_append], List.take_left, List.drop_left]
/-- What is wrong with a block. -/
def blkErr (c s m : Int) (n : Nat) : Int := if c < 1 ∨ 16 < c ∨ s < 0 ∨ 1073741824 ≤ s ∨ m < 0 ∨ 3 < m then 1 else if c < (n : Int) ∨ (m < 2 ∧ (n : Int) < c) then 2 else 0
theorem blkErr_zero {c s m : Int} {n : Nat} (h : blkErr c s m n = 0) : (1 ≤ c ∧ c ≤ 16) ∧ (0 ≤ s ∧ s < 1073741824) ∧ (0 ≤ m ∧ m ≤ 3) ∧ (n : Int) ≤ c ∧ (m < 2 → (n : Int) = c) := by
  unfold blkErr at h
  split at h
  · cases h
  · split at h
    · cases h
    · rename_i h1 h2
      omega
theorem and2 (m : Int) (h0 : 0 ≤ m) (h1 : m ≤ 3) : bits .and .i64 m 2 = 0 ↔ m < 2 := by
  have h : m = 0 ∨ m = 1 ∨ m = 2 ∨ m = 3 := by omega
  rcases h with rfl | rfl | rfl | rfl <;> decide +kernel
theorem blkCheck_eq (k : Nat) (c s m : Int) (t : List Int) : m11F k c (s, m, t) = some (blkErr c s m t.length) := by
  simp only [m11F, m11X, m21F, m21X, ltI_eq, leI_eq, eqI_eq, decide_eq_true_eq, blkErr]
  by_cases h1 : c < 1
  · rw [if_neg (show ¬ 1 ≤ c by omega)]
    simp [h1]
  · rw [if_pos (show 1 ≤ c by omega), Option.bind_some]
    by_cases h2 : 16 < c
    · simp [h1, h2, show ¬ c ≤ 16 by omega]
    · by_cases h3 : s < 0
      · simp [h1, h2, h3, show c ≤ 16 by omega]
      · by_cases h4 : 1073741824 ≤ s
        · simp [h1, h2, h3, h4, show c ≤ 16 by omega]
        · by_cases h5 : m < 0
          · simp [h1, h2, h3, h4, h5, show c ≤ 16 by omega]
          · by_cases h6 : 3 < m
            · simp [h1, h2, h3, h4, h5, h6, show c ≤ 16 by omega]
            · have ha := and2 m (by omega) (by omega)
              by_cases h7 : c < (t.length : Int)
              · simp [h1, h2, h3, h4, h5, h6, h7, show c ≤ 16 by omega]
              · by_cases h8 : (t.length : Int) < c
                · by_cases h9 : m < 2
                  · simp [h1, h2, h3, h4, h5, h6, h7, h8, h9, ha.2 h9, show c ≤ 16 by omega]
                  · have h9' : ¬ bits .and .i64 m 2 = 0 := fun h => h9 (ha.1 h)
                    simp [h1, h2, h3, h4, h5, h6, h7, h8, h9, h9', show c ≤ 16 by omega]
                · simp [h1, h2, h3, h4, h5, h6, h7, h8, show c ≤ 16 by omega]
theorem refBlock_eq (k : Nat) (c s m : Int) (t : List Int) : m9F k c (s, m, t) = some (blkErr c s m t.length) := by
  simp only [m9F, m9X, ltI_eq, leI_eq, eqI_eq, decide_eq_true_eq, blkErr]
  by_cases h1 : c < 1
  · simp [h1]
  · by_cases h2 : 16 < c
    · simp [h1, h2]
    · by_cases h3 : s < 0
      · simp [h1, h2, h3]
      · by_cases h4 : 1073741824 ≤ s
        · simp [h1, h2, h3, h4]
        · by_cases h5 : m < 0
          · simp [h1, h2, h3, h4, h5]
          · by_cases h6 : 3 < m
            · simp [h1, h2, h3, h4, h5, h6]
            · by_cases h7 : c < (t.length : Int)
              · simp [h1, h2, h3, h4, h5, h6, h7]
              · by_cases h8 : (t.length : Int) < c
                · by_cases h9 : m < 2
                  · simp [h1, h2, h3, h4, h5, h6, h7, h8, h9]
                  · simp [h1, h2, h3, h4, h5, h6, h7, h8, h9]
                · simp [h1, h2, h3, h4, h5, h6, h7, h8]
open Crc Be in
/-- A block's bytes ahead of the sum. -/
def blkBody (c s m : Int) (t : List Int) : List Int := be 4 s ++ [m, (t.length : Int)] ++ t ++ List.replicate (c.toNat - t.length) 0
open Crc Be in
theorem blkBody_length (c s m : Int) (t : List Int) (h : (t.length : Int) ≤ c) : (blkBody c s m t).length = 6 + c.toNat := by
  unfold blkBody
  rw [List.length_append, List.length_append, List.length_append, be_length, List.length_replicate]
  simp
  omega
open Crc Be in
theorem blkBody_bytes (c s m : Int) (t : List Int) (hm : 0 ≤ m ∧ m ≤ 3) (hn : (t.length : Int) ≤ 16) (ht : ∀ x ∈ t, isByte x) : ∀ x ∈ blkBody c s m t, isByte x := by
  unfold blkBody
  intro x hx
  rcases List.mem_append.1 hx with hx | hx
  · rcases List.mem_append.1 hx with hx | hx
    · rcases List.mem_append.1 hx with hx | hx
      · exact be_bytes 4 s x hx
      · rcases List.mem_cons.1 hx with rfl | hx
        · exact ⟨by omega, by omega⟩
        · rw [List.mem_singleton] at hx
          subst hx
          exact ⟨by omega, by omega⟩
    · exact ht x hx
  · obtain ⟨_, rfl⟩ := List.mem_replicate.1 hx
    exact ⟨by omega, by omega⟩
open Crc Be in
def blkPack (c s m : Int) (t : List Int) : List Int := blkBody c s m t ++ seal4 (sum32 (blkBody c s m t))
open Crc Be in
theorem blkPack_length (c s m : Int) (t : List Int) (h : (t.length : Int) ≤ c) : (blkPack c s m t).length = 10 + c.toNat := by
  unfold blkPack
  rw [List.length_append, blkBody_length c s m t h, seal4_length]
  omega
open Crc Be in
theorem blkPack_bytes (c s m : Int) (t : List Int) (hm : 0 ≤ m ∧ m ≤ 3) (hn : (t.length : Int) ≤ 16) (ht : ∀ x ∈ t, isByte x) : ∀ x ∈ blkPack c s m t, isByte x := by
  unfold blkPack
  intro x hx
  rcases List.mem_append.1 hx with hx | hx
  · exact blkBody_bytes c s m t hm hn ht x hx
  · exact seal4_bytes _ x hx
theorem blk_ar (c m : Int) (n : Nat) (hc : 1 ≤ c ∧ c ≤ 16) (hm : 0 ≤ m ∧ m ≤ 3) (hn : (n : Int) ≤ c) : wr .u8 m = m ∧ wr .u8 (n : Int) = (n : Int) ∧ wr .i64 (c - (n : Int)) = c - (n : Int) ∧ leI 0 (c - (n : Int)) = true ∧ (c - (n : Int)).toNat = c.toNat - n ∧ wr .i64 (c + 6) = c + 6 ∧ wr .i64 (c + 10) = c + 10 :=
  ⟨by rw [wu8]; omega, by rw [wu8]; omega, w64 (by omega) (by omega), leI_pos (by omega), by omega, w64 (by omega) (by omega), w64 (by omega) (by omega)⟩
open Crc Be in
theorem blkMake_eq (k : Nat) (hk : 5001 ≤ k) (c s m : Int) (t : List Int) (h : blkErr c s m t.length = 0) (ht : ∀ x ∈ t, isByte x) : m10F k c (s, m, t) = some (blkPack c s m t, 0) := by
  obtain ⟨hc, hs, hm, hn, _⟩ := blkErr_zero h
  have p1 : m20F k [] s 4 = some ([] ++ be 4 s, 0) := put_eq k (by omega) [] s 4 (by omega) (by omega) (by simp) hs.1 (by omega)
  have s1 := seal_eq k (by omega) (blkBody c s m t) (by rw [blkBody_length c s m t hn]; omega) (blkBody_bytes c s m t hm (by omega) ht)
  have q0 : (!eqI (0 : Int) 0) = false := by rw [eqI_pos rfl]; rfl
  have l1 : (be 4 s).length = 4 := be_length 4 s
  have e : be 4 s ++ [m, (t.length : Int)] ++ t ++ List.replicate (c.toNat - t.length) 0 = blkBody c s m t := rfl
  obtain ⟨w1, w2, w3, c0, n1, _⟩ := blk_ar c m t.length hc hm hn
  simp only [m10F, m10X, blkCheck_eq, h, Option.bind_some, q0, Bool.false_eq_true, if_false, p1, two_set, List.nil_append, w1, w2, w3, c0, n1, if_true]
  generalize be 4 s = x at l1 e
  have c1 : leI (((x.length + [m, (t.length : Int)].length) * 1 : Nat) : Int) 140737488355328 = true := leI_pos (by simp; omega)
  have c2 : leI ((((x ++ [m, (t.length : Int)]).length + t.length) * 1 : Nat) : Int) 140737488355328 = true := leI_pos (by simp; omega)
  have c3 : leI ((((x ++ [m, (t.length : Int)] ++ t).length : Int) + (c - (t.length : Int))) * 1) 140737488355328 = true := leI_pos (by simp; omega)
  rw [if_pos c1, if_pos c2, if_pos c3, e, s1, Option.bind_some, blkPack]
theorem blkMake_bad (k : Nat) (c s m : Int) (t : List Int) (h : blkErr c s m t.length ≠ 0) : m10F k c (s, m, t) = some ([], blkErr c s m t.length) := by
  simp only [m10F, m10X, blkCheck_eq, Option.bind_some]
  rw [if_pos (by rw [eqI_neg h]; rfl)]
open Crc Be in
theorem refBytes_loop (k : Nat) (hk : 5001 ≤ k) (c s m : Int) (t : List Int) (hc : 1 ≤ c ∧ c ≤ 16) (hm : 0 ≤ m ∧ m ≤ 3) (hn : (t.length : Int) ≤ c) (ht : ∀ x ∈ t, isByte x) : ∀ (n i j : Nat), i + n = c.toNat - t.length → n < j →
    m15F7 k j c (be 4 s ++ [m, (t.length : Int)] ++ t ++ List.replicate i 0) = some (blkPack c s m t) := by
  have w6 : wr .i64 (c + 6) = c + 6 := w64 (by omega) (by omega)
  have hl : ∀ i : Nat, (be 4 s ++ [m, (t.length : Int)] ++ t ++ List.replicate i 0).length = 6 + t.length + i := fun i => by
    rw [List.length_append, List.length_append, List.length_append, be_length, List.length_replicate]
    simp
  have cond : ∀ i : Nat, (i + 1 ≤ c.toNat - t.length → ltI ((6 + t.length + i : Nat) : Int) (c + 6) = true ∧ leI (((6 + t.length + i + 1) * 1 : Nat) : Int) 140737488355328 = true) ∧ (i = c.toNat - t.length → ltI ((6 + t.length + i : Nat) : Int) (c + 6) = false) := by
    intro i
    clear w6
    exact ⟨fun h => ⟨ltI_pos (by omega), leI_pos (by omega)⟩, fun h => ltI_neg (by omega)⟩
  intro n
  induction n with
  | zero =>
    intro i j h hj
    obtain ⟨j, rfl⟩ : ∃ a, j = a + 1 := ⟨j - 1, by omega⟩
    have hi : i = c.toNat - t.length := h
    have s1 := refseal_eq k (by omega) (blkBody c s m t) (by rw [blkBody_length c s m t hn]; clear w6; omega) (blkBody_bytes c s m t hm (by clear w6; omega) ht)
    simp only [m15F7, m15X7, hl, w6, (cond i).2 hi, Bool.false_eq_true, if_false, m15F10, m15X10]
    subst hi
    rw [show be 4 s ++ [m, (t.length : Int)] ++ t ++ List.replicate (c.toNat - t.length) 0 = blkBody c s m t from rfl, s1, Option.bind_some, blkPack]
  | succ n ih =>
    intro i j h hj
    obtain ⟨j, rfl⟩ : ∃ a, j = a + 1 := ⟨j - 1, by omega⟩
    obtain ⟨k1, k2⟩ := (cond i).1 (by omega)
    have h2 := ih (i + 1) j (by omega) (by omega)
    have hr : List.replicate i (0 : Int) ++ [0] = List.replicate (i + 1) 0 := by rw [List.replicate_succ', ]
    simp only [m15F7, m15X7, hl, w6, k1, k2, if_true, one_set]
    rw [List.append_assoc _ (List.replicate i (0 : Int)) [0], hr]
    exact h2
open Crc Be in
theorem refBytes_eq (k : Nat) (hk : 5001 ≤ k) (c s m : Int) (t : List Int) (h : blkErr c s m t.length = 0) (ht : ∀ x ∈ t, isByte x) : m15F k c (s, m, t) = some (blkPack c s m t) := by
  obtain ⟨hc, hs, hm, hn, _⟩ := blkErr_zero h
  have q1 : m22F k s 4 = some (be 4 s) := be13_eq k (by omega) s 4 (by omega)
  have lp := refBytes_loop k hk c s m t hc hm hn ht (c.toNat - t.length) 0 k (by omega) (by omega)
  have l1 : (be 4 s).length = 4 := be_length 4 s
  obtain ⟨w1, w2, _⟩ := blk_ar c m t.length hc hm hn
  simp only [m15F, m15X, q1, Option.bind_some, two_set, w1, w2]
  generalize be 4 s = x at l1 lp
  have c1 : leI (((x.length + [m, (t.length : Int)].length) * 1 : Nat) : Int) 140737488355328 = true := leI_pos (by simp; omega)
  have c2 : leI ((((x ++ [m, (t.length : Int)]).length + t.length) * 1 : Nat) : Int) 140737488355328 = true := leI_pos (by simp; omega)
  rw [if_pos c1, if_pos c2]
  rw [List.replicate_zero, List.append_nil] at lp
  exact lp
open Crc Be in
/-- What bytes are read as. -/
def blkRead (c : Int) (l : List Int) : (Int × (Int × List Int)) × Int :=
  if c < 1 ∨ 16 < c then ((0, 0, []), 1) else if (l.length : Int) ≠ c + 10 then ((0, 0, []), 2) else if isSealed l = false then ((0, 0, []), 4)
  else if c < l.getD 5 0 then ((0, 0, []), 3)
  else if blkErr c (num (l.take 4)) (l.getD 4 0) ((l.take (6 + (l.getD 5 0).toNat)).drop 6).length ≠ 0 then ((0, 0, []), 3)
  else if blkPack c (num (l.take 4)) (l.getD 4 0) ((l.take (6 + (l.getD 5 0).toNat)).drop 6) = l then ((num (l.take 4), l.getD 4 0, (l.take (6 + (l.getD 5 0).toNat)).drop 6), 0)
  else ((0, 0, []), 3)
theorem blkRead_ar (c : Int) (n x : Nat) (hc : 1 ≤ c ∧ c ≤ 16) (hn : (n : Int) = c + 10) (hx : (x : Int) ≤ c) : leI 0 4 = true ∧ ltI 4 (n : Int) = true ∧ leI 0 5 = true ∧ ltI 5 (n : Int) = true ∧ wr .i64 (x : Int) = (x : Int) ∧ wr .i64 (6 + (x : Int)) = ((6 + x : Nat) : Int) ∧ leI 0 ((6 + x : Nat) : Int) = true ∧
    leI ((6 + x : Nat) : Int) (n : Int) = true ∧ leI 0 6 = true ∧ leI 6 ((6 + x : Nat) : Int) = true ∧ leI 4 (n : Int) = true :=
  ⟨leI_pos (by decide), ltI_pos (by omega), leI_pos (by decide), ltI_pos (by omega), w64 (by omega) (by omega), w64 (by omega) (by omega), leI_pos (by omega), leI_pos (by omega), leI_pos (by decide), leI_pos (by omega), leI_pos (by omega)⟩
open Crc Be in
theorem blkRead_eq (k : Nat) (hk : 5001 ≤ k) (c : Int) (l : List Int) (hl : l.length ≤ 4096) (hcc : -9000000000000000000 ≤ c ∧ c ≤ 9000000000000000000 ∨ c < 1 ∨ 16 < c) (hb : ∀ x ∈ l, isByte x) : m16F k c l = some (blkRead c l) := by
  simp only [m16F, m16X, m21F, m21X]
  unfold blkRead
  by_cases h1 : c < 1
  · rw [if_neg (by rw [leI_neg (by omega)]; simp), Option.bind_some, if_pos (by rfl), if_pos (.inl h1)]
  · by_cases h2 : 16 < c
    · rw [if_pos (leI_pos (by omega)), Option.bind_some, leI_neg (by omega), if_pos (by rfl), if_pos (.inr h2)]
    · have hc : 1 ≤ c ∧ c ≤ 16 := by omega
      clear hcc
      have wc : wr .i64 (c + 10) = c + 10 := w64 (by omega) (by omega)
      rw [if_pos (leI_pos (show 1 ≤ c by omega)), Option.bind_some, leI_pos (show c ≤ 16 by omega), if_neg (show ¬ ((!true) = true) by simp), if_neg (show ¬ (c < 1 ∨ 16 < c) by omega), wc]
      clear wc
      by_cases h3 : (l.length : Int) = c + 10
      · rw [if_neg (show ¬ ((!eqI (l.length : Int) (c + 10)) = true) by rw [eqI_pos h3]; simp), if_neg (show ¬ ((l.length : Int) ≠ c + 10) from not_not_intro h3), sealed_eq k hk l hl hb, Option.bind_some]
        have q0 : (!eqI (0 : Int) 0) = false := by rw [eqI_pos rfl]; rfl
        rw [if_neg (by rw [q0]; simp)]
        by_cases h4 : isSealed l = true
        · rw [if_neg (show ¬ ((!isSealed l) = true) by rw [h4]; simp), if_neg (show ¬ (isSealed l = false) by rw [h4]; simp)]
          have g1 : m24F k l 0 4 = some (num ((l.take 4).drop 0), 0) := get_eq k (by omega) l 0 4 (by omega) (by omega) (by omega) (by omega) hb
          rw [List.drop_zero] at g1
          rw [g1, Option.bind_some]
          have h5 : isByte (l.getD 5 0) := by
            rw [List.getD_eq_getElem?_getD, List.getElem?_eq_getElem (show 5 < l.length by omega)]
            exact hb _ (List.getElem_mem _)
          have h6 : isByte (l.getD 4 0) := by
            rw [List.getD_eq_getElem?_getD, List.getElem?_eq_getElem (show 4 < l.length by omega)]
            exact hb _ (List.getElem_mem _)
          obtain ⟨x, hx, hx2⟩ : ∃ x : Nat, l.getD 5 0 = (x : Int) ∧ x < 256 := ⟨(l.getD 5 0).toNat, by have := h5.1; have := h5.2; omega, by have := h5.1; have := h5.2; omega⟩
          have wm : wr .i64 (l.getD 4 0) = l.getD 4 0 := w64 (by have := h6.1; omega) (by have := h6.2; omega)
          rw [hx]
          by_cases h7 : c < (x : Int)
          · have a1 : leI 0 4 = true ∧ ltI 4 (l.length : Int) = true ∧ leI 0 5 = true ∧ ltI 5 (l.length : Int) = true ∧ wr .i64 (x : Int) = (x : Int) := ⟨leI_pos (by decide), ltI_pos (by omega), leI_pos (by decide), ltI_pos (by omega), w64 (by omega) (by omega)⟩
            have c8 : ltI c (x : Int) = true := ltI_pos h7
            simp only [a1.1, a1.2.1, a1.2.2.1, a1.2.2.2.1, if_true, a1.2.2.2.2, c8]
            rw [if_pos h7]
          · obtain ⟨a1, a2, a3, a4, a5, a6, a7, a8, a9, aa, _⟩ := blkRead_ar c l.length x hc h3 (by omega)
            have c8 : ltI c (x : Int) = false := ltI_neg h7
            have ht : ((l.take (6 + x)).drop 6).length = x := by
              rw [List.length_drop, List.length_take]
              omega
            have hbt : ∀ y ∈ (l.take (6 + x)).drop 6, isByte y := fun y hy => hb y (List.mem_of_mem_take (List.mem_of_mem_drop hy))
            simp only [a1, a2, a3, a4, a5, a6, a7, a8, a9, aa, if_true, c8, Bool.false_eq_true, if_false, Int.toNat_natCast, wm]
            rw [clone_eq k _ (by rw [ht]; omega), Option.bind_some, if_neg h7]
            by_cases h9 : blkErr c (num (l.take 4)) (l.getD 4 0) ((l.take (6 + x)).drop 6).length = 0
            · obtain ⟨_, _, hm, hn, _⟩ := blkErr_zero h9
              rw [blkMake_eq k hk c _ _ _ h9 hbt, Option.bind_some, if_neg (by rw [q0]; simp), equal_eq k hk _ l (by rw [blkPack_length _ _ _ _ hn]; omega), Option.bind_some, if_neg (not_not_intro h9)]
              by_cases ha : blkPack c (num (l.take 4)) (l.getD 4 0) ((l.take (6 + x)).drop 6) = l
              · rw [if_pos ha, if_neg (by rw [decide_eq_true ha]; simp)]
              · rw [if_neg ha, if_pos (by rw [decide_eq_false ha]; rfl)]
            · rw [blkMake_bad k c _ _ _ h9, Option.bind_some, if_pos (by rw [eqI_neg h9]; rfl), if_pos h9]
        · have h4' : isSealed l = false := by simpa using h4
          rw [if_pos (by rw [h4']; rfl), if_pos h4']
      · rw [if_pos (by rw [eqI_neg h3]; rfl), if_pos h3]
open Crc Be in
theorem refRead_eq (k : Nat) (hk : 5001 ≤ k) (c : Int) (l : List Int) (hl : l.length ≤ 4096) (hb : ∀ x ∈ l, isByte x) : m17F k c l = some (blkRead c l) := by
  simp only [m17F, m17X]
  unfold blkRead
  by_cases h1 : c < 1
  · rw [if_pos (ltI_pos h1), if_pos (.inl h1)]
  · by_cases h2 : 16 < c
    · rw [if_neg (by rw [ltI_neg h1]; simp), if_pos (ltI_pos h2), if_pos (.inr h2)]
    · have hc : 1 ≤ c ∧ c ≤ 16 := by omega
      have wc : wr .i64 (c + 10) = c + 10 := w64 (by omega) (by omega)
      rw [if_neg (show ¬ (ltI c 1 = true) by rw [ltI_neg h1]; simp), if_neg (show ¬ (ltI 16 c = true) by rw [ltI_neg h2]; simp), if_neg (show ¬ (c < 1 ∨ 16 < c) by omega), wc]
      clear wc
      by_cases h3 : (l.length : Int) = c + 10
      · rw [if_neg (show ¬ ((!eqI (l.length : Int) (c + 10)) = true) by rw [eqI_pos h3]; simp), if_neg (show ¬ ((l.length : Int) ≠ c + 10) from not_not_intro h3), refsealed_eq k hk l hl hb, Option.bind_some]
        by_cases h4 : isSealed l = true
        · rw [if_neg (show ¬ ((!isSealed l) = true) by rw [h4]; simp), if_neg (show ¬ (isSealed l = false) by rw [h4]; simp)]
          have g1 : m28F k (l.take 4) = some (num (l.take 4)) := num13_eq k (by omega) (l.take 4) (by rw [List.length_take]; omega) (fun x hx => hb x (List.mem_of_mem_take hx))
          have h5 : isByte (l.getD 5 0) := by
            rw [List.getD_eq_getElem?_getD, List.getElem?_eq_getElem (show 5 < l.length by omega)]
            exact hb _ (List.getElem_mem _)
          have h6 : isByte (l.getD 4 0) := by
            rw [List.getD_eq_getElem?_getD, List.getElem?_eq_getElem (show 4 < l.length by omega)]
            exact hb _ (List.getElem_mem _)
          obtain ⟨x, hx, hx2⟩ : ∃ x : Nat, l.getD 5 0 = (x : Int) ∧ x < 256 := ⟨(l.getD 5 0).toNat, by have := h5.1; have := h5.2; omega, by have := h5.1; have := h5.2; omega⟩
          have wm : wr .i64 (l.getD 4 0) = l.getD 4 0 := w64 (by have := h6.1; omega) (by have := h6.2; omega)
          have b4 : leI 4 (l.length : Int) = true := leI_pos (by omega)
          rw [hx]
          by_cases h7 : c < (x : Int)
          · have a1 : leI 0 4 = true ∧ ltI 4 (l.length : Int) = true ∧ leI 0 5 = true ∧ ltI 5 (l.length : Int) = true ∧ wr .i64 (x : Int) = (x : Int) := ⟨leI_pos (by decide), ltI_pos (by omega), leI_pos (by decide), ltI_pos (by omega), w64 (by omega) (by omega)⟩
            have c8 : ltI c (x : Int) = true := ltI_pos h7
            simp only [b4, g1, Option.bind_some, a1.1, a1.2.1, a1.2.2.1, a1.2.2.2.1, if_true, a1.2.2.2.2, c8]
            rw [if_pos h7]
          · obtain ⟨a1, a2, a3, a4, a5, a6, a7, a8, a9, aa, _⟩ := blkRead_ar c l.length x hc h3 (by omega)
            have c8 : ltI c (x : Int) = false := ltI_neg h7
            have ht : ((l.take (6 + x)).drop 6).length = x := by
              rw [List.length_drop, List.length_take]
              omega
            have hbt : ∀ y ∈ (l.take (6 + x)).drop 6, isByte y := fun y hy => hb y (List.mem_of_mem_take (List.mem_of_mem_drop hy))
            simp only [b4, g1, Option.bind_some, a1, a2, a3, a4, a5, a6, a7, a8, a9, aa, if_true, c8, Bool.false_eq_true, if_false, Int.toNat_natCast, wm]
            rw [twin_eq k _ (by rw [ht]; omega), Option.bind_some, refBlock_eq, Option.bind_some, if_neg h7]
            by_cases h9 : blkErr c (num (l.take 4)) (l.getD 4 0) ((l.take (6 + x)).drop 6).length = 0
            · obtain ⟨_, _, hm, hn, _⟩ := blkErr_zero h9
              rw [refBytes_eq k hk c _ _ _ h9 hbt, Option.bind_some, if_neg (by rw [eqI_pos h9]; simp), bytes_eq' k hk _ l (by rw [blkPack_length _ _ _ _ hn]; omega), Option.bind_some, if_neg (not_not_intro h9)]
              by_cases ha : blkPack c (num (l.take 4)) (l.getD 4 0) ((l.take (6 + x)).drop 6) = l
              · rw [if_pos ha, if_neg (by rw [decide_eq_true ha]; simp)]
              · rw [if_neg ha, if_pos (by rw [decide_eq_false ha]; rfl)]
            · rw [if_pos (by rw [eqI_neg h9]; rfl), if_pos h9]
        · have h4' : isSealed l = false := by simpa using h4
          rw [if_pos (by rw [h4']; rfl), if_pos h4']
      · rw [if_pos (by rw [eqI_neg h3]; rfl), if_pos h3]
open Crc Be in
theorem blkRead_pack (c s m : Int) (t : List Int) (h : blkErr c s m t.length = 0) : blkRead c (blkPack c s m t) = ((s, m, t), 0) := by
  obtain ⟨hc, hs, hm, hn, _⟩ := blkErr_zero h
  have l0 := blkPack_length c s m t hn
  have e0 : blkPack c s m t = be 4 s ++ ([m, (t.length : Int)] ++ t ++ (List.replicate (c.toNat - t.length) 0 ++ seal4 (sum32 (blkBody c s m t)))) := by
    unfold blkPack
    conv => lhs; arg 1; unfold blkBody
    simp only [List.append_assoc]
  have lb : (be 4 s).length = 4 := be_length 4 s
  have e1 : (blkPack c s m t).take 4 = be 4 s := by
    rw [e0]
    exact List.take_left' lb
  have e2 : (blkPack c s m t).getD 4 0 = m := by
    rw [e0, List.getD_eq_getElem?_getD, List.getElem?_append_right (by omega), lb]
    rfl
  have e3 : (blkPack c s m t).getD 5 0 = (t.length : Int) := by
    rw [e0, List.getD_eq_getElem?_getD, List.getElem?_append_right (by omega), lb]
    rfl
  have e4 : ((blkPack c s m t).take (6 + t.length)).drop 6 = t := by
    have := drop_take_mid (be 4 s ++ [m, (t.length : Int)]) t (List.replicate (c.toNat - t.length) 0 ++ seal4 (sum32 (blkBody c s m t)))
    rw [List.length_append, lb] at this
    have e5 : be 4 s ++ [m, (t.length : Int)] ++ t ++ (List.replicate (c.toNat - t.length) 0 ++ seal4 (sum32 (blkBody c s m t))) = blkPack c s m t := by
      rw [e0]
      simp only [List.append_assoc]
    rw [e5] at this
    exact this
  have e6 : isSealed (blkPack c s m t) = true := isSealed_seal _
  unfold blkRead
  rw [e1, e2, e3, Int.toNat_natCast, e4, e6, num_be' 4 s hs.1 (by omega), l0, if_neg (by omega), if_neg (by omega), if_neg (by simp), if_neg (by omega), if_neg (fun hh => hh h), if_pos rfl]
theorem keepBlock_eq (k : Nat) (hk : 5001 ≤ k) (a b : Int × (Int × List Int)) (hl : a.2.2.length ≤ 5000) : m12F k a b = some (decide (a = b)) := by
  obtain ⟨s, m, t⟩ := a
  obtain ⟨s', m', t'⟩ := b
  simp only [m12F, m12X, eqI_eq, decide_eq_true_eq, bytes_eq' k hk t t' hl, Option.bind_some]
  by_cases h1 : s = s'
  · by_cases h2 : m = m'
    · simp [h1, h2]
    · simp [h1, h2]
  · simp [h1]
theorem wakes13 (k : Nat) (hk : 5001 ≤ k) : m13F k = some true := by
  have e : blkErr 1 7 3 1 = 0 := by decide
  have h1 := blkMake_eq k hk 1 7 3 [120] e (by intro x hx; rw [List.mem_singleton] at hx; subst hx; exact ⟨by omega, by omega⟩)
  have l1 : (blkPack 1 7 3 [120]).length = 11 := blkPack_length 1 7 3 [120] (by decide)
  have h2 := blkRead_eq k hk 1 (blkPack 1 7 3 [120]) (by omega) (.inl (by decide)) (blkPack_bytes 1 7 3 [120] (by decide) (by decide) (by intro x hx; rw [List.mem_singleton] at hx; subst hx; exact ⟨by omega, by omega⟩))
  rw [blkRead_pack 1 7 3 [120] e] at h2
  have q0 : eqI 0 0 = true := eqI_pos rfl
  have q7 : eqI 7 7 = true := eqI_pos rfl
  have q3 : eqI 3 3 = true := eqI_pos rfl
  have q11 : eqI ((11 : Nat) : Int) 11 = true := eqI_pos rfl
  have es : strOf [120] = ByteArray.mk #[120] := rfl
  simp only [m13F, m13X, one_set, h1, Option.bind_some, h2, q0, q7, q3, l1, q11, if_true, es, beq_self_eq_true]
open Bv Crc E in
theorem one_down : ∀ i : Fin 32, many L i.val (BitVec.ofNat 32 (2 ^ i.val)) = 1#32 := by decide +kernel
open Bv Crc E in
theorem one_up : ∀ b : Fin 8, many L 8 (BitVec.ofNat 32 (2 ^ b.val)) = many L (8 - b.val) 1#32 := by decide +kernel
open Bv Crc E in
theorem flip_byte (r : BitVec 32) (c b : Nat) (hb : b < 8) : step32 r ((c ^^^ 2 ^ b : Nat) : Int) = step32 r (c : Int) ^^^ many L (8 - b) 1#32 := by
  have e : by32 ((c ^^^ 2 ^ b : Nat) : Int) = by32 (c : Int) ^^^ BitVec.ofNat 32 (2 ^ b) := by
    unfold by32
    rw [Int.toNat_natCast, Int.toNat_natCast, BitVec.ofNat_xor]
  unfold step32
  rw [e, ← BitVec.xor_assoc, many_xor L_xor, one_up ⟨b, hb⟩]
open Bv Crc E in
theorem step_xor (r d : BitVec 32) (c : Int) : step32 (r ^^^ d) c = step32 r c ^^^ many L 8 d := by
  unfold step32
  rw [← many_xor L_xor]
  congr 1
  rw [BitVec.xor_assoc, BitVec.xor_comm d, ← BitVec.xor_assoc]
open Bv Crc E in
theorem reg_xor (l : List Int) : ∀ r d : BitVec 32, reg32 (r ^^^ d) l = reg32 r l ^^^ many L (8 * l.length) d := by
  induction l with
  | nil => intro r d; rw [reg_nil, reg_nil, List.length_nil, Nat.mul_zero, many_zero]
  | cons c l ih =>
    intro r d
    rw [reg_cons, reg_cons, step_xor, ih, ← many_add, List.length_cons]
    congr 2
open Bv Crc E in
theorem flip_reg (r : BitVec 32) (l : List Int) (hb : ∀ c ∈ l, isByte c) (j : Nat) (hj : j < 8 * l.length) :
    reg32 r (l.set (j / 8) (((l.getD (j / 8) 0).toNat ^^^ 2 ^ (j % 8) : Nat) : Int)) = reg32 r l ^^^ many L (8 * l.length - j) 1#32 := by
  have hi : j / 8 < l.length := by omega
  have hc : isByte (l[j / 8]) := hb _ (List.getElem_mem hi)
  have hg : l.getD (j / 8) 0 = l[j / 8] := by rw [List.getD_eq_getElem?_getD, List.getElem?_eq_getElem hi]; rfl
  have e1 : l = l.take (j / 8) ++ l[j / 8] :: l.drop (j / 8 + 1) := by
    rw [List.getElem_cons_drop, List.take_append_drop]
  have hn : (l[j / 8]) = ((l[j / 8].toNat : Nat) : Int) := by have := hc.1; omega
  rw [hg, List.set_eq_take_append_cons_drop, if_pos hi, reg_append, reg_cons, flip_byte _ _ _ (by omega), reg_xor, ← many_add]
  have e2 : reg32 r l = reg32 (step32 (reg32 r (l.take (j / 8))) (l[j / 8])) (l.drop (j / 8 + 1)) := by
    conv => lhs; rw [e1]
    rw [reg_append, reg_cons]
  rw [e2, ← hn, List.length_drop]
  congr 2
  omega
open Bv Crc E in
theorem seal4_of (a b c d : Int) (ha : isByte a) (hb : isByte b) (hc : isByte c) (hd : isByte d) : ∃ s, seal4 s = [a, b, c, d] := by
  obtain ⟨a0, a1⟩ := ha
  obtain ⟨b0, b1⟩ := hb
  obtain ⟨c0, c1⟩ := hc
  obtain ⟨d0, d1⟩ := hd
  refine ⟨BitVec.ofNat 32 (a.toNat + 256 * b.toNat + 65536 * c.toNat + 16777216 * d.toNat), ?_⟩
  unfold seal4 u
  rw [BitVec.toNat_ushiftRight, BitVec.toNat_ushiftRight, BitVec.toNat_ushiftRight, BitVec.toNat_ofNat, Nat.mod_eq_of_lt (by omega), Nat.shiftRight_eq_div_pow, Nat.shiftRight_eq_div_pow, Nat.shiftRight_eq_div_pow]
  congr 1
  · omega
  · congr 1
    · omega
    · congr 1
      · omega
      · congr 1
        omega
open Bv Crc E in
theorem sealed_iff (l : List Int) (hb : ∀ c ∈ l, isByte c) (h4 : 4 ≤ l.length) : isSealed l = true ↔ reg32 ones32 l = many L 32 ones32 := by
  obtain ⟨t, q, rfl, hq⟩ : ∃ t q, l = t ++ q ∧ q.length = 4 := ⟨l.take (l.length - 4), l.drop (l.length - 4), (List.take_append_drop ..).symm, by rw [List.length_drop]; omega⟩
  obtain ⟨s, rfl⟩ : ∃ s, q = seal4 s := by
    match q, hq with
    | [a, b, c, d], _ =>
      obtain ⟨s, hs⟩ := seal4_of a b c d (hb a (by simp)) (hb b (by simp)) (hb c (by simp)) (hb d (by simp))
      exact ⟨s, hs.symm⟩
  have hlen : (t ++ seal4 s).length - 4 = t.length := by rw [List.length_append, seal4_length]; omega
  unfold isSealed
  rw [hlen, List.take_left, decide_eq_true h4, Bool.true_and, decide_eq_true_eq, List.append_cancel_left_eq, reg_append, feed4]
  constructor
  · intro h
    have h1 := feed4 0#32 (sum32 t)
    rw [h, feed4, BitVec.zero_xor, BitVec.zero_xor] at h1
    have h2 := manyL_inj h1
    rw [h2]
    congr 1
    unfold sum32
    rw [← BitVec.xor_assoc, BitVec.xor_self, BitVec.zero_xor]
  · intro h
    have h2 := manyL_inj h
    have : s = sum32 t := by
      unfold sum32
      have h3 := congrArg (fun z => reg32 ones32 t ^^^ z) h2
      simp only [← BitVec.xor_assoc, BitVec.xor_self, BitVec.zero_xor] at h3
      exact h3
    rw [this]

open Bv Crc E in
/-- Bits of B from the bit p on, turned about in a text: so many have been looked at. -/
structure Flip (x0 x : List Int) (p i B : Nat) : Prop where
  len : x.length = x0.length
  byt : ∀ c ∈ x, isByte c
  reg : reg32 ones32 x = reg32 ones32 x0 ^^^ many L (8 * x0.length - p) (BitVec.ofNat 32 (B % 2 ^ i))
  same : B % 2 ^ i = 0 → x = x0
  head : ∀ t, 8 * t + 8 ≤ p → x.getD t 0 = x0.getD t 0
open Bv Crc E in
theorem Flip.zero {x0 : List Int} {p B : Nat} (hb : ∀ c ∈ x0, isByte c) : Flip x0 x0 p 0 B := by
  refine ⟨rfl, hb, ?_, fun _ => rfl, fun _ _ => rfl⟩
  rw [Nat.pow_zero, Nat.mod_one]
  show _ = _ ^^^ many L _ 0#32
  rw [manyL_zero, BitVec.xor_zero]
theorem bit_more (B i : Nat) : B % 2 ^ (i + 1) = B % 2 ^ i + 2 ^ i * (B / 2 ^ i % 2) := by
  rw [Nat.pow_succ, Nat.mod_mul]
theorem xor_top (a i : Nat) (h : a < 2 ^ i) : a ^^^ 2 ^ i = a + 2 ^ i := by
  have h1 := Nat.two_pow_add_eq_or_of_lt h 1
  rw [Nat.mul_one] at h1
  rw [Nat.add_comm, h1]
  apply Nat.eq_of_testBit_eq
  intro j
  rw [Nat.testBit_xor, Nat.testBit_or, Nat.testBit_two_pow]
  by_cases hj : i = j
  · subst hj
    rw [Nat.testBit_lt_two_pow h]
    simp
  · simp [hj]
open Bv Crc E in
theorem Flip.skip {x0 x : List Int} {p i B : Nat} (h : Flip x0 x p i B) (hb : B / 2 ^ i % 2 = 0) : Flip x0 x p (i + 1) B := by
  have e : B % 2 ^ (i + 1) = B % 2 ^ i := by rw [bit_more, hb, Nat.mul_zero, Nat.add_zero]
  exact ⟨h.len, h.byt, by rw [e]; exact h.reg, by rw [e]; exact h.same, h.head⟩
open Bv Crc E in
theorem Flip.one {x0 x : List Int} {p i B : Nat} (h : Flip x0 x p i B) (hb : B / 2 ^ i % 2 = 1) (hp : p + i < 8 * x0.length) (hi : i < 32) :
    Flip x0 (x.set ((p + i) / 8) (((x.getD ((p + i) / 8) 0).toNat ^^^ 2 ^ ((p + i) % 8) : Nat) : Int)) p (i + 1) B := by
  have e : B % 2 ^ (i + 1) = B % 2 ^ i + 2 ^ i := by rw [bit_more, hb, Nat.mul_one]
  have hlt : B % 2 ^ i < 2 ^ i := Nat.mod_lt _ (Nat.two_pow_pos i)
  have hpos := Nat.two_pow_pos i
  have hix : (p + i) / 8 < x.length := by rw [h.len]; omega
  refine ⟨by rw [List.length_set]; exact h.len, fun c hc => ?_, ?_, fun h0 => by omega, fun t ht => ?_⟩
  · rcases List.mem_or_eq_of_mem_set hc with hc | rfl
    · exact h.byt c hc
    · have hg : x.getD ((p + i) / 8) 0 = x[(p + i) / 8] := by rw [List.getD_eq_getElem?_getD, List.getElem?_eq_getElem hix]; rfl
      have hbt : isByte (x[(p + i) / 8]) := h.byt _ (List.getElem_mem hix)
      rw [hg]
      have h2 : 2 ^ ((p + i) % 8) < 2 ^ 8 := Nat.pow_lt_pow_right (by decide) (by omega)
      have h3 : (x[(p + i) / 8]).toNat ^^^ 2 ^ ((p + i) % 8) < 2 ^ 8 := Nat.xor_lt_two_pow (by have := hbt.1; have := hbt.2; omega) h2
      exact ⟨by omega, by omega⟩
  · rw [flip_reg ones32 x h.byt (p + i) (by rw [h.len]; omega), h.reg, h.len, BitVec.xor_assoc, e, ← xor_top _ _ hlt, BitVec.ofNat_xor, many_xor L_xor]
    congr 2
    have := one_down ⟨i, hi⟩
    rw [← this, ← many_add]
    congr 1
    show 8 * x0.length - (p + i) + i = _
    omega
  · rw [← h.head t ht, List.getD_eq_getElem?_getD, List.getD_eq_getElem?_getD, List.getElem?_set_ne (by omega)]
    rfl
open Bv Crc E in
theorem Flip.sealed {x0 x : List Int} {p i B : Nat} (h : Flip x0 x p i B) (hi : i ≤ 32) (h4 : 4 ≤ x0.length) (hb : ∀ c ∈ x0, isByte c) (h0 : isSealed x0 = true) : isSealed x = decide (B % 2 ^ i = 0) := by
  have k0 := (sealed_iff x0 hb h4).1 h0
  have k1 := sealed_iff x h.byt (by rw [h.len]; exact h4)
  rw [h.reg, k0] at k1
  have hlt : B % 2 ^ i < 2 ^ 32 := Nat.lt_of_lt_of_le (Nat.mod_lt _ (Nat.two_pow_pos i)) (Nat.pow_le_pow_right (by decide) hi)
  rw [Bool.eq_iff_iff, k1, decide_eq_true_eq]
  constructor
  · intro hh
    have h1 : many L 32 ones32 ^^^ many L (8 * x0.length - p) (BitVec.ofNat 32 (B % 2 ^ i)) = many L 32 ones32 ^^^ 0#32 := by rw [hh, BitVec.xor_zero]
    have h2 := (BitVec.xor_right_inj _).1 h1
    have h3 := manyL_eq_zero h2
    have h4 := congrArg BitVec.toNat h3
    rw [BitVec.toNat_ofNat, Nat.mod_eq_of_lt hlt] at h4
    simpa using h4
  · intro hh
    rw [hh]
    show _ ^^^ many L _ 0#32 = _
    rw [manyL_zero, BitVec.xor_zero]
/-- A byte with a bit turned, as the program writes it. -/
theorem turn_bit (k : Nat) (x : Int) (b : Nat) (hx : Crc.isByte x) (hb : b < 8) : Go.bits .xor .u8 x (wr .u8 (1 * p2 (min (Int.toNat (wr .u64 (b : Int))) 8))) = ((x.toNat ^^^ 2 ^ b : Nat) : Int) := by
  have h2 : 2 ^ b < 2 ^ 8 := Nat.pow_lt_pow_right (by decide) hb
  have e : wr .u8 (1 * p2 (min (Int.toNat (wr .u64 (b : Int))) 8)) = ((2 ^ b : Nat) : Int) := by
    rw [wu64 (by omega) (by omega), Int.toNat_natCast, Nat.min_eq_left (by omega), wu8]
    unfold p2
    show 1 * ((2 ^ b : Nat) : Int) % 256 = _
    generalize 2 ^ b = q at h2
    omega
  have hn : x = ((x.toNat : Nat) : Int) := by have := hx.1; omega
  rw [e]
  conv => lhs; rw [hn]
  exact u8_xor_nat _ _ (by have := hx.2; have := hx.1; omega) (by omega)
/-- A bit of a number of 32, as the program looks at it. -/
theorem look_bit (B i : Nat) (hB : B < 4294967296) (hi : i < 32) : Go.bits .and .u32 ((B : Int) / p2 (min (Int.toNat (wr .u64 (i : Int))) 32)) 1 = ((B / 2 ^ i % 2 : Nat) : Int) := by
  have e : (B : Int) / p2 (min (Int.toNat (wr .u64 (i : Int))) 32) = ((B / 2 ^ i : Nat) : Int) := by
    rw [wu64 (by omega) (by omega), Int.toNat_natCast, Nat.min_eq_left (by omega)]
    unfold p2
    exact (Int.natCast_ediv ..).symm
  have hle : B / 2 ^ i ≤ B := Nat.div_le_self _ _
  rw [e]
  have := u32_and_nat (B / 2 ^ i) 1 (by omega) (by omega)
  rw [Nat.and_one_is_mod] at this
  exact this
/-! Bits turned about, one by one. -/
theorem turn_ar (a i n : Nat) (h : a + i < 8 * n) (hn : n ≤ 5000) : wr .i64 ((a : Int) + (i : Int)) = ((a + i : Nat) : Int) ∧ Int.tdiv ((a + i : Nat) : Int) 8 = (((a + i) / 8 : Nat) : Int) ∧ Int.tmod ((a + i : Nat) : Int) 8 = (((a + i) % 8 : Nat) : Int) ∧ wr .i64 (((a + i) / 8 : Nat) : Int) = (((a + i) / 8 : Nat) : Int) ∧
    wr .u64 (((a + i) % 8 : Nat) : Int) = (((a + i) % 8 : Nat) : Int) ∧ (a + i) / 8 < n ∧ (a + i) % 8 < 8 ∧ ltI ((a + i : Nat) : Int) ((8 * n : Nat) : Int) = true ∧ ltI (((a + i) / 8 : Nat) : Int) (n : Int) = true ∧ leI 0 (((a + i) / 8 : Nat) : Int) = true ∧ leI 0 (((a + i) % 8 : Nat) : Int) = true := by
  generalize hz : a + i = z at h
  refine ⟨?_, ?_, ?_, w64n (by omega), wu64 (by omega) (by omega), by omega, by omega, ltI_pos (by omega), ltI_pos (by omega), leI_pos (by omega), leI_pos (by omega)⟩
  · rw [w64 (by omega) (by omega)]
    omega
  · rw [Int.tdiv_eq_ediv_of_nonneg (by omega)]
    omega
  · rw [Int.tmod_eq_emod_of_nonneg (by omega)]
    omega
theorem turn_ar2 (i : Nat) (hi : i < 32) : ltI (i : Int) 32 = true ∧ wr .u64 (i : Int) = (i : Int) ∧ leI 0 (i : Int) = true ∧ wr .i64 ((i : Int) + 1) = ((i + 1 : Nat) : Int) :=
  ⟨ltI_pos (by omega), wu64 (by omega) (by omega), leI_pos (by omega), w64s (by omega)⟩
theorem turn_ar3 (a i n : Nat) (h : ¬ a + i < 8 * n) (ha : a ≤ 50000) (hi : i < 32) : wr .i64 ((a : Int) + (i : Int)) = ((a + i : Nat) : Int) ∧ ltI ((a + i : Nat) : Int) ((8 * n : Nat) : Int) = false :=
  ⟨by rw [w64 (by omega) (by omega)]; omega, ltI_neg (by omega)⟩
theorem turned_yes (B i : Nat) (h : B / 2 ^ i % 2 = 1) : decide (B % 2 ^ (i + 1) ≠ 0) = true := by
  rw [decide_eq_true_eq, bit_more, h, Nat.mul_one]
  exact Nat.ne_of_gt (Nat.lt_of_lt_of_le (Nat.two_pow_pos i) (Nat.le_add_left ..))
theorem turned_no (B i : Nat) (h : B / 2 ^ i % 2 = 0) : decide (B % 2 ^ (i + 1) ≠ 0) = decide (B % 2 ^ i ≠ 0) := by rw [bit_more, h, Nat.mul_zero, Nat.add_zero]
theorem umod (x : Int) (m : Nat) (hm : 0 < m) (hm2 : m ≤ 1000000) : ∃ a : Nat, a < m ∧ wr .i64 (Int.tmod (wr .u64 x) (m : Int)) = (a : Int) := by
  obtain ⟨a, h1, h2⟩ := umod0 x m hm
  refine ⟨a, h1, ?_⟩
  rw [h2]
  clear h2
  exact w64n (by omega)

end Go.Proofs.Ytojomolplnnpmaa.Mini
