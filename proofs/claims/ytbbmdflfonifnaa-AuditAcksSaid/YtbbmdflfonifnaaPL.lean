/- What shared functions tell: plain laws. -/
import Derived.Test.YtbbmdflfonifnaaMF1
import Derived.Test.YtbbmdflfonifnaaCrc
import Derived.Test.YtbbmdflfonifnaaBe
import Derived.Test.YtbbmdflfonifnaaPop
import Derived.Laws.Closers25b
import Derived.Laws.Strings
set_option linter.unusedSimpArgs false
set_option linter.unusedVariables false
namespace Go.Proofs.Ytbbmdflfonifnaa.Mini
open Go Go.RowKit Go.Proofs
theorem w64 {n : Int} (h0 : -9223372036854775808 ≤ n) (h1 : n < 9223372036854775808) : wr .i64 n = n := by
  show wrap64 n = n
  unfold wrap64
  omega
theorem w64n {n : Nat} (h1 : n < 9223372036854775808) : wr .i64 (n : Int) = (n : Int) := w64 (by omega) (by omega)
theorem w64s {n : Nat} (h1 : n < 9223372036854775807) : wr .i64 ((n : Int) + 1) = ((n + 1 : Nat) : Int) := w64 (by omega) (by omega)
theorem wu64 {n : Int} (h0 : 0 ≤ n) (h1 : n < 18446744073709551616) : wr .u64 n = n := by
  show n % 18446744073709551616 = n
  omega
theorem wu8 (n : Int) : wr .u8 n = n % 256 := (congrArg (fun x : Int => x % 256) (Eq.refl n) : n % 256 = n % 256)
theorem wu32 (n : Int) : wr .u32 n = n % 4294967296 := (congrArg (fun x : Int => x % 4294967296) (Eq.refl n) : n % 4294967296 = n % 4294967296)
theorem gd_at {α : Type} (pre rest : List α) (x d : α) : (pre ++ x :: rest).getD (Int.toNat (pre.length : Int)) d = x := by
  rw [Int.toNat_natCast, List.getD_eq_getElem?_getD, List.getElem?_append_right (Nat.le_refl _), Nat.sub_self]
  rfl
theorem gd_at' {α : Type} (pre rest : List α) (x d : α) (n : Nat) (h : pre.length = n) : (pre ++ x :: rest).getD (Int.toNat (n : Int)) d = x := by
  subst h
  exact gd_at pre rest x d
theorem getD_nat {α : Type} (l : List α) (n : Nat) (d : α) : l.getD (Int.toNat (n : Int)) d = l.getD n d := rfl
theorem nilK_same {R : Type} {e : Bool} {a : Option R} : nilK e a a = a := by
  unfold nilK both
  cases e <;> simp
theorem nilK_of {R : Type} {e : Bool} {a b : Option R} (h : e = true → a = b) : nilK e a b = b := by
  unfold nilK both
  cases e
  · rfl
  · simp [h rfl]
theorem one_set (x d : Int) : List.set (List.replicate 1 d) 0 x = [x] := (congrArg (fun y : Int => [y]) (Eq.refl x) : [x] = [x])
theorem bytes_wf {l : List Int} (h : WfK (.row (.int .u8)) l) : ∀ c ∈ l, Crc.isByte c := fun c hc => Bv.wf_u8 (h.2 c hc)
theorem leI_pos {a b : Int} (h : a ≤ b) : leI a b = true := (leI_iff a b).2 h
theorem leI_neg {a b : Int} (h : ¬ a ≤ b) : leI a b = false := by
  rw [leI_eq]
  simpa using h
theorem ltI_pos {a b : Int} (h : a < b) : ltI a b = true := (ltI_iff a b).2 h
theorem ltI_neg {a b : Int} (h : ¬ a < b) : ltI a b = false := by
  rw [ltI_eq]
  simpa using h
theorem eqI_pos {a b : Int} (h : a = b) : eqI a b = true := (eqI_iff a b).2 h
theorem eqI_neg {a b : Int} (h : ¬ a = b) : eqI a b = false := by
  rw [eqI_eq]
  simpa using h
theorem umod0 (x : Int) (m : Nat) (hm : 0 < m) : ∃ a : Nat, a < m ∧ Int.tmod (wr .u64 x) (m : Int) = (a : Int) := by
  have h0 : 0 ≤ wr .u64 x := Int.emod_nonneg _ (by decide)
  have h1 : Int.tmod (wr .u64 x) (m : Int) = wr .u64 x % (m : Int) := Int.tmod_eq_emod_of_nonneg h0
  have h2 := Int.emod_nonneg (wr .u64 x) (show (m : Int) ≠ 0 by omega)
  have h3 := Int.emod_lt_of_pos (wr .u64 x) (show (0 : Int) < m by omega)
  refine ⟨(wr .u64 x % (m : Int)).toNat, ?_, ?_⟩
  · generalize wr .u64 x % (m : Int) = z at h2 h3
    omega
  · rw [h1]
    generalize wr .u64 x % (m : Int) = z at h2 h3
    omega

open Bv Crc in
theorem t32_inner (k : Nat) (X : Option (List Int)) (L7 : Int → List Int → Option (List Int)) (x1 : List Int) (i : Int) (hx : x1.length < 1000) : ∀ (d j n : Nat) (v : BitVec 32), j + d = 8 → d < n →
    L7 (wr .i64 (i + 1)) (x1 ++ [u (E.many L d v)]) = X → m62F15 k L7 n (u v) i (j : Int) x1 = X := by
  intro d
  induction d with
  | zero =>
    intro j n v hj hn R
    obtain ⟨n, rfl⟩ : ∃ m, n = m + 1 := ⟨n - 1, by omega⟩
    rw [m62F15, m62X15]
    simp only [leI_eq, ltI_eq, eqI_eq, decide_eq_true_eq, if_neg (show ¬ (j : Int) < 8 by omega), m62F26, m62X26, one_set]
    rw [if_pos (by simp only [List.length_singleton]; omega)]
    exact R
  | succ d ih =>
    intro j n v hj hn R
    obtain ⟨n, rfl⟩ : ∃ m, n = m + 1 := ⟨n - 1, by omega⟩
    rw [E.many_in] at R
    have e : Go.bits .and .i64 (u v) 1 = ((v.toNat % 2 : Nat) : Int) := and1 v.toNat (lt63 (by decide) v)
    rw [m62F15, m62X15]
    simp only [leI_eq, ltI_eq, eqI_eq, decide_eq_true_eq, if_pos (show (j : Int) < 8 by omega), if_pos (show (0 : Int) ≤ 1 by decide), e, w64s (show j < 9223372036854775807 by omega)]
    by_cases h : v.toNat % 2 = 1
    · have e2 : Go.bits .xor .i64 (u v / (2 : Int)) 3988292384 = u (L v) := by
        rw [shr1, L_odd h]
        exact xor_u (by decide) (v >>> 1) 3988292384#32
      rw [if_pos (by omega), e2]
      exact ih (j + 1) n (L v) (by omega) (by omega) R
    · have e2 : u v / (2 : Int) = u (L v) := by rw [shr1, L_even h]
      rw [if_neg (by omega), e2]
      exact ih (j + 1) n (L v) (by omega) (by omega) R
open Bv Crc in
def tbl32 (n : Nat) : List Int := (List.range n).map (fun i : Nat => u (tab32 i))
open Bv Crc in
theorem tbl32_at (n i : Nat) (h : i < n) : (tbl32 n).getD (Int.toNat (i : Int)) 0 = u (tab32 i) := by
  unfold tbl32
  rw [Int.toNat_natCast, List.getD_eq_getElem?_getD, List.getElem?_map, List.getElem?_range h]
  rfl
theorem tbl32_length (n : Nat) : (tbl32 n).length = n := by simp [tbl32]
open Bv Crc in
theorem t32_outer (k : Nat) (hk : 10 ≤ k) : ∀ (d i n : Nat), i + d = 256 → d < n → m62F7 k n (i : Int) (tbl32 i) = some (tbl32 256) := by
  intro d
  induction d with
  | zero =>
    intro i n hi hn
    obtain ⟨n, rfl⟩ : ∃ m, n = m + 1 := ⟨n - 1, by omega⟩
    obtain rfl : i = 256 := by omega
    rw [m62F7, m62X7]
    simp only [ltI_eq, decide_eq_true_eq]
    rw [if_neg (by omega)]
  | succ d ih =>
    intro i n hi hn
    obtain ⟨n, rfl⟩ : ∃ m, n = m + 1 := ⟨n - 1, by omega⟩
    have e : (i : Int) = u (BitVec.ofNat 32 i) := by unfold u; rw [BitVec.toNat_ofNat, Nat.mod_eq_of_lt (by omega)]
    have R := ih (i + 1) n (by omega) (by omega)
    have e3 : tbl32 (i + 1) = tbl32 i ++ [u (E.many L 8 (BitVec.ofNat 32 i))] := by unfold tbl32; rw [List.range_succ, List.map_append]; rfl
    rw [e3, ← w64s (show i < 9223372036854775807 by omega)] at R
    rw [m62F7, m62X7]
    simp only [ltI_eq, decide_eq_true_eq]
    rw [if_pos (by omega)]
    have := t32_inner k _ (m62F7 k n) (tbl32 i) (i : Int) (by rw [tbl32_length]; omega) 8 0 k (BitVec.ofNat 32 i) rfl (by omega) R
    rw [← e] at this
    exact this
theorem table32_eq (k : Nat) (hk : 300 ≤ k) : m62F k = some (tbl32 256) := t32_outer k (by omega) 256 0 k rfl (by omega)
open Bv Crc in
theorem sum32_loop (k : Nat) (l : List Int) (hl : l.length ≤ 4096) : ∀ (rest pre : List Int) (n : Nat) (r : BitVec 32), l = pre ++ rest → (∀ c ∈ rest, isByte c) → rest.length < n →
    m59F11 k n (u r) l (l.length : Int) (pre.length : Int) (tbl32 256) = some (u (reg32 r rest ^^^ ones32), 0) := by
  intro rest
  induction rest with
  | nil =>
    intro pre n r h _ hn
    obtain ⟨n, rfl⟩ : ∃ m, n = m + 1 := ⟨n - 1, by simp only [List.length_nil] at hn; omega⟩
    have hlen : l.length = pre.length := by rw [h]; simp
    have := xor_u (by decide) r ones32
    rw [m59F11, m59X11]
    simp only [ltI_eq, decide_eq_true_eq, if_neg (show ¬ (pre.length : Int) < (l.length : Int) by omega), m59F18, m59X18, reg_nil]
    rw [← this]
    rfl
  | cons c rest ih =>
    intro pre n r h hb hn
    obtain ⟨n, rfl⟩ : ∃ m, n = m + 1 := ⟨n - 1, by omega⟩
    have hlen : l.length = pre.length + (rest.length + 1) := by rw [h]; simp
    have hp : l.getD (Int.toNat (pre.length : Int)) 0 = c := by rw [h]; exact gd_at pre rest c 0
    obtain ⟨h0, h1⟩ := hb c (by simp)
    have ec : c = ((c.toNat : Nat) : Int) := by omega
    have hr := r.isLt
    have hix : (r.toNat % 256) ^^^ c.toNat < 2 ^ 8 := Nat.xor_lt_two_pow (by omega) (by omega)
    have ei : Go.bits .xor .i64 (Go.bits .and .i64 (u r) 255) (wr .i64 c) = (((r.toNat % 256) ^^^ c.toNat : Nat) : Int) := by
      have e1 : Go.bits .and .i64 (u r) 255 = ((r.toNat % 256 : Nat) : Int) := and255i r.toNat (by omega)
      rw [e1, w64 (by omega) (by omega), ec, xorN _ _ (by omega) (by omega), Int.toNat_natCast]
    have es : Go.bits .xor .i64 (u r / (256 : Int)) (u (tab32 ((r.toNat % 256) ^^^ c.toNat))) = u (step32 r c) := by
      rw [shr8, xor_u (by decide), step_tab r c ⟨h0, h1⟩]
    have hlt : ((((r.toNat % 256) ^^^ c.toNat : Nat)) : Int) < ((tbl32 256).length : Int) := by rw [tbl32_length]; omega
    rw [m59F11, m59X11]
    simp only [leI_eq, ltI_eq, decide_eq_true_eq, if_pos (show (pre.length : Int) < (l.length : Int) by omega), if_pos (show (0 : Int) ≤ (pre.length : Int) by omega), if_pos (show (0 : Int) ≤ 8 by decide), hp, ei, if_pos hlt, if_pos (show (0 : Int) ≤ ((((r.toNat % 256) ^^^ c.toNat : Nat)) : Int) by omega)]
    rw [tbl32_at _ _ (by omega), es, w64s (show pre.length < 9223372036854775807 by omega)]
    have := ih (pre ++ [c]) n (step32 r c) (by rw [h]; simp) (fun y hy => hb y (by simp [hy])) (by simp only [List.length_cons] at hn; omega)
    rw [List.length_append, List.length_singleton] at this
    exact this
open Bv Crc in
theorem sum32_eq (k : Nat) (hk : 5000 ≤ k) (l : List Int) (hl : l.length ≤ 4096) (hb : ∀ c ∈ l, isByte c) : m59F k l = some (u (sum32 l), 0) := by
  simp only [m59F, m59X, ltI_eq, decide_eq_true_eq]
  rw [if_neg (by omega), table32_eq k (by omega), Option.bind_some]
  exact sum32_loop k l hl l [] k ones32 rfl hb (by omega)

theorem clone_eq (k : Nat) (l : List Int) (h : l.length ≤ 5000) : m56F k l = some l := by
  simp only [m56F, m56X, leI_eq, decide_eq_true_eq]
  rw [nilK_of, if_pos (by omega)]
  · rfl
  · intro he
    rw [if_pos (by omega)]
    rw [List.isEmpty_iff.1 he]
    rfl

open Bv Crc in
theorem shr8u (s : BitVec 32) (j : Nat) : u (s >>> j) / (256 : Int) = u (s >>> (j + 8)) := by rw [shr8, ← BitVec.shiftRight_add]
open Bv Crc in
theorem seal_step (k n : Nat) (s : BitVec 32) (b : List Int) (i : Nat) (hi : i < 4) (hb : b.length ≤ 4096) (j : Nat) : m52F17 k (n + 1) (u (s >>> j)) (i : Int) b = m52F17 k n (u (s >>> (j + 8))) ((i + 1 : Nat) : Int) (b ++ [u (s >>> j) % 256]) := by
  rw [m52F17, m52X17]
  simp only [leI_eq, ltI_eq, decide_eq_true_eq, if_pos (show (i : Int) < 4 by omega), one_set, wu8, if_pos (show (0 : Int) ≤ 8 by decide), shr8u, w64s (show i < 9223372036854775807 by omega)]
  rw [if_pos (by simp only [List.length_singleton]; omega)]
open Bv Crc in
theorem seal_eq (k : Nat) (hk : 5000 ≤ k) (l : List Int) (hl : l.length ≤ 4092) (hb : ∀ c ∈ l, isByte c) : m52F k l = some (l ++ seal4 (sum32 l), 0) := by
  have hl0 : ¬ ((l.length : Int) > 4092) := by omega
  simp only [m52F, m52X, ltI_eq, eqI_eq, decide_eq_true_eq]
  rw [if_neg (by omega), sum32_eq k hk l (by omega) hb, Option.bind_some]
  simp only [decide_true, Bool.not_true, Bool.false_eq_true, if_false]
  rw [clone_eq k l (by omega), Option.bind_some]
  generalize sum32 l = s
  obtain ⟨n, hn⟩ : ∃ n, k = n + 1 + 1 + 1 + 1 + 1 := ⟨k - 5, by omega⟩
  have e0 : (u s : Int) = u (s >>> 0) := by rw [BitVec.ushiftRight_zero]
  have hF : m52F17 k k (u s) 0 l = some (l ++ seal4 s, 0) := by
    have key : ∀ m, m = n + 1 + 1 + 1 + 1 + 1 → m52F17 k m (u s) 0 l = some (l ++ seal4 s, 0) := fun m hm => by
      rw [hm, e0]
      have s0 := seal_step k (n + 1 + 1 + 1 + 1) s l 0 (by omega) (by omega) 0
      have s1 := seal_step k (n + 1 + 1 + 1) s (l ++ [u (s >>> 0) % 256]) 1 (by omega) (by simp; omega) 8
      have s2 := seal_step k (n + 1 + 1) s (l ++ [u (s >>> 0) % 256] ++ [u (s >>> 8) % 256]) 2 (by omega) (by simp; omega) 16
      have s3 := seal_step k (n + 1) s (l ++ [u (s >>> 0) % 256] ++ [u (s >>> 8) % 256] ++ [u (s >>> 16) % 256]) 3 (by omega) (by simp; omega) 24
      refine s0.trans (s1.trans (s2.trans (s3.trans ?_)))
      have ef : l ++ [u (s >>> 0) % 256] ++ [u (s >>> 8) % 256] ++ [u (s >>> 16) % 256] ++ [u (s >>> 24) % 256] = l ++ seal4 s := by
        unfold seal4
        rw [BitVec.ushiftRight_zero]
        simp only [List.append_assoc, List.cons_append, List.nil_append]
      rw [ef, m52F17, m52X17]
      simp only [ltI_eq, decide_eq_true_eq]
      rw [if_neg (by omega)]
      simp only [m52F24, m52X24]
      rw [clone_eq k _ (by rw [List.length_append, seal4_length]; omega), Option.bind_some]
    exact key k hn
  exact hF
open Bv Crc in
theorem sum_u_seal (l : List Int) : (l ++ seal4 (sum32 l)).length = l.length + 4 := by rw [List.length_append, seal4_length]

theorem equal_loop (k : Nat) (a b : List Int) (hl : a.length ≤ 5000) (he : a.length = b.length) : ∀ (ra rb pa pb : List Int) (j : Nat), a = pa ++ ra → b = pb ++ rb → pa.length = pb.length → ra.length < j →
    m53F9 k j a b (a.length : Int) (pa.length : Int) = some (decide (ra = rb)) := by
  intro ra
  induction ra with
  | nil =>
    intro rb pa pb j ha hb hp hj
    obtain ⟨j, rfl⟩ : ∃ i, j = i + 1 := ⟨j - 1, by simp only [List.length_nil] at hj; omega⟩
    have h1 : a.length = pa.length := by rw [ha]; simp
    have h2 : b.length = pb.length + rb.length := by rw [hb]; simp
    obtain rfl : rb = [] := List.eq_nil_of_length_eq_zero (by omega)
    rw [m53F9, m53X9]
    simp only [leI_eq, ltI_eq, eqI_eq, decide_eq_true_eq, if_neg (show ¬ (pa.length : Int) < (a.length : Int) by omega), decide_true]
  | cons x ra ih =>
    intro rb pa pb j ha hb hp hj
    obtain ⟨j, rfl⟩ : ∃ i, j = i + 1 := ⟨j - 1, by omega⟩
    have h1 : a.length = pa.length + (ra.length + 1) := by rw [ha]; simp
    have h2 : b.length = pb.length + rb.length := by rw [hb]; simp
    cases rb with
    | nil => simp only [List.length_nil] at h2; omega
    | cons y rb =>
      simp only [List.length_cons] at h2 hj
      have e1 : a.getD (Int.toNat (pa.length : Int)) 0 = x := by rw [ha]; exact gd_at pa ra x 0
      have e2 : b.getD (Int.toNat (pa.length : Int)) 0 = y := by rw [hb]; exact gd_at' pb rb y 0 pa.length hp.symm
      have c1 : (pa.length : Int) < (a.length : Int) := by omega
      have c2 : (0 : Int) ≤ (pa.length : Int) := by omega
      have c3 : (pa.length : Int) < (b.length : Int) := by omega
      rw [m53F9, m53X9]
      simp only [leI_eq, ltI_eq, eqI_eq, decide_eq_true_eq, if_pos c1, if_pos c2, if_pos c3, e1, e2, w64s (show pa.length < 9223372036854775807 by omega)]
      by_cases hxy : x = y
      · subst hxy
        have := ih rb (pa ++ [x]) (pb ++ [x]) j (by rw [ha]; simp) (by rw [hb]; simp) (by simp [hp]) (by omega)
        rw [List.length_append, List.length_singleton] at this
        simp only [decide_true, Bool.not_true, Bool.false_eq_true, if_false]
        rw [this]
        simp
      · simp [hxy]
theorem equal_eq (k : Nat) (hk : 5001 ≤ k) (a b : List Int) (hl : a.length ≤ 5000) : m53F k a b = some (decide (a = b)) := by
  simp only [m53F, m53X]
  by_cases he : a.length = b.length
  · have := equal_loop k a b hl he a b [] [] k rfl rfl rfl (by omega)
    simp only [List.length_nil] at this
    simp only [he, eqI_eq, decide_true, Bool.not_true, Bool.false_eq_true, if_false]
    rw [← he]
    exact this
  · have : ¬ ((a.length : Int) = (b.length : Int)) := by omega
    have h2 : ¬ a = b := fun h => he (by rw [h])
    simp [eqI_eq, this, h2]

open Bv Crc in
/-- Is the last of it the sum of what is ahead? -/
def isSealed (l : List Int) : Bool := decide (4 ≤ l.length) && decide (l.take (l.length - 4) ++ seal4 (sum32 (l.take (l.length - 4))) = l)
open Bv Crc in
theorem sealed_eq (k : Nat) (hk : 5001 ≤ k) (l : List Int) (hl : l.length ≤ 4096) (hb : ∀ c ∈ l, isByte c) : m42F k l = some (isSealed l, 0) := by
  simp only [m42F, m42X, ltI_eq, leI_eq, eqI_eq, decide_eq_true_eq]
  rw [if_neg (by omega)]
  by_cases h : l.length < 4
  · rw [if_pos (by omega)]
    unfold isSealed
    rw [decide_eq_false (show ¬ 4 ≤ l.length by omega), Bool.false_and]
  · have w : wr .i64 ((l.length : Int) - 4) = ((l.length - 4 : Nat) : Int) := by rw [w64 (by omega) (by omega)]; omega
    have hb' : ∀ c ∈ l.take (l.length - 4), isByte c := fun c hc => hb c (List.mem_of_mem_take hc)
    have hl' : (l.take (l.length - 4)).length ≤ 4092 := by rw [List.length_take]; omega
    rw [if_neg (by omega), w, if_pos (by omega), if_pos (by omega), Int.toNat_natCast, seal_eq k (by omega) _ hl' hb', Option.bind_some]
    simp only [if_true]
    rw [equal_eq k hk _ l (by rw [List.length_append, seal4_length]; omega), Option.bind_some]
    unfold isSealed
    rw [decide_eq_true (show 4 ≤ l.length by omega), Bool.true_and]

open Crc Be Bv in
theorem isSealed_seal (t : List Int) : isSealed (t ++ seal4 (sum32 t)) = true := by
  unfold isSealed
  have h : (t ++ seal4 (sum32 t)).length - 4 = t.length := by rw [List.length_append, seal4_length]; omega
  rw [h, List.take_left, decide_eq_true (show 4 ≤ (t ++ seal4 (sum32 t)).length by rw [List.length_append, seal4_length]; omega)]
  simp
open Crc Be in
theorem drop_take_mid {α : Type} (a b c : List α) : ((a ++ b ++ c).take (a.length + b.length)).drop a.length = b := by
  rw [List.append_assoc, ← List.append_assoc a b c, show a.length + b.length = (a ++ b).length by rw [List.length_append], List.take_left, List.drop_left]

open Be in
theorem p2_256 (s : Nat) (h : s ≤ 4) : p2 (min (Int.toNat (wr .i64 (8 * (s : Int)))) 64) = ((256 ^ s : Nat) : Int) := by
  obtain rfl | rfl | rfl | rfl | rfl : s = 0 ∨ s = 1 ∨ s = 2 ∨ s = 3 ∨ s = 4 := by omega
  all_goals decide +kernel
open Be in
theorem put_loop (k : Nat) (n : Int) : ∀ (s : Nat) (acc : List Int) (m : Nat), s ≤ 4 → s < m → acc.length + s ≤ 4200 → m58F15 k m n ((s : Int) - 1) acc = some (acc ++ be s n, 0) := by
  intro s
  induction s with
  | zero =>
    intro acc m _ hm h
    obtain ⟨m, rfl⟩ : ∃ x, m = x + 1 := ⟨m - 1, by omega⟩
    rw [m58F15, m58X15]
    simp only [leI_eq, decide_eq_true_eq]
    rw [if_neg (by omega)]
    simp only [m58F20, m58X20]
    rw [clone_eq k acc (by omega), Option.bind_some, be, List.append_nil]
  | succ s ih =>
    intro acc m hs hm h
    obtain ⟨m, rfl⟩ : ∃ x, m = x + 1 := ⟨m - 1, by omega⟩
    have w0 : ((s + 1 : Nat) : Int) - 1 = (s : Int) := by omega
    have w2 : wr .i64 ((s : Int) - 1) = (s : Int) - 1 := w64 (by omega) (by omega)
    have w1 : (0 : Int) ≤ wr .i64 (8 * (s : Int)) := by rw [w64 (by omega) (by omega)]; omega
    rw [m58F15, m58X15]
    simp only [leI_eq, decide_eq_true_eq, w0, w2, one_set, p2_256 s (by omega), if_pos w1, if_pos (show (s : Int) ≥ 0 by omega), wu8]
    rw [if_pos (by simp only [List.length_singleton]; omega), ih _ m (by omega) (by omega) (by simp; omega), be, List.append_assoc]
    rfl
open Be in
theorem put_eq (k : Nat) (hk : 10 ≤ k) (l : List Int) (n : Int) (s : Nat) (h1 : 1 ≤ s) (h4 : s ≤ 4) (hl : l.length + s ≤ 4096) (h0 : 0 ≤ n) (hn : n < ((256 ^ s : Nat) : Int)) : m58F k l n (s : Int) = some (l ++ be s n, 0) := by
  have w1 : (0 : Int) ≤ wr .i64 (8 * (s : Int)) := by rw [w64 (by omega) (by omega)]; omega
  have w2 : wr .i64 (4096 - (s : Int)) = 4096 - (s : Int) := w64 (by omega) (by omega)
  have w3 : wr .i64 ((s : Int) - 1) = (s : Int) - 1 := w64 (by omega) (by omega)
  have hp : ((256 ^ s : Nat) : Int) ≤ 4294967296 := by
    have : 256 ^ s ≤ 256 ^ 4 := Nat.pow_le_pow_right (by decide) h4
    omega
  have w4 : wr .i64 (1 * ((256 ^ s : Nat) : Int)) = ((256 ^ s : Nat) : Int) := by
    generalize ((256 ^ s : Nat) : Int) = q at hp hn
    rw [w64 (by omega) (by omega)]
    omega
  simp only [m58F, m58X, leI_eq, ltI_eq, decide_eq_true_eq, p2_256 s h4, w2, w3, w4, if_pos w1]
  generalize ((256 ^ s : Nat) : Int) = q at hp hn
  rw [if_neg (by omega), if_neg (by omega), if_neg (by omega), if_neg (by omega), if_neg (by omega), clone_eq k l (by omega), Option.bind_some]
  exact put_loop k n s l k h4 (by omega) (by omega)
open Be in
theorem put_bad (k : Nat) (l : List Int) (n : Int) (s : Nat) (h1 : 1 ≤ s) (h4 : s ≤ 4) (hn : n < 0 ∨ ((256 ^ s : Nat) : Int) ≤ n) : m58F k l n (s : Int) = some ([], 1) := by
  have w1 : (0 : Int) ≤ wr .i64 (8 * (s : Int)) := by rw [w64 (by omega) (by omega)]; omega
  have hp : ((256 ^ s : Nat) : Int) ≤ 4294967296 := by
    have : 256 ^ s ≤ 256 ^ 4 := Nat.pow_le_pow_right (by decide) h4
    omega
  have hq : (0 : Int) ≤ ((256 ^ s : Nat) : Int) := Int.natCast_nonneg _
  have w4 : wr .i64 (1 * ((256 ^ s : Nat) : Int)) = ((256 ^ s : Nat) : Int) := by
    generalize ((256 ^ s : Nat) : Int) = q at hp hn hq
    rw [w64 (by omega) (by omega)]
    omega
  simp only [m58F, m58X, leI_eq, ltI_eq, decide_eq_true_eq, p2_256 s h4, w4, if_pos w1]
  generalize ((256 ^ s : Nat) : Int) = q at hp hn hq
  rw [if_neg (by omega), if_neg (by omega)]
  by_cases h : n < 0
  · rw [if_pos (by omega)]
  · rw [if_neg (by omega), if_pos (by omega)]

open Be Crc in
theorem num_snoc (pre : List Int) (x : Int) : num (pre ++ [x]) = num pre * 256 + x := by unfold num; rw [List.foldl_append]; rfl
open Be Crc in
theorem num_or (pre : List Int) (x : Int) (hp3 : pre.length ≤ 3) (hb : ∀ c ∈ pre, isByte c) (hx : isByte x) : Go.bits .or .i64 (wr .i64 (num pre * 256)) (wr .i64 x) = num (pre ++ [x]) := by
  have hp := num_bound pre hb
  have hq : ((256 ^ pre.length : Nat) : Int) ≤ 16777216 := by
    have : 256 ^ pre.length ≤ 256 ^ 3 := Nat.pow_le_pow_right (by decide) (by omega)
    omega
  unfold isByte at hx
  generalize ((256 ^ pre.length : Nat) : Int) = q at hp hq
  rw [w64 (by omega) (by omega), w64 (by omega) (by omega), num_snoc]
  obtain ⟨a, ha⟩ := Int.eq_ofNat_of_zero_le hp.1
  obtain ⟨b, hb'⟩ := Int.eq_ofNat_of_zero_le hx.1
  rw [ha] at hp ⊢
  subst hb'
  have := orN (a * 256) b (by omega) (by omega)
  rw [Int.natCast_mul] at this
  exact this.trans (by rw [or_byte a b (by omega)]; omega)
open Be Crc in
theorem get_loop (k : Nat) (l : List Int) (hl : l.length ≤ 4) : ∀ (rest pre : List Int) (n : Nat), l = pre ++ rest → (∀ c ∈ l, isByte c) → rest.length < n →
    m43F15 k n (num pre) l (l.length : Int) (pre.length : Int) = some (num l, 0) := by
  intro rest
  induction rest with
  | nil =>
    intro pre n h _ hn
    obtain ⟨n, rfl⟩ : ∃ x, n = x + 1 := ⟨n - 1, by simp only [List.length_nil] at hn; omega⟩
    rw [List.append_nil] at h
    subst h
    rw [m43F15, m43X15]
    simp only [ltI_eq, decide_eq_true_eq]
    rw [if_neg (by omega)]
    rfl
  | cons x rest ih =>
    intro pre n h hb hn
    obtain ⟨n, rfl⟩ : ∃ x, n = x + 1 := ⟨n - 1, by omega⟩
    have h1 : l.length = pre.length + (rest.length + 1) := by rw [h]; simp
    have e1 : l.getD (Int.toNat (pre.length : Int)) 0 = x := by rw [h]; exact gd_at pre rest x 0
    have hx : isByte x := hb x (by rw [h]; simp)
    have e2 := num_or pre x (by omega) (fun c hc => hb c (by rw [h]; simp [hc])) hx
    rw [m43F15, m43X15]
    simp only [leI_eq, ltI_eq, decide_eq_true_eq, if_pos (show (pre.length : Int) < (l.length : Int) by omega), if_pos (show (0 : Int) ≤ (pre.length : Int) by omega), if_pos (show (0 : Int) ≤ 8 by decide), e1, e2, w64s (show pre.length < 9223372036854775807 by omega)]
    have := ih (pre ++ [x]) n (by rw [h]; simp) hb (by simp only [List.length_cons] at hn; omega)
    rw [List.length_append, List.length_singleton] at this
    exact this
open Be Crc in
theorem get_eq (k : Nat) (hk : 10 ≤ k) (l : List Int) (at_ s : Nat) (h1 : 1 ≤ s) (h4 : s ≤ 4) (hl : at_ + s ≤ l.length) (hm : l.length ≤ 5000) (hb : ∀ c ∈ l, isByte c) :
    m43F k l (at_ : Int) (s : Int) = some (num ((l.take (at_ + s)).drop at_), 0) := by
  have w1 : wr .i64 ((l.length : Int) - (at_ : Int)) = (l.length : Int) - (at_ : Int) := w64 (by omega) (by omega)
  have w2 : wr .i64 ((at_ : Int) + (s : Int)) = ((at_ + s : Nat) : Int) := by rw [w64 (by omega) (by omega)]; omega
  simp only [m43F, m43X, leI_eq, ltI_eq, decide_eq_true_eq, w1, w2, Int.toNat_natCast]
  rw [if_neg (by omega), if_neg (by omega), if_neg (by omega), if_neg (by omega), if_neg (by omega), if_pos (by omega), if_pos (by omega), if_pos (by omega), if_pos (by omega)]
  have hlen : ((l.take (at_ + s)).drop at_).length = s := by rw [List.length_drop, List.length_take]; omega
  exact get_loop k _ (by omega) _ [] k rfl (fun c hc => hb c (List.mem_of_mem_take (List.mem_of_mem_drop hc))) (by omega)

open Be in
theorem p2_256u (s : Nat) (h : s ≤ 4) : p2 (min (Int.toNat (wr .u64 (wr .i64 (8 * (s : Int))))) 64) = ((256 ^ s : Nat) : Int) := by
  obtain rfl | rfl | rfl | rfl | rfl : s = 0 ∨ s = 1 ∨ s = 2 ∨ s = 3 ∨ s = 4 := by omega
  all_goals decide +kernel
open Be in
theorem be13_loop (k : Nat) (n : Int) : ∀ (s : Nat) (acc : List Int) (m : Nat), s ≤ 4 → s < m → acc.length + s ≤ 4200 → m23F7 k m n ((s : Int) - 1) acc = some (acc ++ be s n) := by
  intro s
  induction s with
  | zero =>
    intro acc m _ hm h
    obtain ⟨m, rfl⟩ : ∃ x, m = x + 1 := ⟨m - 1, by omega⟩
    rw [m23F7, m23X7]
    simp only [leI_eq, decide_eq_true_eq]
    rw [if_neg (by omega), be, List.append_nil]
  | succ s ih =>
    intro acc m hs hm h
    obtain ⟨m, rfl⟩ : ∃ x, m = x + 1 := ⟨m - 1, by omega⟩
    have w0 : ((s + 1 : Nat) : Int) - 1 = (s : Int) := by omega
    have w2 : wr .i64 ((s : Int) - 1) = (s : Int) - 1 := w64 (by omega) (by omega)
    have w1 : (0 : Int) ≤ wr .u64 (wr .i64 (8 * (s : Int))) := by rw [w64 (by omega) (by omega), wu64 (by omega) (by omega)]; omega
    rw [m23F7, m23X7]
    simp only [leI_eq, decide_eq_true_eq, w0, w2, one_set, p2_256u s (by omega), if_pos w1, wu8]
    rw [if_pos (by omega), if_pos (by simp only [List.length_singleton]; omega), ih _ m (by omega) (by omega) (by simp; omega), be, List.append_assoc]
    rfl
open Be in
theorem be13_eq (k : Nat) (hk : 10 ≤ k) (n : Int) (s : Nat) (h4 : s ≤ 4) : m23F k n (s : Int) = some (be s n) := by
  have w3 : wr .i64 ((s : Int) - 1) = (s : Int) - 1 := w64 (by omega) (by omega)
  simp only [m23F, m23X, w3]
  exact be13_loop k n s [] k h4 (by omega) (by simp; omega)

open Bv in
theorem shr_u8 (c j : Nat) (hj : j < 8) : (c : Int) / p2 (min (Int.toNat (wr .u64 (j : Int))) 8) = ((c / 2 ^ j : Nat) : Int) := by
  rw [wu64 (by omega) (by omega), Int.toNat_natCast, Nat.min_eq_left (by omega)]
  unfold p2
  exact (Int.natCast_ediv ..).symm

theorem twin_eq (k : Nat) (l : List Int) (h : l.length ≤ 5000) : m21F k l = some l := by
  simp only [m21F, m21X, leI_eq, decide_eq_true_eq]
  rw [if_pos (by omega)]

open Bv Crc in
theorem shift32_eq (k : Nat) (r : BitVec 32) (b : Nat) (hb : b < 2) : m51F k (u r) (b : Int) = some (u (L (r ^^^ BitVec.ofNat 32 b))) := by
  have e : Go.bits .and .i64 (u r) 1 = ((r.toNat % 2 : Nat) : Int) := and1 r.toNat (lt63 (by decide) r)
  have hx : (r ^^^ BitVec.ofNat 32 b).toNat = r.toNat ^^^ b := by rw [BitVec.toNat_xor, BitVec.toNat_ofNat, Nat.mod_eq_of_lt (by omega)]
  have hm : (r ^^^ BitVec.ofNat 32 b).toNat % 2 = (r.toNat % 2 + b) % 2 := by
    rw [hx, show (r.toNat ^^^ b) % 2 = (r.toNat % 2 + b % 2) % 2 from Pop.xor_mod2 _ _, Nat.mod_eq_of_lt hb]
  have hs : (r ^^^ BitVec.ofNat 32 b) >>> 1 = r >>> 1 := by
    apply BitVec.eq_of_getLsbD_eq
    intro i hi
    rw [BitVec.getLsbD_ushiftRight, BitVec.getLsbD_ushiftRight, BitVec.getLsbD_xor, BitVec.getLsbD_ofNat, Nat.testBit_lt_two_pow (Nat.lt_of_lt_of_le hb (Nat.pow_le_pow_right (n := 2) (i := 1) (by decide) (by omega)))]
    simp
  simp only [m51F, m51X, eqI_eq, e, leI_eq, decide_eq_true_eq, if_pos (show (0 : Int) ≤ 1 by decide)]
  by_cases h : r.toNat % 2 = b
  · have h' : ((r.toNat % 2 : Nat) : Int) = (b : Int) := by omega
    rw [L_even (by rw [hm]; omega), hs]
    simp only [h', decide_true, Bool.not_true, Bool.false_eq_true, if_false, shr1]
  · have h' : ¬ ((r.toNat % 2 : Nat) : Int) = (b : Int) := by omega
    rw [L_odd (by rw [hm]; omega), hs]
    simp only [h', decide_false, Bool.not_false, if_true, shr1]
    have := xor_u (by decide) (r >>> 1) 3988292384#32
    rw [← this]
    rfl
open Bv Crc in
theorem ref32_inner (k : Nat) (L7 : List Int → Int → Int → Option Int) (l : List Int) (i c : Nat) (hc : c < 256) (hi : i < l.length) (hl : l.length ≤ 5000) (hr : l.getD (Int.toNat (i : Int)) 0 = (c : Int)) (X : Option Int) : ∀ (d j n : Nat) (r : BitVec 32), j + d = 8 → d < n →
    L7 l (u (fd32 r ((List.range' j d).map (fun j => BitVec.ofNat 32 (c / 2 ^ j % 2))))) ((i + 1 : Nat) : Int) = X → m41F13 k L7 n l (u r) (i : Int) (j : Int) = X := by
  intro d
  induction d with
  | zero =>
    intro j n r hj hn R
    obtain ⟨n, rfl⟩ : ∃ x, n = x + 1 := ⟨n - 1, by omega⟩
    rw [m41F13, m41X13]
    simp only [ltI_eq, decide_eq_true_eq]
    rw [if_neg (by omega)]
    simp only [m41F8, m41X8, w64s (show i < 9223372036854775807 by omega)]
    exact R
  | succ d ih =>
    intro j n r hj hn R
    obtain ⟨n, rfl⟩ : ∃ x, n = x + 1 := ⟨n - 1, by omega⟩
    have hd : c / 2 ^ j ≤ c := Nat.div_le_self _ _
    have hu : (0 : Int) ≤ wr .u64 (j : Int) := by rw [wu64 (by omega) (by omega)]; omega
    rw [m41F13, m41X13]
    simp only [leI_eq, ltI_eq, decide_eq_true_eq, if_pos (show (j : Int) < 8 by omega), if_pos (show (0 : Int) ≤ (i : Int) by omega), if_pos (show (i : Int) < (l.length : Int) by omega), if_pos hu, hr, shr_u8 c j (by omega), w64n (show c / 2 ^ j < 9223372036854775808 by omega), Bv.and1 (c / 2 ^ j) (by omega), w64s (show j < 9223372036854775807 by omega)]
    rw [shift32_eq k r (c / 2 ^ j % 2) (by omega), Option.bind_some]
    rw [List.range'_succ, List.map_cons] at R
    exact ih (j + 1) n _ (by omega) (by omega) R
open Bv Crc in
theorem ref32_loop (k : Nat) (hk : 10 ≤ k) (l : List Int) (hl : l.length ≤ 4096) : ∀ (rest pre : List Int) (n : Nat) (r : BitVec 32), l = pre ++ rest → (∀ c ∈ rest, isByte c) → rest.length < n →
    m41F7 k n l (u r) (pre.length : Int) = some (u (reg32 r rest ^^^ ones32)) := by
  intro rest
  induction rest with
  | nil =>
    intro pre n r h _ hn
    obtain ⟨n, rfl⟩ : ∃ x, n = x + 1 := ⟨n - 1, by simp only [List.length_nil] at hn; omega⟩
    have hlen : l.length = pre.length := by rw [h]; simp
    have := xor_u (by decide) r ones32
    rw [m41F7, m41X7]
    simp only [ltI_eq, decide_eq_true_eq]
    rw [if_neg (by omega)]
    simp only [m41F18, m41X18, reg_nil]
    rw [← this]
    rfl
  | cons c rest ih =>
    intro pre n r h hb hn
    obtain ⟨n, rfl⟩ : ∃ x, n = x + 1 := ⟨n - 1, by omega⟩
    have hlen : l.length = pre.length + (rest.length + 1) := by rw [h]; simp
    have hcb := hb c (by simp)
    have h0 := hcb.1
    have h1 := hcb.2
    have hp : l.getD (Int.toNat (pre.length : Int)) 0 = ((c.toNat : Nat) : Int) := by rw [h, gd_at pre rest c 0]; omega
    rw [m41F7, m41X7]
    simp only [ltI_eq, decide_eq_true_eq]
    rw [if_pos (by omega)]
    refine ref32_inner k _ l pre.length c.toNat (by omega) (by omega) (by omega) hp _ 8 0 k r rfl (by omega) ?_
    have hby := fd32_byte r c hcb
    unfold bits32 at hby
    rw [hby]
    have := ih (pre ++ [c]) n (step32 r c) (by rw [h]; simp) (fun y hy => hb y (by simp [hy])) (by simp only [List.length_cons] at hn; omega)
    rw [List.length_append, List.length_singleton] at this
    exact this
open Bv Crc in
theorem ref32_eq (k : Nat) (hk : 5000 ≤ k) (l : List Int) (hl : l.length ≤ 4096) (hb : ∀ c ∈ l, isByte c) : m41F k l = some (u (sum32 l)) := by
  simp only [m41F, m41X]
  exact ref32_loop k (by omega) l hl l [] k ones32 rfl hb (by omega)

theorem bytes_loop (k : Nat) (a b : List Int) (hl : a.length ≤ 5000) (he : a.length = b.length) : ∀ (ra rb pa pb : List Int) (j : Nat), a = pa ++ ra → b = pb ++ rb → pa.length = pb.length → ra.length < j →
    m22F9 k j a b (pa.length : Int) = some (decide (ra = rb)) := by
  intro ra
  induction ra with
  | nil =>
    intro rb pa pb j ha hb hp hj
    obtain ⟨j, rfl⟩ : ∃ i, j = i + 1 := ⟨j - 1, by simp only [List.length_nil] at hj; omega⟩
    have h1 : a.length = pa.length := by rw [ha]; simp
    have h2 : b.length = pb.length + rb.length := by rw [hb]; simp
    obtain rfl : rb = [] := List.eq_nil_of_length_eq_zero (by omega)
    rw [m22F9, m22X9]
    simp only [leI_eq, ltI_eq, eqI_eq, decide_eq_true_eq, if_neg (show ¬ (pa.length : Int) < (a.length : Int) by omega), decide_true]
  | cons x ra ih =>
    intro rb pa pb j ha hb hp hj
    obtain ⟨j, rfl⟩ : ∃ i, j = i + 1 := ⟨j - 1, by omega⟩
    have h1 : a.length = pa.length + (ra.length + 1) := by rw [ha]; simp
    have h2 : b.length = pb.length + rb.length := by rw [hb]; simp
    cases rb with
    | nil => simp only [List.length_nil] at h2; omega
    | cons y rb =>
      simp only [List.length_cons] at h2 hj
      have e1 : a.getD (Int.toNat (pa.length : Int)) 0 = x := by rw [ha]; exact gd_at pa ra x 0
      have e2 : b.getD (Int.toNat (pa.length : Int)) 0 = y := by rw [hb]; exact gd_at' pb rb y 0 pa.length hp.symm
      have c1 : (pa.length : Int) < (a.length : Int) := by omega
      have c2 : (0 : Int) ≤ (pa.length : Int) := by omega
      have c3 : (pa.length : Int) < (b.length : Int) := by omega
      rw [m22F9, m22X9]
      simp only [leI_eq, ltI_eq, eqI_eq, decide_eq_true_eq, if_pos c1, if_pos c2, if_pos c3, e1, e2, w64s (show pa.length < 9223372036854775807 by omega)]
      by_cases hxy : x = y
      · subst hxy
        have := ih rb (pa ++ [x]) (pb ++ [x]) j (by rw [ha]; simp) (by rw [hb]; simp) (by simp [hp]) (by omega)
        rw [List.length_append, List.length_singleton] at this
        simp only [decide_true, Bool.not_true, Bool.false_eq_true, if_false]
        rw [this]
        simp
      · simp [hxy]
theorem bytes_eq' (k : Nat) (hk : 5001 ≤ k) (a b : List Int) (hl : a.length ≤ 5000) : m22F k a b = some (decide (a = b)) := by
  simp only [m22F, m22X]
  by_cases he : a.length = b.length
  · have := bytes_loop k a b hl he a b [] [] k rfl rfl rfl (by omega)
    simp only [List.length_nil] at this
    simp only [he, eqI_eq, decide_true, Bool.not_true, Bool.false_eq_true, if_false]
    exact this
  · have : ¬ ((a.length : Int) = (b.length : Int)) := by omega
    have h2 : ¬ a = b := fun h => he (by rw [h])
    simp [eqI_eq, this, h2]

open Bv Crc in
theorem refseal_eq (k : Nat) (hk : 5000 ≤ k) (l : List Int) (hl : l.length ≤ 4092) (hb : ∀ c ∈ l, isByte c) : m24F k l = some (l ++ seal4 (sum32 l)) := by
  simp only [m24F, m24X, leI_eq, decide_eq_true_eq]
  rw [ref32_eq k hk l (by omega) hb, Option.bind_some, twin_eq k l (by omega), Option.bind_some]
  generalize sum32 l = s
  have e : List.set (List.set (List.set (List.set (List.replicate 4 0) 0 (wr .u8 (u s))) 1 (wr .u8 (u s / 256))) 2 (wr .u8 (u s / 65536))) 3 (wr .u8 (u s / 16777216)) = seal4 s := by
    unfold seal4
    have e1 : u s / (65536 : Int) = u (s >>> 16) := shr_pow s 16
    have e2 : u s / (16777216 : Int) = u (s >>> 24) := shr_pow s 24
    rw [← e1, ← e2, ← shr8]
    rfl
  simp only [e, if_pos (show (0 : Int) ≤ 8 by decide), if_pos (show (0 : Int) ≤ 16 by decide), if_pos (show (0 : Int) ≤ 24 by decide)]
  rw [if_pos (by rw [seal4_length]; omega)]

open Crc Be in
def ackHead (n b : Int) : List Int := 65 :: (be 4 n ++ be 4 b)
open Crc Be in
theorem ackHead_length (n b : Int) : (ackHead n b).length = 9 := by
  unfold ackHead
  rw [List.length_cons, List.length_append, be_length, be_length]
open Crc Be in
theorem ackHead_bytes (n b : Int) : ∀ c ∈ ackHead n b, isByte c := by
  unfold ackHead
  intro c hc
  rcases List.mem_cons.1 hc with rfl | hc
  · exact ⟨by omega, by omega⟩
  · rcases List.mem_append.1 hc with hc | hc
    · exact be_bytes 4 n c hc
    · exact be_bytes 4 b c hc
open Crc Be in
def ackPack (n b : Int) : List Int := ackHead n b ++ seal4 (sum32 (ackHead n b))
open Crc Be in
theorem ackPack_length (n b : Int) : (ackPack n b).length = 13 := by
  unfold ackPack
  rw [List.length_append, ackHead_length, seal4_length]
open Crc Be in
theorem ackPack_bytes (n b : Int) : ∀ c ∈ ackPack n b, isByte c := by
  unfold ackPack
  intro c hc
  rcases List.mem_append.1 hc with hc | hc
  · exact ackHead_bytes n b c hc
  · exact seal4_bytes _ c hc
open Crc Be in
/-- What bytes are read as. -/
def ackRead (l : List Int) : (Int × Int) × Int :=
  if l.length ≠ 13 then ((0, 0), 2) else if l.getD 0 0 ≠ 65 then ((0, 0), 12) else if isSealed l = false then ((0, 0), 4)
  else if 1073741824 < num ((l.take 5).drop 1) then ((0, 0), 1) else ((num ((l.take 5).drop 1), num ((l.take 9).drop 5)), 0)
open Crc Be in
theorem ackRead_eq (k : Nat) (hk : 5001 ≤ k) (l : List Int) (hl : l.length ≤ 4096) (hb : ∀ c ∈ l, isByte c) : m27F k l = some (ackRead l) := by
  simp only [m27F, m27X, ltI_eq, leI_eq, eqI_eq, decide_eq_true_eq]
  unfold ackRead
  by_cases h13 : l.length = 13
  · have h13' : (l.length : Int) = 13 := by omega
    simp only [h13', decide_true, Bool.not_true, Bool.false_eq_true, if_false, if_pos (show (0 : Int) ≤ 0 by decide), if_pos (show (0 : Int) < 13 by decide), h13, ne_eq, not_true_eq_false]
    by_cases hk0 : l.getD 0 0 = 65
    · simp only [hk0, decide_true, Bool.not_true, Bool.false_eq_true, if_false, not_true_eq_false, sealed_eq k hk l hl hb, Option.bind_some]
      by_cases hs : isSealed l = true
      · have g1 := get_eq k (by omega) l 1 4 (by omega) (by omega) (by omega) (by omega) hb
        have g2 := get_eq k (by omega) l 5 4 (by omega) (by omega) (by omega) (by omega) hb
        have g1' : m43F k l 1 4 = some (num ((l.take 5).drop 1), 0) := g1
        have g2' : m43F k l 5 4 = some (num ((l.take 9).drop 5), 0) := g2
        simp only [hs, Bool.not_true, Bool.false_eq_true, if_false, g1', g2', Option.bind_some]
        have n2 := num_bound ((l.take 9).drop 5) (fun c hc => hb c (List.mem_of_mem_take (List.mem_of_mem_drop hc)))
        have n3 : ((l.take 9).drop 5).length = 4 := by rw [List.length_drop, List.length_take]; omega
        rw [n3] at n2
        have n4 : wr .u32 (num ((l.take 9).drop 5)) = num ((l.take 9).drop 5) := by
          rw [wu32]
          omega
        rw [n4]
        by_cases h2 : 1073741824 < num ((l.take 5).drop 1)
        · rw [if_pos h2, if_pos h2]
          simp
        · rw [if_neg h2, if_neg h2]
          simp
      · have hs' : isSealed l = false := by simpa using hs
        simp [hs']
    · simp only [hk0, decide_false, Bool.not_false, if_true, not_false_eq_true]
      simp
  · have h13' : ¬ (l.length : Int) = 13 := by omega
    simp [h13, h13']
open Crc Be in
theorem ackRead_pack (n b : Int) (h0 : 0 ≤ n) (h1 : n ≤ 1073741824) (hb : 0 ≤ b) (hb' : b < 4294967296) : ackRead (ackPack n b) = ((n, b), 0) := by
  have e1 : ((ackPack n b).take 5).drop 1 = be 4 n := by
    have := drop_take_mid [65] (be 4 n) (be 4 b ++ seal4 (sum32 (ackHead n b)))
    rw [be_length] at this
    rw [← this]
    unfold ackPack ackHead
    simp only [List.cons_append, List.nil_append, List.append_assoc]
    rfl
  have e2 : ((ackPack n b).take 9).drop 5 = be 4 b := by
    have := drop_take_mid (65 :: be 4 n) (be 4 b) (seal4 (sum32 (ackHead n b)))
    rw [be_length, List.length_cons, be_length] at this
    rw [← this]
    unfold ackPack ackHead
    simp only [List.cons_append, List.nil_append, List.append_assoc]
  have e3 : (ackPack n b).getD 0 0 = 65 := rfl
  have e4 : isSealed (ackPack n b) = true := isSealed_seal _
  unfold ackRead
  rw [e1, e2, e3, e4, num_be' 4 n h0 (by omega), num_be' 4 b hb (by omega)]
  simp only [ackPack_length, ne_eq, not_true_eq_false, if_false]
  rw [if_neg (show ¬ (true = false) by simp), if_neg (by omega)]
open Crc Be in
theorem refack_eq (k : Nat) (hk : 5001 ≤ k) (n b : Int) (hb : 0 ≤ b) (hb' : b < 4294967296) : m8F k (n, b) = some (ackPack n b) := by
  have q1 : m23F k n 4 = some (be 4 n) := be13_eq k (by omega) n 4 (by omega)
  have q2 : m23F k b 4 = some (be 4 b) := be13_eq k (by omega) b 4 (by omega)
  have s1 := refseal_eq k (by omega) (ackHead n b) (by rw [ackHead_length]; omega) (ackHead_bytes n b)
  have e : [65] ++ be 4 n ++ be 4 b = ackHead n b := by rw [ackHead, List.append_assoc]; rfl
  have hw : wr .i64 b = b := w64 (by omega) (by omega)
  have l1 : (be 4 n).length = 4 := be_length 4 n
  have l2 : (be 4 b).length = 4 := be_length 4 b
  generalize be 4 n = x at q1 e l1
  generalize be 4 b = y at q2 e l2
  have c1 : (((1 + x.length) * 1 : Nat) : Int) ≤ 140737488355328 := by omega
  simp only [m8F, m8X, q1, Option.bind_some, one_set, hw, q2]
  rw [if_pos (leI_pos c1), if_pos (leI_pos (by rw [List.length_append, List.length_singleton]; omega)), e, s1, Option.bind_some, ackPack]
open Bv Crc in
theorem refsealed_eq (k : Nat) (hk : 5001 ≤ k) (l : List Int) (hl : l.length ≤ 4096) (hb : ∀ c ∈ l, isByte c) : m45F k l = some (isSealed l) := by
  simp only [m45F, m45X, leI_eq, decide_eq_true_eq]
  by_cases h : l.length < 4
  · rw [if_neg (by omega)]
    unfold isSealed
    rw [decide_eq_false (show ¬ 4 ≤ l.length by omega), Bool.false_and]
  · have w : wr .i64 ((l.length : Int) - 4) = ((l.length - 4 : Nat) : Int) := by rw [w64 (by omega) (by omega)]; omega
    have hb' : ∀ c ∈ l.take (l.length - 4), isByte c := fun c hc => hb c (List.mem_of_mem_take hc)
    have hl' : (l.take (l.length - 4)).length ≤ 4092 := by rw [List.length_take]; omega
    rw [if_pos (by omega), w, if_pos (by omega), if_pos (by omega), Int.toNat_natCast, refseal_eq k (by omega) _ hl' hb', Option.bind_some]
    rw [bytes_eq' k hk _ l (by rw [List.length_append, seal4_length]; omega), Option.bind_some]
    unfold isSealed
    rw [decide_eq_true (show 4 ≤ l.length by omega), Bool.true_and]

open Be Crc in
theorem num13_loop (k : Nat) (l : List Int) (hl : l.length ≤ 4) : ∀ (rest pre : List Int) (n : Nat), l = pre ++ rest → (∀ c ∈ l, isByte c) → rest.length < n →
    m46F7 k n l (num pre) (pre.length : Int) = some (num l) := by
  intro rest
  induction rest with
  | nil =>
    intro pre n h _ hn
    obtain ⟨n, rfl⟩ : ∃ x, n = x + 1 := ⟨n - 1, by simp only [List.length_nil] at hn; omega⟩
    rw [List.append_nil] at h
    subst h
    rw [m46F7, m46X7]
    simp only [ltI_eq, decide_eq_true_eq]
    rw [if_neg (by omega)]
  | cons x rest ih =>
    intro pre n h hb hn
    obtain ⟨n, rfl⟩ : ∃ x, n = x + 1 := ⟨n - 1, by omega⟩
    have h1 : l.length = pre.length + (rest.length + 1) := by rw [h]; simp
    have e1 : l.getD (Int.toNat (pre.length : Int)) 0 = x := by rw [h]; exact gd_at pre rest x 0
    have hx : isByte x := hb x (by rw [h]; simp)
    have e2 := num_or pre x (by omega) (fun c hc => hb c (by rw [h]; simp [hc])) hx
    rw [m46F7, m46X7]
    simp only [leI_eq, ltI_eq, decide_eq_true_eq, if_pos (show (pre.length : Int) < (l.length : Int) by omega), if_pos (show (0 : Int) ≤ (pre.length : Int) by omega), if_pos (show (0 : Int) ≤ 8 by decide), e1, e2, w64s (show pre.length < 9223372036854775807 by omega)]
    have := ih (pre ++ [x]) n (by rw [h]; simp) hb (by simp only [List.length_cons] at hn; omega)
    rw [List.length_append, List.length_singleton] at this
    exact this
open Be Crc in
theorem num13_eq (k : Nat) (hk : 10 ≤ k) (l : List Int) (hl : l.length ≤ 4) (hb : ∀ c ∈ l, isByte c) : m46F k l = some (num l) :=
  num13_loop k l hl l [] k rfl hb (by omega)

/-! Configurations. -/
theorem and_step {A B : Prop} [Decidable A] [Decidable B] {x : Option Bool} (h : A → x = some (decide B)) : (if decide A = true then x else some false) = some (decide (A ∧ B)) := by
  by_cases hA : A
  · rw [if_pos (decide_eq_true hA), h hA]
    simp [hA]
  · rw [if_neg (by simp [hA])]
    simp [hA]
theorem and_zero {A : Prop} [Decidable A] {x : Option Int} (h : A) (hx : x = some 0) : (if decide A = true then x else some 1) = some 0 := by rw [if_pos (decide_eq_true h), hx]
def within (n a b : Int) : Prop := a ≤ n ∧ n ≤ b
instance (n a b : Int) : Decidable (within n a b) := inferInstanceAs (Decidable (_ ∧ _))
theorem inc_eq (k : Nat) (n a b : Int) : m54F k n a b = some (decide (within n a b)) := by
  simp only [m54F, m54X, leI_eq, within]
  by_cases h : a ≤ n <;> simp [h]
def cfgOk (a b c d e f g h i j : Int) : Prop := within a 1 16 ∧ within b 1 16 ∧ within c 1 3 ∧ within d 1 16 ∧ within e 1 16 ∧ within f 1 16 ∧ within g 1 64 ∧ within h 4 16 ∧ within i 0 200 ∧ within j 0 1073741824
instance (a b c d e f g h i j : Int) : Decidable (cfgOk a b c d e f g h i j) := inferInstanceAs (Decidable (_ ∧ _))
theorem check_ok (k : Nat) (a b c d e f g h i j : Int) (ok : cfgOk a b c d e f g h i j) : m48F k (a, b, c, d, e, f, g, h, i, j) = some 0 := by
  obtain ⟨o1, o2, o3, o4, o5, o6, o7, o8, o9, oa⟩ := ok
  simp only [m48F, m48X, inc_eq, Option.bind_some]
  exact and_zero o1 (and_zero o2 (and_zero o3 (and_zero o4 (and_zero o5 (and_zero o6 (and_zero o7 (and_zero o8 (and_zero o9 (and_zero oa rfl)))))))))
/-- So many blocks has a text. -/
def nBlk (B len : Nat) : Nat := if len = 0 then 1 else (len + B - 1) / B
theorem nBlk_pos (B len : Nat) (hB : 1 ≤ B) : 1 ≤ nBlk B len := by
  unfold nBlk
  split
  · exact Nat.le_refl 1
  · exact (Nat.le_div_iff_mul_le hB).2 (by omega)
theorem nBlk_le (B len : Nat) (hB : 1 ≤ B) : nBlk B len ≤ len + 1 := by
  unfold nBlk
  split
  · omega
  · have : (len + B - 1) / B ≤ len := by
      rw [Nat.div_le_iff_le_mul hB]
      have := Nat.le_mul_of_pos_right len hB
      omega
    omega
/-- A block that is one begins within the text. -/
theorem nBlk_lt (B len i : Nat) (hB : 1 ≤ B) (hi : i < nBlk B len) : i * B ≤ len ∧ (0 < len → i * B < len) := by
  unfold nBlk at hi
  split at hi
  · have : i = 0 := by omega
    subst this
    omega
  · have h1 : i + 1 ≤ (len + B - 1) / B := hi
    rw [Nat.le_div_iff_mul_le hB, Nat.add_mul, Nat.one_mul] at h1
    omega
theorem nBlk_end (B len : Nat) (hB : 1 ≤ B) : len ≤ nBlk B len * B := by
  unfold nBlk
  split
  · omega
  · have h1 : (len + B - 1) / B + 1 > (len + B - 1) / B := Nat.lt_succ_self _
    have h2 := Nat.lt_mul_div_succ (len + B - 1) hB
    rw [Nat.mul_add, Nat.mul_one, Nat.mul_comm] at h2
    omega
theorem up_eq (k : Nat) (B len : Nat) (hB : 1 ≤ B) (hB2 : B ≤ 16) (hl : len ≤ 200) (hl0 : len ≠ 0) : m60F k (len : Int) (B : Int) = some (nBlk B len : Int) := by
  have ar : (!eqI (B : Int) 0) = true ∧ wr .i64 ((len : Int) + (B : Int)) = ((len + B : Nat) : Int) ∧ wr .i64 (((len + B : Nat) : Int) - 1) = ((len + B - 1 : Nat) : Int) :=
    ⟨by rw [eqI_neg (by omega)]; rfl, by rw [w64 (by omega) (by omega)]; omega, by rw [w64 (by omega) (by omega)]; omega⟩
  obtain ⟨a1, a2, a3⟩ := ar
  have e : Int.tdiv ((len + B - 1 : Nat) : Int) (B : Int) = (((len + B - 1) / B : Nat) : Int) := by
    rw [Int.tdiv_eq_ediv_of_nonneg (Int.natCast_nonneg _)]
    exact (Int.natCast_ediv _ _).symm
  have hd : (len + B - 1) / B ≤ len + B - 1 := Nat.div_le_self _ _
  have w : wr .i64 (((len + B - 1) / B : Nat) : Int) = (((len + B - 1) / B : Nat) : Int) := by
    clear a2 a3 e
    generalize (len + B - 1) / B = z at hd
    exact w64n (by omega)
  simp only [m60F, m60X, a1, if_true, a2, a3, e, w]
  unfold nBlk
  rw [if_neg hl0]
theorem blocks_eq (k : Nat) (B : Nat) (b c d e f g h i j : Int) (ok : cfgOk (B : Int) b c d e f g h i j) (len : Nat) (hl : len ≤ 200) : m55F k ((B : Int), b, c, d, e, f, g, h, i, j) (len : Int) = some (nBlk B len : Int) := by
  have hB := ok.1
  unfold within at hB
  have z0 : (!eqI 0 0) = false := by rw [eqI_pos rfl]; rfl
  have c0 : ltI (len : Int) 0 = false := ltI_neg (by omega)
  have c1 : ltI 200 (len : Int) = false := ltI_neg (by omega)
  simp only [m55F, m55X, check_ok k _ _ _ _ _ _ _ _ _ _ ok, Option.bind_some, z0, c0, c1, Bool.false_eq_true, if_false]
  by_cases h0 : len = 0
  · subst h0
    rw [if_pos (show eqI ((0 : Nat) : Int) 0 = true from eqI_pos rfl)]
    rfl
  · rw [if_neg (show ¬ (eqI (len : Int) 0 = true) by rw [eqI_neg (by omega)]; simp), up_eq k B len (by omega) (by omega) hl h0]
    rfl

/-! Witnesses: first places. -/
def IsB (l : List Int) : Prop := ∀ c ∈ l, Crc.isByte c
theorem strOf_list (l : List Int) : (strOf l).toList = l.map fun n => UInt8.ofNat n.toNat := by
  rw [ByteArray.toList_eq]
  rfl
theorem strOf_inj {a b : List Int} (ha : IsB a) (hb : IsB b) (h : (strOf a).toList = (strOf b).toList) : a = b := by
  rw [strOf_list, strOf_list] at h
  induction a generalizing b with
  | nil =>
    cases b with
    | nil => rfl
    | cons y b => cases h
  | cons x a ih =>
    cases b with
    | nil => cases h
    | cons y b =>
      rw [List.map_cons, List.map_cons, List.cons.injEq] at h
      have hx := ha x (by simp)
      have hy := hb y (by simp)
      unfold Crc.isByte at hx hy
      have e : x = y := by
        have h1 := congrArg UInt8.toNat h.1
        rw [UInt8.toNat_ofNat', UInt8.toNat_ofNat'] at h1
        omega
      rw [e, ih (fun c hc => ha c (by simp [hc])) (fun c hc => hb c (by simp [hc])) h.2]
theorem equalB (k : Nat) (a b : List Int) (ha : IsB a) (hb : IsB b) : m30F k a b = some (decide (a = b)) := by
  simp only [m30F, m30X]
  by_cases h : a = b
  · rw [h, decide_eq_true rfl]
    simp
  · rw [decide_eq_false h]
    have h2 : ¬ (strOf a).toList = (strOf b).toList := fun e => h (strOf_inj ha hb e)
    simp [h2]
/-- The first place from a number on. -/
def fidx {α : Type} (p : α → Bool) : List α → Nat → Int
  | [], _ => -1
  | x :: l, i => if p x = true then (i : Int) else fidx p l (i + 1)
theorem fidx_any {α : Type} (p : α → Bool) : ∀ (l : List α) (i : Nat), leI 0 (fidx p l i) = l.any p
  | [], i => by rw [fidx, List.any_nil]; exact leI_neg (by decide)
  | x :: l, i => by
    rw [fidx, List.any_cons]
    cases h : p x with
    | true => rw [if_pos rfl]; exact leI_pos (by omega)
    | false => rw [if_neg (by simp), Bool.false_or]; exact fidx_any p l (i + 1)
theorem idx_ar (i n : Nat) (h : i < n) (hn : n ≤ 100000) : ltI (i : Int) (n : Int) = true ∧ leI 0 (i : Int) = true ∧ wr .i64 ((i : Int) + 1) = ((i + 1 : Nat) : Int) := ⟨ltI_pos (by omega), leI_pos (by omega), w64s (by omega)⟩
theorem idxAck_loop (k : Nat) (l : List (List Int)) (f : Bool) (t : List Int) (ht : IsB t) (hl : l.length ≤ 100000) (hb : ∀ x ∈ l, IsB x) : ∀ (rest pre : List (List Int)) (j : Nat), l = pre ++ rest → rest.length < j →
    m44c29F5 k j l f t (l.length : Int) (pre.length : Int) = some (fidx (fun x => decide (x = t)) rest pre.length) := by
  intro rest
  induction rest with
  | nil =>
    intro pre j e hj
    obtain ⟨j, rfl⟩ : ∃ n, j = n + 1 := ⟨j - 1, by omega⟩
    have hlen : l.length = pre.length := by rw [e]; simp
    rw [m44c29F5, m44c29X5, if_neg (by rw [ltI_neg (by omega)]; simp)]
    rfl
  | cons x rest ih =>
    intro pre j e hj
    obtain ⟨j, rfl⟩ : ∃ n, j = n + 1 := ⟨j - 1, by omega⟩
    have hlen : l.length = pre.length + (rest.length + 1) := by rw [e]; simp
    have hx : l.getD (Int.toNat (pre.length : Int)) [] = x := by rw [e]; exact gd_at pre rest x []
    have hq := equalB k x t (hb x (by rw [e]; simp)) ht
    have hi := ih (pre ++ [x]) j (by rw [e]; simp) (by simp only [List.length_cons] at hj; omega)
    rw [List.length_append, List.length_singleton] at hi
    obtain ⟨c1, c2, c3⟩ := idx_ar pre.length l.length (by omega) hl
    rw [m44c29F5, m44c29X5]
    simp only [c1, c2, if_true, hx, m29F, m29X, hq, Option.bind_some, c3, hi]
    rw [fidx]
    by_cases h : x = t <;> simp [h]
theorem hasAck (k : Nat) (l : List (List Int)) (f : Bool) (t : List Int) (ht : IsB t) (hl : l.length ≤ 1000) (hk : 1001 ≤ k) (hb : ∀ x ∈ l, IsB x) : m28c29F k l (f, t) = some (l.any fun x => decide (x = t)) := by
  have := idxAck_loop k l f t ht (by omega) hb l [] k rfl (by omega)
  simp only [m28c29F, m28c29X, m44c29F, m44c29X]
  rw [show (m44c29F5 k k l f t (l.length : Int) 0) = _ from this, Option.bind_some]
  rw [show (([] : List (List Int)).length) = 0 from rfl, fidx_any]
/-- A packet that is an ack, and none of the replies. -/
def ackBad (replies : List (List Int)) (t : Bool × List Int) : Bool := t.1 && (decide ((ackRead t.2).2 = 0) && !replies.any fun x => decide (x = t.2))
theorem ackBad_eq (k : Nat) (hk : 5001 ≤ k) (replies : List (List Int)) (t : Bool × List Int) (ht : IsB t.2) (hl : replies.length ≤ 1000) (h4 : t.2.length ≤ 4096) (hb : ∀ x ∈ replies, IsB x) : m26F k (t.1, t.2) replies = some (ackBad replies t) := by
  obtain ⟨f, t⟩ := t
  have h1 := ackRead_eq k hk t h4 ht
  have h2 := hasAck k replies f t ht hl (by omega) hb
  simp only [m26F, m26X, h1, Option.bind_some, h2]
  unfold ackBad
  cases f with
  | false => simp
  | true =>
    simp only [Bool.not_true, Bool.false_eq_true, if_false, Bool.true_and]
    by_cases h : (ackRead t).2 = 0
    · rw [if_pos (eqI_pos h), decide_eq_true h, Bool.true_and]
    · rw [if_neg (by rw [eqI_neg h]; simp), decide_eq_false h, Bool.false_and]
theorem auditAck_loop (k : Nat) (hk : 5001 ≤ k) (replies : List (List Int)) (hr : replies.length ≤ 1000) (hb : ∀ x ∈ replies, IsB x) (l : List (Bool × List Int)) (hl : l.length ≤ 1000) (hlb : ∀ x ∈ l, IsB x.2 ∧ x.2.length ≤ 4096) : ∀ (rest pre : List (Bool × List Int)) (j : Nat), l = pre ++ rest → rest.length < j →
    m25c26F5 k j l replies (l.length : Int) (pre.length : Int) = some (fidx (ackBad replies) rest pre.length) := by
  intro rest
  induction rest with
  | nil =>
    intro pre j e hj
    obtain ⟨j, rfl⟩ : ∃ n, j = n + 1 := ⟨j - 1, by omega⟩
    have hlen : l.length = pre.length := by rw [e]; simp
    rw [m25c26F5, m25c26X5, if_neg (by rw [ltI_neg (by omega)]; simp)]
    rfl
  | cons x rest ih =>
    intro pre j e hj
    obtain ⟨j, rfl⟩ : ∃ n, j = n + 1 := ⟨j - 1, by omega⟩
    have hlen : l.length = pre.length + (rest.length + 1) := by rw [e]; simp
    have hx : l.getD (Int.toNat (pre.length : Int)) (false, []) = x := by rw [e]; exact gd_at pre rest x (false, [])
    obtain ⟨x1, x2⟩ := hlb x (by rw [e]; simp)
    have hq := ackBad_eq k hk replies x x1 hr x2 hb
    have hi := ih (pre ++ [x]) j (by rw [e]; simp) (by simp only [List.length_cons] at hj; omega)
    rw [List.length_append, List.length_singleton] at hi
    obtain ⟨c1, c2, c3⟩ := idx_ar pre.length l.length (by omega) (by omega)
    rw [m25c26F5, m25c26X5]
    simp only [c1, c2, if_true, hx, hq, Option.bind_some, c3, hi]
    rw [fidx]
    split <;> rfl
theorem auditAck_eq (k : Nat) (hk : 5001 ≤ k) (replies : List (List Int)) (hr : replies.length ≤ 1000) (hb : ∀ x ∈ replies, IsB x) (l : List (Bool × List Int)) (hl : l.length ≤ 1000) (hlb : ∀ x ∈ l, IsB x.2 ∧ x.2.length ≤ 4096) : m10F k l replies = some (fidx (ackBad replies) l 0) := by
  have := auditAck_loop k hk replies hr hb l hl hlb l [] k rfl (by omega)
  simp only [m10F, m10X, m25c26F, m25c26X]
  rw [show (m25c26F5 k k l replies (l.length : Int) 0) = _ from this]
  rfl
/-! The page's. -/
theorem has_loop (k : Nat) (hk : 5001 ≤ k) (l : List (List Int)) (t : List Int) (hl : l.length ≤ 100000) (hb : ∀ x ∈ l, x.length ≤ 5000) : ∀ (rest pre : List (List Int)) (j : Nat), l = pre ++ rest → rest.length < j →
    m32F5 k j l t (pre.length : Int) = some (rest.any fun x => decide (x = t)) := by
  intro rest
  induction rest with
  | nil =>
    intro pre j e hj
    obtain ⟨j, rfl⟩ : ∃ n, j = n + 1 := ⟨j - 1, by omega⟩
    have hlen : l.length = pre.length := by rw [e]; simp
    rw [m32F5, m32X5, if_neg (by rw [ltI_neg (by omega)]; simp)]
    rfl
  | cons x rest ih =>
    intro pre j e hj
    obtain ⟨j, rfl⟩ : ∃ n, j = n + 1 := ⟨j - 1, by omega⟩
    have hlen : l.length = pre.length + (rest.length + 1) := by rw [e]; simp
    have hx : l.getD (Int.toNat (pre.length : Int)) [] = x := by rw [e]; exact gd_at pre rest x []
    have hq := bytes_eq' k hk x t (hb x (by rw [e]; simp))
    have hi := ih (pre ++ [x]) j (by rw [e]; simp) (by simp only [List.length_cons] at hj; omega)
    rw [List.length_append, List.length_singleton] at hi
    obtain ⟨c1, c2, c3⟩ := idx_ar pre.length l.length (by omega) hl
    rw [m32F5, m32X5, List.any_cons]
    simp only [c1, c2, if_true, hx, hq, Option.bind_some, c3, hi]
    by_cases h : x = t <;> simp [h]
theorem has_eq (k : Nat) (hk : 5001 ≤ k) (l : List (List Int)) (t : List Int) (hl : l.length ≤ 5000) (hb : ∀ x ∈ l, x.length ≤ 5000) : m32F k l t = some (l.any fun x => decide (x = t)) := by
  simp only [m32F, m32X]
  exact has_loop k hk l t (by omega) hb l [] k rfl (by omega)
open Crc Be Bv in
theorem refReadAck_eq (k : Nat) (hk : 5001 ≤ k) (l : List Int) (hl : l.length ≤ 4096) (hb : ∀ c ∈ l, isByte c) : m31F k l = some (ackRead l) := by
  simp only [m31F, m31X]
  unfold ackRead
  by_cases h13 : l.length = 13
  · have t : ∀ a b : Nat, b ≤ 4 → ((l.take (a + b)).drop a).length ≤ 4 := fun a b hb => by rw [List.length_drop, List.length_take]; omega
    have tb : ∀ a b : Nat, ∀ c ∈ (l.take b).drop a, isByte c := fun a b c hc => hb c (List.mem_of_mem_take (List.mem_of_mem_drop hc))
    have g2 := num13_eq k (by omega) ((l.take 5).drop 1) (t 1 4 (by decide)) (tb 1 5)
    have g3 := num13_eq k (by omega) ((l.take 9).drop 5) (t 5 4 (by decide)) (tb 5 9)
    have hs := refsealed_eq k hk l hl hb
    have hn := num_bound ((l.take 9).drop 5) (tb 5 9)
    have hln : ((l.take 9).drop 5).length = 4 := by rw [List.length_drop, List.length_take]; omega
    have e0 : (!eqI (l.length : Int) 13) = false := by rw [eqI_pos (by omega)]; rfl
    have c0 : leI 0 0 = true := leI_pos (by decide)
    have c1 : ltI 0 (l.length : Int) = true := ltI_pos (by omega)
    have c5 : leI 5 (l.length : Int) = true := leI_pos (by omega)
    have c9 : leI 9 (l.length : Int) = true := leI_pos (by omega)
    have d : leI 0 5 = true ∧ leI 0 1 = true ∧ leI 1 5 = true ∧ leI 0 9 = true ∧ leI 5 9 = true := ⟨leI_pos (by decide), leI_pos (by decide), leI_pos (by decide), leI_pos (by decide), leI_pos (by decide)⟩
    obtain ⟨d1, d2, d3, d4, d5⟩ := d
    have hw : wr .u32 (num ((l.take 9).drop 5)) = num ((l.take 9).drop 5) := by
      rw [hln] at hn
      rw [wu32]
      have p : ((256 ^ 4 : Nat) : Int) = 4294967296 := by simp
      rw [p] at hn
      exact Int.emod_eq_of_lt hn.1 hn.2
    rw [if_neg (show ¬ l.length ≠ 13 from fun h => h h13)]
    simp only [e0, Bool.false_eq_true, if_false, c0, c1, if_true]
    by_cases hk0 : l.getD 0 0 = 65
    · rw [if_neg (by rw [eqI_pos hk0]; simp), if_neg (show ¬ l.getD 0 0 ≠ 65 from fun h => h hk0)]
      simp only [hs, Option.bind_some]
      cases hsl : isSealed l with
      | false => simp
      | true =>
        simp only [Bool.not_true, Bool.false_eq_true, if_false, d1, d2, d3, d4, d5, c5, c9, if_true, g2, g3, Option.bind_some, hw]
        by_cases hm : 1073741824 < num ((l.take 5).drop 1)
        · rw [if_pos (ltI_pos hm), if_neg (by simp), if_pos hm]
        · rw [if_neg (by rw [ltI_neg hm]; simp), if_neg (by simp), if_neg hm]
    · rw [if_pos (by rw [eqI_neg hk0]; rfl), if_pos hk0]
  · have e0 : (!eqI (l.length : Int) 13) = true := by rw [eqI_neg (by omega)]; rfl
    rw [if_pos e0, if_pos h13]
theorem refAck_loop (k : Nat) (hk : 5001 ≤ k) (replies : List (List Int)) (hr : replies.length ≤ 1000) (hb : ∀ x ∈ replies, x.length ≤ 5000) (l : List (Bool × List Int)) (hl : l.length ≤ 1000) (hlb : ∀ x ∈ l, IsB x.2 ∧ x.2.length ≤ 4096) : ∀ (rest pre : List (Bool × List Int)) (j : Nat), l = pre ++ rest → rest.length < j →
    m11F5 k j l replies (pre.length : Int) = some (fidx (ackBad replies) rest pre.length) := by
  intro rest
  induction rest with
  | nil =>
    intro pre j e hj
    obtain ⟨j, rfl⟩ : ∃ n, j = n + 1 := ⟨j - 1, by omega⟩
    have hlen : l.length = pre.length := by rw [e]; simp
    rw [m11F5, m11X5, if_neg (by rw [ltI_neg (by omega)]; simp)]
    rfl
  | cons x rest ih =>
    intro pre j e hj
    obtain ⟨j, rfl⟩ : ∃ n, j = n + 1 := ⟨j - 1, by omega⟩
    have hlen : l.length = pre.length + (rest.length + 1) := by rw [e]; simp
    have hx : l.getD (Int.toNat (pre.length : Int)) (false, []) = x := by rw [e]; exact gd_at pre rest x (false, [])
    obtain ⟨x1, x2⟩ := hlb x (by rw [e]; simp)
    have hq := refReadAck_eq k hk x.2 x2 x1
    have hh := has_eq k hk replies x.2 (by omega) hb
    have hi := ih (pre ++ [x]) j (by rw [e]; simp) (by simp only [List.length_cons] at hj; omega)
    rw [List.length_append, List.length_singleton] at hi
    obtain ⟨c1, c2, c3⟩ := idx_ar pre.length l.length (by omega) (by omega)
    rw [m11F5, m11X5, fidx]
    simp only [c1, c2, if_true, hx, hq, hh, Option.bind_some, c3, hi]
    unfold ackBad
    cases x.1 with
    | false => simp
    | true =>
      simp only [if_true, Bool.true_and]
      by_cases h : (ackRead x.2).2 = 0
      · rw [if_pos (eqI_pos h), decide_eq_true h, Bool.true_and]
        cases replies.any fun y => decide (y = x.2) <;> rfl
      · rw [if_neg (by rw [eqI_neg h]; simp), decide_eq_false h, Bool.false_and, if_neg (by simp)]
theorem refAck26_eq (k : Nat) (hk : 5001 ≤ k) (replies : List (List Int)) (hr : replies.length ≤ 1000) (hb : ∀ x ∈ replies, x.length ≤ 5000) (l : List (Bool × List Int)) (hl : l.length ≤ 1000) (hlb : ∀ x ∈ l, IsB x.2 ∧ x.2.length ≤ 4096) : m11F k l replies = some (fidx (ackBad replies) l 0) := by
  simp only [m11F, m11X]
  exact refAck_loop k hk replies hr hb l hl hlb l [] k rfl (by omega)
theorem twinRows_loop (k : Nat) (l : List (List Int)) (hl : l.length ≤ 100000) (hb : ∀ x ∈ l, x.length ≤ 5000) : ∀ (rest pre : List (List Int)) (j : Nat), l = pre ++ rest → rest.length < j → m9F7 k j l (pre.length : Int) pre = some l := by
  intro rest
  induction rest with
  | nil =>
    intro pre j e hj
    obtain ⟨j, rfl⟩ : ∃ n, j = n + 1 := ⟨j - 1, by omega⟩
    rw [List.append_nil] at e
    subst e
    rw [m9F7, m9X7, if_neg (by rw [ltI_neg (by omega)]; simp)]
  | cons x rest ih =>
    intro pre j e hj
    obtain ⟨j, rfl⟩ : ∃ n, j = n + 1 := ⟨j - 1, by omega⟩
    have hlen : l.length = pre.length + (rest.length + 1) := by rw [e]; simp
    have hx : l.getD (Int.toNat (pre.length : Int)) [] = x := by rw [e]; exact gd_at pre rest x []
    have hq := twin_eq k x (hb x (by rw [e]; simp))
    have hs : List.set (List.replicate 1 ([] : List Int)) 0 x = [x] := (congrArg (fun z : List Int => [z]) (Eq.refl x) : [x] = [x])
    have hi := ih (pre ++ [x]) j (by rw [e]; simp) (by simp only [List.length_cons] at hj; omega)
    rw [List.length_append, List.length_singleton] at hi
    have c4 : leI (((pre.length + 1) * 24 : Nat) : Int) 140737488355328 = true := leI_pos (by omega)
    obtain ⟨c1, c2, c3⟩ := idx_ar pre.length l.length (by omega) hl
    rw [m9F7, m9X7]
    simp only [c1, c2, if_true, hx, hq, Option.bind_some, hs, List.length_singleton, c4, c3]
    exact hi
theorem twinRows_eq (k : Nat) (l : List (List Int)) (hl : l.length ≤ 5000) (hk : 5001 ≤ k) (hb : ∀ x ∈ l, x.length ≤ 5000) : m9F k l = some l := by
  simp only [m9F, m9X]
  exact twinRows_loop k l (by omega) hb l [] k rfl (by omega)
theorem heavy26_loop (k : Nat) (l : List (List Int)) (hl : l.length ≤ 30) : ∀ (rest pre : List (List Int)) (j : Nat), l = pre ++ rest → rest.length < j → ∃ b, m7F9 k j l (pre.length : Int) = some b ∧ (b = false → ∀ x ∈ rest, x.length ≤ 250) := by
  intro rest
  induction rest with
  | nil =>
    intro pre j e hj
    obtain ⟨j, rfl⟩ : ∃ n, j = n + 1 := ⟨j - 1, by omega⟩
    have hlen : l.length = pre.length := by rw [e]; simp
    refine ⟨false, ?_, fun _ x hx => by cases hx⟩
    rw [m7F9, m7X9, if_neg (by rw [ltI_neg (by omega)]; simp)]
  | cons x rest ih =>
    intro pre j e hj
    obtain ⟨j, rfl⟩ : ∃ n, j = n + 1 := ⟨j - 1, by omega⟩
    have hlen : l.length = pre.length + (rest.length + 1) := by rw [e]; simp
    have hx : l.getD (Int.toNat (pre.length : Int)) [] = x := by rw [e]; exact gd_at pre rest x []
    obtain ⟨b, h1, h2⟩ := ih (pre ++ [x]) j (by rw [e]; simp) (by simp only [List.length_cons] at hj; omega)
    rw [List.length_append, List.length_singleton] at h1
    obtain ⟨c1, c2, c3⟩ := idx_ar pre.length l.length (by omega) (by omega)
    rw [m7F9, m7X9]
    simp only [c1, c2, if_true, hx, c3]
    by_cases h : x.length ≤ 250
    · rw [if_neg (by rw [ltI_neg (by omega)]; simp)]
      refine ⟨b, h1, fun hb y hy => ?_⟩
      rcases List.mem_cons.1 hy with rfl | hy
      · exact h
      · exact h2 hb y hy
    · rw [if_pos (ltI_pos (by omega))]
      exact ⟨true, rfl, fun h => by cases h⟩
theorem heavy26 (k : Nat) (hk : 5001 ≤ k) (l : List (List Int)) : ∃ b, m7F k l = some b ∧ (b = false → l.length ≤ 30 ∧ ∀ x ∈ l, x.length ≤ 250) := by
  simp only [m7F, m7X]
  by_cases h : l.length ≤ 30
  · rw [if_neg (by rw [ltI_neg (by omega)]; simp)]
    obtain ⟨b, h1, h2⟩ := heavy26_loop k l h l [] k rfl (by omega)
    exact ⟨b, h1, fun hb => ⟨h, h2 hb⟩⟩
  · rw [if_pos (ltI_pos (by omega))]
    exact ⟨true, rfl, fun h => by cases h⟩
theorem wake_cfg : cfgOk 1 1 1 1 1 1 1 4 5 0 := by decide
theorem had_set (x : List Int × Int) : List.set (List.replicate 1 (([] : List Int), (0 : Int))) 0 x = [x] := (congrArg (fun z : List Int × Int => [z]) (Eq.refl x) : [x] = [x])
theorem wakes26 (k : Nat) (hk : 5001 ≤ k) : m12F k = some true := by
  obtain ⟨j, rfl⟩ : ∃ j, k = j + 2 := ⟨k - 2, by omega⟩
  have e0 : ∀ z : Int, eqI z z = true := fun z => eqI_pos rfl
  have hz : ∀ z : Int, (!eqI z z) = false := fun z => by rw [eqI_pos rfl]; rfl
  have hc := check_ok (j + 2) 1 1 1 1 1 1 1 4 5 0 wake_cfg
  have l0 : ltI 0 (([] : List (List Int)).length : Int) = false := ltI_neg (by simp)
  have l1 : ltI 0 (([] : List (List Int × Int)).length : Int) = false := ltI_neg (by simp)
  have hbl : m36F (j + 2) (1, 1, 1, 1, 1, 1, 1, 4, 5, 0) [] = some ([], [], 0) := by
    simp only [m36F, m36X, hc, Option.bind_some, hz, Bool.false_eq_true, if_false, m36F11, m36X11, l0, m36F40, m36X40]
  have hi0 : m37c38F (j + 2) [] ([], []) = some (-1) := by
    simp only [m37c38F, m37c38X, m37c38F5, m37c38X5, l1, Bool.false_eq_true, if_false]
  have h1 : m16F (j + 2) (1, 1, 1, 1, 1, 1, 1, 4, 5, 0) [] [] = some (-1, 0) := by
    simp only [m16F, m16X, hbl, Option.bind_some, hz, Bool.false_eq_true, if_false, m16F11, m16X11, l1, m16F20, m16X20, hi0]
  have c0 : ltI 0 0 = false := ltI_neg (by decide)
  have c1 : leI 0 0 = true := leI_pos (by decide)
  have c2 : leI 0 (([] : List (List Int)).length : Int) = true := leI_pos (by simp)
  have hcon : m28c39F (j + 2) [] ([1], 0) = some false := by
    have m1 : leI 0 (-1) = false := leI_neg (by decide)
    simp only [m28c39F, m28c39X, m44c39F, m44c39X, m44c39F5, m44c39X5, l0, Bool.false_eq_true, if_false, Option.bind_some, m1]
  have hm : m38F (j + 2) ([1], 0) [] [] = some true := by
    simp only [m38F, m38X, c0, Bool.false_eq_true, if_false, m38F8, m38X8, c1, c2, if_true, Int.toNat_zero, List.take_zero, hcon, Option.bind_some, Bool.not_false]
  have l2 : ltI 0 ([(([1] : List Int), (0 : Int))].length : Int) = true := ltI_pos (by simp)
  have g0 : ([(([1] : List Int), (0 : Int))]).getD 0 ([], 0) = ([1], 0) := rfl
  have hi1 : m37c38F (j + 2) [([1], 0)] ([], []) = some 0 := by
    simp only [m37c38F, m37c38X, m37c38F5, m37c38X5, l2, c1, if_true, Int.toNat_zero, g0, hm, Option.bind_some]
  have l3 : ltI (([] : List (List Int)).length : Int) 0 = false := ltI_neg (by simp)
  have l4 : ltI 1 ([(([1] : List Int), (0 : Int))].length : Int) = false := ltI_neg (by simp)
  have w1 : wr .i64 (0 + 1) = 1 := by decide +kernel
  have h2 : m16F (j + 2) (1, 1, 1, 1, 1, 1, 1, 4, 5, 0) [] [([1], 0)] = some (0, 0) := by
    simp only [m16F, m16X, hbl, Option.bind_some, hz, Bool.false_eq_true, if_false, m16F11, m16X11, l2, c1, if_true, Int.toNat_zero, g0, c0, l3, w1, l4, m16F20, m16X20, hi1]
  have h3 := auditAck_eq (j + 2) hk [] (by simp) (fun x hx => by cases hx) [] (by simp) (fun x hx => by cases hx)
  have h4 : m18F (j + 2) [] [] = some true := by
    have t0 : Int.toNat (([] : List (List Int)).length : Int) = 0 := rfl
    have q0 : leI (([] : List (List Int)).length : Int) (([] : List (List Int)).length : Int) = true := leI_pos (Int.le_refl _)
    simp only [m18F, m18X, q0, c2, if_true, t0, List.take_zero, m40c30F, m40c30X, hz, Bool.false_eq_true, if_false, m40c30F9, m40c30X9, l0, Option.bind_some]
  simp only [m12F, m12X, one_set, had_set, h1, h2, h3, h4, Option.bind_some, e0, if_true, fidx]


end Go.Proofs.Ytbbmdflfonifnaa.Mini
