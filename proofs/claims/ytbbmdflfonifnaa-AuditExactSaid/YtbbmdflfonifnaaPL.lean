/- What shared functions tell: plain laws. -/
import Derived.Test.YtbbmdflfonifnaaMF2
import Derived.Test.YtbbmdflfonifnaaCrc
import Derived.Test.YtbbmdflfonifnaaBe
import Derived.Test.YtbbmdflfonifnaaPop
import Derived.Laws.Closers25b
import Derived.Laws.Strings
set_option linter.unusedSimpArgs false
set_option linter.unusedVariables false
namespace Go.Proofs.Ytbbmdflfonifnaa.Mini
open Go Go.RowKit Go.Proofs
theorem w64 {n : Int} (h0 : -9223372036854775808 ≤ n) (h1 : n < 9223372036854775808) : wr .i64 n = n := by
  show wrap64 n = n
  unfold wrap64
  omega
theorem w64n {n : Nat} (h1 : n < 9223372036854775808) : wr .i64 (n : Int) = (n : Int) := w64 (by omega) (by omega)
theorem w64s {n : Nat} (h1 : n < 9223372036854775807) : wr .i64 ((n : Int) + 1) = ((n + 1 : Nat) : Int) := w64 (by omega) (by omega)
theorem wu64 {n : Int} (h0 : 0 ≤ n) (h1 : n < 18446744073709551616) : wr .u64 n = n := by
  show n % 18446744073709551616 = n
  omega
theorem wu8 (n : Int) : wr .u8 n = n % 256 := (congrArg (fun x : Int => x % 256) (Eq.refl n) : n % 256 = n % 256)
theorem wu32 (n : Int) : wr .u32 n = n % 4294967296 := (congrArg (fun x : Int => x % 4294967296) (Eq.refl n) : n % 4294967296 = n % 4294967296)
theorem gd_at {α : Type} (pre rest : List α) (x d : α) : (pre ++ x :: rest).getD (Int.toNat (pre.length : Int)) d = x := by
  rw [Int.toNat_natCast, List.getD_eq_getElem?_getD, List.getElem?_append_right (Nat.le_refl _), Nat.sub_self]
  rfl
theorem gd_at' {α : Type} (pre rest : List α) (x d : α) (n : Nat) (h : pre.length = n) : (pre ++ x :: rest).getD (Int.toNat (n : Int)) d = x := by
  subst h
  exact gd_at pre rest x d
theorem getD_nat {α : Type} (l : List α) (n : Nat) (d : α) : l.getD (Int.toNat (n : Int)) d = l.getD n d := rfl
theorem nilK_same {R : Type} {e : Bool} {a : Option R} : nilK e a a = a := by
  unfold nilK both
  cases e <;> simp
theorem nilK_of {R : Type} {e : Bool} {a b : Option R} (h : e = true → a = b) : nilK e a b = b := by
  unfold nilK both
  cases e
  · rfl
  · simp [h rfl]
theorem one_set (x d : Int) : List.set (List.replicate 1 d) 0 x = [x] := (congrArg (fun y : Int => [y]) (Eq.refl x) : [x] = [x])
theorem bytes_wf {l : List Int} (h : WfK (.row (.int .u8)) l) : ∀ c ∈ l, Crc.isByte c := fun c hc => Bv.wf_u8 (h.2 c hc)
theorem leI_pos {a b : Int} (h : a ≤ b) : leI a b = true := (leI_iff a b).2 h
theorem leI_neg {a b : Int} (h : ¬ a ≤ b) : leI a b = false := by
  rw [leI_eq]
  simpa using h
theorem ltI_pos {a b : Int} (h : a < b) : ltI a b = true := (ltI_iff a b).2 h
theorem ltI_neg {a b : Int} (h : ¬ a < b) : ltI a b = false := by
  rw [ltI_eq]
  simpa using h
theorem eqI_pos {a b : Int} (h : a = b) : eqI a b = true := (eqI_iff a b).2 h
theorem eqI_neg {a b : Int} (h : ¬ a = b) : eqI a b = false := by
  rw [eqI_eq]
  simpa using h
theorem umod0 (x : Int) (m : Nat) (hm : 0 < m) : ∃ a : Nat, a < m ∧ Int.tmod (wr .u64 x) (m : Int) = (a : Int) := by
  have h0 : 0 ≤ wr .u64 x := Int.emod_nonneg _ (by decide)
  have h1 : Int.tmod (wr .u64 x) (m : Int) = wr .u64 x % (m : Int) := Int.tmod_eq_emod_of_nonneg h0
  have h2 := Int.emod_nonneg (wr .u64 x) (show (m : Int) ≠ 0 by omega)
  have h3 := Int.emod_lt_of_pos (wr .u64 x) (show (0 : Int) < m by omega)
  refine ⟨(wr .u64 x % (m : Int)).toNat, ?_, ?_⟩
  · generalize wr .u64 x % (m : Int) = z at h2 h3
    omega
  · rw [h1]
    generalize wr .u64 x % (m : Int) = z at h2 h3
    omega

open Bv Crc in
theorem t32_inner (k : Nat) (X : Option (List Int)) (L7 : Int → List Int → Option (List Int)) (x1 : List Int) (i : Int) (hx : x1.length < 1000) : ∀ (d j n : Nat) (v : BitVec 32), j + d = 8 → d < n →
    L7 (wr .i64 (i + 1)) (x1 ++ [u (E.many L d v)]) = X → m62F15 k L7 n (u v) i (j : Int) x1 = X := by
  intro d
  induction d with
  | zero =>
    intro j n v hj hn R
    obtain ⟨n, rfl⟩ : ∃ m, n = m + 1 := ⟨n - 1, by omega⟩
    rw [m62F15, m62X15]
    simp only [leI_eq, ltI_eq, eqI_eq, decide_eq_true_eq, if_neg (show ¬ (j : Int) < 8 by omega), m62F26, m62X26, one_set]
    rw [if_pos (by simp only [List.length_singleton]; omega)]
    exact R
  | succ d ih =>
    intro j n v hj hn R
    obtain ⟨n, rfl⟩ : ∃ m, n = m + 1 := ⟨n - 1, by omega⟩
    rw [E.many_in] at R
    have e : Go.bits .and .i64 (u v) 1 = ((v.toNat % 2 : Nat) : Int) := and1 v.toNat (lt63 (by decide) v)
    rw [m62F15, m62X15]
    simp only [leI_eq, ltI_eq, eqI_eq, decide_eq_true_eq, if_pos (show (j : Int) < 8 by omega), if_pos (show (0 : Int) ≤ 1 by decide), e, w64s (show j < 9223372036854775807 by omega)]
    by_cases h : v.toNat % 2 = 1
    · have e2 : Go.bits .xor .i64 (u v / (2 : Int)) 3988292384 = u (L v) := by
        rw [shr1, L_odd h]
        exact xor_u (by decide) (v >>> 1) 3988292384#32
      rw [if_pos (by omega), e2]
      exact ih (j + 1) n (L v) (by omega) (by omega) R
    · have e2 : u v / (2 : Int) = u (L v) := by rw [shr1, L_even h]
      rw [if_neg (by omega), e2]
      exact ih (j + 1) n (L v) (by omega) (by omega) R
open Bv Crc in
def tbl32 (n : Nat) : List Int := (List.range n).map (fun i : Nat => u (tab32 i))
open Bv Crc in
theorem tbl32_at (n i : Nat) (h : i < n) : (tbl32 n).getD (Int.toNat (i : Int)) 0 = u (tab32 i) := by
  unfold tbl32
  rw [Int.toNat_natCast, List.getD_eq_getElem?_getD, List.getElem?_map, List.getElem?_range h]
  rfl
theorem tbl32_length (n : Nat) : (tbl32 n).length = n := by simp [tbl32]
open Bv Crc in
theorem t32_outer (k : Nat) (hk : 10 ≤ k) : ∀ (d i n : Nat), i + d = 256 → d < n → m62F7 k n (i : Int) (tbl32 i) = some (tbl32 256) := by
  intro d
  induction d with
  | zero =>
    intro i n hi hn
    obtain ⟨n, rfl⟩ : ∃ m, n = m + 1 := ⟨n - 1, by omega⟩
    obtain rfl : i = 256 := by omega
    rw [m62F7, m62X7]
    simp only [ltI_eq, decide_eq_true_eq]
    rw [if_neg (by omega)]
  | succ d ih =>
    intro i n hi hn
    obtain ⟨n, rfl⟩ : ∃ m, n = m + 1 := ⟨n - 1, by omega⟩
    have e : (i : Int) = u (BitVec.ofNat 32 i) := by unfold u; rw [BitVec.toNat_ofNat, Nat.mod_eq_of_lt (by omega)]
    have R := ih (i + 1) n (by omega) (by omega)
    have e3 : tbl32 (i + 1) = tbl32 i ++ [u (E.many L 8 (BitVec.ofNat 32 i))] := by unfold tbl32; rw [List.range_succ, List.map_append]; rfl
    rw [e3, ← w64s (show i < 9223372036854775807 by omega)] at R
    rw [m62F7, m62X7]
    simp only [ltI_eq, decide_eq_true_eq]
    rw [if_pos (by omega)]
    have := t32_inner k _ (m62F7 k n) (tbl32 i) (i : Int) (by rw [tbl32_length]; omega) 8 0 k (BitVec.ofNat 32 i) rfl (by omega) R
    rw [← e] at this
    exact this
theorem table32_eq (k : Nat) (hk : 300 ≤ k) : m62F k = some (tbl32 256) := t32_outer k (by omega) 256 0 k rfl (by omega)
open Bv Crc in
theorem sum32_loop (k : Nat) (l : List Int) (hl : l.length ≤ 4096) : ∀ (rest pre : List Int) (n : Nat) (r : BitVec 32), l = pre ++ rest → (∀ c ∈ rest, isByte c) → rest.length < n →
    m59F11 k n (u r) l (l.length : Int) (pre.length : Int) (tbl32 256) = some (u (reg32 r rest ^^^ ones32), 0) := by
  intro rest
  induction rest with
  | nil =>
    intro pre n r h _ hn
    obtain ⟨n, rfl⟩ : ∃ m, n = m + 1 := ⟨n - 1, by simp only [List.length_nil] at hn; omega⟩
    have hlen : l.length = pre.length := by rw [h]; simp
    have := xor_u (by decide) r ones32
    rw [m59F11, m59X11]
    simp only [ltI_eq, decide_eq_true_eq, if_neg (show ¬ (pre.length : Int) < (l.length : Int) by omega), m59F18, m59X18, reg_nil]
    rw [← this]
    rfl
  | cons c rest ih =>
    intro pre n r h hb hn
    obtain ⟨n, rfl⟩ : ∃ m, n = m + 1 := ⟨n - 1, by omega⟩
    have hlen : l.length = pre.length + (rest.length + 1) := by rw [h]; simp
    have hp : l.getD (Int.toNat (pre.length : Int)) 0 = c := by rw [h]; exact gd_at pre rest c 0
    obtain ⟨h0, h1⟩ := hb c (by simp)
    have ec : c = ((c.toNat : Nat) : Int) := by omega
    have hr := r.isLt
    have hix : (r.toNat % 256) ^^^ c.toNat < 2 ^ 8 := Nat.xor_lt_two_pow (by omega) (by omega)
    have ei : Go.bits .xor .i64 (Go.bits .and .i64 (u r) 255) (wr .i64 c) = (((r.toNat % 256) ^^^ c.toNat : Nat) : Int) := by
      have e1 : Go.bits .and .i64 (u r) 255 = ((r.toNat % 256 : Nat) : Int) := and255i r.toNat (by omega)
      rw [e1, w64 (by omega) (by omega), ec, xorN _ _ (by omega) (by omega), Int.toNat_natCast]
    have es : Go.bits .xor .i64 (u r / (256 : Int)) (u (tab32 ((r.toNat % 256) ^^^ c.toNat))) = u (step32 r c) := by
      rw [shr8, xor_u (by decide), step_tab r c ⟨h0, h1⟩]
    have hlt : ((((r.toNat % 256) ^^^ c.toNat : Nat)) : Int) < ((tbl32 256).length : Int) := by rw [tbl32_length]; omega
    rw [m59F11, m59X11]
    simp only [leI_eq, ltI_eq, decide_eq_true_eq, if_pos (show (pre.length : Int) < (l.length : Int) by omega), if_pos (show (0 : Int) ≤ (pre.length : Int) by omega), if_pos (show (0 : Int) ≤ 8 by decide), hp, ei, if_pos hlt, if_pos (show (0 : Int) ≤ ((((r.toNat % 256) ^^^ c.toNat : Nat)) : Int) by omega)]
    rw [tbl32_at _ _ (by omega), es, w64s (show pre.length < 9223372036854775807 by omega)]
    have := ih (pre ++ [c]) n (step32 r c) (by rw [h]; simp) (fun y hy => hb y (by simp [hy])) (by simp only [List.length_cons] at hn; omega)
    rw [List.length_append, List.length_singleton] at this
    exact this
open Bv Crc in
theorem sum32_eq (k : Nat) (hk : 5000 ≤ k) (l : List Int) (hl : l.length ≤ 4096) (hb : ∀ c ∈ l, isByte c) : m59F k l = some (u (sum32 l), 0) := by
  simp only [m59F, m59X, ltI_eq, decide_eq_true_eq]
  rw [if_neg (by omega), table32_eq k (by omega), Option.bind_some]
  exact sum32_loop k l hl l [] k ones32 rfl hb (by omega)

theorem clone_eq (k : Nat) (l : List Int) (h : l.length ≤ 5000) : m56F k l = some l := by
  simp only [m56F, m56X, leI_eq, decide_eq_true_eq]
  rw [nilK_of, if_pos (by omega)]
  · rfl
  · intro he
    rw [if_pos (by omega)]
    rw [List.isEmpty_iff.1 he]
    rfl

open Bv Crc in
theorem shr8u (s : BitVec 32) (j : Nat) : u (s >>> j) / (256 : Int) = u (s >>> (j + 8)) := by rw [shr8, ← BitVec.shiftRight_add]
open Bv Crc in
theorem seal_step (k n : Nat) (s : BitVec 32) (b : List Int) (i : Nat) (hi : i < 4) (hb : b.length ≤ 4096) (j : Nat) : m52F17 k (n + 1) (u (s >>> j)) (i : Int) b = m52F17 k n (u (s >>> (j + 8))) ((i + 1 : Nat) : Int) (b ++ [u (s >>> j) % 256]) := by
  rw [m52F17, m52X17]
  simp only [leI_eq, ltI_eq, decide_eq_true_eq, if_pos (show (i : Int) < 4 by omega), one_set, wu8, if_pos (show (0 : Int) ≤ 8 by decide), shr8u, w64s (show i < 9223372036854775807 by omega)]
  rw [if_pos (by simp only [List.length_singleton]; omega)]
open Bv Crc in
theorem seal_eq (k : Nat) (hk : 5000 ≤ k) (l : List Int) (hl : l.length ≤ 4092) (hb : ∀ c ∈ l, isByte c) : m52F k l = some (l ++ seal4 (sum32 l), 0) := by
  have hl0 : ¬ ((l.length : Int) > 4092) := by omega
  simp only [m52F, m52X, ltI_eq, eqI_eq, decide_eq_true_eq]
  rw [if_neg (by omega), sum32_eq k hk l (by omega) hb, Option.bind_some]
  simp only [decide_true, Bool.not_true, Bool.false_eq_true, if_false]
  rw [clone_eq k l (by omega), Option.bind_some]
  generalize sum32 l = s
  obtain ⟨n, hn⟩ : ∃ n, k = n + 1 + 1 + 1 + 1 + 1 := ⟨k - 5, by omega⟩
  have e0 : (u s : Int) = u (s >>> 0) := by rw [BitVec.ushiftRight_zero]
  have hF : m52F17 k k (u s) 0 l = some (l ++ seal4 s, 0) := by
    have key : ∀ m, m = n + 1 + 1 + 1 + 1 + 1 → m52F17 k m (u s) 0 l = some (l ++ seal4 s, 0) := fun m hm => by
      rw [hm, e0]
      have s0 := seal_step k (n + 1 + 1 + 1 + 1) s l 0 (by omega) (by omega) 0
      have s1 := seal_step k (n + 1 + 1 + 1) s (l ++ [u (s >>> 0) % 256]) 1 (by omega) (by simp; omega) 8
      have s2 := seal_step k (n + 1 + 1) s (l ++ [u (s >>> 0) % 256] ++ [u (s >>> 8) % 256]) 2 (by omega) (by simp; omega) 16
      have s3 := seal_step k (n + 1) s (l ++ [u (s >>> 0) % 256] ++ [u (s >>> 8) % 256] ++ [u (s >>> 16) % 256]) 3 (by omega) (by simp; omega) 24
      refine s0.trans (s1.trans (s2.trans (s3.trans ?_)))
      have ef : l ++ [u (s >>> 0) % 256] ++ [u (s >>> 8) % 256] ++ [u (s >>> 16) % 256] ++ [u (s >>> 24) % 256] = l ++ seal4 s := by
        unfold seal4
        rw [BitVec.ushiftRight_zero]
        simp only [List.append_assoc, List.cons_append, List.nil_append]
      rw [ef, m52F17, m52X17]
      simp only [ltI_eq, decide_eq_true_eq]
      rw [if_neg (by omega)]
      simp only [m52F24, m52X24]
      rw [clone_eq k _ (by rw [List.length_append, seal4_length]; omega), Option.bind_some]
    exact key k hn
  exact hF
open Bv Crc in
theorem sum_u_seal (l : List Int) : (l ++ seal4 (sum32 l)).length = l.length + 4 := by rw [List.length_append, seal4_length]

theorem equal_loop (k : Nat) (a b : List Int) (hl : a.length ≤ 5000) (he : a.length = b.length) : ∀ (ra rb pa pb : List Int) (j : Nat), a = pa ++ ra → b = pb ++ rb → pa.length = pb.length → ra.length < j →
    m53F9 k j a b (a.length : Int) (pa.length : Int) = some (decide (ra = rb)) := by
  intro ra
  induction ra with
  | nil =>
    intro rb pa pb j ha hb hp hj
    obtain ⟨j, rfl⟩ : ∃ i, j = i + 1 := ⟨j - 1, by simp only [List.length_nil] at hj; omega⟩
    have h1 : a.length = pa.length := by rw [ha]; simp
    have h2 : b.length = pb.length + rb.length := by rw [hb]; simp
    obtain rfl : rb = [] := List.eq_nil_of_length_eq_zero (by omega)
    rw [m53F9, m53X9]
    simp only [leI_eq, ltI_eq, eqI_eq, decide_eq_true_eq, if_neg (show ¬ (pa.length : Int) < (a.length : Int) by omega), decide_true]
  | cons x ra ih =>
    intro rb pa pb j ha hb hp hj
    obtain ⟨j, rfl⟩ : ∃ i, j = i + 1 := ⟨j - 1, by omega⟩
    have h1 : a.length = pa.length + (ra.length + 1) := by rw [ha]; simp
    have h2 : b.length = pb.length + rb.length := by rw [hb]; simp
    cases rb with
    | nil => simp only [List.length_nil] at h2; omega
    | cons y rb =>
      simp only [List.length_cons] at h2 hj
      have e1 : a.getD (Int.toNat (pa.length : Int)) 0 = x := by rw [ha]; exact gd_at pa ra x 0
      have e2 : b.getD (Int.toNat (pa.length : Int)) 0 = y := by rw [hb]; exact gd_at' pb rb y 0 pa.length hp.symm
      have c1 : (pa.length : Int) < (a.length : Int) := by omega
      have c2 : (0 : Int) ≤ (pa.length : Int) := by omega
      have c3 : (pa.length : Int) < (b.length : Int) := by omega
      rw [m53F9, m53X9]
      simp only [leI_eq, ltI_eq, eqI_eq, decide_eq_true_eq, if_pos c1, if_pos c2, if_pos c3, e1, e2, w64s (show pa.length < 9223372036854775807 by omega)]
      by_cases hxy : x = y
      · subst hxy
        have := ih rb (pa ++ [x]) (pb ++ [x]) j (by rw [ha]; simp) (by rw [hb]; simp) (by simp [hp]) (by omega)
        rw [List.length_append, List.length_singleton] at this
        simp only [decide_true, Bool.not_true, Bool.false_eq_true, if_false]
        rw [this]
        simp
      · simp [hxy]
theorem equal_eq (k : Nat) (hk : 5001 ≤ k) (a b : List Int) (hl : a.length ≤ 5000) : m53F k a b = some (decide (a = b)) := by
  simp only [m53F, m53X]
  by_cases he : a.length = b.length
  · have := equal_loop k a b hl he a b [] [] k rfl rfl rfl (by omega)
    simp only [List.length_nil] at this
    simp only [he, eqI_eq, decide_true, Bool.not_true, Bool.false_eq_true, if_false]
    rw [← he]
    exact this
  · have : ¬ ((a.length : Int) = (b.length : Int)) := by omega
    have h2 : ¬ a = b := fun h => he (by rw [h])
    simp [eqI_eq, this, h2]

open Bv Crc in
/-- Is the last of it the sum of what is ahead? -/
def isSealed (l : List Int) : Bool := decide (4 ≤ l.length) && decide (l.take (l.length - 4) ++ seal4 (sum32 (l.take (l.length - 4))) = l)
open Bv Crc in
theorem sealed_eq (k : Nat) (hk : 5001 ≤ k) (l : List Int) (hl : l.length ≤ 4096) (hb : ∀ c ∈ l, isByte c) : m42F k l = some (isSealed l, 0) := by
  simp only [m42F, m42X, ltI_eq, leI_eq, eqI_eq, decide_eq_true_eq]
  rw [if_neg (by omega)]
  by_cases h : l.length < 4
  · rw [if_pos (by omega)]
    unfold isSealed
    rw [decide_eq_false (show ¬ 4 ≤ l.length by omega), Bool.false_and]
  · have w : wr .i64 ((l.length : Int) - 4) = ((l.length - 4 : Nat) : Int) := by rw [w64 (by omega) (by omega)]; omega
    have hb' : ∀ c ∈ l.take (l.length - 4), isByte c := fun c hc => hb c (List.mem_of_mem_take hc)
    have hl' : (l.take (l.length - 4)).length ≤ 4092 := by rw [List.length_take]; omega
    rw [if_neg (by omega), w, if_pos (by omega), if_pos (by omega), Int.toNat_natCast, seal_eq k (by omega) _ hl' hb', Option.bind_some]
    simp only [if_true]
    rw [equal_eq k hk _ l (by rw [List.length_append, seal4_length]; omega), Option.bind_some]
    unfold isSealed
    rw [decide_eq_true (show 4 ≤ l.length by omega), Bool.true_and]

open Crc Be Bv in
theorem isSealed_seal (t : List Int) : isSealed (t ++ seal4 (sum32 t)) = true := by
  unfold isSealed
  have h : (t ++ seal4 (sum32 t)).length - 4 = t.length := by rw [List.length_append, seal4_length]; omega
  rw [h, List.take_left, decide_eq_true (show 4 ≤ (t ++ seal4 (sum32 t)).length by rw [List.length_append, seal4_length]; omega)]
  simp
open Crc Be in
theorem drop_take_mid {α : Type} (a b c : List α) : ((a ++ b ++ c).take (a.length + b.length)).drop a.length = b := by
  rw [List.append_assoc, ← List.append_assoc a b c, show a.length + b.length = (a ++ b).length by rw [List.length_append], List.take_left, List.drop_left]

open Be in
theorem p2_256 (s : Nat) (h : s ≤ 4) : p2 (min (Int.toNat (wr .i64 (8 * (s : Int)))) 64) = ((256 ^ s : Nat) : Int) := by
  obtain rfl | rfl | rfl | rfl | rfl : s = 0 ∨ s = 1 ∨ s = 2 ∨ s = 3 ∨ s = 4 := by omega
  all_goals decide +kernel
open Be in
theorem put_loop (k : Nat) (n : Int) : ∀ (s : Nat) (acc : List Int) (m : Nat), s ≤ 4 → s < m → acc.length + s ≤ 4200 → m58F15 k m n ((s : Int) - 1) acc = some (acc ++ be s n, 0) := by
  intro s
  induction s with
  | zero =>
    intro acc m _ hm h
    obtain ⟨m, rfl⟩ : ∃ x, m = x + 1 := ⟨m - 1, by omega⟩
    rw [m58F15, m58X15]
    simp only [leI_eq, decide_eq_true_eq]
    rw [if_neg (by omega)]
    simp only [m58F20, m58X20]
    rw [clone_eq k acc (by omega), Option.bind_some, be, List.append_nil]
  | succ s ih =>
    intro acc m hs hm h
    obtain ⟨m, rfl⟩ : ∃ x, m = x + 1 := ⟨m - 1, by omega⟩
    have w0 : ((s + 1 : Nat) : Int) - 1 = (s : Int) := by omega
    have w2 : wr .i64 ((s : Int) - 1) = (s : Int) - 1 := w64 (by omega) (by omega)
    have w1 : (0 : Int) ≤ wr .i64 (8 * (s : Int)) := by rw [w64 (by omega) (by omega)]; omega
    rw [m58F15, m58X15]
    simp only [leI_eq, decide_eq_true_eq, w0, w2, one_set, p2_256 s (by omega), if_pos w1, if_pos (show (s : Int) ≥ 0 by omega), wu8]
    rw [if_pos (by simp only [List.length_singleton]; omega), ih _ m (by omega) (by omega) (by simp; omega), be, List.append_assoc]
    rfl
open Be in
theorem put_eq (k : Nat) (hk : 10 ≤ k) (l : List Int) (n : Int) (s : Nat) (h1 : 1 ≤ s) (h4 : s ≤ 4) (hl : l.length + s ≤ 4096) (h0 : 0 ≤ n) (hn : n < ((256 ^ s : Nat) : Int)) : m58F k l n (s : Int) = some (l ++ be s n, 0) := by
  have w1 : (0 : Int) ≤ wr .i64 (8 * (s : Int)) := by rw [w64 (by omega) (by omega)]; omega
  have w2 : wr .i64 (4096 - (s : Int)) = 4096 - (s : Int) := w64 (by omega) (by omega)
  have w3 : wr .i64 ((s : Int) - 1) = (s : Int) - 1 := w64 (by omega) (by omega)
  have hp : ((256 ^ s : Nat) : Int) ≤ 4294967296 := by
    have : 256 ^ s ≤ 256 ^ 4 := Nat.pow_le_pow_right (by decide) h4
    omega
  have w4 : wr .i64 (1 * ((256 ^ s : Nat) : Int)) = ((256 ^ s : Nat) : Int) := by
    generalize ((256 ^ s : Nat) : Int) = q at hp hn
    rw [w64 (by omega) (by omega)]
    omega
  simp only [m58F, m58X, leI_eq, ltI_eq, decide_eq_true_eq, p2_256 s h4, w2, w3, w4, if_pos w1]
  generalize ((256 ^ s : Nat) : Int) = q at hp hn
  rw [if_neg (by omega), if_neg (by omega), if_neg (by omega), if_neg (by omega), if_neg (by omega), clone_eq k l (by omega), Option.bind_some]
  exact put_loop k n s l k h4 (by omega) (by omega)
open Be in
theorem put_bad (k : Nat) (l : List Int) (n : Int) (s : Nat) (h1 : 1 ≤ s) (h4 : s ≤ 4) (hn : n < 0 ∨ ((256 ^ s : Nat) : Int) ≤ n) : m58F k l n (s : Int) = some ([], 1) := by
  have w1 : (0 : Int) ≤ wr .i64 (8 * (s : Int)) := by rw [w64 (by omega) (by omega)]; omega
  have hp : ((256 ^ s : Nat) : Int) ≤ 4294967296 := by
    have : 256 ^ s ≤ 256 ^ 4 := Nat.pow_le_pow_right (by decide) h4
    omega
  have hq : (0 : Int) ≤ ((256 ^ s : Nat) : Int) := Int.natCast_nonneg _
  have w4 : wr .i64 (1 * ((256 ^ s : Nat) : Int)) = ((256 ^ s : Nat) : Int) := by
    generalize ((256 ^ s : Nat) : Int) = q at hp hn hq
    rw [w64 (by omega) (by omega)]
    omega
  simp only [m58F, m58X, leI_eq, ltI_eq, decide_eq_true_eq, p2_256 s h4, w4, if_pos w1]
  generalize ((256 ^ s : Nat) : Int) = q at hp hn hq
  rw [if_neg (by omega), if_neg (by omega)]
  by_cases h : n < 0
  · rw [if_pos (by omega)]
  · rw [if_neg (by omega), if_pos (by omega)]

open Be Crc in
theorem num_snoc (pre : List Int) (x : Int) : num (pre ++ [x]) = num pre * 256 + x := by unfold num; rw [List.foldl_append]; rfl
open Be Crc in
theorem num_or (pre : List Int) (x : Int) (hp3 : pre.length ≤ 3) (hb : ∀ c ∈ pre, isByte c) (hx : isByte x) : Go.bits .or .i64 (wr .i64 (num pre * 256)) (wr .i64 x) = num (pre ++ [x]) := by
  have hp := num_bound pre hb
  have hq : ((256 ^ pre.length : Nat) : Int) ≤ 16777216 := by
    have : 256 ^ pre.length ≤ 256 ^ 3 := Nat.pow_le_pow_right (by decide) (by omega)
    omega
  unfold isByte at hx
  generalize ((256 ^ pre.length : Nat) : Int) = q at hp hq
  rw [w64 (by omega) (by omega), w64 (by omega) (by omega), num_snoc]
  obtain ⟨a, ha⟩ := Int.eq_ofNat_of_zero_le hp.1
  obtain ⟨b, hb'⟩ := Int.eq_ofNat_of_zero_le hx.1
  rw [ha] at hp ⊢
  subst hb'
  have := orN (a * 256) b (by omega) (by omega)
  rw [Int.natCast_mul] at this
  exact this.trans (by rw [or_byte a b (by omega)]; omega)
open Be Crc in
theorem get_loop (k : Nat) (l : List Int) (hl : l.length ≤ 4) : ∀ (rest pre : List Int) (n : Nat), l = pre ++ rest → (∀ c ∈ l, isByte c) → rest.length < n →
    m43F15 k n (num pre) l (l.length : Int) (pre.length : Int) = some (num l, 0) := by
  intro rest
  induction rest with
  | nil =>
    intro pre n h _ hn
    obtain ⟨n, rfl⟩ : ∃ x, n = x + 1 := ⟨n - 1, by simp only [List.length_nil] at hn; omega⟩
    rw [List.append_nil] at h
    subst h
    rw [m43F15, m43X15]
    simp only [ltI_eq, decide_eq_true_eq]
    rw [if_neg (by omega)]
    rfl
  | cons x rest ih =>
    intro pre n h hb hn
    obtain ⟨n, rfl⟩ : ∃ x, n = x + 1 := ⟨n - 1, by omega⟩
    have h1 : l.length = pre.length + (rest.length + 1) := by rw [h]; simp
    have e1 : l.getD (Int.toNat (pre.length : Int)) 0 = x := by rw [h]; exact gd_at pre rest x 0
    have hx : isByte x := hb x (by rw [h]; simp)
    have e2 := num_or pre x (by omega) (fun c hc => hb c (by rw [h]; simp [hc])) hx
    rw [m43F15, m43X15]
    simp only [leI_eq, ltI_eq, decide_eq_true_eq, if_pos (show (pre.length : Int) < (l.length : Int) by omega), if_pos (show (0 : Int) ≤ (pre.length : Int) by omega), if_pos (show (0 : Int) ≤ 8 by decide), e1, e2, w64s (show pre.length < 9223372036854775807 by omega)]
    have := ih (pre ++ [x]) n (by rw [h]; simp) hb (by simp only [List.length_cons] at hn; omega)
    rw [List.length_append, List.length_singleton] at this
    exact this
open Be Crc in
theorem get_eq (k : Nat) (hk : 10 ≤ k) (l : List Int) (at_ s : Nat) (h1 : 1 ≤ s) (h4 : s ≤ 4) (hl : at_ + s ≤ l.length) (hm : l.length ≤ 5000) (hb : ∀ c ∈ l, isByte c) :
    m43F k l (at_ : Int) (s : Int) = some (num ((l.take (at_ + s)).drop at_), 0) := by
  have w1 : wr .i64 ((l.length : Int) - (at_ : Int)) = (l.length : Int) - (at_ : Int) := w64 (by omega) (by omega)
  have w2 : wr .i64 ((at_ : Int) + (s : Int)) = ((at_ + s : Nat) : Int) := by rw [w64 (by omega) (by omega)]; omega
  simp only [m43F, m43X, leI_eq, ltI_eq, decide_eq_true_eq, w1, w2, Int.toNat_natCast]
  rw [if_neg (by omega), if_neg (by omega), if_neg (by omega), if_neg (by omega), if_neg (by omega), if_pos (by omega), if_pos (by omega), if_pos (by omega), if_pos (by omega)]
  have hlen : ((l.take (at_ + s)).drop at_).length = s := by rw [List.length_drop, List.length_take]; omega
  exact get_loop k _ (by omega) _ [] k rfl (fun c hc => hb c (List.mem_of_mem_take (List.mem_of_mem_drop hc))) (by omega)

open Be in
theorem p2_256u (s : Nat) (h : s ≤ 4) : p2 (min (Int.toNat (wr .u64 (wr .i64 (8 * (s : Int))))) 64) = ((256 ^ s : Nat) : Int) := by
  obtain rfl | rfl | rfl | rfl | rfl : s = 0 ∨ s = 1 ∨ s = 2 ∨ s = 3 ∨ s = 4 := by omega
  all_goals decide +kernel
open Be in
theorem be13_loop (k : Nat) (n : Int) : ∀ (s : Nat) (acc : List Int) (m : Nat), s ≤ 4 → s < m → acc.length + s ≤ 4200 → m23F7 k m n ((s : Int) - 1) acc = some (acc ++ be s n) := by
  intro s
  induction s with
  | zero =>
    intro acc m _ hm h
    obtain ⟨m, rfl⟩ : ∃ x, m = x + 1 := ⟨m - 1, by omega⟩
    rw [m23F7, m23X7]
    simp only [leI_eq, decide_eq_true_eq]
    rw [if_neg (by omega), be, List.append_nil]
  | succ s ih =>
    intro acc m hs hm h
    obtain ⟨m, rfl⟩ : ∃ x, m = x + 1 := ⟨m - 1, by omega⟩
    have w0 : ((s + 1 : Nat) : Int) - 1 = (s : Int) := by omega
    have w2 : wr .i64 ((s : Int) - 1) = (s : Int) - 1 := w64 (by omega) (by omega)
    have w1 : (0 : Int) ≤ wr .u64 (wr .i64 (8 * (s : Int))) := by rw [w64 (by omega) (by omega), wu64 (by omega) (by omega)]; omega
    rw [m23F7, m23X7]
    simp only [leI_eq, decide_eq_true_eq, w0, w2, one_set, p2_256u s (by omega), if_pos w1, wu8]
    rw [if_pos (by omega), if_pos (by simp only [List.length_singleton]; omega), ih _ m (by omega) (by omega) (by simp; omega), be, List.append_assoc]
    rfl
open Be in
theorem be13_eq (k : Nat) (hk : 10 ≤ k) (n : Int) (s : Nat) (h4 : s ≤ 4) : m23F k n (s : Int) = some (be s n) := by
  have w3 : wr .i64 ((s : Int) - 1) = (s : Int) - 1 := w64 (by omega) (by omega)
  simp only [m23F, m23X, w3]
  exact be13_loop k n s [] k h4 (by omega) (by simp; omega)

open Bv in
theorem shr_u8 (c j : Nat) (hj : j < 8) : (c : Int) / p2 (min (Int.toNat (wr .u64 (j : Int))) 8) = ((c / 2 ^ j : Nat) : Int) := by
  rw [wu64 (by omega) (by omega), Int.toNat_natCast, Nat.min_eq_left (by omega)]
  unfold p2
  exact (Int.natCast_ediv ..).symm

theorem twin_eq (k : Nat) (l : List Int) (h : l.length ≤ 5000) : m21F k l = some l := by
  simp only [m21F, m21X, leI_eq, decide_eq_true_eq]
  rw [if_pos (by omega)]

open Bv Crc in
theorem shift32_eq (k : Nat) (r : BitVec 32) (b : Nat) (hb : b < 2) : m51F k (u r) (b : Int) = some (u (L (r ^^^ BitVec.ofNat 32 b))) := by
  have e : Go.bits .and .i64 (u r) 1 = ((r.toNat % 2 : Nat) : Int) := and1 r.toNat (lt63 (by decide) r)
  have hx : (r ^^^ BitVec.ofNat 32 b).toNat = r.toNat ^^^ b := by rw [BitVec.toNat_xor, BitVec.toNat_ofNat, Nat.mod_eq_of_lt (by omega)]
  have hm : (r ^^^ BitVec.ofNat 32 b).toNat % 2 = (r.toNat % 2 + b) % 2 := by
    rw [hx, show (r.toNat ^^^ b) % 2 = (r.toNat % 2 + b % 2) % 2 from Pop.xor_mod2 _ _, Nat.mod_eq_of_lt hb]
  have hs : (r ^^^ BitVec.ofNat 32 b) >>> 1 = r >>> 1 := by
    apply BitVec.eq_of_getLsbD_eq
    intro i hi
    rw [BitVec.getLsbD_ushiftRight, BitVec.getLsbD_ushiftRight, BitVec.getLsbD_xor, BitVec.getLsbD_ofNat, Nat.testBit_lt_two_pow (Nat.lt_of_lt_of_le hb (Nat.pow_le_pow_right (n := 2) (i := 1) (by decide) (by omega)))]
    simp
  simp only [m51F, m51X, eqI_eq, e, leI_eq, decide_eq_true_eq, if_pos (show (0 : Int) ≤ 1 by decide)]
  by_cases h : r.toNat % 2 = b
  · have h' : ((r.toNat % 2 : Nat) : Int) = (b : Int) := by omega
    rw [L_even (by rw [hm]; omega), hs]
    simp only [h', decide_true, Bool.not_true, Bool.false_eq_true, if_false, shr1]
  · have h' : ¬ ((r.toNat % 2 : Nat) : Int) = (b : Int) := by omega
    rw [L_odd (by rw [hm]; omega), hs]
    simp only [h', decide_false, Bool.not_false, if_true, shr1]
    have := xor_u (by decide) (r >>> 1) 3988292384#32
    rw [← this]
    rfl
open Bv Crc in
theorem ref32_inner (k : Nat) (L7 : List Int → Int → Int → Option Int) (l : List Int) (i c : Nat) (hc : c < 256) (hi : i < l.length) (hl : l.length ≤ 5000) (hr : l.getD (Int.toNat (i : Int)) 0 = (c : Int)) (X : Option Int) : ∀ (d j n : Nat) (r : BitVec 32), j + d = 8 → d < n →
    L7 l (u (fd32 r ((List.range' j d).map (fun j => BitVec.ofNat 32 (c / 2 ^ j % 2))))) ((i + 1 : Nat) : Int) = X → m41F13 k L7 n l (u r) (i : Int) (j : Int) = X := by
  intro d
  induction d with
  | zero =>
    intro j n r hj hn R
    obtain ⟨n, rfl⟩ : ∃ x, n = x + 1 := ⟨n - 1, by omega⟩
    rw [m41F13, m41X13]
    simp only [ltI_eq, decide_eq_true_eq]
    rw [if_neg (by omega)]
    simp only [m41F8, m41X8, w64s (show i < 9223372036854775807 by omega)]
    exact R
  | succ d ih =>
    intro j n r hj hn R
    obtain ⟨n, rfl⟩ : ∃ x, n = x + 1 := ⟨n - 1, by omega⟩
    have hd : c / 2 ^ j ≤ c := Nat.div_le_self _ _
    have hu : (0 : Int) ≤ wr .u64 (j : Int) := by rw [wu64 (by omega) (by omega)]; omega
    rw [m41F13, m41X13]
    simp only [leI_eq, ltI_eq, decide_eq_true_eq, if_pos (show (j : Int) < 8 by omega), if_pos (show (0 : Int) ≤ (i : Int) by omega), if_pos (show (i : Int) < (l.length : Int) by omega), if_pos hu, hr, shr_u8 c j (by omega), w64n (show c / 2 ^ j < 9223372036854775808 by omega), Bv.and1 (c / 2 ^ j) (by omega), w64s (show j < 9223372036854775807 by omega)]
    rw [shift32_eq k r (c / 2 ^ j % 2) (by omega), Option.bind_some]
    rw [List.range'_succ, List.map_cons] at R
    exact ih (j + 1) n _ (by omega) (by omega) R
open Bv Crc in
theorem ref32_loop (k : Nat) (hk : 10 ≤ k) (l : List Int) (hl : l.length ≤ 4096) : ∀ (rest pre : List Int) (n : Nat) (r : BitVec 32), l = pre ++ rest → (∀ c ∈ rest, isByte c) → rest.length < n →
    m41F7 k n l (u r) (pre.length : Int) = some (u (reg32 r rest ^^^ ones32)) := by
  intro rest
  induction rest with
  | nil =>
    intro pre n r h _ hn
    obtain ⟨n, rfl⟩ : ∃ x, n = x + 1 := ⟨n - 1, by simp only [List.length_nil] at hn; omega⟩
    have hlen : l.length = pre.length := by rw [h]; simp
    have := xor_u (by decide) r ones32
    rw [m41F7, m41X7]
    simp only [ltI_eq, decide_eq_true_eq]
    rw [if_neg (by omega)]
    simp only [m41F18, m41X18, reg_nil]
    rw [← this]
    rfl
  | cons c rest ih =>
    intro pre n r h hb hn
    obtain ⟨n, rfl⟩ : ∃ x, n = x + 1 := ⟨n - 1, by omega⟩
    have hlen : l.length = pre.length + (rest.length + 1) := by rw [h]; simp
    have hcb := hb c (by simp)
    have h0 := hcb.1
    have h1 := hcb.2
    have hp : l.getD (Int.toNat (pre.length : Int)) 0 = ((c.toNat : Nat) : Int) := by rw [h, gd_at pre rest c 0]; omega
    rw [m41F7, m41X7]
    simp only [ltI_eq, decide_eq_true_eq]
    rw [if_pos (by omega)]
    refine ref32_inner k _ l pre.length c.toNat (by omega) (by omega) (by omega) hp _ 8 0 k r rfl (by omega) ?_
    have hby := fd32_byte r c hcb
    unfold bits32 at hby
    rw [hby]
    have := ih (pre ++ [c]) n (step32 r c) (by rw [h]; simp) (fun y hy => hb y (by simp [hy])) (by simp only [List.length_cons] at hn; omega)
    rw [List.length_append, List.length_singleton] at this
    exact this
open Bv Crc in
theorem ref32_eq (k : Nat) (hk : 5000 ≤ k) (l : List Int) (hl : l.length ≤ 4096) (hb : ∀ c ∈ l, isByte c) : m41F k l = some (u (sum32 l)) := by
  simp only [m41F, m41X]
  exact ref32_loop k (by omega) l hl l [] k ones32 rfl hb (by omega)

theorem bytes_loop (k : Nat) (a b : List Int) (hl : a.length ≤ 5000) (he : a.length = b.length) : ∀ (ra rb pa pb : List Int) (j : Nat), a = pa ++ ra → b = pb ++ rb → pa.length = pb.length → ra.length < j →
    m22F9 k j a b (pa.length : Int) = some (decide (ra = rb)) := by
  intro ra
  induction ra with
  | nil =>
    intro rb pa pb j ha hb hp hj
    obtain ⟨j, rfl⟩ : ∃ i, j = i + 1 := ⟨j - 1, by simp only [List.length_nil] at hj; omega⟩
    have h1 : a.length = pa.length := by rw [ha]; simp
    have h2 : b.length = pb.length + rb.length := by rw [hb]; simp
    obtain rfl : rb = [] := List.eq_nil_of_length_eq_zero (by omega)
    rw [m22F9, m22X9]
    simp only [leI_eq, ltI_eq, eqI_eq, decide_eq_true_eq, if_neg (show ¬ (pa.length : Int) < (a.length : Int) by omega), decide_true]
  | cons x ra ih =>
    intro rb pa pb j ha hb hp hj
    obtain ⟨j, rfl⟩ : ∃ i, j = i + 1 := ⟨j - 1, by omega⟩
    have h1 : a.length = pa.length + (ra.length + 1) := by rw [ha]; simp
    have h2 : b.length = pb.length + rb.length := by rw [hb]; simp
    cases rb with
    | nil => simp only [List.length_nil] at h2; omega
    | cons y rb =>
      simp only [List.length_cons] at h2 hj
      have e1 : a.getD (Int.toNat (pa.length : Int)) 0 = x := by rw [ha]; exact gd_at pa ra x 0
      have e2 : b.getD (Int.toNat (pa.length : Int)) 0 = y := by rw [hb]; exact gd_at' pb rb y 0 pa.length hp.symm
      have c1 : (pa.length : Int) < (a.length : Int) := by omega
      have c2 : (0 : Int) ≤ (pa.length : Int) := by omega
      have c3 : (pa.length : Int) < (b.length : Int) := by omega
      rw [m22F9, m22X9]
      simp only [leI_eq, ltI_eq, eqI_eq, decide_eq_true_eq, if_pos c1, if_pos c2, if_pos c3, e1, e2, w64s (show pa.length < 9223372036854775807 by omega)]
      by_cases hxy : x = y
      · subst hxy
        have := ih rb (pa ++ [x]) (pb ++ [x]) j (by rw [ha]; simp) (by rw [hb]; simp) (by simp [hp]) (by omega)
        rw [List.length_append, List.length_singleton] at this
        simp only [decide_true, Bool.not_true, Bool.false_eq_true, if_false]
        rw [this]
        simp
      · simp [hxy]
theorem bytes_eq' (k : Nat) (hk : 5001 ≤ k) (a b : List Int) (hl : a.length ≤ 5000) : m22F k a b = some (decide (a = b)) := by
  simp only [m22F, m22X]
  by_cases he : a.length = b.length
  · have := bytes_loop k a b hl he a b [] [] k rfl rfl rfl (by omega)
    simp only [List.length_nil] at this
    simp only [he, eqI_eq, decide_true, Bool.not_true, Bool.false_eq_true, if_false]
    exact this
  · have : ¬ ((a.length : Int) = (b.length : Int)) := by omega
    have h2 : ¬ a = b := fun h => he (by rw [h])
    simp [eqI_eq, this, h2]

open Bv Crc in
theorem refseal_eq (k : Nat) (hk : 5000 ≤ k) (l : List Int) (hl : l.length ≤ 4092) (hb : ∀ c ∈ l, isByte c) : m24F k l = some (l ++ seal4 (sum32 l)) := by
  simp only [m24F, m24X, leI_eq, decide_eq_true_eq]
  rw [ref32_eq k hk l (by omega) hb, Option.bind_some, twin_eq k l (by omega), Option.bind_some]
  generalize sum32 l = s
  have e : List.set (List.set (List.set (List.set (List.replicate 4 0) 0 (wr .u8 (u s))) 1 (wr .u8 (u s / 256))) 2 (wr .u8 (u s / 65536))) 3 (wr .u8 (u s / 16777216)) = seal4 s := by
    unfold seal4
    have e1 : u s / (65536 : Int) = u (s >>> 16) := shr_pow s 16
    have e2 : u s / (16777216 : Int) = u (s >>> 24) := shr_pow s 24
    rw [← e1, ← e2, ← shr8]
    rfl
  simp only [e, if_pos (show (0 : Int) ≤ 8 by decide), if_pos (show (0 : Int) ≤ 16 by decide), if_pos (show (0 : Int) ≤ 24 by decide)]
  rw [if_pos (by rw [seal4_length]; omega)]

open Crc Be in
def ackHead (n b : Int) : List Int := 65 :: (be 4 n ++ be 4 b)
open Crc Be in
theorem ackHead_length (n b : Int) : (ackHead n b).length = 9 := by
  unfold ackHead
  rw [List.length_cons, List.length_append, be_length, be_length]
open Crc Be in
theorem ackHead_bytes (n b : Int) : ∀ c ∈ ackHead n b, isByte c := by
  unfold ackHead
  intro c hc
  rcases List.mem_cons.1 hc with rfl | hc
  · exact ⟨by omega, by omega⟩
  · rcases List.mem_append.1 hc with hc | hc
    · exact be_bytes 4 n c hc
    · exact be_bytes 4 b c hc
open Crc Be in
def ackPack (n b : Int) : List Int := ackHead n b ++ seal4 (sum32 (ackHead n b))
open Crc Be in
theorem ackPack_length (n b : Int) : (ackPack n b).length = 13 := by
  unfold ackPack
  rw [List.length_append, ackHead_length, seal4_length]
open Crc Be in
theorem ackPack_bytes (n b : Int) : ∀ c ∈ ackPack n b, isByte c := by
  unfold ackPack
  intro c hc
  rcases List.mem_append.1 hc with hc | hc
  · exact ackHead_bytes n b c hc
  · exact seal4_bytes _ c hc
open Crc Be in
/-- What bytes are read as. -/
def ackRead (l : List Int) : (Int × Int) × Int :=
  if l.length ≠ 13 then ((0, 0), 2) else if l.getD 0 0 ≠ 65 then ((0, 0), 12) else if isSealed l = false then ((0, 0), 4)
  else if 1073741824 < num ((l.take 5).drop 1) then ((0, 0), 1) else ((num ((l.take 5).drop 1), num ((l.take 9).drop 5)), 0)
open Crc Be in
theorem ackRead_eq (k : Nat) (hk : 5001 ≤ k) (l : List Int) (hl : l.length ≤ 4096) (hb : ∀ c ∈ l, isByte c) : m27F k l = some (ackRead l) := by
  simp only [m27F, m27X, ltI_eq, leI_eq, eqI_eq, decide_eq_true_eq]
  unfold ackRead
  by_cases h13 : l.length = 13
  · have h13' : (l.length : Int) = 13 := by omega
    simp only [h13', decide_true, Bool.not_true, Bool.false_eq_true, if_false, if_pos (show (0 : Int) ≤ 0 by decide), if_pos (show (0 : Int) < 13 by decide), h13, ne_eq, not_true_eq_false]
    by_cases hk0 : l.getD 0 0 = 65
    · simp only [hk0, decide_true, Bool.not_true, Bool.false_eq_true, if_false, not_true_eq_false, sealed_eq k hk l hl hb, Option.bind_some]
      by_cases hs : isSealed l = true
      · have g1 := get_eq k (by omega) l 1 4 (by omega) (by omega) (by omega) (by omega) hb
        have g2 := get_eq k (by omega) l 5 4 (by omega) (by omega) (by omega) (by omega) hb
        have g1' : m43F k l 1 4 = some (num ((l.take 5).drop 1), 0) := g1
        have g2' : m43F k l 5 4 = some (num ((l.take 9).drop 5), 0) := g2
        simp only [hs, Bool.not_true, Bool.false_eq_true, if_false, g1', g2', Option.bind_some]
        have n2 := num_bound ((l.take 9).drop 5) (fun c hc => hb c (List.mem_of_mem_take (List.mem_of_mem_drop hc)))
        have n3 : ((l.take 9).drop 5).length = 4 := by rw [List.length_drop, List.length_take]; omega
        rw [n3] at n2
        have n4 : wr .u32 (num ((l.take 9).drop 5)) = num ((l.take 9).drop 5) := by
          rw [wu32]
          omega
        rw [n4]
        by_cases h2 : 1073741824 < num ((l.take 5).drop 1)
        · rw [if_pos h2, if_pos h2]
          simp
        · rw [if_neg h2, if_neg h2]
          simp
      · have hs' : isSealed l = false := by simpa using hs
        simp [hs']
    · simp only [hk0, decide_false, Bool.not_false, if_true, not_false_eq_true]
      simp
  · have h13' : ¬ (l.length : Int) = 13 := by omega
    simp [h13, h13']
open Crc Be in
theorem ackRead_pack (n b : Int) (h0 : 0 ≤ n) (h1 : n ≤ 1073741824) (hb : 0 ≤ b) (hb' : b < 4294967296) : ackRead (ackPack n b) = ((n, b), 0) := by
  have e1 : ((ackPack n b).take 5).drop 1 = be 4 n := by
    have := drop_take_mid [65] (be 4 n) (be 4 b ++ seal4 (sum32 (ackHead n b)))
    rw [be_length] at this
    rw [← this]
    unfold ackPack ackHead
    simp only [List.cons_append, List.nil_append, List.append_assoc]
    rfl
  have e2 : ((ackPack n b).take 9).drop 5 = be 4 b := by
    have := drop_take_mid (65 :: be 4 n) (be 4 b) (seal4 (sum32 (ackHead n b)))
    rw [be_length, List.length_cons, be_length] at this
    rw [← this]
    unfold ackPack ackHead
    simp only [List.cons_append, List.nil_append, List.append_assoc]
  have e3 : (ackPack n b).getD 0 0 = 65 := rfl
  have e4 : isSealed (ackPack n b) = true := isSealed_seal _
  unfold ackRead
  rw [e1, e2, e3, e4, num_be' 4 n h0 (by omega), num_be' 4 b hb (by omega)]
  simp only [ackPack_length, ne_eq, not_true_eq_false, if_false]
  rw [if_neg (show ¬ (true = false) by simp), if_neg (by omega)]
open Crc Be in
theorem refack_eq (k : Nat) (hk : 5001 ≤ k) (n b : Int) (hb : 0 ≤ b) (hb' : b < 4294967296) : m8F k (n, b) = some (ackPack n b) := by
  have q1 : m23F k n 4 = some (be 4 n) := be13_eq k (by omega) n 4 (by omega)
  have q2 : m23F k b 4 = some (be 4 b) := be13_eq k (by omega) b 4 (by omega)
  have s1 := refseal_eq k (by omega) (ackHead n b) (by rw [ackHead_length]; omega) (ackHead_bytes n b)
  have e : [65] ++ be 4 n ++ be 4 b = ackHead n b := by rw [ackHead, List.append_assoc]; rfl
  have hw : wr .i64 b = b := w64 (by omega) (by omega)
  have l1 : (be 4 n).length = 4 := be_length 4 n
  have l2 : (be 4 b).length = 4 := be_length 4 b
  generalize be 4 n = x at q1 e l1
  generalize be 4 b = y at q2 e l2
  have c1 : (((1 + x.length) * 1 : Nat) : Int) ≤ 140737488355328 := by omega
  simp only [m8F, m8X, q1, Option.bind_some, one_set, hw, q2]
  rw [if_pos (leI_pos c1), if_pos (leI_pos (by rw [List.length_append, List.length_singleton]; omega)), e, s1, Option.bind_some, ackPack]
open Bv Crc in
theorem refsealed_eq (k : Nat) (hk : 5001 ≤ k) (l : List Int) (hl : l.length ≤ 4096) (hb : ∀ c ∈ l, isByte c) : m45F k l = some (isSealed l) := by
  simp only [m45F, m45X, leI_eq, decide_eq_true_eq]
  by_cases h : l.length < 4
  · rw [if_neg (by omega)]
    unfold isSealed
    rw [decide_eq_false (show ¬ 4 ≤ l.length by omega), Bool.false_and]
  · have w : wr .i64 ((l.length : Int) - 4) = ((l.length - 4 : Nat) : Int) := by rw [w64 (by omega) (by omega)]; omega
    have hb' : ∀ c ∈ l.take (l.length - 4), isByte c := fun c hc => hb c (List.mem_of_mem_take hc)
    have hl' : (l.take (l.length - 4)).length ≤ 4092 := by rw [List.length_take]; omega
    rw [if_pos (by omega), w, if_pos (by omega), if_pos (by omega), Int.toNat_natCast, refseal_eq k (by omega) _ hl' hb', Option.bind_some]
    rw [bytes_eq' k hk _ l (by rw [List.length_append, seal4_length]; omega), Option.bind_some]
    unfold isSealed
    rw [decide_eq_true (show 4 ≤ l.length by omega), Bool.true_and]

open Be Crc in
theorem num13_loop (k : Nat) (l : List Int) (hl : l.length ≤ 4) : ∀ (rest pre : List Int) (n : Nat), l = pre ++ rest → (∀ c ∈ l, isByte c) → rest.length < n →
    m46F7 k n l (num pre) (pre.length : Int) = some (num l) := by
  intro rest
  induction rest with
  | nil =>
    intro pre n h _ hn
    obtain ⟨n, rfl⟩ : ∃ x, n = x + 1 := ⟨n - 1, by simp only [List.length_nil] at hn; omega⟩
    rw [List.append_nil] at h
    subst h
    rw [m46F7, m46X7]
    simp only [ltI_eq, decide_eq_true_eq]
    rw [if_neg (by omega)]
  | cons x rest ih =>
    intro pre n h hb hn
    obtain ⟨n, rfl⟩ : ∃ x, n = x + 1 := ⟨n - 1, by omega⟩
    have h1 : l.length = pre.length + (rest.length + 1) := by rw [h]; simp
    have e1 : l.getD (Int.toNat (pre.length : Int)) 0 = x := by rw [h]; exact gd_at pre rest x 0
    have hx : isByte x := hb x (by rw [h]; simp)
    have e2 := num_or pre x (by omega) (fun c hc => hb c (by rw [h]; simp [hc])) hx
    rw [m46F7, m46X7]
    simp only [leI_eq, ltI_eq, decide_eq_true_eq, if_pos (show (pre.length : Int) < (l.length : Int) by omega), if_pos (show (0 : Int) ≤ (pre.length : Int) by omega), if_pos (show (0 : Int) ≤ 8 by decide), e1, e2, w64s (show pre.length < 9223372036854775807 by omega)]
    have := ih (pre ++ [x]) n (by rw [h]; simp) hb (by simp only [List.length_cons] at hn; omega)
    rw [List.length_append, List.length_singleton] at this
    exact this
open Be Crc in
theorem num13_eq (k : Nat) (hk : 10 ≤ k) (l : List Int) (hl : l.length ≤ 4) (hb : ∀ c ∈ l, isByte c) : m46F k l = some (num l) :=
  num13_loop k l hl l [] k rfl hb (by omega)

/-! Configurations. -/
theorem and_step {A B : Prop} [Decidable A] [Decidable B] {x : Option Bool} (h : A → x = some (decide B)) : (if decide A = true then x else some false) = some (decide (A ∧ B)) := by
  by_cases hA : A
  · rw [if_pos (decide_eq_true hA), h hA]
    simp [hA]
  · rw [if_neg (by simp [hA])]
    simp [hA]
theorem and_zero {A : Prop} [Decidable A] {x : Option Int} (h : A) (hx : x = some 0) : (if decide A = true then x else some 1) = some 0 := by rw [if_pos (decide_eq_true h), hx]
def within (n a b : Int) : Prop := a ≤ n ∧ n ≤ b
instance (n a b : Int) : Decidable (within n a b) := inferInstanceAs (Decidable (_ ∧ _))
theorem in13_eq (k : Nat) (n a b : Int) : m35F k n a b = some (decide (within n a b)) := by
  simp only [m35F, m35X, leI_eq, within]
  by_cases h : a ≤ n <;> simp [h]
theorem inc_eq (k : Nat) (n a b : Int) : m54F k n a b = some (decide (within n a b)) := by
  simp only [m54F, m54X, leI_eq, within]
  by_cases h : a ≤ n <;> simp [h]
def cfgOk (a b c d e f g h i j : Int) : Prop := within a 1 16 ∧ within b 1 16 ∧ within c 1 3 ∧ within d 1 16 ∧ within e 1 16 ∧ within f 1 16 ∧ within g 1 64 ∧ within h 4 16 ∧ within i 0 200 ∧ within j 0 1073741824
instance (a b c d e f g h i j : Int) : Decidable (cfgOk a b c d e f g h i j) := inferInstanceAs (Decidable (_ ∧ _))
theorem config_eq (k : Nat) (a b c d e f g h i j : Int) : m14F k (a, b, c, d, e, f, g, h, i, j) = some (decide (cfgOk a b c d e f g h i j)) := by
  simp only [m14F, m14X, in13_eq, Option.bind_some]
  exact and_step fun _ => and_step fun _ => and_step fun _ => and_step fun _ => and_step fun _ => and_step fun _ => and_step fun _ => and_step fun _ => and_step fun _ => rfl
theorem check_ok (k : Nat) (a b c d e f g h i j : Int) (ok : cfgOk a b c d e f g h i j) : m48F k (a, b, c, d, e, f, g, h, i, j) = some 0 := by
  obtain ⟨o1, o2, o3, o4, o5, o6, o7, o8, o9, oa⟩ := ok
  simp only [m48F, m48X, inc_eq, Option.bind_some]
  exact and_zero o1 (and_zero o2 (and_zero o3 (and_zero o4 (and_zero o5 (and_zero o6 (and_zero o7 (and_zero o8 (and_zero o9 (and_zero oa rfl)))))))))
/-- So many blocks has a text. -/
def nBlk (B len : Nat) : Nat := if len = 0 then 1 else (len + B - 1) / B
theorem nBlk_pos (B len : Nat) (hB : 1 ≤ B) : 1 ≤ nBlk B len := by
  unfold nBlk
  split
  · exact Nat.le_refl 1
  · exact (Nat.le_div_iff_mul_le hB).2 (by omega)
theorem nBlk_le (B len : Nat) (hB : 1 ≤ B) : nBlk B len ≤ len + 1 := by
  unfold nBlk
  split
  · omega
  · have : (len + B - 1) / B ≤ len := by
      rw [Nat.div_le_iff_le_mul hB]
      have := Nat.le_mul_of_pos_right len hB
      omega
    omega
/-- A block that is one begins within the text. -/
theorem nBlk_lt (B len i : Nat) (hB : 1 ≤ B) (hi : i < nBlk B len) : i * B ≤ len ∧ (0 < len → i * B < len) := by
  unfold nBlk at hi
  split at hi
  · have : i = 0 := by omega
    subst this
    omega
  · have h1 : i + 1 ≤ (len + B - 1) / B := hi
    rw [Nat.le_div_iff_mul_le hB, Nat.add_mul, Nat.one_mul] at h1
    omega
theorem nBlk_end (B len : Nat) (hB : 1 ≤ B) : len ≤ nBlk B len * B := by
  unfold nBlk
  split
  · omega
  · have h1 : (len + B - 1) / B + 1 > (len + B - 1) / B := Nat.lt_succ_self _
    have h2 := Nat.lt_mul_div_succ (len + B - 1) hB
    rw [Nat.mul_add, Nat.mul_one, Nat.mul_comm] at h2
    omega
theorem up_eq (k : Nat) (B len : Nat) (hB : 1 ≤ B) (hB2 : B ≤ 16) (hl : len ≤ 200) (hl0 : len ≠ 0) : m60F k (len : Int) (B : Int) = some (nBlk B len : Int) := by
  have ar : (!eqI (B : Int) 0) = true ∧ wr .i64 ((len : Int) + (B : Int)) = ((len + B : Nat) : Int) ∧ wr .i64 (((len + B : Nat) : Int) - 1) = ((len + B - 1 : Nat) : Int) :=
    ⟨by rw [eqI_neg (by omega)]; rfl, by rw [w64 (by omega) (by omega)]; omega, by rw [w64 (by omega) (by omega)]; omega⟩
  obtain ⟨a1, a2, a3⟩ := ar
  have e : Int.tdiv ((len + B - 1 : Nat) : Int) (B : Int) = (((len + B - 1) / B : Nat) : Int) := by
    rw [Int.tdiv_eq_ediv_of_nonneg (Int.natCast_nonneg _)]
    exact (Int.natCast_ediv _ _).symm
  have hd : (len + B - 1) / B ≤ len + B - 1 := Nat.div_le_self _ _
  have w : wr .i64 (((len + B - 1) / B : Nat) : Int) = (((len + B - 1) / B : Nat) : Int) := by
    clear a2 a3 e
    generalize (len + B - 1) / B = z at hd
    exact w64n (by omega)
  simp only [m60F, m60X, a1, if_true, a2, a3, e, w]
  unfold nBlk
  rw [if_neg hl0]
theorem blocks_eq (k : Nat) (B : Nat) (b c d e f g h i j : Int) (ok : cfgOk (B : Int) b c d e f g h i j) (len : Nat) (hl : len ≤ 200) : m55F k ((B : Int), b, c, d, e, f, g, h, i, j) (len : Int) = some (nBlk B len : Int) := by
  have hB := ok.1
  unfold within at hB
  have z0 : (!eqI 0 0) = false := by rw [eqI_pos rfl]; rfl
  have c0 : ltI (len : Int) 0 = false := ltI_neg (by omega)
  have c1 : ltI 200 (len : Int) = false := ltI_neg (by omega)
  simp only [m55F, m55X, check_ok k _ _ _ _ _ _ _ _ _ _ ok, Option.bind_some, z0, c0, c1, Bool.false_eq_true, if_false]
  by_cases h0 : len = 0
  · subst h0
    rw [if_pos (show eqI ((0 : Nat) : Int) 0 = true from eqI_pos rfl)]
    rfl
  · rw [if_neg (show ¬ (eqI (len : Int) 0 = true) by rw [eqI_neg (by omega)]; simp), up_eq k B len (by omega) (by omega) hl h0]
    rfl

/-! Witnesses: first places. -/
def IsB (l : List Int) : Prop := ∀ c ∈ l, Crc.isByte c
theorem strOf_list (l : List Int) : (strOf l).toList = l.map fun n => UInt8.ofNat n.toNat := by
  rw [ByteArray.toList_eq]
  rfl
theorem strOf_inj {a b : List Int} (ha : IsB a) (hb : IsB b) (h : (strOf a).toList = (strOf b).toList) : a = b := by
  rw [strOf_list, strOf_list] at h
  induction a generalizing b with
  | nil =>
    cases b with
    | nil => rfl
    | cons y b => cases h
  | cons x a ih =>
    cases b with
    | nil => cases h
    | cons y b =>
      rw [List.map_cons, List.map_cons, List.cons.injEq] at h
      have hx := ha x (by simp)
      have hy := hb y (by simp)
      unfold Crc.isByte at hx hy
      have e : x = y := by
        have h1 := congrArg UInt8.toNat h.1
        rw [UInt8.toNat_ofNat', UInt8.toNat_ofNat'] at h1
        omega
      rw [e, ih (fun c hc => ha c (by simp [hc])) (fun c hc => hb c (by simp [hc])) h.2]
theorem equalB (k : Nat) (a b : List Int) (ha : IsB a) (hb : IsB b) : m30F k a b = some (decide (a = b)) := by
  simp only [m30F, m30X]
  by_cases h : a = b
  · rw [h, decide_eq_true rfl]
    simp
  · rw [decide_eq_false h]
    have h2 : ¬ (strOf a).toList = (strOf b).toList := fun e => h (strOf_inj ha hb e)
    simp [h2]
/-- The first place from a number on. -/
def fidx {α : Type} (p : α → Bool) : List α → Nat → Int
  | [], _ => -1
  | x :: l, i => if p x = true then (i : Int) else fidx p l (i + 1)
theorem fidx_any {α : Type} (p : α → Bool) : ∀ (l : List α) (i : Nat), leI 0 (fidx p l i) = l.any p
  | [], i => by rw [fidx, List.any_nil]; exact leI_neg (by decide)
  | x :: l, i => by
    rw [fidx, List.any_cons]
    cases h : p x with
    | true => rw [if_pos rfl]; exact leI_pos (by omega)
    | false => rw [if_neg (by simp), Bool.false_or]; exact fidx_any p l (i + 1)
theorem idx_ar (i n : Nat) (h : i < n) (hn : n ≤ 100000) : ltI (i : Int) (n : Int) = true ∧ leI 0 (i : Int) = true ∧ wr .i64 ((i : Int) + 1) = ((i + 1 : Nat) : Int) := ⟨ltI_pos (by omega), leI_pos (by omega), w64s (by omega)⟩
theorem idxAck_loop (k : Nat) (l : List (List Int)) (f : Bool) (t : List Int) (ht : IsB t) (hl : l.length ≤ 100000) (hb : ∀ x ∈ l, IsB x) : ∀ (rest pre : List (List Int)) (j : Nat), l = pre ++ rest → rest.length < j →
    m44c29F5 k j l f t (l.length : Int) (pre.length : Int) = some (fidx (fun x => decide (x = t)) rest pre.length) := by
  intro rest
  induction rest with
  | nil =>
    intro pre j e hj
    obtain ⟨j, rfl⟩ : ∃ n, j = n + 1 := ⟨j - 1, by omega⟩
    have hlen : l.length = pre.length := by rw [e]; simp
    rw [m44c29F5, m44c29X5, if_neg (by rw [ltI_neg (by omega)]; simp)]
    rfl
  | cons x rest ih =>
    intro pre j e hj
    obtain ⟨j, rfl⟩ : ∃ n, j = n + 1 := ⟨j - 1, by omega⟩
    have hlen : l.length = pre.length + (rest.length + 1) := by rw [e]; simp
    have hx : l.getD (Int.toNat (pre.length : Int)) [] = x := by rw [e]; exact gd_at pre rest x []
    have hq := equalB k x t (hb x (by rw [e]; simp)) ht
    have hi := ih (pre ++ [x]) j (by rw [e]; simp) (by simp only [List.length_cons] at hj; omega)
    rw [List.length_append, List.length_singleton] at hi
    obtain ⟨c1, c2, c3⟩ := idx_ar pre.length l.length (by omega) hl
    rw [m44c29F5, m44c29X5]
    simp only [c1, c2, if_true, hx, m29F, m29X, hq, Option.bind_some, c3, hi]
    rw [fidx]
    by_cases h : x = t <;> simp [h]
theorem hasAck (k : Nat) (l : List (List Int)) (f : Bool) (t : List Int) (ht : IsB t) (hl : l.length ≤ 1000) (hk : 1001 ≤ k) (hb : ∀ x ∈ l, IsB x) : m28c29F k l (f, t) = some (l.any fun x => decide (x = t)) := by
  have := idxAck_loop k l f t ht (by omega) hb l [] k rfl (by omega)
  simp only [m28c29F, m28c29X, m44c29F, m44c29X]
  rw [show (m44c29F5 k k l f t (l.length : Int) 0) = _ from this, Option.bind_some]
  rw [show (([] : List (List Int)).length) = 0 from rfl, fidx_any]
/-- A packet that is an ack, and none of the replies. -/
def ackBad (replies : List (List Int)) (t : Bool × List Int) : Bool := t.1 && (decide ((ackRead t.2).2 = 0) && !replies.any fun x => decide (x = t.2))
theorem ackBad_eq (k : Nat) (hk : 5001 ≤ k) (replies : List (List Int)) (t : Bool × List Int) (ht : IsB t.2) (hl : replies.length ≤ 1000) (h4 : t.2.length ≤ 4096) (hb : ∀ x ∈ replies, IsB x) : m26F k (t.1, t.2) replies = some (ackBad replies t) := by
  obtain ⟨f, t⟩ := t
  have h1 := ackRead_eq k hk t h4 ht
  have h2 := hasAck k replies f t ht hl (by omega) hb
  simp only [m26F, m26X, h1, Option.bind_some, h2]
  unfold ackBad
  cases f with
  | false => simp
  | true =>
    simp only [Bool.not_true, Bool.false_eq_true, if_false, Bool.true_and]
    by_cases h : (ackRead t).2 = 0
    · rw [if_pos (eqI_pos h), decide_eq_true h, Bool.true_and]
    · rw [if_neg (by rw [eqI_neg h]; simp), decide_eq_false h, Bool.false_and]
theorem auditAck_loop (k : Nat) (hk : 5001 ≤ k) (replies : List (List Int)) (hr : replies.length ≤ 1000) (hb : ∀ x ∈ replies, IsB x) (l : List (Bool × List Int)) (hl : l.length ≤ 1000) (hlb : ∀ x ∈ l, IsB x.2 ∧ x.2.length ≤ 4096) : ∀ (rest pre : List (Bool × List Int)) (j : Nat), l = pre ++ rest → rest.length < j →
    m25c26F5 k j l replies (l.length : Int) (pre.length : Int) = some (fidx (ackBad replies) rest pre.length) := by
  intro rest
  induction rest with
  | nil =>
    intro pre j e hj
    obtain ⟨j, rfl⟩ : ∃ n, j = n + 1 := ⟨j - 1, by omega⟩
    have hlen : l.length = pre.length := by rw [e]; simp
    rw [m25c26F5, m25c26X5, if_neg (by rw [ltI_neg (by omega)]; simp)]
    rfl
  | cons x rest ih =>
    intro pre j e hj
    obtain ⟨j, rfl⟩ : ∃ n, j = n + 1 := ⟨j - 1, by omega⟩
    have hlen : l.length = pre.length + (rest.length + 1) := by rw [e]; simp
    have hx : l.getD (Int.toNat (pre.length : Int)) (false, []) = x := by rw [e]; exact gd_at pre rest x (false, [])
    obtain ⟨x1, x2⟩ := hlb x (by rw [e]; simp)
    have hq := ackBad_eq k hk replies x x1 hr x2 hb
    have hi := ih (pre ++ [x]) j (by rw [e]; simp) (by simp only [List.length_cons] at hj; omega)
    rw [List.length_append, List.length_singleton] at hi
    obtain ⟨c1, c2, c3⟩ := idx_ar pre.length l.length (by omega) (by omega)
    rw [m25c26F5, m25c26X5]
    simp only [c1, c2, if_true, hx, hq, Option.bind_some, c3, hi]
    rw [fidx]
    split <;> rfl
theorem auditAck_eq (k : Nat) (hk : 5001 ≤ k) (replies : List (List Int)) (hr : replies.length ≤ 1000) (hb : ∀ x ∈ replies, IsB x) (l : List (Bool × List Int)) (hl : l.length ≤ 1000) (hlb : ∀ x ∈ l, IsB x.2 ∧ x.2.length ≤ 4096) : m10F k l replies = some (fidx (ackBad replies) l 0) := by
  have := auditAck_loop k hk replies hr hb l hl hlb l [] k rfl (by omega)
  simp only [m10F, m10X, m25c26F, m25c26X]
  rw [show (m25c26F5 k k l replies (l.length : Int) 0) = _ from this]
  rfl
/-! The page's. -/
theorem has_loop (k : Nat) (hk : 5001 ≤ k) (l : List (List Int)) (t : List Int) (hl : l.length ≤ 100000) (hb : ∀ x ∈ l, x.length ≤ 5000) : ∀ (rest pre : List (List Int)) (j : Nat), l = pre ++ rest → rest.length < j →
    m32F5 k j l t (pre.length : Int) = some (rest.any fun x => decide (x = t)) := by
  intro rest
  induction rest with
  | nil =>
    intro pre j e hj
    obtain ⟨j, rfl⟩ : ∃ n, j = n + 1 := ⟨j - 1, by omega⟩
    have hlen : l.length = pre.length := by rw [e]; simp
    rw [m32F5, m32X5, if_neg (by rw [ltI_neg (by omega)]; simp)]
    rfl
  | cons x rest ih =>
    intro pre j e hj
    obtain ⟨j, rfl⟩ : ∃ n, j = n + 1 := ⟨j - 1, by omega⟩
    have hlen : l.length = pre.length + (rest.length + 1) := by rw [e]; simp
    have hx : l.getD (Int.toNat (pre.length : Int)) [] = x := by rw [e]; exact gd_at pre rest x []
    have hq := bytes_eq' k hk x t (hb x (by rw [e]; simp))
    have hi := ih (pre ++ [x]) j (by rw [e]; simp) (by simp only [List.length_cons] at hj; omega)
    rw [List.length_append, List.length_singleton] at hi
    obtain ⟨c1, c2, c3⟩ := idx_ar pre.length l.length (by omega) hl
    rw [m32F5, m32X5, List.any_cons]
    simp only [c1, c2, if_true, hx, hq, Option.bind_some, c3, hi]
    by_cases h : x = t <;> simp [h]
theorem has_eq (k : Nat) (hk : 5001 ≤ k) (l : List (List Int)) (t : List Int) (hl : l.length ≤ 5000) (hb : ∀ x ∈ l, x.length ≤ 5000) : m32F k l t = some (l.any fun x => decide (x = t)) := by
  simp only [m32F, m32X]
  exact has_loop k hk l t (by omega) hb l [] k rfl (by omega)
open Crc Be Bv in
theorem refReadAck_eq (k : Nat) (hk : 5001 ≤ k) (l : List Int) (hl : l.length ≤ 4096) (hb : ∀ c ∈ l, isByte c) : m31F k l = some (ackRead l) := by
  simp only [m31F, m31X]
  unfold ackRead
  by_cases h13 : l.length = 13
  · have t : ∀ a b : Nat, b ≤ 4 → ((l.take (a + b)).drop a).length ≤ 4 := fun a b hb => by rw [List.length_drop, List.length_take]; omega
    have tb : ∀ a b : Nat, ∀ c ∈ (l.take b).drop a, isByte c := fun a b c hc => hb c (List.mem_of_mem_take (List.mem_of_mem_drop hc))
    have g2 := num13_eq k (by omega) ((l.take 5).drop 1) (t 1 4 (by decide)) (tb 1 5)
    have g3 := num13_eq k (by omega) ((l.take 9).drop 5) (t 5 4 (by decide)) (tb 5 9)
    have hs := refsealed_eq k hk l hl hb
    have hn := num_bound ((l.take 9).drop 5) (tb 5 9)
    have hln : ((l.take 9).drop 5).length = 4 := by rw [List.length_drop, List.length_take]; omega
    have e0 : (!eqI (l.length : Int) 13) = false := by rw [eqI_pos (by omega)]; rfl
    have c0 : leI 0 0 = true := leI_pos (by decide)
    have c1 : ltI 0 (l.length : Int) = true := ltI_pos (by omega)
    have c5 : leI 5 (l.length : Int) = true := leI_pos (by omega)
    have c9 : leI 9 (l.length : Int) = true := leI_pos (by omega)
    have d : leI 0 5 = true ∧ leI 0 1 = true ∧ leI 1 5 = true ∧ leI 0 9 = true ∧ leI 5 9 = true := ⟨leI_pos (by decide), leI_pos (by decide), leI_pos (by decide), leI_pos (by decide), leI_pos (by decide)⟩
    obtain ⟨d1, d2, d3, d4, d5⟩ := d
    have hw : wr .u32 (num ((l.take 9).drop 5)) = num ((l.take 9).drop 5) := by
      rw [hln] at hn
      rw [wu32]
      have p : ((256 ^ 4 : Nat) : Int) = 4294967296 := by simp
      rw [p] at hn
      exact Int.emod_eq_of_lt hn.1 hn.2
    rw [if_neg (show ¬ l.length ≠ 13 from fun h => h h13)]
    simp only [e0, Bool.false_eq_true, if_false, c0, c1, if_true]
    by_cases hk0 : l.getD 0 0 = 65
    · rw [if_neg (by rw [eqI_pos hk0]; simp), if_neg (show ¬ l.getD 0 0 ≠ 65 from fun h => h hk0)]
      simp only [hs, Option.bind_some]
      cases hsl : isSealed l with
      | false => simp
      | true =>
        simp only [Bool.not_true, Bool.false_eq_true, if_false, d1, d2, d3, d4, d5, c5, c9, if_true, g2, g3, Option.bind_some, hw]
        by_cases hm : 1073741824 < num ((l.take 5).drop 1)
        · rw [if_pos (ltI_pos hm), if_neg (by simp), if_pos hm]
        · rw [if_neg (by rw [ltI_neg hm]; simp), if_neg (by simp), if_neg hm]
    · rw [if_pos (by rw [eqI_neg hk0]; rfl), if_pos hk0]
  · have e0 : (!eqI (l.length : Int) 13) = true := by rw [eqI_neg (by omega)]; rfl
    rw [if_pos e0, if_pos h13]
theorem refAck_loop (k : Nat) (hk : 5001 ≤ k) (replies : List (List Int)) (hr : replies.length ≤ 1000) (hb : ∀ x ∈ replies, x.length ≤ 5000) (l : List (Bool × List Int)) (hl : l.length ≤ 1000) (hlb : ∀ x ∈ l, IsB x.2 ∧ x.2.length ≤ 4096) : ∀ (rest pre : List (Bool × List Int)) (j : Nat), l = pre ++ rest → rest.length < j →
    m11F5 k j l replies (pre.length : Int) = some (fidx (ackBad replies) rest pre.length) := by
  intro rest
  induction rest with
  | nil =>
    intro pre j e hj
    obtain ⟨j, rfl⟩ : ∃ n, j = n + 1 := ⟨j - 1, by omega⟩
    have hlen : l.length = pre.length := by rw [e]; simp
    rw [m11F5, m11X5, if_neg (by rw [ltI_neg (by omega)]; simp)]
    rfl
  | cons x rest ih =>
    intro pre j e hj
    obtain ⟨j, rfl⟩ : ∃ n, j = n + 1 := ⟨j - 1, by omega⟩
    have hlen : l.length = pre.length + (rest.length + 1) := by rw [e]; simp
    have hx : l.getD (Int.toNat (pre.length : Int)) (false, []) = x := by rw [e]; exact gd_at pre rest x (false, [])
    obtain ⟨x1, x2⟩ := hlb x (by rw [e]; simp)
    have hq := refReadAck_eq k hk x.2 x2 x1
    have hh := has_eq k hk replies x.2 (by omega) hb
    have hi := ih (pre ++ [x]) j (by rw [e]; simp) (by simp only [List.length_cons] at hj; omega)
    rw [List.length_append, List.length_singleton] at hi
    obtain ⟨c1, c2, c3⟩ := idx_ar pre.length l.length (by omega) (by omega)
    rw [m11F5, m11X5, fidx]
    simp only [c1, c2, if_true, hx, hq, hh, Option.bind_some, c3, hi]
    unfold ackBad
    cases x.1 with
    | false => simp
    | true =>
      simp only [if_true, Bool.true_and]
      by_cases h : (ackRead x.2).2 = 0
      · rw [if_pos (eqI_pos h), decide_eq_true h, Bool.true_and]
        cases replies.any fun y => decide (y = x.2) <;> rfl
      · rw [if_neg (by rw [eqI_neg h]; simp), decide_eq_false h, Bool.false_and, if_neg (by simp)]
theorem refAck26_eq (k : Nat) (hk : 5001 ≤ k) (replies : List (List Int)) (hr : replies.length ≤ 1000) (hb : ∀ x ∈ replies, x.length ≤ 5000) (l : List (Bool × List Int)) (hl : l.length ≤ 1000) (hlb : ∀ x ∈ l, IsB x.2 ∧ x.2.length ≤ 4096) : m11F k l replies = some (fidx (ackBad replies) l 0) := by
  simp only [m11F, m11X]
  exact refAck_loop k hk replies hr hb l hl hlb l [] k rfl (by omega)
theorem twinRows_loop (k : Nat) (l : List (List Int)) (hl : l.length ≤ 100000) (hb : ∀ x ∈ l, x.length ≤ 5000) : ∀ (rest pre : List (List Int)) (j : Nat), l = pre ++ rest → rest.length < j → m9F7 k j l (pre.length : Int) pre = some l := by
  intro rest
  induction rest with
  | nil =>
    intro pre j e hj
    obtain ⟨j, rfl⟩ : ∃ n, j = n + 1 := ⟨j - 1, by omega⟩
    rw [List.append_nil] at e
    subst e
    rw [m9F7, m9X7, if_neg (by rw [ltI_neg (by omega)]; simp)]
  | cons x rest ih =>
    intro pre j e hj
    obtain ⟨j, rfl⟩ : ∃ n, j = n + 1 := ⟨j - 1, by omega⟩
    have hlen : l.length = pre.length + (rest.length + 1) := by rw [e]; simp
    have hx : l.getD (Int.toNat (pre.length : Int)) [] = x := by rw [e]; exact gd_at pre rest x []
    have hq := twin_eq k x (hb x (by rw [e]; simp))
    have hs : List.set (List.replicate 1 ([] : List Int)) 0 x = [x] := (congrArg (fun z : List Int => [z]) (Eq.refl x) : [x] = [x])
    have hi := ih (pre ++ [x]) j (by rw [e]; simp) (by simp only [List.length_cons] at hj; omega)
    rw [List.length_append, List.length_singleton] at hi
    have c4 : leI (((pre.length + 1) * 24 : Nat) : Int) 140737488355328 = true := leI_pos (by omega)
    obtain ⟨c1, c2, c3⟩ := idx_ar pre.length l.length (by omega) hl
    rw [m9F7, m9X7]
    simp only [c1, c2, if_true, hx, hq, Option.bind_some, hs, List.length_singleton, c4, c3]
    exact hi
theorem twinRows_eq (k : Nat) (l : List (List Int)) (hl : l.length ≤ 5000) (hk : 5001 ≤ k) (hb : ∀ x ∈ l, x.length ≤ 5000) : m9F k l = some l := by
  simp only [m9F, m9X]
  exact twinRows_loop k l (by omega) hb l [] k rfl (by omega)
theorem heavy26_loop (k : Nat) (l : List (List Int)) (hl : l.length ≤ 30) : ∀ (rest pre : List (List Int)) (j : Nat), l = pre ++ rest → rest.length < j → ∃ b, m7F9 k j l (pre.length : Int) = some b ∧ (b = false → ∀ x ∈ rest, x.length ≤ 250) := by
  intro rest
  induction rest with
  | nil =>
    intro pre j e hj
    obtain ⟨j, rfl⟩ : ∃ n, j = n + 1 := ⟨j - 1, by omega⟩
    have hlen : l.length = pre.length := by rw [e]; simp
    refine ⟨false, ?_, fun _ x hx => by cases hx⟩
    rw [m7F9, m7X9, if_neg (by rw [ltI_neg (by omega)]; simp)]
  | cons x rest ih =>
    intro pre j e hj
    obtain ⟨j, rfl⟩ : ∃ n, j = n + 1 := ⟨j - 1, by omega⟩
    have hlen : l.length = pre.length + (rest.length + 1) := by rw [e]; simp
    have hx : l.getD (Int.toNat (pre.length : Int)) [] = x := by rw [e]; exact gd_at pre rest x []
    obtain ⟨b, h1, h2⟩ := ih (pre ++ [x]) j (by rw [e]; simp) (by simp only [List.length_cons] at hj; omega)
    rw [List.length_append, List.length_singleton] at h1
    obtain ⟨c1, c2, c3⟩ := idx_ar pre.length l.length (by omega) (by omega)
    rw [m7F9, m7X9]
    simp only [c1, c2, if_true, hx, c3]
    by_cases h : x.length ≤ 250
    · rw [if_neg (by rw [ltI_neg (by omega)]; simp)]
      refine ⟨b, h1, fun hb y hy => ?_⟩
      rcases List.mem_cons.1 hy with rfl | hy
      · exact h
      · exact h2 hb y hy
    · rw [if_pos (ltI_pos (by omega))]
      exact ⟨true, rfl, fun h => by cases h⟩
theorem heavy26 (k : Nat) (hk : 5001 ≤ k) (l : List (List Int)) : ∃ b, m7F k l = some b ∧ (b = false → l.length ≤ 30 ∧ ∀ x ∈ l, x.length ≤ 250) := by
  simp only [m7F, m7X]
  by_cases h : l.length ≤ 30
  · rw [if_neg (by rw [ltI_neg (by omega)]; simp)]
    obtain ⟨b, h1, h2⟩ := heavy26_loop k l h l [] k rfl (by omega)
    exact ⟨b, h1, fun hb => ⟨h, h2 hb⟩⟩
  · rw [if_pos (ltI_pos (by omega))]
    exact ⟨true, rfl, fun h => by cases h⟩
theorem wake_cfg : cfgOk 1 1 1 1 1 1 1 4 5 0 := by decide
theorem had_set (x : List Int × Int) : List.set (List.replicate 1 (([] : List Int), (0 : Int))) 0 x = [x] := (congrArg (fun z : List Int × Int => [z]) (Eq.refl x) : [x] = [x])
theorem wakes26 (k : Nat) (hk : 5001 ≤ k) : m12F k = some true := by
  obtain ⟨j, rfl⟩ : ∃ j, k = j + 2 := ⟨k - 2, by omega⟩
  have e0 : ∀ z : Int, eqI z z = true := fun z => eqI_pos rfl
  have hz : ∀ z : Int, (!eqI z z) = false := fun z => by rw [eqI_pos rfl]; rfl
  have hc := check_ok (j + 2) 1 1 1 1 1 1 1 4 5 0 wake_cfg
  have l0 : ltI 0 (([] : List (List Int)).length : Int) = false := ltI_neg (by simp)
  have l1 : ltI 0 (([] : List (List Int × Int)).length : Int) = false := ltI_neg (by simp)
  have hbl : m36F (j + 2) (1, 1, 1, 1, 1, 1, 1, 4, 5, 0) [] = some ([], [], 0) := by
    simp only [m36F, m36X, hc, Option.bind_some, hz, Bool.false_eq_true, if_false, m36F11, m36X11, l0, m36F40, m36X40]
  have hi0 : m37c38F (j + 2) [] ([], []) = some (-1) := by
    simp only [m37c38F, m37c38X, m37c38F5, m37c38X5, l1, Bool.false_eq_true, if_false]
  have h1 : m16F (j + 2) (1, 1, 1, 1, 1, 1, 1, 4, 5, 0) [] [] = some (-1, 0) := by
    simp only [m16F, m16X, hbl, Option.bind_some, hz, Bool.false_eq_true, if_false, m16F11, m16X11, l1, m16F20, m16X20, hi0]
  have c0 : ltI 0 0 = false := ltI_neg (by decide)
  have c1 : leI 0 0 = true := leI_pos (by decide)
  have c2 : leI 0 (([] : List (List Int)).length : Int) = true := leI_pos (by simp)
  have hcon : m28c39F (j + 2) [] ([1], 0) = some false := by
    have m1 : leI 0 (-1) = false := leI_neg (by decide)
    simp only [m28c39F, m28c39X, m44c39F, m44c39X, m44c39F5, m44c39X5, l0, Bool.false_eq_true, if_false, Option.bind_some, m1]
  have hm : m38F (j + 2) ([1], 0) [] [] = some true := by
    simp only [m38F, m38X, c0, Bool.false_eq_true, if_false, m38F8, m38X8, c1, c2, if_true, Int.toNat_zero, List.take_zero, hcon, Option.bind_some, Bool.not_false]
  have l2 : ltI 0 ([(([1] : List Int), (0 : Int))].length : Int) = true := ltI_pos (by simp)
  have g0 : ([(([1] : List Int), (0 : Int))]).getD 0 ([], 0) = ([1], 0) := rfl
  have hi1 : m37c38F (j + 2) [([1], 0)] ([], []) = some 0 := by
    simp only [m37c38F, m37c38X, m37c38F5, m37c38X5, l2, c1, if_true, Int.toNat_zero, g0, hm, Option.bind_some]
  have l3 : ltI (([] : List (List Int)).length : Int) 0 = false := ltI_neg (by simp)
  have l4 : ltI 1 ([(([1] : List Int), (0 : Int))].length : Int) = false := ltI_neg (by simp)
  have w1 : wr .i64 (0 + 1) = 1 := by decide +kernel
  have h2 : m16F (j + 2) (1, 1, 1, 1, 1, 1, 1, 4, 5, 0) [] [([1], 0)] = some (0, 0) := by
    simp only [m16F, m16X, hbl, Option.bind_some, hz, Bool.false_eq_true, if_false, m16F11, m16X11, l2, c1, if_true, Int.toNat_zero, g0, c0, l3, w1, l4, m16F20, m16X20, hi1]
  have h3 := auditAck_eq (j + 2) hk [] (by simp) (fun x hx => by cases hx) [] (by simp) (fun x hx => by cases hx)
  have h4 : m18F (j + 2) [] [] = some true := by
    have t0 : Int.toNat (([] : List (List Int)).length : Int) = 0 := rfl
    have q0 : leI (([] : List (List Int)).length : Int) (([] : List (List Int)).length : Int) = true := leI_pos (Int.le_refl _)
    simp only [m18F, m18X, q0, c2, if_true, t0, List.take_zero, m40c30F, m40c30X, hz, Bool.false_eq_true, if_false, m40c30F9, m40c30X9, l0, Option.bind_some]
  simp only [m12F, m12X, one_set, had_set, h1, h2, h3, h4, Option.bind_some, e0, if_true, fidx]

/-! A message cut to blocks. -/
def piece (B : Nat) (msg : List Int) (i : Nat) : List Int := (msg.drop (i * B)).take B
def mkMark (n i : Nat) : Int := (if i = 0 then 1 else 0) + (if i + 1 = n then 2 else 0)
def blkAt (B n : Nat) (s : Int) (msg : List Int) (i : Nat) : Int × (Int × List Int) := (s + (i : Int), mkMark n i, piece B msg i)
def cutTo (B n : Nat) (s : Int) (msg : List Int) (m : Nat) : List (Int × (Int × List Int)) := (List.range m).map (blkAt B n s msg)
def cutL (B : Nat) (s : Int) (msg : List Int) : List (Int × (Int × List Int)) := cutTo B (nBlk B msg.length) s msg (nBlk B msg.length)
theorem cutTo_length (B n : Nat) (s : Int) (msg : List Int) (m : Nat) : (cutTo B n s msg m).length = m := by simp [cutTo]
theorem cutL_length (B : Nat) (s : Int) (msg : List Int) : (cutL B s msg).length = nBlk B msg.length := cutTo_length ..
theorem cutL_get (B : Nat) (s : Int) (msg : List Int) (i : Nat) (h : i < nBlk B msg.length) : (cutL B s msg).getD i (0, 0, []) = blkAt B (nBlk B msg.length) s msg i := by
  unfold cutL cutTo
  rw [List.getD_eq_getElem?_getD, List.getElem?_map, List.getElem?_range h]
  rfl
theorem blk_set (d x : Int × (Int × List Int)) : List.set (List.replicate 1 d) 0 x = [x] := (congrArg (fun y : Int × (Int × List Int) => [y]) (Eq.refl x) : [x] = [x])
theorem mark_or (m : Int) (h : m = 0 ∨ m = 1) : bits .or .i64 m 2 = m + 2 := by
  rcases h with rfl | rfl <;> decide +kernel
theorem cut_ar (B len i n : Nat) (hB : 1 ≤ B) (hB2 : B ≤ 16) (hl : len ≤ 200) (hi : i < n) (hn : n ≤ 201) (hlo : i * B ≤ len) : ∃ hi' : Nat, mn (wr .i64 (wr .i64 ((i : Int) + 1) * (B : Int))) (len : Int) = (hi' : Int) ∧ leI 0 (hi' : Int) = true ∧ leI (hi' : Int) (len : Int) = true ∧ wr .i64 ((i : Int) * (B : Int)) = ((i * B : Nat) : Int) ∧ leI 0 ((i * B : Nat) : Int) = true ∧
    leI ((i * B : Nat) : Int) (hi' : Int) = true ∧ hi' = min (i * B + B) len := by
  have e1 : (i : Int) * (B : Int) = ((i * B : Nat) : Int) := (Int.natCast_mul i B).symm
  have e2 : wr .i64 ((i : Int) + 1) = ((i + 1 : Nat) : Int) := w64s (by omega)
  have e3 : ((i + 1 : Nat) : Int) * (B : Int) = ((i * B + B : Nat) : Int) := by
    rw [← Int.natCast_mul, Nat.add_mul, Nat.one_mul]
  rw [e1, e2, e3]
  clear e1 e2 e3
  generalize i * B = z at hlo
  have e4 : wr .i64 ((z + B : Nat) : Int) = ((z + B : Nat) : Int) := w64n (by omega)
  have e5 : mn ((z + B : Nat) : Int) (len : Int) = ((min (z + B) len : Nat) : Int) := by
    unfold mn
    split <;> omega
  have e6 : wr .i64 (z : Int) = (z : Int) := w64n (by clear e4; omega)
  rw [e4, e5, e6]
  clear e4 e5 e6
  exact ⟨min (z + B) len, rfl, leI_pos (by omega), leI_pos (by omega), rfl, leI_pos (by omega), leI_pos (by omega), rfl⟩
theorem piece_eq (B : Nat) (msg : List Int) (i : Nat) : (msg.take (min (i * B + B) msg.length)).drop (i * B) = piece B msg i := by
  unfold piece
  rw [List.drop_take]
  by_cases h : i * B + B ≤ msg.length
  · rw [Nat.min_eq_left h, Nat.add_sub_cancel_left]
  · rw [Nat.min_eq_right (by omega)]
    rw [List.take_of_length_le (by rw [List.length_drop]; exact Nat.le_refl _), List.take_of_length_le (by rw [List.length_drop]; omega)]
theorem cutTo_succ (B n : Nat) (s : Int) (msg : List Int) (m : Nat) : cutTo B n s msg (m + 1) = cutTo B n s msg m ++ [blkAt B n s msg m] := by
  unfold cutTo
  rw [List.range_succ, List.map_append]
  rfl
theorem cut_ar2 (s : Int) (i n : Nat) (hs : 0 ≤ s) (hs2 : s + (n : Int) ≤ 1073741824) (hi : i < n) (hn : n ≤ 201) : ltI (i : Int) (n : Int) = true ∧ wr .i64 (s + (i : Int)) = s + (i : Int) ∧ wr .i64 ((n : Int) - 1) = ((n - 1 : Nat) : Int) ∧ leI (((i + 1) * 40 : Nat) : Int) 140737488355328 = true ∧ wr .i64 ((i : Int) + 1) = ((i + 1 : Nat) : Int) ∧
    (i + 1 = n → eqI (i : Int) ((n - 1 : Nat) : Int) = true) ∧ (i + 1 ≠ n → eqI (i : Int) ((n - 1 : Nat) : Int) = false) ∧ (i ≠ 0 → eqI (i : Int) 0 = false) :=
  ⟨ltI_pos (by omega), w64 (by omega) (by omega), by rw [w64 (by omega) (by omega)]; omega, leI_pos (by omega), w64s (by omega), fun h => eqI_pos (by omega), fun h => eqI_neg (by omega), fun h => eqI_neg (by omega)⟩
theorem cut_loop (k : Nat) (s : Int) (msg : List Int) (B : Nat) (c1 c2 c3 c4 c5 c6 c7 c8 c9 : Int) (n : Nat) (hn : n = nBlk B msg.length) (hB : 1 ≤ B) (hB2 : B ≤ 16) (hl : msg.length ≤ 200) (hs : 0 ≤ s) (hs2 : s + (n : Int) ≤ 1073741824) : ∀ (d i j : Nat), i + d = n → d < j →
    m49F23 k j s msg (n : Int) (n : Int) (i : Int) (B : Int) c1 c2 c3 c4 c5 c6 c7 c8 c9 (cutTo B n s msg i) = some (cutTo B n s msg n, 0) := by
  have hn2 : n ≤ 201 := by
    have := nBlk_le B msg.length hB
    omega
  intro d
  induction d with
  | zero =>
    intro i j hi hj
    obtain ⟨j, rfl⟩ : ∃ y, j = y + 1 := ⟨j - 1, by omega⟩
    obtain rfl : i = n := by omega
    simp only [m49F23, m49X23]
    rw [if_neg (by rw [ltI_neg (by omega)]; simp)]
    rfl
  | succ d ih =>
    intro i j hi hj
    obtain ⟨j, rfl⟩ : ∃ y, j = y + 1 := ⟨j - 1, by omega⟩
    have hin : i < n := by omega
    have g1 : i + 1 + d = n := by omega
    have g2 : d < j := by omega
    have hlo := (nBlk_lt B msg.length i hB (hn ▸ hin)).1
    obtain ⟨hi', q1, q2, q3, q4, q5, q6, q7⟩ := cut_ar B msg.length i n hB hB2 hl hin hn2 hlo
    have hp : (msg.take hi').drop (i * B) = piece B msg i := by rw [q7]; exact piece_eq B msg i
    have hpl : (piece B msg i).length ≤ 5000 := by
      unfold piece
      exact Nat.le_trans (List.length_take_le _ _) (Nat.le_trans hB2 (by decide))
    have h2 := ih (i + 1) j g1 g2
    rw [cutTo_succ] at h2
    obtain ⟨r1, r2, r3, r4, r5, r6, r7, r8⟩ := cut_ar2 s i n hs hs2 hin hn2
    have e00 : eqI 0 0 = true := eqI_pos rfl
    simp only [m49F23, m49X23, r1, if_true, q1, q2, q3, q4, q5, q6, Int.toNat_natCast, hp, clone_eq k _ hpl, Option.bind_some, r2]
    have fin : ∀ m : Int, (m = 0 ∨ m = 1) → m = (if i = 0 then 1 else 0) → m49F32 k (m49F23 k j) s msg (n : Int) (i : Int) (n : Int) (i : Int) (B : Int) c1 c2 c3 c4 c5 c6 c7 c8 c9 (cutTo B n s msg i) (s + (i : Int)) m (piece B msg i) = some (cutTo B n s msg n, 0) := by
      intro m hm hm2
      simp only [m49F32, m49X32, r3, m49F36, m49X36, blk_set, List.length_singleton, cutTo_length, r4, if_true, r5, mark_or m hm]
      by_cases hlast : i + 1 = n
      · rw [if_pos (r6 hlast)]
        have e : blkAt B n s msg i = (s + (i : Int), m + 2, piece B msg i) := by
          unfold blkAt mkMark
          rw [← hm2, if_pos hlast]
        rw [e] at h2
        exact h2
      · rw [if_neg (by rw [r7 hlast]; simp)]
        have e : blkAt B n s msg i = (s + (i : Int), m, piece B msg i) := by
          unfold blkAt mkMark
          rw [← hm2, if_neg hlast, Int.add_zero]
        rw [e] at h2
        exact h2
    by_cases h0 : i = 0
    · rw [if_pos (eqI_pos (by rw [h0]; rfl))]
      exact fin 1 (.inr rfl) (by rw [if_pos h0])
    · rw [if_neg (by rw [r8 h0]; simp)]
      exact fin 0 (.inl rfl) (by rw [if_neg h0])
theorem cutCut_eq (k : Nat) (hk : 5001 ≤ k) (s : Int) (msg : List Int) (B : Nat) (c1 c2 c3 c4 c5 c6 c7 c8 c9 : Int) (ok : cfgOk (B : Int) c1 c2 c3 c4 c5 c6 c7 c8 c9) (hl : (msg.length : Int) ≤ c8) (hs : 0 ≤ s) (hs2 : s + (nBlk B msg.length : Int) ≤ 1073741824) :
    m49F k ((B : Int), c1, c2, c3, c4, c5, c6, c7, c8, c9) s msg = some (cutL B s msg, 0) := by
  have hB := ok.1
  have h8 := ok.2.2.2.2.2.2.2.2.1
  unfold within at hB h8
  have hl2 : msg.length ≤ 200 := by omega
  have hB1 : 1 ≤ B := by omega
  have hle := nBlk_le B msg.length hB1
  have lp := cut_loop k s msg B c1 c2 c3 c4 c5 c6 c7 c8 c9 (nBlk B msg.length) rfl hB1 (by omega) hl2 hs hs2 (nBlk B msg.length) 0 k (by omega) (by omega)
  have z0 : (!eqI 0 0) = false := by rw [eqI_pos rfl]; rfl
  have bl := blocks_eq k B c1 c2 c3 c4 c5 c6 c7 c8 c9 ok msg.length hl2
  have ar : ltI c8 (msg.length : Int) = false ∧ ltI s 0 = false ∧ ltI (wr .i64 (1073741824 - (nBlk B msg.length : Int))) s = false :=
    ⟨ltI_neg (by omega), ltI_neg (by omega), by rw [w64 (by omega) (by omega)]; exact ltI_neg (by omega)⟩
  obtain ⟨a1, a2, a3⟩ := ar
  simp only [m49F, m49X, check_ok k _ _ _ _ _ _ _ _ _ _ ok, Option.bind_some, z0, Bool.false_eq_true, if_false, a1, bl, a2, a3]
  exact lp
theorem piece_length (B : Nat) (msg : List Int) (i : Nat) : (piece B msg i).length = min B (msg.length - i * B) := by
  unfold piece
  rw [List.length_take, List.length_drop]
theorem piece_more (B : Nat) (msg : List Int) (i : Nat) : msg.take (i * B) ++ piece B msg i = msg.take ((i + 1) * B) := by
  unfold piece
  rw [Nat.add_mul, Nat.one_mul, List.take_add]
/-- What is wrong with a block. -/
def blkErr (c s m : Int) (n : Nat) : Int := if c < 1 ∨ 16 < c ∨ s < 0 ∨ 1073741824 ≤ s ∨ m < 0 ∨ 3 < m then 1 else if c < (n : Int) ∨ (m < 2 ∧ (n : Int) < c) then 2 else 0
theorem blkErr_zero {c s m : Int} {n : Nat} (h : blkErr c s m n = 0) : (1 ≤ c ∧ c ≤ 16) ∧ (0 ≤ s ∧ s < 1073741824) ∧ (0 ≤ m ∧ m ≤ 3) ∧ (n : Int) ≤ c ∧ (m < 2 → (n : Int) = c) := by
  unfold blkErr at h
  split at h
  · cases h
  · split at h
    · cases h
    · rename_i h1 h2
      omega
theorem and2 (m : Int) (h0 : 0 ≤ m) (h1 : m ≤ 3) : bits .and .i64 m 2 = 0 ↔ m < 2 := by
  have h : m = 0 ∨ m = 1 ∨ m = 2 ∨ m = 3 := by omega
  rcases h with rfl | rfl | rfl | rfl <;> decide +kernel
theorem blkCheck_eq (k : Nat) (c s m : Int) (t : List Int) : m57F k c (s, m, t) = some (blkErr c s m t.length) := by
  simp only [m57F, m57X, m61F, m61X, ltI_eq, leI_eq, eqI_eq, decide_eq_true_eq, blkErr]
  by_cases h1 : c < 1
  · rw [if_neg (show ¬ 1 ≤ c by omega)]
    simp [h1]
  · rw [if_pos (show 1 ≤ c by omega), Option.bind_some]
    by_cases h2 : 16 < c
    · simp [h1, h2, show ¬ c ≤ 16 by omega]
    · by_cases h3 : s < 0
      · simp [h1, h2, h3, show c ≤ 16 by omega]
      · by_cases h4 : 1073741824 ≤ s
        · simp [h1, h2, h3, h4, show c ≤ 16 by omega]
        · by_cases h5 : m < 0
          · simp [h1, h2, h3, h4, h5, show c ≤ 16 by omega]
          · by_cases h6 : 3 < m
            · simp [h1, h2, h3, h4, h5, h6, show c ≤ 16 by omega]
            · have ha := and2 m (by omega) (by omega)
              by_cases h7 : c < (t.length : Int)
              · simp [h1, h2, h3, h4, h5, h6, h7, show c ≤ 16 by omega]
              · by_cases h8 : (t.length : Int) < c
                · by_cases h9 : m < 2
                  · simp [h1, h2, h3, h4, h5, h6, h7, h8, h9, ha.2 h9, show c ≤ 16 by omega]
                  · have h9' : ¬ bits .and .i64 m 2 = 0 := fun h => h9 (ha.1 h)
                    simp [h1, h2, h3, h4, h5, h6, h7, h8, h9, h9', show c ≤ 16 by omega]
                · simp [h1, h2, h3, h4, h5, h6, h7, h8, show c ≤ 16 by omega]

/-! Blocks. -/
theorem two_set (x y d : Int) : List.set (List.set (List.replicate 2 d) 0 x) 1 y = [x, y] := (congrArg (fun z : Int => [z, y]) (Eq.refl x) : [x, y] = [x, y])
open Crc Be in
/-- A block's bytes ahead of the sum. -/
def blkBody (c s m : Int) (t : List Int) : List Int := be 4 s ++ [m, (t.length : Int)] ++ t ++ List.replicate (c.toNat - t.length) 0
open Crc Be in
theorem blkBody_length (c s m : Int) (t : List Int) (h : (t.length : Int) ≤ c) : (blkBody c s m t).length = 6 + c.toNat := by
  unfold blkBody
  rw [List.length_append, List.length_append, List.length_append, be_length, List.length_replicate]
  simp
  omega
open Crc Be in
theorem blkBody_bytes (c s m : Int) (t : List Int) (hm : 0 ≤ m ∧ m ≤ 3) (hn : (t.length : Int) ≤ 16) (ht : ∀ x ∈ t, isByte x) : ∀ x ∈ blkBody c s m t, isByte x := by
  unfold blkBody
  intro x hx
  rcases List.mem_append.1 hx with hx | hx
  · rcases List.mem_append.1 hx with hx | hx
    · rcases List.mem_append.1 hx with hx | hx
      · exact be_bytes 4 s x hx
      · rcases List.mem_cons.1 hx with rfl | hx
        · exact ⟨by omega, by omega⟩
        · rw [List.mem_singleton] at hx
          subst hx
          exact ⟨by omega, by omega⟩
    · exact ht x hx
  · obtain ⟨_, rfl⟩ := List.mem_replicate.1 hx
    exact ⟨by omega, by omega⟩
open Crc Be in
def blkPack (c s m : Int) (t : List Int) : List Int := blkBody c s m t ++ seal4 (sum32 (blkBody c s m t))
open Crc Be in
theorem blkPack_length (c s m : Int) (t : List Int) (h : (t.length : Int) ≤ c) : (blkPack c s m t).length = 10 + c.toNat := by
  unfold blkPack
  rw [List.length_append, blkBody_length c s m t h, seal4_length]
  omega
open Crc Be in
theorem blkPack_bytes (c s m : Int) (t : List Int) (hm : 0 ≤ m ∧ m ≤ 3) (hn : (t.length : Int) ≤ 16) (ht : ∀ x ∈ t, isByte x) : ∀ x ∈ blkPack c s m t, isByte x := by
  unfold blkPack
  intro x hx
  rcases List.mem_append.1 hx with hx | hx
  · exact blkBody_bytes c s m t hm hn ht x hx
  · exact seal4_bytes _ x hx
theorem blk_ar (c m : Int) (n : Nat) (hc : 1 ≤ c ∧ c ≤ 16) (hm : 0 ≤ m ∧ m ≤ 3) (hn : (n : Int) ≤ c) : wr .u8 m = m ∧ wr .u8 (n : Int) = (n : Int) ∧ wr .i64 (c - (n : Int)) = c - (n : Int) ∧ leI 0 (c - (n : Int)) = true ∧ (c - (n : Int)).toNat = c.toNat - n ∧ wr .i64 (c + 6) = c + 6 ∧ wr .i64 (c + 10) = c + 10 :=
  ⟨by rw [wu8]; omega, by rw [wu8]; omega, w64 (by omega) (by omega), leI_pos (by omega), by omega, w64 (by omega) (by omega), w64 (by omega) (by omega)⟩
open Crc Be in
theorem blkMake_eq (k : Nat) (hk : 5001 ≤ k) (c s m : Int) (t : List Int) (h : blkErr c s m t.length = 0) (ht : ∀ x ∈ t, isByte x) : m50F k c (s, m, t) = some (blkPack c s m t, 0) := by
  obtain ⟨hc, hs, hm, hn, _⟩ := blkErr_zero h
  have p1 : m58F k [] s 4 = some ([] ++ be 4 s, 0) := put_eq k (by omega) [] s 4 (by omega) (by omega) (by simp) hs.1 (by omega)
  have s1 := seal_eq k (by omega) (blkBody c s m t) (by rw [blkBody_length c s m t hn]; omega) (blkBody_bytes c s m t hm (by omega) ht)
  have q0 : (!eqI (0 : Int) 0) = false := by rw [eqI_pos rfl]; rfl
  have l1 : (be 4 s).length = 4 := be_length 4 s
  have e : be 4 s ++ [m, (t.length : Int)] ++ t ++ List.replicate (c.toNat - t.length) 0 = blkBody c s m t := rfl
  obtain ⟨w1, w2, w3, c0, n1, _⟩ := blk_ar c m t.length hc hm hn
  simp only [m50F, m50X, blkCheck_eq, h, Option.bind_some, q0, Bool.false_eq_true, if_false, p1, two_set, List.nil_append, w1, w2, w3, c0, n1, if_true]
  generalize be 4 s = x at l1 e
  have c1 : leI (((x.length + [m, (t.length : Int)].length) * 1 : Nat) : Int) 140737488355328 = true := leI_pos (by simp; omega)
  have c2 : leI ((((x ++ [m, (t.length : Int)]).length + t.length) * 1 : Nat) : Int) 140737488355328 = true := leI_pos (by simp; omega)
  have c3 : leI ((((x ++ [m, (t.length : Int)] ++ t).length : Int) + (c - (t.length : Int))) * 1) 140737488355328 = true := leI_pos (by simp; omega)
  rw [if_pos c1, if_pos c2, if_pos c3, e, s1, Option.bind_some, blkPack]
theorem blkMake_bad (k : Nat) (c s m : Int) (t : List Int) (h : blkErr c s m t.length ≠ 0) : m50F k c (s, m, t) = some ([], blkErr c s m t.length) := by
  simp only [m50F, m50X, blkCheck_eq, Option.bind_some]
  rw [if_pos (by rw [eqI_neg h]; rfl)]
open Crc Be in
theorem refBytes_loop (k : Nat) (hk : 5001 ≤ k) (c s m : Int) (t : List Int) (hc : 1 ≤ c ∧ c ≤ 16) (hm : 0 ≤ m ∧ m ≤ 3) (hn : (t.length : Int) ≤ c) (ht : ∀ x ∈ t, isByte x) : ∀ (n i j : Nat), i + n = c.toNat - t.length → n < j →
    m34F7 k j c (be 4 s ++ [m, (t.length : Int)] ++ t ++ List.replicate i 0) = some (blkPack c s m t) := by
  have w6 : wr .i64 (c + 6) = c + 6 := w64 (by omega) (by omega)
  have hl : ∀ i : Nat, (be 4 s ++ [m, (t.length : Int)] ++ t ++ List.replicate i 0).length = 6 + t.length + i := fun i => by
    rw [List.length_append, List.length_append, List.length_append, be_length, List.length_replicate]
    simp
  have cond : ∀ i : Nat, (i + 1 ≤ c.toNat - t.length → ltI ((6 + t.length + i : Nat) : Int) (c + 6) = true ∧ leI (((6 + t.length + i + 1) * 1 : Nat) : Int) 140737488355328 = true) ∧ (i = c.toNat - t.length → ltI ((6 + t.length + i : Nat) : Int) (c + 6) = false) := by
    intro i
    clear w6
    exact ⟨fun h => ⟨ltI_pos (by omega), leI_pos (by omega)⟩, fun h => ltI_neg (by omega)⟩
  intro n
  induction n with
  | zero =>
    intro i j h hj
    obtain ⟨j, rfl⟩ : ∃ a, j = a + 1 := ⟨j - 1, by omega⟩
    have hi : i = c.toNat - t.length := h
    have s1 := refseal_eq k (by omega) (blkBody c s m t) (by rw [blkBody_length c s m t hn]; clear w6; omega) (blkBody_bytes c s m t hm (by clear w6; omega) ht)
    simp only [m34F7, m34X7, hl, w6, (cond i).2 hi, Bool.false_eq_true, if_false, m34F10, m34X10]
    subst hi
    rw [show be 4 s ++ [m, (t.length : Int)] ++ t ++ List.replicate (c.toNat - t.length) 0 = blkBody c s m t from rfl, s1, Option.bind_some, blkPack]
  | succ n ih =>
    intro i j h hj
    obtain ⟨j, rfl⟩ : ∃ a, j = a + 1 := ⟨j - 1, by omega⟩
    obtain ⟨k1, k2⟩ := (cond i).1 (by omega)
    have h2 := ih (i + 1) j (by omega) (by omega)
    have hr : List.replicate i (0 : Int) ++ [0] = List.replicate (i + 1) 0 := by rw [List.replicate_succ', ]
    simp only [m34F7, m34X7, hl, w6, k1, k2, if_true, one_set]
    rw [List.append_assoc _ (List.replicate i (0 : Int)) [0], hr]
    exact h2
open Crc Be in
theorem refBytes_eq (k : Nat) (hk : 5001 ≤ k) (c s m : Int) (t : List Int) (h : blkErr c s m t.length = 0) (ht : ∀ x ∈ t, isByte x) : m34F k c (s, m, t) = some (blkPack c s m t) := by
  obtain ⟨hc, hs, hm, hn, _⟩ := blkErr_zero h
  have q1 : m23F k s 4 = some (be 4 s) := be13_eq k (by omega) s 4 (by omega)
  have lp := refBytes_loop k hk c s m t hc hm hn ht (c.toNat - t.length) 0 k (by omega) (by omega)
  have l1 : (be 4 s).length = 4 := be_length 4 s
  obtain ⟨w1, w2, _⟩ := blk_ar c m t.length hc hm hn
  simp only [m34F, m34X, q1, Option.bind_some, two_set, w1, w2]
  generalize be 4 s = x at l1 lp
  have c1 : leI (((x.length + [m, (t.length : Int)].length) * 1 : Nat) : Int) 140737488355328 = true := leI_pos (by simp; omega)
  have c2 : leI ((((x ++ [m, (t.length : Int)]).length + t.length) * 1 : Nat) : Int) 140737488355328 = true := leI_pos (by simp; omega)
  rw [if_pos c1, if_pos c2]
  rw [List.replicate_zero, List.append_nil] at lp
  exact lp
open Crc Be in
/-- What bytes are read as. -/
def blkRead (c : Int) (l : List Int) : (Int × (Int × List Int)) × Int :=
  if c < 1 ∨ 16 < c then ((0, 0, []), 1) else if (l.length : Int) ≠ c + 10 then ((0, 0, []), 2) else if isSealed l = false then ((0, 0, []), 4)
  else if c < l.getD 5 0 then ((0, 0, []), 3)
  else if blkErr c (num (l.take 4)) (l.getD 4 0) ((l.take (6 + (l.getD 5 0).toNat)).drop 6).length ≠ 0 then ((0, 0, []), 3)
  else if blkPack c (num (l.take 4)) (l.getD 4 0) ((l.take (6 + (l.getD 5 0).toNat)).drop 6) = l then ((num (l.take 4), l.getD 4 0, (l.take (6 + (l.getD 5 0).toNat)).drop 6), 0)
  else ((0, 0, []), 3)
theorem blkRead_ar (c : Int) (n x : Nat) (hc : 1 ≤ c ∧ c ≤ 16) (hn : (n : Int) = c + 10) (hx : (x : Int) ≤ c) : leI 0 4 = true ∧ ltI 4 (n : Int) = true ∧ leI 0 5 = true ∧ ltI 5 (n : Int) = true ∧ wr .i64 (x : Int) = (x : Int) ∧ wr .i64 (6 + (x : Int)) = ((6 + x : Nat) : Int) ∧ leI 0 ((6 + x : Nat) : Int) = true ∧
    leI ((6 + x : Nat) : Int) (n : Int) = true ∧ leI 0 6 = true ∧ leI 6 ((6 + x : Nat) : Int) = true ∧ leI 4 (n : Int) = true :=
  ⟨leI_pos (by decide), ltI_pos (by omega), leI_pos (by decide), ltI_pos (by omega), w64 (by omega) (by omega), w64 (by omega) (by omega), leI_pos (by omega), leI_pos (by omega), leI_pos (by decide), leI_pos (by omega), leI_pos (by omega)⟩
open Crc Be in
theorem blkRead_pack (c s m : Int) (t : List Int) (h : blkErr c s m t.length = 0) : blkRead c (blkPack c s m t) = ((s, m, t), 0) := by
  obtain ⟨hc, hs, hm, hn, _⟩ := blkErr_zero h
  have l0 := blkPack_length c s m t hn
  have e0 : blkPack c s m t = be 4 s ++ ([m, (t.length : Int)] ++ t ++ (List.replicate (c.toNat - t.length) 0 ++ seal4 (sum32 (blkBody c s m t)))) := by
    unfold blkPack
    conv => lhs; arg 1; unfold blkBody
    simp only [List.append_assoc]
  have lb : (be 4 s).length = 4 := be_length 4 s
  have e1 : (blkPack c s m t).take 4 = be 4 s := by
    rw [e0]
    exact List.take_left' lb
  have e2 : (blkPack c s m t).getD 4 0 = m := by
    rw [e0, List.getD_eq_getElem?_getD, List.getElem?_append_right (by omega), lb]
    rfl
  have e3 : (blkPack c s m t).getD 5 0 = (t.length : Int) := by
    rw [e0, List.getD_eq_getElem?_getD, List.getElem?_append_right (by omega), lb]
    rfl
  have e4 : ((blkPack c s m t).take (6 + t.length)).drop 6 = t := by
    have := drop_take_mid (be 4 s ++ [m, (t.length : Int)]) t (List.replicate (c.toNat - t.length) 0 ++ seal4 (sum32 (blkBody c s m t)))
    rw [List.length_append, lb] at this
    have e5 : be 4 s ++ [m, (t.length : Int)] ++ t ++ (List.replicate (c.toNat - t.length) 0 ++ seal4 (sum32 (blkBody c s m t))) = blkPack c s m t := by
      rw [e0]
      simp only [List.append_assoc]
    rw [e5] at this
    exact this
  have e6 : isSealed (blkPack c s m t) = true := isSealed_seal _
  unfold blkRead
  rw [e1, e2, e3, Int.toNat_natCast, e4, e6, num_be' 4 s hs.1 (by omega), l0, if_neg (by omega), if_neg (by omega), if_neg (by simp), if_neg (by omega), if_neg (fun hh => hh h), if_pos rfl]
/-! The blocks of messages. -/
theorem mk_range26 (n i : Nat) : 0 ≤ mkMark n i ∧ mkMark n i ≤ 3 ∧ (i + 1 ≠ n → mkMark n i < 2) ∧ (i + 1 = n → 2 ≤ mkMark n i) := by
  unfold mkMark
  by_cases h0 : i = 0
  · by_cases h1 : i + 1 = n
    · rw [if_pos h0, if_pos h1]
      exact ⟨by decide, by decide, fun h => absurd h1 h, fun _ => by decide⟩
    · rw [if_pos h0, if_neg h1]
      exact ⟨by decide, by decide, fun _ => by decide, fun h => absurd h h1⟩
  · by_cases h1 : i + 1 = n
    · rw [if_neg h0, if_pos h1]
      exact ⟨by decide, by decide, fun h => absurd h1 h, fun _ => by decide⟩
    · rw [if_neg h0, if_neg h1]
      exact ⟨by decide, by decide, fun _ => by decide, fun h => absurd h h1⟩
theorem piece_full (B len i : Nat) (hB : 1 ≤ B) (hi : i < nBlk B len) (hne : i + 1 ≠ nBlk B len) : (i + 1) * B ≤ len := by
  have h1 : i + 1 < nBlk B len := by omega
  exact (nBlk_lt B len (i + 1) hB h1).1
theorem blk_err (B s : Nat) (msg : List Int) (i : Nat) (hB : 1 ≤ B) (hB2 : B ≤ 16) (hi : i < nBlk B msg.length) (hs : s + i < 1000000) : blkErr (B : Int) ((s : Int) + (i : Int)) (mkMark (nBlk B msg.length) i) (piece B msg i).length = 0 := by
  obtain ⟨m1, m2, m3, m4⟩ := mk_range26 (nBlk B msg.length) i
  have hpl := piece_length B msg i
  have hp : (piece B msg i).length ≤ B := by rw [hpl]; exact Nat.min_le_left ..
  unfold blkErr
  rw [if_neg (by omega), if_neg]
  intro h
  rcases h with h | ⟨h, h'⟩
  · omega
  · by_cases hx : i + 1 = nBlk B msg.length
    · have := m4 hx
      omega
    · have h3 := piece_full B msg.length i hB hi hx
      rw [Nat.add_mul, Nat.one_mul] at h3
      have : (piece B msg i).length = B := by
        rw [hpl]
        exact Nat.min_eq_left (by omega)
      omega
/-- One block's bytes, one message's. -/
def pk (B s : Nat) (msg : List Int) (i : Nat) : List Int := blkPack (B : Int) ((s : Int) + (i : Int)) (mkMark (nBlk B msg.length) i) (piece B msg i)
def packs (B s : Nat) (msg : List Int) (n : Nat) : List (List Int) := (List.range n).map (pk B s msg)
theorem packs_len (B s : Nat) (msg : List Int) (n : Nat) : (packs B s msg n).length = n := by simp [packs]
theorem packs_succ (B s : Nat) (msg : List Int) (n : Nat) : packs B s msg (n + 1) = packs B s msg n ++ [pk B s msg n] := by
  unfold packs
  rw [List.range_succ, List.map_append]
  rfl
def allB (B : Nat) (l : List (List Int)) : List (List Int) := l.foldl (fun acc m => acc ++ packs B acc.length m (nBlk B m.length)) []
theorem allB_nil (B : Nat) : allB B [] = [] := rfl
theorem allB_snoc (B : Nat) (l : List (List Int)) (m : List Int) : allB B (l ++ [m]) = allB B l ++ packs B (allB B l).length m (nBlk B m.length) := by
  unfold allB
  rw [List.foldl_append]
  rfl
theorem allB_app (B : Nat) (l m : List (List Int)) : ∃ r, allB B (l ++ m) = allB B l ++ r := by
  induction m generalizing l with
  | nil => exact ⟨[], by rw [List.append_nil, List.append_nil]⟩
  | cons x m ih =>
    obtain ⟨r, hr⟩ := ih (l ++ [x])
    rw [List.append_assoc] at hr
    refine ⟨packs B (allB B l).length x (nBlk B x.length) ++ r, ?_⟩
    rw [← List.append_assoc, ← allB_snoc]
    exact hr
def endsB (B : Nat) (l : List (List Int)) : List Int := (List.range l.length).map fun i => ((allB B (l.take (i + 1))).length : Int)
theorem endsB_len (B : Nat) (l : List (List Int)) : (endsB B l).length = l.length := by simp [endsB]
theorem endsB_snoc (B : Nat) (l : List (List Int)) (m : List Int) : endsB B (l ++ [m]) = endsB B l ++ [((allB B (l ++ [m])).length : Int)] := by
  unfold endsB
  rw [List.length_append, List.length_singleton, List.range_succ, List.map_append, List.map_singleton]
  congr 1
  · apply List.map_congr_left
    intro i hi
    rw [List.mem_range] at hi
    rw [List.take_append_of_le_length (by omega)]
  · rw [List.take_of_length_le (by rw [List.length_append, List.length_singleton]; exact Nat.le_refl _)]
theorem endsB_get (B : Nat) (l : List (List Int)) (i : Nat) (h : i < l.length) : (endsB B l).getD i 0 = ((allB B (l.take (i + 1))).length : Int) := by
  unfold endsB
  rw [List.getD_eq_getElem?_getD, List.getElem?_map, List.getElem?_range h]
  rfl
theorem allB_len (B : Nat) (hB : 1 ≤ B) (l : List (List Int)) (h : ∀ m ∈ l, m.length ≤ 200) : (allB B l).length ≤ 201 * l.length ∧ l.length ≤ (allB B l).length := by
  suffices key : ∀ (rest pre : List (List Int)), l = pre ++ rest → (allB B pre).length ≤ 201 * pre.length ∧ pre.length ≤ (allB B pre).length → (allB B l).length ≤ 201 * l.length ∧ l.length ≤ (allB B l).length from key l [] rfl ⟨Nat.le_refl _, Nat.le_refl _⟩
  intro rest
  induction rest with
  | nil =>
    intro pre e hp
    rw [List.append_nil] at e
    rw [e]
    exact hp
  | cons x rest ih =>
    intro pre e hp
    refine ih (pre ++ [x]) (by rw [e]; simp) ?_
    have hx := h x (by rw [e]; simp)
    have h1 := nBlk_le B x.length hB
    have h2 := nBlk_pos B x.length hB
    rw [allB_snoc, List.length_append, List.length_append, List.length_singleton, packs_len]
    omega
theorem pk_bytes (B s : Nat) (msg : List Int) (i : Nat) (hB : 1 ≤ B) (hB2 : B ≤ 16) (hm : IsB msg) : IsB (pk B s msg i) ∧ (pk B s msg i).length = 10 + B := by
  obtain ⟨m1, m2, _, _⟩ := mk_range26 (nBlk B msg.length) i
  have hp : (piece B msg i).length ≤ B := by rw [piece_length]; exact Nat.min_le_left ..
  refine ⟨blkPack_bytes _ _ _ _ ⟨m1, m2⟩ (by omega) (fun c hc => hm c (List.mem_of_mem_drop (List.mem_of_mem_take hc))), ?_⟩
  have := blkPack_length (B : Int) ((s : Int) + (i : Int)) (mkMark (nBlk B msg.length) i) (piece B msg i) (by omega)
  rw [Int.toNat_natCast] at this
  exact this
theorem allB_bytes (B : Nat) (hB : 1 ≤ B) (hB2 : B ≤ 16) (l : List (List Int)) (h : ∀ m ∈ l, IsB m) : ∀ x ∈ allB B l, IsB x ∧ x.length = 10 + B := by
  suffices key : ∀ (rest pre : List (List Int)), l = pre ++ rest → (∀ x ∈ allB B pre, IsB x ∧ x.length = 10 + B) → ∀ x ∈ allB B l, IsB x ∧ x.length = 10 + B from key l [] rfl fun x hx => by cases hx
  intro rest
  induction rest with
  | nil =>
    intro pre e hp
    rw [List.append_nil] at e
    rw [e]
    exact hp
  | cons y rest ih =>
    intro pre e hp
    refine ih (pre ++ [y]) (by rw [e]; simp) ?_
    rw [allB_snoc]
    intro x hx
    rcases List.mem_append.1 hx with hx | hx
    · exact hp x hx
    · obtain ⟨i, _, rfl⟩ := List.mem_map.1 hx
      exact pk_bytes B _ y i hB hB2 (h y (by rw [e]; simp))
theorem row_set26 (x : List Int) : List.set (List.replicate 1 ([] : List Int)) 0 x = [x] := (congrArg (fun z : List Int => [z]) (Eq.refl x) : [x] = [x])
theorem ab_ar (i n a : Nat) (hi : i < n) (hn : n ≤ 300) (ha : a ≤ 20000) : ltI (i : Int) (n : Int) = true ∧ leI 0 (i : Int) = true ∧ wr .i64 ((i : Int) + 1) = ((i + 1 : Nat) : Int) ∧ leI (((a + 1) * 24 : Nat) : Int) 140737488355328 = true ∧ leI (((i + 1) * 8 : Nat) : Int) 140737488355328 = true := ⟨ltI_pos (by omega), leI_pos (by omega), w64s (by omega), leI_pos (by omega), leI_pos (by omega)⟩
theorem blocks_inner (k : Nat) (hk : 5001 ≤ k) (L : List (List Int) → Int → Int → Int → Int → Int → Int → Int → Int → Int → Int → Int → Int → List (List Int) → List Int → Option (List (List Int) × (List Int × Int))) (l : List (List Int)) (t21 t22 : Int) (B : Nat) (c1 c2 c3 c4 c5 c6 c7 c8 c9 : Int) (hB : 1 ≤ B) (hB2 : B ≤ 16) (acc : List (List Int)) (ends : List Int) (msg : List Int) (hm : IsB msg) (hl : msg.length ≤ 200) (ha : acc.length ≤ 15000) : ∀ (d i j : Nat), i + d = nBlk B msg.length → d < j →
    m36F23 k L j l t21 t22 ((nBlk B msg.length : Nat) : Int) (i : Int) (B : Int) c1 c2 c3 c4 c5 c6 c7 c8 c9 (acc ++ packs B acc.length msg i) ends (cutL B (acc.length : Int) msg) = m36F36 k L l t21 t22 (B : Int) c1 c2 c3 c4 c5 c6 c7 c8 c9 (acc ++ packs B acc.length msg (nBlk B msg.length)) ends := by
  have hn := nBlk_le B msg.length hB
  intro d
  induction d with
  | zero =>
    intro i j h hj
    obtain ⟨j, rfl⟩ : ∃ x, j = x + 1 := ⟨j - 1, by omega⟩
    obtain rfl : i = nBlk B msg.length := by omega
    rw [m36F23, m36X23, if_neg (by rw [ltI_neg (by omega)]; simp)]
  | succ d ih =>
    intro i j h hj
    obtain ⟨j, rfl⟩ : ∃ x, j = x + 1 := ⟨j - 1, by omega⟩
    have hi : i < nBlk B msg.length := by omega
    have hg := cutL_get B (acc.length : Int) msg i hi
    have hcl := cutL_length B (acc.length : Int) msg
    have hmk := blkMake_eq k hk (B : Int) ((acc.length : Int) + (i : Int)) (mkMark (nBlk B msg.length) i) (piece B msg i) (blk_err B acc.length msg i hB hB2 hi (by omega)) (fun c hc => hm c (List.mem_of_mem_drop (List.mem_of_mem_take hc)))
    have hz : ∀ z : Int, (!eqI z z) = false := fun z => by rw [eqI_pos rfl]; rfl
    have hlen : (acc ++ packs B acc.length msg i).length = acc.length + i := by rw [List.length_append, packs_len]
    have h2 := ih (i + 1) j (by omega) (by omega)
    rw [packs_succ, ← List.append_assoc] at h2
    obtain ⟨a1, a2, a3, a4, _⟩ := ab_ar i (nBlk B msg.length) (acc.length + i) hi (by omega) (by omega)
    rw [m36F23, m36X23]
    simp only [a1, a2, if_true, hcl, Int.toNat_natCast, hg, blkAt, hmk, Option.bind_some, hz, Bool.false_eq_true, if_false, row_set26, List.length_singleton, hlen, a4, a3]
    exact h2
theorem cut_long (k : Nat) (s : Int) (msg : List Int) (B : Nat) (c1 c2 c3 c4 c5 c6 c7 c8 c9 : Int) (ok : cfgOk (B : Int) c1 c2 c3 c4 c5 c6 c7 c8 c9) (hl : c8 < (msg.length : Int)) : m49F k ((B : Int), c1, c2, c3, c4, c5, c6, c7, c8, c9) s msg = some ([], 2) := by
  have z0 : (!eqI 0 0) = false := by rw [eqI_pos rfl]; rfl
  have c : ltI c8 (msg.length : Int) = true := ltI_pos hl
  simp only [m49F, m49X, check_ok k _ _ _ _ _ _ _ _ _ _ ok, Option.bind_some, z0, Bool.false_eq_true, if_false, c, if_true]
/-- The blocks of messages, if all may be; else what is wrong. -/
theorem blocks_loop (k : Nat) (hk : 5001 ≤ k) (l : List (List Int)) (hl : l.length ≤ 70) (hb : ∀ m ∈ l, IsB m) (B : Nat) (c1 c2 c3 c4 c5 c6 c7 c8 c9 : Int) (ok : cfgOk (B : Int) c1 c2 c3 c4 c5 c6 c7 c8 c9) : ∀ (rest pre : List (List Int)) (j : Nat), l = pre ++ rest → rest.length < j → (∀ m ∈ pre, (m.length : Int) ≤ c8) →
    ((∀ m ∈ rest, (m.length : Int) ≤ c8) → m36F11 k j l (l.length : Int) (pre.length : Int) (B : Int) c1 c2 c3 c4 c5 c6 c7 c8 c9 (allB B pre) (endsB B pre) = some (allB B l, endsB B l, 0)) ∧
    ((∃ m ∈ rest, c8 < (m.length : Int)) → m36F11 k j l (l.length : Int) (pre.length : Int) (B : Int) c1 c2 c3 c4 c5 c6 c7 c8 c9 (allB B pre) (endsB B pre) = some ([], [], 2)) := by
  have hB := ok.1
  have h8 := ok.2.2.2.2.2.2.2.2.1
  unfold within at hB h8
  have hB1 : 1 ≤ B := by omega
  intro rest
  induction rest with
  | nil =>
    intro pre j e hj hp
    obtain ⟨j, rfl⟩ : ∃ n, j = n + 1 := ⟨j - 1, by omega⟩
    rw [List.append_nil] at e
    subst e
    refine ⟨fun _ => ?_, fun ⟨m, hm, _⟩ => by cases hm⟩
    rw [m36F11, m36X11, if_neg (by rw [ltI_neg (by omega)]; simp)]
    rfl
  | cons x rest ih =>
    intro pre j e hj hp
    obtain ⟨j, rfl⟩ : ∃ n, j = n + 1 := ⟨j - 1, by omega⟩
    have hlen : l.length = pre.length + (rest.length + 1) := by rw [e]; simp
    have hx : l.getD pre.length [] = x := by
      have := gd_at pre rest x []
      rw [Int.toNat_natCast] at this
      rw [e]
      exact this
    have hj2 : rest.length < j := by simp only [List.length_cons] at hj; omega
    have hal := allB_len B hB1 pre (fun m hm => by have := hp m hm; omega)
    have hz : ∀ z : Int, (!eqI z z) = false := fun z => by rw [eqI_pos rfl]; rfl
    have hends := endsB_len B pre
    obtain ⟨q1, q2, q3, _, q5⟩ := ab_ar pre.length l.length 0 (by omega) (by omega) (by omega)
    by_cases hxl : (x.length : Int) ≤ c8
    · have hn := nBlk_le B x.length hB1
      have hc := cutCut_eq k hk (allB B pre).length x B c1 c2 c3 c4 c5 c6 c7 c8 c9 ok hxl (Int.natCast_nonneg _) (by clear q1 q2 q3 q5; omega)
      have hin := fun L => blocks_inner k hk L l (l.length : Int) (pre.length : Int) B c1 c2 c3 c4 c5 c6 c7 c8 c9 hB1 (by omega) (allB B pre) (endsB B pre) x (hb x (by rw [e]; simp)) (by omega) (by clear q1 q2 q3 q5; omega) (nBlk B x.length) 0 k (Nat.zero_add _) (by clear q1 q2 q3 q5; omega)
      have hcl := cutL_length B ((allB B pre).length : Int) x
      have p0 : allB B pre ++ packs B (allB B pre).length x 0 = allB B pre := List.append_nil _
      rw [p0] at hin
      have hin' : ∀ L, m36F23 k L k l (l.length : Int) (pre.length : Int) ((nBlk B x.length : Nat) : Int) 0 (B : Int) c1 c2 c3 c4 c5 c6 c7 c8 c9 (allB B pre) (endsB B pre) (cutL B ((allB B pre).length : Int) x) = _ := fun L => hin L
      obtain ⟨i1, i2⟩ := ih (pre ++ [x]) j (by rw [e]; simp) hj2 (fun m hm => by
        rcases List.mem_append.1 hm with hm | hm
        · exact hp m hm
        · rw [List.mem_singleton.1 hm]
          exact hxl)
      rw [endsB_snoc, allB_snoc, show (pre ++ [x]).length = pre.length + 1 by simp] at i1 i2
      have key : m36F11 k (j + 1) l (l.length : Int) (pre.length : Int) (B : Int) c1 c2 c3 c4 c5 c6 c7 c8 c9 (allB B pre) (endsB B pre) = m36F11 k j l (l.length : Int) ((pre.length + 1 : Nat) : Int) (B : Int) c1 c2 c3 c4 c5 c6 c7 c8 c9 (allB B pre ++ packs B (allB B pre).length x (nBlk B x.length)) (endsB B pre ++ [((allB B pre ++ packs B (allB B pre).length x (nBlk B x.length)).length : Int)]) := by
        rw [m36F11, m36X11]
        simp only [q1, q2, if_true, Int.toNat_natCast, hx, hc, Option.bind_some, hz, Bool.false_eq_true, if_false, hcl, hin', m36F36, m36X36, one_set, List.length_singleton, hends, q5, q3]
      exact ⟨fun h => key.trans (i1 fun m hm => h m (by simp [hm])), fun ⟨m, hm, hml⟩ => key.trans (i2 (by
        rcases List.mem_cons.1 hm with rfl | hm
        · exact absurd hxl (by omega)
        · exact ⟨m, hm, hml⟩))⟩
    · have hc := cut_long k (allB B pre).length x B c1 c2 c3 c4 c5 c6 c7 c8 c9 ok (by omega)
      have n2 : (!eqI 2 0) = true := by rw [eqI_neg (by decide)]; rfl
      refine ⟨fun h => absurd (h x (by simp)) hxl, fun _ => ?_⟩
      rw [m36F11, m36X11]
      simp only [q1, q2, if_true, Int.toNat_natCast, hx, hc, Option.bind_some, n2]
theorem blocks_ok (k : Nat) (hk : 5001 ≤ k) (l : List (List Int)) (hl : l.length ≤ 70) (hb : ∀ m ∈ l, IsB m) (B : Nat) (c1 c2 c3 c4 c5 c6 c7 c8 c9 : Int) (ok : cfgOk (B : Int) c1 c2 c3 c4 c5 c6 c7 c8 c9) (h : ∀ m ∈ l, (m.length : Int) ≤ c8) : m36F k ((B : Int), c1, c2, c3, c4, c5, c6, c7, c8, c9) l = some (allB B l, endsB B l, 0) := by
  have hz : ∀ z : Int, (!eqI z z) = false := fun z => by rw [eqI_pos rfl]; rfl
  have := (blocks_loop k hk l hl hb B c1 c2 c3 c4 c5 c6 c7 c8 c9 ok l [] k rfl (by omega) (fun m hm => by cases hm)).1 h
  simp only [m36F, m36X, check_ok k _ _ _ _ _ _ _ _ _ _ ok, Option.bind_some, hz, Bool.false_eq_true, if_false]
  exact this
theorem blocks_long (k : Nat) (hk : 5001 ≤ k) (l : List (List Int)) (hl : l.length ≤ 70) (hb : ∀ m ∈ l, IsB m) (B : Nat) (c1 c2 c3 c4 c5 c6 c7 c8 c9 : Int) (ok : cfgOk (B : Int) c1 c2 c3 c4 c5 c6 c7 c8 c9) (h : ∃ m ∈ l, c8 < (m.length : Int)) : m36F k ((B : Int), c1, c2, c3, c4, c5, c6, c7, c8, c9) l = some ([], [], 2) := by
  have hz : ∀ z : Int, (!eqI z z) = false := fun z => by rw [eqI_pos rfl]; rfl
  have := (blocks_loop k hk l hl hb B c1 c2 c3 c4 c5 c6 c7 c8 c9 ok l [] k rfl (by omega) (fun m hm => by cases hm)).2 h
  simp only [m36F, m36X, check_ok k _ _ _ _ _ _ _ _ _ _ ok, Option.bind_some, hz, Bool.false_eq_true, if_false]
  exact this
/-! The first block that is none. -/
theorem idxBlk_loop (k : Nat) (l : List (List Int)) (t : List Int) (f : Int) (ht : IsB t) (hl : l.length ≤ 100000) (hb : ∀ x ∈ l, IsB x) : ∀ (rest pre : List (List Int)) (j : Nat), l = pre ++ rest → rest.length < j →
    m44c39F5 k j l t f (l.length : Int) (pre.length : Int) = some (fidx (fun x => decide (x = t)) rest pre.length) := by
  intro rest
  induction rest with
  | nil =>
    intro pre j e hj
    obtain ⟨j, rfl⟩ : ∃ n, j = n + 1 := ⟨j - 1, by omega⟩
    have hlen : l.length = pre.length := by rw [e]; simp
    rw [m44c39F5, m44c39X5, if_neg (by rw [ltI_neg (by omega)]; simp)]
    rfl
  | cons x rest ih =>
    intro pre j e hj
    obtain ⟨j, rfl⟩ : ∃ n, j = n + 1 := ⟨j - 1, by omega⟩
    have hlen : l.length = pre.length + (rest.length + 1) := by rw [e]; simp
    have hx : l.getD (Int.toNat (pre.length : Int)) [] = x := by rw [e]; exact gd_at pre rest x []
    have hq := equalB k x t (hb x (by rw [e]; simp)) ht
    have hi := ih (pre ++ [x]) j (by rw [e]; simp) (by simp only [List.length_cons] at hj; omega)
    rw [List.length_append, List.length_singleton] at hi
    obtain ⟨c1, c2, c3⟩ := idx_ar pre.length l.length (by omega) hl
    rw [m44c39F5, m44c39X5]
    simp only [c1, c2, if_true, hx, m39F, m39X, hq, Option.bind_some, c3, hi]
    rw [fidx]
    by_cases h : x = t <;> simp [h]
theorem hasBlk (k : Nat) (l : List (List Int)) (t : List Int) (f : Int) (ht : IsB t) (hk : l.length < k) (hl : l.length ≤ 100000) (hb : ∀ x ∈ l, IsB x) : m28c39F k l (t, f) = some (l.any fun x => decide (x = t)) := by
  have := idxBlk_loop k l t f ht hl hb l [] k rfl hk
  simp only [m28c39F, m28c39X, m44c39F, m44c39X]
  rw [show (m44c39F5 k k l t f (l.length : Int) 0) = _ from this, Option.bind_some]
  rw [show (([] : List (List Int)).length) = 0 from rfl, fidx_any]
/-- Is it none of those that were sent by then? -/
def blkBad (B : Nat) (l : List (List Int)) (h : List Int × Int) : Bool := !(allB B (l.take h.2.toNat)).any fun x => decide (x = h.1)
theorem allB_take (B : Nat) (l : List (List Int)) (n : Nat) : (allB B l).take (allB B (l.take n)).length = allB B (l.take n) := by
  obtain ⟨r, hr⟩ := allB_app B (l.take n) (l.drop n)
  rw [List.take_append_drop] at hr
  rw [hr, List.take_left]
theorem allB_take_le (B : Nat) (l : List (List Int)) (n : Nat) : (allB B (l.take n)).length ≤ (allB B l).length := by
  obtain ⟨r, hr⟩ := allB_app B (l.take n) (l.drop n)
  rw [List.take_append_drop] at hr
  rw [hr, List.length_append]
  exact Nat.le_add_right ..
theorem blkBad_eq (k : Nat) (B : Nat) (l : List (List Int)) (h : List Int × Int) (h1 : IsB h.1) (h0 : 0 ≤ h.2) (h2 : h.2 ≤ (l.length : Int)) (hk : (allB B l).length < k) (hl : (allB B l).length ≤ 100000) (hb : ∀ x ∈ allB B l, IsB x) (hll : l.length ≤ 1000) : m38F k (h.1, h.2) (endsB B l) (allB B l) = some (blkBad B l h) := by
  obtain ⟨t, s⟩ := h
  obtain ⟨n, rfl⟩ := Int.eq_ofNat_of_zero_le h0
  have hn : n ≤ l.length := Int.ofNat_le.1 h2
  have htk := allB_take B l n
  have hle := allB_take_le B l n
  have hh := hasBlk k (allB B (l.take n)) t (n : Int) h1 (by omega) (by omega) (fun x hx => by
    rw [← htk] at hx
    exact hb x (List.mem_of_mem_take hx))
  have fin : ∀ m : Nat, m = (allB B (l.take n)).length → m38F8 k (allB B l) (m : Int) t (n : Int) = some (blkBad B l (t, (n : Int))) := by
    intro m hm
    have c1 : leI 0 (m : Int) = true := leI_pos (by omega)
    have c2 : leI (m : Int) ((allB B l).length : Int) = true := leI_pos (by omega)
    have htk' : (allB B l).take m = allB B (l.take n) := by rw [hm]; exact htk
    simp only [m38F8, m38X8, c1, c2, if_true, Int.toNat_natCast, htk', hh, Option.bind_some]
    rfl
  simp only [m38F, m38X]
  by_cases hz : n = 0
  · subst hz
    rw [if_neg (by rw [ltI_neg (by decide)]; simp)]
    exact fin 0 rfl
  · have w : wr .i64 ((n : Int) - 1) = ((n - 1 : Nat) : Int) := by rw [w64 (by omega) (by omega)]; omega
    have c1 : ltI 0 (n : Int) = true := ltI_pos (by omega)
    have c2 : leI 0 ((n - 1 : Nat) : Int) = true := leI_pos (by omega)
    have hel := endsB_len B l
    have c3 : ltI ((n - 1 : Nat) : Int) ((endsB B l).length : Int) = true := ltI_pos (by omega)
    have hg := endsB_get B l (n - 1) (by omega)
    rw [show n - 1 + 1 = n by omega] at hg
    simp only [c1, if_true, w, c2, c3, Int.toNat_natCast, hg]
    exact fin _ rfl
/-- Had blocks that may be looked at. -/
def GoodH (n : Nat) (l : List (List Int × Int)) : Prop := ∀ h ∈ l, IsB h.1 ∧ 0 ≤ h.2 ∧ h.2 ≤ (n : Int)
theorem auditBlk_loop (k : Nat) (B : Nat) (l : List (List Int)) (hk : (allB B l).length < k) (hl : (allB B l).length ≤ 100000) (hb : ∀ x ∈ allB B l, IsB x) (hll : l.length ≤ 1000) (hs : List (List Int × Int)) (hn : hs.length ≤ 1000) (hg : GoodH l.length hs) : ∀ (rest pre : List (List Int × Int)) (j : Nat), hs = pre ++ rest → rest.length < j →
    m37c38F5 k j hs (endsB B l) (allB B l) (hs.length : Int) (pre.length : Int) = some (fidx (blkBad B l) rest pre.length) := by
  intro rest
  induction rest with
  | nil =>
    intro pre j e hj
    obtain ⟨j, rfl⟩ : ∃ n, j = n + 1 := ⟨j - 1, by omega⟩
    have hlen : hs.length = pre.length := by rw [e]; simp
    rw [m37c38F5, m37c38X5, if_neg (by rw [ltI_neg (by omega)]; simp)]
    rfl
  | cons x rest ih =>
    intro pre j e hj
    obtain ⟨j, rfl⟩ : ∃ n, j = n + 1 := ⟨j - 1, by omega⟩
    have hlen : hs.length = pre.length + (rest.length + 1) := by rw [e]; simp
    have hx : hs.getD (Int.toNat (pre.length : Int)) ([], 0) = x := by rw [e]; exact gd_at pre rest x ([], 0)
    obtain ⟨x1, x2, x3⟩ := hg x (by rw [e]; simp)
    have hq := blkBad_eq k B l x x1 x2 x3 hk hl hb hll
    have hi := ih (pre ++ [x]) j (by rw [e]; simp) (by simp only [List.length_cons] at hj; omega)
    rw [List.length_append, List.length_singleton] at hi
    obtain ⟨c1, c2, c3⟩ := idx_ar pre.length hs.length (by omega) (by omega)
    rw [m37c38F5, m37c38X5]
    simp only [c1, c2, if_true, hx, hq, Option.bind_some, c3, hi]
    rw [fidx]
    split <;> rfl
theorem sent_loop (k : Nat) (l : List (List Int)) (all : List (List Int)) (ends : List Int) (hs : List (List Int × Int)) (hn : hs.length ≤ 1000) : ∀ (rest pre : List (List Int × Int)) (j : Nat), hs = pre ++ rest → rest.length < j →
    ((∀ h ∈ rest, 0 ≤ h.2 ∧ h.2 ≤ (l.length : Int)) → m16F11 k j l hs hs (hs.length : Int) (pre.length : Int) all ends = m16F20 k hs all ends) ∧
    ((∃ h ∈ rest, h.2 < 0 ∨ (l.length : Int) < h.2) → m16F11 k j l hs hs (hs.length : Int) (pre.length : Int) all ends = some (0, 1)) := by
  intro rest
  induction rest with
  | nil =>
    intro pre j e hj
    obtain ⟨j, rfl⟩ : ∃ n, j = n + 1 := ⟨j - 1, by omega⟩
    have hlen : hs.length = pre.length := by rw [e]; simp
    refine ⟨fun _ => ?_, fun ⟨h, hm, _⟩ => by cases hm⟩
    rw [m16F11, m16X11, if_neg (by rw [ltI_neg (by omega)]; simp)]
  | cons x rest ih =>
    intro pre j e hj
    obtain ⟨j, rfl⟩ : ∃ n, j = n + 1 := ⟨j - 1, by omega⟩
    have hlen : hs.length = pre.length + (rest.length + 1) := by rw [e]; simp
    have hx : hs.getD (Int.toNat (pre.length : Int)) ([], 0) = x := by rw [e]; exact gd_at pre rest x ([], 0)
    obtain ⟨i1, i2⟩ := ih (pre ++ [x]) j (by rw [e]; simp) (by simp only [List.length_cons] at hj; omega)
    rw [List.length_append, List.length_singleton] at i1 i2
    obtain ⟨c1, c2, c3⟩ := idx_ar pre.length hs.length (by omega) (by omega)
    rw [m16F11, m16X11]
    simp only [c1, c2, if_true, hx, c3]
    clear c1 c2 c3
    by_cases h1 : x.2 < 0
    · rw [if_pos (ltI_pos h1)]
      exact ⟨fun h => absurd (h x (by simp)).1 (by omega), fun _ => rfl⟩
    · rw [if_neg (by rw [ltI_neg h1]; simp)]
      by_cases h2 : (l.length : Int) < x.2
      · rw [if_pos (ltI_pos h2)]
        exact ⟨fun h => absurd (h x (by simp)).2 (by omega), fun _ => rfl⟩
      · rw [if_neg (by rw [ltI_neg h2]; simp)]
        refine ⟨fun h => i1 fun y hy => h y (by simp [hy]), fun ⟨y, hy, hbad⟩ => i2 ?_⟩
        rcases List.mem_cons.1 hy with rfl | hy
        · exact absurd hbad (by omega)
        · exact ⟨y, hy, hbad⟩
theorem auditBlk_eq (k : Nat) (hk : 20000 ≤ k) (l : List (List Int)) (hl : l.length ≤ 70) (hb : ∀ m ∈ l, IsB m) (B : Nat) (c1 c2 c3 c4 c5 c6 c7 c8 c9 : Int) (ok : cfgOk (B : Int) c1 c2 c3 c4 c5 c6 c7 c8 c9) (h : ∀ m ∈ l, (m.length : Int) ≤ c8) (hs : List (List Int × Int)) (hn : hs.length ≤ 1000) (hg : GoodH l.length hs) :
    m16F k ((B : Int), c1, c2, c3, c4, c5, c6, c7, c8, c9) l hs = some (fidx (blkBad B l) hs 0, 0) := by
  have hB := ok.1
  have h8 := ok.2.2.2.2.2.2.2.2.1
  unfold within at hB h8
  have hz : ∀ z : Int, (!eqI z z) = false := fun z => by rw [eqI_pos rfl]; rfl
  have hbl := blocks_ok k (by omega) l hl hb B c1 c2 c3 c4 c5 c6 c7 c8 c9 ok h
  have hal := allB_len B (by omega) l (fun m hm => by have := h m hm; omega)
  have hab := allB_bytes B (by omega) (by omega) l hb
  have h1 := (sent_loop k l (allB B l) (endsB B l) hs hn hs [] k rfl (by omega)).1 fun x hx => (hg x hx).2
  have h2 := auditBlk_loop k B l (by omega) (by omega) (fun x hx => (hab x hx).1) (by omega) hs hn hg hs [] k rfl (by omega)
  simp only [m16F, m16X, hbl, Option.bind_some, hz, Bool.false_eq_true, if_false]
  refine Eq.trans h1 ?_
  simp only [m16F20, m16X20, m37c38F, m37c38X]
  rw [show (m37c38F5 k k hs (endsB B l) (allB B l) (hs.length : Int) 0) = _ from h2]
  rfl
theorem fidx_none {α : Type} (p : α → Bool) : ∀ (l : List α) (i : Nat), (∀ x ∈ l, p x = false) → fidx p l i = -1
  | [], _, _ => rfl
  | x :: l, i, h => by
    rw [fidx, if_neg (by rw [h x (by simp)]; simp)]
    exact fidx_none p l (i + 1) fun y hy => h y (by simp [hy])
theorem fidx_at {α : Type} (p : α → Bool) (x : α) (m : List α) (hx : p x = true) : ∀ (l : List α) (i : Nat), (∀ y ∈ l, p y = false) → fidx p (l ++ x :: m) i = ((i + l.length : Nat) : Int)
  | [], i, _ => by
    rw [List.nil_append, fidx, if_pos hx]
    rfl
  | y :: l, i, h => by
    rw [List.cons_append, fidx, if_neg (by rw [h y (by simp)]; simp), fidx_at p x m hx l (i + 1) fun z hz => h z (by simp [hz]), List.length_cons]
    congr 1
    omega
/-! Rows held against one another. -/
theorem rows_loop (k : Nat) (hk : 5001 ≤ k) (a b : List (List Int)) (hl : a.length ≤ 100000) (he : a.length = b.length) (hb : ∀ x ∈ a, x.length ≤ 5000) : ∀ (ra rb pa pb : List (List Int)) (j : Nat), a = pa ++ ra → b = pb ++ rb → pa.length = pb.length → ra.length < j →
    m17F9 k j a b (pa.length : Int) = some (decide (ra = rb)) := by
  intro ra
  induction ra with
  | nil =>
    intro rb pa pb j ha hbb hp hj
    obtain ⟨j, rfl⟩ : ∃ i, j = i + 1 := ⟨j - 1, by omega⟩
    have h1 : a.length = pa.length := by rw [ha]; simp
    have h2 : b.length = pb.length + rb.length := by rw [hbb]; simp
    obtain rfl : rb = [] := List.eq_nil_of_length_eq_zero (by omega)
    rw [m17F9, m17X9, if_neg (by rw [ltI_neg (by omega)]; simp)]
    rfl
  | cons x ra ih =>
    intro rb pa pb j ha hbb hp hj
    obtain ⟨j, rfl⟩ : ∃ i, j = i + 1 := ⟨j - 1, by omega⟩
    have h1 : a.length = pa.length + (ra.length + 1) := by rw [ha]; simp
    have h2 : b.length = pb.length + rb.length := by rw [hbb]; simp
    cases rb with
    | nil => simp only [List.length_nil] at h2; omega
    | cons y rb =>
      simp only [List.length_cons] at h2 hj
      have e1 : a.getD (Int.toNat (pa.length : Int)) [] = x := by rw [ha]; exact gd_at pa ra x []
      have e2 : b.getD (Int.toNat (pa.length : Int)) [] = y := by rw [hbb]; exact gd_at' pb rb y [] pa.length hp.symm
      have hq := bytes_eq' k hk x y (hb x (by rw [ha]; simp))
      have hi := ih rb (pa ++ [x]) (pb ++ [y]) j (by rw [ha]; simp) (by rw [hbb]; simp) (by simp [hp]) (by omega)
      rw [List.length_append, List.length_singleton] at hi
      have c4 : ltI (pa.length : Int) (b.length : Int) = true := ltI_pos (by omega)
      obtain ⟨c1, c2, c3⟩ := idx_ar pa.length a.length (by omega) hl
      rw [m17F9, m17X9]
      simp only [c1, c2, c4, if_true, e1, e2, hq, Option.bind_some, c3, hi]
      by_cases h : x = y <;> simp [h]
theorem rows_eq' (k : Nat) (hk : 5001 ≤ k) (a b : List (List Int)) (hl : a.length < k) (hl2 : a.length ≤ 100000) (hb : ∀ x ∈ a, x.length ≤ 5000) : m17F k a b = some (decide (a = b)) := by
  simp only [m17F, m17X]
  by_cases he : a.length = b.length
  · have := rows_loop k hk a b hl2 he hb a b [] [] k rfl rfl rfl (by omega)
    rw [if_neg (by rw [eqI_pos (by omega)]; simp)]
    exact this
  · rw [if_pos (by rw [eqI_neg (by omega)]; rfl), decide_eq_false fun h => he (by rw [h])]
theorem eqf_loop (k : Nat) (a b : List (List Int)) (hl : a.length ≤ 100000) (he : a.length = b.length) (hb : ∀ x ∈ a, IsB x) (hb2 : ∀ x ∈ b, IsB x) : ∀ (ra rb pa pb : List (List Int)) (j : Nat), a = pa ++ ra → b = pb ++ rb → pa.length = pb.length → ra.length < j →
    m40c30F9 k j b a (a.length : Int) (pa.length : Int) = some (decide (ra = rb)) := by
  intro ra
  induction ra with
  | nil =>
    intro rb pa pb j ha hbb hp hj
    obtain ⟨j, rfl⟩ : ∃ i, j = i + 1 := ⟨j - 1, by omega⟩
    have h1 : a.length = pa.length := by rw [ha]; simp
    have h2 : b.length = pb.length + rb.length := by rw [hbb]; simp
    obtain rfl : rb = [] := List.eq_nil_of_length_eq_zero (by omega)
    rw [m40c30F9, m40c30X9, if_neg (by rw [ltI_neg (by omega)]; simp)]
    rfl
  | cons x ra ih =>
    intro rb pa pb j ha hbb hp hj
    obtain ⟨j, rfl⟩ : ∃ i, j = i + 1 := ⟨j - 1, by omega⟩
    have h1 : a.length = pa.length + (ra.length + 1) := by rw [ha]; simp
    have h2 : b.length = pb.length + rb.length := by rw [hbb]; simp
    cases rb with
    | nil => simp only [List.length_nil] at h2; omega
    | cons y rb =>
      simp only [List.length_cons] at h2 hj
      have e1 : a.getD (Int.toNat (pa.length : Int)) [] = x := by rw [ha]; exact gd_at pa ra x []
      have e2 : b.getD (Int.toNat (pa.length : Int)) [] = y := by rw [hbb]; exact gd_at' pb rb y [] pa.length hp.symm
      have hq := equalB k x y (hb x (by rw [ha]; simp)) (hb2 y (by rw [hbb]; simp))
      have hi := ih rb (pa ++ [x]) (pb ++ [y]) j (by rw [ha]; simp) (by rw [hbb]; simp) (by simp [hp]) (by omega)
      rw [List.length_append, List.length_singleton] at hi
      have c4 : ltI (pa.length : Int) (b.length : Int) = true := ltI_pos (by omega)
      obtain ⟨c1, c2, c3⟩ := idx_ar pa.length a.length (by omega) hl
      rw [m40c30F9, m40c30X9]
      simp only [c1, c2, c4, if_true, e1, e2, hq, Option.bind_some, c3, hi]
      by_cases h : x = y <;> simp [h]
/-- Is the one a beginning of the other? -/
theorem prefix_eq (k : Nat) (a b : List (List Int)) (hk : a.length < k) (hl : a.length ≤ 100000) (ha : ∀ x ∈ a, IsB x) (hb : ∀ x ∈ b, IsB x) : m18F k a b = some (decide (a = b.take a.length)) := by
  have hz : ∀ z : Int, (!eqI z z) = false := fun z => by rw [eqI_pos rfl]; rfl
  simp only [m18F, m18X]
  by_cases h : a.length ≤ b.length
  · have hlt : (b.take a.length).length = a.length := by rw [List.length_take]; omega
    have lp := eqf_loop k a (b.take a.length) hl hlt.symm ha (fun x hx => hb x (List.mem_of_mem_take hx)) a (b.take a.length) [] [] k rfl rfl rfl hk
    have c1 : leI (a.length : Int) (b.length : Int) = true := leI_pos (by omega)
    have c2 : leI 0 (a.length : Int) = true := leI_pos (by omega)
    simp only [c1, c2, if_true, Int.toNat_natCast, m40c30F, m40c30X, hlt, hz, Bool.false_eq_true, if_false]
    rw [show (m40c30F9 k k (b.take a.length) a (a.length : Int) 0) = _ from lp]
    rfl
  · rw [if_neg (by rw [leI_neg (by omega)]; simp), decide_eq_false]
    intro e
    have := congrArg List.length e
    rw [List.length_take] at this
    omega

/-! The page's blocks of messages. -/
theorem refNum_eq (k : Nat) (B : Nat) (c1 c2 c3 c4 c5 c6 c7 c8 c9 : Int) (hB : 1 ≤ B) (hB2 : B ≤ 16) (len : Nat) (hl : len ≤ 200) : m47F k ((B : Int), c1, c2, c3, c4, c5, c6, c7, c8, c9) (len : Int) = some (nBlk B len : Int) := by
  have ar : (!eqI (B : Int) 0) = true ∧ wr .i64 ((len : Int) + (B : Int)) = ((len + B : Nat) : Int) ∧ wr .i64 (((len + B : Nat) : Int) - 1) = ((len + B - 1 : Nat) : Int) :=
    ⟨by rw [eqI_neg (by omega)]; rfl, by rw [w64 (by omega) (by omega)]; omega, by rw [w64 (by omega) (by omega)]; omega⟩
  obtain ⟨a1, a2, a3⟩ := ar
  have e : Int.tdiv ((len + B - 1 : Nat) : Int) (B : Int) = (((len + B - 1) / B : Nat) : Int) := by
    rw [Int.tdiv_eq_ediv_of_nonneg (Int.natCast_nonneg _)]
    exact (Int.natCast_ediv _ _).symm
  have hd : (len + B - 1) / B ≤ len + B - 1 := Nat.div_le_self _ _
  have w : wr .i64 (((len + B - 1) / B : Nat) : Int) = (((len + B - 1) / B : Nat) : Int) := by
    clear a2 a3 e
    generalize (len + B - 1) / B = z at hd
    exact w64n (by omega)
  have hm : mx (((len + B - 1) / B : Nat) : Int) 1 = (nBlk B len : Int) := by
    unfold nBlk mx
    by_cases h0 : len = 0
    · subst h0
      rw [if_pos rfl, Nat.zero_add, Nat.div_eq_of_lt (by omega)]
      rfl
    · rw [if_neg h0]
      have : 1 ≤ (len + B - 1) / B := (Nat.le_div_iff_mul_le hB).2 (by omega)
      rw [if_neg (by omega)]
  simp only [m47F, m47X, a1, if_true, a2, a3, e, w, hm]
theorem refcut_loop (k : Nat) (s : Int) (msg : List Int) (B : Nat) (c1 c2 c3 c4 c5 c6 c7 c8 c9 : Int) (n : Nat) (hn : n = nBlk B msg.length) (hB : 1 ≤ B) (hB2 : B ≤ 16) (hl : msg.length ≤ 200) (hs : 0 ≤ s) (hs2 : s + (n : Int) ≤ 1073741824) : ∀ (d i j : Nat), i + d = n → d < j →
    m33F17 k j s msg (n : Int) (i : Int) (B : Int) c1 c2 c3 c4 c5 c6 c7 c8 c9 (cutTo B n s msg i) = some (cutTo B n s msg n, 0) := by
  have hn2 : n ≤ 201 := by
    have := nBlk_le B msg.length hB
    omega
  intro d
  induction d with
  | zero =>
    intro i j hi hj
    obtain ⟨j, rfl⟩ : ∃ y, j = y + 1 := ⟨j - 1, by omega⟩
    obtain rfl : i = n := by omega
    rw [m33F17, m33X17, if_neg (by rw [ltI_neg (by omega)]; simp)]
    rfl
  | succ d ih =>
    intro i j hi hj
    obtain ⟨j, rfl⟩ : ∃ y, j = y + 1 := ⟨j - 1, by omega⟩
    have hin : i < n := by omega
    have g1 : i + 1 + d = n := by omega
    have g2 : d < j := by omega
    have hlo := (nBlk_lt B msg.length i hB (hn ▸ hin)).1
    obtain ⟨hi', q1, q2, q3, q4, q5, q6, q7⟩ := cut_ar B msg.length i n hB hB2 hl hin hn2 hlo
    have hp : (msg.take hi').drop (i * B) = piece B msg i := by rw [q7]; exact piece_eq B msg i
    have hpl : (piece B msg i).length ≤ 5000 := by
      unfold piece
      exact Nat.le_trans (List.length_take_le _ _) (Nat.le_trans hB2 (by decide))
    have h2 := ih (i + 1) j g1 g2
    rw [cutTo_succ] at h2
    obtain ⟨r1, r2, r3, r4, r5, r6, r7, r8⟩ := cut_ar2 s i n hs hs2 hin hn2
    have fin : ∀ m : Int, (m = 0 ∨ m = 1) → m = (if i = 0 then 1 else 0) → m33F26 k (m33F17 k j) s msg (n : Int) (i : Int) (B : Int) c1 c2 c3 c4 c5 c6 c7 c8 c9 (cutTo B n s msg i) (s + (i : Int)) m (piece B msg i) = some (cutTo B n s msg n, 0) := by
      intro m hm hm2
      have hm3 : wr .i64 (m + 2) = m + 2 := w64 (by omega) (by omega)
      simp only [m33F26, m33X26, r3, m33F30, m33X30, blk_set, List.length_singleton, cutTo_length, r4, if_true, r5, hm3]
      by_cases hlast : i + 1 = n
      · rw [if_pos (r6 hlast)]
        have e : blkAt B n s msg i = (s + (i : Int), m + 2, piece B msg i) := by
          unfold blkAt mkMark
          rw [← hm2, if_pos hlast]
        rw [e] at h2
        exact h2
      · rw [if_neg (by rw [r7 hlast]; simp)]
        have e : blkAt B n s msg i = (s + (i : Int), m, piece B msg i) := by
          unfold blkAt mkMark
          rw [← hm2, if_neg hlast, Int.add_zero]
        rw [e] at h2
        exact h2
    rw [m33F17, m33X17]
    simp only [r1, if_true, q1, q2, q3, q4, q5, q6, Int.toNat_natCast, hp, twin_eq k _ hpl, Option.bind_some, r2]
    by_cases h0 : i = 0
    · rw [if_pos (eqI_pos (by rw [h0]; rfl))]
      exact fin 1 (.inr rfl) (by rw [if_pos h0])
    · rw [if_neg (by rw [r8 h0]; simp)]
      exact fin 0 (.inl rfl) (by rw [if_neg h0])
theorem refCut_eq (k : Nat) (hk : 5001 ≤ k) (s : Int) (msg : List Int) (B : Nat) (c1 c2 c3 c4 c5 c6 c7 c8 c9 : Int) (ok : cfgOk (B : Int) c1 c2 c3 c4 c5 c6 c7 c8 c9) (hl : (msg.length : Int) ≤ c8) (hs : 0 ≤ s) (hs2 : s + (nBlk B msg.length : Int) ≤ 1073741824) :
    m33F k ((B : Int), c1, c2, c3, c4, c5, c6, c7, c8, c9) s msg = some (cutL B s msg, 0) := by
  have hB := ok.1
  have h8 := ok.2.2.2.2.2.2.2.2.1
  unfold within at hB h8
  have hl2 : msg.length ≤ 200 := by omega
  have hB1 : 1 ≤ B := by omega
  have hle := nBlk_le B msg.length hB1
  have lp := refcut_loop k s msg B c1 c2 c3 c4 c5 c6 c7 c8 c9 (nBlk B msg.length) rfl hB1 (by omega) hl2 hs hs2 (nBlk B msg.length) 0 k (by omega) (by omega)
  have bl := refNum_eq k B c1 c2 c3 c4 c5 c6 c7 c8 c9 hB1 (by omega) msg.length hl2
  have ar : ltI c8 (msg.length : Int) = false ∧ ltI s 0 = false ∧ ltI (wr .i64 (1073741824 - (nBlk B msg.length : Int))) s = false :=
    ⟨ltI_neg (by omega), ltI_neg (by omega), by rw [w64 (by omega) (by omega)]; exact ltI_neg (by omega)⟩
  obtain ⟨a1, a2, a3⟩ := ar
  simp only [m33F, m33X, Bool.false_eq_true, if_false, a1, bl, Option.bind_some, a2, a3]
  exact lp
theorem refCut_long (k : Nat) (s : Int) (msg : List Int) (b c1 c2 c3 c4 c5 c6 c7 c8 c9 : Int) (hl : c8 < (msg.length : Int)) : m33F k (b, c1, c2, c3, c4, c5, c6, c7, c8, c9) s msg = some ([], 2) := by
  have c : ltI c8 (msg.length : Int) = true := ltI_pos hl
  simp only [m33F, m33X, c, if_true]
theorem refblocks_inner (k : Nat) (hk : 5001 ≤ k) (L : List (List Int) → Int → Int → Int → Int → Int → Int → Int → Int → Int → Int → Int → List (List Int) → Option (List (List Int) × Int)) (l : List (List Int)) (t7 : Int) (B : Nat) (c1 c2 c3 c4 c5 c6 c7 c8 c9 : Int) (hB : 1 ≤ B) (hB2 : B ≤ 16) (acc : List (List Int)) (msg : List Int) (hm : IsB msg) (hl : msg.length ≤ 200) (ha : acc.length ≤ 15000) : ∀ (d i j : Nat), i + d = nBlk B msg.length → d < j →
    m13F19 k L j l t7 (i : Int) (B : Int) c1 c2 c3 c4 c5 c6 c7 c8 c9 (acc ++ packs B acc.length msg i) (cutL B (acc.length : Int) msg) = m13F8 k L l t7 (B : Int) c1 c2 c3 c4 c5 c6 c7 c8 c9 (acc ++ packs B acc.length msg (nBlk B msg.length)) := by
  have hn := nBlk_le B msg.length hB
  intro d
  induction d with
  | zero =>
    intro i j h hj
    obtain ⟨j, rfl⟩ : ∃ x, j = x + 1 := ⟨j - 1, by omega⟩
    obtain rfl : i = nBlk B msg.length := by omega
    rw [m13F19, m13X19, if_neg (by rw [cutL_length, ltI_neg (by omega)]; simp)]
  | succ d ih =>
    intro i j h hj
    obtain ⟨j, rfl⟩ : ∃ x, j = x + 1 := ⟨j - 1, by omega⟩
    have hi : i < nBlk B msg.length := by omega
    have hg := cutL_get B (acc.length : Int) msg i hi
    have hcl := cutL_length B (acc.length : Int) msg
    have hmk := refBytes_eq k hk (B : Int) ((acc.length : Int) + (i : Int)) (mkMark (nBlk B msg.length) i) (piece B msg i) (blk_err B acc.length msg i hB hB2 hi (by omega)) (fun c hc => hm c (List.mem_of_mem_drop (List.mem_of_mem_take hc)))
    have hlen : (acc ++ packs B acc.length msg i).length = acc.length + i := by rw [List.length_append, packs_len]
    have h2 := ih (i + 1) j (by omega) (by omega)
    rw [packs_succ, ← List.append_assoc] at h2
    obtain ⟨a1, a2, a3, a4, _⟩ := ab_ar i (nBlk B msg.length) (acc.length + i) hi (by omega) (by omega)
    rw [m13F19, m13X19]
    simp only [a1, a2, if_true, hcl, Int.toNat_natCast, hg, blkAt, hmk, Option.bind_some, row_set26, List.length_singleton, hlen, a4, a3]
    exact h2
theorem refblocks_loop (k : Nat) (hk : 5001 ≤ k) (l : List (List Int)) (hl : l.length ≤ 70) (hb : ∀ m ∈ l, IsB m) (B : Nat) (c1 c2 c3 c4 c5 c6 c7 c8 c9 : Int) (ok : cfgOk (B : Int) c1 c2 c3 c4 c5 c6 c7 c8 c9) : ∀ (rest pre : List (List Int)) (j : Nat), l = pre ++ rest → rest.length < j → (∀ m ∈ pre, (m.length : Int) ≤ c8) →
    ((∀ m ∈ rest, (m.length : Int) ≤ c8) → m13F7 k j l (pre.length : Int) (B : Int) c1 c2 c3 c4 c5 c6 c7 c8 c9 (allB B pre) = some (allB B l, 0)) ∧
    ((∃ m ∈ rest, c8 < (m.length : Int)) → m13F7 k j l (pre.length : Int) (B : Int) c1 c2 c3 c4 c5 c6 c7 c8 c9 (allB B pre) = some ([], 2)) := by
  have hB := ok.1
  have h8 := ok.2.2.2.2.2.2.2.2.1
  unfold within at hB h8
  have hB1 : 1 ≤ B := by omega
  intro rest
  induction rest with
  | nil =>
    intro pre j e hj hp
    obtain ⟨j, rfl⟩ : ∃ n, j = n + 1 := ⟨j - 1, by omega⟩
    rw [List.append_nil] at e
    subst e
    refine ⟨fun _ => ?_, fun ⟨m, hm, _⟩ => by cases hm⟩
    rw [m13F7, m13X7, if_neg (by rw [ltI_neg (by omega)]; simp)]
    rfl
  | cons x rest ih =>
    intro pre j e hj hp
    obtain ⟨j, rfl⟩ : ∃ n, j = n + 1 := ⟨j - 1, by omega⟩
    have hlen : l.length = pre.length + (rest.length + 1) := by rw [e]; simp
    have hx : l.getD pre.length [] = x := by
      have := gd_at pre rest x []
      rw [Int.toNat_natCast] at this
      rw [e]
      exact this
    have hj2 : rest.length < j := by simp only [List.length_cons] at hj; omega
    have hal := allB_len B hB1 pre (fun m hm => by have := hp m hm; omega)
    have hz : ∀ z : Int, (!eqI z z) = false := fun z => by rw [eqI_pos rfl]; rfl
    obtain ⟨q1, q2, q3, _, q5⟩ := ab_ar pre.length l.length 0 (by omega) (by omega) (by omega)
    by_cases hxl : (x.length : Int) ≤ c8
    · have hn := nBlk_le B x.length hB1
      have hc := refCut_eq k hk (allB B pre).length x B c1 c2 c3 c4 c5 c6 c7 c8 c9 ok hxl (Int.natCast_nonneg _) (by clear q1 q2 q3 q5; omega)
      have hin := fun L => refblocks_inner k hk L l (pre.length : Int) B c1 c2 c3 c4 c5 c6 c7 c8 c9 hB1 (by omega) (allB B pre) x (hb x (by rw [e]; simp)) (by omega) (by clear q1 q2 q3 q5; omega) (nBlk B x.length) 0 k (Nat.zero_add _) (by clear q1 q2 q3 q5; omega)
      have p0 : allB B pre ++ packs B (allB B pre).length x 0 = allB B pre := List.append_nil _
      rw [p0] at hin
      have hin' : ∀ L, m13F19 k L k l (pre.length : Int) 0 (B : Int) c1 c2 c3 c4 c5 c6 c7 c8 c9 (allB B pre) (cutL B ((allB B pre).length : Int) x) = _ := fun L => hin L
      obtain ⟨i1, i2⟩ := ih (pre ++ [x]) j (by rw [e]; simp) hj2 (fun m hm => by
        rcases List.mem_append.1 hm with hm | hm
        · exact hp m hm
        · rw [List.mem_singleton.1 hm]
          exact hxl)
      rw [allB_snoc, show (pre ++ [x]).length = pre.length + 1 by simp] at i1 i2
      have key : m13F7 k (j + 1) l (pre.length : Int) (B : Int) c1 c2 c3 c4 c5 c6 c7 c8 c9 (allB B pre) = m13F7 k j l ((pre.length + 1 : Nat) : Int) (B : Int) c1 c2 c3 c4 c5 c6 c7 c8 c9 (allB B pre ++ packs B (allB B pre).length x (nBlk B x.length)) := by
        rw [m13F7, m13X7]
        simp only [q1, q2, if_true, Int.toNat_natCast, hx, hc, Option.bind_some, hz, Bool.false_eq_true, if_false, hin', m13F8, m13X8, q3]
      exact ⟨fun h => key.trans (i1 fun m hm => h m (by simp [hm])), fun ⟨m, hm, hml⟩ => key.trans (i2 (by
        rcases List.mem_cons.1 hm with rfl | hm
        · exact absurd hxl (by omega)
        · exact ⟨m, hm, hml⟩))⟩
    · have hc := refCut_long k (allB B pre).length x (B : Int) c1 c2 c3 c4 c5 c6 c7 c8 c9 (by omega)
      have n2 : (!eqI 2 0) = true := by rw [eqI_neg (by decide)]; rfl
      refine ⟨fun h => absurd (h x (by simp)) hxl, fun _ => ?_⟩
      rw [m13F7, m13X7]
      simp only [q1, q2, if_true, Int.toNat_natCast, hx, hc, Option.bind_some, n2]
theorem refblocks_ok (k : Nat) (hk : 5001 ≤ k) (l : List (List Int)) (hl : l.length ≤ 70) (hb : ∀ m ∈ l, IsB m) (B : Nat) (c1 c2 c3 c4 c5 c6 c7 c8 c9 : Int) (ok : cfgOk (B : Int) c1 c2 c3 c4 c5 c6 c7 c8 c9) (h : ∀ m ∈ l, (m.length : Int) ≤ c8) : m13F k ((B : Int), c1, c2, c3, c4, c5, c6, c7, c8, c9) l = some (allB B l, 0) := by
  have := (refblocks_loop k hk l hl hb B c1 c2 c3 c4 c5 c6 c7 c8 c9 ok l [] k rfl (by omega) (fun m hm => by cases hm)).1 h
  simp only [m13F, m13X]
  exact this
theorem refblocks_long (k : Nat) (hk : 5001 ≤ k) (l : List (List Int)) (hl : l.length ≤ 70) (hb : ∀ m ∈ l, IsB m) (B : Nat) (c1 c2 c3 c4 c5 c6 c7 c8 c9 : Int) (ok : cfgOk (B : Int) c1 c2 c3 c4 c5 c6 c7 c8 c9) (h : ∃ m ∈ l, c8 < (m.length : Int)) : m13F k ((B : Int), c1, c2, c3, c4, c5, c6, c7, c8, c9) l = some ([], 2) := by
  have := (refblocks_loop k hk l hl hb B c1 c2 c3 c4 c5 c6 c7 c8 c9 ok l [] k rfl (by omega) (fun m hm => by cases hm)).2 h
  simp only [m13F, m13X]
  exact this
theorem refblocks_nil (k : Nat) (hk : 1 ≤ k) (b c1 c2 c3 c4 c5 c6 c7 c8 c9 : Int) : m13F k (b, c1, c2, c3, c4, c5, c6, c7, c8, c9) [] = some ([], 0) := by
  obtain ⟨k, rfl⟩ : ∃ j, k = j + 1 := ⟨k - 1, by omega⟩
  have l0 : ltI 0 (([] : List (List Int)).length : Int) = false := ltI_neg (by simp)
  simp only [m13F, m13X, m13F7, m13X7, l0, Bool.false_eq_true, if_false]
  rfl
theorem refblk_loop (k : Nat) (hk : 20000 ≤ k) (l : List (List Int)) (hl : l.length ≤ 70) (hb : ∀ m ∈ l, IsB m) (B : Nat) (c1 c2 c3 c4 c5 c6 c7 c8 c9 : Int) (ok : cfgOk (B : Int) c1 c2 c3 c4 c5 c6 c7 c8 c9) (h8 : ∀ m ∈ l, (m.length : Int) ≤ c8) (hs : List (List Int × Int)) (hn : hs.length ≤ 1000) (hg : ∀ h ∈ hs, 0 ≤ h.2 ∧ h.2 ≤ (l.length : Int)) : ∀ (rest pre : List (List Int × Int)) (j : Nat), hs = pre ++ rest → rest.length < j →
    m20F21 k j l hs (pre.length : Int) (B : Int) c1 c2 c3 c4 c5 c6 c7 c8 c9 = some (fidx (blkBad B l) rest pre.length, 0) := by
  have hB := ok.1
  have h8' := ok.2.2.2.2.2.2.2.2.1
  unfold within at hB h8'
  intro rest
  induction rest with
  | nil =>
    intro pre j e hj
    obtain ⟨j, rfl⟩ : ∃ n, j = n + 1 := ⟨j - 1, by omega⟩
    have hlen : hs.length = pre.length := by rw [e]; simp
    rw [m20F21, m20X21, if_neg (by rw [ltI_neg (by omega)]; simp)]
    rfl
  | cons x rest ih =>
    intro pre j e hj
    obtain ⟨j, rfl⟩ : ∃ n, j = n + 1 := ⟨j - 1, by omega⟩
    have hlen : hs.length = pre.length + (rest.length + 1) := by rw [e]; simp
    have hx : hs.getD (Int.toNat (pre.length : Int)) ([], 0) = x := by rw [e]; exact gd_at pre rest x ([], 0)
    have hx' : hs.getD pre.length ([], 0) = x := hx
    obtain ⟨x2, x3⟩ := hg x (by rw [e]; simp)
    have ht8 : ∀ m ∈ l.take x.2.toNat, (m.length : Int) ≤ c8 := fun m hm => h8 m (List.mem_of_mem_take hm)
    have htb : ∀ m ∈ l.take x.2.toNat, IsB m := fun m hm => hb m (List.mem_of_mem_take hm)
    have htl : (l.take x.2.toNat).length ≤ 70 := by rw [List.length_take]; omega
    have hbl := refblocks_ok k (by omega) (l.take x.2.toNat) htl htb B c1 c2 c3 c4 c5 c6 c7 c8 c9 ok ht8
    have hal := allB_len B (by omega) (l.take x.2.toNat) (fun m hm => by have := ht8 m hm; omega)
    have hab := allB_bytes B (by omega) (by omega) (l.take x.2.toNat) htb
    have hlp := has_loop k (by omega) (allB B (l.take x.2.toNat)) x.1 (by omega) (fun y hy => by have := (hab y hy).2; omega) (allB B (l.take x.2.toNat)) [] k rfl (by omega)
    have hh : m32F k (allB B (l.take x.2.toNat)) x.1 = some ((allB B (l.take x.2.toNat)).any fun y => decide (y = x.1)) := by
      simp only [m32F, m32X]
      exact hlp
    have hi := ih (pre ++ [x]) j (by rw [e]; simp) (by simp only [List.length_cons] at hj; omega)
    rw [List.length_append, List.length_singleton] at hi
    have d1 : leI 0 x.2 = true := leI_pos x2
    have d2 : leI x.2 (l.length : Int) = true := leI_pos x3
    obtain ⟨s1, s2, s3⟩ := idx_ar pre.length hs.length (by omega) (by omega)
    rw [m20F21, m20X21, fidx]
    simp only [s1, s2, if_true, hx, d1, d2, hbl, hh, Option.bind_some, s3, hi]
    unfold blkBad
    cases (allB B (l.take x.2.toNat)).any fun y => decide (y = x.1) <;> rfl
theorem refsent_loop (k : Nat) (l : List (List Int)) (b c1 c2 c3 c4 c5 c6 c7 c8 c9 : Int) (hs : List (List Int × Int)) (hn : hs.length ≤ 1000) : ∀ (rest pre : List (List Int × Int)) (j : Nat), hs = pre ++ rest → rest.length < j →
    ((∀ h ∈ rest, 0 ≤ h.2 ∧ h.2 ≤ (l.length : Int)) → m20F11 k j l hs (pre.length : Int) b c1 c2 c3 c4 c5 c6 c7 c8 c9 = m20F18 k l hs b c1 c2 c3 c4 c5 c6 c7 c8 c9) ∧
    ((∃ h ∈ rest, h.2 < 0 ∨ (l.length : Int) < h.2) → m20F11 k j l hs (pre.length : Int) b c1 c2 c3 c4 c5 c6 c7 c8 c9 = some (0, 1)) := by
  intro rest
  induction rest with
  | nil =>
    intro pre j e hj
    obtain ⟨j, rfl⟩ : ∃ n, j = n + 1 := ⟨j - 1, by omega⟩
    have hlen : hs.length = pre.length := by rw [e]; simp
    refine ⟨fun _ => ?_, fun ⟨h, hm, _⟩ => by cases hm⟩
    rw [m20F11, m20X11, if_neg (by rw [ltI_neg (by omega)]; simp)]
  | cons x rest ih =>
    intro pre j e hj
    obtain ⟨j, rfl⟩ : ∃ n, j = n + 1 := ⟨j - 1, by omega⟩
    have hlen : hs.length = pre.length + (rest.length + 1) := by rw [e]; simp
    have hx : hs.getD (Int.toNat (pre.length : Int)) ([], 0) = x := by rw [e]; exact gd_at pre rest x ([], 0)
    obtain ⟨i1, i2⟩ := ih (pre ++ [x]) j (by rw [e]; simp) (by simp only [List.length_cons] at hj; omega)
    rw [List.length_append, List.length_singleton] at i1 i2
    obtain ⟨s1, s2, s3⟩ := idx_ar pre.length hs.length (by omega) (by omega)
    rw [m20F11, m20X11]
    simp only [s1, s2, if_true, hx, s3]
    clear s1 s2 s3
    by_cases h1 : x.2 < 0
    · rw [if_pos (ltI_pos h1)]
      exact ⟨fun h => absurd (h x (by simp)).1 (by omega), fun _ => rfl⟩
    · rw [if_neg (by rw [ltI_neg h1]; simp)]
      by_cases h2 : (l.length : Int) < x.2
      · rw [if_pos (ltI_pos h2)]
        exact ⟨fun h => absurd (h x (by simp)).2 (by omega), fun _ => rfl⟩
      · rw [if_neg (by rw [ltI_neg h2]; simp)]
        refine ⟨fun h => i1 fun y hy => h y (by simp [hy]), fun ⟨y, hy, hbad⟩ => i2 ?_⟩
        rcases List.mem_cons.1 hy with rfl | hy
        · exact absurd hbad (by omega)
        · exact ⟨y, hy, hbad⟩
/-- Both tell the same witness. -/
theorem both_blk (k : Nat) (hk : 20000 ≤ k) (l : List (List Int)) (hl : l.length ≤ 70) (hb : ∀ m ∈ l, IsB m) (B : Nat) (c1 c2 c3 c4 c5 c6 c7 c8 c9 : Int) (ok : cfgOk (B : Int) c1 c2 c3 c4 c5 c6 c7 c8 c9) (h8 : ∀ m ∈ l, (m.length : Int) ≤ c8) (hs : List (List Int × Int)) (hn : hs.length ≤ 1000) (hg : ∀ h ∈ hs, IsB h.1) :
    ∃ r, m16F k ((B : Int), c1, c2, c3, c4, c5, c6, c7, c8, c9) l hs = some r ∧ m20F k ((B : Int), c1, c2, c3, c4, c5, c6, c7, c8, c9) l hs = some r := by
  have hz : ∀ z : Int, (!eqI z z) = false := fun z => by rw [eqI_pos rfl]; rfl
  have hbl := blocks_ok k (by omega) l hl hb B c1 c2 c3 c4 c5 c6 c7 c8 c9 ok h8
  have hrb := refblocks_ok k (by omega) l hl hb B c1 c2 c3 c4 c5 c6 c7 c8 c9 ok h8
  have s1 := sent_loop k l (allB B l) (endsB B l) hs hn hs [] k rfl (by omega)
  have s2 := refsent_loop k l (B : Int) c1 c2 c3 c4 c5 c6 c7 c8 c9 hs hn hs [] k rfl (by omega)
  by_cases hg2 : ∀ h ∈ hs, 0 ≤ h.2 ∧ h.2 ≤ (l.length : Int)
  · refine ⟨_, auditBlk_eq k hk l hl hb B c1 c2 c3 c4 c5 c6 c7 c8 c9 ok h8 hs hn (fun h hm => ⟨hg h hm, hg2 h hm⟩), ?_⟩
    have h2 := refblk_loop k hk l hl hb B c1 c2 c3 c4 c5 c6 c7 c8 c9 ok h8 hs hn hg2 hs [] k rfl (by omega)
    simp only [m20F, m20X, hrb, Option.bind_some, hz, Bool.false_eq_true, if_false]
    refine Eq.trans (s2.1 hg2) ?_
    simp only [m20F18, m20X18]
    exact h2
  · have hex : ∃ h ∈ hs, h.2 < 0 ∨ (l.length : Int) < h.2 := by
      apply Classical.byContradiction
      intro hno
      refine hg2 fun h hm => ?_
      have : ¬ (h.2 < 0 ∨ (l.length : Int) < h.2) := fun hb => hno ⟨h, hm, hb⟩
      omega
    refine ⟨(0, 1), ?_, ?_⟩
    · simp only [m16F, m16X, hbl, Option.bind_some, hz, Bool.false_eq_true, if_false]
      exact s1.2 hex
    · simp only [m20F, m20X, hrb, Option.bind_some, hz, Bool.false_eq_true, if_false]
      exact s2.2 hex
theorem both_long (k : Nat) (hk : 20000 ≤ k) (l : List (List Int)) (hl : l.length ≤ 70) (hb : ∀ m ∈ l, IsB m) (B : Nat) (c1 c2 c3 c4 c5 c6 c7 c8 c9 : Int) (ok : cfgOk (B : Int) c1 c2 c3 c4 c5 c6 c7 c8 c9) (h8 : ∃ m ∈ l, c8 < (m.length : Int)) (hs : List (List Int × Int)) :
    m16F k ((B : Int), c1, c2, c3, c4, c5, c6, c7, c8, c9) l hs = some (0, 2) ∧ m20F k ((B : Int), c1, c2, c3, c4, c5, c6, c7, c8, c9) l hs = some (0, 2) := by
  have n2 : (!eqI 2 0) = true := by rw [eqI_neg (by decide)]; rfl
  have hbl := blocks_long k (by omega) l hl hb B c1 c2 c3 c4 c5 c6 c7 c8 c9 ok h8
  have hrb := refblocks_long k (by omega) l hl hb B c1 c2 c3 c4 c5 c6 c7 c8 c9 ok h8
  simp only [m16F, m16X, m20F, m20X, hbl, hrb, Option.bind_some, n2, if_true, and_self]
theorem and_bad {A : Prop} [Decidable A] {x : Option Int} (h : ¬ A ∨ x = some 1) : (if decide A = true then x else some 1) = some 1 := by
  by_cases hA : A
  · rw [if_pos (decide_eq_true hA)]
    exact h.resolve_left fun hn => hn hA
  · rw [if_neg (by simp [hA])]
theorem check_bad (k : Nat) (a b c d e f g h i j : Int) (ok : ¬ cfgOk a b c d e f g h i j) : m48F k (a, b, c, d, e, f, g, h, i, j) = some 1 := by
  simp only [m48F, m48X, inc_eq, Option.bind_some]
  unfold cfgOk at ok
  by_cases o1 : within a 1 16
  · refine and_bad (.inr ?_)
    by_cases o2 : within b 1 16
    · refine and_bad (.inr ?_)
      by_cases o3 : within c 1 3
      · refine and_bad (.inr ?_)
        by_cases o4 : within d 1 16
        · refine and_bad (.inr ?_)
          by_cases o5 : within e 1 16
          · refine and_bad (.inr ?_)
            by_cases o6 : within f 1 16
            · refine and_bad (.inr ?_)
              by_cases o7 : within g 1 64
              · refine and_bad (.inr ?_)
                by_cases o8 : within h 4 16
                · refine and_bad (.inr ?_)
                  by_cases o9 : within i 0 200
                  · refine and_bad (.inr ?_)
                    exact and_bad (.inl fun oa => ok ⟨o1, o2, o3, o4, o5, o6, o7, o8, o9, oa⟩)
                  · exact and_bad (.inl o9)
                · exact and_bad (.inl o8)
              · exact and_bad (.inl o7)
            · exact and_bad (.inl o6)
          · exact and_bad (.inl o5)
        · exact and_bad (.inl o4)
      · exact and_bad (.inl o3)
    · exact and_bad (.inl o2)
  · exact and_bad (.inl o1)
theorem blocks_bad (k : Nat) (l : List (List Int)) (b c1 c2 c3 c4 c5 c6 c7 c8 c9 : Int) (ok : ¬ cfgOk b c1 c2 c3 c4 c5 c6 c7 c8 c9) (hs : List (List Int × Int)) : m15F k (b, c1, c2, c3, c4, c5, c6, c7, c8, c9) l = some ([], 1) ∧ m16F k (b, c1, c2, c3, c4, c5, c6, c7, c8, c9) l hs = some (0, 1) := by
  have n1 : (!eqI 1 0) = true := by rw [eqI_neg (by decide)]; rfl
  have hbl : m36F k (b, c1, c2, c3, c4, c5, c6, c7, c8, c9) l = some ([], [], 1) := by
    simp only [m36F, m36X, check_bad k _ _ _ _ _ _ _ _ _ _ ok, Option.bind_some, n1, if_true]
  simp only [m15F, m15X, m16F, m16X, hbl, Option.bind_some, n1, if_true, and_self]
theorem refprefix_eq (k : Nat) (hk : 5001 ≤ k) (a b : List (List Int)) (hl : a.length < k) (hl2 : a.length ≤ 100000) (ha : ∀ x ∈ a, x.length ≤ 5000) : m19F k a b = some (decide (a = b.take a.length)) := by
  simp only [m19F, m19X]
  by_cases h : a.length ≤ b.length
  · have hr := rows_eq' k hk a (b.take a.length) hl hl2 ha
    have c1 : leI (a.length : Int) (b.length : Int) = true := leI_pos (by omega)
    have c2 : leI 0 (a.length : Int) = true := leI_pos (by omega)
    simp only [c1, c2, if_true, Int.toNat_natCast, hr, Option.bind_some]
  · rw [if_neg (by rw [leI_neg (by omega)]; simp), decide_eq_false]
    intro e
    have := congrArg List.length e
    rw [List.length_take] at this
    omega


end Go.Proofs.Ytbbmdflfonifnaa.Mini
