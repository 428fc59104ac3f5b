/- What shared functions tell: plain laws. -/
import Derived.Test.YtiblpnglmicjcaaMF
import Derived.Test.YtiblpnglmicjcaaCrc
import Derived.Test.YtiblpnglmicjcaaBe
import Derived.Test.YtiblpnglmicjcaaPop
import Derived.Laws.Closers25b
import Derived.Test.YtiblpnglmicjcaaGf
set_option linter.unusedSimpArgs false
set_option linter.unusedVariables false
namespace Go.Proofs.Ytiblpnglmicjcaa.Mini
open Go Go.RowKit Go.Proofs
theorem w64 {n : Int} (h0 : -9223372036854775808 ≤ n) (h1 : n < 9223372036854775808) : wr .i64 n = n := by
  show wrap64 n = n
  unfold wrap64
  omega
theorem w64n {n : Nat} (h1 : n < 9223372036854775808) : wr .i64 (n : Int) = (n : Int) := w64 (by omega) (by omega)
theorem w64s {n : Nat} (h1 : n < 9223372036854775807) : wr .i64 ((n : Int) + 1) = ((n + 1 : Nat) : Int) := w64 (by omega) (by omega)
theorem wu64 {n : Int} (h0 : 0 ≤ n) (h1 : n < 18446744073709551616) : wr .u64 n = n := by
  show n % 18446744073709551616 = n
  omega
theorem wu8 (n : Int) : wr .u8 n = n % 256 := (congrArg (fun x : Int => x % 256) (Eq.refl n) : n % 256 = n % 256)
theorem wu32 (n : Int) : wr .u32 n = n % 4294967296 := (congrArg (fun x : Int => x % 4294967296) (Eq.refl n) : n % 4294967296 = n % 4294967296)
theorem gd_at {α : Type} (pre rest : List α) (x d : α) : (pre ++ x :: rest).getD (Int.toNat (pre.length : Int)) d = x := by
  rw [Int.toNat_natCast, List.getD_eq_getElem?_getD, List.getElem?_append_right (Nat.le_refl _), Nat.sub_self]
  rfl
theorem gd_at' {α : Type} (pre rest : List α) (x d : α) (n : Nat) (h : pre.length = n) : (pre ++ x :: rest).getD (Int.toNat (n : Int)) d = x := by
  subst h
  exact gd_at pre rest x d
theorem getD_nat {α : Type} (l : List α) (n : Nat) (d : α) : l.getD (Int.toNat (n : Int)) d = l.getD n d := rfl
theorem nilK_same {R : Type} {e : Bool} {a : Option R} : nilK e a a = a := by
  unfold nilK both
  cases e <;> simp
theorem nilK_of {R : Type} {e : Bool} {a b : Option R} (h : e = true → a = b) : nilK e a b = b := by
  unfold nilK both
  cases e
  · rfl
  · simp [h rfl]
theorem one_set (x d : Int) : List.set (List.replicate 1 d) 0 x = [x] := (congrArg (fun y : Int => [y]) (Eq.refl x) : [x] = [x])
theorem bytes_wf {l : List Int} (h : WfK (.row (.int .u8)) l) : ∀ c ∈ l, Crc.isByte c := fun c hc => Bv.wf_u8 (h.2 c hc)
theorem leI_pos {a b : Int} (h : a ≤ b) : leI a b = true := (leI_iff a b).2 h
theorem leI_neg {a b : Int} (h : ¬ a ≤ b) : leI a b = false := by
  rw [leI_eq]
  simpa using h
theorem ltI_pos {a b : Int} (h : a < b) : ltI a b = true := (ltI_iff a b).2 h
theorem ltI_neg {a b : Int} (h : ¬ a < b) : ltI a b = false := by
  rw [ltI_eq]
  simpa using h
theorem eqI_pos {a b : Int} (h : a = b) : eqI a b = true := (eqI_iff a b).2 h
theorem eqI_neg {a b : Int} (h : ¬ a = b) : eqI a b = false := by
  rw [eqI_eq]
  simpa using h
theorem umod0 (x : Int) (m : Nat) (hm : 0 < m) : ∃ a : Nat, a < m ∧ Int.tmod (wr .u64 x) (m : Int) = (a : Int) := by
  have h0 : 0 ≤ wr .u64 x := Int.emod_nonneg _ (by decide)
  have h1 : Int.tmod (wr .u64 x) (m : Int) = wr .u64 x % (m : Int) := Int.tmod_eq_emod_of_nonneg h0
  have h2 := Int.emod_nonneg (wr .u64 x) (show (m : Int) ≠ 0 by omega)
  have h3 := Int.emod_lt_of_pos (wr .u64 x) (show (0 : Int) < m by omega)
  refine ⟨(wr .u64 x % (m : Int)).toNat, ?_, ?_⟩
  · generalize wr .u64 x % (m : Int) = z at h2 h3
    omega
  · rw [h1]
    generalize wr .u64 x % (m : Int) = z at h2 h3
    omega
open Bv Crc in
theorem shl1_u (v : BitVec 16) : wr .i64 (u v * 2) = ((v.toNat * 2 : Nat) : Int) := by
  have hv := v.isLt
  unfold u
  rw [w64 (by omega) (by omega)]
  omega
open Bv Crc in
theorem t16_inner (k : Nat) (X : Option (List Int)) (L7 : Int → List Int → Option (List Int)) (x1 : List Int) (i : Int) (hx : x1.length < 1000) : ∀ (d j n : Nat) (v : BitVec 16), j + d = 8 → d < n →
    L7 (wr .i64 (i + 1)) (x1 ++ [u (E.many M d v)]) = X → m19F15 k L7 n (u v) i (j : Int) x1 = X := by
  intro d
  induction d with
  | zero =>
    intro j n v hj hn R
    obtain ⟨n, rfl⟩ : ∃ m, n = m + 1 := ⟨n - 1, by omega⟩
    rw [m19F15, m19X15, if_neg (by rw [ltI_neg (by omega)]; simp)]
    simp only [m19F24, m19X24, one_set]
    rw [if_pos (leI_pos (by simp only [List.length_singleton]; omega))]
    exact R
  | succ d ih =>
    intro j n v hj hn R
    obtain ⟨n, rfl⟩ : ∃ m, n = m + 1 := ⟨n - 1, by omega⟩
    rw [E.many_in] at R
    have hv := v.isLt
    have es : u (v <<< 1) = ((v.toNat * 2 % 65536 : Nat) : Int) := by
      unfold u
      rw [BitVec.toNat_shiftLeft, Nat.shiftLeft_eq]
    have ws := w64s (show j < 9223372036854775807 by omega)
    rw [m19F15, m19X15, if_pos (ltI_pos (by omega)), if_pos (leI_pos (by decide)), shl1_u, ws]
    by_cases h : 32768 ≤ v.toNat
    · have e2 : Go.bits .xor .i64 (Go.bits .and .i64 ((v.toNat * 2 : Nat) : Int) 65535) 4129 = u (M v) := by
        rw [and65535i _ (by omega), M_top h, ← es]
        exact xor_u (by decide) (v <<< 1) 4129#16
      rw [if_pos (ltI_pos (by omega)), e2]
      exact ih (j + 1) n (M v) (by omega) (by omega) R
    · have e2 : ((v.toNat * 2 : Nat) : Int) = u (M v) := by rw [M_not h, es]; omega
      rw [if_neg (by rw [ltI_neg (by omega)]; simp), e2]
      exact ih (j + 1) n (M v) (by omega) (by omega) R
open Bv Crc in
def tbl16 (n : Nat) : List Int := (List.range n).map (fun i : Nat => u (tab16 i))
open Bv Crc in
theorem tbl16_at (n i : Nat) (h : i < n) : (tbl16 n).getD (Int.toNat (i : Int)) 0 = u (tab16 i) := by
  unfold tbl16
  rw [Int.toNat_natCast, List.getD_eq_getElem?_getD, List.getElem?_map, List.getElem?_range h]
  rfl
theorem tbl16_length (n : Nat) : (tbl16 n).length = n := by simp [tbl16]
open Bv Crc in
theorem t16_outer (k : Nat) (hk : 10 ≤ k) : ∀ (d i n : Nat), i + d = 256 → d < n → m19F7 k n (i : Int) (tbl16 i) = some (tbl16 256) := by
  intro d
  induction d with
  | zero =>
    intro i n hi hn
    obtain ⟨n, rfl⟩ : ∃ m, n = m + 1 := ⟨n - 1, by omega⟩
    obtain rfl : i = 256 := by omega
    rw [m19F7, m19X7, if_neg (by rw [ltI_neg (by omega)]; simp)]
  | succ d ih =>
    intro i n hi hn
    obtain ⟨n, rfl⟩ : ∃ m, n = m + 1 := ⟨n - 1, by omega⟩
    have e : wr .i64 ((i : Int) * 256) = u (BitVec.ofNat 16 (i * 256)) := by
      unfold u
      rw [BitVec.toNat_ofNat, Nat.mod_eq_of_lt (by omega), w64 (by omega) (by omega)]
      omega
    have R := ih (i + 1) n (by omega) (by omega)
    have e3 : tbl16 (i + 1) = tbl16 i ++ [u (E.many M 8 (BitVec.ofNat 16 (i * 256)))] := by unfold tbl16; rw [List.range_succ, List.map_append]; rfl
    rw [e3, ← w64s (show i < 9223372036854775807 by omega)] at R
    rw [m19F7, m19X7, if_pos (ltI_pos (by omega)), if_pos (leI_pos (by decide)), e]
    exact t16_inner k _ (m19F7 k n) (tbl16 i) (i : Int) (by rw [tbl16_length]; omega) 8 0 k (BitVec.ofNat 16 (i * 256)) rfl (by omega) R
theorem table16_eq (k : Nat) (hk : 300 ≤ k) : m19F k = some (tbl16 256) := t16_outer k (by omega) 256 0 k rfl (by omega)
open Bv Crc in
theorem sum16_loop (k : Nat) (l : List Int) (hl : l.length ≤ 4096) : ∀ (rest pre : List Int) (n : Nat) (r : BitVec 16), l = pre ++ rest → (∀ c ∈ rest, isByte c) → rest.length < n →
    m13F11 k n (u r) l (l.length : Int) (pre.length : Int) (tbl16 256) = some (u (reg16 r rest), 0) := by
  intro rest
  induction rest with
  | nil =>
    intro pre n r h _ hn
    obtain ⟨n, rfl⟩ : ∃ m, n = m + 1 := ⟨n - 1, by simp only [List.length_nil] at hn; omega⟩
    have hlen : l.length = pre.length := by rw [h]; simp
    rw [m13F11, m13X11, if_neg (by rw [ltI_neg (by omega)]; simp)]
    rfl
  | cons c rest ih =>
    intro pre n r h hb hn
    obtain ⟨n, rfl⟩ : ∃ m, n = m + 1 := ⟨n - 1, by omega⟩
    have hlen : l.length = pre.length + (rest.length + 1) := by rw [h]; simp
    have hp : l.getD (Int.toNat (pre.length : Int)) 0 = c := by rw [h]; exact gd_at pre rest c 0
    obtain ⟨h0, h1⟩ := hb c (by simp)
    have ec : c = ((c.toNat : Nat) : Int) := by omega
    have hr := r.isLt
    have hix : (r.toNat / 256) ^^^ c.toNat < 2 ^ 8 := Nat.xor_lt_two_pow (by omega) (by omega)
    have ei : Go.bits .xor .i64 (u r / (256 : Int)) (wr .i64 c) = (((r.toNat / 256) ^^^ c.toNat : Nat) : Int) := by
      have e1 : u r / (256 : Int) = ((r.toNat / 256 : Nat) : Int) := by unfold u; omega
      rw [e1, w64 (by omega) (by omega), ec, xorN _ _ (by omega) (by omega), Int.toNat_natCast]
    have es : Go.bits .xor .i64 (Go.bits .and .i64 (wr .i64 (u r * 256)) 65535) (u (tab16 ((r.toNat / 256) ^^^ c.toNat))) = u (step16 r c) := by
      have e1 : wr .i64 (u r * 256) = ((r.toNat * 256 : Nat) : Int) := by
        unfold u
        rw [w64 (by omega) (by omega)]
        omega
      have e2 : ((r.toNat * 256 % 65536 : Nat) : Int) = u (r <<< 8) := by
        unfold u
        rw [BitVec.toNat_shiftLeft, Nat.shiftLeft_eq]
      rw [e1, and65535i _ (by omega), e2, xor_u (by decide), step_tab16 r c ⟨h0, h1⟩]
    have hlt : ((((r.toNat / 256) ^^^ c.toNat : Nat)) : Int) < ((tbl16 256).length : Int) := by rw [tbl16_length]; omega
    have c1 : (pre.length : Int) < (l.length : Int) := by omega
    have c2 : (0 : Int) ≤ (pre.length : Int) := by omega
    have h8 : (0 : Int) ≤ 8 := by decide
    have ws := w64s (show pre.length < 9223372036854775807 by omega)
    have hix' : (r.toNat / 256) ^^^ c.toNat < 256 := by omega
    have := ih (pre ++ [c]) n (step16 r c) (by rw [h]; simp) (fun y hy => hb y (by simp [hy])) (by simp only [List.length_cons] at hn; omega)
    rw [List.length_append, List.length_singleton] at this
    rw [m13F11, m13X11, if_pos (ltI_pos c1), if_pos (leI_pos c2), if_pos (ltI_pos c1), if_pos (leI_pos h8), if_pos (leI_pos h8), hp, ei, if_pos (leI_pos (Int.natCast_nonneg _)), if_pos (ltI_pos hlt), tbl16_at _ _ hix', es, ws]
    exact this
open Bv Crc in
theorem sum16_eq (k : Nat) (hk : 5000 ≤ k) (l : List Int) (hl : l.length ≤ 4096) (hb : ∀ c ∈ l, isByte c) : m13F k l = some (u (sum16 l), 0) := by
  simp only [m13F, m13X]
  rw [if_neg (by rw [ltI_neg (by omega)]; simp), table16_eq k (by omega), Option.bind_some]
  exact sum16_loop k l hl l [] k ones16 rfl hb (by omega)
open Bv Crc in
theorem t32_inner (k : Nat) (X : Option (List Int)) (L7 : Int → List Int → Option (List Int)) (x1 : List Int) (i : Int) (hx : x1.length < 1000) : ∀ (d j n : Nat) (v : BitVec 32), j + d = 8 → d < n →
    L7 (wr .i64 (i + 1)) (x1 ++ [u (E.many L d v)]) = X → m20F15 k L7 n (u v) i (j : Int) x1 = X := by
  intro d
  induction d with
  | zero =>
    intro j n v hj hn R
    obtain ⟨n, rfl⟩ : ∃ m, n = m + 1 := ⟨n - 1, by omega⟩
    rw [m20F15, m20X15]
    simp only [leI_eq, ltI_eq, eqI_eq, decide_eq_true_eq, if_neg (show ¬ (j : Int) < 8 by omega), m20F26, m20X26, one_set]
    rw [if_pos (by simp only [List.length_singleton]; omega)]
    exact R
  | succ d ih =>
    intro j n v hj hn R
    obtain ⟨n, rfl⟩ : ∃ m, n = m + 1 := ⟨n - 1, by omega⟩
    rw [E.many_in] at R
    have e : Go.bits .and .i64 (u v) 1 = ((v.toNat % 2 : Nat) : Int) := and1 v.toNat (lt63 (by decide) v)
    rw [m20F15, m20X15]
    simp only [leI_eq, ltI_eq, eqI_eq, decide_eq_true_eq, if_pos (show (j : Int) < 8 by omega), if_pos (show (0 : Int) ≤ 1 by decide), e, w64s (show j < 9223372036854775807 by omega)]
    by_cases h : v.toNat % 2 = 1
    · have e2 : Go.bits .xor .i64 (u v / (2 : Int)) 3988292384 = u (L v) := by
        rw [shr1, L_odd h]
        exact xor_u (by decide) (v >>> 1) 3988292384#32
      rw [if_pos (by omega), e2]
      exact ih (j + 1) n (L v) (by omega) (by omega) R
    · have e2 : u v / (2 : Int) = u (L v) := by rw [shr1, L_even h]
      rw [if_neg (by omega), e2]
      exact ih (j + 1) n (L v) (by omega) (by omega) R
open Bv Crc in
def tbl32 (n : Nat) : List Int := (List.range n).map (fun i : Nat => u (tab32 i))
open Bv Crc in
theorem tbl32_at (n i : Nat) (h : i < n) : (tbl32 n).getD (Int.toNat (i : Int)) 0 = u (tab32 i) := by
  unfold tbl32
  rw [Int.toNat_natCast, List.getD_eq_getElem?_getD, List.getElem?_map, List.getElem?_range h]
  rfl
theorem tbl32_length (n : Nat) : (tbl32 n).length = n := by simp [tbl32]
open Bv Crc in
theorem t32_outer (k : Nat) (hk : 10 ≤ k) : ∀ (d i n : Nat), i + d = 256 → d < n → m20F7 k n (i : Int) (tbl32 i) = some (tbl32 256) := by
  intro d
  induction d with
  | zero =>
    intro i n hi hn
    obtain ⟨n, rfl⟩ : ∃ m, n = m + 1 := ⟨n - 1, by omega⟩
    obtain rfl : i = 256 := by omega
    rw [m20F7, m20X7]
    simp only [ltI_eq, decide_eq_true_eq]
    rw [if_neg (by omega)]
  | succ d ih =>
    intro i n hi hn
    obtain ⟨n, rfl⟩ : ∃ m, n = m + 1 := ⟨n - 1, by omega⟩
    have e : (i : Int) = u (BitVec.ofNat 32 i) := by unfold u; rw [BitVec.toNat_ofNat, Nat.mod_eq_of_lt (by omega)]
    have R := ih (i + 1) n (by omega) (by omega)
    have e3 : tbl32 (i + 1) = tbl32 i ++ [u (E.many L 8 (BitVec.ofNat 32 i))] := by unfold tbl32; rw [List.range_succ, List.map_append]; rfl
    rw [e3, ← w64s (show i < 9223372036854775807 by omega)] at R
    rw [m20F7, m20X7]
    simp only [ltI_eq, decide_eq_true_eq]
    rw [if_pos (by omega)]
    have := t32_inner k _ (m20F7 k n) (tbl32 i) (i : Int) (by rw [tbl32_length]; omega) 8 0 k (BitVec.ofNat 32 i) rfl (by omega) R
    rw [← e] at this
    exact this
theorem table32_eq (k : Nat) (hk : 300 ≤ k) : m20F k = some (tbl32 256) := t32_outer k (by omega) 256 0 k rfl (by omega)
open Bv Crc in
theorem sum32_loop (k : Nat) (l : List Int) (hl : l.length ≤ 4096) : ∀ (rest pre : List Int) (n : Nat) (r : BitVec 32), l = pre ++ rest → (∀ c ∈ rest, isByte c) → rest.length < n →
    m14F11 k n (u r) l (l.length : Int) (pre.length : Int) (tbl32 256) = some (u (reg32 r rest ^^^ ones32), 0) := by
  intro rest
  induction rest with
  | nil =>
    intro pre n r h _ hn
    obtain ⟨n, rfl⟩ : ∃ m, n = m + 1 := ⟨n - 1, by simp only [List.length_nil] at hn; omega⟩
    have hlen : l.length = pre.length := by rw [h]; simp
    have := xor_u (by decide) r ones32
    rw [m14F11, m14X11]
    simp only [ltI_eq, decide_eq_true_eq, if_neg (show ¬ (pre.length : Int) < (l.length : Int) by omega), m14F18, m14X18, reg_nil]
    rw [← this]
    rfl
  | cons c rest ih =>
    intro pre n r h hb hn
    obtain ⟨n, rfl⟩ : ∃ m, n = m + 1 := ⟨n - 1, by omega⟩
    have hlen : l.length = pre.length + (rest.length + 1) := by rw [h]; simp
    have hp : l.getD (Int.toNat (pre.length : Int)) 0 = c := by rw [h]; exact gd_at pre rest c 0
    obtain ⟨h0, h1⟩ := hb c (by simp)
    have ec : c = ((c.toNat : Nat) : Int) := by omega
    have hr := r.isLt
    have hix : (r.toNat % 256) ^^^ c.toNat < 2 ^ 8 := Nat.xor_lt_two_pow (by omega) (by omega)
    have ei : Go.bits .xor .i64 (Go.bits .and .i64 (u r) 255) (wr .i64 c) = (((r.toNat % 256) ^^^ c.toNat : Nat) : Int) := by
      have e1 : Go.bits .and .i64 (u r) 255 = ((r.toNat % 256 : Nat) : Int) := and255i r.toNat (by omega)
      rw [e1, w64 (by omega) (by omega), ec, xorN _ _ (by omega) (by omega), Int.toNat_natCast]
    have es : Go.bits .xor .i64 (u r / (256 : Int)) (u (tab32 ((r.toNat % 256) ^^^ c.toNat))) = u (step32 r c) := by
      rw [shr8, xor_u (by decide), step_tab r c ⟨h0, h1⟩]
    have hlt : ((((r.toNat % 256) ^^^ c.toNat : Nat)) : Int) < ((tbl32 256).length : Int) := by rw [tbl32_length]; omega
    rw [m14F11, m14X11]
    simp only [leI_eq, ltI_eq, decide_eq_true_eq, if_pos (show (pre.length : Int) < (l.length : Int) by omega), if_pos (show (0 : Int) ≤ (pre.length : Int) by omega), if_pos (show (0 : Int) ≤ 8 by decide), hp, ei, if_pos hlt, if_pos (show (0 : Int) ≤ ((((r.toNat % 256) ^^^ c.toNat : Nat)) : Int) by omega)]
    rw [tbl32_at _ _ (by omega), es, w64s (show pre.length < 9223372036854775807 by omega)]
    have := ih (pre ++ [c]) n (step32 r c) (by rw [h]; simp) (fun y hy => hb y (by simp [hy])) (by simp only [List.length_cons] at hn; omega)
    rw [List.length_append, List.length_singleton] at this
    exact this
open Bv Crc in
theorem sum32_eq (k : Nat) (hk : 5000 ≤ k) (l : List Int) (hl : l.length ≤ 4096) (hb : ∀ c ∈ l, isByte c) : m14F k l = some (u (sum32 l), 0) := by
  simp only [m14F, m14X, ltI_eq, decide_eq_true_eq]
  rw [if_neg (by omega), table32_eq k (by omega), Option.bind_some]
  exact sum32_loop k l hl l [] k ones32 rfl hb (by omega)
open Crc Bv in
theorem wakes03 (k : Nat) (hk : 5001 ≤ k) : m18F k = some true := by
  have e : List.set (List.set (List.set (List.set (List.set (List.set (List.set (List.set (List.set (List.replicate 9 (0 : Int)) 0 49) 1 50) 2 51) 3 52) 4 53) 5 54) 6 55) 7 56) 8 57 = [49, 50, 51, 52, 53, 54, 55, 56, 57] := rfl
  have hb : ∀ c ∈ ([49, 50, 51, 52, 53, 54, 55, 56, 57] : List Int), isByte c := by
    intro c hc
    simp only [List.mem_cons, List.not_mem_nil, or_false] at hc
    unfold isByte
    omega
  have h1 := sum16_eq k (by omega) [49, 50, 51, 52, 53, 54, 55, 56, 57] (by decide) hb
  have h2 := sum32_eq k (by omega) [49, 50, 51, 52, 53, 54, 55, 56, 57] (by decide) hb
  have s1 : u (sum16 [49, 50, 51, 52, 53, 54, 55, 56, 57]) = 10673 := by decide +kernel
  have s2 : u (sum32 [49, 50, 51, 52, 53, 54, 55, 56, 57]) = 3421780262 := by decide +kernel
  rw [s1] at h1
  rw [s2] at h2
  have e0 : ∀ z : Int, eqI z z = true := fun z => eqI_pos rfl
  simp only [m18F, m18X]
  rw [e, h1, h2]
  simp only [Option.bind_some, e0, if_true]
theorem clone_eq (k : Nat) (l : List Int) (h : l.length ≤ 5000) : m31F k l = some l := by
  simp only [m31F, m31X, leI_eq, decide_eq_true_eq]
  rw [nilK_of, if_pos (by omega)]
  · rfl
  · intro he
    rw [if_pos (by omega)]
    rw [List.isEmpty_iff.1 he]
    rfl
open Bv Crc in
theorem shr8u (s : BitVec 32) (j : Nat) : u (s >>> j) / (256 : Int) = u (s >>> (j + 8)) := by rw [shr8, ← BitVec.shiftRight_add]
open Bv Crc in
theorem seal_step (k n : Nat) (s : BitVec 32) (b : List Int) (i : Nat) (hi : i < 4) (hb : b.length ≤ 4096) (j : Nat) : m23F17 k (n + 1) (u (s >>> j)) (i : Int) b = m23F17 k n (u (s >>> (j + 8))) ((i + 1 : Nat) : Int) (b ++ [u (s >>> j) % 256]) := by
  rw [m23F17, m23X17]
  simp only [leI_eq, ltI_eq, decide_eq_true_eq, if_pos (show (i : Int) < 4 by omega), one_set, wu8, if_pos (show (0 : Int) ≤ 8 by decide), shr8u, w64s (show i < 9223372036854775807 by omega)]
  rw [if_pos (by simp only [List.length_singleton]; omega)]
open Bv Crc in
theorem seal_eq (k : Nat) (hk : 5000 ≤ k) (l : List Int) (hl : l.length ≤ 4092) (hb : ∀ c ∈ l, isByte c) : m23F k l = some (l ++ seal4 (sum32 l), 0) := by
  have hl0 : ¬ ((l.length : Int) > 4092) := by omega
  simp only [m23F, m23X, ltI_eq, eqI_eq, decide_eq_true_eq]
  rw [if_neg (by omega), sum32_eq k hk l (by omega) hb, Option.bind_some]
  simp only [decide_true, Bool.not_true, Bool.false_eq_true, if_false]
  rw [clone_eq k l (by omega), Option.bind_some]
  generalize sum32 l = s
  obtain ⟨n, hn⟩ : ∃ n, k = n + 1 + 1 + 1 + 1 + 1 := ⟨k - 5, by omega⟩
  have e0 : (u s : Int) = u (s >>> 0) := by rw [BitVec.ushiftRight_zero]
  have hF : m23F17 k k (u s) 0 l = some (l ++ seal4 s, 0) := by
    have key : ∀ m, m = n + 1 + 1 + 1 + 1 + 1 → m23F17 k m (u s) 0 l = some (l ++ seal4 s, 0) := fun m hm => by
      rw [hm, e0]
      have s0 := seal_step k (n + 1 + 1 + 1 + 1) s l 0 (by omega) (by omega) 0
      have s1 := seal_step k (n + 1 + 1 + 1) s (l ++ [u (s >>> 0) % 256]) 1 (by omega) (by simp; omega) 8
      have s2 := seal_step k (n + 1 + 1) s (l ++ [u (s >>> 0) % 256] ++ [u (s >>> 8) % 256]) 2 (by omega) (by simp; omega) 16
      have s3 := seal_step k (n + 1) s (l ++ [u (s >>> 0) % 256] ++ [u (s >>> 8) % 256] ++ [u (s >>> 16) % 256]) 3 (by omega) (by simp; omega) 24
      refine s0.trans (s1.trans (s2.trans (s3.trans ?_)))
      have ef : l ++ [u (s >>> 0) % 256] ++ [u (s >>> 8) % 256] ++ [u (s >>> 16) % 256] ++ [u (s >>> 24) % 256] = l ++ seal4 s := by
        unfold seal4
        rw [BitVec.ushiftRight_zero]
        simp only [List.append_assoc, List.cons_append, List.nil_append]
      rw [ef, m23F17, m23X17]
      simp only [ltI_eq, decide_eq_true_eq]
      rw [if_neg (by omega)]
      simp only [m23F24, m23X24]
      rw [clone_eq k _ (by rw [List.length_append, seal4_length]; omega), Option.bind_some]
    exact key k hn
  exact hF
open Bv Crc in
theorem sum_u_seal (l : List Int) : (l ++ seal4 (sum32 l)).length = l.length + 4 := by rw [List.length_append, seal4_length]
theorem equal_loop (k : Nat) (a b : List Int) (hl : a.length ≤ 5000) (he : a.length = b.length) : ∀ (ra rb pa pb : List Int) (j : Nat), a = pa ++ ra → b = pb ++ rb → pa.length = pb.length → ra.length < j →
    m32F9 k j a b (a.length : Int) (pa.length : Int) = some (decide (ra = rb)) := by
  intro ra
  induction ra with
  | nil =>
    intro rb pa pb j ha hb hp hj
    obtain ⟨j, rfl⟩ : ∃ i, j = i + 1 := ⟨j - 1, by simp only [List.length_nil] at hj; omega⟩
    have h1 : a.length = pa.length := by rw [ha]; simp
    have h2 : b.length = pb.length + rb.length := by rw [hb]; simp
    obtain rfl : rb = [] := List.eq_nil_of_length_eq_zero (by omega)
    rw [m32F9, m32X9]
    simp only [leI_eq, ltI_eq, eqI_eq, decide_eq_true_eq, if_neg (show ¬ (pa.length : Int) < (a.length : Int) by omega), decide_true]
  | cons x ra ih =>
    intro rb pa pb j ha hb hp hj
    obtain ⟨j, rfl⟩ : ∃ i, j = i + 1 := ⟨j - 1, by omega⟩
    have h1 : a.length = pa.length + (ra.length + 1) := by rw [ha]; simp
    have h2 : b.length = pb.length + rb.length := by rw [hb]; simp
    cases rb with
    | nil => simp only [List.length_nil] at h2; omega
    | cons y rb =>
      simp only [List.length_cons] at h2 hj
      have e1 : a.getD (Int.toNat (pa.length : Int)) 0 = x := by rw [ha]; exact gd_at pa ra x 0
      have e2 : b.getD (Int.toNat (pa.length : Int)) 0 = y := by rw [hb]; exact gd_at' pb rb y 0 pa.length hp.symm
      have c1 : (pa.length : Int) < (a.length : Int) := by omega
      have c2 : (0 : Int) ≤ (pa.length : Int) := by omega
      have c3 : (pa.length : Int) < (b.length : Int) := by omega
      rw [m32F9, m32X9]
      simp only [leI_eq, ltI_eq, eqI_eq, decide_eq_true_eq, if_pos c1, if_pos c2, if_pos c3, e1, e2, w64s (show pa.length < 9223372036854775807 by omega)]
      by_cases hxy : x = y
      · subst hxy
        have := ih rb (pa ++ [x]) (pb ++ [x]) j (by rw [ha]; simp) (by rw [hb]; simp) (by simp [hp]) (by omega)
        rw [List.length_append, List.length_singleton] at this
        simp only [decide_true, Bool.not_true, Bool.false_eq_true, if_false]
        rw [this]
        simp
      · simp [hxy]
theorem equal_eq (k : Nat) (hk : 5001 ≤ k) (a b : List Int) (hl : a.length ≤ 5000) : m32F k a b = some (decide (a = b)) := by
  simp only [m32F, m32X]
  by_cases he : a.length = b.length
  · have := equal_loop k a b hl he a b [] [] k rfl rfl rfl (by omega)
    simp only [List.length_nil] at this
    simp only [he, eqI_eq, decide_true, Bool.not_true, Bool.false_eq_true, if_false]
    rw [← he]
    exact this
  · have : ¬ ((a.length : Int) = (b.length : Int)) := by omega
    have h2 : ¬ a = b := fun h => he (by rw [h])
    simp [eqI_eq, this, h2]
open Bv Crc in
/-- Is the last of it the sum of what is ahead? -/
def isSealed (l : List Int) : Bool := decide (4 ≤ l.length) && decide (l.take (l.length - 4) ++ seal4 (sum32 (l.take (l.length - 4))) = l)
open Bv Crc in
theorem sealed_eq (k : Nat) (hk : 5001 ≤ k) (l : List Int) (hl : l.length ≤ 4096) (hb : ∀ c ∈ l, isByte c) : m24F k l = some (isSealed l, 0) := by
  simp only [m24F, m24X, ltI_eq, leI_eq, eqI_eq, decide_eq_true_eq]
  rw [if_neg (by omega)]
  by_cases h : l.length < 4
  · rw [if_pos (by omega)]
    unfold isSealed
    rw [decide_eq_false (show ¬ 4 ≤ l.length by omega), Bool.false_and]
  · have w : wr .i64 ((l.length : Int) - 4) = ((l.length - 4 : Nat) : Int) := by rw [w64 (by omega) (by omega)]; omega
    have hb' : ∀ c ∈ l.take (l.length - 4), isByte c := fun c hc => hb c (List.mem_of_mem_take hc)
    have hl' : (l.take (l.length - 4)).length ≤ 4092 := by rw [List.length_take]; omega
    rw [if_neg (by omega), w, if_pos (by omega), if_pos (by omega), Int.toNat_natCast, seal_eq k (by omega) _ hl' hb', Option.bind_some]
    simp only [if_true]
    rw [equal_eq k hk _ l (by rw [List.length_append, seal4_length]; omega), Option.bind_some]
    unfold isSealed
    rw [decide_eq_true (show 4 ≤ l.length by omega), Bool.true_and]
open Bv Crc E in
theorem one_down : ∀ i : Fin 32, many L i.val (BitVec.ofNat 32 (2 ^ i.val)) = 1#32 := by decide +kernel
open Bv Crc E in
theorem one_up : ∀ b : Fin 8, many L 8 (BitVec.ofNat 32 (2 ^ b.val)) = many L (8 - b.val) 1#32 := by decide +kernel
open Bv Crc E in
theorem flip_byte (r : BitVec 32) (c b : Nat) (hb : b < 8) : step32 r ((c ^^^ 2 ^ b : Nat) : Int) = step32 r (c : Int) ^^^ many L (8 - b) 1#32 := by
  have e : by32 ((c ^^^ 2 ^ b : Nat) : Int) = by32 (c : Int) ^^^ BitVec.ofNat 32 (2 ^ b) := by
    unfold by32
    rw [Int.toNat_natCast, Int.toNat_natCast, BitVec.ofNat_xor]
  unfold step32
  rw [e, ← BitVec.xor_assoc, many_xor L_xor, one_up ⟨b, hb⟩]
open Bv Crc E in
theorem step_xor (r d : BitVec 32) (c : Int) : step32 (r ^^^ d) c = step32 r c ^^^ many L 8 d := by
  unfold step32
  rw [← many_xor L_xor]
  congr 1
  rw [BitVec.xor_assoc, BitVec.xor_comm d, ← BitVec.xor_assoc]
open Bv Crc E in
theorem reg_xor (l : List Int) : ∀ r d : BitVec 32, reg32 (r ^^^ d) l = reg32 r l ^^^ many L (8 * l.length) d := by
  induction l with
  | nil => intro r d; rw [reg_nil, reg_nil, List.length_nil, Nat.mul_zero, many_zero]
  | cons c l ih =>
    intro r d
    rw [reg_cons, reg_cons, step_xor, ih, ← many_add, List.length_cons]
    congr 2
open Bv Crc E in
theorem flip_reg (r : BitVec 32) (l : List Int) (hb : ∀ c ∈ l, isByte c) (j : Nat) (hj : j < 8 * l.length) :
    reg32 r (l.set (j / 8) (((l.getD (j / 8) 0).toNat ^^^ 2 ^ (j % 8) : Nat) : Int)) = reg32 r l ^^^ many L (8 * l.length - j) 1#32 := by
  have hi : j / 8 < l.length := by omega
  have hc : isByte (l[j / 8]) := hb _ (List.getElem_mem hi)
  have hg : l.getD (j / 8) 0 = l[j / 8] := by rw [List.getD_eq_getElem?_getD, List.getElem?_eq_getElem hi]; rfl
  have e1 : l = l.take (j / 8) ++ l[j / 8] :: l.drop (j / 8 + 1) := by
    rw [List.getElem_cons_drop, List.take_append_drop]
  have hn : (l[j / 8]) = ((l[j / 8].toNat : Nat) : Int) := by have := hc.1; omega
  rw [hg, List.set_eq_take_append_cons_drop, if_pos hi, reg_append, reg_cons, flip_byte _ _ _ (by omega), reg_xor, ← many_add]
  have e2 : reg32 r l = reg32 (step32 (reg32 r (l.take (j / 8))) (l[j / 8])) (l.drop (j / 8 + 1)) := by
    conv => lhs; rw [e1]
    rw [reg_append, reg_cons]
  rw [e2, ← hn, List.length_drop]
  congr 2
  omega
open Bv Crc E in
theorem seal4_of (a b c d : Int) (ha : isByte a) (hb : isByte b) (hc : isByte c) (hd : isByte d) : ∃ s, seal4 s = [a, b, c, d] := by
  obtain ⟨a0, a1⟩ := ha
  obtain ⟨b0, b1⟩ := hb
  obtain ⟨c0, c1⟩ := hc
  obtain ⟨d0, d1⟩ := hd
  refine ⟨BitVec.ofNat 32 (a.toNat + 256 * b.toNat + 65536 * c.toNat + 16777216 * d.toNat), ?_⟩
  unfold seal4 u
  rw [BitVec.toNat_ushiftRight, BitVec.toNat_ushiftRight, BitVec.toNat_ushiftRight, BitVec.toNat_ofNat, Nat.mod_eq_of_lt (by omega), Nat.shiftRight_eq_div_pow, Nat.shiftRight_eq_div_pow, Nat.shiftRight_eq_div_pow]
  congr 1
  · omega
  · congr 1
    · omega
    · congr 1
      · omega
      · congr 1
        omega
open Bv Crc E in
theorem sealed_iff (l : List Int) (hb : ∀ c ∈ l, isByte c) (h4 : 4 ≤ l.length) : isSealed l = true ↔ reg32 ones32 l = many L 32 ones32 := by
  obtain ⟨t, q, rfl, hq⟩ : ∃ t q, l = t ++ q ∧ q.length = 4 := ⟨l.take (l.length - 4), l.drop (l.length - 4), (List.take_append_drop ..).symm, by rw [List.length_drop]; omega⟩
  obtain ⟨s, rfl⟩ : ∃ s, q = seal4 s := by
    match q, hq with
    | [a, b, c, d], _ =>
      obtain ⟨s, hs⟩ := seal4_of a b c d (hb a (by simp)) (hb b (by simp)) (hb c (by simp)) (hb d (by simp))
      exact ⟨s, hs.symm⟩
  have hlen : (t ++ seal4 s).length - 4 = t.length := by rw [List.length_append, seal4_length]; omega
  unfold isSealed
  rw [hlen, List.take_left, decide_eq_true h4, Bool.true_and, decide_eq_true_eq, List.append_cancel_left_eq, reg_append, feed4]
  constructor
  · intro h
    have h1 := feed4 0#32 (sum32 t)
    rw [h, feed4, BitVec.zero_xor, BitVec.zero_xor] at h1
    have h2 := manyL_inj h1
    rw [h2]
    congr 1
    unfold sum32
    rw [← BitVec.xor_assoc, BitVec.xor_self, BitVec.zero_xor]
  · intro h
    have h2 := manyL_inj h
    have : s = sum32 t := by
      unfold sum32
      have h3 := congrArg (fun z => reg32 ones32 t ^^^ z) h2
      simp only [← BitVec.xor_assoc, BitVec.xor_self, BitVec.zero_xor] at h3
      exact h3
    rw [this]

open Bv Crc E in
/-- Bits of B from the bit p on, turned about in a text: so many have been looked at. -/
structure Flip (x0 x : List Int) (p i B : Nat) : Prop where
  len : x.length = x0.length
  byt : ∀ c ∈ x, isByte c
  reg : reg32 ones32 x = reg32 ones32 x0 ^^^ many L (8 * x0.length - p) (BitVec.ofNat 32 (B % 2 ^ i))
  same : B % 2 ^ i = 0 → x = x0
  head : ∀ t, 8 * t + 8 ≤ p → x.getD t 0 = x0.getD t 0
open Bv Crc E in
theorem Flip.zero {x0 : List Int} {p B : Nat} (hb : ∀ c ∈ x0, isByte c) : Flip x0 x0 p 0 B := by
  refine ⟨rfl, hb, ?_, fun _ => rfl, fun _ _ => rfl⟩
  rw [Nat.pow_zero, Nat.mod_one]
  show _ = _ ^^^ many L _ 0#32
  rw [manyL_zero, BitVec.xor_zero]
theorem bit_more (B i : Nat) : B % 2 ^ (i + 1) = B % 2 ^ i + 2 ^ i * (B / 2 ^ i % 2) := by
  rw [Nat.pow_succ, Nat.mod_mul]
theorem xor_top (a i : Nat) (h : a < 2 ^ i) : a ^^^ 2 ^ i = a + 2 ^ i := by
  have h1 := Nat.two_pow_add_eq_or_of_lt h 1
  rw [Nat.mul_one] at h1
  rw [Nat.add_comm, h1]
  apply Nat.eq_of_testBit_eq
  intro j
  rw [Nat.testBit_xor, Nat.testBit_or, Nat.testBit_two_pow]
  by_cases hj : i = j
  · subst hj
    rw [Nat.testBit_lt_two_pow h]
    simp
  · simp [hj]
open Bv Crc E in
theorem Flip.skip {x0 x : List Int} {p i B : Nat} (h : Flip x0 x p i B) (hb : B / 2 ^ i % 2 = 0) : Flip x0 x p (i + 1) B := by
  have e : B % 2 ^ (i + 1) = B % 2 ^ i := by rw [bit_more, hb, Nat.mul_zero, Nat.add_zero]
  exact ⟨h.len, h.byt, by rw [e]; exact h.reg, by rw [e]; exact h.same, h.head⟩
open Bv Crc E in
theorem Flip.one {x0 x : List Int} {p i B : Nat} (h : Flip x0 x p i B) (hb : B / 2 ^ i % 2 = 1) (hp : p + i < 8 * x0.length) (hi : i < 32) :
    Flip x0 (x.set ((p + i) / 8) (((x.getD ((p + i) / 8) 0).toNat ^^^ 2 ^ ((p + i) % 8) : Nat) : Int)) p (i + 1) B := by
  have e : B % 2 ^ (i + 1) = B % 2 ^ i + 2 ^ i := by rw [bit_more, hb, Nat.mul_one]
  have hlt : B % 2 ^ i < 2 ^ i := Nat.mod_lt _ (Nat.two_pow_pos i)
  have hpos := Nat.two_pow_pos i
  have hix : (p + i) / 8 < x.length := by rw [h.len]; omega
  refine ⟨by rw [List.length_set]; exact h.len, fun c hc => ?_, ?_, fun h0 => by omega, fun t ht => ?_⟩
  · rcases List.mem_or_eq_of_mem_set hc with hc | rfl
    · exact h.byt c hc
    · have hg : x.getD ((p + i) / 8) 0 = x[(p + i) / 8] := by rw [List.getD_eq_getElem?_getD, List.getElem?_eq_getElem hix]; rfl
      have hbt : isByte (x[(p + i) / 8]) := h.byt _ (List.getElem_mem hix)
      rw [hg]
      have h2 : 2 ^ ((p + i) % 8) < 2 ^ 8 := Nat.pow_lt_pow_right (by decide) (by omega)
      have h3 : (x[(p + i) / 8]).toNat ^^^ 2 ^ ((p + i) % 8) < 2 ^ 8 := Nat.xor_lt_two_pow (by have := hbt.1; have := hbt.2; omega) h2
      exact ⟨by omega, by omega⟩
  · rw [flip_reg ones32 x h.byt (p + i) (by rw [h.len]; omega), h.reg, h.len, BitVec.xor_assoc, e, ← xor_top _ _ hlt, BitVec.ofNat_xor, many_xor L_xor]
    congr 2
    have := one_down ⟨i, hi⟩
    rw [← this, ← many_add]
    congr 1
    show 8 * x0.length - (p + i) + i = _
    omega
  · rw [← h.head t ht, List.getD_eq_getElem?_getD, List.getD_eq_getElem?_getD, List.getElem?_set_ne (by omega)]
    rfl
open Bv Crc E in
theorem Flip.sealed {x0 x : List Int} {p i B : Nat} (h : Flip x0 x p i B) (hi : i ≤ 32) (h4 : 4 ≤ x0.length) (hb : ∀ c ∈ x0, isByte c) (h0 : isSealed x0 = true) : isSealed x = decide (B % 2 ^ i = 0) := by
  have k0 := (sealed_iff x0 hb h4).1 h0
  have k1 := sealed_iff x h.byt (by rw [h.len]; exact h4)
  rw [h.reg, k0] at k1
  have hlt : B % 2 ^ i < 2 ^ 32 := Nat.lt_of_lt_of_le (Nat.mod_lt _ (Nat.two_pow_pos i)) (Nat.pow_le_pow_right (by decide) hi)
  rw [Bool.eq_iff_iff, k1, decide_eq_true_eq]
  constructor
  · intro hh
    have h1 : many L 32 ones32 ^^^ many L (8 * x0.length - p) (BitVec.ofNat 32 (B % 2 ^ i)) = many L 32 ones32 ^^^ 0#32 := by rw [hh, BitVec.xor_zero]
    have h2 := (BitVec.xor_right_inj _).1 h1
    have h3 := manyL_eq_zero h2
    have h4 := congrArg BitVec.toNat h3
    rw [BitVec.toNat_ofNat, Nat.mod_eq_of_lt hlt] at h4
    simpa using h4
  · intro hh
    rw [hh]
    show _ ^^^ many L _ 0#32 = _
    rw [manyL_zero, BitVec.xor_zero]
/-- A byte with a bit turned, as the program writes it. -/
theorem turn_bit (k : Nat) (x : Int) (b : Nat) (hx : Crc.isByte x) (hb : b < 8) : Go.bits .xor .u8 x (wr .u8 (1 * p2 (min (Int.toNat (wr .u64 (b : Int))) 8))) = ((x.toNat ^^^ 2 ^ b : Nat) : Int) := by
  have h2 : 2 ^ b < 2 ^ 8 := Nat.pow_lt_pow_right (by decide) hb
  have e : wr .u8 (1 * p2 (min (Int.toNat (wr .u64 (b : Int))) 8)) = ((2 ^ b : Nat) : Int) := by
    rw [wu64 (by omega) (by omega), Int.toNat_natCast, Nat.min_eq_left (by omega), wu8]
    unfold p2
    show 1 * ((2 ^ b : Nat) : Int) % 256 = _
    generalize 2 ^ b = q at h2
    omega
  have hn : x = ((x.toNat : Nat) : Int) := by have := hx.1; omega
  rw [e]
  conv => lhs; rw [hn]
  exact u8_xor_nat _ _ (by have := hx.2; have := hx.1; omega) (by omega)
/-- A bit of a number of 32, as the program looks at it. -/
theorem look_bit (B i : Nat) (hB : B < 4294967296) (hi : i < 32) : Go.bits .and .u32 ((B : Int) / p2 (min (Int.toNat (wr .u64 (i : Int))) 32)) 1 = ((B / 2 ^ i % 2 : Nat) : Int) := by
  have e : (B : Int) / p2 (min (Int.toNat (wr .u64 (i : Int))) 32) = ((B / 2 ^ i : Nat) : Int) := by
    rw [wu64 (by omega) (by omega), Int.toNat_natCast, Nat.min_eq_left (by omega)]
    unfold p2
    exact (Int.natCast_ediv ..).symm
  have hle : B / 2 ^ i ≤ B := Nat.div_le_self _ _
  rw [e]
  have := u32_and_nat (B / 2 ^ i) 1 (by omega) (by omega)
  rw [Nat.and_one_is_mod] at this
  exact this
/-! Bits turned about, one by one. -/
theorem turn_ar (a i n : Nat) (h : a + i < 8 * n) (hn : n ≤ 5000) : wr .i64 ((a : Int) + (i : Int)) = ((a + i : Nat) : Int) ∧ Int.tdiv ((a + i : Nat) : Int) 8 = (((a + i) / 8 : Nat) : Int) ∧ Int.tmod ((a + i : Nat) : Int) 8 = (((a + i) % 8 : Nat) : Int) ∧ wr .i64 (((a + i) / 8 : Nat) : Int) = (((a + i) / 8 : Nat) : Int) ∧
    wr .u64 (((a + i) % 8 : Nat) : Int) = (((a + i) % 8 : Nat) : Int) ∧ (a + i) / 8 < n ∧ (a + i) % 8 < 8 ∧ ltI ((a + i : Nat) : Int) ((8 * n : Nat) : Int) = true ∧ ltI (((a + i) / 8 : Nat) : Int) (n : Int) = true ∧ leI 0 (((a + i) / 8 : Nat) : Int) = true ∧ leI 0 (((a + i) % 8 : Nat) : Int) = true := by
  generalize hz : a + i = z at h
  refine ⟨?_, ?_, ?_, w64n (by omega), wu64 (by omega) (by omega), by omega, by omega, ltI_pos (by omega), ltI_pos (by omega), leI_pos (by omega), leI_pos (by omega)⟩
  · rw [w64 (by omega) (by omega)]
    omega
  · rw [Int.tdiv_eq_ediv_of_nonneg (by omega)]
    omega
  · rw [Int.tmod_eq_emod_of_nonneg (by omega)]
    omega
theorem turn_ar2 (i : Nat) (hi : i < 32) : ltI (i : Int) 32 = true ∧ wr .u64 (i : Int) = (i : Int) ∧ leI 0 (i : Int) = true ∧ wr .i64 ((i : Int) + 1) = ((i + 1 : Nat) : Int) :=
  ⟨ltI_pos (by omega), wu64 (by omega) (by omega), leI_pos (by omega), w64s (by omega)⟩
theorem turn_ar3 (a i n : Nat) (h : ¬ a + i < 8 * n) (ha : a ≤ 50000) (hi : i < 32) : wr .i64 ((a : Int) + (i : Int)) = ((a + i : Nat) : Int) ∧ ltI ((a + i : Nat) : Int) ((8 * n : Nat) : Int) = false :=
  ⟨by rw [w64 (by omega) (by omega)]; omega, ltI_neg (by omega)⟩
theorem turned_yes (B i : Nat) (h : B / 2 ^ i % 2 = 1) : decide (B % 2 ^ (i + 1) ≠ 0) = true := by
  rw [decide_eq_true_eq, bit_more, h, Nat.mul_one]
  exact Nat.ne_of_gt (Nat.lt_of_lt_of_le (Nat.two_pow_pos i) (Nat.le_add_left ..))
theorem turned_no (B i : Nat) (h : B / 2 ^ i % 2 = 0) : decide (B % 2 ^ (i + 1) ≠ 0) = decide (B % 2 ^ i ≠ 0) := by rw [bit_more, h, Nat.mul_zero, Nat.add_zero]
theorem umod (x : Int) (m : Nat) (hm : 0 < m) (hm2 : m ≤ 1000000) : ∃ a : Nat, a < m ∧ wr .i64 (Int.tmod (wr .u64 x) (m : Int)) = (a : Int) := by
  obtain ⟨a, h1, h2⟩ := umod0 x m hm
  refine ⟨a, h1, ?_⟩
  rw [h2]
  clear h2
  exact w64n (by omega)
theorem twin_eq (k : Nat) (l : List Int) (h : l.length ≤ 5000) : m12F k l = some l := by
  simp only [m12F, m12X, leI_eq, decide_eq_true_eq]
  rw [if_pos (by omega)]
theorem bytes_loop (k : Nat) (a b : List Int) (hl : a.length ≤ 5000) (he : a.length = b.length) : ∀ (ra rb pa pb : List Int) (j : Nat), a = pa ++ ra → b = pb ++ rb → pa.length = pb.length → ra.length < j →
    m17F9 k j a b (pa.length : Int) = some (decide (ra = rb)) := by
  intro ra
  induction ra with
  | nil =>
    intro rb pa pb j ha hb hp hj
    obtain ⟨j, rfl⟩ : ∃ i, j = i + 1 := ⟨j - 1, by simp only [List.length_nil] at hj; omega⟩
    have h1 : a.length = pa.length := by rw [ha]; simp
    have h2 : b.length = pb.length + rb.length := by rw [hb]; simp
    obtain rfl : rb = [] := List.eq_nil_of_length_eq_zero (by omega)
    rw [m17F9, m17X9]
    simp only [leI_eq, ltI_eq, eqI_eq, decide_eq_true_eq, if_neg (show ¬ (pa.length : Int) < (a.length : Int) by omega), decide_true]
  | cons x ra ih =>
    intro rb pa pb j ha hb hp hj
    obtain ⟨j, rfl⟩ : ∃ i, j = i + 1 := ⟨j - 1, by omega⟩
    have h1 : a.length = pa.length + (ra.length + 1) := by rw [ha]; simp
    have h2 : b.length = pb.length + rb.length := by rw [hb]; simp
    cases rb with
    | nil => simp only [List.length_nil] at h2; omega
    | cons y rb =>
      simp only [List.length_cons] at h2 hj
      have e1 : a.getD (Int.toNat (pa.length : Int)) 0 = x := by rw [ha]; exact gd_at pa ra x 0
      have e2 : b.getD (Int.toNat (pa.length : Int)) 0 = y := by rw [hb]; exact gd_at' pb rb y 0 pa.length hp.symm
      have c1 : (pa.length : Int) < (a.length : Int) := by omega
      have c2 : (0 : Int) ≤ (pa.length : Int) := by omega
      have c3 : (pa.length : Int) < (b.length : Int) := by omega
      rw [m17F9, m17X9]
      simp only [leI_eq, ltI_eq, eqI_eq, decide_eq_true_eq, if_pos c1, if_pos c2, if_pos c3, e1, e2, w64s (show pa.length < 9223372036854775807 by omega)]
      by_cases hxy : x = y
      · subst hxy
        have := ih rb (pa ++ [x]) (pb ++ [x]) j (by rw [ha]; simp) (by rw [hb]; simp) (by simp [hp]) (by omega)
        rw [List.length_append, List.length_singleton] at this
        simp only [decide_true, Bool.not_true, Bool.false_eq_true, if_false]
        rw [this]
        simp
      · simp [hxy]
theorem bytes_eq' (k : Nat) (hk : 5001 ≤ k) (a b : List Int) (hl : a.length ≤ 5000) : m17F k a b = some (decide (a = b)) := by
  simp only [m17F, m17X]
  by_cases he : a.length = b.length
  · have := bytes_loop k a b hl he a b [] [] k rfl rfl rfl (by omega)
    simp only [List.length_nil] at this
    simp only [he, eqI_eq, decide_true, Bool.not_true, Bool.false_eq_true, if_false]
    exact this
  · have : ¬ ((a.length : Int) = (b.length : Int)) := by omega
    have h2 : ¬ a = b := fun h => he (by rw [h])
    simp [eqI_eq, this, h2]
open Bv Crc E in
theorem one_down16 : ∀ i : Fin 16, many M i.val (BitVec.ofNat 16 (2 ^ (15 - i.val))) = 32768#16 := by decide +kernel
open Bv Crc E in
theorem one_up16 : ∀ b : Fin 8, many M 8 (BitVec.ofNat 16 (2 ^ (7 - b.val) * 256)) = many M (8 - b.val) 32768#16 := by decide +kernel
open Bv Crc E in
theorem flip_byte16 (r : BitVec 16) (c b : Nat) (hb : b < 8) : step16 r ((c ^^^ 2 ^ (7 - b) : Nat) : Int) = step16 r (c : Int) ^^^ many M (8 - b) 32768#16 := by
  have e : by16 ((c ^^^ 2 ^ (7 - b) : Nat) : Int) = by16 (c : Int) ^^^ BitVec.ofNat 16 (2 ^ (7 - b) * 256) := by
    unfold by16
    rw [Int.toNat_natCast, Int.toNat_natCast, ← BitVec.ofNat_xor]
    congr 1
    rw [show (256 : Nat) = 2 ^ 8 from rfl, ← Nat.shiftLeft_eq, ← Nat.shiftLeft_eq, ← Nat.shiftLeft_eq, Nat.shiftLeft_xor_distrib]
  unfold step16
  rw [e, ← BitVec.xor_assoc, many_xor M_xor, one_up16 ⟨b, hb⟩]
open Bv Crc E in
theorem step_xor16 (r d : BitVec 16) (c : Int) : step16 (r ^^^ d) c = step16 r c ^^^ many M 8 d := by
  unfold step16
  rw [← many_xor M_xor]
  congr 1
  rw [BitVec.xor_assoc, BitVec.xor_comm d, ← BitVec.xor_assoc]
open Bv Crc E in
theorem reg_xor16 (l : List Int) : ∀ r d : BitVec 16, reg16 (r ^^^ d) l = reg16 r l ^^^ many M (8 * l.length) d := by
  induction l with
  | nil => intro r d; rw [reg16_nil, reg16_nil, List.length_nil, Nat.mul_zero, many_zero]
  | cons c l ih =>
    intro r d
    rw [reg16_cons, reg16_cons, step_xor16, ih, ← many_add, List.length_cons]
    congr 2
open Bv Crc E in
theorem reg16_append (r : BitVec 16) (l m : List Int) : reg16 r (l ++ m) = reg16 (reg16 r l) m := by unfold reg16; rw [List.foldl_append]
open Bv Crc E in
theorem flip_reg16 (r : BitVec 16) (l : List Int) (hb : ∀ c ∈ l, isByte c) (j : Nat) (hj : j < 8 * l.length) :
    reg16 r (l.set (j / 8) (((l.getD (j / 8) 0).toNat ^^^ 2 ^ (7 - j % 8) : Nat) : Int)) = reg16 r l ^^^ many M (8 * l.length - j) 32768#16 := by
  have hi : j / 8 < l.length := by omega
  have hc : isByte (l[j / 8]) := hb _ (List.getElem_mem hi)
  have hg : l.getD (j / 8) 0 = l[j / 8] := by rw [List.getD_eq_getElem?_getD, List.getElem?_eq_getElem hi]; rfl
  have e1 : l = l.take (j / 8) ++ l[j / 8] :: l.drop (j / 8 + 1) := by
    rw [List.getElem_cons_drop, List.take_append_drop]
  have hn : (l[j / 8]) = ((l[j / 8].toNat : Nat) : Int) := by have := hc.1; omega
  rw [hg, List.set_eq_take_append_cons_drop, if_pos hi, reg16_append, reg16_cons, flip_byte16 _ _ _ (by omega), reg_xor16, ← many_add]
  have e2 : reg16 r l = reg16 (step16 (reg16 r (l.take (j / 8))) (l[j / 8])) (l.drop (j / 8 + 1)) := by
    conv => lhs; rw [e1]
    rw [reg16_append, reg16_cons]
  rw [e2, ← hn, List.length_drop]
  congr 2
  omega
/-- The bits of B below i, each mirrored. -/
def mir (B : Nat) : Nat → BitVec 16
  | 0 => 0#16
  | i + 1 => if B / 2 ^ i % 2 = 1 then mir B i ^^^ BitVec.ofNat 16 (2 ^ (15 - i)) else mir B i
theorem mir_bit (B : Nat) : ∀ i, i ≤ 16 → ∀ j, j < 16 → (mir B i).getLsbD j = (decide (15 - j < i) && B.testBit (15 - j))
  | 0, _, j, hj => by
    rw [mir]
    simp
  | i + 1, hi, j, hj => by
    have ih := mir_bit B i (by omega) j hj
    have hb : (B / 2 ^ i % 2 = 1) ↔ B.testBit i = true := by
      rw [Nat.testBit_eq_decide_div_mod_eq, decide_eq_true_eq]
    rw [mir]
    split
    · rename_i h
      rw [BitVec.getLsbD_xor, ih, BitVec.getLsbD_ofNat, Nat.testBit_two_pow]
      by_cases e : 15 - i = j
      · have e' : 15 - j = i := by omega
        rw [e', hb.1 h]
        simp [e, hj]
      · have e' : ¬ 15 - j = i := by omega
        by_cases k : 15 - j < i
        · simp [e, k, show 15 - j < i + 1 by omega]
        · simp [e, k, show ¬ 15 - j < i + 1 by omega]
    · rename_i h
      rw [ih]
      by_cases e' : 15 - j = i
      · have : B.testBit i = false := by
          cases hh : B.testBit i
          · rfl
          · exact absurd (hb.2 hh) h
        rw [e', this]
        simp
      · by_cases k : 15 - j < i
        · simp [k, show 15 - j < i + 1 by omega]
        · simp [k, show ¬ 15 - j < i + 1 by omega]
theorem mir_zero (B i : Nat) (hi : i ≤ 16) : mir B i = 0#16 ↔ B % 2 ^ i = 0 := by
  constructor
  · intro h
    apply Nat.eq_of_testBit_eq
    intro j
    rw [Nat.testBit_mod_two_pow, Nat.zero_testBit]
    by_cases k : j < i
    · have := mir_bit B i hi (15 - j) (by omega)
      rw [h, show 15 - (15 - j) = j by omega, decide_eq_true k] at this
      simpa [k] using this.symm
    · simp [k]
  · intro h
    apply BitVec.eq_of_getLsbD_eq
    intro j hj
    rw [mir_bit B i hi j hj]
    by_cases k : 15 - j < i
    · have := congrArg (fun n => n.testBit (15 - j)) h
      simp only [Nat.testBit_mod_two_pow, Nat.zero_testBit] at this
      rw [decide_eq_true k, Bool.true_and] at this
      rw [this]
      simp
    · simp [k]
open Bv Crc E in
/-- Bits of B from the bit p on, turned about in a text, the highest of each byte first. -/
structure Flip16 (x0 x : List Int) (p i B : Nat) : Prop where
  len : x.length = x0.length
  byt : ∀ c ∈ x, isByte c
  reg : reg16 ones16 (x.take 11) = reg16 ones16 (x0.take 11) ^^^ many M (88 - p) (mir B i)
  same : B % 2 ^ i = 0 → x = x0
  head : ∀ t, 8 * t + 8 ≤ p → x.getD t 0 = x0.getD t 0
  tail : ∀ t, 11 ≤ t → x.getD t 0 = x0.getD t 0
open Bv Crc E in
theorem Flip16.zero {x0 : List Int} {p B : Nat} (hb : ∀ c ∈ x0, isByte c) : Flip16 x0 x0 p 0 B := by
  refine ⟨rfl, hb, ?_, fun _ => rfl, fun _ _ => rfl, fun _ _ => rfl⟩
  rw [mir, manyM_zero, BitVec.xor_zero]
theorem bit_more16 (B i : Nat) : B % 2 ^ (i + 1) = B % 2 ^ i + 2 ^ i * (B / 2 ^ i % 2) := by
  rw [Nat.pow_succ, Nat.mod_mul]
open Bv Crc E in
theorem Flip16.skip {x0 x : List Int} {p i B : Nat} (h : Flip16 x0 x p i B) (hb : B / 2 ^ i % 2 = 0) : Flip16 x0 x p (i + 1) B := by
  have e : B % 2 ^ (i + 1) = B % 2 ^ i := by rw [bit_more16, hb, Nat.mul_zero, Nat.add_zero]
  have e2 : mir B (i + 1) = mir B i := by rw [mir, if_neg (by omega)]
  exact ⟨h.len, h.byt, by rw [e2]; exact h.reg, by rw [e]; exact h.same, h.head, h.tail⟩
open Bv Crc E in
theorem Flip16.one {x0 x : List Int} {p i B : Nat} (h : Flip16 x0 x p i B) (hb : B / 2 ^ i % 2 = 1) (hp : p + i < 88) (hi : i < 16) (hl : 11 ≤ x0.length) :
    Flip16 x0 (x.set ((p + i) / 8) (((x.getD ((p + i) / 8) 0).toNat ^^^ 2 ^ (7 - (p + i) % 8) : Nat) : Int)) p (i + 1) B := by
  have e : B % 2 ^ (i + 1) = B % 2 ^ i + 2 ^ i := by rw [bit_more16, hb, Nat.mul_one]
  have hpos := Nat.two_pow_pos i
  have h11 : (p + i) / 8 < 11 := by clear e hb; omega
  have hix : (p + i) / 8 < x.length := by rw [h.len]; clear e hb; omega
  have hbt : isByte (x.getD ((p + i) / 8) 0) := by
    rw [List.getD_eq_getElem?_getD, List.getElem?_eq_getElem hix]
    exact h.byt _ (List.getElem_mem hix)
  refine ⟨by rw [List.length_set]; exact h.len, fun c hc => ?_, ?_, fun h0 => by omega, fun t ht => ?_, fun t ht => ?_⟩
  · rcases List.mem_or_eq_of_mem_set hc with hc | rfl
    · exact h.byt c hc
    · have h2 : 2 ^ (7 - (p + i) % 8) < 2 ^ 8 := Nat.pow_lt_pow_right (by decide) (by omega)
      have h3 : (x.getD ((p + i) / 8) 0).toNat ^^^ 2 ^ (7 - (p + i) % 8) < 2 ^ 8 := Nat.xor_lt_two_pow (by have := hbt.1; have := hbt.2; omega) h2
      exact ⟨Int.natCast_nonneg _, by generalize (x.getD ((p + i) / 8) 0).toNat ^^^ 2 ^ (7 - (p + i) % 8) = z at h3 ⊢; omega⟩
  · have hlt : (x.take 11).length = 11 := by rw [List.length_take, h.len]; omega
    have hg : (x.take 11).getD ((p + i) / 8) 0 = x.getD ((p + i) / 8) 0 := by
      rw [List.getD_eq_getElem?_getD, List.getD_eq_getElem?_getD, List.getElem?_take, if_pos h11]
    have f := flip_reg16 ones16 (x.take 11) (fun c hc => h.byt c (List.mem_of_mem_take hc)) (p + i) (by rw [hlt]; exact hp)
    rw [hg, hlt] at f
    rw [List.take_set, f, h.reg, BitVec.xor_assoc]
    have e3 : mir B (i + 1) = mir B i ^^^ BitVec.ofNat 16 (2 ^ (15 - i)) := by rw [mir, if_pos hb]
    rw [e3, many_xor M_xor]
    congr 2
    have := one_down16 ⟨i, hi⟩
    rw [← this, ← many_add]
    congr 1
    show 8 * 11 - (p + i) + i = _
    clear e hb
    omega
  · rw [← h.head t ht, List.getD_eq_getElem?_getD, List.getD_eq_getElem?_getD, List.getElem?_set_ne (by clear e hb; omega)]
    rfl
  · rw [← h.tail t ht, List.getD_eq_getElem?_getD, List.getD_eq_getElem?_getD, List.getElem?_set_ne (by clear e hb; omega)]
    rfl
/-! Unlike texts, unlike sums. -/
open Crc E in
theorem reg32_inj {r s : BitVec 32} {l : List Int} (h : reg32 r l = reg32 s l) : r = s := by
  have e : r = s ^^^ (s ^^^ r) := by rw [← BitVec.xor_assoc, BitVec.xor_self, BitVec.zero_xor]
  rw [e, reg_xor] at h
  have h2 : many L (8 * l.length) (s ^^^ r) = 0#32 := by
    have := congrArg (fun z => reg32 s l ^^^ z) h
    simp only [← BitVec.xor_assoc, BitVec.xor_self, BitVec.zero_xor] at this
    exact this
  exact (xor_eq_zero (manyL_eq_zero h2)).symm
open Crc E in
theorem reg16_inj {r s : BitVec 16} {l : List Int} (h : reg16 r l = reg16 s l) : r = s := by
  have e : r = s ^^^ (s ^^^ r) := by rw [← BitVec.xor_assoc, BitVec.xor_self, BitVec.zero_xor]
  rw [e, reg_xor16] at h
  have h2 : many M (8 * l.length) (s ^^^ r) = 0#16 := by
    have := congrArg (fun z => reg16 s l ^^^ z) h
    simp only [← BitVec.xor_assoc, BitVec.xor_self, BitVec.zero_xor] at this
    exact this
  exact (xor_eq_zero (manyM_eq_zero h2)).symm
open Crc E in
theorem xor_left_inj {n : Nat} {r a b : BitVec n} (h : r ^^^ a = r ^^^ b) : a = b := by
  have := congrArg (fun z => r ^^^ z) h
  simp only [← BitVec.xor_assoc, BitVec.xor_self, BitVec.zero_xor] at this
  exact this
open Crc E in
theorem four_inj (r : BitVec 32) (post : List Int) (a0 a1 a2 a3 b0 b1 b2 b3 : Int) (ha : ∀ c ∈ [a0, a1, a2, a3], isByte c) (hb : ∀ c ∈ [b0, b1, b2, b3], isByte c) (h : reg32 r ([a0, a1, a2, a3] ++ post) = reg32 r ([b0, b1, b2, b3] ++ post)) : [a0, a1, a2, a3] = [b0, b1, b2, b3] := by
  obtain ⟨s, hs⟩ := seal4_of a0 a1 a2 a3 (ha _ (by simp)) (ha _ (by simp)) (ha _ (by simp)) (ha _ (by simp))
  obtain ⟨t, ht⟩ := seal4_of b0 b1 b2 b3 (hb _ (by simp)) (hb _ (by simp)) (hb _ (by simp)) (hb _ (by simp))
  rw [reg_append, reg_append, ← hs, ← ht, feed4, feed4] at h
  rw [← hs, ← ht, xor_left_inj (manyL_inj (reg32_inj h))]
open Bv Crc E in
theorem two_more16 (r : BitVec 16) (a b : Int) (ha : isByte a) (hb : isByte b) : reg16 r [a, b] = many M 16 (r ^^^ BitVec.ofNat 16 (a.toNat * 256 + b.toNat)) := by
  obtain ⟨a0, a1⟩ := ha
  obtain ⟨b0, b1⟩ := hb
  have hs : many M 8 (BitVec.ofNat 16 b.toNat) = by16 b := by
    rw [high_shift 8 _ (by rw [BitVec.toNat_ofNat]; omega) (by omega)]
    unfold by16
    apply BitVec.eq_of_toNat_eq
    rw [BitVec.toNat_shiftLeft, BitVec.toNat_ofNat, BitVec.toNat_ofNat, Nat.shiftLeft_eq]
    omega
  have hx : BitVec.ofNat 16 (a.toNat * 256 + b.toNat) = by16 a ^^^ BitVec.ofNat 16 b.toNat := by
    unfold by16
    rw [← BitVec.ofNat_xor]
    congr 1
    have := Nat.shiftLeft_add_eq_or_of_lt (i := 8) (b := b.toNat) (by omega) a.toNat
    rw [Nat.shiftLeft_eq] at this
    have e : a.toNat * 256 + b.toNat = a.toNat * 2 ^ 8 + b.toNat := rfl
    rw [e, this]
    apply Nat.eq_of_testBit_eq
    intro j
    rw [Nat.testBit_or, Nat.testBit_xor, Nat.testBit_mul_two_pow]
    by_cases hj : 8 ≤ j
    · rw [Nat.testBit_lt_two_pow (show b.toNat < 2 ^ j from Nat.lt_of_lt_of_le (show b.toNat < 2 ^ 8 by omega) (Nat.pow_le_pow_right (by decide) hj))]
      simp
    · simp [hj]
  rw [hx, reg16_cons, reg16_cons, reg16_nil]
  unfold step16
  rw [← hs, ← many_xor M_xor, ← many_add]
  congr 1
  rw [BitVec.xor_assoc]
open Crc E in
theorem two_inj (r : BitVec 16) (post : List Int) (a0 a1 b0 b1 : Int) (ha : ∀ c ∈ [a0, a1], isByte c) (hb : ∀ c ∈ [b0, b1], isByte c) (h : reg16 r ([a0, a1] ++ post) = reg16 r ([b0, b1] ++ post)) : [a0, a1] = [b0, b1] := by
  have h1 := ha a0 (by simp)
  have h2 := ha a1 (by simp)
  have h3 := hb b0 (by simp)
  have h4 := hb b1 (by simp)
  rw [reg16_append, reg16_append, two_more16 r a0 a1 h1 h2, two_more16 r b0 b1 h3 h4] at h
  have h5 := congrArg BitVec.toNat (xor_left_inj (manyM_inj (reg16_inj h)))
  rw [BitVec.toNat_ofNat, BitVec.toNat_ofNat] at h5
  unfold isByte at h1 h2 h3 h4
  have e0 : a0 = b0 := by omega
  have e1 : a1 = b1 := by omega
  rw [e0, e1]
theorem xor8_byte (x y : Int) : Crc.isByte (bits .xor .u8 x y) := by
  have e : bits .xor .u8 x y = IntKind.u8.wrap ((BitVec.ofInt 8 x ^^^ BitVec.ofInt 8 y).toNat : Int) := rfl
  rw [e]
  generalize ((BitVec.ofInt 8 x ^^^ BitVec.ofInt 8 y).toNat : Int) = z
  have : IntKind.u8.wrap z = z % 256 := by rw [IntKind.wrap_u8]
  rw [this]
  unfold Crc.isByte
  omega
open Bv Crc E in
theorem eqI_u {n : Nat} (a b : BitVec n) (d : Bool) (h : a = b ↔ d = true) : (eqI (u a) (u b) == d) = true := by
  by_cases e : a = b
  · rw [e, eqI_pos rfl, h.1 e]
    rfl
  · have hd : d = false := by
      cases d with
      | false => rfl
      | true => exact absurd (h.2 rfl) e
    rw [hd, eqI_neg]
    · rfl
    · intro q
      unfold u at q
      exact e (BitVec.eq_of_toNat_eq (by omega))
open Be in
theorem p2_256 (s : Nat) (h : s ≤ 4) : p2 (min (Int.toNat (wr .i64 (8 * (s : Int)))) 64) = ((256 ^ s : Nat) : Int) := by
  obtain rfl | rfl | rfl | rfl | rfl : s = 0 ∨ s = 1 ∨ s = 2 ∨ s = 3 ∨ s = 4 := by omega
  all_goals decide +kernel
open Be in
theorem put_loop (k : Nat) (n : Int) : ∀ (s : Nat) (acc : List Int) (m : Nat), s ≤ 4 → s < m → acc.length + s ≤ 4200 → m30F15 k m n ((s : Int) - 1) acc = some (acc ++ be s n, 0) := by
  intro s
  induction s with
  | zero =>
    intro acc m _ hm h
    obtain ⟨m, rfl⟩ : ∃ x, m = x + 1 := ⟨m - 1, by omega⟩
    rw [m30F15, m30X15]
    simp only [leI_eq, decide_eq_true_eq]
    rw [if_neg (by omega)]
    simp only [m30F20, m30X20]
    rw [clone_eq k acc (by omega), Option.bind_some, be, List.append_nil]
  | succ s ih =>
    intro acc m hs hm h
    obtain ⟨m, rfl⟩ : ∃ x, m = x + 1 := ⟨m - 1, by omega⟩
    have w0 : ((s + 1 : Nat) : Int) - 1 = (s : Int) := by omega
    have w2 : wr .i64 ((s : Int) - 1) = (s : Int) - 1 := w64 (by omega) (by omega)
    have w1 : (0 : Int) ≤ wr .i64 (8 * (s : Int)) := by rw [w64 (by omega) (by omega)]; omega
    rw [m30F15, m30X15]
    simp only [leI_eq, decide_eq_true_eq, w0, w2, one_set, p2_256 s (by omega), if_pos w1, if_pos (show (s : Int) ≥ 0 by omega), wu8]
    rw [if_pos (by simp only [List.length_singleton]; omega), ih _ m (by omega) (by omega) (by simp; omega), be, List.append_assoc]
    rfl
open Be in
theorem put_eq (k : Nat) (hk : 10 ≤ k) (l : List Int) (n : Int) (s : Nat) (h1 : 1 ≤ s) (h4 : s ≤ 4) (hl : l.length + s ≤ 4096) (h0 : 0 ≤ n) (hn : n < ((256 ^ s : Nat) : Int)) : m30F k l n (s : Int) = some (l ++ be s n, 0) := by
  have w1 : (0 : Int) ≤ wr .i64 (8 * (s : Int)) := by rw [w64 (by omega) (by omega)]; omega
  have w2 : wr .i64 (4096 - (s : Int)) = 4096 - (s : Int) := w64 (by omega) (by omega)
  have w3 : wr .i64 ((s : Int) - 1) = (s : Int) - 1 := w64 (by omega) (by omega)
  have hp : ((256 ^ s : Nat) : Int) ≤ 4294967296 := by
    have : 256 ^ s ≤ 256 ^ 4 := Nat.pow_le_pow_right (by decide) h4
    omega
  have w4 : wr .i64 (1 * ((256 ^ s : Nat) : Int)) = ((256 ^ s : Nat) : Int) := by
    generalize ((256 ^ s : Nat) : Int) = q at hp hn
    rw [w64 (by omega) (by omega)]
    omega
  simp only [m30F, m30X, leI_eq, ltI_eq, decide_eq_true_eq, p2_256 s h4, w2, w3, w4, if_pos w1]
  generalize ((256 ^ s : Nat) : Int) = q at hp hn
  rw [if_neg (by omega), if_neg (by omega), if_neg (by omega), if_neg (by omega), if_neg (by omega), clone_eq k l (by omega), Option.bind_some]
  exact put_loop k n s l k h4 (by omega) (by omega)
open Be in
theorem put_bad (k : Nat) (l : List Int) (n : Int) (s : Nat) (h1 : 1 ≤ s) (h4 : s ≤ 4) (hn : n < 0 ∨ ((256 ^ s : Nat) : Int) ≤ n) : m30F k l n (s : Int) = some ([], 1) := by
  have w1 : (0 : Int) ≤ wr .i64 (8 * (s : Int)) := by rw [w64 (by omega) (by omega)]; omega
  have hp : ((256 ^ s : Nat) : Int) ≤ 4294967296 := by
    have : 256 ^ s ≤ 256 ^ 4 := Nat.pow_le_pow_right (by decide) h4
    omega
  have hq : (0 : Int) ≤ ((256 ^ s : Nat) : Int) := Int.natCast_nonneg _
  have w4 : wr .i64 (1 * ((256 ^ s : Nat) : Int)) = ((256 ^ s : Nat) : Int) := by
    generalize ((256 ^ s : Nat) : Int) = q at hp hn hq
    rw [w64 (by omega) (by omega)]
    omega
  simp only [m30F, m30X, leI_eq, ltI_eq, decide_eq_true_eq, p2_256 s h4, w4, if_pos w1]
  generalize ((256 ^ s : Nat) : Int) = q at hp hn hq
  rw [if_neg (by omega), if_neg (by omega)]
  by_cases h : n < 0
  · rw [if_pos (by omega)]
  · rw [if_neg (by omega), if_pos (by omega)]
open Bv in
theorem shr_u8 (c j : Nat) (hj : j < 8) : (c : Int) / p2 (min (Int.toNat (wr .u64 (j : Int))) 8) = ((c / 2 ^ j : Nat) : Int) := by
  rw [wu64 (by omega) (by omega), Int.toNat_natCast, Nat.min_eq_left (by omega)]
  unfold p2
  exact (Int.natCast_ediv ..).symm
/-! A text's bits, the page's. -/
def bitsB (l : List Int) : List Int := l.flatMap (fun c => (Crc.bitsOf c.toNat).map (fun b : Nat => (b : Int)))
theorem bitsB_nil : bitsB [] = [] := rfl
theorem bitsB_cons (c : Int) (l : List Int) : bitsB (c :: l) = (Crc.bitsOf c.toNat).map (fun b : Nat => (b : Int)) ++ bitsB l := rfl
theorem bitsB_app (l m : List Int) : bitsB (l ++ m) = bitsB l ++ bitsB m := List.flatMap_append ..
theorem bitsB_length (l : List Int) : (bitsB l).length = 8 * l.length := by
  induction l with
  | nil => rfl
  | cons c l ih =>
    rw [bitsB_cons, List.length_append, ih, List.length_cons]
    have : ((Crc.bitsOf c.toNat).map (fun b : Nat => (b : Int))).length = 8 := by simp [Crc.bitsOf]
    omega
theorem bitsB_eq (l : List Int) : bitsB l = (l.flatMap (fun c => Crc.bitsOf c.toNat)).map (fun b : Nat => (b : Int)) := by
  unfold bitsB
  rw [List.map_flatMap]
theorem bitsB_lt (l : List Int) : ∀ b ∈ l.flatMap (fun c => Crc.bitsOf c.toNat), b < 2 := by
  intro b hb'
  obtain ⟨c, _, hc⟩ := List.mem_flatMap.1 hb'
  unfold Crc.bitsOf at hc
  obtain ⟨j, _, rfl⟩ := List.mem_map.1 hc
  omega
theorem rb_ar (n j len : Nat) (hj : j < 8) (hn : n < len) (hl : len ≤ 4096) : wr .i64 (8 * (len : Int)) = ((8 * len : Nat) : Int) ∧ ltI ((8 * n + j : Nat) : Int) ((8 * len : Nat) : Int) = true ∧ wr .i64 (Int.tdiv ((8 * n + j : Nat) : Int) 8) = (n : Int) ∧ leI 0 (n : Int) = true ∧ ltI (n : Int) (len : Int) = true ∧
    wr .i64 (7 - Int.tmod ((8 * n + j : Nat) : Int) 8) = ((7 - j : Nat) : Int) ∧ wr .i64 (((8 * n + j : Nat) : Int) + 1) = ((8 * n + (j + 1) : Nat) : Int) ∧ leI (((8 * n + j + 1) * 8 : Nat) : Int) 140737488355328 = true ∧ leI 0 (wr .u64 ((7 - j : Nat) : Int)) = true := by
  refine ⟨by rw [w64 (by omega) (by omega)]; omega, ltI_pos (by omega), ?_, leI_pos (by omega), ltI_pos (by omega), ?_, by rw [w64 (by omega) (by omega)]; omega, leI_pos (by omega), ?_⟩
  · rw [Int.tdiv_eq_ediv_of_nonneg (by omega), w64 (by omega) (by omega)]
    omega
  · rw [Int.tmod_eq_emod_of_nonneg (by omega), w64 (by omega) (by omega)]
    omega
  · rw [wu64 (by omega) (by omega)]
    exact leI_pos (by omega)
theorem refbits_inner (k : Nat) (l : List Int) (n c : Nat) (hl : l.length ≤ 4096) (hc : c < 256) (hn : n < l.length) (hr : l.getD n 0 = (c : Int)) (X : Option (List Int)) : ∀ (d j m : Nat) (acc : List Int), j + d = 8 → acc.length = 8 * n + j →
    m27F7 k m l ((8 * n + 8 : Nat) : Int) (acc ++ ((List.range' j d).map (fun j => c / 2 ^ (7 - j) % 2)).map (fun b : Nat => (b : Int))) = X →
    m27F7 k (m + d) l ((8 * n + j : Nat) : Int) acc = X := by
  intro d
  induction d with
  | zero =>
    intro j m acc hj _ R
    obtain rfl : j = 8 := by omega
    simpa using R
  | succ d ih =>
    intro j m acc hj ha R
    rw [List.range'_succ, List.map_cons, List.map_cons] at R
    have e8 : (!eqI 8 0) = true := by rw [eqI_neg (by decide)]; rfl
    have hd : c / 2 ^ (7 - j) ≤ c := Nat.div_le_self _ _
    have hd2 : c / 2 ^ (7 - j) < 9223372036854775808 := by omega
    have hs := shr_u8 c (7 - j) (by omega)
    have h1 : j + 1 + d = 8 := by omega
    have h2 : (acc ++ [((c / 2 ^ (7 - j) % 2 : Nat) : Int)]).length = 8 * n + (j + 1) := by rw [List.length_append, List.length_singleton]; omega
    obtain ⟨a1, a2, a3, a4, a5, a6, a7, a8, a9⟩ := rb_ar n j l.length (by omega) hn hl
    have ew := w64n hd2
    have e1 := Bv.and1 (c / 2 ^ (7 - j)) hd2
    rw [show m + (d + 1) = (m + d) + 1 from rfl, m27F7, m27X7]
    simp only [a1, a2, a3, a4, a5, a6, a7, a9, if_true, e8, Int.toNat_natCast, hr, hs, ew, e1, one_set, List.length_singleton, ha, a8]
    refine ih (j + 1) m _ h1 h2 ?_
    rw [List.append_assoc]
    exact R
open Crc in
theorem refbits_loop (k : Nat) (l : List Int) (hl : l.length ≤ 4096) : ∀ (rest pre : List Int) (m : Nat), l = pre ++ rest → (∀ c ∈ rest, isByte c) → 8 * rest.length < m →
    m27F7 k m l ((8 * pre.length : Nat) : Int) (bitsB pre) = some (bitsB l) := by
  intro rest
  induction rest with
  | nil =>
    intro pre m h _ hm
    obtain ⟨m, rfl⟩ : ∃ x, m = x + 1 := ⟨m - 1, by omega⟩
    rw [List.append_nil] at h
    subst h
    have w8 : wr .i64 (8 * (l.length : Int)) = ((8 * l.length : Nat) : Int) := by rw [w64 (by omega) (by omega)]; omega
    rw [m27F7, m27X7, w8, if_neg (by rw [ltI_neg (by omega)]; simp)]
  | cons c rest ih =>
    intro pre m h hb hm
    have hlen : l.length = pre.length + (rest.length + 1) := by rw [h]; simp
    obtain ⟨h0, h1⟩ := hb c (by simp)
    have hp : l.getD pre.length 0 = ((c.toNat : Nat) : Int) := by
      have := gd_at pre rest c 0
      rw [Int.toNat_natCast] at this
      rw [h, this]
      omega
    rw [List.length_cons] at hm
    obtain ⟨m, rfl⟩ : ∃ x, m = x + 8 := ⟨m - 8, by omega⟩
    refine refbits_inner k l pre.length c.toNat hl (by omega) (by omega) hp _ 8 0 m (bitsB pre) rfl (by rw [bitsB_length, Nat.add_zero]) ?_
    have e : bitsB (pre ++ [c]) = bitsB pre ++ ((List.range' 0 8).map (fun j => c.toNat / 2 ^ (7 - j) % 2)).map (fun b : Nat => (b : Int)) := by
      unfold bitsB bitsOf
      rw [List.flatMap_append]
      simp
    have := ih (pre ++ [c]) m (by rw [h]; simp) (fun y hy => hb y (by simp [hy])) (by omega)
    rw [e, List.length_append, List.length_singleton, Nat.mul_add, Nat.mul_one] at this
    exact this
open Crc in
theorem refbits_eq (k : Nat) (l : List Int) (hl : l.length ≤ 4096) (hk : 8 * l.length < k) (hb : ∀ c ∈ l, isByte c) : m27F k l = some (bitsB l) := by
  simp only [m27F, m27X]
  exact refbits_loop k l hl l [] k rfl hb hk
theorem clonei_eq (k : Nat) (l : List Int) (h : l.length ≤ 5000) : m39F k l = some l := by
  simp only [m39F, m39X, leI_eq, decide_eq_true_eq]
  rw [nilK_of, if_pos (by omega)]
  · rfl
  · intro he
    rw [if_pos (by omega)]
    rw [List.isEmpty_iff.1 he]
    rfl
/-! Polynomials over two elements. -/
open Gf
noncomputable def badBit (x : Int) : Bool := !eqI x 0 && !eqI x 1
theorem badBit_false {x : Int} (h : isBit x) : badBit x = false := by
  unfold badBit
  rcases h with rfl | rfl
  · rw [eqI_pos rfl]
    rfl
  · rw [eqI_pos (a := 1) (b := 1) rfl]
    exact Bool.and_false _
theorem badBit_true {x : Int} (h : ¬ isBit x) : badBit x = true := by
  unfold badBit
  rw [eqI_neg fun e => h (.inl e), eqI_neg fun e => h (.inr e)]
  rfl
theorem bad02 (k : Nat) (x : Int) : m37F k x = some (badBit x) := by
  simp only [m37F, m37X, badBit]
  cases eqI x 0 <;> simp
theorem index02 (k : Nat) (l : List Int) (hl : l.length ≤ 5000) : ∀ (rest pre : List Int) (j : Nat), l = pre ++ rest → rest.length < j → ∃ r, m40F5 k j l (l.length : Int) (pre.length : Int) = some r ∧ leI 0 r = rest.any badBit := by
  intro rest
  induction rest with
  | nil =>
    intro pre j e hj
    obtain ⟨j, rfl⟩ : ∃ n, j = n + 1 := ⟨j - 1, by omega⟩
    have hlen : l.length = pre.length := by rw [e]; simp
    refine ⟨-1, ?_, ?_⟩
    · simp only [m40F5, m40X5]
      rw [if_neg (by rw [ltI_neg (by omega)]; simp)]
    · rw [leI_neg (by decide)]
      rfl
  | cons x rest ih =>
    intro pre j e hj
    obtain ⟨j, rfl⟩ : ∃ n, j = n + 1 := ⟨j - 1, by omega⟩
    have hlen : l.length = pre.length + (rest.length + 1) := by rw [e]; simp
    have hx : l.getD (Int.toNat (pre.length : Int)) 0 = x := by rw [e]; exact gd_at pre rest x 0
    simp only [m40F5, m40X5]
    rw [if_pos (ltI_pos (by omega)), if_pos (leI_pos (by omega)), if_pos (ltI_pos (by omega)), hx, bad02, Option.bind_some]
    cases hb : badBit x with
    | true =>
      refine ⟨(pre.length : Int), if_pos rfl, ?_⟩
      rw [leI_pos (by omega), List.any_cons, hb]
      rfl
    | false =>
      obtain ⟨r, h1, h2⟩ := ih (pre ++ [x]) j (by rw [e]; simp) (by simp only [List.length_cons] at hj; omega)
      refine ⟨r, ?_, ?_⟩
      · rw [if_neg (by simp), w64 (by omega) (by omega)]
        rw [show ((pre ++ [x]).length : Int) = (pre.length : Int) + 1 by simp] at h1
        exact h1
      · rw [h2, List.any_cons, hb]
        rfl
theorem contains02 (k : Nat) (hk : 5001 ≤ k) (l : List Int) (hl : l.length ≤ 5000) : m36F k l PUnit.unit = some (l.any badBit) := by
  obtain ⟨r, h1, h2⟩ := index02 k l hl l [] k rfl (by omega)
  have h3 : m40F k l PUnit.unit = some r := by
    simp only [m40F, m40X]
    exact h1
  simp only [m36F, m36X]
  rw [h3, Option.bind_some, h2]
noncomputable def anyBad (ls : List (List Int)) : Bool := ls.any fun a => a.any badBit
theorem wrong_loop1 (k : Nat) (ls : List (List Int)) (hn : ls.length ≤ 100) (hl : ∀ a ∈ ls, a.length ≤ 5000) : ∀ (rest pre : List (List Int)) (j : Nat), ls = pre ++ rest → rest.length < j → m33F5 k j ls ls (ls.length : Int) (pre.length : Int) = m33F14 k ls := by
  intro rest
  induction rest with
  | nil =>
    intro pre j e hj
    obtain ⟨j, rfl⟩ : ∃ n, j = n + 1 := ⟨j - 1, by omega⟩
    have hlen : ls.length = pre.length := by rw [e]; simp
    simp only [m33F5, m33X5]
    rw [if_neg (by rw [ltI_neg (by omega)]; simp)]
  | cons x rest ih =>
    intro pre j e hj
    obtain ⟨j, rfl⟩ : ∃ n, j = n + 1 := ⟨j - 1, by omega⟩
    have hlen : ls.length = pre.length + (rest.length + 1) := by rw [e]; simp
    have hx : ls.getD (Int.toNat (pre.length : Int)) [] = x := by rw [e]; exact gd_at pre rest x []
    have hxl := hl x (by rw [e]; simp)
    have := ih (pre ++ [x]) j (by rw [e]; simp) (by simp only [List.length_cons] at hj; omega)
    rw [show ((pre ++ [x]).length : Int) = (pre.length : Int) + 1 by simp] at this
    simp only [m33F5, m33X5]
    rw [if_pos (ltI_pos (by omega)), if_pos (leI_pos (by omega)), if_pos (ltI_pos (by omega)), hx, if_neg (by rw [ltI_neg (by omega)]; simp), w64 (by omega) (by omega)]
    exact this
theorem wrong_loop2 (k : Nat) (hk : 5001 ≤ k) (ls : List (List Int)) (hn : ls.length ≤ 100) (hl : ∀ a ∈ ls, a.length ≤ 5000) : ∀ (rest pre : List (List Int)) (j : Nat), ls = pre ++ rest → rest.length < j → m33F17 k j ls (ls.length : Int) (pre.length : Int) = some (if anyBad rest = true then 1 else 0) := by
  intro rest
  induction rest with
  | nil =>
    intro pre j e hj
    obtain ⟨j, rfl⟩ : ∃ n, j = n + 1 := ⟨j - 1, by omega⟩
    have hlen : ls.length = pre.length := by rw [e]; simp
    simp only [m33F17, m33X17]
    rw [if_neg (by rw [ltI_neg (by omega)]; simp)]
    rfl
  | cons x rest ih =>
    intro pre j e hj
    obtain ⟨j, rfl⟩ : ∃ n, j = n + 1 := ⟨j - 1, by omega⟩
    have hlen : ls.length = pre.length + (rest.length + 1) := by rw [e]; simp
    have hx : ls.getD (Int.toNat (pre.length : Int)) [] = x := by rw [e]; exact gd_at pre rest x []
    have hxl := hl x (by rw [e]; simp)
    have := ih (pre ++ [x]) j (by rw [e]; simp) (by simp only [List.length_cons] at hj; omega)
    rw [show ((pre ++ [x]).length : Int) = (pre.length : Int) + 1 by simp] at this
    simp only [m33F17, m33X17]
    rw [if_pos (ltI_pos (by omega)), if_pos (leI_pos (by omega)), if_pos (ltI_pos (by omega)), hx, contains02 k hk x hxl, Option.bind_some]
    unfold anyBad at this ⊢
    rw [List.any_cons]
    cases hb : x.any badBit with
    | true => rw [if_pos rfl, Bool.true_or, if_pos rfl]
    | false =>
      rw [if_neg (by simp), w64 (by omega) (by omega), Bool.false_or]
      exact this
theorem wrong_eq (k : Nat) (hk : 5001 ≤ k) (ls : List (List Int)) (hn : ls.length ≤ 100) (hl : ∀ a ∈ ls, a.length ≤ 5000) : m33F k ls = some (if anyBad ls = true then 1 else 0) := by
  have h1 := wrong_loop1 k ls hn hl ls [] k rfl (by omega)
  have h2 := wrong_loop2 k hk ls hn hl ls [] k rfl (by omega)
  simp only [m33F, m33X]
  refine Eq.trans h1 ?_
  simp only [m33F14, m33X14]
  exact h2
theorem noBad {a : List Int} (h : ∀ c ∈ a, isBit c) : a.any badBit = false := by
  rw [List.any_eq_false]
  intro x hx
  rw [badBit_false (h x hx)]
  simp
theorem rows2 (a b : List Int) : List.set (List.set (List.replicate 2 ([] : List Int)) 0 a) 1 b = [a, b] := (congrArg (fun z : List Int => [a, z]) (Eq.refl b) : [a, b] = [a, b])
theorem rows1 (a : List Int) : List.set (List.replicate 1 ([] : List Int)) 0 a = [a] := (congrArg (fun z : List Int => [z]) (Eq.refl a) : [a] = [a])
theorem wrong2 (k : Nat) (hk : 5001 ≤ k) {a b : List Int} (ha : a.length ≤ 5000) (hb : b.length ≤ 5000) (h1 : ∀ c ∈ a, isBit c) (h2 : ∀ c ∈ b, isBit c) : m33F k [a, b] = some 0 := by
  rw [wrong_eq k hk [a, b] (by simp) (fun x hx => by
    rcases List.mem_cons.1 hx with rfl | hx
    · exact ha
    · rw [List.mem_singleton.1 hx]
      exact hb)]
  have : anyBad [a, b] = false := by
    unfold anyBad
    rw [List.any_cons, List.any_cons, noBad h1, noBad h2]
    rfl
  rw [this]
  rfl
theorem wrong1 (k : Nat) (hk : 5001 ≤ k) {a : List Int} (ha : a.length ≤ 5000) (h1 : ∀ c ∈ a, isBit c) : m33F k [a] = some 0 := by
  rw [wrong_eq k hk [a] (by simp) (fun x hx => by
    rw [List.mem_singleton.1 hx]
    exact ha)]
  have : anyBad [a] = false := by
    unfold anyBad
    rw [List.any_cons, noBad h1]
    rfl
  rw [this]
  rfl
theorem index1_loop (k : Nat) (l : List Int) (hl : l.length ≤ 5000) : ∀ (rest pre : List Int) (j : Nat), l = pre ++ rest → rest.length < j → ∃ r, m38F5 k j l 1 (l.length : Int) (pre.length : Int) = some r ∧
    ((r = -1 ∧ trimL rest = []) ∨ ∃ d, d ≤ rest.length ∧ r = ((pre.length + d : Nat) : Int) ∧ rest.drop d = trimL rest) := by
  intro rest
  induction rest with
  | nil =>
    intro pre j e hj
    obtain ⟨j, rfl⟩ : ∃ n, j = n + 1 := ⟨j - 1, by omega⟩
    have hlen : l.length = pre.length := by rw [e]; simp
    refine ⟨-1, ?_, .inl ⟨rfl, rfl⟩⟩
    simp only [m38F5, m38X5]
    rw [if_neg (by rw [ltI_neg (by omega)]; simp)]
  | cons x rest ih =>
    intro pre j e hj
    obtain ⟨j, rfl⟩ : ∃ n, j = n + 1 := ⟨j - 1, by omega⟩
    have hlen : l.length = pre.length + (rest.length + 1) := by rw [e]; simp
    have hx : l.getD (Int.toNat (pre.length : Int)) 0 = x := by rw [e]; exact gd_at pre rest x 0
    simp only [m38F5, m38X5]
    rw [if_pos (ltI_pos (by omega)), if_pos (leI_pos (by omega)), if_pos (ltI_pos (by omega)), hx]
    by_cases h1 : x = 1
    · refine ⟨(pre.length : Int), if_pos (eqI_pos h1.symm), .inr ⟨0, by omega, by simp, ?_⟩⟩
      rw [trimL, if_pos h1]
      rfl
    · obtain ⟨r, h2, h3⟩ := ih (pre ++ [x]) j (by rw [e]; simp) (by simp only [List.length_cons] at hj; omega)
      refine ⟨r, ?_, ?_⟩
      · rw [if_neg (by rw [eqI_neg fun h => h1 h.symm]; simp), w64 (by omega) (by omega)]
        rw [show ((pre ++ [x]).length : Int) = (pre.length : Int) + 1 by simp] at h2
        exact h2
      · rw [trimL, if_neg h1]
        refine h3.imp id ?_
        rintro ⟨d, hd, hr, he⟩
        refine ⟨d + 1, by rw [List.length_cons]; omega, ?_, by rw [List.drop_succ_cons]; exact he⟩
        rw [hr]
        simp only [List.length_append, List.length_singleton]
        omega
theorem trim_eq (k : Nat) (hk : 5001 ≤ k) (l : List Int) (hl : l.length ≤ 5000) : m34F k l = some (trimL l) := by
  obtain ⟨r, h1, h2⟩ := index1_loop k l hl l [] k rfl (by omega)
  have h3 : m38F k l 1 = some r := by
    simp only [m38F, m38X]
    exact h1
  simp only [m34F, m34X]
  rw [h3, Option.bind_some]
  rcases h2 with ⟨rfl, h2⟩ | ⟨d, hd, rfl, h2⟩
  · rw [if_pos (ltI_pos (by decide)), h2]
  · simp only [List.length_nil, Nat.zero_add]
    rw [if_neg (by rw [ltI_neg (by omega)]; simp), if_pos (leI_pos (by omega)), if_pos (leI_pos (by omega)), Int.toNat_natCast, h2, clonei_eq k _ (by have := trimL_len l; omega)]
    rfl
theorem xor_bits {x y : Int} (hx : isBit x) (hy : isBit y) : bits .xor .i64 x y = xb x y := by
  rcases hx with rfl | rfl <;> rcases hy with rfl | rfl <;> decide +kernel
theorem add_ar (i n : Nat) (h : i < n) (hn : n ≤ 5000) : ltI (i : Int) (n : Int) = true ∧ leI 0 (i : Int) = true ∧ wr .i64 ((i : Int) + 1) = ((i + 1 : Nat) : Int) := ⟨ltI_pos (by omega), leI_pos (by omega), w64s (by omega)⟩
theorem add_loop (k : Nat) (p pre post : List Int) (hp : p.length ≤ 5000) (hb : ∀ c ∈ p, isBit c) : ∀ (rest pr done pd : List Int) (j : Nat), p = pd ++ pr → rest.length = pr.length → done.length = pd.length → pr.length < j → (∀ c ∈ rest, isBit c) →
    m35F5 k j pre.length p.length p (p.length : Int) (done.length : Int) (pre ++ done ++ rest ++ post) = some (pre ++ done ++ List.zipWith xb rest pr ++ post) := by
  intro rest
  induction rest with
  | nil =>
    intro pr done pd j e h1 h2 hj hr
    obtain ⟨j, rfl⟩ : ∃ n, j = n + 1 := ⟨j - 1, by omega⟩
    obtain rfl : pr = [] := List.eq_nil_of_length_eq_zero h1.symm
    have hlen : p.length = pd.length := by rw [e]; simp
    simp only [m35F5, m35X5]
    rw [if_neg (by rw [ltI_neg (by omega)]; simp)]
    rfl
  | cons x rest ih =>
    intro pr done pd j e h1 h2 hj hr
    obtain ⟨j, rfl⟩ : ∃ n, j = n + 1 := ⟨j - 1, by omega⟩
    cases pr with
    | nil => cases h1
    | cons y pr =>
      have hlen : p.length = pd.length + (pr.length + 1) := by rw [e]; simp
      have hy : p.getD (Int.toNat (done.length : Int)) 0 = y := by rw [e]; exact gd_at' pd pr y 0 done.length h2.symm
      have hby := hb y (by rw [e]; simp)
      have hbx := hr x (List.mem_cons_self ..)
      have e1 : pre ++ done ++ x :: rest ++ post = (pre ++ done) ++ x :: (rest ++ post) := by simp
      have en : Int.toNat (done.length : Int) + pre.length = (pre ++ done).length := by rw [List.length_append, Int.toNat_natCast, Nat.add_comm]
      have hx : (pre ++ done ++ x :: rest ++ post).getD (Int.toNat (done.length : Int) + pre.length) 0 = x := by
        rw [e1, en, List.getD_eq_getElem?_getD, List.getElem?_append_right (Nat.le_refl _), Nat.sub_self]
        rfl
      have hs : List.set (pre ++ done ++ x :: rest ++ post) (Int.toNat (done.length : Int) + pre.length) (xb x y) = pre ++ (done ++ [xb x y]) ++ rest ++ post := by
        rw [e1, en, List.set_append_right _ _ (Nat.le_refl _), Nat.sub_self]
        simp
      obtain ⟨c1, c2, c3⟩ := add_ar done.length p.length (by omega) hp
      have := ih pr (done ++ [xb x y]) (pd ++ [y]) j (by rw [e]; simp) (by simpa using h1) (by simp [h2]) (by simp only [List.length_cons] at hj; omega) (fun c hc => hr c (List.mem_cons_of_mem _ hc))
      rw [show (done ++ [xb x y]).length = done.length + 1 by simp] at this
      simp only [m35F5, m35X5, c1, c2, c3, if_true, hx, hy, xor_bits hbx hby, hs]
      rw [this]
      simp
theorem add_eq (k : Nat) (hk : 5001 ≤ k) (pre mid post p : List Int) (hl : mid.length = p.length) (ht : pre.length + mid.length ≤ 5000) (h1 : ∀ c ∈ mid, isBit c) (h2 : ∀ c ∈ p, isBit c) :
    m35F k (pre ++ mid ++ post) 0 (pre.length + mid.length) p = some (pre ++ List.zipWith xb mid p ++ post) := by
  have w1 : wr .i64 (((pre.length + mid.length : Nat) : Int) - (p.length : Int)) = (pre.length : Int) := by rw [w64 (by omega) (by omega)]; omega
  have := add_loop k p pre post (by omega) h2 mid p [] [] k rfl hl rfl (by omega) h1
  simp only [m35F, m35X, w1]
  rw [if_pos (leI_pos (by omega)), if_pos (leI_pos (by omega)), Int.toNat_natCast, Nat.add_zero, Nat.add_sub_cancel_left, hl]
  rw [List.append_nil] at this
  exact this
/-- What one more coefficient makes of a product. -/
theorem cm_snoc (l : List Int) (x : Int) (hx : isBit x) (b : Nat) : cm (val (l ++ [x])) b = (cm (val l) b) <<< 1 ^^^ (if x = 1 then b else 0) := by
  rw [val_xapp l [x] (fun c hc => by rw [List.mem_singleton.1 hc]; exact hx), cm_xor_left, cm_shl_left]
  rcases hx with rfl | rfl
  · have : val [0] = 0 := val_zeros 1
    rw [this, cm_zero_left, if_neg (by decide)]
    rfl
  · have : val [1] = 1 := by
      have := val_snoc [] 1
      rw [val_nil] at this
      exact this
    rw [this, cm_one_left, if_pos rfl]
    rfl
theorem three {α : Type} (l : List α) (a b : Nat) : l = l.take a ++ (l.drop a).take b ++ l.drop (a + b) := by
  rw [List.append_assoc, ← List.drop_drop, List.take_append_drop, List.take_append_drop]
/-! Divided. -/
theorem div_ar (i lm la : Nat) (h : la ≤ 4000) (hm : lm ≤ 4000) (hi : i + lm ≤ la) (hm0 : 1 ≤ lm) : wr .i64 ((i : Int) + (lm : Int)) = ((i + lm : Nat) : Int) ∧ leI ((i + lm : Nat) : Int) (la : Int) = true ∧ leI 0 (i : Int) = true ∧ ltI (i : Int) (la : Int) = true ∧ leI (((i + 1) * 8 : Nat) : Int) 140737488355328 = true ∧ leI 0 ((i + lm : Nat) : Int) = true ∧ wr .i64 ((i : Int) + 1) = ((i + 1 : Nat) : Int) :=
  ⟨by rw [w64 (by omega) (by omega)]; omega, leI_pos (by omega), leI_pos (by omega), ltI_pos (by omega), leI_pos (by omega), leI_pos (by omega), w64s (by omega)⟩
theorem div_ar2 (i lm la : Nat) (h : la ≤ 4000) (hm : lm ≤ 4000) (hi2 : i ≤ la) (hi : ¬ i + lm ≤ la) : leI (wr .i64 ((i : Int) + (lm : Int))) (la : Int) = false := by
  rw [w64 (by omega) (by omega)]
  exact leI_neg (by omega)
theorem zeros_app_get (i : Nat) (x : Int) (s : List Int) : (List.replicate i 0 ++ x :: s).getD i 0 = x := by
  simp
theorem zeros_succ (i : Nat) (s : List Int) : List.replicate i (0 : Int) ++ 0 :: s = List.replicate (i + 1) 0 ++ s := by
  rw [show List.replicate (i + 1) (0 : Int) = List.replicate i 0 ++ [0] from List.replicate_succ' .., List.append_assoc]
  rfl
theorem xor4 (c v m : Nat) : c ^^^ v = (c ^^^ m) ^^^ (v ^^^ m) := by rw [Nat.xor_assoc, xlc m v m, Nat.xor_self, Nat.xor_zero]
/-- One round of a division: what is left is told by what was there. -/
theorem div_step (Q S m' : List Int) (x : Int) (hx : isBit x) (hS : ∀ c ∈ S, isBit c) (hm : ∀ c ∈ m', isBit c) (hl : m'.length ≤ S.length) (A : Nat) (hA : A = (cm (val Q) (val (1 :: m'))) <<< (S.length + 1 - m'.length) ^^^ val (x :: S)) :
    let S' := if x = 1 then List.zipWith xb (S.take m'.length) m' ++ S.drop m'.length else S
    S'.length = S.length ∧ (∀ c ∈ S', isBit c) ∧ A = (cm (val (Q ++ [x])) (val (1 :: m'))) <<< (S.length - m'.length) ^^^ val S' ∧ (x = 1 → ∀ pre : List Int, pre ++ List.zipWith xb (x :: S.take m'.length) (1 :: m') ++ S.drop m'.length = pre ++ 0 :: S') := by
  have e1 : S.length + 1 - m'.length = 1 + (S.length - m'.length) := by omega
  have htk : ∀ c ∈ S.take m'.length, isBit c := fun c hc => hS c (List.mem_of_mem_take hc)
  have hdr : ∀ c ∈ S.drop m'.length, isBit c := fun c hc => hS c (List.mem_of_mem_drop hc)
  have hlt : (S.take m'.length).length = m'.length := by rw [List.length_take]; omega
  rw [e1, Nat.shiftLeft_add] at hA
  rw [cm_snoc Q x hx, Nat.shiftLeft_xor_distrib]
  rcases hx with rfl | rfl
  · refine ⟨by rw [if_neg (by decide)], by rw [if_neg (by decide)]; exact hS, ?_, fun h => by cases h⟩
    rw [if_neg (by decide), if_neg (by decide), Nat.zero_shiftLeft, Nat.xor_zero, hA]
    have : val (0 :: S) = val S := by rw [val_cons]; simp
    rw [this]
  · have hv := val_add [] (1 :: S.take m'.length) (S.drop m'.length) (1 :: m') (fun c hc => by
      rcases List.mem_cons.1 hc with rfl | hc
      · exact .inr rfl
      · exact htk c hc) hdr (fun c hc => by
      rcases List.mem_cons.1 hc with rfl | hc
      · exact .inr rfl
      · exact hm c hc) (by simp [hlt])
    have e2 : [] ++ (1 :: S.take m'.length) ++ S.drop m'.length = 1 :: S := by simp
    have e3 : [] ++ List.zipWith xb (1 :: S.take m'.length) (1 :: m') ++ S.drop m'.length = 0 :: (List.zipWith xb (S.take m'.length) m' ++ S.drop m'.length) := by
      rw [List.zipWith_cons_cons]
      rfl
    have e4 : ∀ s : List Int, val (0 :: s) = val s := fun s => by rw [val_cons]; simp
    rw [e2, e3, e4, List.length_drop] at hv
    refine ⟨?_, ?_, ?_, fun _ pre => ?_⟩
    · rw [if_pos rfl, List.length_append, List.length_zipWith, hlt, Nat.min_self, List.length_drop]
      omega
    · rw [if_pos rfl]
      exact bits_app (zip_bit _ _) hdr
    · rw [if_pos rfl, if_pos rfl, hv, hA]
      exact xor4 _ _ _
    · rw [if_pos rfl, List.zipWith_cons_cons]
      show pre ++ (0 :: List.zipWith xb (S.take m'.length) m') ++ S.drop m'.length = _
      simp
theorem div_loop (k : Nat) (hk : 5001 ≤ k) (m' : List Int) (hm : ∀ c ∈ m', isBit c) (la A : Nat) (hla : la ≤ 2000) (hlm : m'.length ≤ 2000) : ∀ (n j i : Nat) (Q S : List Int), S.length < m'.length + 1 + n → n < j → i + S.length = la → Q.length = i → (∀ c ∈ Q, isBit c) → (∀ c ∈ S, isBit c) →
    A = (cm (val Q) (val (1 :: m'))) <<< (S.length - m'.length) ^^^ val S → ∃ q r, m28F19 k j (i : Int) (1 :: m') Q (List.replicate i 0 ++ S) = some (rowOf q, rowOf r, 0) ∧ A = cm q (val (1 :: m')) ^^^ r ∧ r < 2 ^ m'.length ∧ q < 2 ^ la := by
  have base : ∀ (j i : Nat) (Q S : List Int), S.length < m'.length + 1 → i + S.length = la → Q.length = i → (∀ c ∈ Q, isBit c) → (∀ c ∈ S, isBit c) →
      A = (cm (val Q) (val (1 :: m'))) <<< (S.length - m'.length) ^^^ val S → ∃ q r, m28F19 k (j + 1) (i : Int) (1 :: m') Q (List.replicate i 0 ++ S) = some (rowOf q, rowOf r, 0) ∧ A = cm q (val (1 :: m')) ^^^ r ∧ r < 2 ^ m'.length ∧ q < 2 ^ la := by
    intro j i Q S hs hi hq bq bs hA
    have hR : (List.replicate i (0 : Int) ++ S).length = la := by rw [List.length_append, List.length_replicate]; exact hi
    have c1 := div_ar2 i (1 :: m').length la (by omega) (by rw [List.length_cons]; omega) (by omega) (by rw [List.length_cons]; omega)
    have bR : ∀ c ∈ List.replicate i (0 : Int) ++ S, isBit c := bits_app (zeros_bit i) bs
    refine ⟨val Q, val S, ?_, ?_, ?_, ?_⟩
    · simp only [m28F19, m28X19, hR, c1, Bool.false_eq_true, if_false, m28F28, m28X28]
      rw [trim_eq k hk Q (by omega), trim_eq k hk _ (show (List.replicate i (0 : Int) ++ S).length ≤ 5000 by omega), trim_row bq, trimL_zeros, trim_row bs]
      rfl
    · rw [hA, show S.length - m'.length = 0 by omega]
      rfl
    · exact Nat.lt_of_lt_of_le (val_lt S bs) (Nat.pow_le_pow_right (by decide) (by omega))
    · exact Nat.lt_of_lt_of_le (val_lt Q bq) (Nat.pow_le_pow_right (by decide) (by omega))
  intro n
  induction n with
  | zero =>
    intro j i Q S hs hj hi hq bq bs hA
    obtain ⟨j, rfl⟩ : ∃ n, j = n + 1 := ⟨j - 1, by omega⟩
    exact base j i Q S (by omega) hi hq bq bs hA
  | succ n ih =>
    intro j i Q S hs hj hi hq bq bs hA
    obtain ⟨j, rfl⟩ : ∃ n, j = n + 1 := ⟨j - 1, by omega⟩
    by_cases hend : S.length < m'.length + 1
    · exact base j i Q S hend hi hq bq bs hA
    · cases S with
      | nil => exact absurd (Nat.succ_pos _) hend
      | cons x S =>
        rw [List.length_cons] at hs hi hend
        have hlt : (S.take m'.length).length = m'.length := by rw [List.length_take]; omega
        have htot : (List.replicate i (0 : Int)).length + (1 :: S.take m'.length).length ≤ 5000 := by rw [List.length_replicate, List.length_cons, hlt]; omega
        have hx := bs x (List.mem_cons_self ..)
        have bS : ∀ c ∈ S, isBit c := fun c hc => bs c (List.mem_cons_of_mem _ hc)
        rw [List.length_cons] at hA
        obtain ⟨s1, s2, s3, s4⟩ := div_step Q S m' x hx bS hm (by omega) A hA
        have hS0 : x ≠ 1 → (if x = 1 then List.zipWith xb (S.take m'.length) m' ++ S.drop m'.length else S) = S := fun h => if_neg h
        generalize (if x = 1 then List.zipWith xb (S.take m'.length) m' ++ S.drop m'.length else S) = S' at s1 s2 s3 s4 hS0
        have bQ : ∀ c ∈ Q ++ [x], isBit c := bits_app bq fun c hc => by rw [List.mem_singleton.1 hc]; exact hx
        obtain ⟨q, r, h1, h2, h3, h4⟩ := ih j (i + 1) (Q ++ [x]) S' (by omega) (by omega) (by omega) (by simp [hq]) bQ s2 (by rw [s1]; exact s3)
        refine ⟨q, r, ?_, h2, h3, h4⟩
        have hR : (List.replicate i (0 : Int) ++ x :: S).length = la := by rw [List.length_append, List.length_replicate, List.length_cons]; omega
        have hg := zeros_app_get i x S
        have hlm' : (1 :: m').length = m'.length + 1 := rfl
        obtain ⟨c1, c2, c3, c4, c5, c6, c7⟩ := div_ar i (m'.length + 1) la (by omega) (by omega) (by omega) (by omega)
        rcases hx with rfl | rfl
        · rw [hS0 (by decide), ← zeros_succ] at h1
          simp only [m28F19, m28X19, hR, hlm', c1, c2, c3, c4, if_true, Int.toNat_natCast, hg, one_set, List.length_singleton, hq, c5]
          rw [if_neg (by rw [eqI_neg (by decide)]; simp)]
          simp only [m28F20, m28X20, c7]
          exact h1
        · have hadd := add_eq k hk (List.replicate i 0) (1 :: S.take m'.length) (S.drop m'.length) (1 :: m') (congrArg (· + 1) hlt) htot (fun c hc => by
            rcases List.mem_cons.1 hc with rfl | hc
            · exact .inr rfl
            · exact bS c (List.mem_of_mem_take hc)) (fun c hc => by
            rcases List.mem_cons.1 hc with rfl | hc
            · exact .inr rfl
            · exact hm c hc)
          rw [s4 rfl, zeros_succ, List.length_replicate, List.length_cons, hlt] at hadd
          have e1 : List.replicate i (0 : Int) ++ 1 :: S.take m'.length ++ S.drop m'.length = List.replicate i 0 ++ 1 :: S := by simp
          rw [e1] at hadd
          simp only [m28F19, m28X19, hR, hlm', c1, c2, c3, c4, c6, if_true, Int.toNat_natCast, hg, one_set, List.length_singleton, hq, c5, eqI_pos (show (1 : Int) = 1 from rfl), hadd, Option.bind_some, m28F20, m28X20, c7]
          exact h1
theorem gfDiv_eq (k : Nat) (hk : 5001 ≤ k) (a b : List Int) (ha : a.length ≤ 1500) (hb : b.length ≤ 1500) (h1 : ∀ c ∈ a, isBit c) (h2 : ∀ c ∈ b, isBit c) (hb0 : val b ≠ 0) :
    ∃ q r, m28F k a b = some (rowOf q, rowOf r, 0) ∧ val a = cm q (val b) ^^^ r ∧ r < 2 ^ ((rowOf (val b)).length - 1) ∧ q < 2 ^ a.length := by
  have hz : ∀ z : Int, (!eqI z z) = false := fun z => by rw [eqI_pos rfl]; rfl
  have l1 := trimL_len a
  have l2 := trimL_len b
  have v1 := trimL_val h1
  have b1 := trimL_bit h1
  have b2 := trimL_bit h2
  have t1 := trim_eq k hk a (by omega)
  have t2 := trim_eq k hk b (by omega)
  rw [trim_row h2] at t2 b2 l2
  obtain ⟨m', hm⟩ := rowOf_cons hb0
  have hv := rowOf_val (val b)
  rw [hm] at t2 b2 l2 hv
  rw [List.length_cons] at l2
  have bm : ∀ c ∈ m', isBit c := fun c hc => b2 c (List.mem_cons_of_mem _ hc)
  have A0 : val (trimL a) = (cm (val []) (val (1 :: m'))) <<< ((trimL a).length - m'.length) ^^^ val (trimL a) := by rw [val_nil, cm_zero_left, Nat.zero_shiftLeft, Nat.zero_xor]
  obtain ⟨q, r, e1, e2, e3, e4⟩ := div_loop k hk m' bm (trimL a).length (val (trimL a)) (by omega) (by omega) (trimL a).length k 0 [] (trimL a) (by omega) (by omega) (by omega) rfl (fun c hc => by cases hc) b1 A0
  rw [hv, v1] at e2
  refine ⟨q, r, ?_, e2, by rw [hm, List.length_cons]; exact e3, Nat.lt_of_lt_of_le e4 (Nat.pow_le_pow_right (by decide) l1)⟩
  have c0 : eqI ((1 :: m').length : Int) 0 = false := eqI_neg (by rw [List.length_cons]; omega)
  simp only [m28F, m28X, rows2, wrong2 k hk (show a.length ≤ 5000 by omega) (show b.length ≤ 5000 by omega) h1 h2, Option.bind_some, hz, Bool.false_eq_true, if_false, t1, t2, c0]
  exact e1
theorem gfDiv_zero (k : Nat) (hk : 5001 ≤ k) (a b : List Int) (ha : a.length ≤ 1500) (hb : b.length ≤ 1500) (h1 : ∀ c ∈ a, isBit c) (h2 : ∀ c ∈ b, isBit c) (hb0 : val b = 0) : m28F k a b = some ([], [], 1) := by
  have hz : ∀ z : Int, (!eqI z z) = false := fun z => by rw [eqI_pos rfl]; rfl
  have t2 := trim_eq k hk b (by omega)
  rw [trim_row h2, hb0, rowOf_zero] at t2
  have c0 : eqI (([] : List Int).length : Int) 0 = true := eqI_pos rfl
  simp only [m28F, m28X, rows2, wrong2 k hk (show a.length ≤ 5000 by omega) (show b.length ≤ 5000 by omega) h1 h2, Option.bind_some, hz, Bool.false_eq_true, if_false, t2, c0, if_true]
/-- Of one division: what is told is told of any quotient and rest that fit. -/
theorem gfDiv_is (k : Nat) (hk : 5001 ≤ k) (a b : List Int) (ha : a.length ≤ 1500) (hb : b.length ≤ 1500) (h1 : ∀ c ∈ a, isBit c) (h2 : ∀ c ∈ b, isBit c) (hb0 : val b ≠ 0) (q r : Nat) (h : val a = cm q (val b) ^^^ r) (hr : r < 2 ^ ((rowOf (val b)).length - 1)) :
    m28F k a b = some (rowOf q, rowOf r, 0) := by
  obtain ⟨q', r', e1, e2, e3, _⟩ := gfDiv_eq k hk a b ha hb h1 h2 hb0
  obtain ⟨_, h4, _⟩ := rowOf_len_iff hb0
  obtain ⟨rfl, rfl⟩ := div_one (e2.symm.trans h) h4 e3 hr
  exact e1
/-! Sums are rests of divisions. -/
open Gf in
theorem cong_steps {σ : Type} (w P : Nat) (t : σ → Nat) (stp : σ → Nat → σ) (h : ∀ s b, b < 2 → ∃ c, (t s <<< 1) ^^^ (b <<< w) = cm c P ^^^ t (stp s b)) : ∀ (bs : List Nat) (s : σ), (∀ b ∈ bs, b < 2) → ∃ q, (t s <<< bs.length) ^^^ (val (bs.map fun b : Nat => (b : Int)) <<< w) = cm q P ^^^ t (bs.foldl stp s) := by
  intro bs
  induction bs with
  | nil =>
    intro s _
    exact ⟨0, by rw [cm_zero_left, List.map_nil, val_nil, Nat.zero_shiftLeft, Nat.xor_zero, Nat.zero_xor]; rfl⟩
  | cons b bs ih =>
    intro s hb
    have hb0 := hb b (by simp)
    have hbit : ∀ c ∈ bs.map (fun b : Nat => (b : Int)), isBit c := fun c hc => by
      obtain ⟨x, hx, rfl⟩ := List.mem_map.1 hc
      have := hb x (by simp [hx])
      unfold isBit
      omega
    obtain ⟨c, hc⟩ := h s b hb0
    obtain ⟨q, hq⟩ := ih (stp s b) fun x hx => hb x (by simp [hx])
    refine ⟨c <<< bs.length ^^^ q, ?_⟩
    have e1 : val ((b :: bs).map fun b : Nat => (b : Int)) = b <<< bs.length ^^^ val (bs.map fun b : Nat => (b : Int)) := by
      have := val_xapp [(b : Int)] (bs.map fun b : Nat => (b : Int)) hbit
      have e : val [(b : Int)] = b := by
        have h1 := val_snoc [] (b : Int)
        rw [val_nil] at h1
        simp only [List.nil_append] at h1
        rw [h1]
        simp
      rw [e, List.length_map] at this
      exact this
    rw [e1, List.length_cons, List.foldl_cons, cm_xor_left, cm_shl_left, Nat.shiftLeft_xor_distrib]
    have e2 : t s <<< (bs.length + 1) ^^^ ((b <<< bs.length) <<< w ^^^ val (bs.map fun b : Nat => (b : Int)) <<< w) = ((t s <<< 1) ^^^ (b <<< w)) <<< bs.length ^^^ val (bs.map fun b : Nat => (b : Int)) <<< w := by
      rw [Nat.shiftLeft_xor_distrib, ← Nat.shiftLeft_add, ← Nat.shiftLeft_add, ← Nat.shiftLeft_add, Nat.add_comm 1, Nat.add_comm w, Nat.xor_assoc]
    rw [e2, hc, Nat.shiftLeft_xor_distrib, Nat.xor_assoc, Nat.xor_assoc, hq]
theorem shl_top (A w : Nat) (h : A < 2 ^ (w + 1)) : A <<< 1 = (if 2 ^ w ≤ A then 2 ^ (w + 1) else 0) ^^^ (A * 2 % 2 ^ (w + 1)) := by
  rw [Nat.shiftLeft_eq, Nat.pow_one]
  have hp : 2 ^ (w + 1) = 2 * 2 ^ w := by rw [Nat.pow_succ, Nat.mul_comm]
  have h' : A < 2 * 2 ^ w := hp ▸ h
  by_cases hc : 2 ^ w ≤ A
  · rw [if_pos hc, Nat.xor_comm, xor_top _ _ (Nat.mod_lt _ (Nat.two_pow_pos _)), hp]
    clear h hp
    generalize 2 ^ w = W at *
    rw [Nat.mod_eq_sub_mod (by omega), Nat.mod_eq_of_lt (by omega)]
    omega
  · rw [if_neg hc, Nat.zero_xor, hp]
    clear h hp
    generalize 2 ^ w = W at *
    rw [Nat.mod_eq_of_lt (by omega)]
open Gf Crc in
theorem step16_cong (s : BitVec 16) (b : Nat) (hb : b < 2) : ∃ c, (s.toNat <<< 1) ^^^ (b <<< 16) = cm c 69665 ^^^ (M (s ^^^ top16 b)).toNat := by
  have hx : (s ^^^ top16 b).toNat = s.toNat ^^^ (b <<< 15) := by
    unfold top16
    rw [BitVec.toNat_xor, BitVec.toNat_ofNat, Nat.mod_eq_of_lt (by omega), Nat.shiftLeft_eq]
  have e : (s.toNat <<< 1) ^^^ (b <<< 16) = (s ^^^ top16 b).toNat <<< 1 := by
    rw [hx, Nat.shiftLeft_xor_distrib, ← Nat.shiftLeft_add]
  rw [e]
  generalize s ^^^ top16 b = v
  have hv := v.isLt
  have h1 := shl_top v.toNat 15 hv
  have h2 : (v <<< 1).toNat = v.toNat * 2 % 2 ^ (15 + 1) := by rw [BitVec.toNat_shiftLeft, Nat.shiftLeft_eq]
  rw [← h2] at h1
  by_cases hc : 32768 ≤ v.toNat
  · rw [if_pos hc] at h1
    refine ⟨1, ?_⟩
    rw [cm_one_left, M_top hc, BitVec.toNat_xor, h1, show (4129#16).toNat = 4129 from rfl, show (2 : Nat) ^ (15 + 1) = 69665 ^^^ 4129 by decide +kernel, Nat.xor_assoc, Nat.xor_comm 4129]
  · rw [if_neg hc, Nat.zero_xor] at h1
    exact ⟨0, by rw [cm_zero_left, M_not hc, Nat.zero_xor]; exact h1⟩
open Crc in
theorem rev_const : ∀ i : Fin 32, (3988292384#32).getLsbD (31 - i.val) = (79764919#32).getLsbD i.val := by decide +kernel
open Crc in
theorem rev_L (s : BitVec 32) : (L s).reverse = (s.reverse <<< 1) ^^^ (if s.getLsbD 0 then 79764919#32 else 0#32) := by
  apply BitVec.eq_of_getLsbD_eq
  intro i hi
  have hc := rev_const ⟨i, hi⟩
  simp only [] at hc
  rw [BitVec.getLsbD_reverse, BitVec.getMsbD_eq_getLsbD, BitVec.getLsbD_xor, BitVec.getLsbD_shiftLeft, BitVec.getLsbD_reverse, BitVec.getMsbD_eq_getLsbD]
  unfold L
  rw [BitVec.getLsbD_xor, BitVec.getLsbD_ushiftRight]
  have e : 32 - 1 - i = 31 - i := by omega
  by_cases h0 : i = 0
  · subst h0
    cases hs : s.getLsbD 0 <;> simp [hs, hc]
  · have e2 : 1 + (31 - i) = 32 - 1 - (i - 1) := by omega
    cases hs : s.getLsbD 0
    · simp [hi, h0, e, e2]
      omega
    · simp only [if_true, e, e2, hc]
      simp [hi, h0]
      omega
open Gf Crc in
theorem step32_cong (s : BitVec 32) (b : Nat) (hb : b < 2) : ∃ c, (s.reverse.toNat <<< 1) ^^^ (b <<< 32) = cm c 4374732215 ^^^ (L (s ^^^ BitVec.ofNat 32 b)).reverse.toNat := by
  have hr : (s ^^^ BitVec.ofNat 32 b).reverse = s.reverse ^^^ BitVec.ofNat 32 (b * 2147483648) := by
    apply BitVec.eq_of_getLsbD_eq
    intro i hi
    rw [BitVec.getLsbD_reverse, BitVec.getMsbD_eq_getLsbD, BitVec.getLsbD_xor, BitVec.getLsbD_xor, BitVec.getLsbD_reverse, BitVec.getMsbD_eq_getLsbD, BitVec.getLsbD_ofNat, BitVec.getLsbD_ofNat, show (2147483648 : Nat) = 2 ^ 31 from rfl, Nat.testBit_mul_two_pow]
    by_cases h31 : i = 31
    · subst h31
      simp
    · have hz : b.testBit (32 - 1 - i) = false := Nat.testBit_lt_two_pow (Nat.lt_of_lt_of_le hb (Nat.pow_le_pow_right (n := 2) (i := 1) (by decide) (by omega)))
      rw [hz]
      have : ¬ 31 ≤ i := by omega
      simp [hi, this]
  have hx : (s ^^^ BitVec.ofNat 32 b).reverse.toNat = s.reverse.toNat ^^^ (b <<< 31) := by
    rw [hr, BitVec.toNat_xor, BitVec.toNat_ofNat, Nat.mod_eq_of_lt (by omega), Nat.shiftLeft_eq]
  have e : (s.reverse.toNat <<< 1) ^^^ (b <<< 32) = (s ^^^ BitVec.ofNat 32 b).reverse.toNat <<< 1 := by
    rw [hx, Nat.shiftLeft_xor_distrib, ← Nat.shiftLeft_add]
  rw [e]
  generalize s ^^^ BitVec.ofNat 32 b = v
  have hv := v.reverse.isLt
  have h1 := shl_top v.reverse.toNat 31 hv
  have h2 : (v.reverse <<< 1).toNat = v.reverse.toNat * 2 % 2 ^ (31 + 1) := by rw [BitVec.toNat_shiftLeft, Nat.shiftLeft_eq]
  rw [← h2] at h1
  have hm : v.getLsbD 0 = decide (2 ^ 31 ≤ v.reverse.toNat) := by
    have := BitVec.msb_eq_decide v.reverse
    rw [BitVec.msb_eq_getLsbD_last, BitVec.getLsbD_reverse, BitVec.getMsbD_eq_getLsbD] at this
    simpa using this
  rw [rev_L, BitVec.toNat_xor]
  by_cases hc : 2 ^ 31 ≤ v.reverse.toNat
  · rw [if_pos hc] at h1
    refine ⟨1, ?_⟩
    rw [decide_eq_true hc] at hm
    rw [cm_one_left, hm, if_pos rfl, h1, show (79764919#32).toNat = 79764919 from rfl, show (2 : Nat) ^ (31 + 1) = 4374732215 ^^^ 79764919 by decide +kernel, Nat.xor_assoc, Nat.xor_comm 79764919]
  · rw [if_neg hc, Nat.zero_xor] at h1
    refine ⟨0, ?_⟩
    rw [decide_eq_false hc] at hm
    rw [cm_zero_left, hm, if_neg (by simp), Nat.zero_xor, show (0#32).toNat = 0 from rfl, Nat.xor_zero]
    exact h1
/-- A text's bits, the lowest of each byte first. -/
def bitsN (l : List Int) : List Nat := l.flatMap fun c => (List.range' 0 8).map fun j => c.toNat / 2 ^ j % 2
theorem bitsN_lt (l : List Int) : ∀ b ∈ bitsN l, b < 2 := by
  intro b hb'
  obtain ⟨c, _, hc⟩ := List.mem_flatMap.1 hb'
  obtain ⟨j, _, rfl⟩ := List.mem_map.1 hc
  omega
theorem bitsN_len (l : List Int) : (bitsN l).length = 8 * l.length := by
  induction l with
  | nil => rfl
  | cons c l ih =>
    unfold bitsN at ih ⊢
    rw [List.flatMap_cons, List.length_append, ih, List.length_cons]
    simp
    omega
open Crc in
theorem fd_bitsN (l : List Int) (hb : ∀ c ∈ l, isByte c) : ∀ r : BitVec 32, (bitsN l).foldl (fun s b => L (s ^^^ BitVec.ofNat 32 b)) r = reg32 r l := by
  induction l with
  | nil => intro r; rfl
  | cons c l ih =>
    intro r
    have h1 := fd32_byte r c (hb c (by simp))
    unfold fd32 bits32 at h1
    rw [List.foldl_map] at h1
    have e : bitsN (c :: l) = (List.range' 0 8).map (fun j => c.toNat / 2 ^ j % 2) ++ bitsN l := rfl
    rw [e, List.foldl_append, List.foldl_map, h1, ih (fun y hy => hb y (by simp [hy])), reg_cons]
open Crc in
theorem fd_bitsB (l : List Int) (hb : ∀ c ∈ l, isByte c) : ∀ r : BitVec 16, (l.flatMap fun c => bitsOf c.toNat).foldl (fun s b => M (s ^^^ top16 b)) r = reg16 r l := by
  induction l with
  | nil => intro r; rfl
  | cons c l ih =>
    intro r
    have h1 := fd16_byte r c (hb c (by simp))
    unfold fd16 at h1
    rw [List.foldl_map] at h1
    rw [List.flatMap_cons, List.foldl_append, h1, ih (fun y hy => hb y (by simp [hy])), reg16_cons]

end Go.Proofs.Ytiblpnglmicjcaa.Mini
