/- What shared functions tell: plain laws. -/
import Derived.Test.YtdhpehihkppomaaMF
import Derived.Test.YtdhpehihkppomaaCrc
import Derived.Test.YtdhpehihkppomaaBe
import Derived.Test.YtdhpehihkppomaaPop
import Derived.Laws.Closers25b
set_option linter.unusedSimpArgs false
set_option linter.unusedVariables false
namespace Go.Proofs.Ytdhpehihkppomaa.Mini
open Go Go.RowKit Go.Proofs
theorem w64 {n : Int} (h0 : -9223372036854775808 ≤ n) (h1 : n < 9223372036854775808) : wr .i64 n = n := by
  show wrap64 n = n
  unfold wrap64
  omega
theorem w64n {n : Nat} (h1 : n < 9223372036854775808) : wr .i64 (n : Int) = (n : Int) := w64 (by omega) (by omega)
theorem w64s {n : Nat} (h1 : n < 9223372036854775807) : wr .i64 ((n : Int) + 1) = ((n + 1 : Nat) : Int) := w64 (by omega) (by omega)
theorem wu64 {n : Int} (h0 : 0 ≤ n) (h1 : n < 18446744073709551616) : wr .u64 n = n := by
  show n % 18446744073709551616 = n
  omega
theorem wu8 (n : Int) : wr .u8 n = n % 256 := (congrArg (fun x : Int => x % 256) (Eq.refl n) : n % 256 = n % 256)
theorem wu32 (n : Int) : wr .u32 n = n % 4294967296 := (congrArg (fun x : Int => x % 4294967296) (Eq.refl n) : n % 4294967296 = n % 4294967296)
theorem gd_at {α : Type} (pre rest : List α) (x d : α) : (pre ++ x :: rest).getD (Int.toNat (pre.length : Int)) d = x := by
  rw [Int.toNat_natCast, List.getD_eq_getElem?_getD, List.getElem?_append_right (Nat.le_refl _), Nat.sub_self]
  rfl
theorem gd_at' {α : Type} (pre rest : List α) (x d : α) (n : Nat) (h : pre.length = n) : (pre ++ x :: rest).getD (Int.toNat (n : Int)) d = x := by
  subst h
  exact gd_at pre rest x d
theorem getD_nat {α : Type} (l : List α) (n : Nat) (d : α) : l.getD (Int.toNat (n : Int)) d = l.getD n d := rfl
theorem nilK_same {R : Type} {e : Bool} {a : Option R} : nilK e a a = a := by
  unfold nilK both
  cases e <;> simp
theorem nilK_of {R : Type} {e : Bool} {a b : Option R} (h : e = true → a = b) : nilK e a b = b := by
  unfold nilK both
  cases e
  · rfl
  · simp [h rfl]
theorem one_set (x d : Int) : List.set (List.replicate 1 d) 0 x = [x] := (congrArg (fun y : Int => [y]) (Eq.refl x) : [x] = [x])
theorem bytes_wf {l : List Int} (h : WfK (.row (.int .u8)) l) : ∀ c ∈ l, Crc.isByte c := fun c hc => Bv.wf_u8 (h.2 c hc)
theorem leI_pos {a b : Int} (h : a ≤ b) : leI a b = true := (leI_iff a b).2 h
theorem leI_neg {a b : Int} (h : ¬ a ≤ b) : leI a b = false := by
  rw [leI_eq]
  simpa using h
theorem ltI_pos {a b : Int} (h : a < b) : ltI a b = true := (ltI_iff a b).2 h
theorem ltI_neg {a b : Int} (h : ¬ a < b) : ltI a b = false := by
  rw [ltI_eq]
  simpa using h
theorem eqI_pos {a b : Int} (h : a = b) : eqI a b = true := (eqI_iff a b).2 h
theorem eqI_neg {a b : Int} (h : ¬ a = b) : eqI a b = false := by
  rw [eqI_eq]
  simpa using h
theorem umod0 (x : Int) (m : Nat) (hm : 0 < m) : ∃ a : Nat, a < m ∧ Int.tmod (wr .u64 x) (m : Int) = (a : Int) := by
  have h0 : 0 ≤ wr .u64 x := Int.emod_nonneg _ (by decide)
  have h1 : Int.tmod (wr .u64 x) (m : Int) = wr .u64 x % (m : Int) := Int.tmod_eq_emod_of_nonneg h0
  have h2 := Int.emod_nonneg (wr .u64 x) (show (m : Int) ≠ 0 by omega)
  have h3 := Int.emod_lt_of_pos (wr .u64 x) (show (0 : Int) < m by omega)
  refine ⟨(wr .u64 x % (m : Int)).toNat, ?_, ?_⟩
  · generalize wr .u64 x % (m : Int) = z at h2 h3
    omega
  · rw [h1]
    generalize wr .u64 x % (m : Int) = z at h2 h3
    omega
/-! A state's symbols. -/
theorem and_byte {v : Int} (h0 : 0 ≤ v) (h1 : v < 4294967296) : 0 ≤ bits .and .u32 v 255 ∧ bits .and .u32 v 255 < 256 := by
  obtain ⟨x, rfl⟩ := Bv.exists_u32 h0 h1
  have h : (255 : Int) = Bv.u (255#32) := rfl
  rw [h, Bv.and32]
  refine ⟨Bv.u_nonneg _, ?_⟩
  have : (x &&& 255#32).toNat ≤ 255 := by
    rw [BitVec.toNat_and]
    exact Nat.and_le_right
  unfold Bv.u
  omega
theorem byte_xor {a b : Int} (ha : 0 ≤ a) (ha' : a < 256) (hb : 0 ≤ b) (hb' : b < 256) : 0 ≤ bits .xor .i64 a b ∧ bits .xor .i64 a b < 256 := by
  obtain ⟨m, rfl⟩ := Int.eq_ofNat_of_zero_le ha
  obtain ⟨n, rfl⟩ := Int.eq_ofNat_of_zero_le hb
  rw [Bv.xorN m n (by omega) (by omega)]
  have : m ^^^ n < 2 ^ 8 := Nat.xor_lt_two_pow (by omega) (by omega)
  omega
/-- What a number is mixed to (nothing of what it is). -/
noncomputable def mixI (x : Int) : Int := (m13F 0 x).getD 0
theorem mix_eqI (k : Nat) (x : Int) : m13F k x = some (mixI x) := by
  have e : (leI 0 16 = true) := leI_pos (by decide)
  have e' : (leI 0 15 = true) := leI_pos (by decide)
  simp only [mixI, m13F, m13X, if_pos e, if_pos e', Option.getD_some]
theorem mixI_u32 (x : Int) : 0 ≤ mixI x ∧ mixI x < 4294967296 := by
  have e : (leI 0 16 = true) := leI_pos (by decide)
  have e' : (leI 0 15 = true) := leI_pos (by decide)
  simp only [mixI, m13F, m13X, if_pos e, if_pos e', Option.getD_some]
  obtain ⟨h1, h2⟩ := bits_within .xor .u32 (wr IntKind.u32 (bits BinOp.xor IntKind.u32 (wr IntKind.u32 (bits BinOp.xor IntKind.u32 x (x / 65536) * 2146121005)) (wr IntKind.u32 (bits BinOp.xor IntKind.u32 x (x / 65536) * 2146121005) / 32768) * 2221713035)) (wr IntKind.u32 (bits BinOp.xor IntKind.u32 (wr IntKind.u32 (bits BinOp.xor IntKind.u32 x (x / 65536) * 2146121005)) (wr IntKind.u32 (bits BinOp.xor IntKind.u32 x (x / 65536) * 2146121005) / 32768) * 2221713035) / 65536)
  have e1 : IntKind.u32.min = 0 := by decide
  have e2 : IntKind.u32.max = 4294967295 := by decide
  rw [e1] at h1
  rw [e2] at h2
  exact ⟨h1, by omega⟩
/-- A state's symbol at an index. -/
noncomputable def symV (s i : Int) : Int := if i < 4 then bits .and .u32 (s / p2 (8 * i).toNat) 255 else bits .and .u32 (mixI (wr .u32 (s + wr .u32 (wr .u32 i * 2654435769)))) 255
theorem symV_byte (s i : Int) (hs : 0 ≤ s) (hs' : s < 4294967296) : 0 ≤ symV s i ∧ symV s i < 256 := by
  unfold symV
  split
  · have h1 : 0 ≤ s / p2 (8 * i).toNat := Int.ediv_nonneg hs (by unfold p2; exact Int.natCast_nonneg _)
    have h2 : s / p2 (8 * i).toNat < 4294967296 := Int.lt_of_le_of_lt (Int.ediv_le_self _ hs) hs'
    exact and_byte h1 h2
  · have h := mixI_u32 (wr .u32 (s + wr .u32 (wr .u32 i * 2654435769)))
    exact and_byte h.1 h.2
theorem sym_eq (k : Nat) (s i : Int) (hs : 0 ≤ s) (hs' : s < 4294967296) (h0 : 0 ≤ i) (h1 : i ≤ 255) : m17F k s i = some (symV s i, 0) := by
  have hb := symV_byte s i hs hs'
  simp only [m17F, m17X]
  rw [if_neg (by rw [ltI_neg (by omega)]; simp), if_neg (by rw [ltI_neg (by omega)]; simp)]
  by_cases h4 : i < 4
  · have hw : wr .i64 (8 * i) = 8 * i := w64 (by omega) (by omega)
    have hm : min (8 * i).toNat 32 = (8 * i).toNat := by omega
    rw [if_pos (ltI_pos h4), hw, if_pos (leI_pos (by omega)), hm]
    unfold symV at hb ⊢
    rw [if_pos h4] at hb ⊢
    rw [w64 (by omega) (by omega)]
  · rw [if_neg (by rw [ltI_neg h4]; simp), mix_eqI, Option.bind_some]
    unfold symV at hb ⊢
    rw [if_neg h4] at hb ⊢
    rw [w64 (by omega) (by omega)]
/-! What a state costs. -/
theorem ones32 : ∀ x : Fin 256, m36F 0 (x.val : Int) = some (Pop.pop 8 x.val : Int) := by
  simp only [m36F, m36X, leI_eq]
  decide +kernel
theorem ones_eq (k : Nat) (x : Nat) (h : x < 256) : m35F k (x : Int) = some (Pop.pop 8 x : Int) := by
  simp only [m35F, m35X]
  rw [if_neg (by rw [ltI_neg (by omega)]; simp), wu32]
  have h1 : ((x : Int) % 4294967296) = (x : Int) := by omega
  rw [h1]
  have h2 : m36F k (x : Int) = some (Pop.pop 8 x : Int) := ones32 ⟨x, h⟩
  rw [h2]
  rfl
def okSym (p : Int × Int) : Prop := (0 ≤ p.1 ∧ p.1 ≤ 255) ∧ 0 ≤ p.2 ∧ p.2 ≤ 255
/-- What one symbol costs a state. -/
noncomputable def cost1 (s : Int) (p : Int × Int) : Nat := Pop.pop 8 (bits .xor .i64 (symV s p.1) p.2).toNat
noncomputable def costL (s : Int) : List (Int × Int) → Nat | [] => 0 | p :: l => cost1 s p + costL s l
theorem cost1_le (s : Int) (p : Int × Int) : cost1 s p ≤ 8 := Pop.pop_le 8 _
theorem costL_le (s : Int) (l : List (Int × Int)) : costL s l ≤ 8 * l.length := by
  induction l with
  | nil => simp [costL]
  | cons p l ih =>
    have := cost1_le s p
    simp only [costL, List.length_cons]
    omega
theorem costL_append (s : Int) (l m : List (Int × Int)) : costL s (l ++ m) = costL s l + costL s m := by
  induction l with
  | nil => simp [costL]
  | cons p l ih =>
    simp only [List.cons_append, costL, ih]
    omega
theorem sum_eq (k : Nat) (hk : 5001 ≤ k) (s : Int) (hs : 0 ≤ s) (hs' : s < 4294967296) (l : List (Int × Int)) (hl : ∀ p ∈ l, okSym p) (hn : l.length ≤ 1000) :
    m32F k s l = some (costL s l : Int) := by
  have loop : ∀ (rest pre : List (Int × Int)) (j : Nat), l = pre ++ rest → rest.length < j → m32F7 k j s (costL s pre : Int) l (l.length : Int) (pre.length : Int) = some (costL s l : Int) := by
    intro rest
    induction rest with
    | nil =>
      intro pre j e hj
      obtain ⟨j, rfl⟩ : ∃ n, j = n + 1 := ⟨j - 1, by omega⟩
      rw [List.append_nil] at e
      subst e
      simp only [m32F7, m32X7]
      rw [if_neg (by rw [ltI_neg (by omega)]; simp)]
    | cons p rest ih =>
      intro pre j e hj
      obtain ⟨j, rfl⟩ : ∃ n, j = n + 1 := ⟨j - 1, by omega⟩
      have hlen : l.length = pre.length + (rest.length + 1) := by rw [e]; simp
      obtain ⟨⟨a1, a2⟩, b1, b2⟩ := hl p (by rw [e]; simp)
      have hp : l.getD (Int.toNat (pre.length : Int)) (0, 0) = p := by rw [e]; exact gd_at pre rest p (0, 0)
      simp only [m32F7, m32X7]
      rw [if_pos (ltI_pos (by omega)), if_pos (leI_pos (by omega)), if_pos (ltI_pos (by omega)), hp, sym_eq k s p.1 hs hs' a1 a2, Option.bind_some]
      have hb := symV_byte s p.1 hs hs'
      obtain ⟨x0, x1⟩ := byte_xor hb.1 hb.2 b1 (show p.2 < 256 by omega)
      have ho : m35F k (bits .xor .i64 (symV s p.1) p.2) = some (cost1 s p : Int) := by
        have := ones_eq k (bits .xor .i64 (symV s p.1) p.2).toNat (by omega)
        rw [Int.toNat_of_nonneg x0] at this
        exact this
      rw [ho, Option.bind_some]
      have hc : costL s (pre ++ [p]) = costL s pre + cost1 s p := by rw [costL_append]; simp [costL]
      have h1 := costL_le s pre
      have h2 := cost1_le s p
      rw [w64 (by omega) (by omega), w64 (by omega) (by omega)]
      have := ih (pre ++ [p]) j (by rw [e]; simp) (by simp only [List.length_cons] at hj; omega)
      rw [hc] at this
      rw [show ((pre ++ [p]).length : Int) = (pre.length : Int) + 1 by simp] at this
      rw [show ((costL s pre + cost1 s p : Nat) : Int) = (costL s pre : Int) + (cost1 s p : Int) by omega] at this
      exact this
  have := loop l [] k rfl (by omega)
  exact this
theorem of_eq (k : Nat) (hk : 5001 ≤ k) (s : Int) (hs : 0 ≤ s) (hs' : s < 4294967296) (l : List (Int × Int)) (hl : ∀ p ∈ l, okSym p) (hn : l.length ≤ 16) :
    m24F k s l = some ((costL s l : Int), 0) := by
  have loop : ∀ (rest pre : List (Int × Int)) (j : Nat), l = pre ++ rest → rest.length < j → m24F9 k j s l l (l.length : Int) (pre.length : Int) = some ((costL s l : Int), 0) := by
    intro rest
    induction rest with
    | nil =>
      intro pre j e hj
      obtain ⟨j, rfl⟩ : ∃ n, j = n + 1 := ⟨j - 1, by omega⟩
      rw [List.append_nil] at e
      subst e
      simp only [m24F9, m24X9]
      rw [if_neg (by rw [ltI_neg (by omega)]; simp)]
      simp only [m24F18, m24X18]
      rw [sum_eq k hk s hs hs' l hl (by omega)]
      rfl
    | cons p rest ih =>
      intro pre j e hj
      obtain ⟨j, rfl⟩ : ∃ n, j = n + 1 := ⟨j - 1, by omega⟩
      have hlen : l.length = pre.length + (rest.length + 1) := by rw [e]; simp
      obtain ⟨⟨a1, a2⟩, b1, b2⟩ := hl p (by rw [e]; simp)
      have hp : l.getD (Int.toNat (pre.length : Int)) (0, 0) = p := by rw [e]; exact gd_at pre rest p (0, 0)
      simp only [m24F9, m24X9]
      rw [if_pos (ltI_pos (by omega)), if_pos (leI_pos (by omega)), if_pos (ltI_pos (by omega)), hp, if_neg (by rw [ltI_neg (by omega)]; simp), if_neg (by rw [ltI_neg (by omega)]; simp), if_neg (by rw [ltI_neg (by omega)]; simp), if_neg (by rw [ltI_neg (by omega)]; simp), w64 (by omega) (by omega)]
      have := ih (pre ++ [p]) j (by rw [e]; simp) (by simp only [List.length_cons] at hj; omega)
      rw [show ((pre ++ [p]).length : Int) = (pre.length : Int) + 1 by simp] at this
      exact this
  simp only [m24F, m24X]
  rw [if_neg (by rw [ltI_neg (by omega)]; simp)]
  exact loop l [] k rfl (by omega)
/-! A state of its first four symbols. -/
theorem or_add (x y n : Nat) (hx : x < 2 ^ n) (hs : x + y * 2 ^ n < 4294967296) : bits .or .u32 (x : Int) ((y * 2 ^ n : Nat) : Int) = ((x + y * 2 ^ n : Nat) : Int) := by
  rw [u32_or_nat x (y * 2 ^ n) (by omega) (by omega), Nat.or_comm, Nat.mul_comm, ← Nat.two_pow_add_eq_or_of_lt hx y, Nat.add_comm]
def badSym (x : Int) : Bool := decide (x < 0 ∨ 255 < x)
theorem bad_eq (k : Nat) (x : Int) : m31F k x = some (badSym x) := by
  simp only [m31F, m31X, leI_eq, ltI_eq, badSym]
  by_cases h : x < 0
  · simp [h]
  · simp [h]
theorem index06 (k : Nat) (l : List Int) (hl : l.length ≤ 5000) : ∀ (rest pre : List Int) (j : Nat), l = pre ++ rest → rest.length < j → ∃ r, m34F5 k j l (l.length : Int) (pre.length : Int) = some r ∧ leI 0 r = rest.any badSym := by
  intro rest
  induction rest with
  | nil =>
    intro pre j e hj
    obtain ⟨j, rfl⟩ : ∃ n, j = n + 1 := ⟨j - 1, by omega⟩
    have hlen : l.length = pre.length := by rw [e]; simp
    refine ⟨-1, ?_, ?_⟩
    · simp only [m34F5, m34X5]
      rw [if_neg (by rw [ltI_neg (by omega)]; simp)]
    · rw [leI_neg (by decide)]
      rfl
  | cons x rest ih =>
    intro pre j e hj
    obtain ⟨j, rfl⟩ : ∃ n, j = n + 1 := ⟨j - 1, by omega⟩
    have hlen : l.length = pre.length + (rest.length + 1) := by rw [e]; simp
    have hx : l.getD (Int.toNat (pre.length : Int)) 0 = x := by rw [e]; exact gd_at pre rest x 0
    simp only [m34F5, m34X5]
    rw [if_pos (ltI_pos (by omega)), if_pos (leI_pos (by omega)), if_pos (ltI_pos (by omega)), hx, bad_eq, Option.bind_some]
    cases hb : badSym x with
    | true =>
      refine ⟨(pre.length : Int), if_pos rfl, ?_⟩
      rw [leI_pos (by omega), List.any_cons, hb]
      rfl
    | false =>
      obtain ⟨r, h1, h2⟩ := ih (pre ++ [x]) j (by rw [e]; simp) (by simp only [List.length_cons] at hj; omega)
      refine ⟨r, ?_, ?_⟩
      · rw [if_neg (by simp), w64 (by omega) (by omega)]
        rw [show ((pre ++ [x]).length : Int) = (pre.length : Int) + 1 by simp] at h1
        exact h1
      · rw [h2, List.any_cons, hb]
        rfl
theorem contains06 (k : Nat) (hk : 5001 ≤ k) (l : List Int) (hl : l.length ≤ 5000) : m30F k l () = some (l.any badSym) := by
  obtain ⟨r, h1, h2⟩ := index06 k l hl l [] k rfl (by omega)
  have h3 : m34F k l () = some r := by
    simp only [m34F, m34X]
    exact h1
  simp only [m30F, m30X]
  rw [h3, Option.bind_some, h2]
theorem state_len (k : Nat) (l : List Int) (h : l.length ≠ 4) : m20F k l = some (0, 2) := by
  simp only [m20F, m20X]
  rw [if_pos (by rw [eqI_neg (by omega)]; rfl)]
theorem state_bad (k : Nat) (hk : 5001 ≤ k) (l : List Int) (h : l.length = 4) (hb : l.any badSym = true) : m20F k l = some (0, 1) := by
  simp only [m20F, m20X]
  rw [if_neg (by rw [eqI_pos (by omega)]; simp), contains06 k hk l (by omega), hb, Option.bind_some, if_pos rfl]
theorem state_ar (i acc x m : Nat) (hm : m ≤ 16777216) (ha : acc < m) (hx : x < 256) (hi : i < 4) (hxm : x * m ≤ 255 * m) : wr .i64 (8 * (i : Int)) = ((8 * i : Nat) : Int) ∧ min (8 * i) 32 = 8 * i ∧ wr .u32 (x : Int) = (x : Int) ∧ wr .u32 ((x * m : Nat) : Int) = ((x * m : Nat) : Int) ∧
    acc + x * m < 4294967296 ∧ wr .i64 ((i : Int) + 1) = ((i + 1 : Nat) : Int) ∧ leI 0 ((8 * i : Nat) : Int) = true ∧ ltI (i : Int) 4 = true ∧ leI 0 (i : Int) = true :=
  ⟨w64 (by omega) (by omega), by omega, by rw [wu32]; omega, by rw [wu32]; omega, by omega, w64s (by omega), leI_pos (by omega), ltI_pos (by omega), leI_pos (by omega)⟩
theorem state_round (k j : Nat) (l : List Int) (i acc x m : Nat) (he : 2 ^ (8 * i) = m) (hm : m ≤ 16777216) (ha : acc < m) (hx : x < 256) (hi : i < 4) (hl : l.length = 4) (hg : l.getD i 0 = (x : Int)) :
    m20F15 k (j + 1) (acc : Int) l 4 (i : Int) = m20F15 k j ((acc + x * m : Nat) : Int) l 4 ((i + 1 : Nat) : Int) := by
  have c3 : ltI (i : Int) (l.length : Int) = true := ltI_pos (by rw [hl]; exact Int.ofNat_lt.2 hi)
  obtain ⟨w8, hmin, wx, wxm, hs, w1, c0, c1, c2⟩ := state_ar i acc x m hm ha hx hi (Nat.mul_le_mul_right m (Nat.le_of_lt_succ hx))
  have hp : p2 (8 * i) = (m : Int) := by
    rw [← he]
    rfl
  have ho : bits .or .u32 (acc : Int) ((x * m : Nat) : Int) = ((acc + x * m : Nat) : Int) := by
    have := or_add acc x (8 * i) (by rw [he]; exact ha) (by rw [he]; exact hs)
    rw [he] at this
    exact this
  have hc : (x : Int) * (m : Int) = ((x * m : Nat) : Int) := (Int.natCast_mul x m).symm
  simp only [m20F15, m20X15, c1, c2, c3, w8, c0, if_true, Int.toNat_natCast, hmin, hg, wx, hp, hc, wxm, ho, w1]
theorem state_four (k : Nat) (hk : 5001 ≤ k) (a b c d : Nat) (ha : a < 256) (hb : b < 256) (hc : c < 256) (hd : d < 256) : m20F k [(a : Int), (b : Int), (c : Int), (d : Int)] = some (((a + b * 256 + c * 65536 + d * 16777216 : Nat) : Int), 0) := by
  have hn : [(a : Int), (b : Int), (c : Int), (d : Int)].any badSym = false := by
    have h : ∀ x : Nat, x < 256 → badSym (x : Int) = false := fun x hx => by
      unfold badSym
      rw [decide_eq_false (by omega)]
    simp only [List.any_cons, List.any_nil, h a ha, h b hb, h c hc, h d hd, Bool.or_self]
  obtain ⟨j, rfl⟩ : ∃ n, k = n + 5 := ⟨k - 5, by omega⟩
  simp only [m20F, m20X]
  have hlen : ([(a : Int), (b : Int), (c : Int), (d : Int)].length : Int) = 4 := rfl
  rw [hlen, if_neg (by rw [eqI_pos rfl]; simp), contains06 (j + 5) hk _ (by simp), hn, Option.bind_some, if_neg (by simp)]
  have r0 := state_round (j + 5) (j + 4) [(a : Int), (b : Int), (c : Int), (d : Int)] 0 0 a 1 rfl (by decide) (by decide) ha (by decide) rfl rfl
  have r1 := state_round (j + 5) (j + 3) [(a : Int), (b : Int), (c : Int), (d : Int)] 1 (0 + a * 1) b 256 rfl (by decide) (by omega) hb (by decide) rfl rfl
  have r2 := state_round (j + 5) (j + 2) [(a : Int), (b : Int), (c : Int), (d : Int)] 2 (0 + a * 1 + b * 256) c 65536 rfl (by decide) (by omega) hc (by decide) rfl rfl
  have r3 := state_round (j + 5) (j + 1) [(a : Int), (b : Int), (c : Int), (d : Int)] 3 (0 + a * 1 + b * 256 + c * 65536) d 16777216 rfl (by decide) (by omega) hd (by decide) rfl rfl
  have z : ((0 : Nat) : Int) = 0 := rfl
  rw [z] at r0
  refine r0.trans (r1.trans (r2.trans (r3.trans ?_)))
  simp only [m20F15, m20X15, m20F22, m20X22]
  rw [if_neg (by rw [ltI_neg (by decide)]; simp), Nat.zero_add, Nat.mul_one]
theorem symV_nat (n : Nat) (hn : n < 4294967296) (i : Nat) (hi : i < 4) : symV (n : Int) (i : Int) = ((n / 2 ^ (8 * i) % 256 : Nat) : Int) := by
  unfold symV
  rw [if_pos (by omega)]
  have e : (8 * (i : Int)).toNat = 8 * i := by omega
  have e2 : (n : Int) / p2 (8 * i) = ((n / 2 ^ (8 * i) : Nat) : Int) := rfl
  have hlt : n / 2 ^ (8 * i) < 4294967296 := Nat.lt_of_le_of_lt (Nat.div_le_self _ _) hn
  rw [e, e2]
  have := u32_and_nat (n / 2 ^ (8 * i)) 255 hlt (by decide)
  refine (this.trans ?_)
  exact congrArg (fun x : Nat => (x : Int)) (Nat.and_two_pow_sub_one_eq_mod (n / 2 ^ (8 * i)) 8)
theorem mixref_eqI (k : Nat) (x : Int) : m14F k x = some (mixI x) := by
  have e : (leI 0 16 = true) := leI_pos (by decide)
  have e' : (leI 0 15 = true) := leI_pos (by decide)
  simp only [mixI, m13F, m13X, m14F, m14X, if_pos e, if_pos e', Option.getD_some]
theorem sym_ref (k : Nat) (s i : Int) (hs : 0 ≤ s) (hs' : s < 4294967296) (h0 : 0 ≤ i) (h1 : i ≤ 255) : m19F k s i = some (symV s i) := by
  have hb := symV_byte s i hs hs'
  simp only [m19F, m19X]
  by_cases h4 : i < 4
  · have hw : wr .u64 (wr .i64 (8 * i)) = 8 * i := by
      rw [w64 (by omega) (by omega), wu64 (by omega) (by omega)]
    have hm : min (8 * i).toNat 32 = (8 * i).toNat := by omega
    rw [if_pos (ltI_pos h4), hw, if_pos (leI_pos (by omega)), hm]
    unfold symV at hb ⊢
    rw [if_pos h4] at hb ⊢
    rw [w64 (by omega) (by omega)]
  · rw [if_neg (by rw [ltI_neg h4]; simp), mixref_eqI, Option.bind_some]
    unfold symV at hb ⊢
    rw [if_neg h4] at hb ⊢
    rw [w64 (by omega) (by omega)]
theorem wakes06 (k : Nat) (hk : 5001 ≤ k) : m18F k = some true := by
  simp only [m18F, m18X]
  have e : List.set (List.set (List.set (List.set (List.replicate 4 (0 : Int)) 0 1) 1 2) 2 3) 3 4 = [((1 : Nat) : Int), ((2 : Nat) : Int), ((3 : Nat) : Int), ((4 : Nat) : Int)] := rfl
  have s1 : symV 67305985 0 = 1 := symV_nat 67305985 (by decide) 0 (by decide)
  rw [e, state_four k hk 1 2 3 4 (by decide) (by decide) (by decide) (by decide), sym_eq k 67305985 0 (by decide) (by decide) (by decide) (by decide), s1, Option.bind_some, Option.bind_some]
  have e0 : eqI 0 0 = true := eqI_pos rfl
  have e1 : eqI 1 1 = true := eqI_pos rfl
  have e2 : eqI ((1 + 2 * 256 + 3 * 65536 + 4 * 16777216 : Nat) : Int) 67305985 = true := eqI_pos rfl
  simp only [e0, e1, e2, if_true]

end Go.Proofs.Ytdhpehihkppomaa.Mini
