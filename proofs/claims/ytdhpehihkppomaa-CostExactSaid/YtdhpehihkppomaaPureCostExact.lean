/- What any state costs: plain laws. -/
import Derived.Test.YtdhpehihkppomaaMCost
import Derived.Test.YtdhpehihkppomaaBv
import Derived.Laws.Closers25b
namespace Go.Proofs.Ytdhpehihkppomaa.Mini
open Go Go.RowKit Go.Proofs

theorem w64 {n : Int} (h0 : -9223372036854775808 ≤ n) (h1 : n < 9223372036854775808) : wr .i64 n = n := by
  show wrap64 n = n
  unfold wrap64
  omega

theorem mix_eq (k k' : Nat) (x : Int) : m13F k x = m14F k' x := rfl

/-- A number's ones, below 256. -/
theorem ones_eq : ∀ x : Fin 256, m35F 70 (x.val : Int) = m33F 70 (x.val : Int) := by decide +kernel

open Bv in
theorem and_byte {v : Int} (h0 : 0 ≤ v) (h1 : v < 4294967296) : 0 ≤ bits .and .u32 v 255 ∧ bits .and .u32 v 255 < 256 := by
  obtain ⟨x, rfl⟩ := exists_u32 h0 h1
  have h : (255 : Int) = u (255#32) := rfl
  rw [h, and32]
  refine ⟨u_nonneg _, ?_⟩
  have : (x &&& 255#32).toNat ≤ 255 := by
    rw [BitVec.toNat_and]
    exact Nat.and_le_right
  unfold u
  omega

theorem byte_xor {a b : Int} (ha : 0 ≤ a) (ha' : a < 256) (hb : 0 ≤ b) (hb' : b < 256) : 0 ≤ bits .xor .i64 a b ∧ bits .xor .i64 a b < 256 := by
  obtain ⟨m, rfl⟩ := Int.eq_ofNat_of_zero_le ha
  obtain ⟨n, rfl⟩ := Int.eq_ofNat_of_zero_le hb
  rw [Bv.xorN m n (by omega) (by omega)]
  have : m ^^^ n < 2 ^ 8 := Nat.xor_lt_two_pow (by omega) (by omega)
  omega

theorem mix_u32 (k : Nat) (x : Int) : ∃ v, m13F k x = some v ∧ 0 ≤ v ∧ v < 4294967296 := by
  refine ⟨_, rfl, ?_⟩
  obtain ⟨h1, h2⟩ := bits_within .xor .u32 (wr IntKind.u32 (bits BinOp.xor IntKind.u32 (wr IntKind.u32 (bits BinOp.xor IntKind.u32 x (x / 65536) * 2146121005)) (wr IntKind.u32 (bits BinOp.xor IntKind.u32 x (x / 65536) * 2146121005) / 32768) * 2221713035)) (wr IntKind.u32 (bits BinOp.xor IntKind.u32 (wr IntKind.u32 (bits BinOp.xor IntKind.u32 x (x / 65536) * 2146121005)) (wr IntKind.u32 (bits BinOp.xor IntKind.u32 x (x / 65536) * 2146121005) / 32768) * 2221713035) / 65536)
  have e1 : IntKind.u32.min = 0 := by decide
  have e2 : IntKind.u32.max = 4294967295 := by decide
  rw [e1] at h1
  rw [e2] at h2
  exact ⟨h1, by omega⟩

/-- A state's symbol is a byte, the same by both. -/
theorem sym_eq (s i : Int) (hs : 0 ≤ s) (hs' : s < 4294967296) (h0 : 0 ≤ i) (h1 : i ≤ 255) : ∃ v, m17F 70 s i = some (v, 0) ∧ m19F 70 s i = some v ∧ 0 ≤ v ∧ v < 256 := by
  have fin : ∀ x : Int, 0 ≤ x → x < 4294967296 → 0 ≤ wr .i64 (bits .and .u32 x 255) ∧ wr .i64 (bits .and .u32 x 255) < 256 := fun x a b => by
    obtain ⟨c, d⟩ := and_byte a b
    rw [w64 (by omega) (by omega)]
    exact ⟨c, d⟩
  simp only [m17F, m17X, m19F, m19X, decide_eq_true_eq]
  rw [if_neg (by omega), if_neg (by omega)]
  by_cases h4 : i < 4
  · rw [if_pos h4, if_pos h4, w64 (by omega) (by omega)]
    have hu : wr IntKind.u64 (8 * i) = 8 * i := by
      show (8 * i) % 18446744073709551616 = 8 * i
      omega
    have h8 : 0 ≤ 8 * i := by omega
    simp only [hu, if_pos h8]
    refine ⟨_, rfl, rfl, fin _ ?_ ?_⟩
    · exact Int.ediv_nonneg hs (by unfold p2; exact Int.natCast_nonneg _)
    · exact Int.lt_of_le_of_lt (Int.ediv_le_self _ hs) hs'
  · rw [if_neg h4, if_neg h4]
    obtain ⟨v, hv, v0, v1⟩ := mix_u32 70 (wr IntKind.u32 (s + wr IntKind.u32 (wr IntKind.u32 i * 2654435769)))
    have hv' : m14F 70 (wr IntKind.u32 (s + wr IntKind.u32 (wr IntKind.u32 i * 2654435769))) = some v := hv
    rw [hv, hv', Option.bind_some, Option.bind_some]
    obtain ⟨c, d⟩ := fin v v0 v1
    exact ⟨_, rfl, rfl, c, d⟩

theorem ones_byte {x : Int} (h0 : 0 ≤ x) (h1 : x < 256) : m35F 70 x = m33F 70 x := by
  obtain ⟨n, rfl⟩ := Int.eq_ofNat_of_zero_le h0
  exact ones_eq ⟨n, by omega⟩

def okSym (p : Int × Int) : Prop := (0 ≤ p.1 ∧ p.1 ≤ 255) ∧ 0 ≤ p.2 ∧ p.2 ≤ 255

theorem sum_eq {s : Int} (hs : 0 ≤ s) (hs' : s < 4294967296) {l : List (Int × Int)} (hl : ∀ i : Nat, i < l.length → okSym (l.getD i (0, 0))) (hlen : l.length ≤ 60) : ∀ (j : Nat) (t i : Int), 0 ≤ i → m32F7 70 j s t l (l.length : Int) i = m27F7 70 j s l t i
  | 0, _, _, _ => rfl
  | j + 1, t, i, hi => by
    rw [m32F7, m27F7, m32X7, m27X7]
    by_cases h : i < (l.length : Int)
    · obtain ⟨⟨a1, a2⟩, b1, b2⟩ := hl i.toNat (by omega)
      obtain ⟨v, e1, e2, v0, v1⟩ := sym_eq s _ hs hs' a1 a2
      obtain ⟨x0, x1⟩ := byte_xor v0 v1 b1 (show (l.getD i.toNat (0, 0)).2 < 256 by omega)
      have hw : wr .i64 (i + 1) = i + 1 := w64 (by omega) (by omega)
      simp only [decide_eq_true_eq, if_pos h, if_pos hi, e1, e2, Option.bind_some, hw]
      rw [ones_byte x0 x1]
      congr 1
      funext c
      exact sum_eq hs hs' hl hlen j _ _ (by omega)
    · simp only [decide_eq_true_eq, if_neg h]

theorem ones_some : ∀ x : Fin 256, (m33F 70 (x.val : Int)).isSome = true := by decide +kernel

theorem sum_some {s : Int} (hs : 0 ≤ s) (hs' : s < 4294967296) {l : List (Int × Int)} (hl : ∀ i : Nat, i < l.length → okSym (l.getD i (0, 0))) (hlen : l.length ≤ 60) : ∀ (j : Nat) (t i : Int), 0 ≤ i → 0 < j → (l.length : Int) - i < j → ∃ r, m27F7 70 j s l t i = some r
  | 0, _, i, hi, hj, _ => absurd hj (Nat.lt_irrefl 0)
  | j + 1, t, i, hi, _, hj => by
    rw [m27F7, m27X7]
    by_cases h : i < (l.length : Int)
    · obtain ⟨⟨a1, a2⟩, b1, b2⟩ := hl i.toNat (by omega)
      obtain ⟨v, e1, e2, v0, v1⟩ := sym_eq s _ hs hs' a1 a2
      obtain ⟨x0, x1⟩ := byte_xor v0 v1 b1 (show (l.getD i.toNat (0, 0)).2 < 256 by omega)
      have hw : wr .i64 (i + 1) = i + 1 := w64 (by omega) (by omega)
      simp only [decide_eq_true_eq, if_pos h, if_pos hi, e2, Option.bind_some, hw]
      generalize bits BinOp.xor IntKind.i64 v (l.getD i.toNat (0, 0)).2 = y at x0 x1
      obtain ⟨n, rfl⟩ := Int.eq_ofNat_of_zero_le x0
      obtain ⟨c, hc⟩ := Option.isSome_iff_exists.1 (ones_some ⟨n, by omega⟩)
      have hc' : m33F 70 (n : Int) = some c := hc
      rw [hc', Option.bind_some]
      exact sum_some hs hs' hl hlen j _ _ (by omega) (by omega) (by omega)
    · simp only [decide_eq_true_eq, if_neg h]
      exact ⟨_, rfl⟩

theorem wakes_eq : m26F 70 = some true := by decide +kernel

theorem check_eq {s : Int} {l : List (Int × Int)} (hlen : l.length ≤ 60) : ∀ (j : Nat) (i : Int), 0 ≤ i → 0 < j → (l.length : Int) - i < j →
    (m24F9 70 j s l l (l.length : Int) i = some (0, 1) ∧ m10F21 70 j s l 0 1 i = some true) ∨
    ((∀ n : Nat, i ≤ n → n < l.length → okSym (l.getD n (0, 0))) ∧ m24F9 70 j s l l (l.length : Int) i = m24F18 70 s l ∧ ∀ a b, m10F21 70 j s l a b i = m10F28 70 s l a b)
  | 0, i, _, hj, _ => absurd hj (Nat.lt_irrefl 0)
  | j + 1, i, hi, _, hj => by
    rw [m24F9, m10F21, m24X9, m10X21]
    by_cases h : i < (l.length : Int)
    · have hw : wr .i64 (i + 1) = i + 1 := w64 (by omega) (by omega)
      simp only [m10F21, m10X21, decide_eq_true_eq, if_pos h, if_pos hi, hw, wakes_eq, Option.bind_some, if_true]
      by_cases c1 : (l.getD i.toNat (0, 0)).1 < 0
      · exact .inl ⟨by rw [if_pos c1], by rw [if_pos c1]⟩
      by_cases c2 : (l.getD i.toNat (0, 0)).1 > 255
      · exact .inl ⟨by rw [if_neg c1, if_pos c2], by rw [if_neg c1, if_pos c2]⟩
      by_cases c3 : (l.getD i.toNat (0, 0)).2 < 0
      · exact .inl ⟨by rw [if_neg c1, if_neg c2, if_pos c3], by rw [if_neg c1, if_neg c2, if_pos c3]⟩
      by_cases c4 : (l.getD i.toNat (0, 0)).2 > 255
      · exact .inl ⟨by rw [if_neg c1, if_neg c2, if_neg c3, if_pos c4], by rw [if_neg c1, if_neg c2, if_neg c3, if_pos c4]⟩
      simp only [if_neg c1, if_neg c2, if_neg c3, if_neg c4]
      rcases check_eq hlen j (i + 1) (by omega) (by omega) (by omega) with ⟨k1, k2⟩ | ⟨k1, k2, k3⟩
      · exact .inl ⟨k1, k2⟩
      · refine .inr ⟨fun n hn hn' => ?_, k2, k3⟩
        by_cases hni : (n : Int) = i
        · have : n = i.toNat := by omega
          subst this
          exact ⟨⟨by omega, by omega⟩, by omega, by omega⟩
        · exact k1 n (by omega) hn'
    · refine .inr ⟨fun n hn hn' => by omega, ?_, fun a b => ?_⟩
      · simp only [decide_eq_true_eq, if_neg h]
      · rw [m10F21, m10X21]
        simp only [decide_eq_true_eq, if_neg h]

theorem same_eq {l : List (Int × Int)} (hlen : l.length ≤ 60) : ∀ (j : Nat) (i : Int), 0 ≤ i → 0 < j → (l.length : Int) - i < j → m25F9 70 j l l i = some true
  | 0, i, _, hj, _ => absurd hj (Nat.lt_irrefl 0)
  | j + 1, i, hi, _, hj => by
    rw [m25F9, m25X9]
    by_cases h : i < (l.length : Int)
    · have hw : wr .i64 (i + 1) = i + 1 := w64 (by omega) (by omega)
      simp only [decide_eq_true_eq, if_pos h, if_pos hi, hw, decide_true, Bool.not_true, Bool.false_eq_true, if_false]
      exact same_eq hlen j (i + 1) (by omega) (by omega) (by omega)
    · simp only [decide_eq_true_eq, if_neg h]

theorem costExact (s : Int) (l : List (Int × Int)) (ws : (Lit.int .u32 s).wf = true) {B : Prop} (_ : B) : ∃ k, m10F k s l = some true := by
  refine ⟨70, ?_⟩
  obtain ⟨hs, hs'⟩ := Bv.wf_u32 ws
  by_cases h60 : (l.length : Int) > 60
  · simp only [m10F, m10X, decide_eq_true_eq, if_pos h60]
  have hlen : l.length ≤ 60 := by omega
  have h23 : m23F 70 l = some l := by
    simp only [m23F, m23X]
    rw [if_pos (by omega)]
  have h25 : m25F 70 l l = some true := by
    simp only [m25F, m25X, decide_true, Bool.not_true, Bool.false_eq_true, if_false]
    exact same_eq hlen 70 0 (by omega) (by omega) (by omega)
  by_cases h16 : (l.length : Int) > 16
  · have h24 : m24F 70 s l = some (0, 2) := by simp only [m24F, m24X, decide_eq_true_eq, if_pos h16]
    simp only [m10F, m10X, decide_eq_true_eq, if_neg h60, h23, h24, h25, Option.bind_some, Bool.not_true, Bool.false_eq_true, if_false, if_pos h16, if_true, wakes_eq]
  · rcases check_eq (s := s) hlen 70 0 (by omega) (by omega) (by omega) with ⟨k1, k2⟩ | ⟨k1, k2, k3⟩
    · have h24 : m24F 70 s l = some (0, 1) := by simp only [m24F, m24X, decide_eq_true_eq, if_neg h16, k1]
      simp only [m10F, m10X, decide_eq_true_eq, if_neg h60, h23, h24, h25, Option.bind_some, Bool.not_true, Bool.false_eq_true, if_false, if_neg h16, k2]
    · have hl : ∀ i : Nat, i < l.length → okSym (l.getD i (0, 0)) := fun i hi => k1 i (by omega) hi
      obtain ⟨r, hr⟩ := sum_some hs hs' hl hlen 70 0 0 (by omega) (by omega) (by omega)
      have h32 : m32F 70 s l = some r := by
        simp only [m32F, m32X]
        rw [sum_eq hs hs' hl hlen 70 0 0 (by omega)]
        exact hr
      have h27 : m27F 70 s l = some r := hr
      have h24 : m24F 70 s l = some (r, 0) := by
        simp only [m24F, m24X, decide_eq_true_eq, if_neg h16, k2, m24F18, m24X18, h32, Option.bind_some]
      simp only [m10F, m10X, decide_eq_true_eq, if_neg h60, h23, h24, h25, Option.bind_some, Bool.not_true, Bool.false_eq_true, if_false, if_neg h16, k3, m10F28, m10X28, if_true, h27, wakes_eq]

end Go.Proofs.Ytdhpehihkppomaa.Mini
