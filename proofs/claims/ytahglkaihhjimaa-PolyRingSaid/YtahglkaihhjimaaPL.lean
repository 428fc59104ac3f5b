/- What shared functions tell: plain laws. -/
import Derived.Test.YtahglkaihhjimaaMF
import Derived.Test.YtahglkaihhjimaaCrc
import Derived.Test.YtahglkaihhjimaaBe
import Derived.Test.YtahglkaihhjimaaPop
import Derived.Laws.Closers25b
import Derived.Test.YtahglkaihhjimaaGf
set_option linter.unusedSimpArgs false
set_option linter.unusedVariables false
namespace Go.Proofs.Ytahglkaihhjimaa.Mini
open Go Go.RowKit Go.Proofs
theorem w64 {n : Int} (h0 : -9223372036854775808 ≤ n) (h1 : n < 9223372036854775808) : wr .i64 n = n := by
  show wrap64 n = n
  unfold wrap64
  omega
theorem w64n {n : Nat} (h1 : n < 9223372036854775808) : wr .i64 (n : Int) = (n : Int) := w64 (by omega) (by omega)
theorem w64s {n : Nat} (h1 : n < 9223372036854775807) : wr .i64 ((n : Int) + 1) = ((n + 1 : Nat) : Int) := w64 (by omega) (by omega)
theorem wu64 {n : Int} (h0 : 0 ≤ n) (h1 : n < 18446744073709551616) : wr .u64 n = n := by
  show n % 18446744073709551616 = n
  omega
theorem wu8 (n : Int) : wr .u8 n = n % 256 := (congrArg (fun x : Int => x % 256) (Eq.refl n) : n % 256 = n % 256)
theorem wu32 (n : Int) : wr .u32 n = n % 4294967296 := (congrArg (fun x : Int => x % 4294967296) (Eq.refl n) : n % 4294967296 = n % 4294967296)
theorem gd_at {α : Type} (pre rest : List α) (x d : α) : (pre ++ x :: rest).getD (Int.toNat (pre.length : Int)) d = x := by
  rw [Int.toNat_natCast, List.getD_eq_getElem?_getD, List.getElem?_append_right (Nat.le_refl _), Nat.sub_self]
  rfl
theorem gd_at' {α : Type} (pre rest : List α) (x d : α) (n : Nat) (h : pre.length = n) : (pre ++ x :: rest).getD (Int.toNat (n : Int)) d = x := by
  subst h
  exact gd_at pre rest x d
theorem getD_nat {α : Type} (l : List α) (n : Nat) (d : α) : l.getD (Int.toNat (n : Int)) d = l.getD n d := rfl
theorem nilK_same {R : Type} {e : Bool} {a : Option R} : nilK e a a = a := by
  unfold nilK both
  cases e <;> simp
theorem nilK_of {R : Type} {e : Bool} {a b : Option R} (h : e = true → a = b) : nilK e a b = b := by
  unfold nilK both
  cases e
  · rfl
  · simp [h rfl]
theorem one_set (x d : Int) : List.set (List.replicate 1 d) 0 x = [x] := (congrArg (fun y : Int => [y]) (Eq.refl x) : [x] = [x])
theorem bytes_wf {l : List Int} (h : WfK (.row (.int .u8)) l) : ∀ c ∈ l, Crc.isByte c := fun c hc => Bv.wf_u8 (h.2 c hc)
theorem leI_pos {a b : Int} (h : a ≤ b) : leI a b = true := (leI_iff a b).2 h
theorem leI_neg {a b : Int} (h : ¬ a ≤ b) : leI a b = false := by
  rw [leI_eq]
  simpa using h
theorem ltI_pos {a b : Int} (h : a < b) : ltI a b = true := (ltI_iff a b).2 h
theorem ltI_neg {a b : Int} (h : ¬ a < b) : ltI a b = false := by
  rw [ltI_eq]
  simpa using h
theorem eqI_pos {a b : Int} (h : a = b) : eqI a b = true := (eqI_iff a b).2 h
theorem eqI_neg {a b : Int} (h : ¬ a = b) : eqI a b = false := by
  rw [eqI_eq]
  simpa using h
theorem umod0 (x : Int) (m : Nat) (hm : 0 < m) : ∃ a : Nat, a < m ∧ Int.tmod (wr .u64 x) (m : Int) = (a : Int) := by
  have h0 : 0 ≤ wr .u64 x := Int.emod_nonneg _ (by decide)
  have h1 : Int.tmod (wr .u64 x) (m : Int) = wr .u64 x % (m : Int) := Int.tmod_eq_emod_of_nonneg h0
  have h2 := Int.emod_nonneg (wr .u64 x) (show (m : Int) ≠ 0 by omega)
  have h3 := Int.emod_lt_of_pos (wr .u64 x) (show (0 : Int) < m by omega)
  refine ⟨(wr .u64 x % (m : Int)).toNat, ?_, ?_⟩
  · generalize wr .u64 x % (m : Int) = z at h2 h3
    omega
  · rw [h1]
    generalize wr .u64 x % (m : Int) = z at h2 h3
    omega
theorem clonei_eq (k : Nat) (l : List Int) (h : l.length ≤ 5000) : m22F k l = some l := by
  simp only [m22F, m22X, leI_eq, decide_eq_true_eq]
  rw [nilK_of, if_pos (by omega)]
  · rfl
  · intro he
    rw [if_pos (by omega)]
    rw [List.isEmpty_iff.1 he]
    rfl
/-! Polynomials over two elements. -/
open Gf
noncomputable def badBit (x : Int) : Bool := !eqI x 0 && !eqI x 1
theorem badBit_false {x : Int} (h : isBit x) : badBit x = false := by
  unfold badBit
  rcases h with rfl | rfl
  · rw [eqI_pos rfl]
    rfl
  · rw [eqI_pos (a := 1) (b := 1) rfl]
    exact Bool.and_false _
theorem badBit_true {x : Int} (h : ¬ isBit x) : badBit x = true := by
  unfold badBit
  rw [eqI_neg fun e => h (.inl e), eqI_neg fun e => h (.inr e)]
  rfl
theorem bad02 (k : Nat) (x : Int) : m28F k x = some (badBit x) := by
  simp only [m28F, m28X, badBit]
  cases eqI x 0 <;> simp
theorem index02 (k : Nat) (l : List Int) (hl : l.length ≤ 5000) : ∀ (rest pre : List Int) (j : Nat), l = pre ++ rest → rest.length < j → ∃ r, m30F5 k j l (l.length : Int) (pre.length : Int) = some r ∧ leI 0 r = rest.any badBit := by
  intro rest
  induction rest with
  | nil =>
    intro pre j e hj
    obtain ⟨j, rfl⟩ : ∃ n, j = n + 1 := ⟨j - 1, by omega⟩
    have hlen : l.length = pre.length := by rw [e]; simp
    refine ⟨-1, ?_, ?_⟩
    · simp only [m30F5, m30X5]
      rw [if_neg (by rw [ltI_neg (by omega)]; simp)]
    · rw [leI_neg (by decide)]
      rfl
  | cons x rest ih =>
    intro pre j e hj
    obtain ⟨j, rfl⟩ : ∃ n, j = n + 1 := ⟨j - 1, by omega⟩
    have hlen : l.length = pre.length + (rest.length + 1) := by rw [e]; simp
    have hx : l.getD (Int.toNat (pre.length : Int)) 0 = x := by rw [e]; exact gd_at pre rest x 0
    simp only [m30F5, m30X5]
    rw [if_pos (ltI_pos (by omega)), if_pos (leI_pos (by omega)), if_pos (ltI_pos (by omega)), hx, bad02, Option.bind_some]
    cases hb : badBit x with
    | true =>
      refine ⟨(pre.length : Int), if_pos rfl, ?_⟩
      rw [leI_pos (by omega), List.any_cons, hb]
      rfl
    | false =>
      obtain ⟨r, h1, h2⟩ := ih (pre ++ [x]) j (by rw [e]; simp) (by simp only [List.length_cons] at hj; omega)
      refine ⟨r, ?_, ?_⟩
      · rw [if_neg (by simp), w64 (by omega) (by omega)]
        rw [show ((pre ++ [x]).length : Int) = (pre.length : Int) + 1 by simp] at h1
        exact h1
      · rw [h2, List.any_cons, hb]
        rfl
theorem contains02 (k : Nat) (hk : 5001 ≤ k) (l : List Int) (hl : l.length ≤ 5000) : m27F k l PUnit.unit = some (l.any badBit) := by
  obtain ⟨r, h1, h2⟩ := index02 k l hl l [] k rfl (by omega)
  have h3 : m30F k l PUnit.unit = some r := by
    simp only [m30F, m30X]
    exact h1
  simp only [m27F, m27X]
  rw [h3, Option.bind_some, h2]
noncomputable def anyBad (ls : List (List Int)) : Bool := ls.any fun a => a.any badBit
theorem wrong_loop1 (k : Nat) (ls : List (List Int)) (hn : ls.length ≤ 100) (hl : ∀ a ∈ ls, a.length ≤ 5000) : ∀ (rest pre : List (List Int)) (j : Nat), ls = pre ++ rest → rest.length < j → m21F5 k j ls ls (ls.length : Int) (pre.length : Int) = m21F14 k ls := by
  intro rest
  induction rest with
  | nil =>
    intro pre j e hj
    obtain ⟨j, rfl⟩ : ∃ n, j = n + 1 := ⟨j - 1, by omega⟩
    have hlen : ls.length = pre.length := by rw [e]; simp
    simp only [m21F5, m21X5]
    rw [if_neg (by rw [ltI_neg (by omega)]; simp)]
  | cons x rest ih =>
    intro pre j e hj
    obtain ⟨j, rfl⟩ : ∃ n, j = n + 1 := ⟨j - 1, by omega⟩
    have hlen : ls.length = pre.length + (rest.length + 1) := by rw [e]; simp
    have hx : ls.getD (Int.toNat (pre.length : Int)) [] = x := by rw [e]; exact gd_at pre rest x []
    have hxl := hl x (by rw [e]; simp)
    have := ih (pre ++ [x]) j (by rw [e]; simp) (by simp only [List.length_cons] at hj; omega)
    rw [show ((pre ++ [x]).length : Int) = (pre.length : Int) + 1 by simp] at this
    simp only [m21F5, m21X5]
    rw [if_pos (ltI_pos (by omega)), if_pos (leI_pos (by omega)), if_pos (ltI_pos (by omega)), hx, if_neg (by rw [ltI_neg (by omega)]; simp), w64 (by omega) (by omega)]
    exact this
theorem wrong_loop2 (k : Nat) (hk : 5001 ≤ k) (ls : List (List Int)) (hn : ls.length ≤ 100) (hl : ∀ a ∈ ls, a.length ≤ 5000) : ∀ (rest pre : List (List Int)) (j : Nat), ls = pre ++ rest → rest.length < j → m21F17 k j ls (ls.length : Int) (pre.length : Int) = some (if anyBad rest = true then 1 else 0) := by
  intro rest
  induction rest with
  | nil =>
    intro pre j e hj
    obtain ⟨j, rfl⟩ : ∃ n, j = n + 1 := ⟨j - 1, by omega⟩
    have hlen : ls.length = pre.length := by rw [e]; simp
    simp only [m21F17, m21X17]
    rw [if_neg (by rw [ltI_neg (by omega)]; simp)]
    rfl
  | cons x rest ih =>
    intro pre j e hj
    obtain ⟨j, rfl⟩ : ∃ n, j = n + 1 := ⟨j - 1, by omega⟩
    have hlen : ls.length = pre.length + (rest.length + 1) := by rw [e]; simp
    have hx : ls.getD (Int.toNat (pre.length : Int)) [] = x := by rw [e]; exact gd_at pre rest x []
    have hxl := hl x (by rw [e]; simp)
    have := ih (pre ++ [x]) j (by rw [e]; simp) (by simp only [List.length_cons] at hj; omega)
    rw [show ((pre ++ [x]).length : Int) = (pre.length : Int) + 1 by simp] at this
    simp only [m21F17, m21X17]
    rw [if_pos (ltI_pos (by omega)), if_pos (leI_pos (by omega)), if_pos (ltI_pos (by omega)), hx, contains02 k hk x hxl, Option.bind_some]
    unfold anyBad at this ⊢
    rw [List.any_cons]
    cases hb : x.any badBit with
    | true => rw [if_pos rfl, Bool.true_or, if_pos rfl]
    | false =>
      rw [if_neg (by simp), w64 (by omega) (by omega), Bool.false_or]
      exact this
theorem wrong_eq (k : Nat) (hk : 5001 ≤ k) (ls : List (List Int)) (hn : ls.length ≤ 100) (hl : ∀ a ∈ ls, a.length ≤ 5000) : m21F k ls = some (if anyBad ls = true then 1 else 0) := by
  have h1 := wrong_loop1 k ls hn hl ls [] k rfl (by omega)
  have h2 := wrong_loop2 k hk ls hn hl ls [] k rfl (by omega)
  simp only [m21F, m21X]
  refine Eq.trans h1 ?_
  simp only [m21F14, m21X14]
  exact h2
theorem noBad {a : List Int} (h : ∀ c ∈ a, isBit c) : a.any badBit = false := by
  rw [List.any_eq_false]
  intro x hx
  rw [badBit_false (h x hx)]
  simp
theorem rows2 (a b : List Int) : List.set (List.set (List.replicate 2 ([] : List Int)) 0 a) 1 b = [a, b] := (congrArg (fun z : List Int => [a, z]) (Eq.refl b) : [a, b] = [a, b])
theorem rows1 (a : List Int) : List.set (List.replicate 1 ([] : List Int)) 0 a = [a] := (congrArg (fun z : List Int => [z]) (Eq.refl a) : [a] = [a])
theorem wrong2 (k : Nat) (hk : 5001 ≤ k) {a b : List Int} (ha : a.length ≤ 5000) (hb : b.length ≤ 5000) (h1 : ∀ c ∈ a, isBit c) (h2 : ∀ c ∈ b, isBit c) : m21F k [a, b] = some 0 := by
  rw [wrong_eq k hk [a, b] (by simp) (fun x hx => by
    rcases List.mem_cons.1 hx with rfl | hx
    · exact ha
    · rw [List.mem_singleton.1 hx]
      exact hb)]
  have : anyBad [a, b] = false := by
    unfold anyBad
    rw [List.any_cons, List.any_cons, noBad h1, noBad h2]
    rfl
  rw [this]
  rfl
theorem wrong1 (k : Nat) (hk : 5001 ≤ k) {a : List Int} (ha : a.length ≤ 5000) (h1 : ∀ c ∈ a, isBit c) : m21F k [a] = some 0 := by
  rw [wrong_eq k hk [a] (by simp) (fun x hx => by
    rw [List.mem_singleton.1 hx]
    exact ha)]
  have : anyBad [a] = false := by
    unfold anyBad
    rw [List.any_cons, noBad h1]
    rfl
  rw [this]
  rfl
theorem index1_loop (k : Nat) (l : List Int) (hl : l.length ≤ 5000) : ∀ (rest pre : List Int) (j : Nat), l = pre ++ rest → rest.length < j → ∃ r, m29F5 k j l 1 (l.length : Int) (pre.length : Int) = some r ∧
    ((r = -1 ∧ trimL rest = []) ∨ ∃ d, d ≤ rest.length ∧ r = ((pre.length + d : Nat) : Int) ∧ rest.drop d = trimL rest) := by
  intro rest
  induction rest with
  | nil =>
    intro pre j e hj
    obtain ⟨j, rfl⟩ : ∃ n, j = n + 1 := ⟨j - 1, by omega⟩
    have hlen : l.length = pre.length := by rw [e]; simp
    refine ⟨-1, ?_, .inl ⟨rfl, rfl⟩⟩
    simp only [m29F5, m29X5]
    rw [if_neg (by rw [ltI_neg (by omega)]; simp)]
  | cons x rest ih =>
    intro pre j e hj
    obtain ⟨j, rfl⟩ : ∃ n, j = n + 1 := ⟨j - 1, by omega⟩
    have hlen : l.length = pre.length + (rest.length + 1) := by rw [e]; simp
    have hx : l.getD (Int.toNat (pre.length : Int)) 0 = x := by rw [e]; exact gd_at pre rest x 0
    simp only [m29F5, m29X5]
    rw [if_pos (ltI_pos (by omega)), if_pos (leI_pos (by omega)), if_pos (ltI_pos (by omega)), hx]
    by_cases h1 : x = 1
    · refine ⟨(pre.length : Int), if_pos (eqI_pos h1.symm), .inr ⟨0, by omega, by simp, ?_⟩⟩
      rw [trimL, if_pos h1]
      rfl
    · obtain ⟨r, h2, h3⟩ := ih (pre ++ [x]) j (by rw [e]; simp) (by simp only [List.length_cons] at hj; omega)
      refine ⟨r, ?_, ?_⟩
      · rw [if_neg (by rw [eqI_neg fun h => h1 h.symm]; simp), w64 (by omega) (by omega)]
        rw [show ((pre ++ [x]).length : Int) = (pre.length : Int) + 1 by simp] at h2
        exact h2
      · rw [trimL, if_neg h1]
        refine h3.imp id ?_
        rintro ⟨d, hd, hr, he⟩
        refine ⟨d + 1, by rw [List.length_cons]; omega, ?_, by rw [List.drop_succ_cons]; exact he⟩
        rw [hr]
        simp only [List.length_append, List.length_singleton]
        omega
theorem trim_eq (k : Nat) (hk : 5001 ≤ k) (l : List Int) (hl : l.length ≤ 5000) : m24F k l = some (trimL l) := by
  obtain ⟨r, h1, h2⟩ := index1_loop k l hl l [] k rfl (by omega)
  have h3 : m29F k l 1 = some r := by
    simp only [m29F, m29X]
    exact h1
  simp only [m24F, m24X]
  rw [h3, Option.bind_some]
  rcases h2 with ⟨rfl, h2⟩ | ⟨d, hd, rfl, h2⟩
  · rw [if_pos (ltI_pos (by decide)), h2]
  · simp only [List.length_nil, Nat.zero_add]
    rw [if_neg (by rw [ltI_neg (by omega)]; simp), if_pos (leI_pos (by omega)), if_pos (leI_pos (by omega)), Int.toNat_natCast, h2, clonei_eq k _ (by have := trimL_len l; omega)]
    rfl
theorem xor_bits {x y : Int} (hx : isBit x) (hy : isBit y) : bits .xor .i64 x y = xb x y := by
  rcases hx with rfl | rfl <;> rcases hy with rfl | rfl <;> decide +kernel
theorem add_ar (i n : Nat) (h : i < n) (hn : n ≤ 5000) : ltI (i : Int) (n : Int) = true ∧ leI 0 (i : Int) = true ∧ wr .i64 ((i : Int) + 1) = ((i + 1 : Nat) : Int) := ⟨ltI_pos (by omega), leI_pos (by omega), w64s (by omega)⟩
theorem add_loop (k : Nat) (p pre post : List Int) (hp : p.length ≤ 5000) (hb : ∀ c ∈ p, isBit c) : ∀ (rest pr done pd : List Int) (j : Nat), p = pd ++ pr → rest.length = pr.length → done.length = pd.length → pr.length < j → (∀ c ∈ rest, isBit c) →
    m23F5 k j pre.length p.length p (p.length : Int) (done.length : Int) (pre ++ done ++ rest ++ post) = some (pre ++ done ++ List.zipWith xb rest pr ++ post) := by
  intro rest
  induction rest with
  | nil =>
    intro pr done pd j e h1 h2 hj hr
    obtain ⟨j, rfl⟩ : ∃ n, j = n + 1 := ⟨j - 1, by omega⟩
    obtain rfl : pr = [] := List.eq_nil_of_length_eq_zero h1.symm
    have hlen : p.length = pd.length := by rw [e]; simp
    simp only [m23F5, m23X5]
    rw [if_neg (by rw [ltI_neg (by omega)]; simp)]
    rfl
  | cons x rest ih =>
    intro pr done pd j e h1 h2 hj hr
    obtain ⟨j, rfl⟩ : ∃ n, j = n + 1 := ⟨j - 1, by omega⟩
    cases pr with
    | nil => cases h1
    | cons y pr =>
      have hlen : p.length = pd.length + (pr.length + 1) := by rw [e]; simp
      have hy : p.getD (Int.toNat (done.length : Int)) 0 = y := by rw [e]; exact gd_at' pd pr y 0 done.length h2.symm
      have hby := hb y (by rw [e]; simp)
      have hbx := hr x (List.mem_cons_self ..)
      have e1 : pre ++ done ++ x :: rest ++ post = (pre ++ done) ++ x :: (rest ++ post) := by simp
      have en : Int.toNat (done.length : Int) + pre.length = (pre ++ done).length := by rw [List.length_append, Int.toNat_natCast, Nat.add_comm]
      have hx : (pre ++ done ++ x :: rest ++ post).getD (Int.toNat (done.length : Int) + pre.length) 0 = x := by
        rw [e1, en, List.getD_eq_getElem?_getD, List.getElem?_append_right (Nat.le_refl _), Nat.sub_self]
        rfl
      have hs : List.set (pre ++ done ++ x :: rest ++ post) (Int.toNat (done.length : Int) + pre.length) (xb x y) = pre ++ (done ++ [xb x y]) ++ rest ++ post := by
        rw [e1, en, List.set_append_right _ _ (Nat.le_refl _), Nat.sub_self]
        simp
      obtain ⟨c1, c2, c3⟩ := add_ar done.length p.length (by omega) hp
      have := ih pr (done ++ [xb x y]) (pd ++ [y]) j (by rw [e]; simp) (by simpa using h1) (by simp [h2]) (by simp only [List.length_cons] at hj; omega) (fun c hc => hr c (List.mem_cons_of_mem _ hc))
      rw [show (done ++ [xb x y]).length = done.length + 1 by simp] at this
      simp only [m23F5, m23X5, c1, c2, c3, if_true, hx, hy, xor_bits hbx hby, hs]
      rw [this]
      simp
theorem add_eq (k : Nat) (hk : 5001 ≤ k) (pre mid post p : List Int) (hl : mid.length = p.length) (ht : pre.length + mid.length ≤ 5000) (h1 : ∀ c ∈ mid, isBit c) (h2 : ∀ c ∈ p, isBit c) :
    m23F k (pre ++ mid ++ post) 0 (pre.length + mid.length) p = some (pre ++ List.zipWith xb mid p ++ post) := by
  have w1 : wr .i64 (((pre.length + mid.length : Nat) : Int) - (p.length : Int)) = (pre.length : Int) := by rw [w64 (by omega) (by omega)]; omega
  have := add_loop k p pre post (by omega) h2 mid p [] [] k rfl hl rfl (by omega) h1
  simp only [m23F, m23X, w1]
  rw [if_pos (leI_pos (by omega)), if_pos (leI_pos (by omega)), Int.toNat_natCast, Nat.add_zero, Nat.add_sub_cancel_left, hl]
  rw [List.append_nil] at this
  exact this
/-- Trimmed, added. -/
theorem gfTrim_eq (k : Nat) (hk : 5001 ≤ k) (a : List Int) (ha : a.length ≤ 5000) (h1 : ∀ c ∈ a, isBit c) : m15F k a = some (rowOf (val a), 0) := by
  have hz : ∀ z : Int, (!eqI z z) = false := fun z => by rw [eqI_pos rfl]; rfl
  simp only [m15F, m15X, rows1, wrong1 k hk ha h1, Option.bind_some, hz, Bool.false_eq_true, if_false, trim_eq k hk a ha, trim_row h1]
theorem add12 (k : Nat) (hk : 5001 ≤ k) (a b : List Int) (ha : a.length ≤ 5000) (hab : b.length ≤ a.length) (h1 : ∀ c ∈ a, isBit c) (h2 : ∀ c ∈ b, isBit c) : m9F12 k a b = some (rowOf (val a ^^^ val b), 0) := by
  have e : a = a.take (a.length - b.length) ++ a.drop (a.length - b.length) ++ [] := by rw [List.append_nil, List.take_append_drop]
  have hm : (a.drop (a.length - b.length)).length = b.length := by rw [List.length_drop]; omega
  have hp : (a.take (a.length - b.length)).length = a.length - b.length := by rw [List.length_take]; omega
  have hd : ∀ c ∈ a.drop (a.length - b.length), isBit c := fun c hc => h1 c (List.mem_of_mem_drop hc)
  have htk : ∀ c ∈ a.take (a.length - b.length), isBit c := fun c hc => h1 c (List.mem_of_mem_take hc)
  have hadd := add_eq k hk (a.take (a.length - b.length)) (a.drop (a.length - b.length)) [] b hm (by omega) hd h2
  rw [← e, hp, hm, show a.length - b.length + b.length = a.length by omega] at hadd
  have hv := val_add (a.take (a.length - b.length)) (a.drop (a.length - b.length)) [] b hd (fun c hc => by cases hc) h2 hm
  rw [← e] at hv
  have hbit : ∀ c ∈ a.take (a.length - b.length) ++ List.zipWith xb (a.drop (a.length - b.length)) b ++ [], isBit c := bits_app (bits_app htk (zip_bit _ _)) fun c hc => by cases hc
  have hlen : (a.take (a.length - b.length) ++ List.zipWith xb (a.drop (a.length - b.length)) b ++ []).length ≤ 5000 := by
    rw [List.append_nil, List.length_append, List.length_zipWith, hm, hp]
    omega
  simp only [m9F12, m9X12, clonei_eq k a ha, Option.bind_some, hadd, trim_eq k hk _ hlen, trim_row hbit, hv]
  rfl
theorem gfAdd_eq (k : Nat) (hk : 5001 ≤ k) (a b : List Int) (ha : a.length ≤ 5000) (hb : b.length ≤ 5000) (h1 : ∀ c ∈ a, isBit c) (h2 : ∀ c ∈ b, isBit c) : m9F k a b = some (rowOf (val a ^^^ val b), 0) := by
  have hz : ∀ z : Int, (!eqI z z) = false := fun z => by rw [eqI_pos rfl]; rfl
  simp only [m9F, m9X, rows2, wrong2 k hk ha hb h1 h2, Option.bind_some, hz, Bool.false_eq_true, if_false]
  by_cases h : (a.length : Int) < (b.length : Int)
  · rw [if_pos (ltI_pos h), add12 k hk b a hb (by omega) h2 h1, Nat.xor_comm]
  · rw [if_neg (by rw [ltI_neg h]; simp), add12 k hk a b ha (by omega) h1 h2]
/-- What one more coefficient makes of a product. -/
theorem cm_snoc (l : List Int) (x : Int) (hx : isBit x) (b : Nat) : cm (val (l ++ [x])) b = (cm (val l) b) <<< 1 ^^^ (if x = 1 then b else 0) := by
  rw [val_xapp l [x] (fun c hc => by rw [List.mem_singleton.1 hc]; exact hx), cm_xor_left, cm_shl_left]
  rcases hx with rfl | rfl
  · have : val [0] = 0 := val_zeros 1
    rw [this, cm_zero_left, if_neg (by decide)]
    rfl
  · have : val [1] = 1 := by
      have := val_snoc [] 1
      rw [val_nil] at this
      exact this
    rw [this, cm_one_left, if_pos rfl]
    rfl
/-! Multiplied, divided. -/
theorem mul_ar (la lb i r : Nat) (h : la = i + (r + 1)) (hl : la + lb ≤ 5000) : ltI (i : Int) (la : Int) = true ∧ leI 0 (i : Int) = true ∧ wr .i64 ((i : Int) + 1) = ((i + 1 : Nat) : Int) ∧ wr .i64 (wr .i64 ((la : Int) - 1) - (i : Int)) = (r : Int) ∧ wr .i64 (((la + lb : Nat) : Int) - (r : Int)) = ((i + 1 + lb : Nat) : Int) ∧
    leI 0 ((i + 1 + lb : Nat) : Int) = true ∧ leI ((i + 1 + lb : Nat) : Int) ((la + lb : Nat) : Int) = true := by
  have e1 : wr .i64 ((la : Int) - 1) = (la : Int) - 1 := w64 (by omega) (by omega)
  rw [e1]
  exact ⟨ltI_pos (by omega), leI_pos (by omega), w64s (by omega), by rw [w64 (by omega) (by omega)]; omega, by rw [w64 (by omega) (by omega)]; omega, leI_pos (by omega), leI_pos (by omega)⟩
theorem three {α : Type} (l : List α) (a b : Nat) : l = l.take a ++ (l.drop a).take b ++ l.drop (a + b) := by
  rw [List.append_assoc, ← List.drop_drop, List.take_append_drop, List.take_append_drop]
theorem mul_loop (k : Nat) (hk : 5001 ≤ k) (a b : List Int) (hl : a.length + b.length ≤ 5000) (ha : ∀ c ∈ a, isBit c) (hb : ∀ c ∈ b, isBit c) : ∀ (rest pre out : List Int) (j : Nat), a = pre ++ rest → rest.length < j → out.length = a.length + b.length → (∀ c ∈ out, isBit c) → val out = (cm (val pre) (val b)) <<< rest.length →
    m10F19 k j (a.length : Int) (pre.length : Int) a b out = some (rowOf (cm (val a) (val b)), 0) := by
  intro rest
  induction rest with
  | nil =>
    intro pre out j e hj ho hbo hv
    obtain ⟨j, rfl⟩ : ∃ n, j = n + 1 := ⟨j - 1, by omega⟩
    rw [List.append_nil] at e
    subst e
    simp only [m10F19, m10X19]
    rw [if_neg (by rw [ltI_neg (by omega)]; simp)]
    simp only [m10F28, m10X28]
    rw [trim_eq k hk out (by omega), trim_row hbo, hv]
    rfl
  | cons x rest ih =>
    intro pre out j e hj ho hbo hv
    obtain ⟨j, rfl⟩ : ∃ n, j = n + 1 := ⟨j - 1, by omega⟩
    have hlen : a.length = pre.length + (rest.length + 1) := by rw [e]; simp
    have hx : a.getD (Int.toNat (pre.length : Int)) 0 = x := by rw [e]; exact gd_at pre rest x 0
    have hbx := ha x (by rw [e]; simp)
    obtain ⟨c1, c2, c3, c4, c5, c6, c7⟩ := mul_ar a.length b.length pre.length rest.length hlen hl
    have hsn := cm_snoc pre x hbx (val b)
    have hnext : ∀ out' : List Int, out'.length = a.length + b.length → (∀ c ∈ out', isBit c) → val out' = (cm (val (pre ++ [x])) (val b)) <<< rest.length → m10F19 k j (a.length : Int) ((pre.length + 1 : Nat) : Int) a b out' = some (rowOf (cm (val a) (val b)), 0) := by
      intro out' h1 h2 h3
      have := ih (pre ++ [x]) out' j (by rw [e]; simp) (by simp only [List.length_cons] at hj; omega) h1 h2 h3
      rw [show (pre ++ [x]).length = pre.length + 1 by simp] at this
      exact this
    rw [List.length_cons, Nat.add_comm, Nat.shiftLeft_add] at hv
    rcases hbx with rfl | rfl
    · simp only [m10F19, m10X19, c1, c2, c3, if_true, hx]
      rw [if_neg (by rw [eqI_neg (by decide)]; simp)]
      refine hnext out ho hbo ?_
      rw [hv, hsn, if_neg (by decide), Nat.xor_zero]
    · have e1 := three out (pre.length + 1) b.length
      have hp : (out.take (pre.length + 1)).length = pre.length + 1 := by rw [List.length_take]; omega
      have hm : ((out.drop (pre.length + 1)).take b.length).length = b.length := by rw [List.length_take, List.length_drop]; omega
      have hq : (out.drop (pre.length + 1 + b.length)).length = rest.length := by rw [List.length_drop]; omega
      have b1 : ∀ c ∈ out.take (pre.length + 1), isBit c := fun c hc => hbo c (List.mem_of_mem_take hc)
      have b2 : ∀ c ∈ (out.drop (pre.length + 1)).take b.length, isBit c := fun c hc => hbo c (List.mem_of_mem_drop (List.mem_of_mem_take hc))
      have b3 : ∀ c ∈ out.drop (pre.length + 1 + b.length), isBit c := fun c hc => hbo c (List.mem_of_mem_drop hc)
      have hadd := add_eq k hk (out.take (pre.length + 1)) ((out.drop (pre.length + 1)).take b.length) (out.drop (pre.length + 1 + b.length)) b hm (by omega) b2 hb
      rw [← e1, hp, hm] at hadd
      have hv2 := val_add (out.take (pre.length + 1)) ((out.drop (pre.length + 1)).take b.length) (out.drop (pre.length + 1 + b.length)) b b2 b3 hb hm
      rw [← e1, hq, hv] at hv2
      have hlen2 : (out.take (pre.length + 1) ++ List.zipWith xb ((out.drop (pre.length + 1)).take b.length) b ++ out.drop (pre.length + 1 + b.length)).length = a.length + b.length := by
        rw [List.length_append, List.length_append, List.length_zipWith, hm, hp, hq, Nat.min_self]
        omega
      have hx' : a.getD pre.length 0 = 1 := hx
      simp only [m10F19, m10X19, c1, c2, c3, if_true, hx, hx', eqI_pos (show (1 : Int) = 1 from rfl), ho, c4, c5, c6, c7, Int.toNat_natCast, hadd, Option.bind_some]
      refine hnext _ hlen2 (bits_app (bits_app b1 (zip_bit _ _)) b3) ?_
      rw [hv2, hsn, if_pos rfl, Nat.shiftLeft_xor_distrib]
theorem gfMul_eq (k : Nat) (hk : 5001 ≤ k) (a b : List Int) (ha : a.length ≤ 2000) (hb : b.length ≤ 2000) (h1 : ∀ c ∈ a, isBit c) (h2 : ∀ c ∈ b, isBit c) : m10F k a b = some (rowOf (cm (val a) (val b)), 0) := by
  have hz : ∀ z : Int, (!eqI z z) = false := fun z => by rw [eqI_pos rfl]; rfl
  have l1 := trimL_len a
  have l2 := trimL_len b
  have v1 := trimL_val h1
  have v2 := trimL_val h2
  have b1 := trimL_bit h1
  have b2 := trimL_bit h2
  have t1 := trim_eq k hk a (by omega)
  have t2 := trim_eq k hk b (by omega)
  generalize trimL a = x at *
  generalize trimL b = y at *
  have ar : wr .i64 ((x.length : Int) + (y.length : Int)) = ((x.length + y.length : Nat) : Int) ∧ ltI 32768 ((x.length + y.length : Nat) : Int) = false ∧ leI 0 ((x.length + y.length : Nat) : Int) = true ∧ leI ((x.length + y.length : Nat) : Int) ((x.length + y.length : Nat) : Int) = true ∧ leI (((x.length + y.length : Nat) : Int) * 8) 140737488355328 = true ∧ leI ((x.length + y.length : Nat) : Int) 9223372036854775807 = true :=
    ⟨by rw [w64 (by omega) (by omega)]; omega, ltI_neg (by omega), leI_pos (by omega), leI_pos (by omega), leI_pos (by omega), leI_pos (by omega)⟩
  obtain ⟨a1, a2, a3, a4, a5, a6⟩ := ar
  have lp := mul_loop k hk x y (by omega) b1 b2 x [] (List.replicate (x.length + y.length) 0) k rfl (by omega) (List.length_replicate ..) (zeros_bit _) (by rw [val_zeros, val_nil, cm_zero_left, Nat.zero_shiftLeft])
  rw [v1, v2] at lp
  simp only [m10F, m10X, rows2, wrong2 k hk (show a.length ≤ 5000 by omega) (show b.length ≤ 5000 by omega) h1 h2, Option.bind_some, hz, Bool.false_eq_true, if_false, t1, t2, a1, a2, a3, a4, a5, a6, if_true, Int.toNat_natCast]
  exact lp
theorem div_ar (i lm la : Nat) (h : la ≤ 4000) (hm : lm ≤ 4000) (hi : i + lm ≤ la) (hm0 : 1 ≤ lm) : wr .i64 ((i : Int) + (lm : Int)) = ((i + lm : Nat) : Int) ∧ leI ((i + lm : Nat) : Int) (la : Int) = true ∧ leI 0 (i : Int) = true ∧ ltI (i : Int) (la : Int) = true ∧ leI (((i + 1) * 8 : Nat) : Int) 140737488355328 = true ∧ leI 0 ((i + lm : Nat) : Int) = true ∧ wr .i64 ((i : Int) + 1) = ((i + 1 : Nat) : Int) :=
  ⟨by rw [w64 (by omega) (by omega)]; omega, leI_pos (by omega), leI_pos (by omega), ltI_pos (by omega), leI_pos (by omega), leI_pos (by omega), w64s (by omega)⟩
theorem div_ar2 (i lm la : Nat) (h : la ≤ 4000) (hm : lm ≤ 4000) (hi2 : i ≤ la) (hi : ¬ i + lm ≤ la) : leI (wr .i64 ((i : Int) + (lm : Int))) (la : Int) = false := by
  rw [w64 (by omega) (by omega)]
  exact leI_neg (by omega)
theorem zeros_app_get (i : Nat) (x : Int) (s : List Int) : (List.replicate i 0 ++ x :: s).getD i 0 = x := by
  simp
theorem zeros_succ (i : Nat) (s : List Int) : List.replicate i (0 : Int) ++ 0 :: s = List.replicate (i + 1) 0 ++ s := by
  rw [show List.replicate (i + 1) (0 : Int) = List.replicate i 0 ++ [0] from List.replicate_succ' .., List.append_assoc]
  rfl
theorem xor4 (c v m : Nat) : c ^^^ v = (c ^^^ m) ^^^ (v ^^^ m) := by rw [Nat.xor_assoc, xlc m v m, Nat.xor_self, Nat.xor_zero]
/-- One round of a division: what is left is told by what was there. -/
theorem div_step (Q S m' : List Int) (x : Int) (hx : isBit x) (hS : ∀ c ∈ S, isBit c) (hm : ∀ c ∈ m', isBit c) (hl : m'.length ≤ S.length) (A : Nat) (hA : A = (cm (val Q) (val (1 :: m'))) <<< (S.length + 1 - m'.length) ^^^ val (x :: S)) :
    let S' := if x = 1 then List.zipWith xb (S.take m'.length) m' ++ S.drop m'.length else S
    S'.length = S.length ∧ (∀ c ∈ S', isBit c) ∧ A = (cm (val (Q ++ [x])) (val (1 :: m'))) <<< (S.length - m'.length) ^^^ val S' ∧ (x = 1 → ∀ pre : List Int, pre ++ List.zipWith xb (x :: S.take m'.length) (1 :: m') ++ S.drop m'.length = pre ++ 0 :: S') := by
  have e1 : S.length + 1 - m'.length = 1 + (S.length - m'.length) := by omega
  have htk : ∀ c ∈ S.take m'.length, isBit c := fun c hc => hS c (List.mem_of_mem_take hc)
  have hdr : ∀ c ∈ S.drop m'.length, isBit c := fun c hc => hS c (List.mem_of_mem_drop hc)
  have hlt : (S.take m'.length).length = m'.length := by rw [List.length_take]; omega
  rw [e1, Nat.shiftLeft_add] at hA
  rw [cm_snoc Q x hx, Nat.shiftLeft_xor_distrib]
  rcases hx with rfl | rfl
  · refine ⟨by rw [if_neg (by decide)], by rw [if_neg (by decide)]; exact hS, ?_, fun h => by cases h⟩
    rw [if_neg (by decide), if_neg (by decide), Nat.zero_shiftLeft, Nat.xor_zero, hA]
    have : val (0 :: S) = val S := by rw [val_cons]; simp
    rw [this]
  · have hv := val_add [] (1 :: S.take m'.length) (S.drop m'.length) (1 :: m') (fun c hc => by
      rcases List.mem_cons.1 hc with rfl | hc
      · exact .inr rfl
      · exact htk c hc) hdr (fun c hc => by
      rcases List.mem_cons.1 hc with rfl | hc
      · exact .inr rfl
      · exact hm c hc) (by simp [hlt])
    have e2 : [] ++ (1 :: S.take m'.length) ++ S.drop m'.length = 1 :: S := by simp
    have e3 : [] ++ List.zipWith xb (1 :: S.take m'.length) (1 :: m') ++ S.drop m'.length = 0 :: (List.zipWith xb (S.take m'.length) m' ++ S.drop m'.length) := by
      rw [List.zipWith_cons_cons]
      rfl
    have e4 : ∀ s : List Int, val (0 :: s) = val s := fun s => by rw [val_cons]; simp
    rw [e2, e3, e4, List.length_drop] at hv
    refine ⟨?_, ?_, ?_, fun _ pre => ?_⟩
    · rw [if_pos rfl, List.length_append, List.length_zipWith, hlt, Nat.min_self, List.length_drop]
      omega
    · rw [if_pos rfl]
      exact bits_app (zip_bit _ _) hdr
    · rw [if_pos rfl, if_pos rfl, hv, hA]
      exact xor4 _ _ _
    · rw [if_pos rfl, List.zipWith_cons_cons]
      show pre ++ (0 :: List.zipWith xb (S.take m'.length) m') ++ S.drop m'.length = _
      simp
theorem div_loop (k : Nat) (hk : 5001 ≤ k) (m' : List Int) (hm : ∀ c ∈ m', isBit c) (la A : Nat) (hla : la ≤ 2000) (hlm : m'.length ≤ 2000) : ∀ (n j i : Nat) (Q S : List Int), S.length < m'.length + 1 + n → n < j → i + S.length = la → Q.length = i → (∀ c ∈ Q, isBit c) → (∀ c ∈ S, isBit c) →
    A = (cm (val Q) (val (1 :: m'))) <<< (S.length - m'.length) ^^^ val S → ∃ q r, m17F19 k j (i : Int) (1 :: m') Q (List.replicate i 0 ++ S) = some (rowOf q, rowOf r, 0) ∧ A = cm q (val (1 :: m')) ^^^ r ∧ r < 2 ^ m'.length ∧ q < 2 ^ la := by
  have base : ∀ (j i : Nat) (Q S : List Int), S.length < m'.length + 1 → i + S.length = la → Q.length = i → (∀ c ∈ Q, isBit c) → (∀ c ∈ S, isBit c) →
      A = (cm (val Q) (val (1 :: m'))) <<< (S.length - m'.length) ^^^ val S → ∃ q r, m17F19 k (j + 1) (i : Int) (1 :: m') Q (List.replicate i 0 ++ S) = some (rowOf q, rowOf r, 0) ∧ A = cm q (val (1 :: m')) ^^^ r ∧ r < 2 ^ m'.length ∧ q < 2 ^ la := by
    intro j i Q S hs hi hq bq bs hA
    have hR : (List.replicate i (0 : Int) ++ S).length = la := by rw [List.length_append, List.length_replicate]; exact hi
    have c1 := div_ar2 i (1 :: m').length la (by omega) (by rw [List.length_cons]; omega) (by omega) (by rw [List.length_cons]; omega)
    have bR : ∀ c ∈ List.replicate i (0 : Int) ++ S, isBit c := bits_app (zeros_bit i) bs
    refine ⟨val Q, val S, ?_, ?_, ?_, ?_⟩
    · simp only [m17F19, m17X19, hR, c1, Bool.false_eq_true, if_false, m17F28, m17X28]
      rw [trim_eq k hk Q (by omega), trim_eq k hk _ (show (List.replicate i (0 : Int) ++ S).length ≤ 5000 by omega), trim_row bq, trimL_zeros, trim_row bs]
      rfl
    · rw [hA, show S.length - m'.length = 0 by omega]
      rfl
    · exact Nat.lt_of_lt_of_le (val_lt S bs) (Nat.pow_le_pow_right (by decide) (by omega))
    · exact Nat.lt_of_lt_of_le (val_lt Q bq) (Nat.pow_le_pow_right (by decide) (by omega))
  intro n
  induction n with
  | zero =>
    intro j i Q S hs hj hi hq bq bs hA
    obtain ⟨j, rfl⟩ : ∃ n, j = n + 1 := ⟨j - 1, by omega⟩
    exact base j i Q S (by omega) hi hq bq bs hA
  | succ n ih =>
    intro j i Q S hs hj hi hq bq bs hA
    obtain ⟨j, rfl⟩ : ∃ n, j = n + 1 := ⟨j - 1, by omega⟩
    by_cases hend : S.length < m'.length + 1
    · exact base j i Q S hend hi hq bq bs hA
    · cases S with
      | nil => exact absurd (Nat.succ_pos _) hend
      | cons x S =>
        rw [List.length_cons] at hs hi hend
        have hlt : (S.take m'.length).length = m'.length := by rw [List.length_take]; omega
        have htot : (List.replicate i (0 : Int)).length + (1 :: S.take m'.length).length ≤ 5000 := by rw [List.length_replicate, List.length_cons, hlt]; omega
        have hx := bs x (List.mem_cons_self ..)
        have bS : ∀ c ∈ S, isBit c := fun c hc => bs c (List.mem_cons_of_mem _ hc)
        rw [List.length_cons] at hA
        obtain ⟨s1, s2, s3, s4⟩ := div_step Q S m' x hx bS hm (by omega) A hA
        have hS0 : x ≠ 1 → (if x = 1 then List.zipWith xb (S.take m'.length) m' ++ S.drop m'.length else S) = S := fun h => if_neg h
        generalize (if x = 1 then List.zipWith xb (S.take m'.length) m' ++ S.drop m'.length else S) = S' at s1 s2 s3 s4 hS0
        have bQ : ∀ c ∈ Q ++ [x], isBit c := bits_app bq fun c hc => by rw [List.mem_singleton.1 hc]; exact hx
        obtain ⟨q, r, h1, h2, h3, h4⟩ := ih j (i + 1) (Q ++ [x]) S' (by omega) (by omega) (by omega) (by simp [hq]) bQ s2 (by rw [s1]; exact s3)
        refine ⟨q, r, ?_, h2, h3, h4⟩
        have hR : (List.replicate i (0 : Int) ++ x :: S).length = la := by rw [List.length_append, List.length_replicate, List.length_cons]; omega
        have hg := zeros_app_get i x S
        have hlm' : (1 :: m').length = m'.length + 1 := rfl
        obtain ⟨c1, c2, c3, c4, c5, c6, c7⟩ := div_ar i (m'.length + 1) la (by omega) (by omega) (by omega) (by omega)
        rcases hx with rfl | rfl
        · rw [hS0 (by decide), ← zeros_succ] at h1
          simp only [m17F19, m17X19, hR, hlm', c1, c2, c3, c4, if_true, Int.toNat_natCast, hg, one_set, List.length_singleton, hq, c5]
          rw [if_neg (by rw [eqI_neg (by decide)]; simp)]
          simp only [m17F20, m17X20, c7]
          exact h1
        · have hadd := add_eq k hk (List.replicate i 0) (1 :: S.take m'.length) (S.drop m'.length) (1 :: m') (congrArg (· + 1) hlt) htot (fun c hc => by
            rcases List.mem_cons.1 hc with rfl | hc
            · exact .inr rfl
            · exact bS c (List.mem_of_mem_take hc)) (fun c hc => by
            rcases List.mem_cons.1 hc with rfl | hc
            · exact .inr rfl
            · exact hm c hc)
          rw [s4 rfl, zeros_succ, List.length_replicate, List.length_cons, hlt] at hadd
          have e1 : List.replicate i (0 : Int) ++ 1 :: S.take m'.length ++ S.drop m'.length = List.replicate i 0 ++ 1 :: S := by simp
          rw [e1] at hadd
          simp only [m17F19, m17X19, hR, hlm', c1, c2, c3, c4, c6, if_true, Int.toNat_natCast, hg, one_set, List.length_singleton, hq, c5, eqI_pos (show (1 : Int) = 1 from rfl), hadd, Option.bind_some, m17F20, m17X20, c7]
          exact h1
theorem gfDiv_eq (k : Nat) (hk : 5001 ≤ k) (a b : List Int) (ha : a.length ≤ 1500) (hb : b.length ≤ 1500) (h1 : ∀ c ∈ a, isBit c) (h2 : ∀ c ∈ b, isBit c) (hb0 : val b ≠ 0) :
    ∃ q r, m17F k a b = some (rowOf q, rowOf r, 0) ∧ val a = cm q (val b) ^^^ r ∧ r < 2 ^ ((rowOf (val b)).length - 1) ∧ q < 2 ^ a.length := by
  have hz : ∀ z : Int, (!eqI z z) = false := fun z => by rw [eqI_pos rfl]; rfl
  have l1 := trimL_len a
  have l2 := trimL_len b
  have v1 := trimL_val h1
  have b1 := trimL_bit h1
  have b2 := trimL_bit h2
  have t1 := trim_eq k hk a (by omega)
  have t2 := trim_eq k hk b (by omega)
  rw [trim_row h2] at t2 b2 l2
  obtain ⟨m', hm⟩ := rowOf_cons hb0
  have hv := rowOf_val (val b)
  rw [hm] at t2 b2 l2 hv
  rw [List.length_cons] at l2
  have bm : ∀ c ∈ m', isBit c := fun c hc => b2 c (List.mem_cons_of_mem _ hc)
  have A0 : val (trimL a) = (cm (val []) (val (1 :: m'))) <<< ((trimL a).length - m'.length) ^^^ val (trimL a) := by rw [val_nil, cm_zero_left, Nat.zero_shiftLeft, Nat.zero_xor]
  obtain ⟨q, r, e1, e2, e3, e4⟩ := div_loop k hk m' bm (trimL a).length (val (trimL a)) (by omega) (by omega) (trimL a).length k 0 [] (trimL a) (by omega) (by omega) (by omega) rfl (fun c hc => by cases hc) b1 A0
  rw [hv, v1] at e2
  refine ⟨q, r, ?_, e2, by rw [hm, List.length_cons]; exact e3, Nat.lt_of_lt_of_le e4 (Nat.pow_le_pow_right (by decide) l1)⟩
  have c0 : eqI ((1 :: m').length : Int) 0 = false := eqI_neg (by rw [List.length_cons]; omega)
  simp only [m17F, m17X, rows2, wrong2 k hk (show a.length ≤ 5000 by omega) (show b.length ≤ 5000 by omega) h1 h2, Option.bind_some, hz, Bool.false_eq_true, if_false, t1, t2, c0]
  exact e1
theorem gfDiv_zero (k : Nat) (hk : 5001 ≤ k) (a b : List Int) (ha : a.length ≤ 1500) (hb : b.length ≤ 1500) (h1 : ∀ c ∈ a, isBit c) (h2 : ∀ c ∈ b, isBit c) (hb0 : val b = 0) : m17F k a b = some ([], [], 1) := by
  have hz : ∀ z : Int, (!eqI z z) = false := fun z => by rw [eqI_pos rfl]; rfl
  have t2 := trim_eq k hk b (by omega)
  rw [trim_row h2, hb0, rowOf_zero] at t2
  have c0 : eqI (([] : List Int).length : Int) 0 = true := eqI_pos rfl
  simp only [m17F, m17X, rows2, wrong2 k hk (show a.length ≤ 5000 by omega) (show b.length ≤ 5000 by omega) h1 h2, Option.bind_some, hz, Bool.false_eq_true, if_false, t2, c0, if_true]
/-- Of one division: what is told is told of any quotient and rest that fit. -/
theorem gfDiv_is (k : Nat) (hk : 5001 ≤ k) (a b : List Int) (ha : a.length ≤ 1500) (hb : b.length ≤ 1500) (h1 : ∀ c ∈ a, isBit c) (h2 : ∀ c ∈ b, isBit c) (hb0 : val b ≠ 0) (q r : Nat) (h : val a = cm q (val b) ^^^ r) (hr : r < 2 ^ ((rowOf (val b)).length - 1)) :
    m17F k a b = some (rowOf q, rowOf r, 0) := by
  obtain ⟨q', r', e1, e2, e3, _⟩ := gfDiv_eq k hk a b ha hb h1 h2 hb0
  obtain ⟨_, h4, _⟩ := rowOf_len_iff hb0
  obtain ⟨rfl, rfl⟩ := div_one (e2.symm.trans h) h4 e3 hr
  exact e1
theorem ints_loop (k : Nat) (a b : List Int) (hl : a.length ≤ 5000) (he : a.length = b.length) : ∀ (ra rb pa pb : List Int) (j : Nat), a = pa ++ ra → b = pb ++ rb → pa.length = pb.length → ra.length < j →
    m11F9 k j a b (pa.length : Int) = some (decide (ra = rb)) := by
  intro ra
  induction ra with
  | nil =>
    intro rb pa pb j ha hb hp hj
    obtain ⟨j, rfl⟩ : ∃ i, j = i + 1 := ⟨j - 1, by simp only [List.length_nil] at hj; omega⟩
    have h1 : a.length = pa.length := by rw [ha]; simp
    have h2 : b.length = pb.length + rb.length := by rw [hb]; simp
    obtain rfl : rb = [] := List.eq_nil_of_length_eq_zero (by omega)
    rw [m11F9, m11X9]
    simp only [leI_eq, ltI_eq, eqI_eq, decide_eq_true_eq, if_neg (show ¬ (pa.length : Int) < (a.length : Int) by omega), decide_true]
  | cons x ra ih =>
    intro rb pa pb j ha hb hp hj
    obtain ⟨j, rfl⟩ : ∃ i, j = i + 1 := ⟨j - 1, by omega⟩
    have h1 : a.length = pa.length + (ra.length + 1) := by rw [ha]; simp
    have h2 : b.length = pb.length + rb.length := by rw [hb]; simp
    cases rb with
    | nil => simp only [List.length_nil] at h2; omega
    | cons y rb =>
      simp only [List.length_cons] at h2 hj
      have e1 : a.getD (Int.toNat (pa.length : Int)) 0 = x := by rw [ha]; exact gd_at pa ra x 0
      have e2 : b.getD (Int.toNat (pa.length : Int)) 0 = y := by rw [hb]; exact gd_at' pb rb y 0 pa.length hp.symm
      have c1 : (pa.length : Int) < (a.length : Int) := by omega
      have c2 : (0 : Int) ≤ (pa.length : Int) := by omega
      have c3 : (pa.length : Int) < (b.length : Int) := by omega
      rw [m11F9, m11X9]
      simp only [leI_eq, ltI_eq, eqI_eq, decide_eq_true_eq, if_pos c1, if_pos c2, if_pos c3, e1, e2, w64s (show pa.length < 9223372036854775807 by omega)]
      by_cases hxy : x = y
      · subst hxy
        have := ih rb (pa ++ [x]) (pb ++ [x]) j (by rw [ha]; simp) (by rw [hb]; simp) (by simp [hp]) (by omega)
        rw [List.length_append, List.length_singleton] at this
        simp only [decide_true, Bool.not_true, Bool.false_eq_true, if_false]
        rw [this]
        simp
      · simp [hxy]
theorem ints_eq' (k : Nat) (hk : 5001 ≤ k) (a b : List Int) (hl : a.length ≤ 5000) : m11F k a b = some (decide (a = b)) := by
  simp only [m11F, m11X]
  by_cases he : a.length = b.length
  · have := ints_loop k a b hl he a b [] [] k rfl rfl rfl (by omega)
    simp only [List.length_nil] at this
    simp only [he, eqI_eq, decide_true, Bool.not_true, Bool.false_eq_true, if_false]
    exact this
  · have : ¬ ((a.length : Int) = (b.length : Int)) := by omega
    have h2 : ¬ a = b := fun h => he (by rw [h])
    simp [eqI_eq, this, h2]
theorem twinInts_eq' (k : Nat) (l : List Int) (hl : l.length ≤ 5000) : m13F k l = some l := by
  simp only [m13F, m13X]
  rw [if_pos (leI_pos (by omega))]
/-! The law's own helpers. -/
theorem bits_and1 (x : Int) : isBit (bits .and .i64 x 1) := by
  have h2 := Bv.ofInt64 1 (by decide)
  have hlt : (BitVec.ofInt 64 x &&& BitVec.ofInt 64 ((1 : Nat) : Int)).toNat < 2 := by
    rw [BitVec.toNat_and, h2]
    exact Nat.lt_of_le_of_lt Nat.and_le_right (by decide)
  have e : bits .and .i64 x 1 = ((BitVec.ofInt 64 x &&& BitVec.ofInt 64 ((1 : Nat) : Int)).toNat : Int) := by
    show IntKind.i64.wrap ((BitVec.ofInt 64 x &&& BitVec.ofInt 64 ((1 : Nat) : Int)).toNat : Int) = _
    generalize (BitVec.ofInt 64 x &&& BitVec.ofInt 64 ((1 : Nat) : Int)).toNat = n at hlt
    rw [IntKind.wrap_i64]
    omega
  rw [e]
  generalize (BitVec.ofInt 64 x &&& BitVec.ofInt 64 ((1 : Nat) : Int)).toNat = n at hlt
  unfold isBit
  omega
noncomputable def bitsL (l : List Int) : List Int := l.map fun x => bits .and .i64 x 1
theorem bitsL_bit (l : List Int) : ∀ c ∈ bitsL l, isBit c := fun c hc => by
  obtain ⟨x, _, rfl⟩ := List.mem_map.1 hc
  exact bits_and1 x
theorem bitsL_len (l : List Int) : (bitsL l).length = l.length := List.length_map ..
theorem bits_ar (i n : Nat) (h : i < n) (hn : n ≤ 5000) : ltI (i : Int) (n : Int) = true ∧ leI 0 (i : Int) = true ∧ wr .i64 ((i : Int) + 1) = ((i + 1 : Nat) : Int) ∧ leI (((i + 1) * 8 : Nat) : Int) 140737488355328 = true := ⟨ltI_pos (by omega), leI_pos (by omega), w64s (by omega), leI_pos (by omega)⟩
theorem bits02_loop (k : Nat) (l : List Int) (hl : l.length ≤ 5000) : ∀ (rest pre : List Int) (j : Nat), l = pre ++ rest → rest.length < j → m8F7 k j l (pre.length : Int) (bitsL pre) = some (bitsL l) := by
  intro rest
  induction rest with
  | nil =>
    intro pre j e hj
    obtain ⟨j, rfl⟩ : ∃ n, j = n + 1 := ⟨j - 1, by omega⟩
    rw [List.append_nil] at e
    subst e
    simp only [m8F7, m8X7]
    rw [if_neg (by rw [ltI_neg (by omega)]; simp)]
  | cons x rest ih =>
    intro pre j e hj
    obtain ⟨j, rfl⟩ : ∃ n, j = n + 1 := ⟨j - 1, by omega⟩
    have hlen : l.length = pre.length + (rest.length + 1) := by rw [e]; simp
    have hx : l.getD (Int.toNat (pre.length : Int)) 0 = x := by rw [e]; exact gd_at pre rest x 0
    obtain ⟨c1, c2, c3, c4⟩ := bits_ar pre.length l.length (by omega) hl
    have := ih (pre ++ [x]) j (by rw [e]; simp) (by simp only [List.length_cons] at hj; omega)
    rw [show (pre ++ [x]).length = pre.length + 1 by simp, show bitsL (pre ++ [x]) = bitsL pre ++ [bits .and .i64 x 1] by simp [bitsL]] at this
    simp only [m8F7, m8X7, c1, c2, c3, if_true, hx, one_set, List.length_singleton, bitsL_len, c4]
    exact this
theorem bits02_eq (k : Nat) (hk : 5001 ≤ k) (l : List Int) (hl : l.length ≤ 5000) : m8F k l = some (bitsL l) := by
  simp only [m8F, m8X]
  exact bits02_loop k l hl l [] k rfl (by omega)
theorem wakes02 (k : Nat) (hk : 5001 ≤ k) : m12F k = some true := by
  have e1 : List.set (List.set (List.set (List.replicate 3 (0 : Int)) 0 1) 1 0) 2 1 = [1, 0, 1] := rfl
  have e2 : List.set (List.set (List.replicate 2 (0 : Int)) 0 1) 1 1 = [1, 1] := rfl
  have b1 : ∀ c ∈ ([1, 0, 1] : List Int), isBit c := fun c hc => by
    simp only [List.mem_cons, List.not_mem_nil, or_false] at hc
    unfold isBit
    omega
  have b2 : ∀ c ∈ ([1, 1] : List Int), isBit c := fun c hc => by
    simp only [List.mem_cons, List.not_mem_nil, or_false] at hc
    unfold isBit
    omega
  have v1 : val [1, 0, 1] = 5 := by decide +kernel
  have v2 : val [1, 1] = 3 := by decide +kernel
  have r3 : rowOf 3 = [1, 1] := by decide +kernel
  have h := gfDiv_is k hk [1, 0, 1] [1, 1] (by decide) (by decide) b1 b2 (by rw [v2]; decide) 3 0 (by rw [v1, v2]; decide +kernel) (Nat.two_pow_pos _)
  have h2 := ints_eq' k hk [1, 1] [1, 1] (by decide)
  have e0 : ∀ z : Int, eqI z z = true := fun z => eqI_pos rfl
  have e3 : eqI (([] : List Int).length : Int) 0 = true := eqI_pos rfl
  simp only [m12F, m12X, e1, e2, h, Option.bind_some, e0, if_true, r3, h2, decide_true, rowOf_zero, e3]
/-! The page's answers. -/
theorem twinInts02 (k : Nat) (l : List Int) (hl : l.length ≤ 5000) : m13F k l = some l := by
  simp only [m13F, m13X]
  rw [if_pos (leI_pos (by omega))]
theorem refTrim_loop (k : Nat) (l : List Int) (hl : l.length ≤ 5000) : ∀ (rest pre : List Int) (j : Nat), l = pre ++ rest → rest.length < j → m16F5 k j l (pre.length : Int) = some (trimL rest) := by
  intro rest
  induction rest with
  | nil =>
    intro pre j e hj
    obtain ⟨j, rfl⟩ : ∃ n, j = n + 1 := ⟨j - 1, by omega⟩
    have hlen : l.length = pre.length := by rw [e]; simp
    simp only [m16F5, m16X5]
    rw [if_neg (by rw [ltI_neg (by omega)]; simp)]
    rfl
  | cons x rest ih =>
    intro pre j e hj
    obtain ⟨j, rfl⟩ : ∃ n, j = n + 1 := ⟨j - 1, by omega⟩
    have hlen : l.length = pre.length + (rest.length + 1) := by rw [e]; simp
    have hx : l.getD (Int.toNat (pre.length : Int)) 0 = x := by rw [e]; exact gd_at pre rest x 0
    have hd : l.drop (Int.toNat (pre.length : Int)) = x :: rest := by rw [e, Int.toNat_natCast, List.drop_left]
    have htw := twinInts02 k (x :: rest) (by rw [List.length_cons]; omega)
    simp only [m16F5, m16X5]
    rw [if_pos (ltI_pos (by omega)), if_pos (leI_pos (by omega)), if_pos (ltI_pos (by omega)), hx]
    by_cases h1 : x = 1
    · rw [if_pos (eqI_pos h1), if_pos (leI_pos (by omega)), if_pos (leI_pos (by omega)), hd, htw, trimL, if_pos h1]
      rfl
    · have := ih (pre ++ [x]) j (by rw [e]; simp) (by simp only [List.length_cons] at hj; omega)
      rw [show ((pre ++ [x]).length : Int) = (pre.length : Int) + 1 by simp] at this
      rw [if_neg (by rw [eqI_neg h1]; simp), w64 (by omega) (by omega), trimL, if_neg h1]
      exact this
theorem refTrim_eq (k : Nat) (hk : 5001 ≤ k) (l : List Int) (hl : l.length ≤ 5000) : m16F k l = some (trimL l) := by
  simp only [m16F, m16X]
  exact refTrim_loop k l hl l [] k rfl (by omega)
theorem within_loop (k : Nat) (l : List Int) (hl : l.length ≤ 5000) : ∀ (rest pre : List Int) (j : Nat), l = pre ++ rest → rest.length < j → m25F5 k j l 0 1 (pre.length : Int) = some (!rest.any badBit) := by
  intro rest
  induction rest with
  | nil =>
    intro pre j e hj
    obtain ⟨j, rfl⟩ : ∃ n, j = n + 1 := ⟨j - 1, by omega⟩
    have hlen : l.length = pre.length := by rw [e]; simp
    simp only [m25F5, m25X5]
    rw [if_neg (by rw [ltI_neg (by omega)]; simp)]
    rfl
  | cons x rest ih =>
    intro pre j e hj
    obtain ⟨j, rfl⟩ : ∃ n, j = n + 1 := ⟨j - 1, by omega⟩
    have hlen : l.length = pre.length + (rest.length + 1) := by rw [e]; simp
    have hx : l.getD (Int.toNat (pre.length : Int)) 0 = x := by rw [e]; exact gd_at pre rest x 0
    simp only [m25F5, m25X5]
    rw [if_pos (ltI_pos (by omega)), if_pos (leI_pos (by omega)), if_pos (ltI_pos (by omega)), hx, List.any_cons]
    by_cases h0 : x < 0
    · rw [if_pos (ltI_pos h0), badBit_true (fun h => by unfold isBit at h; omega)]
      rfl
    · rw [if_neg (by rw [ltI_neg h0]; simp), if_pos (leI_pos (by omega)), if_pos (ltI_pos (by omega))]
      by_cases h1 : 1 < x
      · rw [if_pos (ltI_pos h1), badBit_true (fun h => by unfold isBit at h; omega)]
        rfl
      · have := ih (pre ++ [x]) j (by rw [e]; simp) (by simp only [List.length_cons] at hj; omega)
        rw [show ((pre ++ [x]).length : Int) = (pre.length : Int) + 1 by simp] at this
        rw [if_neg (by rw [ltI_neg h1]; simp), w64 (by omega) (by omega), badBit_false (by unfold isBit; omega), Bool.false_or]
        exact this
theorem poly_eq (k : Nat) (hk : 5001 ≤ k) (l : List Int) (hl : l.length ≤ 5000) : m14F k l = some (if l.any badBit = true then 1 else 0) := by
  have h : m25F k l 0 1 = some (!l.any badBit) := by
    simp only [m25F, m25X]
    exact within_loop k l hl l [] k rfl (by omega)
  simp only [m14F, m14X]
  rw [if_neg (by rw [ltI_neg (by omega)]; simp), h, Option.bind_some]
  cases l.any badBit <;> rfl
/-- The coefficient of a power. -/
theorem val_bit : ∀ (l : List Int), (∀ c ∈ l, isBit c) → ∀ i, i < l.length → (((val l / 2 ^ i) % 2 : Nat) : Int) = l.getD (l.length - 1 - i) 0 := by
  intro l hl i hi
  have e : l = l.take (l.length - 1 - i) ++ l.drop (l.length - 1 - i) := (List.take_append_drop ..).symm
  have hd : l.drop (l.length - 1 - i) = l.getD (l.length - 1 - i) 0 :: l.drop (l.length - i) := by
    rw [List.getD_eq_getElem?_getD, List.getElem?_eq_getElem (by omega), Option.getD_some, List.drop_eq_getElem_cons (by omega)]
    congr 2
    omega
  have hx : isBit (l.getD (l.length - 1 - i) 0) := by
    rw [List.getD_eq_getElem?_getD, List.getElem?_eq_getElem (by omega), Option.getD_some]
    exact hl _ (List.getElem_mem _)
  rw [hd] at e
  have hv := congrArg val e
  rw [val_append, val_cons] at hv
  have hn : (l.drop (l.length - i)).length = i := by rw [List.length_drop]; omega
  have hlt := val_lt (l.drop (l.length - i)) fun c hc => hl c (List.mem_of_mem_drop hc)
  rw [List.length_cons, hn] at hv
  rw [hn] at hlt
  rw [hv]
  generalize l.getD (l.length - 1 - i) 0 = x at hx
  generalize val (l.drop (l.length - i)) = r at hlt
  generalize val (l.take (l.length - 1 - i)) = q
  have hp := Nat.two_pow_pos i
  have e2 : q * 2 ^ (i + 1) + (x.toNat * 2 ^ i + r) = r + 2 ^ i * (2 * q + x.toNat) := by
    rw [Nat.pow_succ, Nat.mul_add]
    generalize 2 ^ i = P
    have h1 : q * (P * 2) = P * (2 * q) := by rw [Nat.mul_comm P 2, ← Nat.mul_assoc, Nat.mul_comm q 2, Nat.mul_comm]
    rw [h1, Nat.mul_comm x.toNat P]
    omega
  rw [e2, Nat.add_mul_div_left _ _ hp, Nat.div_eq_of_lt hlt, Nat.zero_add]
  rcases hx with rfl | rfl
  · simp
  · simp
theorem at_ar (n i : Nat) (h : i < n) (hn : n ≤ 5000) : ltI (i : Int) (n : Int) = true ∧ wr .i64 (wr .i64 ((n : Int) - 1) - (i : Int)) = ((n - 1 - i : Nat) : Int) ∧ leI 0 ((n - 1 - i : Nat) : Int) = true ∧ ltI ((n - 1 - i : Nat) : Int) (n : Int) = true := by
  have e1 : wr .i64 ((n : Int) - 1) = (n : Int) - 1 := w64 (by omega) (by omega)
  rw [e1]
  exact ⟨ltI_pos (by omega), by rw [w64 (by omega) (by omega)]; omega, leI_pos (by omega), ltI_pos (by omega)⟩
theorem at_eq (k : Nat) (l : List Int) (hl : l.length ≤ 5000) (hb : ∀ c ∈ l, isBit c) (i : Nat) : m26F k l (i : Int) = some (((val l / 2 ^ i) % 2 : Nat) : Int) := by
  simp only [m26F, m26X]
  by_cases h : i < l.length
  · obtain ⟨c1, c2, c3, c4⟩ := at_ar l.length i h hl
    simp only [c1, c2, c3, c4, if_true, Int.toNat_natCast]
    rw [val_bit l hb i h]
  · rw [if_neg (by rw [ltI_neg (fun q => h (Int.ofNat_lt.1 q))]; simp)]
    have := val_lt l hb
    have : val l < 2 ^ i := Nat.lt_of_lt_of_le this (Nat.pow_le_pow_right (by decide) (Nat.not_lt.1 h))
    rw [Nat.div_eq_of_lt this]
    rfl
theorem add2_ar (x y n : Nat) (hx : x < 2) (hy : y < 2) (hn : n ≤ 5000) : Int.tmod (wr .i64 ((x : Int) + (y : Int))) 2 = (((x + y) % 2 : Nat) : Int) ∧ leI (((n + 1) * 8 : Nat) : Int) 140737488355328 = true := by
  have : wr .i64 ((x : Int) + (y : Int)) = ((x + y : Nat) : Int) := by rw [w64 (by omega) (by omega)]; omega
  rw [this, Int.tmod_eq_emod_of_nonneg (by omega)]
  exact ⟨by omega, leI_pos (by omega)⟩
theorem refAdd_ar (n : Nat) (hn : n ≤ 5000) : leI 0 ((n : Int) + 1 - 1) = true ∧ (n : Int) + 1 - 1 = (n : Int) ∧ wr .i64 ((n : Int) - 1) = (n : Int) - 1 ∧ leI 0 (-1 : Int) = false := ⟨leI_pos (by omega), by omega, w64 (by omega) (by omega), leI_neg (by decide)⟩
theorem xor_step (A B i : Nat) : 2 * ((A ^^^ B) / 2 ^ (i + 1)) + (A / 2 ^ i % 2 + B / 2 ^ i % 2) % 2 = (A ^^^ B) / 2 ^ i := by
  have h1 : (A ^^^ B) / 2 ^ i = (A / 2 ^ i) ^^^ (B / 2 ^ i) := by
    have := Nat.shiftRight_xor_distrib (a := A) (b := B) (i := i)
    simpa [Nat.shiftRight_eq_div_pow] using this
  have h2 : (A ^^^ B) / 2 ^ i % 2 = (A / 2 ^ i % 2 + B / 2 ^ i % 2) % 2 := by rw [h1, Pop.xor_mod2]
  have h3 : (A ^^^ B) / 2 ^ (i + 1) = (A ^^^ B) / 2 ^ i / 2 := by rw [Nat.pow_succ, Nat.div_div_eq_div_mul]
  rw [h3, ← h2]
  omega
theorem refAdd_loop (k : Nat) (hk : 5001 ≤ k) (a b : List Int) (ha : a.length ≤ 2000) (hb : b.length ≤ 2000) (h1 : ∀ c ∈ a, isBit c) (h2 : ∀ c ∈ b, isBit c) : ∀ (i j : Nat) (out : List Int), i < j → i + out.length ≤ 2000 → (∀ c ∈ out, isBit c) → val out = (val a ^^^ val b) / 2 ^ i →
    m18F9 k j a b ((i : Int) - 1) out = some (rowOf (val a ^^^ val b)) := by
  intro i
  induction i with
  | zero =>
    intro j out hj hl bo hv
    obtain ⟨j, rfl⟩ : ∃ n, j = n + 1 := ⟨j - 1, by omega⟩
    have c := leI_neg (show ¬ (0 : Int) ≤ ((0 : Nat) : Int) - 1 by omega)
    rw [Nat.pow_zero, Nat.div_one] at hv
    simp only [m18F9, m18X9, c, Bool.false_eq_true, if_false, m18F14, m18X14, refTrim_eq k hk out (by omega), Option.bind_some, trim_row bo, hv]
  | succ i ih =>
    intro j out hj hl bo hv
    obtain ⟨j, rfl⟩ : ∃ n, j = n + 1 := ⟨j - 1, by omega⟩
    have hb1 : ∀ c ∈ out ++ [(((val a / 2 ^ i % 2 + val b / 2 ^ i % 2) % 2 : Nat) : Int)], isBit c := bits_app bo fun c hc => by
      rw [List.mem_singleton.1 hc]
      generalize val a / 2 ^ i % 2 + val b / 2 ^ i % 2 = z
      unfold isBit
      omega
    have hv2 : val (out ++ [(((val a / 2 ^ i % 2 + val b / 2 ^ i % 2) % 2 : Nat) : Int)]) = (val a ^^^ val b) / 2 ^ i := by
      rw [val_snoc, hv, Int.toNat_natCast]
      exact xor_step _ _ _
    have := ih j _ (by omega) (by rw [List.length_append, List.length_singleton]; omega) hb1 hv2
    have x1 : val a / 2 ^ i % 2 < 2 := Nat.mod_lt _ (by decide)
    have x2 : val b / 2 ^ i % 2 < 2 := Nat.mod_lt _ (by decide)
    have t1 := at_eq k a (by omega) h1 i
    have t2 := at_eq k b (by omega) h2 i
    have hi : i ≤ 5000 := by omega
    have ho : out.length ≤ 5000 := by omega
    clear ih hv hv2 hb1
    generalize val a / 2 ^ i % 2 = u at *
    generalize val b / 2 ^ i % 2 = v at *
    obtain ⟨d1, d2⟩ := add2_ar u v out.length x1 x2 ho
    obtain ⟨d3, d4, d5, _⟩ := refAdd_ar i hi
    have e2 : (!eqI 2 0) = true := by rw [eqI_neg (by decide)]; rfl
    rw [show (((i + 1 : Nat) : Int) - 1) = (i : Int) + 1 - 1 by simp]
    rw [d4] at d3 ⊢
    simp only [m18F9, m18X9, d3, if_true, t1, t2, Option.bind_some, e2, d1, d2, d5, one_set, List.length_singleton]
    exact this
theorem refAdd_start (a b : Nat) (ha : a ≤ 2000) (hb : b ≤ 2000) : wr .i64 (mx (a : Int) (b : Int) - 1) = ((max a b : Nat) : Int) - 1 := by
  unfold mx
  by_cases h : (a : Int) < (b : Int)
  · rw [if_pos h, w64 (by omega) (by omega)]
    omega
  · rw [if_neg h, w64 (by omega) (by omega)]
    omega
theorem refAdd_eq (k : Nat) (hk : 5001 ≤ k) (a b : List Int) (ha : a.length ≤ 2000) (hb : b.length ≤ 2000) (h1 : ∀ c ∈ a, isBit c) (h2 : ∀ c ∈ b, isBit c) : m18F k a b = some (rowOf (val a ^^^ val b)) := by
  have hlt : val a ^^^ val b < 2 ^ max a.length b.length := Nat.xor_lt_two_pow (Nat.lt_of_lt_of_le (val_lt a h1) (Nat.pow_le_pow_right (by decide) (Nat.le_max_left ..))) (Nat.lt_of_lt_of_le (val_lt b h2) (Nat.pow_le_pow_right (by decide) (Nat.le_max_right ..)))
  have hz : val [] = (val a ^^^ val b) / 2 ^ max a.length b.length := by rw [Nat.div_eq_of_lt hlt]; exact val_nil
  clear hlt
  have := refAdd_loop k hk a b ha hb h1 h2 (max a.length b.length) k [] (by omega) (by rw [List.length_nil]; omega) (fun c hc => by cases hc) hz
  simp only [m18F, m18X, refAdd_start a.length b.length ha hb]
  exact this
/-! The page's products and divisions. -/
theorem xb_mod {x y : Int} (hx : isBit x) (hy : isBit y) : Int.tmod (wr .i64 (x + y)) 2 = xb x y := by
  rcases hx with rfl | rfl <;> rcases hy with rfl | rfl <;> decide +kernel
theorem in_ar (i j lb n : Nat) (hj : j < lb) (hn : i + lb ≤ n) (hl : n ≤ 5000) : ltI (j : Int) (lb : Int) = true ∧ leI 0 (i : Int) = true ∧ wr .i64 ((i : Int) + (j : Int)) = ((i + j : Nat) : Int) ∧ leI 0 ((i + j : Nat) : Int) = true ∧ ltI ((i + j : Nat) : Int) (n : Int) = true ∧ leI 0 (j : Int) = true ∧ wr .i64 ((j : Int) + 1) = ((j + 1 : Nat) : Int) :=
  ⟨ltI_pos (by omega), leI_pos (by omega), by rw [w64 (by omega) (by omega)]; omega, leI_pos (by omega), ltI_pos (by omega), leI_pos (by omega), w64s (by omega)⟩
theorem two_ne : (!eqI 2 0) = true := by rw [eqI_neg (by decide)]; rfl
theorem in_set (pre done rest post : List Int) (x z : Int) : List.set (pre ++ done ++ x :: rest ++ post) (pre.length + done.length) z = pre ++ (done ++ [z]) ++ rest ++ post := by
  have e1 : pre ++ done ++ x :: rest ++ post = (pre ++ done) ++ x :: (rest ++ post) := by simp
  rw [e1, show pre.length + done.length = (pre ++ done).length by simp, List.set_append_right _ _ (Nat.le_refl _), Nat.sub_self]
  simp
theorem in_get (pre done rest post : List Int) (x : Int) : (pre ++ done ++ x :: rest ++ post).getD (pre.length + done.length) 0 = x := by
  have e1 : pre ++ done ++ x :: rest ++ post = (pre ++ done) ++ x :: (rest ++ post) := by simp
  rw [e1, show pre.length + done.length = (pre ++ done).length by simp, List.getD_eq_getElem?_getD, List.getElem?_append_right (Nat.le_refl _), Nat.sub_self]
  rfl
theorem rm_inner (k : Nat) (a b : List Int) (L : Int → List Int → List Int → List Int → Option (List Int)) (i : Nat) (hi : i < a.length) (ha : a.length ≤ 5000) (h1 : a.getD i 0 = 1) (pre post : List Int) (hp : pre.length = i) (hb : ∀ c ∈ b, isBit c) (ht : pre.length + b.length + post.length ≤ 5000) :
    ∀ (rest pr done pd : List Int) (j : Nat), b = pd ++ pr → rest.length = pr.length → done.length = pd.length → pr.length < j → (∀ c ∈ rest, isBit c) →
    m19F19 k L j (i : Int) (done.length : Int) a b (pre ++ done ++ rest ++ post) = m19F14 k L (i : Int) a b (pre ++ done ++ List.zipWith xb rest pr ++ post) := by
  intro rest
  induction rest with
  | nil =>
    intro pr done pd j e h2 h3 hj hr
    obtain ⟨j, rfl⟩ : ∃ n, j = n + 1 := ⟨j - 1, by omega⟩
    obtain rfl : pr = [] := List.eq_nil_of_length_eq_zero h2.symm
    have hlen : b.length = pd.length := by rw [e]; simp
    simp only [m19F19, m19X19]
    rw [if_neg (by rw [ltI_neg (by omega)]; simp)]
    rfl
  | cons x rest ih =>
    intro pr done pd j e h2 h3 hj hr
    obtain ⟨j, rfl⟩ : ∃ n, j = n + 1 := ⟨j - 1, by omega⟩
    cases pr with
    | nil => cases h2
    | cons y pr =>
      have hlen : b.length = pd.length + (pr.length + 1) := by rw [e]; simp
      have hy : b.getD done.length 0 = y := by
        have := gd_at' pd pr y 0 done.length h3.symm
        rw [e]
        exact this
      have hby := hb y (by rw [e]; simp)
      have hbx := hr x (List.mem_cons_self ..)
      simp only [List.length_cons] at h2
      have hn : (pre ++ done ++ x :: rest ++ post).length = i + b.length + post.length := by
        simp only [List.length_append, List.length_cons]
        omega
      have hg := in_get pre done rest post x
      have hs := in_set pre done rest post x (xb x y)
      rw [hp] at hg hs
      have := ih pr (done ++ [xb x y]) (pd ++ [y]) j (by rw [e]; simp) (by omega) (by simp [h3]) (by simp only [List.length_cons] at hj; omega) (fun c hc => hr c (List.mem_cons_of_mem _ hc))
      rw [show (done ++ [xb x y]).length = done.length + 1 by simp] at this
      have d1 : ltI (i : Int) (a.length : Int) = true := ltI_pos (by omega)
      obtain ⟨c1, c2, c3, c4, c5, c6, c7⟩ := in_ar i done.length b.length (i + b.length + post.length) (by omega) (by omega) (by omega)
      simp only [m19F19, m19X19, c1, c2, c3, c4, c5, c6, c7, d1, hn, if_true, Int.toNat_natCast, h1, eqI_pos (show (1 : Int) = 1 from rfl), two_ne, hg, hy, xb_mod hbx hby, hs]
      rw [this]
      simp
theorem rd_inner (k : Nat) (m q : List Int) (L : Int → List Int → List Int → List Int → Option (List Int × List Int)) (i : Nat) (hi : i < q.length) (hq : q.length ≤ 5000) (h1 : q.getD i 0 = 1) (pre post : List Int) (hp : pre.length = i) (hb : ∀ c ∈ m, isBit c) (ht : pre.length + m.length + post.length ≤ 5000) :
    ∀ (rest pr done pd : List Int) (j : Nat), m = pd ++ pr → rest.length = pr.length → done.length = pd.length → pr.length < j → (∀ c ∈ rest, isBit c) →
    m20F17 k L j (i : Int) (done.length : Int) m (pre ++ done ++ rest ++ post) q = m20F10 k L (i : Int) m (pre ++ done ++ List.zipWith xb rest pr ++ post) q := by
  intro rest
  induction rest with
  | nil =>
    intro pr done pd j e h2 h3 hj hr
    obtain ⟨j, rfl⟩ : ∃ n, j = n + 1 := ⟨j - 1, by omega⟩
    obtain rfl : pr = [] := List.eq_nil_of_length_eq_zero h2.symm
    have hlen : m.length = pd.length := by rw [e]; simp
    simp only [m20F17, m20X17]
    rw [if_neg (by rw [ltI_neg (by omega)]; simp)]
    rfl
  | cons x rest ih =>
    intro pr done pd j e h2 h3 hj hr
    obtain ⟨j, rfl⟩ : ∃ n, j = n + 1 := ⟨j - 1, by omega⟩
    cases pr with
    | nil => cases h2
    | cons y pr =>
      have hlen : m.length = pd.length + (pr.length + 1) := by rw [e]; simp
      have hy : m.getD done.length 0 = y := by
        have := gd_at' pd pr y 0 done.length h3.symm
        rw [e]
        exact this
      have hby := hb y (by rw [e]; simp)
      have hbx := hr x (List.mem_cons_self ..)
      simp only [List.length_cons] at h2
      have hn : (pre ++ done ++ x :: rest ++ post).length = i + m.length + post.length := by
        simp only [List.length_append, List.length_cons]
        omega
      have hg := in_get pre done rest post x
      have hs := in_set pre done rest post x (xb x y)
      rw [hp] at hg hs
      have := ih pr (done ++ [xb x y]) (pd ++ [y]) j (by rw [e]; simp) (by omega) (by simp [h3]) (by simp only [List.length_cons] at hj; omega) (fun c hc => hr c (List.mem_cons_of_mem _ hc))
      rw [show (done ++ [xb x y]).length = done.length + 1 by simp] at this
      have d1 : ltI (i : Int) (q.length : Int) = true := ltI_pos (by omega)
      obtain ⟨c1, c2, c3, c4, c5, c6, c7⟩ := in_ar i done.length m.length (i + m.length + post.length) (by omega) (by omega) (by omega)
      simp only [m20F17, m20X17, c1, c2, c3, c4, c5, c6, c7, d1, hn, if_true, Int.toNat_natCast, h1, eqI_pos (show (1 : Int) = 1 from rfl), two_ne, hg, hy, xb_mod hbx hby, hs]
      rw [this]
      simp
theorem rm_ar (i la : Nat) (h : i < la) (hl : la ≤ 5000) : ltI (i : Int) (la : Int) = true ∧ leI 0 (i : Int) = true ∧ wr .i64 ((i : Int) + 1) = ((i + 1 : Nat) : Int) := ⟨ltI_pos (by omega), leI_pos (by omega), w64s (by omega)⟩
theorem rm_loop (k : Nat) (hk : 5001 ≤ k) (a b : List Int) (hl : a.length + b.length ≤ 5000) (hb0 : 0 < b.length) (ha : ∀ c ∈ a, isBit c) (hb : ∀ c ∈ b, isBit c) : ∀ (rest pre out : List Int) (j : Nat), a = pre ++ rest → rest.length < j → out.length = a.length + b.length - 1 → (∀ c ∈ out, isBit c) → val out = (cm (val pre) (val b)) <<< rest.length →
    ∃ out', m19F13 k j (pre.length : Int) a b out = some out' ∧ out'.length = a.length + b.length - 1 ∧ (∀ c ∈ out', isBit c) ∧ val out' = cm (val a) (val b) := by
  intro rest
  induction rest with
  | nil =>
    intro pre out j e hj ho hbo hv
    obtain ⟨j, rfl⟩ : ∃ n, j = n + 1 := ⟨j - 1, by omega⟩
    rw [List.append_nil] at e
    subst e
    refine ⟨out, ?_, ho, hbo, hv⟩
    simp only [m19F13, m19X13]
    rw [if_neg (by rw [ltI_neg (by omega)]; simp)]
  | cons x rest ih =>
    intro pre out j e hj ho hbo hv
    obtain ⟨j, rfl⟩ : ∃ n, j = n + 1 := ⟨j - 1, by omega⟩
    have hlen : a.length = pre.length + (rest.length + 1) := by rw [e]; simp
    have hx : a.getD pre.length 0 = x := by
      have := gd_at pre rest x 0
      rw [e]
      exact this
    have hbx := ha x (by rw [e]; simp)
    obtain ⟨c1, c2, c3⟩ := rm_ar pre.length a.length (by omega) (by omega)
    have hsn := cm_snoc pre x hbx (val b)
    have hnext : ∀ out' : List Int, out'.length = a.length + b.length - 1 → (∀ c ∈ out', isBit c) → val out' = (cm (val (pre ++ [x])) (val b)) <<< rest.length → ∃ out'', m19F13 k j ((pre.length + 1 : Nat) : Int) a b out' = some out'' ∧ out''.length = a.length + b.length - 1 ∧ (∀ c ∈ out'', isBit c) ∧ val out'' = cm (val a) (val b) := by
      intro out' h1 h2 h3
      have := ih (pre ++ [x]) out' j (by rw [e]; simp) (by simp only [List.length_cons] at hj; omega) h1 h2 h3
      rw [show (pre ++ [x]).length = pre.length + 1 by simp] at this
      exact this
    rw [List.length_cons, Nat.add_comm, Nat.shiftLeft_add] at hv
    obtain ⟨kk, hkk⟩ : ∃ n, k = n + 1 := ⟨k - 1, by omega⟩
    rcases hbx with rfl | rfl
    · have hin : ∀ L : Int → List Int → List Int → List Int → Option (List Int), m19F19 k L k (pre.length : Int) 0 a b out = m19F14 k L (pre.length : Int) a b out := by
        intro L
        have d0 : ltI 0 (b.length : Int) = true := ltI_pos (by omega)
        have key : ∀ n, m19F19 k L (n + 1) (pre.length : Int) 0 a b out = m19F14 k L (pre.length : Int) a b out := fun n => by
          simp only [m19F19, m19X19, d0, c1, c2, if_true, Int.toNat_natCast, hx]
          rw [if_neg (by rw [eqI_neg (by decide)]; simp)]
        have := key kk
        rw [← hkk] at this
        exact this
      obtain ⟨o2, h1, h2⟩ := hnext out ho hbo (by rw [hv, hsn, if_neg (by decide), Nat.xor_zero])
      refine ⟨o2, ?_, h2⟩
      simp only [m19F13, m19X13, c1, if_true, hin, m19F14, m19X14, c3]
      exact h1
    · have e1 := three out pre.length b.length
      have hp : (out.take pre.length).length = pre.length := by rw [List.length_take]; omega
      have hm : ((out.drop pre.length).take b.length).length = b.length := by rw [List.length_take, List.length_drop]; omega
      have hq : (out.drop (pre.length + b.length)).length = rest.length := by rw [List.length_drop]; omega
      have b1 : ∀ c ∈ out.take pre.length, isBit c := fun c hc => hbo c (List.mem_of_mem_take hc)
      have b2 : ∀ c ∈ (out.drop pre.length).take b.length, isBit c := fun c hc => hbo c (List.mem_of_mem_drop (List.mem_of_mem_take hc))
      have b3 : ∀ c ∈ out.drop (pre.length + b.length), isBit c := fun c hc => hbo c (List.mem_of_mem_drop hc)
      have hin := fun L => rm_inner k a b L pre.length (by omega) (by omega) hx (out.take pre.length) (out.drop (pre.length + b.length)) hp hb (by rw [hp, hq]; omega) ((out.drop pre.length).take b.length) b [] [] k rfl hm rfl (by omega) b2
      simp only [List.append_nil, ← e1] at hin
      have hv2 := val_add (out.take pre.length) ((out.drop pre.length).take b.length) (out.drop (pre.length + b.length)) b b2 b3 hb hm
      rw [← e1, hq, hv] at hv2
      have hlen2 : (out.take pre.length ++ List.zipWith xb ((out.drop pre.length).take b.length) b ++ out.drop (pre.length + b.length)).length = a.length + b.length - 1 := by
        rw [List.length_append, List.length_append, List.length_zipWith, hm, hp, hq, Nat.min_self]
        omega
      obtain ⟨o2, h1, h2⟩ := hnext _ hlen2 (bits_app (bits_app b1 (zip_bit _ _)) b3) (by rw [hv2, hsn, if_pos rfl, Nat.shiftLeft_xor_distrib])
      refine ⟨o2, ?_, h2⟩
      have hin' : ∀ L : Int → List Int → List Int → List Int → Option (List Int), m19F19 k L k (pre.length : Int) 0 a b out = m19F14 k L (pre.length : Int) a b (out.take pre.length ++ List.zipWith xb ((out.drop pre.length).take b.length) b ++ out.drop (pre.length + b.length)) := fun L => hin L
      simp only [m19F13, m19X13, c1, if_true, hin', m19F14, m19X14, c3]
      exact h1
theorem rmul_ar (x y : Nat) (h0 : 0 < x) (h : x + y ≤ 4000) : wr .i64 (wr .i64 ((x : Int) + (y : Int)) - 1) = ((x + y - 1 : Nat) : Int) ∧ leI 0 ((x + y - 1 : Nat) : Int) = true ∧ leI ((x + y - 1 : Nat) : Int) ((x + y - 1 : Nat) : Int) = true ∧ leI (((x + y - 1 : Nat) : Int) * 8) 140737488355328 = true ∧ leI ((x + y - 1 : Nat) : Int) 9223372036854775807 = true := by
  have e0 : wr .i64 ((x : Int) + (y : Int)) = ((x + y : Nat) : Int) := by rw [w64 (by omega) (by omega)]; omega
  rw [e0]
  exact ⟨by rw [w64 (by omega) (by omega)]; omega, leI_pos (by omega), leI_pos (by omega), leI_pos (by omega), leI_pos (by omega)⟩
theorem refMul_eq (k : Nat) (hk : 5001 ≤ k) (a b : List Int) (ha : a.length ≤ 2000) (hb : b.length ≤ 2000) (h1 : ∀ c ∈ a, isBit c) (h2 : ∀ c ∈ b, isBit c) : m19F k a b = some (rowOf (cm (val a) (val b))) := by
  have t1 := refTrim_eq k hk a (by omega)
  have t2 := refTrim_eq k hk b (by omega)
  rw [trim_row h1] at t1
  rw [trim_row h2] at t2
  have l1 := trimL_len a
  have l2 := trimL_len b
  rw [trim_row h1] at l1
  rw [trim_row h2] at l2
  by_cases ha0 : val a = 0
  · rw [ha0, rowOf_zero] at t1
    rw [ha0, cm_zero_left, rowOf_zero]
    have c0 : eqI (([] : List Int).length : Int) 0 = true := eqI_pos rfl
    simp only [m19F, m19X, t1, t2, Option.bind_some, c0, if_true]
  · obtain ⟨p1, p2, p3⟩ := rowOf_len_iff ha0
    have c1 : eqI ((rowOf (val a)).length : Int) 0 = false := eqI_neg (by clear p2 p3; omega)
    by_cases hb0 : val b = 0
    · rw [hb0, rowOf_zero] at t2
      rw [hb0, cm_comm, cm_zero_left, rowOf_zero]
      have c0 : eqI (([] : List Int).length : Int) 0 = true := eqI_pos rfl
      simp only [m19F, m19X, t1, t2, Option.bind_some, c0, c1, Bool.false_eq_true, if_false, if_true]
    · obtain ⟨q1, q2, q3⟩ := rowOf_len_iff hb0
      have hge : 2 ^ ((rowOf (val a)).length - 1 + ((rowOf (val b)).length - 1)) ≤ cm (val a) (val b) := cm_ge p2 (by rw [show (rowOf (val a)).length - 1 + 1 = (rowOf (val a)).length by omega]; exact p3) q2 (by rw [show (rowOf (val b)).length - 1 + 1 = (rowOf (val b)).length by omega]; exact q3)
      have v1 := rowOf_val (val a)
      have v2 := rowOf_val (val b)
      have r1 := rowOf_bit (val a)
      have r2 := rowOf_bit (val b)
      clear p2 p3 q2 q3
      generalize rowOf (val a) = x at *
      generalize rowOf (val b) = y at *
      obtain ⟨out, e1, e2, e3, e4⟩ := rm_loop k hk x y (by omega) q1 r1 r2 x [] (List.replicate (x.length + y.length - 1) 0) k rfl (by omega) (List.length_replicate ..) (zeros_bit _) (by rw [val_zeros, val_nil, cm_zero_left, Nat.zero_shiftLeft])
      have eo : out = rowOf (cm (val a) (val b)) := by
        have := rowOf_top e3 (by omega) (by rw [e4, v1, v2, e2, show x.length + y.length - 1 - 1 = x.length - 1 + (y.length - 1) by omega]; exact hge)
        rw [e4, v1, v2] at this
        exact this
      have c2 : eqI (y.length : Int) 0 = false := eqI_neg (by omega)
      obtain ⟨a1, a2, a3, a4, a5⟩ := rmul_ar x.length y.length p1 (by omega)
      have e8 : (((8 : Nat) : Int)) = 8 := rfl
      simp only [m19F, m19X, t1, t2, Option.bind_some, c1, c2, Bool.false_eq_true, if_false, a1, a2, a3, e8, a4, a5, if_true, Int.toNat_natCast]
      rw [← eo]
      exact e1
theorem rd_loop (k : Nat) (hk : 5001 ≤ k) (m' : List Int) (hm : ∀ c ∈ m', isBit c) (la A : Nat) (hla : la ≤ 2000) (hlm : m'.length ≤ 2000) : ∀ (n j i : Nat) (Q S : List Int), S.length < m'.length + 1 + n → n < j → i + S.length = la → Q.length = i → (∀ c ∈ Q, isBit c) → (∀ c ∈ S, isBit c) →
    A = (cm (val Q) (val (1 :: m'))) <<< (S.length - m'.length) ^^^ val S → ∃ q r, m20F9 k j (i : Int) (1 :: m') (List.replicate i 0 ++ S) Q = some (rowOf q, rowOf r) ∧ A = cm q (val (1 :: m')) ^^^ r ∧ r < 2 ^ m'.length ∧ q < 2 ^ la := by
  have base : ∀ (j i : Nat) (Q S : List Int), S.length < m'.length + 1 → i + S.length = la → Q.length = i → (∀ c ∈ Q, isBit c) → (∀ c ∈ S, isBit c) →
      A = (cm (val Q) (val (1 :: m'))) <<< (S.length - m'.length) ^^^ val S → ∃ q r, m20F9 k (j + 1) (i : Int) (1 :: m') (List.replicate i 0 ++ S) Q = some (rowOf q, rowOf r) ∧ A = cm q (val (1 :: m')) ^^^ r ∧ r < 2 ^ m'.length ∧ q < 2 ^ la := by
    intro j i Q S hs hi hq bq bs hA
    have hR : (List.replicate i (0 : Int) ++ S).length = la := by rw [List.length_append, List.length_replicate]; exact hi
    have c1 := div_ar2 i (1 :: m').length la (by omega) (by rw [List.length_cons]; omega) (by omega) (by rw [List.length_cons]; omega)
    refine ⟨val Q, val S, ?_, ?_, ?_, ?_⟩
    · simp only [m20F9, m20X9, hR, c1, Bool.false_eq_true, if_false, m20F22, m20X22]
      rw [refTrim_eq k hk Q (by omega), refTrim_eq k hk _ (show (List.replicate i (0 : Int) ++ S).length ≤ 5000 by omega), trim_row bq, trimL_zeros, trim_row bs]
      rfl
    · rw [hA, show S.length - m'.length = 0 by omega]
      rfl
    · exact Nat.lt_of_lt_of_le (val_lt S bs) (Nat.pow_le_pow_right (by decide) (by omega))
    · exact Nat.lt_of_lt_of_le (val_lt Q bq) (Nat.pow_le_pow_right (by decide) (by omega))
  intro n
  induction n with
  | zero =>
    intro j i Q S hs hj hi hq bq bs hA
    obtain ⟨j, rfl⟩ : ∃ n, j = n + 1 := ⟨j - 1, by omega⟩
    exact base j i Q S (by omega) hi hq bq bs hA
  | succ n ih =>
    intro j i Q S hs hj hi hq bq bs hA
    obtain ⟨j, rfl⟩ : ∃ n, j = n + 1 := ⟨j - 1, by omega⟩
    by_cases hend : S.length < m'.length + 1
    · exact base j i Q S hend hi hq bq bs hA
    · cases S with
      | nil => exact absurd (Nat.succ_pos _) hend
      | cons x S =>
        rw [List.length_cons] at hs hi hend
        have hlt : (S.take m'.length).length = m'.length := by rw [List.length_take]; omega
        have hx := bs x (List.mem_cons_self ..)
        have bS : ∀ c ∈ S, isBit c := fun c hc => bs c (List.mem_cons_of_mem _ hc)
        rw [List.length_cons] at hA
        obtain ⟨s1, s2, s3, s4⟩ := div_step Q S m' x hx bS hm (by omega) A hA
        have hS0 : x ≠ 1 → (if x = 1 then List.zipWith xb (S.take m'.length) m' ++ S.drop m'.length else S) = S := fun h => if_neg h
        generalize (if x = 1 then List.zipWith xb (S.take m'.length) m' ++ S.drop m'.length else S) = S' at s1 s2 s3 s4 hS0
        have bQ : ∀ c ∈ Q ++ [x], isBit c := bits_app bq fun c hc => by rw [List.mem_singleton.1 hc]; exact hx
        obtain ⟨q, r, h1, h2, h3, h4⟩ := ih j (i + 1) (Q ++ [x]) S' (by omega) (by omega) (by omega) (by simp [hq]) bQ s2 (by rw [s1]; exact s3)
        refine ⟨q, r, ?_, h2, h3, h4⟩
        have hR : (List.replicate i (0 : Int) ++ x :: S).length = la := by rw [List.length_append, List.length_replicate, List.length_cons]; omega
        have hg := zeros_app_get i x S
        have hlm' : (1 :: m').length = m'.length + 1 := rfl
        have hqx : (Q ++ [x]).getD i 0 = x := by
          have := gd_at' Q [] x 0 i hq
          exact this
        have hql : i < (Q ++ [x]).length := by rw [List.length_append, List.length_singleton]; omega
        have hql2 : (Q ++ [x]).length ≤ 5000 := by rw [List.length_append, List.length_singleton]; omega
        have hdl : (List.replicate i (0 : Int)).length + (1 :: m').length + (S.drop m'.length).length ≤ 5000 := by rw [List.length_replicate, List.length_cons, List.length_drop]; omega
        have hmk : (1 :: m').length < k := by rw [List.length_cons]; omega
        have d0 : ltI 0 ((1 :: m').length : Int) = true := ltI_pos (by rw [List.length_cons]; omega)
        have d1 : ltI (i : Int) ((Q ++ [x]).length : Int) = true := ltI_pos (by omega)
        obtain ⟨kk, hkk⟩ : ∃ n, k = n + 1 := ⟨k - 1, by omega⟩
        obtain ⟨c1, c2, c3, c4, c5, c6, c7⟩ := div_ar i (m'.length + 1) la (by omega) (by omega) (by omega) (by omega)
        rcases hx with rfl | rfl
        · rw [hS0 (by decide), ← zeros_succ] at h1
          have hin : ∀ L : Int → List Int → List Int → List Int → Option (List Int × List Int), m20F17 k L k (i : Int) 0 (1 :: m') (List.replicate i 0 ++ 0 :: S) (Q ++ [0]) = m20F10 k L (i : Int) (1 :: m') (List.replicate i 0 ++ 0 :: S) (Q ++ [0]) := by
            intro L
            have key : ∀ n, m20F17 k L (n + 1) (i : Int) 0 (1 :: m') (List.replicate i 0 ++ 0 :: S) (Q ++ [0]) = m20F10 k L (i : Int) (1 :: m') (List.replicate i 0 ++ 0 :: S) (Q ++ [0]) := fun n => by
              simp only [m20F17, m20X17, d0, d1, c3, if_true, Int.toNat_natCast, hqx]
              rw [if_neg (by rw [eqI_neg (by decide)]; simp)]
            have := key kk
            rw [← hkk] at this
            exact this
          simp only [m20F9, m20X9, hR, hlm', c1, c2, c3, c4, if_true, Int.toNat_natCast, hg, one_set, List.length_singleton, hq, c5, hin, m20F10, m20X10, c7]
          exact h1
        · have hin := fun L => rd_inner k (1 :: m') (Q ++ [1]) L i hql hql2 hqx (List.replicate i 0) (S.drop m'.length) (List.length_replicate ..) (fun c hc => by
            rcases List.mem_cons.1 hc with rfl | hc
            · exact .inr rfl
            · exact hm c hc) hdl (1 :: S.take m'.length) (1 :: m') [] [] k rfl (congrArg (· + 1) hlt) rfl hmk (fun c hc => by
            rcases List.mem_cons.1 hc with rfl | hc
            · exact .inr rfl
            · exact bS c (List.mem_of_mem_take hc))
          simp only [List.append_nil, List.length_nil] at hin
          have e1 : List.replicate i (0 : Int) ++ 1 :: S.take m'.length ++ S.drop m'.length = List.replicate i 0 ++ 1 :: S := by simp
          simp only [s4 rfl, zeros_succ, e1] at hin
          have hin' : ∀ L : Int → List Int → List Int → List Int → Option (List Int × List Int), m20F17 k L k (i : Int) 0 (1 :: m') (List.replicate i 0 ++ 1 :: S) (Q ++ [1]) = m20F10 k L (i : Int) (1 :: m') (List.replicate (i + 1) 0 ++ S') (Q ++ [1]) := fun L => hin L
          simp only [m20F9, m20X9, hR, hlm', c1, c2, c3, c4, if_true, Int.toNat_natCast, hg, one_set, List.length_singleton, hq, c5, hin', m20F10, m20X10, c7]
          exact h1
/-- The page's division is the program's. -/
theorem refDiv_eq (k : Nat) (hk : 5001 ≤ k) (a b : List Int) (ha : a.length ≤ 1500) (hb : b.length ≤ 1500) (h1 : ∀ c ∈ a, isBit c) (h2 : ∀ c ∈ b, isBit c) (hb0 : val b ≠ 0) :
    ∃ q r, m20F k a b = some (rowOf q, rowOf r) ∧ m17F k a b = some (rowOf q, rowOf r, 0) ∧ q < 2 ^ a.length ∧ r < 2 ^ ((rowOf (val b)).length - 1) := by
  have l2 := trimL_len b
  have b2 := trimL_bit h2
  have t2 := refTrim_eq k hk b (by omega)
  rw [trim_row h2] at t2 b2 l2
  obtain ⟨m', hm⟩ := rowOf_cons hb0
  have hv := rowOf_val (val b)
  rw [hm] at t2 b2 l2 hv
  rw [List.length_cons] at l2
  have bm : ∀ c ∈ m', isBit c := fun c hc => b2 c (List.mem_cons_of_mem _ hc)
  have A0 : val a = (cm (val []) (val (1 :: m'))) <<< (a.length - m'.length) ^^^ val a := by rw [val_nil, cm_zero_left, Nat.zero_shiftLeft, Nat.zero_xor]
  obtain ⟨q, r, e1, e2, e3, e4⟩ := rd_loop k hk m' bm a.length (val a) (by omega) (by omega) a.length k 0 [] a (by omega) (by omega) (by omega) rfl (fun c hc => by cases hc) h1 A0
  rw [hv] at e2
  have hr : r < 2 ^ ((rowOf (val b)).length - 1) := by rw [hm, List.length_cons]; exact e3
  refine ⟨q, r, ?_, gfDiv_is k hk a b ha hb h1 h2 hb0 q r e2 hr, e4, hr⟩
  simp only [m20F, m20X, twinInts02 k a (by omega), t2, Option.bind_some]
  exact e1

end Go.Proofs.Ytahglkaihhjimaa.Mini
