/- What shared functions tell: plain laws. -/
import Derived.Test.YthfdejbckheagaaMF
import Derived.Test.YthfdejbckheagaaCrc
import Derived.Test.YthfdejbckheagaaBe
import Derived.Test.YthfdejbckheagaaPop
import Derived.Laws.Closers25b
set_option linter.unusedSimpArgs false
set_option linter.unusedVariables false
namespace Go.Proofs.Ythfdejbckheagaa.Mini
open Go Go.RowKit Go.Proofs
theorem w64 {n : Int} (h0 : -9223372036854775808 ≤ n) (h1 : n < 9223372036854775808) : wr .i64 n = n := by
  show wrap64 n = n
  unfold wrap64
  omega
theorem w64n {n : Nat} (h1 : n < 9223372036854775808) : wr .i64 (n : Int) = (n : Int) := w64 (by omega) (by omega)
theorem w64s {n : Nat} (h1 : n < 9223372036854775807) : wr .i64 ((n : Int) + 1) = ((n + 1 : Nat) : Int) := w64 (by omega) (by omega)
theorem wu64 {n : Int} (h0 : 0 ≤ n) (h1 : n < 18446744073709551616) : wr .u64 n = n := by
  show n % 18446744073709551616 = n
  omega
theorem wu8 (n : Int) : wr .u8 n = n % 256 := (congrArg (fun x : Int => x % 256) (Eq.refl n) : n % 256 = n % 256)
theorem wu32 (n : Int) : wr .u32 n = n % 4294967296 := (congrArg (fun x : Int => x % 4294967296) (Eq.refl n) : n % 4294967296 = n % 4294967296)
theorem gd_at {α : Type} (pre rest : List α) (x d : α) : (pre ++ x :: rest).getD (Int.toNat (pre.length : Int)) d = x := by
  rw [Int.toNat_natCast, List.getD_eq_getElem?_getD, List.getElem?_append_right (Nat.le_refl _), Nat.sub_self]
  rfl
theorem gd_at' {α : Type} (pre rest : List α) (x d : α) (n : Nat) (h : pre.length = n) : (pre ++ x :: rest).getD (Int.toNat (n : Int)) d = x := by
  subst h
  exact gd_at pre rest x d
theorem getD_nat {α : Type} (l : List α) (n : Nat) (d : α) : l.getD (Int.toNat (n : Int)) d = l.getD n d := rfl
theorem nilK_same {R : Type} {e : Bool} {a : Option R} : nilK e a a = a := by
  unfold nilK both
  cases e <;> simp
theorem nilK_of {R : Type} {e : Bool} {a b : Option R} (h : e = true → a = b) : nilK e a b = b := by
  unfold nilK both
  cases e
  · rfl
  · simp [h rfl]
theorem one_set (x d : Int) : List.set (List.replicate 1 d) 0 x = [x] := (congrArg (fun y : Int => [y]) (Eq.refl x) : [x] = [x])
theorem bytes_wf {l : List Int} (h : WfK (.row (.int .u8)) l) : ∀ c ∈ l, Crc.isByte c := fun c hc => Bv.wf_u8 (h.2 c hc)
theorem leI_pos {a b : Int} (h : a ≤ b) : leI a b = true := (leI_iff a b).2 h
theorem leI_neg {a b : Int} (h : ¬ a ≤ b) : leI a b = false := by
  rw [leI_eq]
  simpa using h
theorem ltI_pos {a b : Int} (h : a < b) : ltI a b = true := (ltI_iff a b).2 h
theorem ltI_neg {a b : Int} (h : ¬ a < b) : ltI a b = false := by
  rw [ltI_eq]
  simpa using h
theorem eqI_pos {a b : Int} (h : a = b) : eqI a b = true := (eqI_iff a b).2 h
theorem eqI_neg {a b : Int} (h : ¬ a = b) : eqI a b = false := by
  rw [eqI_eq]
  simpa using h
theorem umod0 (x : Int) (m : Nat) (hm : 0 < m) : ∃ a : Nat, a < m ∧ Int.tmod (wr .u64 x) (m : Int) = (a : Int) := by
  have h0 : 0 ≤ wr .u64 x := Int.emod_nonneg _ (by decide)
  have h1 : Int.tmod (wr .u64 x) (m : Int) = wr .u64 x % (m : Int) := Int.tmod_eq_emod_of_nonneg h0
  have h2 := Int.emod_nonneg (wr .u64 x) (show (m : Int) ≠ 0 by omega)
  have h3 := Int.emod_lt_of_pos (wr .u64 x) (show (0 : Int) < m by omega)
  refine ⟨(wr .u64 x % (m : Int)).toNat, ?_, ?_⟩
  · generalize wr .u64 x % (m : Int) = z at h2 h3
    omega
  · rw [h1]
    generalize wr .u64 x % (m : Int) = z at h2 h3
    omega
/-! Configurations. -/
theorem and_step {A B : Prop} [Decidable A] [Decidable B] {x : Option Bool} (h : A → x = some (decide B)) : (if decide A = true then x else some false) = some (decide (A ∧ B)) := by
  by_cases hA : A
  · rw [if_pos (decide_eq_true hA), h hA]
    simp [hA]
  · rw [if_neg (by simp [hA])]
    simp [hA]
theorem and_zero {A : Prop} [Decidable A] {x : Option Int} (h : A) (hx : x = some 0) : (if decide A = true then x else some 1) = some 0 := by rw [if_pos (decide_eq_true h), hx]
def within (n a b : Int) : Prop := a ≤ n ∧ n ≤ b
instance (n a b : Int) : Decidable (within n a b) := inferInstanceAs (Decidable (_ ∧ _))
theorem in13_eq (k : Nat) (n a b : Int) : m35F k n a b = some (decide (within n a b)) := by
  simp only [m35F, m35X, leI_eq, within]
  by_cases h : a ≤ n <;> simp [h]
theorem inc_eq (k : Nat) (n a b : Int) : m36F k n a b = some (decide (within n a b)) := by
  simp only [m36F, m36X, leI_eq, within]
  by_cases h : a ≤ n <;> simp [h]
def cfgOk (a b c d e f g h i j : Int) : Prop := within a 1 16 ∧ within b 1 16 ∧ within c 1 3 ∧ within d 1 16 ∧ within e 1 16 ∧ within f 1 16 ∧ within g 1 64 ∧ within h 4 16 ∧ within i 0 200 ∧ within j 0 1073741824
instance (a b c d e f g h i j : Int) : Decidable (cfgOk a b c d e f g h i j) := inferInstanceAs (Decidable (_ ∧ _))
theorem config_eq (k : Nat) (a b c d e f g h i j : Int) : m11F k (a, b, c, d, e, f, g, h, i, j) = some (decide (cfgOk a b c d e f g h i j)) := by
  simp only [m11F, m11X, in13_eq, Option.bind_some]
  exact and_step fun _ => and_step fun _ => and_step fun _ => and_step fun _ => and_step fun _ => and_step fun _ => and_step fun _ => and_step fun _ => and_step fun _ => rfl
theorem check_ok (k : Nat) (a b c d e f g h i j : Int) (ok : cfgOk a b c d e f g h i j) : m12F k (a, b, c, d, e, f, g, h, i, j) = some 0 := by
  obtain ⟨o1, o2, o3, o4, o5, o6, o7, o8, o9, oa⟩ := ok
  simp only [m12F, m12X, inc_eq, Option.bind_some]
  exact and_zero o1 (and_zero o2 (and_zero o3 (and_zero o4 (and_zero o5 (and_zero o6 (and_zero o7 (and_zero o8 (and_zero o9 (and_zero oa rfl)))))))))
/-- So many blocks has a text. -/
def nBlk (B len : Nat) : Nat := if len = 0 then 1 else (len + B - 1) / B
theorem nBlk_pos (B len : Nat) (hB : 1 ≤ B) : 1 ≤ nBlk B len := by
  unfold nBlk
  split
  · exact Nat.le_refl 1
  · exact (Nat.le_div_iff_mul_le hB).2 (by omega)
theorem nBlk_le (B len : Nat) (hB : 1 ≤ B) : nBlk B len ≤ len + 1 := by
  unfold nBlk
  split
  · omega
  · have : (len + B - 1) / B ≤ len := by
      rw [Nat.div_le_iff_le_mul hB]
      have := Nat.le_mul_of_pos_right len hB
      omega
    omega
/-- A block that is one begins within the text. -/
theorem nBlk_lt (B len i : Nat) (hB : 1 ≤ B) (hi : i < nBlk B len) : i * B ≤ len ∧ (0 < len → i * B < len) := by
  unfold nBlk at hi
  split at hi
  · have : i = 0 := by omega
    subst this
    omega
  · have h1 : i + 1 ≤ (len + B - 1) / B := hi
    rw [Nat.le_div_iff_mul_le hB, Nat.add_mul, Nat.one_mul] at h1
    omega
theorem nBlk_end (B len : Nat) (hB : 1 ≤ B) : len ≤ nBlk B len * B := by
  unfold nBlk
  split
  · omega
  · have h1 : (len + B - 1) / B + 1 > (len + B - 1) / B := Nat.lt_succ_self _
    have h2 := Nat.lt_mul_div_succ (len + B - 1) hB
    rw [Nat.mul_add, Nat.mul_one, Nat.mul_comm] at h2
    omega
theorem up_eq (k : Nat) (B len : Nat) (hB : 1 ≤ B) (hB2 : B ≤ 16) (hl : len ≤ 200) (hl0 : len ≠ 0) : m38F k (len : Int) (B : Int) = some (nBlk B len : Int) := by
  have ar : (!eqI (B : Int) 0) = true ∧ wr .i64 ((len : Int) + (B : Int)) = ((len + B : Nat) : Int) ∧ wr .i64 (((len + B : Nat) : Int) - 1) = ((len + B - 1 : Nat) : Int) :=
    ⟨by rw [eqI_neg (by omega)]; rfl, by rw [w64 (by omega) (by omega)]; omega, by rw [w64 (by omega) (by omega)]; omega⟩
  obtain ⟨a1, a2, a3⟩ := ar
  have e : Int.tdiv ((len + B - 1 : Nat) : Int) (B : Int) = (((len + B - 1) / B : Nat) : Int) := by
    rw [Int.tdiv_eq_ediv_of_nonneg (Int.natCast_nonneg _)]
    exact (Int.natCast_ediv _ _).symm
  have hd : (len + B - 1) / B ≤ len + B - 1 := Nat.div_le_self _ _
  have w : wr .i64 (((len + B - 1) / B : Nat) : Int) = (((len + B - 1) / B : Nat) : Int) := by
    clear a2 a3 e
    generalize (len + B - 1) / B = z at hd
    exact w64n (by omega)
  simp only [m38F, m38X, a1, if_true, a2, a3, e, w]
  unfold nBlk
  rw [if_neg hl0]
theorem blocks_eq (k : Nat) (B : Nat) (b c d e f g h i j : Int) (ok : cfgOk (B : Int) b c d e f g h i j) (len : Nat) (hl : len ≤ 200) : m19F k ((B : Int), b, c, d, e, f, g, h, i, j) (len : Int) = some (nBlk B len : Int) := by
  have hB := ok.1
  unfold within at hB
  have z0 : (!eqI 0 0) = false := by rw [eqI_pos rfl]; rfl
  have c0 : ltI (len : Int) 0 = false := ltI_neg (by omega)
  have c1 : ltI 200 (len : Int) = false := ltI_neg (by omega)
  simp only [m19F, m19X, check_ok k _ _ _ _ _ _ _ _ _ _ ok, Option.bind_some, z0, c0, c1, Bool.false_eq_true, if_false]
  by_cases h0 : len = 0
  · subst h0
    rw [if_pos (show eqI ((0 : Nat) : Int) 0 = true from eqI_pos rfl)]
    rfl
  · rw [if_neg (show ¬ (eqI (len : Int) 0 = true) by rw [eqI_neg (by omega)]; simp), up_eq k B len (by omega) (by omega) hl h0]
    rfl
theorem clone_eq (k : Nat) (l : List Int) (h : l.length ≤ 5000) : m40F k l = some l := by
  simp only [m40F, m40X, leI_eq, decide_eq_true_eq]
  rw [nilK_of, if_pos (by omega)]
  · rfl
  · intro he
    rw [if_pos (by omega)]
    rw [List.isEmpty_iff.1 he]
    rfl
theorem bytes_loop (k : Nat) (a b : List Int) (hl : a.length ≤ 5000) (he : a.length = b.length) : ∀ (ra rb pa pb : List Int) (j : Nat), a = pa ++ ra → b = pb ++ rb → pa.length = pb.length → ra.length < j →
    m28F9 k j a b (pa.length : Int) = some (decide (ra = rb)) := by
  intro ra
  induction ra with
  | nil =>
    intro rb pa pb j ha hb hp hj
    obtain ⟨j, rfl⟩ : ∃ i, j = i + 1 := ⟨j - 1, by simp only [List.length_nil] at hj; omega⟩
    have h1 : a.length = pa.length := by rw [ha]; simp
    have h2 : b.length = pb.length + rb.length := by rw [hb]; simp
    obtain rfl : rb = [] := List.eq_nil_of_length_eq_zero (by omega)
    rw [m28F9, m28X9]
    simp only [leI_eq, ltI_eq, eqI_eq, decide_eq_true_eq, if_neg (show ¬ (pa.length : Int) < (a.length : Int) by omega), decide_true]
  | cons x ra ih =>
    intro rb pa pb j ha hb hp hj
    obtain ⟨j, rfl⟩ : ∃ i, j = i + 1 := ⟨j - 1, by omega⟩
    have h1 : a.length = pa.length + (ra.length + 1) := by rw [ha]; simp
    have h2 : b.length = pb.length + rb.length := by rw [hb]; simp
    cases rb with
    | nil => simp only [List.length_nil] at h2; omega
    | cons y rb =>
      simp only [List.length_cons] at h2 hj
      have e1 : a.getD (Int.toNat (pa.length : Int)) 0 = x := by rw [ha]; exact gd_at pa ra x 0
      have e2 : b.getD (Int.toNat (pa.length : Int)) 0 = y := by rw [hb]; exact gd_at' pb rb y 0 pa.length hp.symm
      have c1 : (pa.length : Int) < (a.length : Int) := by omega
      have c2 : (0 : Int) ≤ (pa.length : Int) := by omega
      have c3 : (pa.length : Int) < (b.length : Int) := by omega
      rw [m28F9, m28X9]
      simp only [leI_eq, ltI_eq, eqI_eq, decide_eq_true_eq, if_pos c1, if_pos c2, if_pos c3, e1, e2, w64s (show pa.length < 9223372036854775807 by omega)]
      by_cases hxy : x = y
      · subst hxy
        have := ih rb (pa ++ [x]) (pb ++ [x]) j (by rw [ha]; simp) (by rw [hb]; simp) (by simp [hp]) (by omega)
        rw [List.length_append, List.length_singleton] at this
        simp only [decide_true, Bool.not_true, Bool.false_eq_true, if_false]
        rw [this]
        simp
      · simp [hxy]
theorem bytes_eq' (k : Nat) (hk : 5001 ≤ k) (a b : List Int) (hl : a.length ≤ 5000) : m28F k a b = some (decide (a = b)) := by
  simp only [m28F, m28X]
  by_cases he : a.length = b.length
  · have := bytes_loop k a b hl he a b [] [] k rfl rfl rfl (by omega)
    simp only [List.length_nil] at this
    simp only [he, eqI_eq, decide_true, Bool.not_true, Bool.false_eq_true, if_false]
    exact this
  · have : ¬ ((a.length : Int) = (b.length : Int)) := by omega
    have h2 : ¬ a = b := fun h => he (by rw [h])
    simp [eqI_eq, this, h2]
/-! A message cut to blocks. -/
def piece (B : Nat) (msg : List Int) (i : Nat) : List Int := (msg.drop (i * B)).take B
def mkMark (n i : Nat) : Int := (if i = 0 then 1 else 0) + (if i + 1 = n then 2 else 0)
def blkAt (B n : Nat) (s : Int) (msg : List Int) (i : Nat) : Int × (Int × List Int) := (s + (i : Int), mkMark n i, piece B msg i)
def cutTo (B n : Nat) (s : Int) (msg : List Int) (m : Nat) : List (Int × (Int × List Int)) := (List.range m).map (blkAt B n s msg)
def cutL (B : Nat) (s : Int) (msg : List Int) : List (Int × (Int × List Int)) := cutTo B (nBlk B msg.length) s msg (nBlk B msg.length)
theorem cutTo_length (B n : Nat) (s : Int) (msg : List Int) (m : Nat) : (cutTo B n s msg m).length = m := by simp [cutTo]
theorem cutL_length (B : Nat) (s : Int) (msg : List Int) : (cutL B s msg).length = nBlk B msg.length := cutTo_length ..
theorem cutL_get (B : Nat) (s : Int) (msg : List Int) (i : Nat) (h : i < nBlk B msg.length) : (cutL B s msg).getD i (0, 0, []) = blkAt B (nBlk B msg.length) s msg i := by
  unfold cutL cutTo
  rw [List.getD_eq_getElem?_getD, List.getElem?_map, List.getElem?_range h]
  rfl
theorem blk_set (d x : Int × (Int × List Int)) : List.set (List.replicate 1 d) 0 x = [x] := (congrArg (fun y : Int × (Int × List Int) => [y]) (Eq.refl x) : [x] = [x])
theorem mark_or (m : Int) (h : m = 0 ∨ m = 1) : bits .or .i64 m 2 = m + 2 := by
  rcases h with rfl | rfl <;> decide +kernel
theorem cut_ar (B len i n : Nat) (hB : 1 ≤ B) (hB2 : B ≤ 16) (hl : len ≤ 200) (hi : i < n) (hn : n ≤ 201) (hlo : i * B ≤ len) : ∃ hi' : Nat, mn (wr .i64 (wr .i64 ((i : Int) + 1) * (B : Int))) (len : Int) = (hi' : Int) ∧ leI 0 (hi' : Int) = true ∧ leI (hi' : Int) (len : Int) = true ∧ wr .i64 ((i : Int) * (B : Int)) = ((i * B : Nat) : Int) ∧ leI 0 ((i * B : Nat) : Int) = true ∧
    leI ((i * B : Nat) : Int) (hi' : Int) = true ∧ hi' = min (i * B + B) len := by
  have e1 : (i : Int) * (B : Int) = ((i * B : Nat) : Int) := (Int.natCast_mul i B).symm
  have e2 : wr .i64 ((i : Int) + 1) = ((i + 1 : Nat) : Int) := w64s (by omega)
  have e3 : ((i + 1 : Nat) : Int) * (B : Int) = ((i * B + B : Nat) : Int) := by
    rw [← Int.natCast_mul, Nat.add_mul, Nat.one_mul]
  rw [e1, e2, e3]
  clear e1 e2 e3
  generalize i * B = z at hlo
  have e4 : wr .i64 ((z + B : Nat) : Int) = ((z + B : Nat) : Int) := w64n (by omega)
  have e5 : mn ((z + B : Nat) : Int) (len : Int) = ((min (z + B) len : Nat) : Int) := by
    unfold mn
    split <;> omega
  have e6 : wr .i64 (z : Int) = (z : Int) := w64n (by clear e4; omega)
  rw [e4, e5, e6]
  clear e4 e5 e6
  exact ⟨min (z + B) len, rfl, leI_pos (by omega), leI_pos (by omega), rfl, leI_pos (by omega), leI_pos (by omega), rfl⟩
theorem piece_eq (B : Nat) (msg : List Int) (i : Nat) : (msg.take (min (i * B + B) msg.length)).drop (i * B) = piece B msg i := by
  unfold piece
  rw [List.drop_take]
  by_cases h : i * B + B ≤ msg.length
  · rw [Nat.min_eq_left h, Nat.add_sub_cancel_left]
  · rw [Nat.min_eq_right (by omega)]
    rw [List.take_of_length_le (by rw [List.length_drop]; exact Nat.le_refl _), List.take_of_length_le (by rw [List.length_drop]; omega)]
theorem cutTo_succ (B n : Nat) (s : Int) (msg : List Int) (m : Nat) : cutTo B n s msg (m + 1) = cutTo B n s msg m ++ [blkAt B n s msg m] := by
  unfold cutTo
  rw [List.range_succ, List.map_append]
  rfl
theorem cut_ar2 (s : Int) (i n : Nat) (hs : 0 ≤ s) (hs2 : s + (n : Int) ≤ 1073741824) (hi : i < n) (hn : n ≤ 201) : ltI (i : Int) (n : Int) = true ∧ wr .i64 (s + (i : Int)) = s + (i : Int) ∧ wr .i64 ((n : Int) - 1) = ((n - 1 : Nat) : Int) ∧ leI (((i + 1) * 40 : Nat) : Int) 140737488355328 = true ∧ wr .i64 ((i : Int) + 1) = ((i + 1 : Nat) : Int) ∧
    (i + 1 = n → eqI (i : Int) ((n - 1 : Nat) : Int) = true) ∧ (i + 1 ≠ n → eqI (i : Int) ((n - 1 : Nat) : Int) = false) ∧ (i ≠ 0 → eqI (i : Int) 0 = false) :=
  ⟨ltI_pos (by omega), w64 (by omega) (by omega), by rw [w64 (by omega) (by omega)]; omega, leI_pos (by omega), w64s (by omega), fun h => eqI_pos (by omega), fun h => eqI_neg (by omega), fun h => eqI_neg (by omega)⟩
theorem cut_loop (k : Nat) (s : Int) (msg : List Int) (B : Nat) (c1 c2 c3 c4 c5 c6 c7 c8 c9 : Int) (n : Nat) (hn : n = nBlk B msg.length) (hB : 1 ≤ B) (hB2 : B ≤ 16) (hl : msg.length ≤ 200) (hs : 0 ≤ s) (hs2 : s + (n : Int) ≤ 1073741824) : ∀ (d i j : Nat), i + d = n → d < j →
    m27F23 k j s msg (n : Int) (n : Int) (i : Int) (B : Int) c1 c2 c3 c4 c5 c6 c7 c8 c9 (cutTo B n s msg i) = some (cutTo B n s msg n, 0) := by
  have hn2 : n ≤ 201 := by
    have := nBlk_le B msg.length hB
    omega
  intro d
  induction d with
  | zero =>
    intro i j hi hj
    obtain ⟨j, rfl⟩ : ∃ y, j = y + 1 := ⟨j - 1, by omega⟩
    obtain rfl : i = n := by omega
    simp only [m27F23, m27X23]
    rw [if_neg (by rw [ltI_neg (by omega)]; simp)]
    rfl
  | succ d ih =>
    intro i j hi hj
    obtain ⟨j, rfl⟩ : ∃ y, j = y + 1 := ⟨j - 1, by omega⟩
    have hin : i < n := by omega
    have g1 : i + 1 + d = n := by omega
    have g2 : d < j := by omega
    have hlo := (nBlk_lt B msg.length i hB (hn ▸ hin)).1
    obtain ⟨hi', q1, q2, q3, q4, q5, q6, q7⟩ := cut_ar B msg.length i n hB hB2 hl hin hn2 hlo
    have hp : (msg.take hi').drop (i * B) = piece B msg i := by rw [q7]; exact piece_eq B msg i
    have hpl : (piece B msg i).length ≤ 5000 := by
      unfold piece
      exact Nat.le_trans (List.length_take_le _ _) (Nat.le_trans hB2 (by decide))
    have h2 := ih (i + 1) j g1 g2
    rw [cutTo_succ] at h2
    obtain ⟨r1, r2, r3, r4, r5, r6, r7, r8⟩ := cut_ar2 s i n hs hs2 hin hn2
    have e00 : eqI 0 0 = true := eqI_pos rfl
    simp only [m27F23, m27X23, r1, if_true, q1, q2, q3, q4, q5, q6, Int.toNat_natCast, hp, clone_eq k _ hpl, Option.bind_some, r2]
    have fin : ∀ m : Int, (m = 0 ∨ m = 1) → m = (if i = 0 then 1 else 0) → m27F32 k (m27F23 k j) s msg (n : Int) (i : Int) (n : Int) (i : Int) (B : Int) c1 c2 c3 c4 c5 c6 c7 c8 c9 (cutTo B n s msg i) (s + (i : Int)) m (piece B msg i) = some (cutTo B n s msg n, 0) := by
      intro m hm hm2
      simp only [m27F32, m27X32, r3, m27F36, m27X36, blk_set, List.length_singleton, cutTo_length, r4, if_true, r5, mark_or m hm]
      by_cases hlast : i + 1 = n
      · rw [if_pos (r6 hlast)]
        have e : blkAt B n s msg i = (s + (i : Int), m + 2, piece B msg i) := by
          unfold blkAt mkMark
          rw [← hm2, if_pos hlast]
        rw [e] at h2
        exact h2
      · rw [if_neg (by rw [r7 hlast]; simp)]
        have e : blkAt B n s msg i = (s + (i : Int), m, piece B msg i) := by
          unfold blkAt mkMark
          rw [← hm2, if_neg hlast, Int.add_zero]
        rw [e] at h2
        exact h2
    by_cases h0 : i = 0
    · rw [if_pos (eqI_pos (by rw [h0]; rfl))]
      exact fin 1 (.inr rfl) (by rw [if_pos h0])
    · rw [if_neg (by rw [r8 h0]; simp)]
      exact fin 0 (.inl rfl) (by rw [if_neg h0])
theorem cutCut_eq (k : Nat) (hk : 5001 ≤ k) (s : Int) (msg : List Int) (B : Nat) (c1 c2 c3 c4 c5 c6 c7 c8 c9 : Int) (ok : cfgOk (B : Int) c1 c2 c3 c4 c5 c6 c7 c8 c9) (hl : (msg.length : Int) ≤ c8) (hs : 0 ≤ s) (hs2 : s + (nBlk B msg.length : Int) ≤ 1073741824) :
    m27F k ((B : Int), c1, c2, c3, c4, c5, c6, c7, c8, c9) s msg = some (cutL B s msg, 0) := by
  have hB := ok.1
  have h8 := ok.2.2.2.2.2.2.2.2.1
  unfold within at hB h8
  have hl2 : msg.length ≤ 200 := by omega
  have hB1 : 1 ≤ B := by omega
  have hle := nBlk_le B msg.length hB1
  have lp := cut_loop k s msg B c1 c2 c3 c4 c5 c6 c7 c8 c9 (nBlk B msg.length) rfl hB1 (by omega) hl2 hs hs2 (nBlk B msg.length) 0 k (by omega) (by omega)
  have z0 : (!eqI 0 0) = false := by rw [eqI_pos rfl]; rfl
  have bl := blocks_eq k B c1 c2 c3 c4 c5 c6 c7 c8 c9 ok msg.length hl2
  have ar : ltI c8 (msg.length : Int) = false ∧ ltI s 0 = false ∧ ltI (wr .i64 (1073741824 - (nBlk B msg.length : Int))) s = false :=
    ⟨ltI_neg (by omega), ltI_neg (by omega), by rw [w64 (by omega) (by omega)]; exact ltI_neg (by omega)⟩
  obtain ⟨a1, a2, a3⟩ := ar
  simp only [m27F, m27X, check_ok k _ _ _ _ _ _ _ _ _ _ ok, Option.bind_some, z0, Bool.false_eq_true, if_false, a1, bl, a2, a3]
  exact lp
theorem piece_length (B : Nat) (msg : List Int) (i : Nat) : (piece B msg i).length = min B (msg.length - i * B) := by
  unfold piece
  rw [List.length_take, List.length_drop]
theorem piece_more (B : Nat) (msg : List Int) (i : Nat) : msg.take (i * B) ++ piece B msg i = msg.take ((i + 1) * B) := by
  unfold piece
  rw [Nat.add_mul, Nat.one_mul, List.take_add]
theorem wakes20 (k : Nat) (hk : 5001 ≤ k) : m29F k = some true := by
  have ok : cfgOk ((2 : Nat) : Int) 1 1 1 1 1 1 4 9 0 := by decide
  have h := cutCut_eq k hk 5 [] 2 1 1 1 1 1 1 4 9 0 ok (by decide) (by decide) (by decide)
  have e : cutL 2 5 [] = [(5, 3, [])] := by decide
  rw [e] at h
  have h' : m27F k (2, 1, 1, 1, 1, 1, 1, 4, 9, 0) 5 [] = some ([(5, 3, [])], 0) := h
  have e0 : ∀ z : Int, eqI z z = true := fun z => eqI_pos rfl
  have e1 : eqI (([((5 : Int), (3 : Int), ([] : List Int))] : List (Int × (Int × List Int))).length : Int) 1 = true := eqI_pos rfl
  have g0 : leI 0 0 = true := leI_pos (by decide)
  have g1 : ltI 0 (([((5 : Int), (3 : Int), ([] : List Int))] : List (Int × (Int × List Int))).length : Int) = true := ltI_pos (by decide)
  simp only [m29F, m29X, h', Option.bind_some, e0, e1, if_true, g0, g1]
  have g5 : eqI ([((5 : Int), (3 : Int), ([] : List Int))].getD 0 (0, 0, [])).fst 5 = true := eqI_pos rfl
  have g3 : eqI ([((5 : Int), (3 : Int), ([] : List Int))].getD 0 (0, 0, [])).snd.fst 3 = true := eqI_pos rfl
  rw [if_pos g5, g3]
/-- What is wrong with a block. -/
def blkErr (c s m : Int) (n : Nat) : Int := if c < 1 ∨ 16 < c ∨ s < 0 ∨ 1073741824 ≤ s ∨ m < 0 ∨ 3 < m then 1 else if c < (n : Int) ∨ (m < 2 ∧ (n : Int) < c) then 2 else 0
theorem blkErr_zero {c s m : Int} {n : Nat} (h : blkErr c s m n = 0) : (1 ≤ c ∧ c ≤ 16) ∧ (0 ≤ s ∧ s < 1073741824) ∧ (0 ≤ m ∧ m ≤ 3) ∧ (n : Int) ≤ c ∧ (m < 2 → (n : Int) = c) := by
  unfold blkErr at h
  split at h
  · cases h
  · split at h
    · cases h
    · rename_i h1 h2
      omega
theorem and2 (m : Int) (h0 : 0 ≤ m) (h1 : m ≤ 3) : bits .and .i64 m 2 = 0 ↔ m < 2 := by
  have h : m = 0 ∨ m = 1 ∨ m = 2 ∨ m = 3 := by omega
  rcases h with rfl | rfl | rfl | rfl <;> decide +kernel
theorem blkCheck_eq (k : Nat) (c s m : Int) (t : List Int) : m33F k c (s, m, t) = some (blkErr c s m t.length) := by
  simp only [m33F, m33X, m42F, m42X, ltI_eq, leI_eq, eqI_eq, decide_eq_true_eq, blkErr]
  by_cases h1 : c < 1
  · rw [if_neg (show ¬ 1 ≤ c by omega)]
    simp [h1]
  · rw [if_pos (show 1 ≤ c by omega), Option.bind_some]
    by_cases h2 : 16 < c
    · simp [h1, h2, show ¬ c ≤ 16 by omega]
    · by_cases h3 : s < 0
      · simp [h1, h2, h3, show c ≤ 16 by omega]
      · by_cases h4 : 1073741824 ≤ s
        · simp [h1, h2, h3, h4, show c ≤ 16 by omega]
        · by_cases h5 : m < 0
          · simp [h1, h2, h3, h4, h5, show c ≤ 16 by omega]
          · by_cases h6 : 3 < m
            · simp [h1, h2, h3, h4, h5, h6, show c ≤ 16 by omega]
            · have ha := and2 m (by omega) (by omega)
              by_cases h7 : c < (t.length : Int)
              · simp [h1, h2, h3, h4, h5, h6, h7, show c ≤ 16 by omega]
              · by_cases h8 : (t.length : Int) < c
                · by_cases h9 : m < 2
                  · simp [h1, h2, h3, h4, h5, h6, h7, h8, h9, ha.2 h9, show c ≤ 16 by omega]
                  · have h9' : ¬ bits .and .i64 m 2 = 0 := fun h => h9 (ha.1 h)
                    simp [h1, h2, h3, h4, h5, h6, h7, h8, h9, h9', show c ≤ 16 by omega]
                · simp [h1, h2, h3, h4, h5, h6, h7, h8, show c ≤ 16 by omega]
theorem twin_eq (k : Nat) (l : List Int) (h : l.length ≤ 5000) : m26F k l = some l := by
  simp only [m26F, m26X, leI_eq, decide_eq_true_eq]
  rw [if_pos (by omega)]
/-! Blocks put together. -/
theorem mark_bits (m : Int) (h0 : 0 ≤ m) (h1 : m ≤ 3) : (eqI (bits .and .i64 m 1) 0 = decide (m = 0 ∨ m = 2)) ∧ (eqI (bits .and .i64 m 2) 0 = decide (m < 2)) := by
  rw [eqI_eq, eqI_eq]
  have h : m = 0 ∨ m = 1 ∨ m = 2 ∨ m = 3 := by omega
  rcases h with rfl | rfl | rfl | rfl <;> decide +kernel
theorem take_ar (b t : Nat) (hb : b ≤ 4096) (ht : t ≤ 16) : ltI 4096 (b : Int) = false ∧ ltI 16 (t : Int) = false ∧ wr .i64 ((b : Int) + (t : Int)) = ((b + t : Nat) : Int) ∧ leI (((b + t) * 1 : Nat) : Int) 140737488355328 = true ∧ (4096 < b + t → ltI 4096 ((b + t : Nat) : Int) = true) ∧ (¬ 4096 < b + t → ltI 4096 ((b + t : Nat) : Int) = false) :=
  ⟨ltI_neg (by omega), ltI_neg (by omega), by rw [w64 (by omega) (by omega)]; omega, leI_pos (by omega), fun h => ltI_pos (by omega), fun h => ltI_neg (by omega)⟩
theorem take_open (k : Nat) (s m : Int) (o : Bool) (txt t : List Int) (hm0 : 0 ≤ m) (hm : m ≤ 3) (ht : t.length ≤ 16) (hl : txt.length ≤ 4096) (ho : o = true ∨ (txt = [] ∧ ¬ (m = 0 ∨ m = 2))) :
    m16F k (o, txt) (s, m, t) = if 4096 < (if m = 0 ∨ m = 2 then txt else []).length + t.length then some ((false, []), [], false, 2) else if m < 2 then some ((true, (if m = 0 ∨ m = 2 then txt else []) ++ t), [], false, 0) else some ((false, []), (if m = 0 ∨ m = 2 then txt else []) ++ t, true, 0) := by
  obtain ⟨e1, e2⟩ := mark_bits m hm0 hm
  have hc : m39F k (o, txt) = some 0 := by
    simp only [m39F, m39X]
    rw [if_neg (by rw [ltI_neg (by omega)]; simp)]
    rcases ho with rfl | ⟨rfl, _⟩
    · simp
    · cases o
      · rw [if_pos (by rfl), if_neg (by rw [ltI_neg (by simp)]; simp)]
      · simp
  have z0 : (!eqI 0 0) = false := by rw [eqI_pos rfl]; rfl
  have n0 : ltI m 0 = false := ltI_neg (by omega)
  have n3 : ltI 3 m = false := ltI_neg (by omega)
  obtain ⟨_, n16, _⟩ := take_ar txt.length t.length hl ht
  have fin : ∀ b : List Int, b.length ≤ 4096 → m16F16 k s m t true b = if 4096 < b.length + t.length then some ((false, []), [], false, 2) else if m < 2 then some ((true, b ++ t), [], false, 0) else some ((false, []), b ++ t, true, 0) := by
    intro b hb
    obtain ⟨_, _, w, c, q1, q2⟩ := take_ar b.length t.length hb ht
    simp only [m16F16, m16X16, Bool.not_true, Bool.false_eq_true, if_false, w, c, if_true, e2]
    by_cases h : 4096 < b.length + t.length
    · rw [if_pos (q1 h), if_pos h]
    · rw [if_neg (by rw [q2 h]; simp), if_neg h]
      by_cases h2 : m < 2
      · rw [if_neg (by simp [h2]), if_pos h2]
      · rw [if_pos (by simp [h2]), if_neg h2]
  simp only [m16F, m16X, hc, Option.bind_some, z0, n0, n3, n16, Bool.false_eq_true, if_false, clone_eq k txt (by omega), e1]
  by_cases h : m = 0 ∨ m = 2
  · obtain rfl : o = true := ho.resolve_right fun h' => h'.2 h
    rw [if_neg (by simp [h]), if_pos h]
    exact fin txt hl
  · rw [if_pos (by simp [h]), if_neg h]
    exact fin [] (by simp)
theorem wakes21 (k : Nat) : m17F k = some true := by
  have h := take_open k 0 3 false [] [120] (by decide) (by decide) (by decide) (by decide) (.inr ⟨rfl, by decide⟩)
  rw [if_neg (by decide), if_neg (by decide), if_neg (by decide)] at h
  have e0 : eqI 0 0 = true := eqI_pos rfl
  have el : eqI (([] : List Int).length : Int) 0 = true := eqI_pos rfl
  have es : strOf ([] ++ [120]) = ByteArray.mk #[120] := rfl
  simp only [m17F, m17X, one_set, h, Option.bind_some, e0, if_true, es, beq_self_eq_true, Bool.not_false, el]

end Go.Proofs.Ythfdejbckheagaa.Mini
