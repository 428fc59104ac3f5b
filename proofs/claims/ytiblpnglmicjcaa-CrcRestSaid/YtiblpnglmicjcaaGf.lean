/- Polynomials over two elements, as numbers: plain laws, no program. -/
import Derived.Laws.BitsLemmas
import Derived.Laws.BitsAllLaws
namespace Go.Proofs.Ytiblpnglmicjcaa.Gf

theorem xlc (a b c : Nat) : a ^^^ (b ^^^ c) = b ^^^ (a ^^^ c) := by rw [← Nat.xor_assoc, Nat.xor_comm a b, Nat.xor_assoc]
theorem xself (a b : Nat) : a ^^^ (a ^^^ b) = b := by rw [← Nat.xor_assoc, Nat.xor_self, Nat.zero_xor]
/-- The product, of so many lowest bits of a. -/
def clm : Nat → Nat → Nat → Nat
  | 0, _, _ => 0
  | n + 1, a, b => clm n a b ^^^ (if a.testBit n then b <<< n else 0)
def cm (a b : Nat) : Nat := clm a a b

theorem clm_step {n a b : Nat} (h : a < 2 ^ n) : clm (n + 1) a b = clm n a b := by
  rw [clm, Nat.testBit_lt_two_pow h, if_neg (by simp), Nat.xor_zero]
theorem clm_more {n a b : Nat} (h : a < 2 ^ n) : ∀ d, clm (n + d) a b = clm n a b
  | 0 => rfl
  | d + 1 => by
    rw [← Nat.add_assoc, clm_step (Nat.lt_of_lt_of_le h (Nat.pow_le_pow_right (by decide) (Nat.le_add_right _ _))), clm_more h d]
theorem cm_eq {n a b : Nat} (h : a < 2 ^ n) : cm a b = clm n a b := by
  unfold cm
  rcases Nat.le_total a n with hn | hn
  · obtain ⟨d, rfl⟩ := Nat.le.dest hn
    exact (clm_more Nat.lt_two_pow_self d).symm
  · obtain ⟨d, rfl⟩ := Nat.le.dest hn
    exact clm_more h d
theorem clm_xor_left (n a a' b : Nat) : clm n (a ^^^ a') b = clm n a b ^^^ clm n a' b := by
  induction n with
  | zero => simp [clm]
  | succ n ih =>
    rw [clm, clm, clm, ih, Nat.testBit_xor]
    cases a.testBit n <;> cases a'.testBit n <;> simp [Nat.xor_assoc, Nat.xor_comm, xlc, xself]
theorem clm_xor_right (n a b b' : Nat) : clm n a (b ^^^ b') = clm n a b ^^^ clm n a b' := by
  induction n with
  | zero => simp [clm]
  | succ n ih =>
    rw [clm, clm, clm, ih]
    cases a.testBit n
    · simp
    · simp [Nat.shiftLeft_xor_distrib, Nat.xor_assoc, Nat.xor_comm, xlc]
theorem big (a b : Nat) : ∃ n, a < 2 ^ n ∧ b < 2 ^ n := ⟨max a b, Nat.lt_of_le_of_lt (Nat.le_max_left a b) Nat.lt_two_pow_self, Nat.lt_of_le_of_lt (Nat.le_max_right a b) Nat.lt_two_pow_self⟩
theorem cm_xor_left (a a' b : Nat) : cm (a ^^^ a') b = cm a b ^^^ cm a' b := by
  obtain ⟨n, h1, h2⟩ := big a a'
  rw [cm_eq h1, cm_eq h2, cm_eq (Nat.xor_lt_two_pow h1 h2), clm_xor_left]
theorem cm_xor_right (a b b' : Nat) : cm a (b ^^^ b') = cm a b ^^^ cm a b' := clm_xor_right a a b b'
theorem cm_zero_left (b : Nat) : cm 0 b = 0 := rfl
theorem clm_zero_right (n a : Nat) : clm n a 0 = 0 := by
  induction n with
  | zero => rfl
  | succ n ih =>
    rw [clm, ih]
    cases a.testBit n <;> simp
theorem cm_zero_right (a : Nat) : cm a 0 = 0 := clm_zero_right a a
theorem clm_pow_low (i b : Nat) : ∀ n, n ≤ i → clm n (2 ^ i) b = 0
  | 0, _ => rfl
  | n + 1, h => by
    rw [clm, clm_pow_low i b n (by omega), Nat.testBit_two_pow_of_ne (by omega)]
    simp
theorem cm_pow_left (i b : Nat) : cm (2 ^ i) b = b <<< i := by
  rw [cm_eq (show 2 ^ i < 2 ^ (i + 1) from Nat.pow_lt_pow_right (by decide) (Nat.lt_succ_self i)), clm, clm_pow_low i b i (Nat.le_refl i), Nat.testBit_two_pow_self]
  simp
theorem cm_one_left (b : Nat) : cm 1 b = b := by
  have := cm_pow_left 0 b
  simpa using this
/-- Each number is made of powers of two. -/
theorem xind {P : Nat → Prop} (h0 : P 0) (hp : ∀ i, P (2 ^ i)) (hx : ∀ a b, P a → P b → P (a ^^^ b)) : ∀ n a, a < 2 ^ n → P a := by
  intro n
  induction n with
  | zero =>
    intro a h
    have : a = 0 := by
      rw [Nat.pow_zero] at h
      omega
    rw [this]
    exact h0
  | succ n ih =>
    intro a h
    by_cases hb : a < 2 ^ n
    · exact ih a hb
    · have e : (a ^^^ 2 ^ n) < 2 ^ n := by
        apply Nat.lt_pow_two_of_testBit
        intro i hi
        rw [Nat.testBit_xor]
        rcases Nat.eq_or_lt_of_le hi with rfl | hi
        · rw [Nat.testBit_two_pow_self]
          have : a.testBit n = true := by
            rw [Nat.testBit_eq_decide_div_mod_eq]
            have h1 : a / 2 ^ n = 1 := by
              rw [Nat.pow_succ] at h
              exact Nat.div_eq_of_lt_le (by omega) (by omega)
            rw [h1]
            rfl
          rw [this]
          rfl
        · rw [Nat.testBit_two_pow_of_ne (by omega), Nat.testBit_lt_two_pow (Nat.lt_of_lt_of_le h (Nat.pow_le_pow_right (by decide) hi))]
          rfl
      have := hx _ _ (ih _ e) (hp n)
      rwa [Nat.xor_assoc, Nat.xor_self, Nat.xor_zero] at this
theorem xall {P : Nat → Prop} (h0 : P 0) (hp : ∀ i, P (2 ^ i)) (hx : ∀ a b, P a → P b → P (a ^^^ b)) (a : Nat) : P a := xind h0 hp hx a a Nat.lt_two_pow_self
theorem cm_pow_right (i a : Nat) : cm a (2 ^ i) = a <<< i := by
  refine xall (P := fun a => cm a (2 ^ i) = a <<< i) ?_ (fun j => ?_) (fun a b ha hb => ?_) a
  · rw [cm_zero_left, Nat.zero_shiftLeft]
  · rw [cm_pow_left, Nat.shiftLeft_eq, Nat.shiftLeft_eq, Nat.mul_comm]
  · rw [cm_xor_left, ha, hb, Nat.shiftLeft_xor_distrib]
theorem cm_comm (a b : Nat) : cm a b = cm b a := by
  refine xall (P := fun a => cm a b = cm b a) ?_ (fun i => ?_) (fun a a' h h' => ?_) a
  · rw [cm_zero_left, cm_zero_right]
  · rw [cm_pow_left, cm_pow_right]
  · rw [cm_xor_left, cm_xor_right, h, h']
theorem cm_shl_left (a b i : Nat) : cm (a <<< i) b = (cm a b) <<< i := by
  refine xall (P := fun a => cm (a <<< i) b = (cm a b) <<< i) ?_ (fun j => ?_) (fun a a' h h' => ?_) a
  · rw [Nat.zero_shiftLeft, cm_zero_left, Nat.zero_shiftLeft]
  · rw [Nat.shiftLeft_eq, ← Nat.pow_add, cm_pow_left, cm_pow_left, Nat.shiftLeft_add]
  · rw [Nat.shiftLeft_xor_distrib, cm_xor_left, cm_xor_left, h, h', Nat.shiftLeft_xor_distrib]
theorem cm_assoc (a b c : Nat) : cm (cm a b) c = cm a (cm b c) := by
  refine xall (P := fun a => cm (cm a b) c = cm a (cm b c)) ?_ (fun i => ?_) (fun a a' h h' => ?_) a
  · rw [cm_zero_left, cm_zero_left, cm_zero_left]
  · rw [cm_pow_left, cm_pow_left, cm_shl_left]
  · rw [cm_xor_left, cm_xor_left, cm_xor_left, h, h']
theorem shl_lt {b n i : Nat} (h : b < 2 ^ n) : b <<< i < 2 ^ (n + i) := by
  rw [Nat.shiftLeft_eq, Nat.pow_add]
  exact Nat.mul_lt_mul_of_pos_right h (Nat.two_pow_pos i)
theorem clm_lt {b n : Nat} (h : b < 2 ^ (n + 1)) (a : Nat) : ∀ m, clm m a b < 2 ^ (m + n)
  | 0 => Nat.two_pow_pos _
  | m + 1 => by
    rw [clm]
    refine Nat.xor_lt_two_pow (Nat.lt_of_lt_of_le (clm_lt h a m) (Nat.pow_le_pow_right (by decide) (by omega))) ?_
    cases a.testBit m
    · simp
      exact Nat.two_pow_pos _
    · simp only [if_true]
      have := shl_lt (i := m) h
      rwa [show n + 1 + m = m + 1 + n by omega] at this
theorem cm_lt {a b m n : Nat} (ha : a < 2 ^ m) (hb : b < 2 ^ (n + 1)) : cm a b < 2 ^ (m + n) := by
  rw [cm_eq ha]
  exact clm_lt hb a m
theorem top_of {v n : Nat} (h1 : 2 ^ n ≤ v) (h2 : v < 2 ^ (n + 1)) : ∃ r, r < 2 ^ n ∧ v = 2 ^ n ^^^ r := by
  refine ⟨v - 2 ^ n, by rw [Nat.pow_succ] at h2; omega, ?_⟩
  have := Nat.two_pow_add_eq_or_of_lt (i := n) (b := v - 2 ^ n) (by rw [Nat.pow_succ] at h2; omega) 1
  rw [Nat.mul_one] at this
  have e : 2 ^ n + (v - 2 ^ n) = v := by omega
  rw [e] at this
  refine this.trans ?_
  apply Nat.eq_of_testBit_eq
  intro i
  rw [Nat.testBit_or, Nat.testBit_xor]
  by_cases hi : i < n
  · rw [Nat.testBit_two_pow_of_ne (by omega)]
    simp
  · rw [Nat.testBit_lt_two_pow (x := v - 2 ^ n) (Nat.lt_of_lt_of_le (show v - 2 ^ n < 2 ^ n by rw [Nat.pow_succ] at h2; omega) (Nat.pow_le_pow_right (by decide) (by omega)))]
    simp
theorem xor_ge {n r s : Nat} (h1 : 2 ^ n ≤ r) (h3 : s < 2 ^ n) : 2 ^ n ≤ r ^^^ s := by
  apply Decidable.byContradiction
  intro h
  have : r < 2 ^ n := by
    have e : r = (r ^^^ s) ^^^ s := by rw [Nat.xor_assoc, Nat.xor_self, Nat.xor_zero]
    rw [e]
    exact Nat.xor_lt_two_pow (by omega) h3
  omega
/-- A product has as many bits as both. -/
theorem cm_ge {a b m n : Nat} (ha : 2 ^ m ≤ a) (ha' : a < 2 ^ (m + 1)) (hb : 2 ^ n ≤ b) (hb' : b < 2 ^ (n + 1)) : 2 ^ (m + n) ≤ cm a b := by
  obtain ⟨r, hr, rfl⟩ := top_of ha ha'
  rw [cm_xor_left, cm_pow_left]
  refine xor_ge ?_ (cm_lt hr hb')
  rw [Nat.shiftLeft_eq, Nat.pow_add, Nat.mul_comm]
  exact Nat.mul_le_mul_right _ hb
theorem bits_of {a : Nat} (h : a ≠ 0) : ∃ m, 2 ^ m ≤ a ∧ a < 2 ^ (m + 1) := ⟨a.log2, Nat.log2_self_le h, Nat.lt_log2_self⟩
/-- Division has one answer. -/
theorem div_one {q q' m r r' d : Nat} (h : cm q m ^^^ r = cm q' m ^^^ r') (hm : 2 ^ d ≤ m) (hr : r < 2 ^ d) (hr' : r' < 2 ^ d) : q = q' ∧ r = r' := by
  have e : cm (q ^^^ q') m = r ^^^ r' := by
    rw [cm_xor_left]
    have : cm q m = cm q' m ^^^ r' ^^^ r := by rw [← h, Nat.xor_assoc, Nat.xor_self, Nat.xor_zero]
    rw [this]
    rw [Nat.xor_comm (cm q' m ^^^ r' ^^^ r), ← Nat.xor_assoc, ← Nat.xor_assoc, Nat.xor_self, Nat.zero_xor, Nat.xor_comm]
  by_cases hq : q ^^^ q' = 0
  · rw [hq, cm_zero_left] at e
    have eq1 : q = q' := by
      have := congrArg (· ^^^ q') hq
      simp only [Nat.xor_assoc, Nat.xor_self, Nat.xor_zero, Nat.zero_xor] at this
      exact this
    have eq2 : r = r' := by
      have := congrArg (· ^^^ r') e.symm
      simp only [Nat.xor_assoc, Nat.xor_self, Nat.xor_zero, Nat.zero_xor] at this
      exact this
    exact ⟨eq1, eq2⟩
  · obtain ⟨i, h1, h2⟩ := bits_of hq
    have hm0 : m ≠ 0 := fun h0 => by
      rw [h0] at hm
      have := Nat.two_pow_pos d
      omega
    obtain ⟨j, h3, h4⟩ := bits_of hm0
    have h5 := cm_ge h1 h2 h3 h4
    have h6 : r ^^^ r' < 2 ^ d := Nat.xor_lt_two_pow hr hr'
    rw [e] at h5
    have h7 : d ≤ j := by
      apply Decidable.byContradiction
      intro hd
      have : 2 ^ (j + 1) ≤ 2 ^ d := Nat.pow_le_pow_right (by decide) (by omega)
      omega
    have : 2 ^ d ≤ 2 ^ (i + j) := Nat.pow_le_pow_right (by decide) (by omega)
    omega

/-! ### Rows of coefficients, the highest first -/
def isBit (c : Int) : Prop := c = 0 ∨ c = 1
def val (l : List Int) : Nat := l.foldl (fun n c => 2 * n + c.toNat) 0
theorem val_foldl (l : List Int) : ∀ n, l.foldl (fun n c => 2 * n + c.toNat) n = n * 2 ^ l.length + val l := by
  induction l with
  | nil => intro n; simp [val]
  | cons c l ih =>
    intro n
    rw [List.foldl_cons, ih]
    have := ih (2 * 0 + c.toNat)
    unfold val
    rw [List.foldl_cons, this, List.length_cons, Nat.pow_succ, Nat.add_mul]
    simp only [Nat.mul_zero, Nat.zero_add]
    unfold val
    rw [Nat.mul_comm 2 n, Nat.mul_assoc, Nat.mul_comm 2]
    omega
theorem val_cons (c : Int) (l : List Int) : val (c :: l) = c.toNat * 2 ^ l.length + val l := by
  have := val_foldl l (2 * 0 + c.toNat)
  simp only [Nat.mul_zero, Nat.zero_add] at this
  show List.foldl _ (2 * 0 + c.toNat) l = _
  simp only [Nat.mul_zero, Nat.zero_add]
  exact this
theorem val_append (l m : List Int) : val (l ++ m) = val l * 2 ^ m.length + val m := by
  unfold val
  rw [List.foldl_append, val_foldl]
  rfl
theorem val_nil : val [] = 0 := rfl
theorem val_snoc (l : List Int) (c : Int) : val (l ++ [c]) = 2 * val l + c.toNat := by
  rw [val_append]
  simp [val_cons, val_nil]
  omega
theorem val_lt : ∀ l : List Int, (∀ c ∈ l, isBit c) → val l < 2 ^ l.length
  | [], _ => by simp [val_nil]
  | c :: l, h => by
    have ih := val_lt l fun x hx => h x (List.mem_cons_of_mem _ hx)
    rw [val_cons, List.length_cons, Nat.pow_succ]
    rcases h c (List.mem_cons_self ..) with rfl | rfl
    · simp
      omega
    · simp
      omega
theorem val_xapp (l m : List Int) (hm : ∀ c ∈ m, isBit c) : val (l ++ m) = (val l) <<< m.length ^^^ val m := by
  rw [val_append, Nat.shiftLeft_eq, Nat.mul_comm]
  have h := val_lt m hm
  rw [Nat.two_pow_add_eq_or_of_lt h]
  apply Nat.eq_of_testBit_eq
  intro i
  rw [Nat.testBit_or, Nat.testBit_xor]
  by_cases hi : i < m.length
  · have : (2 ^ m.length * val l).testBit i = false := by
      rw [Nat.testBit_two_pow_mul]
      simp
      intro h
      omega
    rw [this]
    simp
  · rw [Nat.testBit_lt_two_pow (Nat.lt_of_lt_of_le h (Nat.pow_le_pow_right (by decide) (by omega)))]
    simp
theorem val_zeros (n : Nat) : val (List.replicate n 0) = 0 := by
  induction n with
  | zero => rfl
  | succ n ih => rw [List.replicate_succ, val_cons, ih]; simp
theorem zeros_bit (n : Nat) : ∀ c ∈ List.replicate n (0 : Int), isBit c := fun _ h => .inl (List.eq_of_mem_replicate h)
theorem bits_app {l m : List Int} (h1 : ∀ c ∈ l, isBit c) (h2 : ∀ c ∈ m, isBit c) : ∀ c ∈ l ++ m, isBit c := fun c h => (List.mem_append.1 h).elim (h1 c) (h2 c)
/-- Two coefficients, added. -/
def xb (x y : Int) : Int := if x = y then 0 else 1
theorem xb_bit (x y : Int) : isBit (xb x y) := by
  unfold xb isBit
  split
  · exact .inl rfl
  · exact .inr rfl
theorem zip_bit (l m : List Int) : ∀ c ∈ List.zipWith xb l m, isBit c := by
  induction l generalizing m with
  | nil => intro c h; simp at h
  | cons x l ih =>
    cases m with
    | nil => intro c h; simp at h
    | cons y m =>
      intro c h
      rw [List.zipWith_cons_cons] at h
      rcases List.mem_cons.1 h with rfl | h
      · exact xb_bit x y
      · exact ih m c h
theorem val_zip : ∀ (l m : List Int), (∀ c ∈ l, isBit c) → (∀ c ∈ m, isBit c) → l.length = m.length → val (List.zipWith xb l m) = val l ^^^ val m
  | [], [], _, _, _ => rfl
  | [], _ :: _, _, _, h => by cases h
  | _ :: _, [], _, _, h => by cases h
  | x :: l, y :: m, hl, hm, h => by
    have hl2 : ∀ c ∈ l, isBit c := fun c hc => hl c (List.mem_cons_of_mem _ hc)
    have hm2 : ∀ c ∈ m, isBit c := fun c hc => hm c (List.mem_cons_of_mem _ hc)
    have hlen : l.length = m.length := by simpa using h
    have ih := val_zip l m hl2 hm2 hlen
    have e : ∀ (c : Int) (r : List Int), (∀ x ∈ r, isBit x) → val (c :: r) = (val [c]) <<< r.length ^^^ val r := fun c r hr => val_xapp [c] r hr
    have hz : (List.zipWith xb l m).length = m.length := by rw [List.length_zipWith, hlen, Nat.min_self]
    rw [List.zipWith_cons_cons, e _ _ (zip_bit l m), e x l hl2, e y m hm2, ih, hz, hlen]
    have hx : val [xb x y] = val [x] ^^^ val [y] := by
      rcases hl x (List.mem_cons_self ..) with rfl | rfl <;> rcases hm y (List.mem_cons_self ..) with rfl | rfl <;> decide
    rw [hx, Nat.shiftLeft_xor_distrib]
    simp only [Nat.xor_assoc, xlc]
/-- A row is added into a longer one. -/
theorem val_add (pre mid post p : List Int) (h1 : ∀ c ∈ mid, isBit c) (h2 : ∀ c ∈ post, isBit c) (h3 : ∀ c ∈ p, isBit c) (hl : mid.length = p.length) :
    val (pre ++ List.zipWith xb mid p ++ post) = val (pre ++ mid ++ post) ^^^ (val p) <<< post.length := by
  have hz : (List.zipWith xb mid p).length = mid.length := by rw [List.length_zipWith, hl, Nat.min_self]
  rw [val_xapp _ post h2, val_xapp _ post h2, val_xapp _ mid h1, val_xapp _ _ (zip_bit mid p), val_zip mid p h1 h3 hl, hz]
  simp only [Nat.shiftLeft_xor_distrib, Nat.xor_assoc]
  congr 2
  rw [Nat.xor_comm]
/-! ### Trimmed -/
def trimL : List Int → List Int
  | [] => []
  | c :: l => if c = 1 then c :: l else trimL l
theorem trimL_bit : ∀ {l : List Int}, (∀ c ∈ l, isBit c) → ∀ c ∈ trimL l, isBit c
  | [], h => h
  | x :: l, h => by
    unfold trimL
    split
    · exact h
    · exact trimL_bit fun c hc => h c (List.mem_cons_of_mem _ hc)
theorem trimL_val : ∀ {l : List Int}, (∀ c ∈ l, isBit c) → val (trimL l) = val l
  | [], _ => rfl
  | x :: l, h => by
    unfold trimL
    split
    · rfl
    · rename_i hx
      rw [trimL_val fun c hc => h c (List.mem_cons_of_mem _ hc)]
      rcases h x (List.mem_cons_self ..) with rfl | rfl
      · rw [val_cons]
        simp
      · exact absurd rfl hx
theorem trimL_len : ∀ l : List Int, (trimL l).length ≤ l.length
  | [] => Nat.le_refl _
  | x :: l => by
    unfold trimL
    split
    · exact Nat.le_refl _
    · exact Nat.le_trans (trimL_len l) (Nat.le_succ _)
theorem trimL_head : ∀ l : List Int, trimL l = [] ∨ ∃ r, trimL l = 1 :: r
  | [] => .inl rfl
  | x :: l => by
    unfold trimL
    split
    · rename_i h
      exact .inr ⟨l, by rw [h]⟩
    · exact trimL_head l
theorem trimL_trimL (l : List Int) : trimL (trimL l) = trimL l := by
  rcases trimL_head l with h | ⟨r, h⟩
  · rw [h]
    rfl
  · rw [h]
    unfold trimL
    rw [if_pos rfl]
theorem trimL_zeros (n : Nat) (l : List Int) : trimL (List.replicate n 0 ++ l) = trimL l := by
  induction n with
  | zero => rfl
  | succ n ih =>
    rw [List.replicate_succ, List.cons_append]
    rw [trimL, if_neg (by decide)]
    exact ih
theorem one_ge (r : List Int) : 2 ^ r.length ≤ val (1 :: r) := by
  rw [val_cons]
  simp
/-- Rows of one length that are one number are one. -/
theorem val_inj : ∀ {l m : List Int}, (∀ c ∈ l, isBit c) → (∀ c ∈ m, isBit c) → l.length = m.length → val l = val m → l = m
  | [], [], _, _, _, _ => rfl
  | [], _ :: _, _, _, h, _ => by cases h
  | _ :: _, [], _, _, h, _ => by cases h
  | x :: l, y :: m, hl, hm, h, hv => by
    have hl2 : ∀ c ∈ l, isBit c := fun c hc => hl c (List.mem_cons_of_mem _ hc)
    have hm2 : ∀ c ∈ m, isBit c := fun c hc => hm c (List.mem_cons_of_mem _ hc)
    have hlen : l.length = m.length := by simpa using h
    have v1 := val_lt l hl2
    have v2 := val_lt m hm2
    rw [val_cons, val_cons, hlen] at hv
    rw [hlen] at v1
    rcases hl x (List.mem_cons_self ..) with rfl | rfl <;> rcases hm y (List.mem_cons_self ..) with rfl | rfl
    · simp at hv
      rw [val_inj hl2 hm2 hlen hv]
    · simp at hv
      omega
    · simp at hv
      omega
    · simp at hv
      rw [val_inj hl2 hm2 hlen hv]
theorem trim_inj {l m : List Int} (hl : ∀ c ∈ l, isBit c) (hm : ∀ c ∈ m, isBit c) (h : val l = val m) : trimL l = trimL m := by
  have v1 := trimL_val hl
  have v2 := trimL_val hm
  have b1 := trimL_bit hl
  have b2 := trimL_bit hm
  rw [← v1, ← v2] at h
  rcases trimL_head l with e1 | ⟨r, e1⟩ <;> rcases trimL_head m with e2 | ⟨s, e2⟩
  · rw [e1, e2]
  · rw [e1, e2] at h
    have := one_ge s
    have := Nat.two_pow_pos s.length
    rw [← h, val_nil] at *
    omega
  · rw [e1, e2] at h
    have := one_ge r
    have := Nat.two_pow_pos r.length
    rw [h, val_nil] at *
    omega
  · rw [e1, e2] at h ⊢
    rw [e1] at b1
    rw [e2] at b2
    have g1 := one_ge r
    have g2 := one_ge s
    have l1 := val_lt _ b1
    have l2 := val_lt _ b2
    rw [List.length_cons] at l1 l2
    have : r.length = s.length := by
      rcases Nat.lt_trichotomy r.length s.length with hlt | heq | hlt
      · have : 2 ^ (r.length + 1) ≤ 2 ^ s.length := Nat.pow_le_pow_right (by decide) hlt
        omega
      · exact heq
      · have : 2 ^ (s.length + 1) ≤ 2 ^ r.length := Nat.pow_le_pow_right (by decide) hlt
        omega
    exact val_inj b1 b2 (by simp [this]) h
/-! ### The row of a number -/
def digs : Nat → Nat → List Int
  | 0, _ => []
  | n + 1, v => digs n (v / 2) ++ [((v % 2 : Nat) : Int)]
theorem digs_len : ∀ n v, (digs n v).length = n
  | 0, _ => rfl
  | n + 1, v => by rw [digs, List.length_append, digs_len n]; rfl
theorem digs_bit : ∀ n v, ∀ c ∈ digs n v, isBit c
  | 0, _ => fun c h => by cases h
  | n + 1, v => bits_app (digs_bit n _) fun c h => by
    rw [List.mem_singleton.1 h]
    unfold isBit
    omega
theorem digs_val : ∀ n v, v < 2 ^ n → val (digs n v) = v
  | 0, v, h => by
    rw [Nat.pow_zero] at h
    have : v = 0 := by omega
    rw [this]
    rfl
  | n + 1, v, h => by
    rw [digs, val_snoc, digs_val n (v / 2) (by rw [Nat.pow_succ] at h; omega), Int.toNat_natCast]
    omega
/-- A number's row, trimmed. -/
def rowOf (v : Nat) : List Int := trimL (digs v v)
theorem rowOf_bit (v : Nat) : ∀ c ∈ rowOf v, isBit c := trimL_bit (digs_bit v v)
theorem rowOf_val (v : Nat) : val (rowOf v) = v := by
  unfold rowOf
  rw [trimL_val (digs_bit v v), digs_val v v Nat.lt_two_pow_self]
theorem trim_row {l : List Int} (h : ∀ c ∈ l, isBit c) : trimL l = rowOf (val l) := by
  have := trim_inj h (rowOf_bit (val l)) (rowOf_val (val l)).symm
  rw [this]
  exact trimL_trimL _
theorem rowOf_len {v n : Nat} (h : v < 2 ^ n) : (rowOf v).length ≤ n := by
  have e : rowOf v = trimL (digs n v) := by
    rw [trim_row (digs_bit n v), digs_val n v h]
  rw [e]
  have := trimL_len (digs n v)
  rwa [digs_len] at this
theorem rowOf_zero : rowOf 0 = [] := rfl
theorem rowOf_nil {v : Nat} : rowOf v = [] ↔ v = 0 := by
  constructor
  · intro h
    rw [← rowOf_val v, h]
    rfl
  · intro h
    rw [h]
    rfl
theorem rowOf_cons {v : Nat} (h : v ≠ 0) : ∃ r, rowOf v = 1 :: r := by
  rcases trimL_head (digs v v) with e | ⟨r, e⟩
  · exact absurd (rowOf_nil.1 e) h
  · exact ⟨r, e⟩
/-- How long a number's row is. -/
theorem rowOf_len_iff {v : Nat} (h : v ≠ 0) : 0 < (rowOf v).length ∧ 2 ^ ((rowOf v).length - 1) ≤ v ∧ v < 2 ^ (rowOf v).length := by
  obtain ⟨r, e⟩ := rowOf_cons h
  have h1 := one_ge r
  have h2 := val_lt _ (rowOf_bit v)
  rw [rowOf_val] at h2
  rw [← e, rowOf_val] at h1
  rw [e] at h2 ⊢
  rw [List.length_cons] at h2 ⊢
  exact ⟨by omega, h1, h2⟩
theorem rowOf_self {l : List Int} (h : ∀ c ∈ l, isBit c) (h1 : l = [] ∨ ∃ r, l = 1 :: r) : l = rowOf (val l) := by
  rw [← trim_row h]
  rcases h1 with rfl | ⟨r, rfl⟩
  · rfl
  · unfold trimL
    rw [if_pos rfl]
/-- A row whose first coefficient must be 1. -/
theorem rowOf_top {l : List Int} (h : ∀ c ∈ l, isBit c) (hl : 0 < l.length) (hv : 2 ^ (l.length - 1) ≤ val l) : l = rowOf (val l) := by
  refine rowOf_self h (.inr ?_)
  cases l with
  | nil => cases hl
  | cons x l =>
    rcases h x (List.mem_cons_self ..) with rfl | rfl
    · have := val_lt l fun c hc => h c (List.mem_cons_of_mem _ hc)
      rw [val_cons] at hv
      simp at hv
      omega
    · exact ⟨l, rfl⟩
attribute [irreducible] rowOf val cm
end Go.Proofs.Ytiblpnglmicjcaa.Gf
