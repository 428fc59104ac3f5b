/- Turned by a mask is the page's; turned twice it is what it was; as many bits differ as the mask has ones, where there are bytes: a plain law. -/
import Derived.Test.YtmjbjlhjpdebjaaPL
import Derived.Test.YtmjbjlhjpdebjaaMBitTurns
set_option linter.unusedVariables false
namespace Go.Proofs.Ytmjbjlhjpdebjaa.Mini
open Go Go.RowKit Go.Proofs

theorem u8xor (a b : Int) (ha : Crc.isByte a) (hb : Crc.isByte b) : ∃ n : Nat, n < 256 ∧ bits .xor .u8 a b = (n : Int) ∧ n = a.toNat ^^^ b.toNat := by
  unfold Crc.isByte at ha hb
  have h := u8_xor_nat a.toNat b.toNat (by omega) (by omega)
  rw [Int.toNat_of_nonneg ha.1, Int.toNat_of_nonneg hb.1] at h
  have : a.toNat ^^^ b.toNat < 2 ^ 8 := Nat.xor_lt_two_pow (by omega) (by omega)
  exact ⟨a.toNat ^^^ b.toNat, this, h, rfl⟩
theorem byte_of_nat (n : Nat) (h : n < 256) : Crc.isByte (n : Int) := by
  unfold Crc.isByte
  omega
theorem u8xor_byte (a b : Int) (ha : Crc.isByte a) (hb : Crc.isByte b) : Crc.isByte (bits .xor .u8 a b) := by
  obtain ⟨n, h, e, _⟩ := u8xor a b ha hb
  rw [e]
  exact byte_of_nat n h
theorem u8xor_twice (a b : Int) (ha : Crc.isByte a) (hb : Crc.isByte b) : bits .xor .u8 (bits .xor .u8 a b) b = a := by
  obtain ⟨n, h, e, hn⟩ := u8xor a b ha hb
  obtain ⟨m, h2, e2, hm⟩ := u8xor (n : Int) b (byte_of_nat n h) hb
  rw [e, e2, hm, Int.toNat_natCast, hn, Nat.xor_assoc, Nat.xor_self, Nat.xor_zero]
  unfold Crc.isByte at ha
  omega
theorem u8xor_diff (a b : Int) (ha : Crc.isByte a) (hb : Crc.isByte b) : bits .xor .u8 a (bits .xor .u8 a b) = b := by
  obtain ⟨n, h, e, hn⟩ := u8xor a b ha hb
  obtain ⟨m, h2, e2, hm⟩ := u8xor a (n : Int) ha (byte_of_nat n h)
  rw [e, e2, hm, Int.toNat_natCast, hn, ← Nat.xor_assoc, Nat.xor_self, Nat.zero_xor]
  unfold Crc.isByte at hb
  omega
theorem u8xor_self (a : Int) (ha : Crc.isByte a) : bits .xor .u8 a a = 0 := by
  obtain ⟨n, h, e, hn⟩ := u8xor a a ha ha
  rw [e, hn, Nat.xor_self]
  rfl
/-- Turned by a mask. -/
def turnL : List Int → List Int → List Int
  | x :: l, m :: ms => bits .xor .u8 x m :: turnL l ms
  | l, _ => l
theorem turnL_nil (l : List Int) : turnL l [] = l := by cases l <;> rfl
theorem turnL_len : ∀ l m : List Int, (turnL l m).length = l.length
  | [], [] => rfl
  | [], _ :: _ => rfl
  | _ :: _, [] => rfl
  | _ :: l, _ :: m => congrArg (· + 1) (turnL_len l m)
theorem turnL_twice : ∀ l m : List Int, (∀ c ∈ l, Crc.isByte c) → (∀ c ∈ m, Crc.isByte c) → turnL (turnL l m) m = l
  | [], [], _, _ => rfl
  | [], _ :: _, _, _ => rfl
  | _ :: _, [], _, _ => rfl
  | x :: l, y :: m, h1, h2 => by
    show bits .xor .u8 (bits .xor .u8 x y) y :: turnL (turnL l m) m = x :: l
    rw [u8xor_twice x y (h1 _ (List.mem_cons_self ..)) (h2 _ (List.mem_cons_self ..)), turnL_twice l m (fun c hc => h1 c (List.mem_cons_of_mem _ hc)) (fun c hc => h2 c (List.mem_cons_of_mem _ hc))]
theorem turnL_at : ∀ (l m : List Int) (i : Nat), (∀ c ∈ l, Crc.isByte c) → (∀ c ∈ m, Crc.isByte c) → i < l.length → bits .xor .u8 (l.getD i 0) ((turnL l m).getD i 0) = if i < m.length then m.getD i 0 else 0
  | [], _, i, _, _, h => absurd h (Nat.not_lt_zero i)
  | x :: l, [], i, h1, _, h => by
    have hx : Crc.isByte ((x :: l).getD i 0) := by
      rw [List.getD_eq_getElem?_getD, List.getElem?_eq_getElem h]
      exact h1 _ (List.getElem_mem h)
    rw [turnL_nil, u8xor_self _ hx]
    exact (if_neg (Nat.not_lt_zero i)).symm
  | x :: l, y :: m, 0, h1, h2, _ => by
    show bits .xor .u8 x (bits .xor .u8 x y) = _
    rw [u8xor_diff x y (h1 _ (List.mem_cons_self ..)) (h2 _ (List.mem_cons_self ..))]
    exact (if_pos (Nat.succ_pos _)).symm
  | x :: l, y :: m, i + 1, h1, h2, h => by
    have := turnL_at l m i (fun c hc => h1 c (List.mem_cons_of_mem _ hc)) (fun c hc => h2 c (List.mem_cons_of_mem _ hc)) (Nat.lt_of_succ_lt_succ h)
    show bits .xor .u8 (l.getD i 0) ((turnL l m).getD i 0) = _
    rw [this]
    by_cases hi : i < m.length
    · rw [if_pos hi]
      exact (if_pos (Nat.succ_lt_succ hi)).symm
    · rw [if_neg hi]
      exact (if_neg (fun q => hi (Nat.lt_of_succ_lt_succ q))).symm
theorem set_mid (pre rest : List Int) (x y : Int) (n : Nat) (h : pre.length = n) : List.set (pre ++ x :: rest) (Int.toNat (n : Int)) y = (pre ++ [y]) ++ rest := by
  subst h
  rw [Int.toNat_natCast, List.set_append_right _ _ (Nat.le_refl _), Nat.sub_self]
  simp
theorem turn_steps (p a b : Nat) (ha : a = p + 1 + 0 ∨ True) (h1 : p < a) (h2 : p < b) (h3 : a ≤ 5000) (h4 : b ≤ 5000) : ltI (p : Int) (a : Int) = true ∧ ltI (p : Int) (b : Int) = true ∧ leI 0 (p : Int) = true ∧ wr .i64 ((p : Int) + 1) = ((p + 1 : Nat) : Int) :=
  ⟨ltI_pos (by omega), ltI_pos (by omega), leI_pos (by omega), w64s (by omega)⟩
theorem bitTurn_loop (k : Nat) (mask : List Int) (hm : mask.length ≤ 4096) : ∀ (rest ms pre mp : List Int) (j : Nat), mask = mp ++ ms → pre.length = mp.length → rest.length < j → pre.length + rest.length ≤ 4096 →
    m18F11 k j mask (mn ((pre.length + rest.length : Nat) : Int) (mask.length : Int)) (pre.length : Int) (pre ++ rest) = some (pre ++ turnL rest ms, 0) := by
  intro rest
  induction rest with
  | nil =>
    intro ms pre mp j e hp hj hl
    obtain ⟨j, rfl⟩ : ∃ n, j = n + 1 := ⟨j - 1, by omega⟩
    have hlt : ltI (pre.length : Int) (mn ((pre.length + ([] : List Int).length : Nat) : Int) (mask.length : Int)) = false := by
      unfold mn
      rw [List.length_nil]
      split <;> exact ltI_neg (by omega)
    simp only [m18F11, m18X11]
    rw [if_neg (by rw [hlt]; simp)]
    simp only [m18F18, m18X18]
    cases ms <;> rfl
  | cons x rest ih =>
    intro ms pre mp j e hp hj hl
    obtain ⟨j, rfl⟩ : ∃ n, j = n + 1 := ⟨j - 1, by omega⟩
    have hlen : mask.length = mp.length + ms.length := by rw [e]; simp
    rw [List.length_cons] at hl hj
    cases ms with
    | nil =>
      have hlt : ltI (pre.length : Int) (mn ((pre.length + (x :: rest).length : Nat) : Int) (mask.length : Int)) = false := by
        rw [List.length_nil] at hlen
        unfold mn
        rw [List.length_cons]
        split <;> exact ltI_neg (by omega)
      simp only [m18F11, m18X11]
      rw [if_neg (by rw [hlt]; simp)]
      simp only [m18F18, m18X18]
      rfl
    | cons y ms =>
      rw [List.length_cons] at hlen
      have hlt : ltI (pre.length : Int) (mn ((pre.length + (x :: rest).length : Nat) : Int) (mask.length : Int)) = true := by
        unfold mn
        rw [List.length_cons]
        split <;> exact ltI_pos (by omega)
      have hx : (pre ++ x :: rest).getD (Int.toNat (pre.length : Int)) 0 = x := gd_at pre rest x 0
      have hy : mask.getD (Int.toNat (pre.length : Int)) 0 = y := by rw [e]; exact gd_at' mp ms y 0 pre.length hp.symm
      have h2 := ih ms (pre ++ [bits .xor .u8 x y]) (mp ++ [y]) j (by rw [e]; simp) (by simp [hp]) (by omega) (by simp; omega)
      have e1 : (pre ++ [bits .xor .u8 x y]).length = pre.length + 1 := by simp
      rw [e1] at h2
      have e2 : pre.length + 1 + rest.length = pre.length + (x :: rest).length := by rw [List.length_cons]; omega
      rw [e2] at h2
      have e3 : (pre ++ x :: rest).length = pre.length + (rest.length + 1) := by simp
      obtain ⟨c1, c2, c3, c4⟩ := turn_steps pre.length (pre.length + (rest.length + 1)) mask.length (.inr trivial) (by omega) (by omega) (by omega) (by omega)
      have hs := set_mid pre rest x (bits .xor .u8 x y) pre.length rfl
      simp only [m18F11, m18X11, hlt, e3, c1, c2, c3, c4, if_true, hx, hy, hs]
      rw [h2]
      simp [turnL]
theorem refTurn_loop (k : Nat) (mask : List Int) (hm : mask.length ≤ 4096) : ∀ (rest ms pre mp : List Int) (j : Nat), mask = mp ++ ms → pre.length = mp.length → rest.length < j → pre.length + rest.length ≤ 4096 →
    m19F11 k j mask (pre.length : Int) (pre ++ rest) = some (pre ++ turnL rest ms, 0) := by
  intro rest
  induction rest with
  | nil =>
    intro ms pre mp j e hp hj hl
    obtain ⟨j, rfl⟩ : ∃ n, j = n + 1 := ⟨j - 1, by omega⟩
    simp only [m19F11, m19X11]
    rw [if_neg (by rw [List.append_nil, ltI_neg (by omega)]; simp)]
    simp only [m19F16, m19X16]
    cases ms <;> rfl
  | cons x rest ih =>
    intro ms pre mp j e hp hj hl
    obtain ⟨j, rfl⟩ : ∃ n, j = n + 1 := ⟨j - 1, by omega⟩
    have hlen : mask.length = mp.length + ms.length := by rw [e]; simp
    rw [List.length_cons] at hl hj
    have e3 : (pre ++ x :: rest).length = pre.length + (rest.length + 1) := by simp
    cases ms with
    | nil =>
      rw [List.length_nil] at hlen
      have c1 : ltI (pre.length : Int) ((pre.length + (rest.length + 1) : Nat) : Int) = true := ltI_pos (by omega)
      simp only [m19F11, m19X11, e3, c1, if_true]
      rw [if_neg (by rw [ltI_neg (by omega)]; simp)]
      simp only [m19F16, m19X16]
      rfl
    | cons y ms =>
      rw [List.length_cons] at hlen
      have hx : (pre ++ x :: rest).getD (Int.toNat (pre.length : Int)) 0 = x := gd_at pre rest x 0
      have hy : mask.getD (Int.toNat (pre.length : Int)) 0 = y := by rw [e]; exact gd_at' mp ms y 0 pre.length hp.symm
      have h2 := ih ms (pre ++ [bits .xor .u8 x y]) (mp ++ [y]) j (by rw [e]; simp) (by simp [hp]) (by omega) (by simp; omega)
      have e1 : (pre ++ [bits .xor .u8 x y]).length = pre.length + 1 := by simp
      rw [e1] at h2
      obtain ⟨c1, c2, c3, c4⟩ := turn_steps pre.length (pre.length + (rest.length + 1)) mask.length (.inr trivial) (by omega) (by omega) (by omega) (by omega)
      have hs := set_mid pre rest x (bits .xor .u8 x y) pre.length rfl
      simp only [m19F11, m19X11, e3, c1, c2, c3, c4, if_true, hx, hy, hs]
      rw [h2]
      simp [turnL]
theorem bitTurn_eq (k : Nat) (hk : 5001 ≤ k) (b m : List Int) (hb : b.length ≤ 4096) (hm : m.length ≤ 4096) : m18F k b m = some (turnL b m, 0) := by
  have h := bitTurn_loop k m hm b m [] [] k rfl rfl (by omega) (by rw [List.length_nil]; omega)
  rw [List.length_nil, Nat.zero_add] at h
  simp only [m18F, m18X]
  rw [if_neg (by rw [ltI_neg (by omega)]; simp), if_neg (by rw [ltI_neg (by omega)]; simp), clone_eq k b (by omega), Option.bind_some]
  exact h
theorem refTurn_eq (k : Nat) (hk : 5001 ≤ k) (b m : List Int) (hb : b.length ≤ 4096) (hm : m.length ≤ 4096) : m19F k b m = some (turnL b m, 0) := by
  have h := refTurn_loop k m hm b m [] [] k rfl rfl (by omega) (by rw [List.length_nil]; omega)
  simp only [m19F, m19X]
  rw [if_neg (by rw [ltI_neg (by omega)]; simp), if_neg (by rw [ltI_neg (by omega)]; simp), twin_eq k b (by omega), Option.bind_some]
  exact h
theorem isByte_at {l : List Int} (h : ∀ c ∈ l, Crc.isByte c) (i : Nat) (hi : i < l.length) : ∃ n : Nat, n < 256 ∧ l.getD i 0 = (n : Int) := by
  have hx : l.getD i 0 ∈ l := by
    rw [List.getD_eq_getElem?_getD, List.getElem?_eq_getElem hi]
    exact List.getElem_mem hi
  have := h _ hx
  unfold Crc.isByte at this
  exact ⟨(l.getD i 0).toNat, by omega, by omega⟩
theorem byte_wr (y : Nat) (h : y < 256) : wr .i64 (y : Int) = (y : Int) := w64n (by omega)
theorem count_ar (s q i : Nat) (hs : s ≤ 32 * i) (hq : q ≤ 32) (hi : i ≤ 300) : wr .i64 ((s : Int) + (q : Int)) = ((s + q : Nat) : Int) ∧ s + q ≤ 32 * (i + 1) := ⟨by rw [w64 (by omega) (by omega)]; omega, by omega⟩
theorem count_loop (k : Nat) (hk : 5001 ≤ k) (b m : List Int) (hb : b.length ≤ 300) (hbb : ∀ c ∈ b, Crc.isByte c) (hmb : ∀ c ∈ m, Crc.isByte c) (hm : m.length ≤ 300) : ∀ (n j i s : Nat), i + n = b.length → n < j → s ≤ 32 * i →
    m5F27 k j b m (s : Int) (s : Int) (i : Int) (turnL b m) = some true := by
  have e0 : ∀ z : Int, eqI z z = true := fun z => eqI_pos rfl
  intro n
  induction n with
  | zero =>
    intro j i s h hj hs
    obtain ⟨j, rfl⟩ : ∃ m, j = m + 1 := ⟨j - 1, by omega⟩
    simp only [m5F27, m5X27]
    rw [if_neg (by rw [ltI_neg (by omega)]; simp)]
    simp only [m5F36, m5X36, e0, if_true, wakes01 k hk, Option.bind_some]
  | succ n ih =>
    intro j i s h hj hs
    obtain ⟨j, rfl⟩ : ∃ m, j = m + 1 := ⟨j - 1, by omega⟩
    have hi : i < b.length := by omega
    have ha := turnL_at b m i hbb hmb hi
    have tl := turnL_len b m
    have hi3 : i ≤ 300 := by omega
    have hin : i + 1 + n = b.length := by omega
    have hnj : n < j := by omega
    have ar : ltI (i : Int) (b.length : Int) = true ∧ leI 0 (i : Int) = true ∧ wr .i64 ((i : Int) + 1) = ((i + 1 : Nat) : Int) := ⟨ltI_pos (by omega), leI_pos (by omega), w64s (by omega)⟩
    obtain ⟨c1, c2, c3⟩ := ar
    by_cases him : i < m.length
    · rw [if_pos him] at ha
      obtain ⟨y, hy, ey⟩ := isByte_at hmb i him
      rw [ey] at ha
      have wy : wr .i64 (y : Int) = (y : Int) := byte_wr y hy
      have o1 := ones_nat k y
      have o2 := refones_nat k y hk (Nat.lt_trans hy (by decide))
      have c4 : ltI (i : Int) (m.length : Int) = true := ltI_pos (Int.ofNat_lt.2 him)
      have hq := Pop.pop_le 32 y
      obtain ⟨w1, h4⟩ := count_ar s (Pop.pop 32 y) i hs hq hi3
      have := ih j (i + 1) (s + Pop.pop 32 y) hin hnj h4
      simp only [m5F27, m5X27, tl, c1, c2, c4, if_true, Int.toNat_natCast, ha, ey, wy, o1, o2, Option.bind_some, w1, m5F28, m5X28, c3]
      exact this
    · rw [if_neg him] at ha
      have w0 : wr .i64 0 = 0 := w64 (by decide) (by decide)
      have o1 := ones_nat k 0
      rw [Pop.pop_zero] at o1
      have o2 : m10F k 0 = some 0 := o1
      have c4 : ¬ ltI (i : Int) (m.length : Int) = true := by rw [ltI_neg (fun h => him (Int.ofNat_lt.1 h))]; simp
      obtain ⟨w1, h4⟩ := count_ar s 0 i hs (by decide) hi3
      have w2 : wr .i64 ((s : Int) + 0) = (s : Int) := w1
      have := ih j (i + 1) s hin hnj h4
      simp only [m5F27, m5X27, tl, c1, c2, if_true, Int.toNat_natCast, ha, w0, o2, Option.bind_some, w2, if_neg c4, m5F28, m5X28, c3]
      exact this
theorem bitTurns (b m : List Int) (wb : WfK (.row (.int .u8)) b) (wm : WfK (.row (.int .u8)) m) : ∃ k, m5F k b m = some true := by
  refine ⟨6000, ?_⟩
  have hb := bytes_wf wb
  have hm := bytes_wf wm
  have hz : ∀ z : Int, (!eqI z z) = false := fun z => by rw [eqI_pos rfl]; rfl
  simp only [m5F, m5X]
  by_cases lb : b.length ≤ 300
  · rw [if_neg (show ¬ (ltI 300 (b.length : Int) = true) by rw [ltI_neg (by omega)]; simp)]
    by_cases lm : m.length ≤ 300
    · rw [if_neg (show ¬ (ltI 300 (m.length : Int) = true) by rw [ltI_neg (by omega)]; simp)]
      have tl := turnL_len b m
      have h1 := twin_eq 6000 b (by omega)
      have h2 := twin_eq 6000 m (by omega)
      have h3 := bitTurn_eq 6000 (by decide) b m (by omega) (by omega)
      have h4 := refTurn_eq 6000 (by decide) b m (by omega) (by omega)
      have h5 := bytes_eq' 6000 (by decide) (turnL b m) (turnL b m) (by omega)
      have h6 := bytes_eq' 6000 (by decide) b b (by omega)
      have h7 := bytes_eq' 6000 (by decide) m m (by omega)
      have h8 := bitTurn_eq 6000 (by decide) (turnL b m) m (by omega) (by omega)
      rw [turnL_twice b m hb hm] at h8
      have lp := count_loop 6000 (by decide) b m lb hb hm lm b.length 6000 0 0 (by omega) (by omega) (by omega)
      simp only [h1, h2, h3, h4, h5, h6, h7, h8, decide_true, Option.bind_some, hz, Bool.not_true, Bool.false_eq_true, if_false, tl]
      exact lp
    · rw [if_pos (ltI_pos (by omega))]
  · rw [if_pos (ltI_pos (by omega))]

end Go.Proofs.Ytmjbjlhjpdebjaa.Mini
