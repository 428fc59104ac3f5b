/- The witness that is told is the first one: behind so many true blocks one that is none, whatever stands behind it; a block that came ahead of its message is one, too: a plain law. -/
import Derived.Test.YtbbmdflfonifnaaPL
import Derived.Test.YtbbmdflfonifnaaMAuditFirst
set_option linter.unusedVariables false
set_option linter.unusedSimpArgs false
namespace Go.Proofs.Ytbbmdflfonifnaa.Mini
open Go Go.RowKit Go.Proofs

theorem pk_num (B s : Nat) (msg : List Int) (i : Nat) : (pk B s msg i).take 4 = Be.be 4 (((s + i : Nat) : Nat) : Int) := by
  unfold pk blkPack blkBody
  have hl : (Be.be 4 ((s : Int) + (i : Int))).length = 4 := Be.be_length ..
  rw [List.append_assoc, List.append_assoc, List.append_assoc, List.take_append_of_le_length (by omega), List.take_of_length_le (by omega), Int.natCast_add]
theorem allB_num (B : Nat) (l : List (List Int)) : ∀ i, i < (allB B l).length → ((allB B l).getD i []).take 4 = Be.be 4 (i : Int) := by
  suffices key : ∀ (rest pre : List (List Int)), l = pre ++ rest → (∀ i, i < (allB B pre).length → ((allB B pre).getD i []).take 4 = Be.be 4 (i : Int)) → ∀ i, i < (allB B l).length → ((allB B l).getD i []).take 4 = Be.be 4 (i : Int) from key l [] rfl fun i hi => by cases hi
  intro rest
  induction rest with
  | nil =>
    intro pre e hp
    rw [List.append_nil] at e
    rw [e]
    exact hp
  | cons y rest ih =>
    intro pre e hp
    refine ih (pre ++ [y]) (by rw [e]; simp) fun i hi => ?_
    rw [allB_snoc] at hi ⊢
    rw [List.length_append, packs_len] at hi
    rw [List.getD_eq_getElem?_getD]
    by_cases h : i < (allB B pre).length
    · rw [List.getElem?_append_left h, ← List.getD_eq_getElem?_getD]
      exact hp i h
    · rw [List.getElem?_append_right (by omega)]
      unfold packs
      rw [List.getElem?_map, List.getElem?_range (by omega)]
      show (pk B (allB B pre).length y (i - (allB B pre).length)).take 4 = _
      rw [pk_num, show (allB B pre).length + (i - (allB B pre).length) = i by omega]
theorem last_new (B : Nat) (hB : 1 ≤ B) (l : List (List Int)) (h0 : 0 < l.length) (hn : (allB B l).length ≤ 100000) : (allB B l).getD ((allB B l).length - 1) [] ∉ allB B (l.take (l.length - 1)) := by
  intro hm
  have hl : l = l.take (l.length - 1) ++ [l.getD (l.length - 1) []] := by
    have h1 : l.getD (l.length - 1) [] = l[l.length - 1] := by rw [List.getD_eq_getElem?_getD, List.getElem?_eq_getElem (by omega)]; rfl
    rw [h1]
    have := List.take_append_drop (l.length - 1) l
    rw [List.drop_eq_getElem_cons (by omega), List.drop_of_length_le (by omega)] at this
    exact this.symm
  have hlt : (allB B (l.take (l.length - 1))).length < (allB B l).length := by
    have h2 := congrArg (allB B) hl
    rw [allB_snoc] at h2
    have h3 := congrArg List.length h2
    rw [List.length_append, packs_len] at h3
    have := nBlk_pos B (l.getD (l.length - 1) []).length hB
    omega
  have htk := allB_take B l (l.length - 1)
  obtain ⟨i, hi, he⟩ := List.getElem_of_mem hm
  have h4 : (allB B (l.take (l.length - 1)))[i] = (allB B l).getD i [] := by
    rw [List.getD_eq_getElem?_getD]
    have : (allB B (l.take (l.length - 1)))[i]? = (allB B l)[i]? := by
      rw [← htk, List.getElem?_take, if_pos hi]
    rw [← this, List.getElem?_eq_getElem hi]
    rfl
  rw [h4] at he
  have n1 := allB_num B l i (by omega)
  have n2 := allB_num B l ((allB B l).length - 1) (by omega)
  rw [he, n2] at n1
  have e1 := Be.num_be' 4 ((((allB B l).length - 1 : Nat)) : Int) (by omega) (by simp; omega)
  have e2 := Be.num_be' 4 (i : Int) (by omega) (by simp; omega)
  rw [n1, e2] at e1
  omega
theorem bad_none (B : Nat) (l : List (List Int)) (x : List Int) (n : Nat) (hx : x ∈ allB B (l.take n)) : blkBad B l (x, (n : Int)) = false := by
  unfold blkBad
  rw [Int.toNat_natCast, Bool.not_eq_false', List.any_eq_true]
  exact ⟨x, hx, decide_eq_true rfl⟩
theorem bad_some (B : Nat) (l : List (List Int)) (x : List Int) (n : Nat) (hx : x ∉ allB B (l.take n)) : blkBad B l (x, (n : Int)) = true := by
  unfold blkBad
  rw [Int.toNat_natCast, Bool.not_eq_true', List.any_eq_false]
  intro y hy h
  have e : y = x := of_decide_eq_true h
  exact hx (e ▸ hy)
theorem had_one (x : List Int × Int) : List.set (List.replicate 1 (([] : List Int), (0 : Int))) 0 x = [x] := (congrArg (fun z : List Int × Int => [z]) (Eq.refl x) : [x] = [x])
theorem had_two (x y : List Int × Int) : List.set (List.set (List.replicate 2 (([] : List Int), (0 : Int))) 0 x) 1 y = [x, y] := (congrArg (fun z : List Int × Int => [z, y]) (Eq.refl x) : [x, y] = [x, y])
theorem first_ar (n m h : Nat) (hn : n ≤ 20000) (h0 : 0 < n) (hm : m ≤ 60) (m0 : 0 < m) (hh : h ≤ 900) : leI (((0 + h) * 32 : Nat) : Int) 140737488355328 = true ∧ leI (((h + 2) * 32 : Nat) : Int) 140737488355328 = true ∧ leI (((h + 1) * 32 : Nat) : Int) 140737488355328 = true ∧ wr .i64 ((n : Int) - 1) = ((n - 1 : Nat) : Int) ∧ leI 0 ((n - 1 : Nat) : Int) = true ∧ ltI ((n - 1 : Nat) : Int) (n : Int) = true ∧ wr .i64 ((m : Int) - 1) = ((m - 1 : Nat) : Int) :=
  ⟨leI_pos (by omega), leI_pos (by omega), leI_pos (by omega), by rw [w64 (by omega) (by omega)]; omega, leI_pos (by omega), ltI_pos (by omega), by rw [w64 (by omega) (by omega)]; omega⟩
theorem first_end (k : Nat) (hk : 20000 ≤ k) (l : List (List Int)) (B : Nat) (c1 c2 c3 c4 c5 c6 c7 c8 c9 : Int) (ok : cfgOk (B : Int) c1 c2 c3 c4 c5 c6 c7 c8 c9) (hl : l.length ≤ 30) (hl0 : 0 < l.length) (hb : ∀ m ∈ l, IsB m) (h8 : ∀ m ∈ l, (m.length : Int) ≤ c8) (hs : List (List Int × Int)) (hn : hs.length ≤ 900) (hh : ∀ h ∈ hs, h.2 = (l.length : Int) ∧ h.1 ∈ allB B l)
    (other bad : List Int) (ho : IsB other) (hbad : IsB bad) (hno : bad ∉ allB B l) : m6F54 k l other (allB B l) hs bad (B : Int) c1 c2 c3 c4 c5 c6 c7 c8 c9 = some true := by
  have hB := ok.1
  have h8' := ok.2.2.2.2.2.2.2.2.1
  unfold within at hB h8'
  have hab := allB_bytes B (by omega) (by omega) l hb
  have hal := allB_len B (by omega) l (fun m hm => by have := h8 m hm; omega)
  have g0 : GoodH l.length hs := fun h hm => by
    obtain ⟨e1, e2⟩ := hh h hm
    exact ⟨(hab _ e2).1, by omega, by omega⟩
  have hgood : ∀ h ∈ hs, blkBad B l h = false := fun h hm => by
    obtain ⟨e1, e2⟩ := hh h hm
    have : h = (h.1, ((l.length : Nat) : Int)) := by rw [← e1]
    rw [this]
    exact bad_none B l h.1 l.length (by rw [List.take_length]; exact e2)
  have hlast : (allB B l).getD ((allB B l).length - 1) [] ∈ allB B l := by
    rw [List.getD_eq_getElem?_getD, List.getElem?_eq_getElem (by omega)]
    exact List.getElem_mem _
  have hnew := last_new B (by omega) l hl0 (by omega)
  have g1 : GoodH l.length (hs ++ [(bad, (l.length : Int)), (other, 0)]) := fun h hm => by
    rcases List.mem_append.1 hm with hm | hm
    · exact g0 h hm
    · rcases List.mem_cons.1 hm with rfl | hm
      · exact ⟨hbad, by show (0 : Int) ≤ (l.length : Int); omega, by show (l.length : Int) ≤ (l.length : Int); omega⟩
      · rw [List.mem_singleton.1 hm]
        exact ⟨ho, by show (0 : Int) ≤ 0; omega, by show (0 : Int) ≤ (l.length : Int); omega⟩
  have g2 : GoodH l.length (hs ++ [((allB B l).getD ((allB B l).length - 1) [], ((l.length - 1 : Nat) : Int))]) := fun h hm => by
    rcases List.mem_append.1 hm with hm | hm
    · exact g0 h hm
    · rw [List.mem_singleton.1 hm]
      exact ⟨(hab _ hlast).1, by show (0 : Int) ≤ ((l.length - 1 : Nat) : Int); omega, by show ((l.length - 1 : Nat) : Int) ≤ (l.length : Int); omega⟩
  have b1 := auditBlk_eq k hk l (by omega) hb B c1 c2 c3 c4 c5 c6 c7 c8 c9 ok h8 _ (by rw [List.length_append]; simp only [List.length_cons, List.length_nil]; omega) g1
  have b2 := auditBlk_eq k hk l (by omega) hb B c1 c2 c3 c4 c5 c6 c7 c8 c9 ok h8 _ (by rw [List.length_append]; simp only [List.length_cons, List.length_nil]; omega) g2
  rw [fidx_at (blkBad B l) (bad, (l.length : Int)) [(other, 0)] (bad_some B l bad l.length (by rw [List.take_length]; exact hno)) hs 0 hgood, Nat.zero_add] at b1
  rw [fidx_at (blkBad B l) _ [] (bad_some B l _ (l.length - 1) hnew) hs 0 hgood, Nat.zero_add] at b2
  have e0 : ∀ z : Int, eqI z z = true := fun z => eqI_pos rfl
  have w26 := wakes26 k (by omega)
  have hl2 : ∀ x y : List Int × Int, [x, y].length = 2 := fun _ _ => rfl
  obtain ⟨q1, q2, q3, q4, q5, q6, q7⟩ := first_ar (allB B l).length l.length hs.length (by omega) (by omega) (by omega) hl0 hn
  simp only [m6F54, m6X54, q1, if_true, List.replicate_zero, List.nil_append, had_two, had_one, hl2, q2, q4, q5, q6, Int.toNat_natCast, List.length_singleton, q3, q7, b1, b2, Option.bind_some, e0, w26]
theorem first_loop (k : Nat) (hk : 20000 ≤ k) (l : List (List Int)) (B : Nat) (c1 c2 c3 c4 c5 c6 c7 c8 c9 : Int) (all : List (List Int)) (hal : all.length ≤ 20000) (hs : List (List Int × Int)) (other bad : List Int) (hlen : ∀ x ∈ all, x.length ≤ 5000) (X : bad ∉ all → m6F54 k l other all hs bad (B : Int) c1 c2 c3 c4 c5 c6 c7 c8 c9 = some true) :
    ∀ (rest pre : List (List Int)) (j : Nat), all = pre ++ rest → rest.length < j → bad ∉ pre → m6F47 k j l other all hs bad (pre.length : Int) (B : Int) c1 c2 c3 c4 c5 c6 c7 c8 c9 = some true := by
  intro rest
  induction rest with
  | nil =>
    intro pre j e hj h
    obtain ⟨j, rfl⟩ : ∃ n, j = n + 1 := ⟨j - 1, by omega⟩
    have hlen : all.length = pre.length := by rw [e]; simp
    rw [List.append_nil] at e
    rw [m6F47, m6X47, if_neg (by rw [ltI_neg (by omega)]; simp)]
    exact X (e ▸ h)
  | cons x rest ih =>
    intro pre j e hj h
    obtain ⟨j, rfl⟩ : ∃ n, j = n + 1 := ⟨j - 1, by omega⟩
    have hl : all.length = pre.length + (rest.length + 1) := by rw [e]; simp
    have hx : all.getD (Int.toNat (pre.length : Int)) [] = x := by rw [e]; exact gd_at pre rest x []
    have hq := bytes_eq' k (by omega) x bad (hlen x (by rw [e]; simp))
    obtain ⟨s1, s2, s3⟩ := idx_ar pre.length all.length (by omega) (by omega)
    rw [m6F47, m6X47]
    simp only [s1, s2, if_true, hx, hq, Option.bind_some, s3]
    by_cases hb : x = bad
    · rw [decide_eq_true hb, if_pos rfl, wakes26 k (by omega)]
      rfl
    · rw [decide_eq_false hb, if_neg (by simp)]
      have := ih (pre ++ [x]) j (by rw [e]; simp) (by simp only [List.length_cons] at hj; omega) (fun hm => by
        rcases List.mem_append.1 hm with hm | hm
        · exact h hm
        · exact hb (List.mem_singleton.1 hm).symm)
      rw [List.length_append, List.length_singleton] at this
      exact this
theorem xor8_b (x y : Int) : Crc.isByte (bits .xor .u8 x y) := by
  have e : bits .xor .u8 x y = IntKind.u8.wrap ((BitVec.ofInt 8 x ^^^ BitVec.ofInt 8 y).toNat : Int) := rfl
  rw [e]
  generalize ((BitVec.ofInt 8 x ^^^ BitVec.ofInt 8 y).toNat : Int) = z
  have : IntKind.u8.wrap z = z % 256 := by rw [IntKind.wrap_u8]
  rw [this]
  unfold Crc.isByte
  omega
theorem first36 (k : Nat) (hk : 20000 ≤ k) (l : List (List Int)) (B : Nat) (c1 c2 c3 c4 c5 c6 c7 c8 c9 : Int) (ok : cfgOk (B : Int) c1 c2 c3 c4 c5 c6 c7 c8 c9) (hl : l.length ≤ 30) (hl0 : 0 < l.length) (hb : ∀ m ∈ l, IsB m) (h8 : ∀ m ∈ l, (m.length : Int) ≤ c8) (hs : List (List Int × Int)) (hn : hs.length ≤ 900) (hh : ∀ h ∈ hs, h.2 = (l.length : Int) ∧ h.1 ∈ allB B l)
    (other : List Int) (turn : Int) (ho : IsB other) : m6F36 k l other turn (B : Int) c1 c2 c3 c4 c5 c6 c7 c8 c9 (allB B l) hs = some true := by
  have hB := ok.1
  have h8' := ok.2.2.2.2.2.2.2.2.1
  unfold within at hB h8'
  have hab := allB_bytes B (by omega) (by omega) l hb
  have hal := allB_len B (by omega) l (fun m hm => by have := h8 m hm; omega)
  have hlast : (allB B l).getD ((allB B l).length - 1) [] ∈ allB B l := by
    rw [List.getD_eq_getElem?_getD, List.getElem?_eq_getElem (by omega)]
    exact List.getElem_mem _
  obtain ⟨x1, x2⟩ := hab _ hlast
  have lp := fun bad (hbad : IsB bad) => first_loop k hk l B c1 c2 c3 c4 c5 c6 c7 c8 c9 (allB B l) (by omega) hs other bad (fun x hx => by have := (hab x hx).2; omega) (fun h => first_end k hk l B c1 c2 c3 c4 c5 c6 c7 c8 c9 ok hl hl0 hb h8 hs hn hh other bad ho hbad h) (allB B l) [] k rfl (by omega) (fun h => by cases h)
  generalize hx : (allB B l).getD ((allB B l).length - 1) [] = x at x1 x2
  have tw := twin_eq k x (by omega)
  have q0 : ltI (x.length : Int) 4 = false := ltI_neg (by omega)
  have q1 : leI 0 3 = true := leI_pos (by decide)
  have q2 : ltI 3 (x.length : Int) = true := ltI_pos (by omega)
  have hbad : IsB (x.set 3 (bits .xor .u8 (x.getD 3 0) turn)) := fun c hc => by
    rcases List.mem_or_eq_of_mem_set hc with hc | rfl
    · exact x1 c hc
    · exact xor8_b _ _
  obtain ⟨_, _, _, q4, q5, q6, _⟩ := first_ar (allB B l).length l.length hs.length (by omega) (by omega) (by omega) hl0 hn
  simp only [m6F36, m6X36, q4, q5, q6, if_true, Int.toNat_natCast, hx, tw, Option.bind_some, q0, q1, q2, Bool.false_eq_true, if_false]
  exact lp _ hbad
theorem first_had (k : Nat) (hk : 20000 ≤ k) (l : List (List Int)) (own other : List Int) (ho : own.length ≤ 30) (turn : Int) (B : Nat) (c1 c2 c3 c4 c5 c6 c7 c8 c9 : Int) (hxl : (allB B l).length ≤ 20000) (hx0 : 0 < (allB B l).length) (X : ∀ hs : List (List Int × Int), hs.length ≤ 900 → (∀ h ∈ hs, h.2 = (l.length : Int) ∧ h.1 ∈ allB B l) → m6F36 k l other turn (B : Int) c1 c2 c3 c4 c5 c6 c7 c8 c9 (allB B l) hs = some true) :
    ∀ (rest pre : List Int) (j : Nat) (hs : List (List Int × Int)), own = pre ++ rest → rest.length < j → hs.length ≤ pre.length → (∀ h ∈ hs, h.2 = (l.length : Int) ∧ h.1 ∈ allB B l) →
    m6F31 k j l own other turn (pre.length : Int) (B : Int) c1 c2 c3 c4 c5 c6 c7 c8 c9 (allB B l) hs = some true := by
  intro rest
  induction rest with
  | nil =>
    intro pre j hs e hj hn hh
    obtain ⟨j, rfl⟩ : ∃ n, j = n + 1 := ⟨j - 1, by omega⟩
    have hlen : own.length = pre.length := by rw [e]; simp
    rw [m6F31, m6X31, if_neg (by rw [ltI_neg (by omega)]; simp)]
    exact X hs (by omega) hh
  | cons x rest ih =>
    intro pre j hs e hj hn hh
    obtain ⟨j, rfl⟩ : ∃ n, j = n + 1 := ⟨j - 1, by omega⟩
    have hlen : own.length = pre.length + (rest.length + 1) := by rw [e]; simp
    have hx : own.getD (Int.toNat (pre.length : Int)) 0 = x := by rw [e]; exact gd_at pre rest x 0
    have hx' : own.getD pre.length 0 = x := hx
    obtain ⟨a, ha, ea⟩ := umod0 x (allB B l).length (by omega)
    have hmem : (allB B l).getD a [] ∈ allB B l := by
      rw [List.getD_eq_getElem?_getD, List.getElem?_eq_getElem ha]
      exact List.getElem_mem _
    have hi := ih (pre ++ [x]) j (hs ++ [((allB B l).getD a [], (l.length : Int))]) (by rw [e]; simp) (by simp only [List.length_cons] at hj; omega) (by simp only [List.length_append, List.length_singleton]; omega) (fun h hm => by
      rcases List.mem_append.1 hm with hm | hm
      · exact hh h hm
      · rw [List.mem_singleton.1 hm]
        exact ⟨rfl, hmem⟩)
    rw [List.length_append, List.length_singleton] at hi
    have ar : wr .u64 ((allB B l).length : Int) = ((allB B l).length : Int) ∧ (!eqI ((allB B l).length : Int) 0) = true ∧ leI (((hs.length + 1) * 32 : Nat) : Int) 140737488355328 = true ∧ wr .i64 (a : Int) = (a : Int) ∧ leI 0 (a : Int) = true ∧ ltI (a : Int) ((allB B l).length : Int) = true := by
      clear ea
      exact ⟨wu64 (by omega) (by omega), by rw [eqI_neg (by omega)]; rfl, leI_pos (by omega), w64n (by omega), leI_pos (by omega), ltI_pos (by omega)⟩
    obtain ⟨q2, q3, q4, q5, q6, q7⟩ := ar
    obtain ⟨s1, s2, s3⟩ := idx_ar pre.length own.length (by omega) (by omega)
    rw [m6F31, m6X31]
    simp only [s1, s2, s3, if_true, q2, q3, hx, hx', ea, q5, q6, q7, Int.toNat_natCast, had_one, List.length_singleton, q4]
    exact hi
theorem first_sizes (k : Nat) (l : List (List Int)) (own other : List Int) (turn b c1 c2 c3 c4 c5 c6 c7 c8 c9 : Int) (hl : l.length ≤ 60) (X : (∀ x ∈ l, (x.length : Int) ≤ c8) → m6F16 k l own other turn b c1 c2 c3 c4 c5 c6 c7 c8 c9 = some true) : ∀ (rest pre : List (List Int)) (j : Nat), l = pre ++ rest → rest.length < j → (∀ x ∈ pre, (x.length : Int) ≤ c8) →
    m6F9 k j l own other turn (pre.length : Int) b c1 c2 c3 c4 c5 c6 c7 c8 c9 = some true := by
  intro rest
  induction rest with
  | nil =>
    intro pre j e hj h
    obtain ⟨j, rfl⟩ : ∃ n, j = n + 1 := ⟨j - 1, by omega⟩
    have hlen : l.length = pre.length := by rw [e]; simp
    rw [List.append_nil] at e
    rw [m6F9, m6X9, if_neg (by rw [ltI_neg (by omega)]; simp)]
    exact X (e ▸ h)
  | cons x rest ih =>
    intro pre j e hj h
    obtain ⟨j, rfl⟩ : ∃ n, j = n + 1 := ⟨j - 1, by omega⟩
    have hlen : l.length = pre.length + (rest.length + 1) := by rw [e]; simp
    have hx : l.getD (Int.toNat (pre.length : Int)) [] = x := by rw [e]; exact gd_at pre rest x []
    obtain ⟨s1, s2, s3⟩ := idx_ar pre.length l.length (by omega) (by omega)
    rw [m6F9, m6X9]
    simp only [s1, s2, if_true, hx, s3]
    by_cases h250 : (x.length : Int) ≤ c8
    · rw [if_neg (by rw [ltI_neg (by omega)]; simp)]
      have := ih (pre ++ [x]) j (by rw [e]; simp) (by simp only [List.length_cons] at hj; omega) (fun y hy => by
        rcases List.mem_append.1 hy with hy | hy
        · exact h y hy
        · rw [List.mem_singleton.1 hy]
          exact h250)
      rw [List.length_append, List.length_singleton] at this
      exact this
    · rw [if_pos (ltI_pos (by omega))]
theorem first16 (k : Nat) (hk : 20000 ≤ k) (l : List (List Int)) (own other : List Int) (turn : Int) (B : Nat) (c1 c2 c3 c4 c5 c6 c7 c8 c9 : Int) (ok : cfgOk (B : Int) c1 c2 c3 c4 c5 c6 c7 c8 c9) (hl : l.length ≤ 30) (hb : ∀ m ∈ l, IsB m) (h8 : ∀ m ∈ l, (m.length : Int) ≤ c8) (ho : own.length ≤ 30) (hot : IsB other) :
    m6F16 k l own other turn (B : Int) c1 c2 c3 c4 c5 c6 c7 c8 c9 = some true := by
  have hB := ok.1
  have h8' := ok.2.2.2.2.2.2.2.2.1
  unfold within at hB h8'
  have b1 := blocks_ok k (by omega) l (by omega) hb B c1 c2 c3 c4 c5 c6 c7 c8 c9 ok h8
  have hal := allB_len B (by omega) l (fun m hm => by have := h8 m hm; omega)
  have hz : ∀ z : Int, (!eqI z z) = false := fun z => by rw [eqI_pos rfl]; rfl
  have d1 : ltI ((allB B l).length : Int) (l.length : Int) = false := ltI_neg (by omega)
  simp only [m6F16, m6X16, m15F, m15X, b1, Option.bind_some, hz, Bool.false_eq_true, if_false, d1]
  by_cases h0 : (allB B l).length = 0
  · rw [if_pos (eqI_pos (by omega)), wakes26 k (by omega)]
    rfl
  · have hl0 : 0 < l.length := by
      cases l with
      | nil => exact absurd rfl h0
      | cons x l => rw [List.length_cons]; omega
    rw [if_neg (by rw [eqI_neg (by omega)]; simp)]
    exact first_had k hk l own other ho turn B c1 c2 c3 c4 c5 c6 c7 c8 c9 (by omega) (by omega) (fun hs h1 h2 => first36 k hk l B c1 c2 c3 c4 c5 c6 c7 c8 c9 ok hl hl0 hb h8 hs h1 h2 other turn hot) own [] k [] rfl (by omega) (Nat.le_refl _) (fun h hm => by cases hm)
theorem auditFirst (c : Int × (Int × (Int × (Int × (Int × (Int × (Int × (Int × (Int × Int))))))))) (l : List (List Int)) (own other : List Int) (turn : Int) (wc : WfK (.pair (.int .i64) (.pair (.int .i64) (.pair (.int .i64) (.pair (.int .i64) (.pair (.int .i64) (.pair (.int .i64) (.pair (.int .i64) (.pair (.int .i64) (.pair (.int .i64) (.int .i64)))))))))) c)
    (wl : WfK (.row (.row (.int .u8))) l) (wo : WfK (.row (.int .i64)) own) (wot : WfK (.row (.int .u8)) other) (wt : (Lit.int .u8 turn).wf = true) : ∃ k, m6F k c l own other turn = some true := by
  refine ⟨20000, ?_⟩
  obtain ⟨b, c1, c2, c3, c4, c5, c6, c7, c8, c9⟩ := c
  simp only [m6F, m6X, config_eq, Option.bind_some]
  by_cases ok : cfgOk b c1 c2 c3 c4 c5 c6 c7 c8 c9
  · obtain ⟨B, rfl⟩ := Int.eq_ofNat_of_zero_le (show 0 ≤ b by have := ok.1.1; omega)
    rw [decide_eq_true ok, if_neg (by simp)]
    obtain ⟨v1, f1, g1⟩ := heavy26 20000 (by decide) l
    rw [f1, Option.bind_some]
    cases v1 with
    | true => rw [if_pos rfl]
    | false =>
      rw [if_neg (by simp)]
      obtain ⟨l1, l2⟩ := g1 rfl
      by_cases ho : own.length ≤ 30
      · rw [if_neg (by rw [ltI_neg (by omega)]; simp)]
        by_cases hot : other.length ≤ 100
        · rw [if_neg (by rw [ltI_neg (by omega)]; simp)]
          by_cases ht : turn = 0
          · rw [if_pos (eqI_pos ht)]
          · rw [if_neg (by rw [eqI_neg ht]; simp)]
            exact first_sizes 20000 l own other turn (B : Int) c1 c2 c3 c4 c5 c6 c7 c8 c9 (by omega) (fun h => first16 20000 (by decide) l own other turn B c1 c2 c3 c4 c5 c6 c7 c8 c9 ok l1 (fun m hm => bytes_wf (wl.2 m hm)) h ho (bytes_wf wot)) l [] 20000 rfl (by omega) (fun x hx => by cases hx)
        · rw [if_pos (ltI_pos (by omega))]
      · rw [if_pos (ltI_pos (by omega))]
  · rw [decide_eq_false ok, if_pos (by rfl)]

end Go.Proofs.Ytbbmdflfonifnaa.Mini
