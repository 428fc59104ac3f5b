/- Texts that differ in up to two bytes side by side alone have unlike sums of 16 bits, in up to four unlike ones of 32: a plain law. -/
import Derived.Test.YtiblpnglmicjcaaPL
import Derived.Test.YtiblpnglmicjcaaMCrcUnlike
set_option linter.unusedVariables false
set_option linter.unusedSimpArgs false
namespace Go.Proofs.Ytiblpnglmicjcaa.Mini
open Go Go.RowKit Go.Proofs

theorem mid_set (pre done rest post : List Int) (x z : Int) : List.set (pre ++ done ++ x :: rest ++ post) (pre.length + done.length) z = pre ++ (done ++ [z]) ++ rest ++ post := by
  have e1 : pre ++ done ++ x :: rest ++ post = (pre ++ done) ++ x :: (rest ++ post) := by simp
  rw [e1, show pre.length + done.length = (pre ++ done).length by simp, List.set_append_right _ _ (Nat.le_refl _), Nat.sub_self]
  simp
theorem mid_get (pre done rest post : List Int) (x : Int) : (pre ++ done ++ x :: rest ++ post).getD (pre.length + done.length) 0 = x := by
  have e1 : pre ++ done ++ x :: rest ++ post = (pre ++ done) ++ x :: (rest ++ post) := by simp
  rw [e1, show pre.length + done.length = (pre ++ done).length by simp, List.getD_eq_getElem?_getD, List.getElem?_append_right (Nat.le_refl _), Nat.sub_self]
  rfl
theorem un_ar (a i n : Nat) (hi : i < 4) (h : a + 4 ≤ n) (hn : n ≤ 400) : ltI (i : Int) 4 = true ∧ wr .i64 ((a : Int) + (i : Int)) = ((a + i : Nat) : Int) ∧ leI 0 ((a + i : Nat) : Int) = true ∧ ltI ((a + i : Nat) : Int) (n : Int) = true ∧ leI 0 (i : Int) = true ∧ ltI ((0 + i * 1 : Nat) : Int) ((4 : Nat) : Int) = true ∧ wr .i64 ((i : Int) + 1) = ((i + 1 : Nat) : Int) :=
  ⟨ltI_pos (by omega), by rw [w64 (by omega) (by omega)]; omega, leI_pos (by omega), ltI_pos (by omega), leI_pos (by omega), ltI_pos (by omega), w64s (by omega)⟩
/-- One of the first two bytes is turned, in both. -/
theorem un_two (k j : Nat) (p0 pre post done rest done' rest' : List Int) (x x' t0 t1 t2 t3 : Int) (i n : Nat) (hi : i < 2) (h1 : done.length = i) (h2 : done'.length = i) (hn1 : (pre ++ done ++ x :: rest ++ post).length = n) (hn2 : (pre ++ done' ++ x' :: rest' ++ post).length = n) (h4 : pre.length + 4 ≤ n) (hn : n ≤ 400) :
    m6F13 k (j + 1) p0 (pre.length : Int) (i : Int) t0 t1 t2 t3 (pre ++ done ++ x :: rest ++ post) (pre ++ done' ++ x' :: rest' ++ post) =
    m6F13 k j p0 (pre.length : Int) ((i + 1 : Nat) : Int) t0 t1 t2 t3 (pre ++ (done ++ [bits .xor .u8 x ([t0, t1, t2, t3].getD (0 + i * 1) 0)]) ++ rest ++ post) (pre ++ (done' ++ [bits .xor .u8 x' ([t0, t1, t2, t3].getD (0 + i * 1) 0)]) ++ rest' ++ post) := by
  have g1 := mid_get pre done rest post x
  have g2 := mid_get pre done' rest' post x'
  have s1 := fun z => mid_set pre done rest post x z
  have s2 := fun z => mid_set pre done' rest' post x' z
  rw [h1] at g1 s1
  rw [h2] at g2 s2
  have c0 : ltI (i : Int) 2 = true := ltI_pos (by omega)
  have hl4 : [t0, t1, t2, t3].length = 4 := rfl
  obtain ⟨c1, c2, c3, c4, c5, c6, c7⟩ := un_ar pre.length i n (by omega) h4 hn
  simp only [m6F13, m6X13, c1, c2, c3, c5, hn1, hn2, c4, Int.toNat_natCast, hl4, c6, c0, if_true, g1, g2, s1, s2, m6F14, m6X14, c7]
/-- One of the last two, in the one. -/
theorem un_one (k j : Nat) (p0 pre post done rest b2 : List Int) (x t0 t1 t2 t3 : Int) (i n : Nat) (hi : 2 ≤ i) (hi4 : i < 4) (h1 : done.length = i) (hn1 : (pre ++ done ++ x :: rest ++ post).length = n) (h4 : pre.length + 4 ≤ n) (hn : n ≤ 400) :
    m6F13 k (j + 1) p0 (pre.length : Int) (i : Int) t0 t1 t2 t3 (pre ++ done ++ x :: rest ++ post) b2 =
    m6F13 k j p0 (pre.length : Int) ((i + 1 : Nat) : Int) t0 t1 t2 t3 (pre ++ (done ++ [bits .xor .u8 x ([t0, t1, t2, t3].getD (0 + i * 1) 0)]) ++ rest ++ post) b2 := by
  have g1 := mid_get pre done rest post x
  have s1 := fun z => mid_set pre done rest post x z
  rw [h1] at g1 s1
  have c0 : ltI (i : Int) 2 = false := ltI_neg (by omega)
  have hl4 : [t0, t1, t2, t3].length = 4 := rfl
  obtain ⟨c1, c2, c3, c4, c5, c6, c7⟩ := un_ar pre.length i n hi4 h4 hn
  simp only [m6F13, m6X13, c1, c2, c3, c5, hn1, c4, Int.toNat_natCast, hl4, c6, c0, if_true, Bool.false_eq_true, if_false, g1, s1, m6F14, m6X14, c7]
open Crc in
theorem un_end (k : Nat) (hk : 5001 ≤ k) (a b c : List Int) (hb : ∀ x ∈ b, isByte x) (hc : ∀ x ∈ c, isByte x) (ha : ∀ x ∈ a, isByte x) (l1 : a.length ≤ 400) (l2 : b.length ≤ 400) (l3 : c.length ≤ 400) (h1 : sum32 a = sum32 b ↔ a = b) (h2 : sum16 a = sum16 c ↔ a = c) : m6F22 k a b c = some true := by
  have s1 := sum32_eq k (by omega) a (by omega) ha
  have s2 := sum32_eq k (by omega) b (by omega) hb
  have s3 := sum16_eq k (by omega) a (by omega) ha
  have s4 := sum16_eq k (by omega) c (by omega) hc
  have e1 := bytes_eq' k hk a b (by omega)
  have e2 := bytes_eq' k hk a c (by omega)
  have e0 : ∀ z : Int, eqI z z = true := fun z => eqI_pos rfl
  have q1 := eqI_u (sum32 a) (sum32 b) (decide (a = b)) (by rw [h1, decide_eq_true_eq])
  have q2 := eqI_u (sum16 a) (sum16 c) (decide (a = c)) (by rw [h2, decide_eq_true_eq])
  simp only [m6F22, m6X22, s1, s2, s3, s4, e1, e2, Option.bind_some, e0, if_true, q1, q2, wakes03 k hk]
open Crc in
theorem crcUnlike (a : List Int) (at_ : Int) (t : Int × (Int × (Int × Int))) (wa : WfK (.row (.int .u8)) a) (wt : (Lit.int .i64 at_).wf = true) (wu : WfK (.pair (.int .u8) (.pair (.int .u8) (.pair (.int .u8) (.int .u8)))) t) : ∃ k, m6F k a at_ t = some true := by
  refine ⟨6000, ?_⟩
  have hb := bytes_wf wa
  obtain ⟨t0, t1, t2, t3⟩ := t
  simp only [m6F, m6X]
  by_cases h4 : a.length < 4
  · rw [if_pos (ltI_pos (by omega))]
  rw [if_neg (by rw [ltI_neg (by omega)]; simp)]
  by_cases hn : 300 < a.length
  · rw [if_pos (ltI_pos (by omega))]
  rw [if_neg (by rw [ltI_neg (by omega)]; simp)]
  obtain ⟨m, hm⟩ : ∃ m, a.length = m + 3 := ⟨a.length - 3, by omega⟩
  have e3 : wr .u64 (wr .i64 ((a.length : Int) - 3)) = (m : Int) := by rw [w64 (by omega) (by omega), wu64 (by omega) (by omega)]; omega
  have en : (!eqI (m : Int) 0) = true := by rw [eqI_neg (by omega)]; rfl
  obtain ⟨p, hp, ep⟩ := umod at_ m (by omega) (by omega)
  -- the text in parts
  have hlen : 4 ≤ (a.drop p).length := by rw [List.length_drop]; omega
  obtain ⟨x0, x1, x2, x3, post, hd⟩ : ∃ x0 x1 x2 x3 post, a.drop p = x0 :: x1 :: x2 :: x3 :: post := by
    match a.drop p, hlen with
    | x0 :: x1 :: x2 :: x3 :: post, _ => exact ⟨x0, x1, x2, x3, post, rfl⟩
  have ea : a = a.take p ++ [] ++ x0 :: [x1, x2, x3] ++ post := by
    have := (List.take_append_drop p a).symm
    rw [hd] at this
    rw [List.append_nil]
    exact this.trans (by simp)
  have hpl : (a.take p).length = p := by rw [List.length_take]; omega
  have tw := twin_eq 6000 a (by omega)
  simp only [e3, en, if_true, tw, Option.bind_some, ep]
  have hB : ∀ x ∈ a.take p ++ [] ++ x0 :: [x1, x2, x3] ++ post, isByte x := ea ▸ hb
  have hL : (a.take p ++ [] ++ x0 :: [x1, x2, x3] ++ post).length ≤ 300 := by rw [← ea]; omega
  have main : ∀ pre : List Int, pre.length + 4 ≤ (pre ++ [] ++ x0 :: [x1, x2, x3] ++ post).length → (∀ x ∈ pre ++ [] ++ x0 :: [x1, x2, x3] ++ post, isByte x) → (pre ++ [] ++ x0 :: [x1, x2, x3] ++ post).length ≤ 300 →
      m6F13 6000 6000 (pre ++ [] ++ x0 :: [x1, x2, x3] ++ post) (pre.length : Int) 0 t0 t1 t2 t3 (pre ++ [] ++ x0 :: [x1, x2, x3] ++ post) (pre ++ [] ++ x0 :: [x1, x2, x3] ++ post) = some true := by
    intro pre h0 hby hle
    obtain ⟨n, hn'⟩ : ∃ n, (pre ++ [] ++ x0 :: [x1, x2, x3] ++ post).length = n := ⟨_, rfl⟩
    have hn4 : pre.length + 4 + post.length = n := by rw [← hn']; simp only [List.length_append, List.length_cons, List.length_nil]
    rw [hn'] at h0 hle
    have r1 := un_two 6000 5999 (pre ++ [] ++ x0 :: [x1, x2, x3] ++ post) pre post [] [x1, x2, x3] [] [x1, x2, x3] x0 x0 t0 t1 t2 t3 0 n (by decide) rfl rfl hn' hn' h0 (by omega)
    have r2 := un_two 6000 5998 (pre ++ [] ++ x0 :: [x1, x2, x3] ++ post) pre post ([] ++ [bits .xor .u8 x0 t0]) [x2, x3] ([] ++ [bits .xor .u8 x0 t0]) [x2, x3] x1 x1 t0 t1 t2 t3 1 n (by decide) rfl rfl (by simp only [List.length_append, List.length_cons, List.length_nil]; omega) (by simp only [List.length_append, List.length_cons, List.length_nil]; omega) h0 (by omega)
    have r3 := un_one 6000 5997 (pre ++ [] ++ x0 :: [x1, x2, x3] ++ post) pre post ([] ++ [bits .xor .u8 x0 t0] ++ [bits .xor .u8 x1 t1]) [x3] (pre ++ ([] ++ [bits .xor .u8 x0 t0] ++ [bits .xor .u8 x1 t1]) ++ [x2, x3] ++ post) x2 t0 t1 t2 t3 2 n (by decide) (by decide) rfl (by simp only [List.length_append, List.length_cons, List.length_nil]; omega) h0 (by omega)
    have r4 := un_one 6000 5996 (pre ++ [] ++ x0 :: [x1, x2, x3] ++ post) pre post ([] ++ [bits .xor .u8 x0 t0] ++ [bits .xor .u8 x1 t1] ++ [bits .xor .u8 x2 t2]) [] (pre ++ ([] ++ [bits .xor .u8 x0 t0] ++ [bits .xor .u8 x1 t1]) ++ [x2, x3] ++ post) x3 t0 t1 t2 t3 3 n (by decide) (by decide) rfl (by simp only [List.length_append, List.length_cons, List.length_nil]; omega) h0 (by omega)
    have c4 : ¬ (ltI ((3 + 1 : Nat) : Int) 4 = true) := by rw [ltI_neg (by decide)]; simp
    have r5 : ∀ b1 b2 : List Int, m6F13 6000 5996 (pre ++ [] ++ x0 :: [x1, x2, x3] ++ post) (pre.length : Int) ((3 + 1 : Nat) : Int) t0 t1 t2 t3 b1 b2 = m6F22 6000 (pre ++ [] ++ x0 :: [x1, x2, x3] ++ post) b1 b2 := fun b1 b2 => by
      rw [m6F13, m6X13, if_neg c4]
    have y0 := xor8_byte x0 t0
    have y1 := xor8_byte x1 t1
    have y2 := xor8_byte x2 t2
    have y3 := xor8_byte x3 t3
    refine r1.trans (r2.trans (r3.trans (r4.trans ((r5 _ _).trans ?_))))
    show m6F22 6000 _ (pre ++ ([] ++ [bits .xor .u8 x0 t0] ++ [bits .xor .u8 x1 t1] ++ [bits .xor .u8 x2 t2] ++ [bits .xor .u8 x3 t3]) ++ [] ++ post) _ = _
    generalize bits .xor .u8 x0 t0 = z0 at y0
    generalize bits .xor .u8 x1 t1 = z1 at y1
    generalize bits .xor .u8 x2 t2 = z2 at y2
    generalize bits .xor .u8 x3 t3 = z3 at y3
    have f1 : pre ++ [] ++ x0 :: [x1, x2, x3] ++ post = pre ++ ([x0, x1, x2, x3] ++ post) := by simp
    have f1' : pre ++ [] ++ x0 :: [x1, x2, x3] ++ post = pre ++ ([x0, x1] ++ (x2 :: x3 :: post)) := by simp
    have f2 : pre ++ ([] ++ [z0] ++ [z1] ++ [z2] ++ [z3]) ++ [] ++ post = pre ++ ([z0, z1, z2, z3] ++ post) := by simp
    have f3 : pre ++ ([] ++ [z0] ++ [z1]) ++ [x2, x3] ++ post = pre ++ ([z0, z1] ++ (x2 :: x3 :: post)) := by simp
    have hx : ∀ x, x ∈ pre ∨ x ∈ post ∨ x = x0 ∨ x = x1 ∨ x = x2 ∨ x = x3 → isByte x := fun x h => hby x (by
      simp only [List.append_nil, List.mem_append, List.mem_cons, List.not_mem_nil, or_false]
      rcases h with h | h | h | h | h | h <;> simp [h])
    refine un_end 6000 (by decide) _ _ _ (fun x h => ?_) (fun x h => ?_) hby (by omega) ?_ ?_ ⟨fun h => ?_, fun h => by rw [← h]⟩ ⟨fun h => ?_, fun h => by rw [← h]⟩
    · rw [f2] at h
      simp only [List.mem_append, List.mem_cons, List.not_mem_nil, or_false] at h
      rcases h with h | (rfl | rfl | rfl | rfl) | h
      · exact hx x (.inl h)
      · exact y0
      · exact y1
      · exact y2
      · exact y3
      · exact hx x (.inr (.inl h))
    · rw [f3] at h
      simp only [List.mem_append, List.mem_cons, List.not_mem_nil, or_false] at h
      rcases h with h | (rfl | rfl) | rfl | rfl | h
      · exact hx x (.inl h)
      · exact y0
      · exact y1
      · exact hx _ (.inr (.inr (.inr (.inr (.inl rfl)))))
      · exact hx _ (.inr (.inr (.inr (.inr (.inr rfl)))))
      · exact hx x (.inr (.inl h))
    · rw [f2]
      simp only [List.length_append, List.length_cons, List.length_nil]
      omega
    · rw [f3]
      simp only [List.length_append, List.length_cons, List.length_nil]
      omega
    · rw [f1, f2] at h ⊢
      unfold sum32 at h
      rw [reg_append, reg_append (m := [z0, z1, z2, z3] ++ post)] at h
      have h' := xor_left_inj (r := ones32) ((BitVec.xor_comm _ _).trans (h.trans (BitVec.xor_comm _ _)))
      have := four_inj _ post x0 x1 x2 x3 z0 z1 z2 z3 (fun c hc => hx c (by simp only [List.mem_cons, List.not_mem_nil, or_false] at hc; rcases hc with h | h | h | h <;> simp [h])) (fun c hc => by
        simp only [List.mem_cons, List.not_mem_nil, or_false] at hc
        rcases hc with rfl | rfl | rfl | rfl
        · exact y0
        · exact y1
        · exact y2
        · exact y3) h'
      rw [this]
    · rw [f1', f3] at h ⊢
      unfold sum16 at h
      rw [reg16_append, reg16_append (m := [z0, z1] ++ (x2 :: x3 :: post))] at h
      have := two_inj _ (x2 :: x3 :: post) x0 x1 z0 z1 (fun c hc => hx c (by simp only [List.mem_cons, List.not_mem_nil, or_false] at hc; rcases hc with h | h <;> simp [h])) (fun c hc => by
        simp only [List.mem_cons, List.not_mem_nil, or_false] at hc
        rcases hc with rfl | rfl
        · exact y0
        · exact y1) h
      rw [this]
  have hfin := main (a.take p) (by rw [← ea, hpl]; omega) hB hL
  rw [← ea, hpl] at hfin
  exact hfin

end Go.Proofs.Ytiblpnglmicjcaa.Mini
