/- The three tell what the page's own tell, at any configuration: a plain law. -/
import Derived.Test.YtbbmdflfonifnaaPL
import Derived.Test.YtbbmdflfonifnaaMAuditExact
set_option linter.unusedVariables false
set_option linter.unusedSimpArgs false
namespace Go.Proofs.Ytbbmdflfonifnaa.Mini
open Go Go.RowKit Go.Proofs

def exSt (l t12 : List (List Int)) (t13 : Int) (t14 : Bool) (b c1 c2 c3 c4 c5 c6 c7 c8 c9 : Int) : Prop :=
  (t14 = false ∧ ¬ cfgOk b c1 c2 c3 c4 c5 c6 c7 c8 c9 ∧ t12 = []) ∨
  (t14 = true ∧ cfgOk b c1 c2 c3 c4 c5 c6 c7 c8 c9 ∧ ∃ B : Nat, b = (B : Int) ∧ (((∀ m ∈ l, (m.length : Int) ≤ c8) ∧ t12 = allB B l ∧ t13 = 0) ∨ ((∃ m ∈ l, c8 < (m.length : Int)) ∧ t12 = [] ∧ t13 = 2)))
theorem exact_end (k : Nat) (hk : 20000 ≤ k) (l r : List (List Int)) (hl : l.length ≤ 30) (hr : r.length ≤ 30) (l250 : ∀ x ∈ l, x.length ≤ 250) (r250 : ∀ x ∈ r, x.length ≤ 250) (hb : ∀ m ∈ l, IsB m) (rb : ∀ m ∈ r, IsB m) (hs : List (List Int × Int)) (hn : hs.length ≤ 100) (hg : ∀ h ∈ hs, IsB h.1)
    (t12 : List (List Int)) (t13 : Int) (t14 : Bool) (b c1 c2 c3 c4 c5 c6 c7 c8 c9 : Int) (st : exSt l t12 t13 t14 b c1 c2 c3 c4 c5 c6 c7 c8 c9) : m4F34 k l r hs t12 t13 t14 b c1 c2 c3 c4 c5 c6 c7 c8 c9 = some true := by
  have tw := twinRows_eq k l (by omega) (by omega) (fun x hx => by have := l250 x hx; omega)
  have p1 := rows_eq' k (by omega) l l (by omega) (by omega) (fun x hx => by have := l250 x hx; omega)
  have p2 := prefix_eq k r l (by omega) (by omega) rb hb
  have p3 := refprefix_eq k (by omega) r l (by omega) (by omega) (fun x hx => by have := r250 x hx; omega)
  have p4 := prefix_eq k l l (by omega) (by omega) hb hb
  rw [decide_eq_true rfl] at p1
  rw [List.take_length, decide_eq_true rfl] at p4
  have hq : ∀ x : Bool, (!x == x) = false := fun x => by cases x <;> rfl
  have e0 : ∀ z : Int, eqI z z = true := fun z => eqI_pos rfl
  have hz : ∀ z : Int, (!eqI z z) = false := fun z => by rw [eqI_pos rfl]; rfl
  have z0 : eqI (([] : List (List Int)).length : Int) 0 = true := eqI_pos (by simp)
  have w26 := wakes26 k (by omega)
  have nt : (!true) = false := rfl
  have nf : (!false) = true := rfl
  rcases st with ⟨rfl, ok, rfl⟩ | ⟨rfl, ok, B, rfl, ⟨h8, rfl, rfl⟩ | ⟨h8, rfl, rfl⟩⟩
  · obtain ⟨x1, x2⟩ := blocks_bad k l b c1 c2 c3 c4 c5 c6 c7 c8 c9 ok hs
    simp only [m4F34, m4X34, tw, Option.bind_some, x1, x2, p1, nt, nf, Bool.false_eq_true, if_false, p2, p3, hq, p4, if_true, e0, z0, w26]
  · have hB := ok.1
    unfold within at hB
    have hal := allB_len B (by omega) l (fun m hm => by have := l250 m hm; have h9 := ok.2.2.2.2.2.2.2.2.1; unfold within at h9; have := h8 m hm; omega)
    have hab := allB_bytes B (by omega) (by omega) l hb
    have b1 := blocks_ok k (by omega) l (by omega) hb B c1 c2 c3 c4 c5 c6 c7 c8 c9 ok h8
    obtain ⟨q, y1, y2⟩ := both_blk k hk l (by omega) hb B c1 c2 c3 c4 c5 c6 c7 c8 c9 ok h8 hs (by omega) hg
    have p5 := rows_eq' k (by omega) (allB B l) (allB B l) (by omega) (by omega) (fun x hx => by have := (hab x hx).2; omega)
    rw [decide_eq_true rfl] at p5
    simp only [m4F34, m4X34, m15F, m15X, tw, Option.bind_some, b1, hz, y1, y2, p1, nt, nf, Bool.false_eq_true, if_false, p2, p3, hq, p4, p5, if_true, e0, z0, w26]
  · have n2 : (!eqI 2 0) = true := by rw [eqI_neg (by decide)]; rfl
    have b1 := blocks_long k (by omega) l (by omega) hb B c1 c2 c3 c4 c5 c6 c7 c8 c9 ok h8
    obtain ⟨y1, y2⟩ := both_long k hk l (by omega) hb B c1 c2 c3 c4 c5 c6 c7 c8 c9 ok h8 hs
    have p5 := rows_eq' k (by omega) [] [] (by simp only [List.length_nil]; omega) (by simp only [List.length_nil]; omega) (fun x hx => by cases hx)
    rw [decide_eq_true rfl] at p5
    simp only [m4F34, m4X34, m15F, m15X, tw, Option.bind_some, b1, hz, n2, y1, y2, p1, nt, nf, Bool.false_eq_true, if_false, p2, p3, hq, p4, p5, if_true, e0, z0, w26]
theorem exact_sizes (k : Nat) (l r : List (List Int)) (hs : List (List Int × Int)) (hn : hs.length ≤ 100) (t12 : List (List Int)) (t13 : Int) (t14 : Bool) (b c1 c2 c3 c4 c5 c6 c7 c8 c9 : Int) (X : m4F34 k l r hs t12 t13 t14 b c1 c2 c3 c4 c5 c6 c7 c8 c9 = some true) : ∀ (rest pre : List (List Int × Int)) (j : Nat), hs = pre ++ rest → rest.length < j →
    m4F27 k j l r hs t12 t13 t14 (pre.length : Int) b c1 c2 c3 c4 c5 c6 c7 c8 c9 = some true := by
  intro rest
  induction rest with
  | nil =>
    intro pre j e hj
    obtain ⟨j, rfl⟩ : ∃ n, j = n + 1 := ⟨j - 1, by omega⟩
    have hlen : hs.length = pre.length := by rw [e]; simp
    rw [m4F27, m4X27, if_neg (by rw [ltI_neg (by omega)]; simp)]
    exact X
  | cons x rest ih =>
    intro pre j e hj
    obtain ⟨j, rfl⟩ : ∃ n, j = n + 1 := ⟨j - 1, by omega⟩
    have hlen : hs.length = pre.length + (rest.length + 1) := by rw [e]; simp
    have hx : hs.getD (Int.toNat (pre.length : Int)) ([], 0) = x := by rw [e]; exact gd_at pre rest x ([], 0)
    obtain ⟨s1, s2, s3⟩ := idx_ar pre.length hs.length (by omega) (by omega)
    rw [m4F27, m4X27]
    simp only [s1, s2, if_true, hx, s3]
    by_cases h250 : ltI 100 (x.1.length : Int) = true
    · rw [if_pos h250]
    · rw [if_neg h250]
      have := ih (pre ++ [x]) j (by rw [e]; simp) (by simp only [List.length_cons] at hj; omega)
      rw [List.length_append, List.length_singleton] at this
      exact this
theorem exHad_one (x : List Int × Int) : List.set (List.replicate 1 (([] : List Int), (0 : Int))) 0 x = [x] := (congrArg (fun z : List Int × Int => [z]) (Eq.refl x) : [x] = [x])
theorem exact_own (k : Nat) (hk : 20000 ≤ k) (l r : List (List Int)) (hl : l.length ≤ 30) (own : List Int) (ho : own.length ≤ 30) (t12 : List (List Int)) (hl12 : t12.length ≤ 20000) (h12 : ∀ x ∈ t12, IsB x) (t13 : Int) (t14 : Bool) (b c1 c2 c3 c4 c5 c6 c7 c8 c9 : Int)
    (X : ∀ hs : List (List Int × Int), hs.length ≤ 100 → (∀ h ∈ hs, IsB h.1) → m4F24 k l r hs t12 t13 t14 b c1 c2 c3 c4 c5 c6 c7 c8 c9 = some true) : ∀ (rest pre : List Int) (j : Nat) (hs : List (List Int × Int)), own = pre ++ rest → rest.length < j → hs.length ≤ 30 + pre.length → (∀ h ∈ hs, IsB h.1) →
    m4F19 k j l r own hs t12 t13 t14 (pre.length : Int) b c1 c2 c3 c4 c5 c6 c7 c8 c9 = some true := by
  intro rest
  induction rest with
  | nil =>
    intro pre j hs e hj hn hg
    obtain ⟨j, rfl⟩ : ∃ n, j = n + 1 := ⟨j - 1, by omega⟩
    have hlen : own.length = pre.length := by rw [e]; simp
    rw [m4F19, m4X19, if_neg (by rw [ltI_neg (by omega)]; simp)]
    exact X hs (by omega) hg
  | cons x rest ih =>
    intro pre j hs e hj hn hg
    obtain ⟨j, rfl⟩ : ∃ n, j = n + 1 := ⟨j - 1, by omega⟩
    have hlen : own.length = pre.length + (rest.length + 1) := by rw [e]; simp
    have hx : own.getD (Int.toNat (pre.length : Int)) 0 = x := by rw [e]; exact gd_at pre rest x 0
    have hx' : own.getD pre.length 0 = x := hx
    have hn2 : hs.length ≤ 100 := by omega
    have st := idx_ar pre.length own.length (by omega) (by omega)
    rw [m4F19, m4X19]
    cases t14 with
    | false =>
      simp only [st.1, if_true, Bool.false_eq_true, if_false]
      exact X hs hn2 hg
    | true =>
      by_cases h0 : t12.length = 0
      · have n0 : ltI 0 (t12.length : Int) = false := ltI_neg (by omega)
        simp only [st.1, if_true, n0, Bool.false_eq_true, if_false]
        exact X hs hn2 hg
      · clear st
        have hle : hs.length + 1 ≤ 30 + (pre ++ [x]).length := by simp only [List.length_append, List.length_singleton]; omega
        have hj2 : rest.length < j := by simp only [List.length_cons] at hj; omega
        have hl0 : 0 < t12.length := by omega
        obtain ⟨a, ha, ea⟩ := umod0 x t12.length hl0
        obtain ⟨c, hc, ec⟩ := umod0 x (l.length + 1) (Nat.succ_pos _)
        have hmem : t12.getD a [] ∈ t12 := by
          rw [List.getD_eq_getElem?_getD, List.getElem?_eq_getElem ha]
          exact List.getElem_mem _
        have hi := ih (pre ++ [x]) j (hs ++ [(t12.getD a [], (c : Int))]) (by rw [e]; simp) hj2 (by rw [List.length_append, List.length_singleton]; exact hle) (fun h hm => by
          rcases List.mem_append.1 hm with hm | hm
          · exact hg h hm
          · rw [List.mem_singleton.1 hm]
            exact h12 _ hmem)
        rw [List.length_append, List.length_singleton] at hi
        have ar : wr .u64 (t12.length : Int) = (t12.length : Int) ∧ (!eqI (t12.length : Int) 0) = true ∧ leI (((0 + hs.length) * 32 : Nat) : Int) 140737488355328 = true ∧ leI (((hs.length + 1) * 32 : Nat) : Int) 140737488355328 = true ∧ wr .i64 (a : Int) = (a : Int) ∧ leI 0 (a : Int) = true ∧ ltI (a : Int) (t12.length : Int) = true ∧ ltI 0 (t12.length : Int) = true ∧ wr .u64 (wr .i64 ((l.length : Int) + 1)) = ((l.length + 1 : Nat) : Int) ∧ (!eqI ((l.length + 1 : Nat) : Int) 0) = true ∧ wr .i64 (c : Int) = (c : Int) := by
          clear ea ec
          exact ⟨wu64 (by omega) (by omega), by rw [eqI_neg (by omega)]; rfl, leI_pos (by omega), leI_pos (by omega), w64n (by omega), leI_pos (by omega), ltI_pos (by omega), ltI_pos (by omega), by rw [w64 (by omega) (by omega), wu64 (by omega) (by omega)]; omega, by rw [eqI_neg (by omega)]; rfl, w64n (by omega)⟩
        obtain ⟨s1, s2, s3⟩ := idx_ar pre.length own.length (by clear ea ec ar; omega) (by clear ea ec ar; omega)
        obtain ⟨q1, q2, q3, q4, q5, q6, q7, q8, q9, q10, q11⟩ := ar
        simp only [s1, s2, s3, if_true, q1, q2, q3, q8, q9, q10, hx, hx', ea, ec, q5, q6, q7, q11, Int.toNat_natCast, exHad_one, List.replicate_zero, List.nil_append, List.length_singleton, q4]
        exact hi
theorem exact16 (k : Nat) (hk : 20000 ≤ k) (l r : List (List Int)) (own : List Int) (hl : l.length ≤ 30) (hr : r.length ≤ 30) (l250 : ∀ x ∈ l, x.length ≤ 250) (r250 : ∀ x ∈ r, x.length ≤ 250) (hb : ∀ m ∈ l, IsB m) (rb : ∀ m ∈ r, IsB m) (hs : List (List Int × Int)) (hn : hs.length ≤ 30) (hg : ∀ h ∈ hs, IsB h.1) (ho : own.length ≤ 30)
    (t12 : List (List Int)) (t13 : Int) (t14 : Bool) (b c1 c2 c3 c4 c5 c6 c7 c8 c9 : Int) (st : exSt l t12 t13 t14 b c1 c2 c3 c4 c5 c6 c7 c8 c9) : m4F16 k l r own hs t12 t13 t14 b c1 c2 c3 c4 c5 c6 c7 c8 c9 = some true := by
  have h12 : t12.length ≤ 20000 ∧ ∀ x ∈ t12, IsB x := by
    rcases st with ⟨_, _, rfl⟩ | ⟨_, ok, B, rfl, ⟨h8, rfl, _⟩ | ⟨_, rfl, _⟩⟩
    · exact ⟨by simp, fun x hx => by cases hx⟩
    · have hB := ok.1
      have h9 := ok.2.2.2.2.2.2.2.2.1
      unfold within at hB h9
      have hal := allB_len B (by omega) l (fun m hm => by have := h8 m hm; omega)
      have hab := allB_bytes B (by omega) (by omega) l hb
      exact ⟨by omega, fun x hx => (hab x hx).1⟩
    · exact ⟨by simp, fun x hx => by cases hx⟩
  simp only [m4F16, m4X16]
  exact exact_own k hk l r hl own ho t12 h12.1 h12.2 t13 t14 b c1 c2 c3 c4 c5 c6 c7 c8 c9 (fun hs' n' g' => by
    simp only [m4F24, m4X24]
    exact exact_sizes k l r hs' n' t12 t13 t14 b c1 c2 c3 c4 c5 c6 c7 c8 c9 (exact_end k hk l r hl hr l250 r250 hb rb hs' n' g' t12 t13 t14 b c1 c2 c3 c4 c5 c6 c7 c8 c9 st) hs' [] k rfl (by omega)) own [] k hs rfl (by omega) (by simp only [List.length_nil]; omega) hg
theorem auditExact (c : Int × (Int × (Int × (Int × (Int × (Int × (Int × (Int × (Int × Int))))))))) (l r : List (List Int)) (hs : List (List Int × Int)) (own : List Int) (wc : WfK (.pair (.int .i64) (.pair (.int .i64) (.pair (.int .i64) (.pair (.int .i64) (.pair (.int .i64) (.pair (.int .i64) (.pair (.int .i64) (.pair (.int .i64) (.pair (.int .i64) (.int .i64)))))))))) c)
    (wl : WfK (.row (.row (.int .u8))) l) (wr' : WfK (.row (.row (.int .u8))) r) (wh : WfK (.row (.pair (.row (.int .u8)) (.int .i64))) hs) (wo : WfK (.row (.int .i64)) own) : ∃ k, m4F k c l r hs own = some true := by
  refine ⟨20000, ?_⟩
  obtain ⟨b, c1, c2, c3, c4, c5, c6, c7, c8, c9⟩ := c
  have hb : ∀ m ∈ l, IsB m := fun m hm => bytes_wf (wl.2 m hm)
  have rb : ∀ m ∈ r, IsB m := fun m hm => bytes_wf (wr'.2 m hm)
  have hg : ∀ h ∈ hs, IsB h.1 := fun h hm => bytes_wf (wh.2 h hm).1
  simp only [m4F, m4X, config_eq, Option.bind_some]
  obtain ⟨v1, f1, g1⟩ := heavy26 20000 (by decide) l
  rw [f1, Option.bind_some]
  cases v1 with
  | true => rw [if_pos rfl]
  | false =>
    rw [if_neg (by simp)]
    obtain ⟨l1, l2⟩ := g1 rfl
    obtain ⟨v2, f2, g2⟩ := heavy26 20000 (by decide) r
    rw [f2, Option.bind_some]
    cases v2 with
    | true => rw [if_pos rfl]
    | false =>
      rw [if_neg (by simp)]
      obtain ⟨r1, r2⟩ := g2 rfl
      by_cases hn : hs.length ≤ 30
      · rw [if_neg (by rw [ltI_neg (by omega)]; simp)]
        by_cases ho : own.length ≤ 30
        · rw [if_neg (by rw [ltI_neg (by omega)]; simp), refblocks_nil 20000 (by decide), Option.bind_some]
          have E := fun t12 t13 t14 st => exact16 20000 (by decide) l r own l1 r1 l2 r2 hb rb hs hn hg ho t12 t13 t14 b c1 c2 c3 c4 c5 c6 c7 c8 c9 st
          by_cases ok : cfgOk b c1 c2 c3 c4 c5 c6 c7 c8 c9
          · obtain ⟨B, rfl⟩ := Int.eq_ofNat_of_zero_le (show 0 ≤ b by have := ok.1.1; omega)
            rw [decide_eq_true ok, if_pos rfl]
            by_cases h8 : ∀ m ∈ l, (m.length : Int) ≤ c8
            · rw [refblocks_ok 20000 (by decide) l (by omega) hb B c1 c2 c3 c4 c5 c6 c7 c8 c9 ok h8, Option.bind_some]
              exact E _ _ _ (.inr ⟨rfl, ok, B, rfl, .inl ⟨h8, rfl, rfl⟩⟩)
            · have h8' : ∃ m ∈ l, c8 < (m.length : Int) := by
                apply Classical.byContradiction
                intro hno
                refine h8 fun m hm => ?_
                have : ¬ c8 < (m.length : Int) := fun hb => hno ⟨m, hm, hb⟩
                omega
              rw [refblocks_long 20000 (by decide) l (by omega) hb B c1 c2 c3 c4 c5 c6 c7 c8 c9 ok h8', Option.bind_some]
              exact E _ _ _ (.inr ⟨rfl, ok, B, rfl, .inr ⟨h8', rfl, rfl⟩⟩)
          · rw [decide_eq_false ok, if_neg (by simp)]
            exact E _ _ _ (.inl ⟨rfl, ok, rfl⟩)
        · rw [if_pos (ltI_pos (by omega))]
      · rw [if_pos (ltI_pos (by omega))]

end Go.Proofs.Ytbbmdflfonifnaa.Mini
