/- More messages make no witness of what was none; nor do less blocks had; a beginning of a beginning is one: a plain law. -/
import Derived.Test.YtbbmdflfonifnaaPL
import Derived.Test.YtbbmdflfonifnaaMAuditMore
set_option linter.unusedVariables false
set_option linter.unusedSimpArgs false
namespace Go.Proofs.Ytbbmdflfonifnaa.Mini
open Go Go.RowKit Go.Proofs

theorem bad_none (B : Nat) (l : List (List Int)) (x : List Int) (n : Nat) (hx : x ∈ allB B (l.take n)) : blkBad B l (x, (n : Int)) = false := by
  unfold blkBad
  rw [Int.toNat_natCast, Bool.not_eq_false', List.any_eq_true]
  exact ⟨x, hx, decide_eq_true rfl⟩
theorem had_set' (x : List Int × Int) : List.set (List.replicate 1 (([] : List Int), (0 : Int))) 0 x = [x] := (congrArg (fun z : List Int × Int => [z]) (Eq.refl x) : [x] = [x])
theorem more_ar (n m a len : Nat) (hn : n ≤ 60) (ha : a ≤ n) (hm : m ≤ 900) : leI 0 (a : Int) = true ∧ leI (a : Int) (n : Int) = true ∧ wr .i64 (a : Int) = (a : Int) ∧ wr .i64 (Int.tdiv (a : Int) 2) = ((a / 2 : Nat) : Int) ∧ leI 0 ((a / 2 : Nat) : Int) = true ∧ leI ((a / 2 : Nat) : Int) (n : Int) = true ∧ (!eqI 2 0) = true ∧
    (a ≠ 0 → wr .i64 ((a : Int) - 1) = ((a - 1 : Nat) : Int) ∧ leI 0 ((a - 1 : Nat) : Int) = true ∧ leI ((a - 1 : Nat) : Int) (n : Int) = true ∧ eqI (a : Int) 0 = false) := by
  refine ⟨leI_pos (by omega), leI_pos (by omega), w64n (by omega), ?_, leI_pos (by omega), leI_pos (by omega), by rw [eqI_neg (by decide)]; rfl, fun h => ⟨by rw [w64 (by omega) (by omega)]; omega, leI_pos (by omega), leI_pos (by omega), eqI_neg (by omega)⟩⟩
  have e : Int.tdiv (a : Int) 2 = ((a / 2 : Nat) : Int) := by rw [Int.tdiv_eq_ediv_of_nonneg (by omega)]; omega
  rw [e]
  exact w64n (by omega)
theorem more_end (k : Nat) (hk : 20000 ≤ k) (l all : List (List Int)) (cut : Int) (B : Nat) (c1 c2 c3 c4 c5 c6 c7 c8 c9 : Int) (ok : cfgOk (B : Int) c1 c2 c3 c4 c5 c6 c7 c8 c9) (r : List (List Int)) (he : all = l ++ r) (hl : all.length ≤ 60) (hb : ∀ m ∈ all, IsB m) (h8 : ∀ m ∈ all, (m.length : Int) ≤ c8) (hs : List (List Int × Int)) (hn : hs.length ≤ 900) (hh : ∀ h ∈ hs, h.2 = (l.length : Int) ∧ h.1 ∈ allB B l) :
    m5F36 k l cut (B : Int) c1 c2 c3 c4 c5 c6 c7 c8 c9 all hs = some true := by
  have hB := ok.1
  unfold within at hB
  have hll : l.length ≤ all.length := by rw [he, List.length_append]; omega
  have hlm : ∀ m ∈ l, m ∈ all := fun m hm => by rw [he]; exact List.mem_append_left _ hm
  have hab := allB_bytes B (by omega) (by omega) l fun m hm => hb m (hlm m hm)
  have g1 : GoodH l.length hs := fun h hm => by
    obtain ⟨e1, e2⟩ := hh h hm
    exact ⟨(hab _ e2).1, by omega, by omega⟩
  have g2 : GoodH all.length hs := fun h hm => by
    obtain ⟨e1, e2⟩ := hh h hm
    exact ⟨(hab _ e2).1, by omega, by omega⟩
  have b1 := auditBlk_eq k hk l (by omega) (fun m hm => hb m (hlm m hm)) B c1 c2 c3 c4 c5 c6 c7 c8 c9 ok (fun m hm => h8 m (hlm m hm)) hs (by omega) g1
  have b2 := auditBlk_eq k hk all (by omega) hb B c1 c2 c3 c4 c5 c6 c7 c8 c9 ok h8 hs (by omega) g2
  rw [fidx_none _ hs 0 fun h hm => by
    obtain ⟨e1, e2⟩ := hh h hm
    have : h = (h.1, ((l.length : Nat) : Int)) := by rw [← e1]
    rw [this]
    exact bad_none B l h.1 l.length (by rw [List.take_length]; exact e2)] at b1
  rw [fidx_none _ hs 0 fun h hm => by
    obtain ⟨e1, e2⟩ := hh h hm
    have : h = (h.1, ((l.length : Nat) : Int)) := by rw [← e1]
    rw [this]
    exact bad_none B all h.1 l.length (by rw [he, List.take_left]; exact e2)] at b2
  have e1 : wr .u64 (wr .i64 ((all.length : Int) + 1)) = ((all.length + 1 : Nat) : Int) := by rw [w64 (by omega) (by omega), wu64 (by omega) (by omega)]; omega
  have e2 : (!eqI ((all.length + 1 : Nat) : Int) 0) = true := by rw [eqI_neg (by omega)]; rfl
  obtain ⟨a, ha, ea⟩ := umod0 cut (all.length + 1) (by omega)
  have ha' : a ≤ all.length := by omega
  have e0 : ∀ z : Int, eqI z z = true := fun z => eqI_pos rfl
  have hta : (all.take a).length = a := by rw [List.length_take]; omega
  have ht2 : (all.take (a / 2)).length = a / 2 := by rw [List.length_take]; omega
  have bt : ∀ n, ∀ x ∈ all.take n, IsB x := fun n x hx => hb x (List.mem_of_mem_take hx)
  have p1 := prefix_eq k (all.take a) all (by omega) (by omega) (bt a) hb
  rw [hta, decide_eq_true rfl] at p1
  have p2 := prefix_eq k (all.take (a / 2)) (all.take a) (by omega) (by omega) (bt _) (bt a)
  rw [ht2, List.take_take, Nat.min_eq_left (by omega), decide_eq_true rfl] at p2
  have p3 := prefix_eq k all (all.take (a - 1)) (by omega) (by omega) hb (bt _)
  have w26 := wakes26 k (by omega)
  obtain ⟨d1, d2, d3, d4, d5, d6, d7, d8⟩ := more_ar all.length 0 a 0 hl ha' (by decide)
  by_cases ha0 : a = 0
  · subst ha0
    have z0 : eqI ((0 : Nat) : Int) 0 = true := eqI_pos rfl
    simp only [m5F36, m5X36, b1, b2, Option.bind_some, e1, e2, if_true, e0, ea, d1, d2, d3, d4, d5, d6, d7, Int.toNat_natCast, List.drop_zero, p1, p2, z0, w26]
  · obtain ⟨f1, f2, f3, f4⟩ := d8 ha0
    rw [decide_eq_false (show ¬ all = (all.take (a - 1)).take all.length from fun e => by
      have := congrArg List.length e
      rw [List.length_take, List.length_take] at this
      clear d1 d2 d3 d4 d5 d6 d7 d8 f1 f2 f3 f4 e1 ea
      omega)] at p3
    simp only [m5F36, m5X36, b1, b2, Option.bind_some, e1, e2, if_true, e0, ea, d1, d2, d3, d4, d5, d6, d7, Int.toNat_natCast, List.drop_zero, p1, p2, f1, f2, f3, f4, Bool.false_eq_true, if_false, p3, Bool.not_false, w26]
theorem more_ar2 (n m : Nat) (hn : n ≤ 20000) (hm : m ≤ 900) (h0 : 0 < n) : ltI 0 (n : Int) = true ∧ wr .u64 (n : Int) = (n : Int) ∧ (!eqI (n : Int) 0) = true ∧ leI (((m + 1) * 32 : Nat) : Int) 140737488355328 = true := ⟨ltI_pos (by omega), wu64 (by omega) (by omega), by rw [eqI_neg (by omega)]; rfl, leI_pos (by omega)⟩
theorem more_ar3 (a n : Nat) (ha : a < n) (hn : n ≤ 20000) : wr .i64 (a : Int) = (a : Int) ∧ leI 0 (a : Int) = true ∧ ltI (a : Int) (n : Int) = true := ⟨w64n (by omega), leI_pos (by omega), ltI_pos (by omega)⟩
theorem more_loop (k : Nat) (hk : 20000 ≤ k) (l all : List (List Int)) (cut : Int) (B : Nat) (c1 c2 c3 c4 c5 c6 c7 c8 c9 : Int) (ok : cfgOk (B : Int) c1 c2 c3 c4 c5 c6 c7 c8 c9) (r : List (List Int)) (he : all = l ++ r) (hl : all.length ≤ 60) (hb : ∀ m ∈ all, IsB m) (h8 : ∀ m ∈ all, (m.length : Int) ≤ c8) (own : List Int) (ho : own.length ≤ 30) (hxl : (allB B l).length ≤ 20000) :
    ∀ (rest pre : List Int) (j : Nat) (hs : List (List Int × Int)), own = pre ++ rest → rest.length < j → hs.length ≤ pre.length → (∀ h ∈ hs, h.2 = (l.length : Int) ∧ h.1 ∈ allB B l) →
    m5F31 k j l own cut (pre.length : Int) (B : Int) c1 c2 c3 c4 c5 c6 c7 c8 c9 all (allB B l) hs = some true := by
  intro rest
  induction rest with
  | nil =>
    intro pre j hs e hj hn hh
    obtain ⟨j, rfl⟩ : ∃ n, j = n + 1 := ⟨j - 1, by omega⟩
    have hlen : own.length = pre.length := by rw [e]; simp
    rw [m5F31, m5X31, if_neg (by rw [ltI_neg (by omega)]; simp)]
    exact more_end k hk l all cut B c1 c2 c3 c4 c5 c6 c7 c8 c9 ok r he hl hb h8 hs (by omega) hh
  | cons x rest ih =>
    intro pre j hs e hj hn hh
    obtain ⟨j, rfl⟩ : ∃ n, j = n + 1 := ⟨j - 1, by omega⟩
    have hlen : own.length = pre.length + (rest.length + 1) := by rw [e]; simp
    have hx : own.getD (Int.toNat (pre.length : Int)) 0 = x := by rw [e]; exact gd_at pre rest x 0
    by_cases h0 : (allB B l).length = 0
    · have c0 : ltI 0 ((allB B l).length : Int) = false := ltI_neg (by omega)
      have c1' : ltI (pre.length : Int) (own.length : Int) = true := ltI_pos (by omega)
      rw [m5F31, m5X31, if_pos c1', if_neg (by rw [c0]; simp)]
      exact more_end k hk l all cut B c1 c2 c3 c4 c5 c6 c7 c8 c9 ok r he hl hb h8 hs (by omega) hh
    · obtain ⟨a, ha, ea⟩ := umod0 x (allB B l).length (by omega)
      have hmem : (allB B l).getD a [] ∈ allB B l := by
        rw [List.getD_eq_getElem?_getD, List.getElem?_eq_getElem ha]
        exact List.getElem_mem _
      have hi := ih (pre ++ [x]) j (hs ++ [((allB B l).getD a [], (l.length : Int))]) (by rw [e]; simp) (by simp only [List.length_cons] at hj; omega) (by simp only [List.length_append, List.length_singleton]; omega) (fun h hm => by
        rcases List.mem_append.1 hm with hm | hm
        · exact hh h hm
        · rw [List.mem_singleton.1 hm]
          exact ⟨rfl, hmem⟩)
      rw [List.length_append, List.length_singleton] at hi
      obtain ⟨q1, q2, q3, q4⟩ := more_ar2 (allB B l).length hs.length hxl (by omega) (by omega)
      obtain ⟨q5, q6, q7⟩ := more_ar3 a (allB B l).length ha hxl
      obtain ⟨s1, s2, s3⟩ := idx_ar pre.length own.length (by omega) (by omega)
      rw [m5F31, m5X31]
      have hx' : own.getD pre.length 0 = x := hx
      simp only [s1, s2, s3, if_true, q1, q2, q3, hx, hx', ea, q5, q6, q7, Int.toNat_natCast, had_set', List.length_singleton, q4]
      exact hi
theorem more18 (k : Nat) (hk : 20000 ≤ k) (l all : List (List Int)) (cut : Int) (B : Nat) (c1 c2 c3 c4 c5 c6 c7 c8 c9 : Int) (ok : cfgOk (B : Int) c1 c2 c3 c4 c5 c6 c7 c8 c9) (r : List (List Int)) (he : all = l ++ r) (hl : all.length ≤ 60) (hb : ∀ m ∈ all, IsB m) (h8 : ∀ m ∈ all, (m.length : Int) ≤ c8) (own : List Int) (ho : own.length ≤ 30) :
    m5F18 k l own cut (B : Int) c1 c2 c3 c4 c5 c6 c7 c8 c9 all = some true := by
  have hB := ok.1
  have h8' := ok.2.2.2.2.2.2.2.2.1
  unfold within at hB h8'
  have hlm : ∀ m ∈ l, m ∈ all := fun m hm => by rw [he]; exact List.mem_append_left _ hm
  have hll : l.length ≤ all.length := by rw [he, List.length_append]; omega
  have b1 := blocks_ok k (by omega) l (by omega) (fun m hm => hb m (hlm m hm)) B c1 c2 c3 c4 c5 c6 c7 c8 c9 ok (fun m hm => h8 m (hlm m hm))
  have b2 := blocks_ok k (by omega) all (by omega) hb B c1 c2 c3 c4 c5 c6 c7 c8 c9 ok h8
  have n1 := allB_len B (by omega) l (fun m hm => by have := h8 m (hlm m hm); omega)
  obtain ⟨s, hs⟩ := allB_app B l r
  rw [← he] at hs
  have htk : (allB B all).take (allB B l).length = allB B l := by rw [hs, List.take_left]
  have hle : (allB B l).length ≤ (allB B all).length := by rw [hs, List.length_append]; omega
  have hab := allB_bytes B (by omega) (by omega) l fun m hm => hb m (hlm m hm)
  have rw1 := rows_eq' k (by omega) (allB B l) (allB B l) (by omega) (by omega) (fun x hx => by have := (hab x hx).2; omega)
  have hz : ∀ z : Int, (!eqI z z) = false := fun z => by rw [eqI_pos rfl]; rfl
  have d1 : ltI ((allB B all).length : Int) ((allB B l).length : Int) = false := ltI_neg (by omega)
  have d2 : ltI ((allB B l).length : Int) (l.length : Int) = false := ltI_neg (by omega)
  have d3 : leI 0 ((allB B l).length : Int) = true := leI_pos (by omega)
  have d4 : leI ((allB B l).length : Int) ((allB B all).length : Int) = true := leI_pos (by omega)
  have lp := more_loop k hk l all cut B c1 c2 c3 c4 c5 c6 c7 c8 c9 ok r he hl hb h8 own ho (by omega) own [] k [] rfl (by omega) (Nat.le_refl _) (fun h hm => by cases hm)
  simp only [m5F18, m5X18, m15F, m15X, b1, b2, Option.bind_some, hz, Bool.false_eq_true, if_false, d1, d2, d3, d4, if_true, Int.toNat_natCast, List.drop_zero, htk, rw1, decide_true, Bool.not_true]
  exact lp
theorem more_sizes (k : Nat) (l all : List (List Int)) (own : List Int) (cut b c1 c2 c3 c4 c5 c6 c7 c8 c9 : Int) (hl : all.length ≤ 60) (X : (∀ x ∈ all, (x.length : Int) ≤ c8) → m5F18 k l own cut b c1 c2 c3 c4 c5 c6 c7 c8 c9 all = some true) : ∀ (rest pre : List (List Int)) (j : Nat), all = pre ++ rest → rest.length < j → (∀ x ∈ pre, (x.length : Int) ≤ c8) →
    m5F11 k j l own cut (pre.length : Int) b c1 c2 c3 c4 c5 c6 c7 c8 c9 all = some true := by
  intro rest
  induction rest with
  | nil =>
    intro pre j e hj h
    obtain ⟨j, rfl⟩ : ∃ n, j = n + 1 := ⟨j - 1, by omega⟩
    have hlen : all.length = pre.length := by rw [e]; simp
    rw [List.append_nil] at e
    rw [m5F11, m5X11, if_neg (by rw [ltI_neg (by omega)]; simp)]
    exact X (e ▸ h)
  | cons x rest ih =>
    intro pre j e hj h
    obtain ⟨j, rfl⟩ : ∃ n, j = n + 1 := ⟨j - 1, by omega⟩
    have hlen : all.length = pre.length + (rest.length + 1) := by rw [e]; simp
    have hx : all.getD (Int.toNat (pre.length : Int)) [] = x := by rw [e]; exact gd_at pre rest x []
    obtain ⟨s1, s2, s3⟩ := idx_ar pre.length all.length (by omega) (by omega)
    rw [m5F11, m5X11]
    simp only [s1, s2, if_true, hx, s3]
    by_cases h250 : (x.length : Int) ≤ c8
    · rw [if_neg (by rw [ltI_neg (by omega)]; simp)]
      have := ih (pre ++ [x]) j (by rw [e]; simp) (by simp only [List.length_cons] at hj; omega) (fun y hy => by
        rcases List.mem_append.1 hy with hy | hy
        · exact h y hy
        · rw [List.mem_singleton.1 hy]
          exact h250)
      rw [List.length_append, List.length_singleton] at this
      exact this
    · rw [if_pos (ltI_pos (by omega))]
theorem auditMore (c : Int × (Int × (Int × (Int × (Int × (Int × (Int × (Int × (Int × Int))))))))) (l r : List (List Int)) (own : List Int) (cut : Int) (wc : WfK (.pair (.int .i64) (.pair (.int .i64) (.pair (.int .i64) (.pair (.int .i64) (.pair (.int .i64) (.pair (.int .i64) (.pair (.int .i64) (.pair (.int .i64) (.pair (.int .i64) (.int .i64)))))))))) c)
    (wl : WfK (.row (.row (.int .u8))) l) (wr' : WfK (.row (.row (.int .u8))) r) (wo : WfK (.row (.int .i64)) own) (wt : (Lit.int .i64 cut).wf = true) : ∃ k, m5F k c l r own cut = some true := by
  refine ⟨20000, ?_⟩
  obtain ⟨b, c1, c2, c3, c4, c5, c6, c7, c8, c9⟩ := c
  simp only [m5F, m5X, config_eq, Option.bind_some]
  by_cases ok : cfgOk b c1 c2 c3 c4 c5 c6 c7 c8 c9
  · obtain ⟨B, rfl⟩ := Int.eq_ofNat_of_zero_le (show 0 ≤ b by have := ok.1.1; omega)
    rw [decide_eq_true ok, if_neg (by simp)]
    obtain ⟨v1, f1, g1⟩ := heavy26 20000 (by decide) l
    obtain ⟨v2, f2, g2⟩ := heavy26 20000 (by decide) r
    rw [f1, Option.bind_some]
    cases v1 with
    | true => rw [if_pos rfl]
    | false =>
      rw [if_neg (by simp), f2, Option.bind_some]
      cases v2 with
      | true => rw [if_pos rfl]
      | false =>
        rw [if_neg (by simp)]
        obtain ⟨l1, l2⟩ := g1 rfl
        obtain ⟨r1, r2⟩ := g2 rfl
        by_cases ho : own.length ≤ 30
        · rw [if_neg (by rw [ltI_neg (by omega)]; simp), twinRows_eq 20000 l (by omega) (by decide) (fun x hx => by have := l2 x hx; omega), Option.bind_some, if_pos (leI_pos (by omega))]
          have hal : (l ++ r).length ≤ 60 := by rw [List.length_append]; omega
          have hbl : ∀ m ∈ l ++ r, IsB m := fun m hm => by
            rcases List.mem_append.1 hm with hm | hm
            · exact bytes_wf (wl.2 m hm)
            · exact bytes_wf (wr'.2 m hm)
          exact more_sizes 20000 l (l ++ r) own cut (B : Int) c1 c2 c3 c4 c5 c6 c7 c8 c9 hal (fun h => more18 20000 (by decide) l (l ++ r) cut B c1 c2 c3 c4 c5 c6 c7 c8 c9 ok r rfl hal hbl h own ho) (l ++ r) [] 20000 rfl (by omega) (fun x hx => by cases hx)
        · rw [if_pos (ltI_pos (by omega))]
  · rw [decide_eq_false ok, if_pos (by rfl)]

end Go.Proofs.Ytbbmdflfonifnaa.Mini
