/- A small machine over plain data: each operation of the machine does what it is told to do. Seventh part: append in place, copy, make, and the rest. -/
import Derived.Test.YtmjbjlhjpdebjaaXMA
namespace Go.Proofs.Ytmjbjlhjpdebjaa.Mini
open Go Go.RowKit
section
variable {P : Program} {s : Sem Value} {w0 : Start} {M0 av : Nat → Prop} {fresh : Nat} {C : Ctx} {out : Out}

/-- The elements ahead of what is written. -/
theorem seg_before {α : Type} (L vs : List α) (S a sz : Nat) (h : S + sz ≤ a) (h2 : a + vs.length ≤ L.length) : ((L.take a ++ vs ++ L.drop (a + vs.length)).drop S).take sz = (L.drop S).take sz := by
  apply List.ext_getElem?
  intro i
  rw [List.getElem?_take, List.getElem?_drop, splice_get _ _ _ h2, List.getElem?_take, List.getElem?_drop]
  split
  · rw [if_pos (by omega)]
  · rfl

theorem seg_in {α : Type} (L vs : List α) (S a sz : Nat) (h : S + sz ≤ vs.length) (h2 : a + vs.length ≤ L.length) : ((L.take a ++ vs ++ L.drop (a + vs.length)).drop (a + S)).take sz = (vs.drop S).take sz := by
  apply List.ext_getElem?
  intro i
  rw [List.getElem?_take, List.getElem?_drop, splice_get _ _ _ h2, List.getElem?_take, List.getElem?_drop]
  split
  · rw [if_neg (by omega), if_pos (by omega)]
    congr 1
    omega
  · rfl

/-- A row's segment in place. -/
theorem rowAt_seg {k : Kd} {T : TypeId} {xs : List (El k)} {p : Pl} (h : RowAt C k T xs (some p)) : ∃ cs, C.w.heap[p.b]? = some (.cells cs T (0, 0)) ∧
    ∀ j x, xs[j]? = some x → p.o + j * k.sz + k.sz ≤ cs.size ∧ RepC C.w C.ok k x ((cs.toList.drop (p.o + j * k.sz)).take k.sz) := by
  rcases h with ⟨h, _⟩ | ⟨q, h, cs, hh, hx⟩
  · cases h
  · cases h
    exact ⟨cs, hh, hx⟩

theorem append_own (t : TabOk w0 M0 av C) (hav : ∀ c, c < room → av (fresh + c)) {ty ty2 r e' : TypeId} {k : Kd} (hu : P.underlying ty = some (.slice e')) {i : TypeInfo} (hi : P.info? e' = some i) (hisz : i.size = k.sz) {zv : Value} (hz : i.zero = some zv) (hzs : zv.cells.size = i.size)
    {v : Value} {id off : Nat} {len : Option Nat} (hs : SlRel C v id off len) {xs ys : List (El k)} (e1 : C.tab id = some (.row true k e' xs)) {x : Value} {news : List Value} (hnl : news.length = ys.length * k.sz) (hns : Segs C k ys news) (hsrc : ASrc P e' i zv ty ty2 r x ys.length news C.w)
    (hby : (len.getD xs.length + ys.length) * i.bytes ≤ 140737488355328) (hb0 : 0 < i.bytes) :
    ∃ v' C', (Builtin.append_ #[ty, ty2] r #[v, x]).run P C.w = .ok v' C'.w ∧ C'.tab = upd (upd C.tab id none) fresh (some (.row true k e' ((xs.drop off).take (len.getD xs.length) ++ ys))) ∧ Ext C C' ∧ TabOk w0 M0 (fun i => av i ∧ i ≠ fresh) C' ∧ Rel C' v' (.own fresh) := by
  have hio : C.io fresh = none := t.av _ (hav 0 (by decide))
  obtain ⟨A0, c0, hv0, hlc, hel⟩ := elAt_sl t hs e1 (.inl ⟨_, rfl⟩)
  obtain ⟨hn0, A, n, c, rfl, hb⟩ := hs
  obtain ⟨k', T', xs', hr', hn, ho, hnc, hat⟩ := hb _ e1
  obtain ⟨rfl, rfl, hq⟩ := RowLike.uniq (.inl ⟨_, rfl⟩) hr'
  obtain rfl := eq_of_heq hq
  injection hv0 with q1 q2 q3
  subst q1
  subst q3
  subst q2
  have hzl : ((xs.drop off).take (len.getD xs.length)).length = len.getD xs.length := by rw [List.length_take, List.length_drop]; omega
  have hfade : Fade C.tab (upd C.tab id none) := fun j => by
    by_cases h : j = id
    · subst h
      exact .inr (.inl (upd_same ..))
    · exact .inl (upd_ne _ _ h)
  by_cases hroom : ((xs.drop off).take (len.getD xs.length)).length + ys.length ≤ c
  · rcases Nat.eq_zero_or_pos ys.length with hm | hm
    · have hy0 : ys = [] := List.eq_nil_of_length_eq_zero hm
      subst hy0
      have hne : news = [] := List.eq_nil_of_length_eq_zero (by rw [hnl]; simp)
      subst hne
      have hrun := hsrc.nothing hm A ((xs.drop off).take (len.getD xs.length)).length c hlc
      rcases hat with ⟨hnil, hc0⟩ | ⟨p, hp, hA, cs, T, fr, hh, hsz⟩
      · have h0 : ((xs.drop off).take (len.getD xs.length)).length = 0 := by omega
        have hx0 := List.eq_nil_of_length_eq_zero h0
        have t1 := t.fade hfade
        have x1 := hfade.ext
        have hio1 : (C.setT (upd C.tab id none)).io fresh = none := hio
        refine ⟨_, (C.setT (upd C.tab id none)).newNil fresh k e', hrun, ?_, x1.trans (Ext.newNil hio1 k e'), t1.newNil hio1 k e', ?_⟩
        · rw [hx0]
          rfl
        · refine .own ⟨?_, _, _, _, rfl, fun blk e => ?_⟩
          · show upd C.io fresh _ fresh ≠ none
            rw [upd_same]
            simp
          · change upd (upd C.tab id none) fresh _ fresh = _ at e
            rw [upd_same] at e
            cases e
            exact ⟨k, e', [], .inl ⟨_, rfl⟩, by rw [h0]; rfl, by rw [h0]; simp, hlc, .inl ⟨upd_same .., hc0⟩⟩
      · have hw := Wrote.refl C.w p.b
        obtain ⟨p', hp', hbr⟩ := t.bl id _ e1
        rw [hp] at hp'
        cases hp'
        obtain ⟨cs', hh', hseg⟩ := rowAt_seg hbr
        rw [hh] at hh'
        cases hh'
        have hx := mv_ext (w' := C.w) (q := ⟨p.b, p.o + off * k.sz⟩) (blk := .row true k e' ((xs.drop off).take (len.getD xs.length) ++ [])) hio e1 hp rfl hw rfl
        refine ⟨_, C.mv C.w id fresh ⟨p.b, p.o + off * k.sz⟩ (.row true k e' ((xs.drop off).take (len.getD xs.length) ++ [])), hrun, rfl, hx, mv_ok t hio e1 hp rfl hw rfl rfl ?_, ?_⟩
        · refine .inr ⟨_, rfl, cs, hh, fun j y hj => ?_⟩
          rw [List.append_nil] at hj
          have hjl := (List.getElem?_eq_some_iff.1 hj).1
          rw [List.getElem?_take, if_pos (by omega), List.getElem?_drop] at hj
          obtain ⟨h1, h2⟩ := hseg _ _ hj
          have e2 : p.o + off * k.sz + j * k.sz = p.o + (off + j) * k.sz := by rw [Nat.add_mul]; omega
          show p.o + off * k.sz + j * k.sz + k.sz ≤ _ ∧ _
          rw [e2]
          exact ⟨h1, h2.ext hx.reads⟩
        · refine .own ⟨?_, _, _, _, rfl, fun blk e => ?_⟩
          · show upd C.io fresh _ fresh ≠ none
            rw [upd_same]
            simp
          · change upd (upd C.tab id none) fresh _ fresh = _ at e
            rw [upd_same] at e
            cases e
            refine ⟨k, e', _, .inl ⟨_, rfl⟩, by simp, by simp, hlc, .inr ⟨_, upd_same .., fun h0 => ?_, cs, _, _, hh, ?_⟩⟩
            · rw [hA h0, Nat.zero_mul, Nat.add_zero]
            · show p.o + off * k.sz + (0 + c) * k.sz ≤ cs.size
              rw [Nat.zero_add]
              rw [Nat.add_mul] at hsz
              omega
    · rcases hat with ⟨hnil, hc0⟩ | ⟨p, hp, hA, cs, T, fr, hh, hsz⟩
      · omega
      · obtain rfl := hA (by omega)
        obtain ⟨p', hp', hbr⟩ := t.bl id _ e1
        rw [hp] at hp'
        cases hp'
        obtain ⟨cs', hh', hseg⟩ := rowAt_seg hbr
        rw [hh] at hh'
        cases hh'
        rw [Nat.add_mul] at hsz
        have hrm : (((xs.drop off).take (len.getD xs.length)).length + ys.length) * k.sz ≤ c * k.sz := Nat.mul_le_mul_right _ hroom
        rw [Nat.add_mul, ← hnl] at hrm
        have hfit : p.o + off * k.sz + ((xs.drop off).take (len.getD xs.length)).length * k.sz + news.length ≤ cs.size := by omega
        have hcl : cs.toList.length = cs.size := Array.length_toList
        have hrun := hsrc.room hroom hh (by rw [hisz]; exact hfit)
        rw [hisz] at hrun
        have hsp := splice_len cs.toList news (p.o + off * k.sz + ((xs.drop off).take (len.getD xs.length)).length * k.sz) (by omega)
        have hsize : (cs.toList.take (p.o + off * k.sz + ((xs.drop off).take (len.getD xs.length)).length * k.sz) ++ news ++ cs.toList.drop (p.o + off * k.sz + ((xs.drop off).take (len.getD xs.length)).length * k.sz + news.length)).toArray.size = cs.size := by rw [List.size_toArray, hsp, hcl]
        have hw := Wrote.setRow hh hsize
        have hx := mv_ext (q := ⟨p.b, p.o + off * k.sz⟩) (blk := .row true k e' ((xs.drop off).take (len.getD xs.length) ++ ys)) hio e1 hp rfl hw rfl
        refine ⟨_, C.mv _ id fresh ⟨p.b, p.o + off * k.sz⟩ (.row true k e' ((xs.drop off).take (len.getD xs.length) ++ ys)), hrun, rfl, hx, mv_ok t hio e1 hp rfl hw rfl rfl ?_, ?_⟩
        · refine .inr ⟨_, rfl, _, setRow_heap _ _ _ _ _ _ hh, fun j y hj => ?_⟩
          rw [hsize, List.toList_toArray]
          rw [List.getElem?_append] at hj
          split at hj
          · rename_i hjl
            rw [List.getElem?_take, if_pos (by omega), List.getElem?_drop] at hj
            obtain ⟨h1, h2⟩ := hseg _ _ hj
            have e2 : p.o + off * k.sz + j * k.sz = p.o + (off + j) * k.sz := by rw [Nat.add_mul]; omega
            have e3 : (j + 1) * k.sz ≤ ((xs.drop off).take (len.getD xs.length)).length * k.sz := Nat.mul_le_mul_right _ hjl
            rw [Nat.add_mul] at e3
            show p.o + off * k.sz + j * k.sz + k.sz ≤ _ ∧ _
            rw [seg_before _ _ _ _ _ (show p.o + off * k.sz + j * k.sz + k.sz ≤ p.o + off * k.sz + ((xs.drop off).take (len.getD xs.length)).length * k.sz by omega) (by omega), e2]
            exact ⟨h1, h2.ext hx.reads⟩
          · rename_i hjl
            obtain ⟨h1, h2⟩ := hns _ _ hj
            have e2 : p.o + off * k.sz + j * k.sz = p.o + off * k.sz + ((xs.drop off).take (len.getD xs.length)).length * k.sz + (j - ((xs.drop off).take (len.getD xs.length)).length) * k.sz := by
              have e5 : j * k.sz = ((xs.drop off).take (len.getD xs.length)).length * k.sz + (j - ((xs.drop off).take (len.getD xs.length)).length) * k.sz := by
                rw [← Nat.add_mul]
                congr 1
                omega
              omega
            have hbnd : p.o + off * k.sz + j * k.sz + k.sz ≤ cs.size := by rw [e2]; omega
            refine ⟨hbnd, ?_⟩
            show RepC _ _ k y ((List.drop (p.o + off * k.sz + j * k.sz) _).take k.sz)
            rw [e2, seg_in _ _ _ _ _ h1 (by omega)]
            exact h2.ext hx.reads
        · refine .own ⟨?_, _, _, _, rfl, fun blk e => ?_⟩
          · show upd C.io fresh _ fresh ≠ none
            rw [upd_same]
            simp
          · change upd (upd C.tab id none) fresh _ fresh = _ at e
            rw [upd_same] at e
            cases e
            refine ⟨k, e', _, .inl ⟨_, rfl⟩, by simp, by simp, hroom, .inr ⟨_, upd_same .., fun h0 => ?_, _, _, _, setRow_heap _ _ _ _ _ _ hh, ?_⟩⟩
            · rw [Nat.zero_mul, Nat.add_zero]
            · rw [hsize]
              show p.o + off * k.sz + (0 + c) * k.sz ≤ cs.size
              rw [Nat.zero_add]
              omega
  · exact append_grow t hav hu hi hisz hz hzs hel hnl hns hsrc hlc (by omega) (by rw [hzl]; exact hby) hb0 hfade

theorem nat_le {n m : Nat} (h : (n : Int) ≤ (m : Int)) : n ≤ m := Int.ofNat_le.1 h

theorem bytes_eq {ty : TypeId} {i : TypeInfo} (h : P.info? ty = some i) : P.bytesOf ty = i.bytes := by
  unfold Program.bytesOf
  rw [h]
  rfl

theorem weak_fresh {C' : Ctx} (t : TabOk w0 M0 (fun i => av i ∧ i ≠ fresh) C') : TabOk w0 M0 (fun i => av i ∧ ¬ (fresh ≤ i ∧ i < fresh + room)) C' :=
  t.weak fun i h => ⟨h.1, fun e => h.2 ⟨by omega, by rw [e]; exact Nat.lt_add_of_pos_right (by decide)⟩⟩

theorem appendV_gives (t : TabOk w0 M0 av C) (hav : ∀ c, c < room → av (fresh + c)) {vw : Tab} (hsub : Sub vw C.tab) {ty ty2 r e2 : TypeId} {x y : AV} {v u : Value} {e : Eff} (h : appendV P vw fresh ty x y = some e) (hr : e.Res out)
    (hx : Rel C v x) (hy : Rel C u y) (hu2 : P.underlying ty2 = some (.slice e2)) : Gives P (Builtin.append_ #[ty, ty2] r #[v, u]) w0 M0 av fresh C out := by
  unfold appendV at h
  split at h
  · rename_i e' hu
    split at h
    · rename_i k hk
      obtain ⟨i, hi, hisz⟩ := kd_info hk
      cases hb0 : Nat.blt 0 (P.bytesOf e') with
      | false => rw [hb0] at h; cases h
      | true =>
        rw [hb0] at h
        simp only [Bool.not_true, cond_false] at h
        have hb0' : 0 < i.bytes := by
          rw [bytes_eq hi] at hb0
          simpa [Nat.blt_eq] using hb0
        split at h
        · rename_i ys z hys hz
          obtain ⟨i', zv, hi', hzv, hzs, rfl⟩ := zero_eq hz
          rw [hi] at hi'
          cases hi'
          obtain ⟨Ay, cy, rfl, hyc, hye⟩ := elemsV_at t hsub hys hy
          obtain ⟨news, hnl, hns, hsrc0⟩ := src_of (P := P) (c := cy) hye hu2
          rw [← hisz] at hsrc0
          have hsrc := ASrc.ofSrc (ty := ty) (r := r) hu hi hzv hsrc0
          have key : ∀ {id off : Nat} {len : Option Nat}, SlRel C v id off len → ∀ {k' : Kd} {T : TypeId} {xs : List (El k')}, vw id = some (.row true k' T xs) → ∀ (hk' : k' = k), T = e' →
              ∀ {zs : List (El k)}, HEq zs ((xs.drop off).take (len.getD xs.length)) → (((len.getD xs.length + ys.length) * P.bytesOf e' : Nat) : Int) ≤ 140737488355328 →
              out = ⟨.own fresh, [(id, none), (fresh, some (.row true k e' (zs ++ ys)))]⟩ → Gives P (Builtin.append_ #[ty, ty2] r #[v, .slice Ay ys.length cy]) w0 M0 av fresh C out := by
            intro id off len hs k' T xs hv hk' hT zs hzq hbb ho
            subst hk'
            subst hT
            obtain rfl := eq_of_heq hzq
            subst ho
            rw [bytes_eq hi] at hbb
            obtain ⟨v', C', g1, g2, g3, g4, g5⟩ := append_own (P := P) (r := r) t hav hu hi hisz hzv hzs hs (hsub _ _ hv) hnl hns hsrc (nat_le hbb) hb0'
            exact ⟨v', C', g1, g2, g3, weak_fresh g4, g5⟩
          split at h
          · cases h
            obtain ⟨hbb, hr⟩ := wh_res hr
            cases hr
            cases hx
            rename_i A
            rw [bytes_eq hi] at hbb
            rcases Nat.eq_zero_or_pos ys.length with hm | hm
            · have hy0 : ys = [] := List.eq_nil_of_length_eq_zero hm
              subst hy0
              have hne : news = [] := List.eq_nil_of_length_eq_zero (by rw [hnl]; simp)
              subst hne
              have hrun := hsrc.nothing rfl A 0 0 (Nat.le_refl 0)
              have hio : C.io fresh = none := t.av _ (hav 0 (by decide))
              refine ⟨_, C.newNil fresh k e', hrun, rfl, Ext.newNil hio k e', weak_fresh (t.newNil hio k e'), .own ⟨?_, _, _, _, rfl, fun blk e => ?_⟩⟩
              · show upd C.io fresh _ fresh ≠ none
                rw [upd_same]
                simp
              · change upd C.tab fresh _ fresh = _ at e
                rw [upd_same] at e
                cases e
                exact ⟨k, e', [], .inl ⟨_, rfl⟩, rfl, Nat.zero_le _, Nat.le_refl _, .inl ⟨upd_same .., rfl⟩⟩
            · have := append_grow (P := P) (r := r) (zs := ([] : List (El k))) (A := A) (c := 0) t hav hu hi hisz hzv hzs (fun h => absurd h (by simp)) hnl hns hsrc (Nat.zero_le _) (by show 0 < 0 + ys.length; omega) (by rw [List.length_nil, Nat.zero_add]; exact nat_le hbb) hb0' (Fade.refl C.tab)
              obtain ⟨v', C', g1, g2, g3, g4, g5⟩ := this
              exact ⟨v', C', g1, g2, g3, weak_fresh g4, g5⟩
          · rename_i id
            cases hx with
            | own hx =>
              split at h
              · rename_i k' T xs hv
                split at h
                · rename_i hk'
                  cases hT : Nat.beq T e' with
                  | false => rw [hT] at h; cases h
                  | true =>
                    rw [hT] at h
                    cases h
                    obtain ⟨hbb, hr⟩ := wh_res hr
                    cases hr
                    refine key hx hv hk' (Nat.eq_of_beq_eq_true hT) ?_ ?_ rfl
                    · rw [Option.getD_none, drop_zero_take]
                      exact castR_heq _ _
                    · subst hk'
                      exact hbb
                · cases h
              · cases h
          · rename_i id off len
            cases hx with
            | sl hx =>
              split at h
              · rename_i k' T xs hv
                split at h
                · rename_i hk'
                  cases hT : Nat.beq T e' with
                  | false => rw [hT] at h; cases h
                  | true =>
                    rw [hT] at h
                    cases h
                    obtain ⟨hbb, hr⟩ := wh_res hr
                    cases hr
                    refine key hx hv hk' (Nat.eq_of_beq_eq_true hT) ?_ ?_ rfl
                    · subst hk'
                      exact HEq.rfl
                    · exact hbb
                · cases h
              · cases h
          · cases h
        · cases h
    · cases h
  · cases h

/-- So many zero elements are appended. -/
theorem appendZ_gives (t : TabOk w0 M0 av C) (hav : ∀ c, c < room → av (fresh + c)) {vw : Tab} (hsub : Sub vw C.tab) {ty ty2 r : TypeId} {kn kq : IntKind} {x : AV} {v : Value} {n : Int} {e : Eff} (h : appendZ P vw fresh ty x n = some e) (hr : e.Res out)
    (hx : Rel C v x) (hu2 : P.underlying ty2 = some (.int kn)) : Gives P (Builtin.append_ #[ty, ty2] r #[v, .int kq n]) w0 M0 av fresh C out := by
  unfold appendZ at h
  split at h
  · rename_i e' hu
    split at h
    · rename_i k hk
      obtain ⟨i, hi, hisz⟩ := kd_info hk
      cases hb0 : (Nat.blt 0 (P.bytesOf e') && Nat.blt 0 k.sz) with
      | false => rw [hb0] at h; cases h
      | true =>
        rw [hb0] at h
        simp only [Bool.not_true, cond_false] at h
        rw [Bool.and_eq_true] at hb0
        have hs0 : 0 < i.size := by
          rw [hisz]
          simpa [Nat.blt_eq] using hb0.2
        have hb0' : 0 < i.bytes := by
          have := hb0.1
          rw [bytes_eq hi] at this
          simpa [Nat.blt_eq] using this
        split at h
        · rename_i zl hz
          obtain ⟨i', zv, hi', hzv, hzs, rfl⟩ := zero_eq hz
          rw [hi] at hi'
          cases hi'
          split at h
          · rename_i z hzx
            have hzr := toElAll_rep hzx (ofLeafs_rel (C := C) zv.cells.toList)
            have hone := hzr.one
            have mk : ∀ m : Nat, m * i.bytes ≤ 140737488355328 → ∃ news : List Value, news.length = (List.replicate m z).length * k.sz ∧ Segs C k (List.replicate m z) news ∧ ASrc P e' i zv ty ty2 r (.int kq (m : Int)) (List.replicate m z).length news C.w := fun m hm => by
              have hle : m ≤ m * i.bytes := Nat.le_mul_of_pos_right _ hb0'
              refine ⟨(Builtin.zeroCells zv.cells m).toList, ?_, Segs.zero hzr m, ?_⟩
              · rw [List.length_replicate, Array.length_toList, size_zeroCells, hzs, hisz]
              · rw [List.length_replicate]
                exact ASrc.zeros hu hu2 hi hzv hzs hone hs0 hm (by omega)
            have key : ∀ {id off : Nat} {len : Option Nat}, SlRel C v id off len → ∀ {k' : Kd} {T : TypeId} {xs : List (El k')}, vw id = some (.row true k' T xs) → ∀ (hk' : k' = k), T = e' →
                ∀ {zs : List (El k)}, HEq zs ((xs.drop off).take (len.getD xs.length)) → 0 ≤ n → (((len.getD xs.length : Nat) : Int) + n) * (P.bytesOf e' : Nat) ≤ 140737488355328 →
                out = ⟨.own fresh, [(id, none), (fresh, some (.row true k e' (zs ++ List.replicate n.toNat z)))]⟩ → Gives P (Builtin.append_ #[ty, ty2] r #[v, .int kq n]) w0 M0 av fresh C out := by
              intro id off len hs k' T xs hv hk' hT zs hzq hn0 hbb ho
              subst hk'
              subst hT
              obtain rfl := eq_of_heq hzq
              subst ho
              obtain ⟨m, rfl⟩ := Int.eq_ofNat_of_zero_le hn0
              rw [bytes_eq hi] at hbb
              have hbb' : (len.getD xs.length + m) * i.bytes ≤ 140737488355328 := by
                have : (((len.getD xs.length + m) * i.bytes : Nat) : Int) ≤ ((140737488355328 : Nat) : Int) := by
                  rw [Int.natCast_mul, Int.natCast_add]
                  exact hbb
                exact Int.ofNat_le.1 this
              obtain ⟨news, hnl, hns, hsrc⟩ := mk m (Nat.le_trans (Nat.mul_le_mul_right _ (Nat.le_add_left ..)) hbb')
              obtain ⟨v', C', g1, g2, g3, g4, g5⟩ := append_own (P := P) (r := r) t hav hu hi hisz hzv hzs hs (hsub _ _ hv) hnl hns hsrc (by rw [List.length_replicate]; exact hbb') hb0'
              exact ⟨v', C', g1, g2, g3, weak_fresh g4, g5⟩
            split at h
            · cases h
              obtain ⟨hn0, hr⟩ := wh_res hr
              obtain ⟨hbb, hr⟩ := wh_res hr
              cases hr
              obtain ⟨m, rfl⟩ := Int.eq_ofNat_of_zero_le hn0
              cases hx
              rename_i A
              rw [bytes_eq hi] at hbb
              have hbb' : m * i.bytes ≤ 140737488355328 := by
                have : ((m * i.bytes : Nat) : Int) ≤ ((140737488355328 : Nat) : Int) := by
                  rw [Int.natCast_mul]
                  exact hbb
                exact Int.ofNat_le.1 this
              obtain ⟨news, hnl, hns, hsrc⟩ := mk m hbb'
              rcases Nat.eq_zero_or_pos m with hm | hm
              · subst hm
                have hrun := hsrc.nothing rfl A 0 0 (Nat.le_refl 0)
                have hio : C.io fresh = none := t.av _ (hav 0 (by decide))
                refine ⟨_, C.newNil fresh k e', hrun, rfl, Ext.newNil hio k e', weak_fresh (t.newNil hio k e'), .own ⟨?_, _, _, _, rfl, fun blk e => ?_⟩⟩
                · show upd C.io fresh _ fresh ≠ none
                  rw [upd_same]
                  simp
                · change upd C.tab fresh _ fresh = _ at e
                  rw [upd_same] at e
                  cases e
                  exact ⟨k, e', [], .inl ⟨_, rfl⟩, rfl, Nat.zero_le _, Nat.le_refl _, .inl ⟨upd_same .., rfl⟩⟩
              · have := append_grow (P := P) (r := r) (zs := ([] : List (El k))) (A := A) (c := 0) t hav hu hi hisz hzv hzs (fun h => absurd h (by simp)) hnl hns hsrc (Nat.zero_le _) (by rw [List.length_replicate]; show 0 < 0 + m; omega) (by rw [List.length_nil, Nat.zero_add, List.length_replicate]; exact hbb') hb0' (Fade.refl C.tab)
                obtain ⟨v', C', g1, g2, g3, g4, g5⟩ := this
                exact ⟨v', C', g1, g2, g3, weak_fresh g4, g5⟩
            · rename_i id
              cases hx with
              | own hx =>
                split at h
                · rename_i k' T xs hv
                  split at h
                  · rename_i hk'
                    cases hT : Nat.beq T e' with
                    | false => rw [hT] at h; cases h
                    | true =>
                      rw [hT] at h
                      cases h
                      obtain ⟨hn0, hr⟩ := wh_res hr
                      obtain ⟨hbb, hr⟩ := wh_res hr
                      cases hr
                      refine key hx hv hk' (Nat.eq_of_beq_eq_true hT) ?_ hn0 ?_ rfl
                      · rw [Option.getD_none, drop_zero_take]
                        exact castR_heq _ _
                      · subst hk'
                        exact hbb
                  · cases h
                · cases h
            · rename_i id off len
              cases hx with
              | sl hx =>
                split at h
                · rename_i k' T xs hv
                  split at h
                  · rename_i hk'
                    cases hT : Nat.beq T e' with
                    | false => rw [hT] at h; cases h
                    | true =>
                      rw [hT] at h
                      cases h
                      obtain ⟨hn0, hr⟩ := wh_res hr
                      obtain ⟨hbb, hr⟩ := wh_res hr
                      cases hr
                      refine key hx hv hk' (Nat.eq_of_beq_eq_true hT) ?_ hn0 ?_ rfl
                      · subst hk'
                        exact HEq.rfl
                      · exact hbb
                  · cases h
                · cases h
            · cases h
          · cases h
        · cases h
    · cases h
  · cases h

end
end Go.Proofs.Ytmjbjlhjpdebjaa.Mini
