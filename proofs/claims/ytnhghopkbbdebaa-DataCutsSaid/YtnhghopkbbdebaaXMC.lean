/- A small machine over plain data: each operation of the machine does what it is told to do. Eighth part: copy, make, and all of them together. -/
import Derived.Test.YtnhghopkbbdebaaXMB
namespace Go.Proofs.Ytnhghopkbbdebaa.Mini
open Go Go.RowKit
section
variable {P : Program} {s : Sem Value} {w0 : Start} {M0 av : Nat → Prop} {fresh : Nat} {C : Ctx} {out : Out}

theorem seg_after {α : Type} (L vs : List α) (S a sz : Nat) (h : a + vs.length ≤ S) (h2 : a + vs.length ≤ L.length) : ((L.take a ++ vs ++ L.drop (a + vs.length)).drop S).take sz = (L.drop S).take sz := by
  apply List.ext_getElem?
  intro i
  rw [List.getElem?_take, List.getElem?_drop, splice_get _ _ _ h2, List.getElem?_take, List.getElem?_drop]
  split
  · rw [if_neg (by omega), if_neg (by omega)]
  · rfl

theorem ElAt.take {k : Kd} {ys : List (El k)} {A : Option Addr} (h : ElAt C k ys A) (n : Nat) : ElAt C k (ys.take n) A := by
  intro h0
  rw [List.length_take] at h0
  obtain ⟨b, o, cs, T, fr, hA, hh, hx⟩ := h (by omega)
  refine ⟨b, o, cs, T, fr, hA, hh, fun j x hj => ?_⟩
  rw [List.getElem?_take] at hj
  split at hj
  · exact hx j x hj
  · cases hj

theorem firstCells_any {k : Kd} {zs : List (El k)} {A : Option Addr} {n c : Nat} (h : ElAt C k zs A) (w' : World) (hw : w'.heap = C.w.heap) :
    ∃ olds : List Value, olds.length = zs.length * k.sz ∧ Segs C k zs olds ∧ (Builtin.firstCells k.sz zs.length (.slice A n c)).run P w' = .ok olds.toArray w' := by
  obtain ⟨olds, hl, hs, hA⟩ := h.cells
  refine ⟨olds, hl, hs, ?_⟩
  rcases Nat.eq_zero_or_pos zs.length with h0 | h0
  · have hn : olds = [] := List.eq_nil_of_length_eq_zero (by rw [hl, h0]; simp)
    subst hn
    rw [h0]
    cases A with
    | none => exact run_firstCells_none w' k.sz 0 n c
    | some a => exact run_firstCells_some (P := P) w' k.sz 0 a n c [] (by simp) (by simp)
  · obtain ⟨ad, rfl, _, hcells⟩ := hA h0
    exact run_firstCells_some (P := P) w' k.sz zs.length ad n c olds hl (hcells w' hw)

theorem copy_own (t : TabOk w0 M0 av C) {ty ty2 r e' : TypeId} {k : Kd} (hu : P.underlying ty = some (.slice e')) {i : TypeInfo} (hi : P.info? e' = some i) (hisz : i.size = k.sz)
    {v : Value} {id off : Nat} {len : Option Nat} (hs : SlRel C v id off len) {o : Bool} {T : TypeId} {xs ys : List (El k)} (e1 : C.tab id = some (.row o k T xs)) {A2 : Option Addr} {c2 : Nat} (hy : ElAt C k ys A2) :
    ∃ C', (Builtin.copy_ #[ty, ty2] r #[v, .slice A2 ys.length c2]).run P C.w = .ok (.int .i64 ((min ys.length (len.getD xs.length) : Nat) : Int)) C'.w ∧
      C'.tab = upd C.tab id (some (.row o k T (splice xs off (ys.take (len.getD xs.length))))) ∧ Ext C C' ∧ TabOk w0 M0 av C' := by
  obtain ⟨hn0, A, n, c, rfl, hb⟩ := hs
  obtain ⟨k', T', xs', hr', hn, ho, hnc, hat⟩ := hb _ e1
  obtain ⟨rfl, rfl, hq⟩ := RowLike.uniq (.inl ⟨_, rfl⟩) hr'
  obtain rfl := eq_of_heq hq
  rw [← hn]
  have hyl : (ys.take n).length = min ys.length n := by rw [List.length_take, Nat.min_comm]
  obtain ⟨news, hnl, hns, hrun⟩ := firstCells_any (P := P) (n := ys.length) (c := c2) (hy.take n) C.w rfl
  rw [hyl] at hnl hrun
  rcases Nat.eq_zero_or_pos (min ys.length n) with hm | hm
  · have hne : news = [] := List.eq_nil_of_length_eq_zero (by rw [hnl, hm]; simp)
    have hy0 : ys.take n = [] := List.eq_nil_of_length_eq_zero (by rw [hyl]; exact hm)
    subst hne
    rw [hm] at hrun
    refine ⟨C, ?_, ?_, Ext.refl C, t⟩
    · rw [← hisz] at hrun
      cases A <;> simp [Builtin.copy_, run_underlying hu, Builtin.lenOf, run_sizeOf hi, hm, hrun, storeCells, goInt]
    · rw [hy0]
      show C.tab = upd C.tab id (some (.row o k T (xs.take off ++ [] ++ xs.drop (off + 0))))
      rw [List.append_nil, Nat.add_zero, List.take_append_drop, ← e1, upd_self]
  · rcases hat with ⟨hnil, hc0⟩ | ⟨p, hp, hA, cs, T2, fr, hh, hsz⟩
    · omega
    · obtain rfl := hA (by omega)
      obtain ⟨p', hp', hbr⟩ := t.bl id _ e1
      rw [hp] at hp'
      cases hp'
      obtain ⟨cs', hh', hseg⟩ := rowAt_seg hbr
      rw [hh] at hh'
      cases hh'
      have hcl : cs.toList.length = cs.size := Array.length_toList
      rw [Nat.add_mul] at hsz
      have hmc : min ys.length n * k.sz ≤ c * k.sz := Nat.mul_le_mul_right _ (by omega)
      have hfit : p.o + off * k.sz + news.length ≤ cs.size := by omega
      have hone : ∀ u ∈ news, u.oneCell' = true := hns.one (by rw [hyl]; exact hnl)
      have hst := run_storeCells_at P p.b (p.o + off * k.sz) T news 0 cs C.w hh (by simpa using hfit) hone
      simp only [Nat.add_zero] at hst
      have hsp := splice_len cs.toList news (p.o + off * k.sz) (by omega)
      have hsize : (cs.toList.take (p.o + off * k.sz) ++ news ++ cs.toList.drop (p.o + off * k.sz + news.length)).toArray.size = cs.size := by rw [List.size_toArray, hsp, hcl]
      have hcomp : Compat (.row o k T xs) (.row o k T (splice xs off (ys.take n))) := ⟨xs, rfl, (splice_len _ _ _ (by rw [hyl]; omega)).symm⟩
      have hx := Ext.put t e1 hp rfl hcomp hh _ hsize
      refine ⟨C.put id p.b _ _, ?_, rfl, hx, TabOk.put t e1 hp rfl hcomp hh _ hsize (.inr ⟨p, rfl, _, setRow_heap _ _ _ _ _ _ hh, fun j y hj => ?_⟩)⟩
      · rw [← hisz] at hrun hst
        rw [hisz] at hst
        have hm' : Nat.min ys.length n = min ys.length n := rfl
        simp [Builtin.copy_, run_underlying hu, Builtin.lenOf, run_sizeOf hi, hm', hrun, hst, goInt, Ctx.put]
      · rw [hsize, List.toList_toArray]
        unfold splice at hj
        rw [splice_get _ _ _ (by rw [hyl]; omega), hyl] at hj
        split at hj
        · rename_i h1
          obtain ⟨g1, g2⟩ := hseg j y hj
          have e3 : (j + 1) * k.sz ≤ off * k.sz := Nat.mul_le_mul_right _ h1
          rw [Nat.add_mul] at e3
          refine ⟨g1, ?_⟩
          rw [seg_before _ _ _ _ _ (by omega) (by omega)]
          exact g2.ext hx.reads
        · rename_i h1
          split at hj
          · rename_i h2
            obtain ⟨g1, g2⟩ := hns _ y hj
            have e5 : j * k.sz = off * k.sz + (j - off) * k.sz := by
              rw [← Nat.add_mul]
              congr 1
              omega
            refine ⟨by omega, ?_⟩
            rw [show p.o + j * k.sz = p.o + off * k.sz + (j - off) * k.sz by omega, seg_in _ _ _ _ _ g1 (by omega)]
            exact g2.ext hx.reads
          · rename_i h2
            obtain ⟨g1, g2⟩ := hseg j y hj
            have e3 : (off + min ys.length n) * k.sz ≤ j * k.sz := Nat.mul_le_mul_right _ (by omega)
            rw [Nat.add_mul] at e3
            refine ⟨g1, ?_⟩
            rw [seg_after _ _ _ _ _ (by omega) (by omega)]
            exact g2.ext hx.reads

theorem copyV_gives (t : TabOk w0 M0 av C) {vw : Tab} (hsub : Sub vw C.tab) {ty ty2 r : TypeId} {x y : AV} {v u : Value} {e : Eff} (h : copyV P vw ty x y = some e) (hr : e.Res out)
    (hx : Rel C v x) (hy : Rel C u y) : Gives P (Builtin.copy_ #[ty, ty2] r #[v, u]) w0 M0 av fresh C out := by
  unfold copyV at h
  split at h
  · rename_i e' hu
    split at h
    · rename_i k hk
      obtain ⟨i, hi, hisz⟩ := kd_info hk
      split at h
      · rename_i ys hys
        obtain ⟨Ay, cy, rfl, hyc, hye⟩ := elemsV_at t hsub hys hy
        split at h
        · rename_i id
          cases hx with
          | own hx =>
            split at h
            · rename_i o k' T xs hv
              split at h
              · rename_i hk'
                subst hk'
                obtain rfl := out_res h hr
                obtain ⟨C', g1, g2, g3, g4⟩ := copy_own (P := P) (ty2 := ty2) (r := r) (c2 := cy) t hu hi hisz hx (hsub _ _ hv) hye
                exact ⟨_, C', g1, g2, g3, g4.weak fun _ h => h.1, .int⟩
              · cases h
            · cases h
        · rename_i id off len
          cases hx with
          | sl hx =>
            split at h
            · rename_i o k' T xs hv
              split at h
              · rename_i hk'
                subst hk'
                obtain rfl := out_res h hr
                obtain ⟨C', g1, g2, g3, g4⟩ := copy_own (P := P) (ty2 := ty2) (r := r) (c2 := cy) t hu hi hisz hx (hsub _ _ hv) hye
                exact ⟨_, C', g1, g2, g3, g4.weak fun _ h => h.1, .int⟩
              · cases h
            · cases h
        · cases h
      · cases h
    · cases h
  · cases h

/-! ### Rows that are made -/
theorem makeSliceV_gives (t : TabOk w0 M0 av C) (hav : ∀ c, c < room → av (fresh + c)) {ty : TypeId} {x y : AV} {v u : Value} {e : Eff} (h : makeSliceV P fresh ty x y = some e) (hr : e.Res out)
    (hx : Rel C v x) (hy : Rel C u y) : Gives P (Instr.makeSlice ty v u) w0 M0 av fresh C out := by
  unfold makeSliceV at h
  split at h
  · rename_i e' k1 l k2 c hu
    cases hx
    cases hy
    split at h
    · rename_i k z hk hz
      obtain ⟨i, hi, hisz⟩ := kd_info hk
      obtain ⟨i', zv, hi', hzv, hzs, rfl⟩ := zero_eq hz
      rw [hi] at hi'
      cases hi'
      split at h
      · rename_i zx hzx
        cases h
        obtain ⟨h1, hr⟩ := wh_res hr
        obtain ⟨h2, hr⟩ := wh_res hr
        obtain ⟨h3, hr⟩ := wh_res hr
        obtain ⟨h4, hr⟩ := wh_res hr
        cases hr
        rw [bytes_eq hi] at h3
        obtain ⟨ln, rfl⟩ := Int.eq_ofNat_of_zero_le h1
        obtain ⟨cn, rfl⟩ := Int.eq_ofNat_of_zero_le (Int.le_trans h1 h2)
        have hio : C.io fresh = none := t.av _ (hav 0 (by decide))
        have hzr := toElAll_rep hzx (ofLeafs_rel (C := C) zv.cells.toList)
        have hseg := Segs.zero hzr cn
        have hlc : ln ≤ cn := Int.ofNat_le.1 h2
        have hseg' : Segs C k (List.replicate ln zx) ((Array.range (cn * zv.cells.size)).map (fun j => zv.cells[j % zv.cells.size]!)).toList := fun j y hj => by
          have hjl := (List.getElem?_eq_some_iff.1 hj).1
          rw [List.length_replicate] at hjl
          refine hseg j y ?_
          rw [List.getElem?_replicate, if_pos hjl] at hj
          rw [List.getElem?_replicate, if_pos (by omega)]
          exact hj
        have g := own_new t hio (T := e') hseg' (c := cn) (by rw [List.length_replicate]; exact hlc) (by simp [hzs, hisz])
        rw [List.length_replicate] at g
        have hw1 : IntKind.i64.wrap (ln : Int) = ln := by
          rw [← wr_eq]
          simp only [wr, wrap64]
          omega
        have hw2 : IntKind.i64.wrap (cn : Int) = cn := by
          rw [← wr_eq]
          simp only [wr, wrap64]
          omega
        refine ⟨_, C.new fresh ((Array.range (cn * zv.cells.size)).map (fun j => zv.cells[j % zv.cells.size]!)) e' (.row true k e' (List.replicate ln zx)), ?_, ?_, Ext.new hio _ _ _, weak_fresh g.1, g.2⟩
        · have hbig : ¬ ((i.bytes : Int) * (cn : Int) > 2 ^ 48) := by
            have : (i.bytes : Int) * (cn : Int) = (cn : Int) * (i.bytes : Int) := Int.mul_comm _ _
            rw [this]
            omega
          have hlt : ¬ ((cn : Int) < (ln : Int)) := by omega
          have he : ∀ f : Nat → Value, (Array.range 0).map f = #[] := fun f => by
            apply Array.ext'
            simp
          rw [hzs]
          have hno : ¬ (((cn : Int) < 0 ∨ 281474976710656 < (i.bytes : Int) * (cn : Int)) ∨ (ln : Int) < 0) := by omega
          by_cases hz0 : cn * i.size = 0
          · simp [Instr.makeSlice, run_underlying hu, asInt, asIntOf, typeInfo, hi, hw1, hw2, hlt, run_sizeOf hi, hz0, he, newRow, Ctx.new]
            exact fun h => absurd h hno
          · simp [Instr.makeSlice, run_underlying hu, asInt, asIntOf, typeInfo, hi, hw1, hw2, hlt, run_sizeOf hi, hz0, run_zeroValue hi hzv, hzs, newRow, Ctx.new]
            exact fun h => absurd h hno
        · rfl
      · cases h
    · cases h
  · cases h

end
end Go.Proofs.Ytnhghopkbbdebaa.Mini
