/- A small machine over plain data: each operation of the machine does what it is told to do. Eighth part: copy, make, and all of them together. -/
import Derived.Test.YtmjbjlhjpdebjaaXMB
import Derived.Laws.BytesArg
namespace Go.Proofs.Ytmjbjlhjpdebjaa.Mini
open Go Go.RowKit
section
variable {P : Program} {s : Sem Value} {w0 : Start} {M0 av : Nat → Prop} {fresh : Nat} {C : Ctx} {out : Out}

theorem seg_after {α : Type} (L vs : List α) (S a sz : Nat) (h : a + vs.length ≤ S) (h2 : a + vs.length ≤ L.length) : ((L.take a ++ vs ++ L.drop (a + vs.length)).drop S).take sz = (L.drop S).take sz := by
  apply List.ext_getElem?
  intro i
  rw [List.getElem?_take, List.getElem?_drop, splice_get _ _ _ h2, List.getElem?_take, List.getElem?_drop]
  split
  · rw [if_neg (by omega), if_neg (by omega)]
  · rfl

theorem ElAt.take {k : Kd} {ys : List (El k)} {A : Option Addr} (h : ElAt C k ys A) (n : Nat) : ElAt C k (ys.take n) A := by
  intro h0
  rw [List.length_take] at h0
  obtain ⟨b, o, cs, T, fr, hA, hh, hx⟩ := h (by omega)
  refine ⟨b, o, cs, T, fr, hA, hh, fun j x hj => ?_⟩
  rw [List.getElem?_take] at hj
  split at hj
  · exact hx j x hj
  · cases hj

theorem firstCells_any {k : Kd} {zs : List (El k)} {A : Option Addr} {n c : Nat} (h : ElAt C k zs A) (w' : World) (hw : w'.heap = C.w.heap) :
    ∃ olds : List Value, olds.length = zs.length * k.sz ∧ Segs C k zs olds ∧ (Builtin.firstCells k.sz zs.length (.slice A n c)).run P w' = .ok olds.toArray w' := by
  obtain ⟨olds, hl, hs, hA⟩ := h.cells
  refine ⟨olds, hl, hs, ?_⟩
  rcases Nat.eq_zero_or_pos zs.length with h0 | h0
  · have hn : olds = [] := List.eq_nil_of_length_eq_zero (by rw [hl, h0]; simp)
    subst hn
    rw [h0]
    cases A with
    | none => exact run_firstCells_none w' k.sz 0 n c
    | some a => exact run_firstCells_some (P := P) w' k.sz 0 a n c [] (by simp) (by simp)
  · obtain ⟨ad, rfl, _, hcells⟩ := hA h0
    exact run_firstCells_some (P := P) w' k.sz zs.length ad n c olds hl (hcells w' hw)

theorem copy_own (t : TabOk w0 M0 av C) {ty ty2 r e' : TypeId} {k : Kd} (hu : P.underlying ty = some (.slice e')) {i : TypeInfo} (hi : P.info? e' = some i) (hisz : i.size = k.sz)
    {v : Value} {id off : Nat} {len : Option Nat} (hs : SlRel C v id off len) {o : Bool} {T : TypeId} {xs ys : List (El k)} (e1 : C.tab id = some (.row o k T xs)) {A2 : Option Addr} {c2 : Nat} (hy : ElAt C k ys A2) :
    ∃ C', (Builtin.copy_ #[ty, ty2] r #[v, .slice A2 ys.length c2]).run P C.w = .ok (.int .i64 ((min ys.length (len.getD xs.length) : Nat) : Int)) C'.w ∧
      C'.tab = upd C.tab id (some (.row o k T (splice xs off (ys.take (len.getD xs.length))))) ∧ Ext C C' ∧ TabOk w0 M0 av C' := by
  obtain ⟨hn0, A, n, c, rfl, hb⟩ := hs
  obtain ⟨k', T', xs', hr', hn, ho, hnc, hat⟩ := hb _ e1
  obtain ⟨rfl, rfl, hq⟩ := RowLike.uniq (.inl ⟨_, rfl⟩) hr'
  obtain rfl := eq_of_heq hq
  rw [← hn]
  have hyl : (ys.take n).length = min ys.length n := by rw [List.length_take, Nat.min_comm]
  obtain ⟨news, hnl, hns, hrun⟩ := firstCells_any (P := P) (n := ys.length) (c := c2) (hy.take n) C.w rfl
  rw [hyl] at hnl hrun
  rcases Nat.eq_zero_or_pos (min ys.length n) with hm | hm
  · have hne : news = [] := List.eq_nil_of_length_eq_zero (by rw [hnl, hm]; simp)
    have hy0 : ys.take n = [] := List.eq_nil_of_length_eq_zero (by rw [hyl]; exact hm)
    subst hne
    rw [hm] at hrun
    refine ⟨C, ?_, ?_, Ext.refl C, t⟩
    · rw [← hisz] at hrun
      cases A <;> simp [Builtin.copy_, run_underlying hu, Builtin.lenOf, run_sizeOf hi, hm, hrun, storeCells, goInt]
    · rw [hy0]
      show C.tab = upd C.tab id (some (.row o k T (xs.take off ++ [] ++ xs.drop (off + 0))))
      rw [List.append_nil, Nat.add_zero, List.take_append_drop, ← e1, upd_self]
  · rcases hat with ⟨hnil, hc0⟩ | ⟨p, hp, hA, cs, T2, fr, hh, hsz⟩
    · omega
    · obtain rfl := hA (by omega)
      obtain ⟨p', hp', hbr⟩ := t.bl id _ e1
      rw [hp] at hp'
      cases hp'
      obtain ⟨cs', hh', hseg⟩ := rowAt_seg hbr
      rw [hh] at hh'
      cases hh'
      have hcl : cs.toList.length = cs.size := Array.length_toList
      rw [Nat.add_mul] at hsz
      have hmc : min ys.length n * k.sz ≤ c * k.sz := Nat.mul_le_mul_right _ (by omega)
      have hfit : p.o + off * k.sz + news.length ≤ cs.size := by omega
      have hone : ∀ u ∈ news, u.oneCell' = true := hns.one (by rw [hyl]; exact hnl)
      have hst := run_storeCells_at P p.b (p.o + off * k.sz) T news 0 cs C.w hh (by simpa using hfit) hone
      simp only [Nat.add_zero] at hst
      have hsp := splice_len cs.toList news (p.o + off * k.sz) (by omega)
      have hsize : (cs.toList.take (p.o + off * k.sz) ++ news ++ cs.toList.drop (p.o + off * k.sz + news.length)).toArray.size = cs.size := by rw [List.size_toArray, hsp, hcl]
      have hcomp : Compat (.row o k T xs) (.row o k T (splice xs off (ys.take n))) := ⟨xs, rfl, (splice_len _ _ _ (by rw [hyl]; omega)).symm⟩
      have hx := Ext.put t e1 hp rfl hcomp hh _ hsize
      refine ⟨C.put id p.b _ _, ?_, rfl, hx, TabOk.put t e1 hp rfl hcomp hh _ hsize (.inr ⟨p, rfl, _, setRow_heap _ _ _ _ _ _ hh, fun j y hj => ?_⟩)⟩
      · rw [← hisz] at hrun hst
        rw [hisz] at hst
        have hm' : Nat.min ys.length n = min ys.length n := rfl
        simp [Builtin.copy_, run_underlying hu, Builtin.lenOf, run_sizeOf hi, hm', hrun, hst, goInt, Ctx.put]
      · rw [hsize, List.toList_toArray]
        unfold splice at hj
        rw [splice_get _ _ _ (by rw [hyl]; omega), hyl] at hj
        split at hj
        · rename_i h1
          obtain ⟨g1, g2⟩ := hseg j y hj
          have e3 : (j + 1) * k.sz ≤ off * k.sz := Nat.mul_le_mul_right _ h1
          rw [Nat.add_mul] at e3
          refine ⟨g1, ?_⟩
          rw [seg_before _ _ _ _ _ (by omega) (by omega)]
          exact g2.ext hx.reads
        · rename_i h1
          split at hj
          · rename_i h2
            obtain ⟨g1, g2⟩ := hns _ y hj
            have e5 : j * k.sz = off * k.sz + (j - off) * k.sz := by
              rw [← Nat.add_mul]
              congr 1
              omega
            refine ⟨by omega, ?_⟩
            rw [show p.o + j * k.sz = p.o + off * k.sz + (j - off) * k.sz by omega, seg_in _ _ _ _ _ g1 (by omega)]
            exact g2.ext hx.reads
          · rename_i h2
            obtain ⟨g1, g2⟩ := hseg j y hj
            have e3 : (off + min ys.length n) * k.sz ≤ j * k.sz := Nat.mul_le_mul_right _ (by omega)
            rw [Nat.add_mul] at e3
            refine ⟨g1, ?_⟩
            rw [seg_after _ _ _ _ _ (by omega) (by omega)]
            exact g2.ext hx.reads

theorem copyV_gives (t : TabOk w0 M0 av C) {vw : Tab} (hsub : Sub vw C.tab) {ty ty2 r : TypeId} {x y : AV} {v u : Value} {e : Eff} (h : copyV P vw ty x y = some e) (hr : e.Res out)
    (hx : Rel C v x) (hy : Rel C u y) : Gives P (Builtin.copy_ #[ty, ty2] r #[v, u]) w0 M0 av fresh C out := by
  unfold copyV at h
  split at h
  · rename_i e' hu
    split at h
    · rename_i k hk
      obtain ⟨i, hi, hisz⟩ := kd_info hk
      split at h
      · rename_i ys hys
        obtain ⟨Ay, cy, rfl, hyc, hye⟩ := elemsV_at t hsub hys hy
        split at h
        · rename_i id
          cases hx with
          | own hx =>
            split at h
            · rename_i o k' T xs hv
              split at h
              · rename_i hk'
                subst hk'
                obtain rfl := out_res h hr
                obtain ⟨C', g1, g2, g3, g4⟩ := copy_own (P := P) (ty2 := ty2) (r := r) (c2 := cy) t hu hi hisz hx (hsub _ _ hv) hye
                exact ⟨_, C', g1, g2, g3, g4.weak fun _ h => h.1, .int⟩
              · cases h
            · cases h
        · rename_i id off len
          cases hx with
          | sl hx =>
            split at h
            · rename_i o k' T xs hv
              split at h
              · rename_i hk'
                subst hk'
                obtain rfl := out_res h hr
                obtain ⟨C', g1, g2, g3, g4⟩ := copy_own (P := P) (ty2 := ty2) (r := r) (c2 := cy) t hu hi hisz hx (hsub _ _ hv) hye
                exact ⟨_, C', g1, g2, g3, g4.weak fun _ h => h.1, .int⟩
              · cases h
            · cases h
        · cases h
      · cases h
    · cases h
  · cases h

/-! ### Rows that are made -/
theorem makeSliceV_gives (t : TabOk w0 M0 av C) (hav : ∀ c, c < room → av (fresh + c)) {ty : TypeId} {x y : AV} {v u : Value} {e : Eff} (h : makeSliceV P fresh ty x y = some e) (hr : e.Res out)
    (hx : Rel C v x) (hy : Rel C u y) : Gives P (Instr.makeSlice ty v u) w0 M0 av fresh C out := by
  unfold makeSliceV at h
  split at h
  · rename_i e' k1 l k2 c hu
    cases hx
    cases hy
    split at h
    · rename_i k z hk hz
      obtain ⟨i, hi, hisz⟩ := kd_info hk
      obtain ⟨i', zv, hi', hzv, hzs, rfl⟩ := zero_eq hz
      rw [hi] at hi'
      cases hi'
      split at h
      · rename_i zx hzx
        cases h
        obtain ⟨h1, hr⟩ := wh_res hr
        obtain ⟨h2, hr⟩ := wh_res hr
        obtain ⟨h3, hr⟩ := wh_res hr
        obtain ⟨h4, hr⟩ := wh_res hr
        cases hr
        rw [bytes_eq hi] at h3
        obtain ⟨ln, rfl⟩ := Int.eq_ofNat_of_zero_le h1
        obtain ⟨cn, rfl⟩ := Int.eq_ofNat_of_zero_le (Int.le_trans h1 h2)
        have hio : C.io fresh = none := t.av _ (hav 0 (by decide))
        have hzr := toElAll_rep hzx (ofLeafs_rel (C := C) zv.cells.toList)
        have hseg := Segs.zero hzr cn
        have hlc : ln ≤ cn := Int.ofNat_le.1 h2
        have hseg' : Segs C k (List.replicate ln zx) ((Array.range (cn * zv.cells.size)).map (fun j => zv.cells[j % zv.cells.size]!)).toList := fun j y hj => by
          have hjl := (List.getElem?_eq_some_iff.1 hj).1
          rw [List.length_replicate] at hjl
          refine hseg j y ?_
          rw [List.getElem?_replicate, if_pos hjl] at hj
          rw [List.getElem?_replicate, if_pos (by omega)]
          exact hj
        have g := own_new t hio (T := e') hseg' (c := cn) (by rw [List.length_replicate]; exact hlc) (by simp [hzs, hisz])
        rw [List.length_replicate] at g
        have hw1 : IntKind.i64.wrap (ln : Int) = ln := by
          rw [← wr_eq]
          simp only [wr, wrap64]
          omega
        have hw2 : IntKind.i64.wrap (cn : Int) = cn := by
          rw [← wr_eq]
          simp only [wr, wrap64]
          omega
        refine ⟨_, C.new fresh ((Array.range (cn * zv.cells.size)).map (fun j => zv.cells[j % zv.cells.size]!)) e' (.row true k e' (List.replicate ln zx)), ?_, ?_, Ext.new hio _ _ _, weak_fresh g.1, g.2⟩
        · have hbig : ¬ ((i.bytes : Int) * (cn : Int) > 2 ^ 48) := by
            have : (i.bytes : Int) * (cn : Int) = (cn : Int) * (i.bytes : Int) := Int.mul_comm _ _
            rw [this]
            omega
          have hlt : ¬ ((cn : Int) < (ln : Int)) := by omega
          have he : ∀ f : Nat → Value, (Array.range 0).map f = #[] := fun f => by
            apply Array.ext'
            simp
          rw [hzs]
          have hno : ¬ (((cn : Int) < 0 ∨ 281474976710656 < (i.bytes : Int) * (cn : Int)) ∨ (ln : Int) < 0) := by omega
          by_cases hz0 : cn * i.size = 0
          · simp [Instr.makeSlice, run_underlying hu, asInt, asIntOf, typeInfo, hi, hw1, hw2, hlt, run_sizeOf hi, hz0, he, newRow, Ctx.new]
            exact fun h => absurd h hno
          · simp [Instr.makeSlice, run_underlying hu, asInt, asIntOf, typeInfo, hi, hw1, hw2, hlt, run_sizeOf hi, hz0, run_zeroValue hi hzv, hzs, newRow, Ctx.new]
            exact fun h => absurd h hno
        · rfl
      · cases h
    · cases h
  · cases h

/-! ### Bytes and strings -/
def Ctx.drop1 (C : Ctx) (w' : World) (id : Nat) : Ctx := { w := w', io := C.io, tab := upd C.tab id none, base := C.base, yl := C.yl }

theorem drop1_tab {id j : Nat} {c : Blk} {tab : Tab} (h : upd tab id none j = some c) : j ≠ id ∧ tab j = some c := by
  by_cases h2 : j = id
  · subst h2
    rw [upd_same] at h
    cases h
  · rw [upd_ne _ _ h2] at h
    exact ⟨h2, h⟩

theorem drop1_ext {w' : World} {id : Nat} {p : Pl} {old : Blk} (e : C.tab id = some old) (hp : C.io id = some (some p)) (hm : old.isMut = true) (hw : Wrote C.w w' p.b) : Ext C (C.drop1 w' id) := by
  refine ExtH.ext ⟨fun i r e' => e', fun i blk' hne e' => ⟨blk', (drop1_tab e').2, Compat.refl _⟩, fun b c T fr e' _ => ?_, fun b hb ho => ⟨ho.1, fun i r blk' e1 e2 hm' => ho.2 i r blk' e1 (drop1_tab e2).2 hm'⟩, ?_⟩ rfl
  · by_cases h : b = p.b
    · subst h
      obtain ⟨cs', fr', h1, h2⟩ := hw.same c T fr e'
      exact ⟨cs', fr', h1, h2, fun ho => absurd rfl (ho.2 id p old hp e hm)⟩
    · exact ⟨c, _, (hw.other b h).trans e', rfl, fun _ => ⟨rfl, rfl⟩⟩
  · show C.w.heap.size ≤ w'.heap.size
    rw [hw.size]
    exact Nat.le_refl _

theorem drop1_ok (t : TabOk w0 M0 av C) {w' : World} {id : Nat} {p : Pl} {old : Blk} (e : C.tab id = some old) (hp : C.io id = some (some p)) (hm : old.isMut = true) (hw : Wrote C.w w' p.b) : TabOk w0 M0 av (C.drop1 w' id) := by
  have he := drop1_ext e hp hm hw
  refine ⟨fun i b e' => ?_, fun i i' r r' b b' e1 e2 h h' hr => t.inj i i' r r' b b' (drop1_tab e1).2 (drop1_tab e2).2 h h' hr, fun i r b e' h hm' => t.mb i r b (drop1_tab e').2 h hm', t.av, ?_, fun i r b e' h hm' => t.bs i r b (drop1_tab e').2 h hm', t.bf, t.bq⟩
  · obtain ⟨h2, e'⟩ := drop1_tab e'
    obtain ⟨r, hr, hrel⟩ := t.bl i b e'
    refine ⟨r, hr, hrel.ext he fun q' hq' => ?_⟩
    subst hq'
    exact hw.other _ fun hb' => h2 (t.inj i id q' p b old e' e hr hp hb')
  · refine ⟨hw.os.trans t.fr.os, hw.tape.trans t.fr.tape, hw.output.trans t.fr.output, Nat.le_trans t.fr.size he.size, fun i hi' hn => ?_⟩
    refine (hw.other i ?_).trans (t.fr.blk i hi' hn)
    rintro rfl
    rcases t.mb id p old e hp hm with h | h
    · omega
    · exact hn h

theorem freeze_heap (w : World) (b n i : Nat) : (w.freeze ⟨b, n, none⟩ 1).heap[i]? = if b = i then (w.heap[i]?).map (fun | .cells c e (lo, hi) => .cells c e (if lo == hi then (n, n + 1) else (min lo n, max hi (n + 1))) | o => o) else w.heap[i]? := by
  unfold World.freeze
  rw [if_neg (by decide)]
  show (w.heap.modify b _)[i]? = _
  rw [Array.getElem?_modify]
  rfl

theorem freeze_wrote (w : World) (b n : Nat) : Wrote w (w.freeze ⟨b, n, none⟩ 1) b := by
  refine ⟨rfl, rfl, rfl, ?_, fun i hi => ?_, fun cs T fr h => ?_⟩
  · unfold World.freeze
    rw [if_neg (by decide)]
    show (w.heap.modify b _).size = _
    simp
  · rw [freeze_heap, if_neg (Ne.symm hi)]
  · rw [freeze_heap, if_pos rfl, h]
    exact ⟨cs, _, rfl, rfl⟩

theorem freeze_same {w : World} {b : Nat} {cs : Array Value} {T : TypeId} {fr : Nat × Nat} (h : w.heap[b]? = some (.cells cs T fr)) (n : Nat) : ∃ fr', (w.freeze ⟨b, n, none⟩ 1).heap[b]? = some (.cells cs T fr') := by
  rw [freeze_heap, if_pos rfl, h]
  exact ⟨_, rfl⟩

theorem run_mark {ty e' : TypeId} (hu : P.underlying ty = some (.slice e')) (he : P.underlying e' = some (.int .u8)) (b o n c : Nat) {w : World} {cs : Array Value} {T : TypeId} {fr : Nat × Nat} (hh : w.heap[b]? = some (.cells cs T fr)) :
    (convert ty ty (.slice (some ⟨b, o, none⟩) n c)).run P w = .ok (.slice (some ⟨b, o, none⟩) n c) (w.freeze ⟨b, cs.size, none⟩ 1) := by
  have hsh : w.shape? b = some (T, cs.size) := by
    unfold World.shape?
    rw [hh]
  simp [convert, run_underlying hu, run_underlying he, markStringish, hsh]

theorem mark_gives (t : TabOk w0 M0 av C) {ty e' : TypeId} (hu : P.underlying ty = some (.slice e')) (he : P.underlying e' = some (.int .u8)) {id : Nat} {T : TypeId} {xs : List Int} {v : Value} (hv : Rel C v (.own id))
    (hb : C.tab id = some (.row true (.int .u8) T xs)) (hne : xs ≠ []) : Gives P (convert ty ty v) w0 M0 av fresh C ⟨.row (.int .u8) xs, [(id, none)]⟩ := by
  cases hv with
  | own hs =>
    obtain ⟨hi, A, n, c, rfl, hblk⟩ := hs
    obtain ⟨k', T', ys, hr', hn, ho, hnc, hsl⟩ := hblk _ hb
    obtain ⟨rfl, rfl, hq⟩ := RowLike.uniq (k := .int .u8) (T := T) (xs := xs) (.inl ⟨true, rfl⟩) hr'
    obtain rfl := eq_of_heq hq
    have hn' : n = xs.length := hn
    subst hn'
    have h0 : 0 < xs.length := List.length_pos_iff.2 hne
    rcases hsl with ⟨_, hc⟩ | ⟨p, hp, hA, _⟩
    · omega
    · obtain rfl := hA (by omega)
      obtain ⟨p', hp', hrel⟩ := t.bl id _ hb
      rw [hp] at hp'
      cases hp'
      rcases hrel with ⟨h, _⟩ | ⟨q, h, cs, hh, hx⟩
      · cases h
      · cases h
        have hw := freeze_wrote C.w p.b cs.size
        obtain ⟨fr', hf⟩ := freeze_same hh cs.size
        refine ⟨_, C.drop1 (C.w.freeze ⟨p.b, cs.size, none⟩ 1) id, run_mark hu he _ _ _ _ hh, rfl, drop1_ext hb hp rfl hw, (drop1_ok t hb hp rfl hw).weak fun _ h => h.1, .row ⟨_, c, rfl, hnc, fun _ => ⟨_, rfl, rfl, ⟨t.bs id p _ hb hp rfl, fun i r blk e1 e2 hm hbb => ?_⟩, cs, T, fr', hf, fun j x hj => ?_⟩⟩⟩
        · obtain ⟨h2, e2⟩ := drop1_tab e2
          exact h2 (t.inj i id r p blk _ e2 hb e1 hp hbb)
        · have hz : p.o + 0 * (Kd.int .u8).sz + j * (Kd.int .u8).sz = p.o + j * (Kd.int .u8).sz := by omega
          obtain ⟨k1, k2⟩ := hx j x hj
          refine ⟨?_, ?_⟩
          · show p.o + 0 * (Kd.int .u8).sz + j * (Kd.int .u8).sz + (Kd.int .u8).sz ≤ cs.size
            rw [hz]
            exact k1
          · show RepC _ _ (.int .u8) x ((cs.toList.drop (p.o + 0 * (Kd.int .u8).sz + j * (Kd.int .u8).sz)).take (Kd.int .u8).sz)
            rw [hz]
            exact k2

theorem str_gives (t : TabOk w0 M0 av C) {src dst e' : TypeId} (hu : P.underlying src = some (.slice e')) (he : P.underlying e' = some (.int .u8)) (hd : P.underlying dst = some .string) {A : Option Addr} {c : Nat} {xs : List Int}
    (h : ElAt C (.int .u8) xs A) : Gives P (convert src dst (.slice A xs.length c)) w0 M0 av fresh C ⟨.str (strOf xs), []⟩ := by
  refine gives_pure t ?_ (.str (s := strOf xs))
  cases xs with
  | nil =>
    rw [run_convert_bytes_string C.w src dst e' A _ c hu he hd]
    cases A with
    | none => simp [Conv.bytesToString, strOf]; rfl
    | some a => simp [Conv.bytesToString, strOf, loadCells]; rfl
  | cons y ys =>
    obtain ⟨b, o, cs, T, fr, rfl, hh, hx⟩ := h (by simp)
    refine run_convert_bytes_arg C.w src e' hu he b o _ c (y :: ys) rfl (fun i hi => ?_) dst hd
    have hj : (y :: ys)[i]? = some ((y :: ys).getD i 0) := by
      rw [List.getD_eq_getElem?_getD, List.getElem?_eq_getElem hi]
      rfl
    obtain ⟨k1, k2⟩ := hx i _ hj
    have k1' : o + i * 1 + 1 ≤ cs.size := k1
    have k2' : (cs.toList.drop (o + i * 1)).take 1 = [.int .u8 ((y :: ys).getD i 0)] := k2
    have hlt : o + i < cs.size := by omega
    rw [Nat.mul_one] at k2'
    have hc : cs[o + i]? = some (.int .u8 ((y :: ys).getD i 0)) := by
      have : (cs.toList.drop (o + i))[0]? = some (.int .u8 ((y :: ys).getD i 0)) := by
        have h0 : ((cs.toList.drop (o + i)).take 1)[0]? = some (.int .u8 ((y :: ys).getD i 0)) := by rw [k2']; rfl
        rw [List.getElem?_take] at h0
        simpa using h0
      rw [List.getElem?_drop] at this
      simpa using this
    simp [World.cell?, hh, hc]

theorem convV_gives (t : TabOk w0 M0 av C) {vw : Tab} (hsub : Sub vw C.tab) {src dst : TypeId} {x : AV} {v : Value} {e : Eff} (h : convV P vw src dst x = some e) (hr : e.Res out) (hx : Rel C v x) :
    Gives P (convert src dst v) w0 M0 av fresh C out := by
  unfold convV at h
  split at h
  · rename_i h1 h2
    cases hx
    obtain rfl := ok_res h hr
    exact gives_pure t (by simp [convert, run_underlying h1, run_underlying h2, Conv.intToInt, wr_eq]) .int
  · rename_i h1 h2
    cases hx
    obtain rfl := ok_res h hr
    exact gives_pure t (by simp [convert, run_underlying h1, run_underlying h2]) .str
  · rename_i e' y h1 h2
    split at h
    · rename_i h3
      split at h
      · rename_i xs hxs
        obtain rfl := ok_res h hr
        obtain ⟨A, c, rfl, _, hat⟩ := elemsV_at t hsub hxs hx
        exact str_gives t h1 h3 h2 hat
      · cases h
    · cases h
  · rename_i e' e2 id h1 h2
    split at h
    · rename_i T xs h3 h4
      cases hq : Nat.beq src dst && !xs.isEmpty with
      | false => rw [hq] at h; cases h
      | true =>
        rw [hq] at h
        obtain rfl := out_res h hr
        rw [Bool.and_eq_true] at hq
        obtain rfl := Nat.eq_of_beq_eq_true hq.1
        refine mark_gives t h1 h3 hx (hsub _ _ h4) ?_
        rintro rfl
        simp at hq
    · cases h
  · cases h

end
end Go.Proofs.Ytmjbjlhjpdebjaa.Mini
