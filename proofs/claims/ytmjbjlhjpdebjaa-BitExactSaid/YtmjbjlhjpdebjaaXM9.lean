/- A small machine over plain data: each operation of the machine does what it is told to do. Fifth part: structs and rows that are built, appended to, copied. -/
import Derived.Test.YtmjbjlhjpdebjaaXM8
namespace Go.Proofs.Ytmjbjlhjpdebjaa.Mini
open Go Go.RowKit
section
variable {P : Program} {s : Sem Value} {w0 : Start} {M0 av : Nat → Prop} {fresh : Nat} {C : Ctx} {out : Out}

/-! ### Parts laid into cells -/
theorem fold_set (off : Nat) : ∀ (vs : List Value) (k : Nat) (cs : Array Value), off + k + vs.length ≤ cs.size →
    ((vs.zipIdx k).foldl (fun cs (p : Value × Nat) => cs.setIfInBounds (off + p.2) p.1) cs).toList = cs.toList.take (off + k) ++ vs ++ cs.toList.drop (off + k + vs.length)
  | [], k, cs, _ => by simp
  | v :: vs, k, cs, h => by
    rw [List.zipIdx_cons, List.foldl_cons, fold_set off vs (k + 1) _ (by simp at h ⊢; omega)]
    simp only [Array.toList_setIfInBounds]
    have h0 : off + k < cs.toList.length := by rw [Array.length_toList]; simp at h; omega
    have hfit : off + k + (v :: vs).length ≤ cs.toList.length := by rw [Array.length_toList]; exact h
    apply List.ext_getElem?
    intro i
    rw [splice_get _ _ _ (by rw [List.length_set]; simp at hfit ⊢; omega), splice_get _ _ _ hfit, List.getElem?_set]
    simp only [List.length_cons]
    by_cases h1 : i < off + k
    · rw [if_pos (by omega), if_pos h1, if_neg (by omega)]
    · rw [if_neg h1]
      by_cases h2 : i = off + k
      · subst h2
        rw [if_pos (by omega), if_pos rfl, if_pos h0, if_pos (by omega), Nat.sub_self]
        rfl
      · rw [if_neg (by omega)]
        by_cases h3 : i < off + k + (vs.length + 1)
        · rw [if_pos (by omega), if_pos h3, show i - (off + k) = (i - (off + (k + 1))) + 1 by omega, List.getElem?_cons_succ]
        · rw [if_neg (by omega), if_neg h3, if_neg (by omega)]

theorem fold_set' (off : Nat) (vs cs : Array Value) (h : off + vs.size ≤ cs.size) :
    (vs.zipIdx.foldl (fun cs (p : Value × Nat) => cs.setIfInBounds (off + p.2) p.1) cs).toList = cs.toList.take off ++ vs.toList ++ cs.toList.drop (off + vs.toList.length) := by
  have := fold_set off vs.toList 0 cs (by simpa using h)
  rw [← Array.foldl_toList, Array.toList_zipIdx]
  simpa using this

inductive PartRel (C : Ctx) : List (Nat × Value) → List (Nat × AV) → Prop where
  | nil : PartRel C [] []
  | cons {i : Nat} {v : Value} {x : AV} {a : List (Nat × Value)} {b : List (Nat × AV)} (h : Rel C v x) (t : PartRel C a b) : PartRel C ((i, v) :: a) ((i, x) :: b)

theorem fill_step {place : Nat → Option (Nat × Nat)} {cs : Array Value} {i off n : Nat} {v : Value} {r : List (Nat × Value)} (hp : place i = some (off, n)) (hn : v.cells.size = n) (hl : off + v.cells.size ≤ cs.size) :
    ∃ cs' : Array Value, Instr.fill place cs ((i, v) :: r) = Instr.fill place cs' r ∧ cs'.toList = cs.toList.take off ++ v.cells.toList ++ cs.toList.drop (off + v.cells.toList.length) := by
  refine ⟨v.cells.zipIdx.foldl (fun cs (p : Value × Nat) => cs.setIfInBounds (off + p.2) p.1) cs, ?_, fold_set' off v.cells cs hl⟩
  rw [Instr.fill, hp]
  simp only
  rw [if_neg (by simp only [Bool.or_eq_true, decide_eq_true_eq]; omega)]

theorem fill_rel {pl : Nat → Option (Nat × Nat)} {place : Nat → Option (Nat × Nat)} (hpl : ∀ i, pl i = place i) : ∀ {vp : List (Nat × Value)} {xp : List (Nat × AV)}, PartRel C vp xp → ∀ {cs : Array Value} {l l' : List AV},
    RelL C cs.toList l → fill pl l xp = some l' → ∃ cs', Instr.fill place cs vp = some cs' ∧ RelL C cs'.toList l'
  | _, _, .nil, cs, l, l', hc, h => by
    cases h
    exact ⟨cs, by rw [Instr.fill], hc⟩
  | _, _, .cons (i := i) (v := v) (x := x) hx t, cs, l, l', hc, h => by
    unfold fill at h
    rw [hpl i] at h
    cases hp : place i with
    | none => rw [hp] at h; cases h
    | some on =>
      obtain ⟨off, n⟩ := on
      rw [hp] at h
      simp only at h
      cases hb : (Nat.beq x.leaves.length n && x.leaves.all leafB) with
      | false => rw [hb] at h; cases h
      | true =>
        rw [hb] at h
        simp only [Bool.and_eq_true, cond_true] at hb h
        have hn := Nat.eq_of_beq_eq_true hb.1
        have hcr := cells_rel hx hb.2
        have hcl := hcr.length
        rw [Array.length_toList] at hcl
        split at h
        · rename_i l2 hl2
          obtain ⟨k1, rfl⟩ := putL_eq hl2
          have hll := hc.length
          rw [Array.length_toList] at hll
          obtain ⟨cs', e1, e2⟩ := fill_step (r := _) hp (by rw [hcl, hn]) (cs := cs) (by omega)
          rw [e1]
          exact fill_rel hpl t (by rw [e2]; exact hc.splice hcr off) h
        · cases h

theorem mapM_info (P : Program) : ∀ (fs : List Field), fs.all (fun f => (P.info? f.type).isSome) = true →
    fs.mapM (fun f => (P.info? f.type).map fun i => (f.offset, i.size)) = some (fs.map fun f => (f.offset, P.cellsOf f.type))
  | [], _ => rfl
  | f :: fs, h => by
    simp only [List.all_cons, Bool.and_eq_true] at h
    obtain ⟨i, hi⟩ := Option.isSome_iff_exists.1 h.1
    simp [List.mapM_cons, hi, mapM_info P fs h.2, cellsOf_eq hi]

theorem buildV_gives (t : TabOk w0 M0 av C) {ty : TypeId} {vp : Array (Nat × Value)} {xp : List (Nat × AV)} {e : Eff} (h : buildV P ty xp = some e) (hr : e.Res out) (hx : PartRel C vp.toList xp) :
    Gives P (Instr.build ty vp) w0 M0 av fresh C out := by
  unfold buildV at h
  split at h
  · rename_i z fs hz hu
    obtain ⟨i, zv, hi, hzv, hzs, rfl⟩ := zero_eq hz
    cases hb : fs.all (fun f => (P.info? f.type).isSome) with
    | false => rw [hb] at h; cases h
    | true =>
      rw [hb] at h
      simp only [Bool.not_true, cond_false] at h
      split at h
      · rename_i l hl
        obtain rfl := ok_res h hr
        have hm := mapM_info P fs.toList (by simpa using hb)
        obtain ⟨cs', h1, h2⟩ := fill_rel (place := ((fs.toList.map fun f => (f.offset, P.cellsOf f.type)).toArray[·]?)) (fun i => by
          simp only [List.getElem?_toArray, List.getElem?_map, Array.getElem?_toList]
          cases fs[i]? <;> rfl) hx (cs := zv.cells) (ofLeafs_rel _) hl
        exact gives_pure t (run_build C.w ty vp cs' (by simp only [Program.built, hi, hu, hzv, hm, h1])) (.agg h2)
      · cases h
  · rename_i z n e' hz hu
    obtain ⟨i, zv, hi, hzv, hzs, rfl⟩ := zero_eq hz
    cases hb : (P.info? e').isSome with
    | false => rw [hb] at h; cases h
    | true =>
      rw [hb] at h
      simp only [Bool.not_true, cond_false] at h
      obtain ⟨ie, hie⟩ := Option.isSome_iff_exists.1 hb
      split at h
      · rename_i l hl
        obtain rfl := ok_res h hr
        obtain ⟨cs', h1, h2⟩ := fill_rel (place := fun i => some (i * ie.size, ie.size)) (fun i => by rw [cellsOf_eq hie]) hx (cs := zv.cells) (ofLeafs_rel _) hl
        exact gives_pure t (run_build C.w ty vp cs' (by simp only [Program.built, hi, hu, hzv, hie, h1])) (.agg h2)
      · cases h
  · cases h

/-! ### Segments -/
/-- Elements side by side, from a list's head on. -/
def Segs (C : Ctx) (k : Kd) (xs : List (El k)) (L : List Value) : Prop := ∀ j x, xs[j]? = some x → j * k.sz + k.sz ≤ L.length ∧ RepC C.w C.ok k x ((L.drop (j * k.sz)).take k.sz)

theorem Segs.ext {C' : Ctx} (h : Ext C C') {k : Kd} {xs : List (El k)} {L : List Value} (r : Segs C k xs L) : Segs C' k xs L := fun j x hj => ⟨(r j x hj).1, (r j x hj).2.ext h.reads⟩

theorem Segs.one {k : Kd} {xs : List (El k)} {L : List Value} (r : Segs C k xs L) (hl : L.length = xs.length * k.sz) : ∀ u ∈ L, u.oneCell' = true := by
  intro u hu
  obtain ⟨i, hi⟩ := List.mem_iff_getElem?.1 hu
  have hi0 := (List.getElem?_eq_some_iff.1 hi).1
  have hsz : 0 < k.sz := by
    rcases Nat.eq_zero_or_pos k.sz with h | h
    · rw [h, Nat.mul_zero] at hl
      omega
    · exact h
  have hj : i / k.sz < xs.length := by rw [Nat.div_lt_iff_lt_mul hsz]; omega
  have hm := Nat.mod_lt i hsz
  have hd := Nat.div_add_mod i k.sz
  rw [Nat.mul_comm] at hd
  obtain ⟨_, h2⟩ := r (i / k.sz) _ (getD_at (d := dflt k) hj)
  refine h2.one u (List.mem_iff_getElem?.2 ⟨i % k.sz, ?_⟩)
  rw [List.getElem?_take, if_pos hm, List.getElem?_drop, hd]
  exact hi

theorem Segs.app {k : Kd} {xs ys : List (El k)} {L M : List Value} (h : Segs C k xs L) (hl : L.length = xs.length * k.sz) (r : Segs C k ys M) : Segs C k (xs ++ ys) (L ++ M) := by
  intro j x hj
  rw [List.getElem?_append] at hj
  split at hj
  · rename_i hlt
    obtain ⟨h1, h2⟩ := h j x hj
    refine ⟨by rw [List.length_append]; omega, ?_⟩
    rw [List.drop_append_of_le_length (by omega), List.take_append_of_le_length (by rw [List.length_drop]; omega)]
    exact h2
  · rename_i hge
    obtain ⟨h1, h2⟩ := r _ x hj
    have e : j * k.sz = L.length + (j - xs.length) * k.sz := by rw [hl, ← Nat.add_mul]; congr 1; omega
    refine ⟨by rw [List.length_append]; omega, ?_⟩
    rw [e, List.drop_append, List.drop_of_length_le (by omega), List.nil_append, Nat.add_sub_cancel_left]
    exact h2

theorem Segs.more {k : Kd} {xs : List (El k)} {L M : List Value} (h : Segs C k xs L) : Segs C k xs (L ++ M) := by
  intro j x hj
  obtain ⟨h1, h2⟩ := h j x hj
  refine ⟨by rw [List.length_append]; omega, ?_⟩
  rw [List.drop_append_of_le_length (by omega), List.take_append_of_le_length (by rw [List.length_drop]; omega)]
  exact h2

/-- Cells that repeat. -/
theorem rep_cells (z : Array Value) (n i : Nat) (hi : i < n) : (((Array.range n).map (fun j => z[j % z.size]!)).toList)[i]? = some (z[i % z.size]!) := by
  rw [Array.getElem?_toList, Array.getElem?_map, Array.getElem?_range, if_pos hi]
  rfl

theorem rep_seg (z : Array Value) (n j : Nat) (hj : j < n) : ((((Array.range (n * z.size)).map (fun i => z[i % z.size]!)).toList.drop (j * z.size)).take z.size) = z.toList := by
  apply List.ext_getElem?
  intro i
  rw [List.getElem?_take]
  split
  · rename_i hi
    have h1 : (j + 1) * z.size ≤ n * z.size := Nat.mul_le_mul_right _ hj
    rw [Nat.add_mul] at h1
    rw [List.getElem?_drop, rep_cells _ _ _ (by omega), Nat.mul_comm, Nat.mul_add_mod, Nat.mod_eq_of_lt hi, Array.getElem?_toList]
    simp [hi]
  · rename_i hi
    rw [List.getElem?_eq_none]
    rw [Array.length_toList]
    omega

theorem rep_len (z : Array Value) (n : Nat) : ((Array.range n).map (fun i => z[i % z.size]!)).toList.length = n := by simp

theorem Segs.zero {k : Kd} {z : El k} {zc : Array Value} (h : RepC C.w C.ok k z zc.toList) (n : Nat) : Segs C k (List.replicate n z) ((Array.range (n * zc.size)).map (fun i => zc[i % zc.size]!)).toList := by
  intro j x hj
  have hlt := (List.getElem?_eq_some_iff.1 hj).1
  rw [List.length_replicate] at hlt
  have hx : x = z := by
    rw [List.getElem?_replicate, if_pos hlt] at hj
    exact (Option.some.inj hj).symm
  subst hx
  have hs : zc.size = k.sz := by rw [← Array.length_toList, h.length]
  have h1 : (j + 1) * zc.size ≤ n * zc.size := Nat.mul_le_mul_right _ hlt
  rw [Nat.add_mul] at h1
  rw [rep_len, ← hs, rep_seg _ _ _ hlt]
  exact ⟨by omega, h⟩

/-! ### A row of one's own, new -/
theorem own_new (t : TabOk w0 M0 av C) (hi : C.io fresh = none) {k : Kd} {T : TypeId} {xs : List (El k)} {cs : Array Value} (hs : Segs C k xs cs.toList) {c : Nat} (hc : xs.length ≤ c) (hcs : c * k.sz ≤ cs.size) :
    TabOk w0 M0 (fun i => av i ∧ i ≠ fresh) (C.new fresh cs T (.row true k T xs)) ∧ Rel (C.new fresh cs T (.row true k T xs)) (.slice (some ⟨C.w.heap.size, 0, none⟩) xs.length c) (.own fresh) := by
  have he := Ext.new hi cs T (.row true k T xs)
  refine ⟨t.new hi cs T _ ?_, .own ⟨?_, _, _, _, rfl, fun blk e => ?_⟩⟩
  · refine .inr ⟨_, rfl, cs, alloc_new _ _, fun j x hj => ?_⟩
    obtain ⟨h1, h2⟩ := hs.ext he j x hj
    rw [Nat.zero_add]
    exact ⟨by rw [← Array.length_toList]; exact h1, h2⟩
  · show upd C.io fresh _ fresh ≠ none
    rw [upd_same]
    simp
  · change upd C.tab fresh _ fresh = _ at e
    rw [upd_same] at e
    cases e
    refine ⟨k, T, xs, .inl ⟨_, rfl⟩, rfl, by omega, hc, .inr ⟨⟨C.w.heap.size, 0⟩, upd_same .., fun _ => by rw [Nat.zero_mul], cs, T, (0, 0), alloc_new _ _, ?_⟩⟩
    show 0 + (0 + c) * k.sz ≤ cs.size
    rw [Nat.zero_add, Nat.zero_add]
    exact hcs

/-! ### Literals -/
theorem lits_frz {k : Kd} {vw : Tab} : ∀ {xp : List (Nat × AV)} {xs xs' : List (El k)} {c : Chg}, lits k vw xs xp = some (xs', c) → FrzOf vw c
  | [], _, _, _, h => by
    cases h
    intro p hp
    cases hp
  | (i, v) :: r, xs, xs', c, h => by
    unfold lits at h
    cases hb : v.leaves.all leafB with
    | false => rw [hb] at h; cases h
    | true =>
      rw [hb] at h
      simp only [Bool.not_true, cond_false] at h
      split at h
      · rename_i x c1 h1 h2
        split at h
        · rename_i xs2 c2 h3
          cases h
          intro p hp
          rcases List.mem_append.1 hp with hp | hp
          · exact frz_of h2 p hp
          · exact lits_frz h3 p hp
        · cases h
      · cases h

theorem lits_rel {vw : Tab} (t : TabOk w0 M0 av C) (hsub : Sub vw C.tab) {C1 : Ctx} (t1 : TabOk w0 M0 av C1) (hx1 : Ext C C1) {k : Kd} {n : Nat} : ∀ {vp : List (Nat × Value)} {xp : List (Nat × AV)}, PartRel C vp xp →
    ∀ {xs xs' : List (El k)} {c : Chg}, lits k vw xs xp = some (xs', c) → (∀ p ∈ c, C1.tab p.1 = p.2) → xs.length = n → xp.all (fun p => Nat.blt p.1 n) = true → ∀ {cs : Array Value}, cs.size = n * k.sz → Segs C1 k xs cs.toList →
    ∃ cs' : Array Value, Instr.fill (fun i => some (i * k.sz, k.sz)) cs vp = some cs' ∧ cs'.size = n * k.sz ∧ Segs C1 k xs' cs'.toList ∧ xs'.length = n
  | _, _, .nil, xs, xs', c, h, _, hn, _, cs, hcs, hs => by
    cases h
    exact ⟨cs, by rw [Instr.fill], hcs, hs, hn⟩
  | _, _, .cons (i := i) (v := v) (x := x) hx r, xs, xs', c, h, hc, hn, hall, cs, hcs, hs => by
    unfold lits at h
    cases hb : x.leaves.all leafB with
    | false => rw [hb] at h; cases h
    | true =>
      rw [hb] at h
      simp only [Bool.not_true, cond_false] at h
      simp only [List.all_cons, Bool.and_eq_true] at hall
      have hi : i < n := by simpa [Nat.blt_eq] using hall.1
      split at h
      · rename_i x1 c1 h1 h2
        split at h
        · rename_i xs2 c2 h3
          cases h
          have hcr := cells_rel hx hb
          have hsn := snaps_rel t hsub t1 hx1 hcr fun z hz => by
            obtain ⟨d, d1, d2⟩ := frz_parts h2 z hz
            exact ⟨d, d1, fun p hp => hc p (List.mem_append.2 (.inl (d2 p hp)))⟩
          have hrep := toElAll_rep h1 hsn
          have hvl := hrep.length
          have h1' : (i + 1) * k.sz ≤ n * k.sz := Nat.mul_le_mul_right _ hi
          rw [Nat.add_mul] at h1'
          have hcl : cs.toList.length = cs.size := Array.length_toList
          have hvs : v.cells.size = k.sz := by rw [← Array.length_toList]; exact hvl
          obtain ⟨cs1, e1, e2⟩ := fill_step (place := fun i => some (i * k.sz, k.sz)) (r := _) (i := i) rfl hvs (cs := cs) (by omega)
          rw [e1]
          have hfit : i * k.sz + v.cells.toList.length ≤ cs.toList.length := by omega
          have hcs1 : cs1.size = n * k.sz := by rw [← Array.length_toList, e2, splice_len _ _ _ hfit, hcl, hcs]
          refine lits_rel t hsub t1 hx1 r h3 (fun p hp => hc p (List.mem_append.2 (.inr hp))) (by rw [List.length_set]; exact hn) hall.2 hcs1 ?_
          intro j y hj
          rw [Array.length_toList, hcs1]
          have hjn : j < n := by
            have := (List.getElem?_eq_some_iff.1 hj).1
            rwa [List.length_set, hn] at this
          have h2' : (j + 1) * k.sz ≤ n * k.sz := Nat.mul_le_mul_right _ hjn
          rw [Nat.add_mul] at h2'
          refine ⟨by omega, ?_⟩
          rw [e2]
          rw [List.getElem?_set] at hj
          by_cases hij : i = j
          · subst hij
            rw [if_pos rfl, if_pos (by omega)] at hj
            cases hj
            have := splice_seg cs.toList v.cells.toList (i * k.sz) 0 k.sz (by omega) (by omega)
            rw [Nat.add_zero] at this
            rw [this, List.take_zero, List.nil_append, List.drop_of_length_le (by rw [List.length_take, List.length_drop]; omega), List.append_nil]
            exact hrep
          · rw [if_neg hij] at hj
            have := splice_other cs.toList v.cells.toList (i * k.sz) 0 k.sz (j * k.sz) (by omega) (by omega) (by
              rcases Nat.lt_or_gt_of_ne hij with hlt | hgt
              · right
                have : (i + 1) * k.sz ≤ j * k.sz := Nat.mul_le_mul_right _ hlt
                rw [Nat.add_mul] at this
                omega
              · left
                have : (j + 1) * k.sz ≤ i * k.sz := Nat.mul_le_mul_right _ hgt
                rw [Nat.add_mul] at this
                omega)
            rw [Nat.add_zero] at this
            rw [this]
            exact (hs j y hj).2
        · cases h
      · cases h

theorem run_buildSlice {ty e' : TypeId} {len : Nat} {vp : Array (Nat × Value)} {i : TypeInfo} {zv : Value} {cs' : Array Value} (hu : P.underlying ty = some (.slice e')) (hi : P.info? e' = some i) (hz : i.zero = some zv)
    (hzs : zv.cells.size = i.size) (hle : len * i.size ≤ 16777216)
    (hf : Instr.fill (fun j => some (j * i.size, i.size)) ((Array.range (len * zv.cells.size)).map (fun j => zv.cells[j % zv.cells.size]!)) vp.toList = some cs') (w : World) :
    (Instr.buildSlice ty len vp).run P w = .ok (.slice (some ⟨w.heap.size, 0, none⟩) len len) (w.alloc (.cells cs' e')) := by
  rw [hzs] at hf
  have hle' : ¬ (len * i.size > 2 ^ 24) := by simp; omega
  by_cases hz0 : len * i.size = 0
  · have he : ∀ f : Nat → Value, (Array.range 0).map f = #[] := fun f => by
      apply Array.ext'
      simp
    rw [hz0, he] at hf
    simp [Instr.buildSlice, run_underlying hu, run_sizeOf hi, hz0, he, hf, newRow]
  · simp [Instr.buildSlice, run_underlying hu, run_sizeOf hi, hle', hz0, run_zeroValue hi hz, hzs, hf, newRow]

theorem buildSliceV_gives (t : TabOk w0 M0 av C) (hav : ∀ c, c < room → av (fresh + c)) {vw : Tab} (hsub : Sub vw C.tab) {ty : TypeId} {len : Nat} {vp : Array (Nat × Value)} {xp : List (Nat × AV)} {e : Eff}
    (h : buildSliceV P vw fresh ty len xp = some e) (hr : e.Res out) (hx : PartRel C vp.toList xp) : Gives P (Instr.buildSlice ty len vp) w0 M0 av fresh C out := by
  unfold buildSliceV at h
  split at h
  · rename_i e' hu
    split at h
    · rename_i k z hk hz
      obtain ⟨i, hi, hisz⟩ := kd_info hk
      obtain ⟨i', zv, hi', hzv, hzs, rfl⟩ := zero_eq hz
      rw [hi] at hi'
      cases hi'
      split at h
      · rename_i zx hzx
        cases hb : (Nat.ble (len * P.cellsOf e') 16777216 && xp.all (fun p => Nat.blt p.1 len)) with
        | false => rw [hb] at h; cases h
        | true =>
          rw [hb] at h
          simp only [Bool.and_eq_true, cond_true] at hb h
          split at h
          · rename_i xs c hl
            obtain rfl := out_res h hr
            have hfo := (lits_frz hl).sub hsub
            have hfade : Fade C.tab (chg C.tab c) := hfo.fade (Fade.refl _) fun _ _ => .inl rfl
            have t1 := t.fade hfade
            have x1e := hfade.ext
            have hzr := toElAll_rep hzx (ofLeafs_rel (C := C.setT (chg C.tab c)) zv.cells.toList)
            have hle := Nat.le_of_ble_eq_true hb.1
            rw [cellsOf_eq hi] at hle
            have h0 := Segs.zero hzr len
            obtain ⟨cs', e1, e2, e3, e4⟩ := lits_rel t hsub t1 x1e hx hl (fun p hp => chg_get_of hfo hp) (n := len) (by rw [List.length_replicate]) hb.2
              (cs := (Array.range (len * zv.cells.size)).map (fun i => zv.cells[i % zv.cells.size]!)) (by simp [hzs, hisz]) h0
            have hio : C.io fresh = none := t.av _ (hav 0 (by decide))
            obtain ⟨g1, g2⟩ := own_new t1 (fresh := fresh) hio (T := e') e3 (c := len) (by omega) (by rw [e2]; exact Nat.le_refl _)
            rw [e4] at g2
            have hio1 : (C.setT (chg C.tab c)).io fresh = none := hio
            refine ⟨_, (C.setT (chg C.tab c)).new fresh cs' e' (.row true k e' xs), ?_, ?_, x1e.trans (Ext.new hio1 _ _ _), g1.weak fun i h => ⟨h.1, fun e => h.2 ⟨by omega, by rw [e]; exact Nat.lt_add_of_pos_right (by decide)⟩⟩, g2⟩
            · exact run_buildSlice hu hi hzv hzs hle (by rw [hisz]; exact e1) C.w
            · show upd (chg C.tab c) fresh _ = _
              rw [chg_app]
              rfl
          · cases h
      · cases h
    · cases h
  · cases h

end
end Go.Proofs.Ytmjbjlhjpdebjaa.Mini
