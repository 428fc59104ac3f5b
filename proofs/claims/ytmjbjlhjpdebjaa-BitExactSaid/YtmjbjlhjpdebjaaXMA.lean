/- A small machine over plain data: each operation of the machine does what it is told to do. Sixth part: append, copy, make. -/
import Derived.Test.YtmjbjlhjpdebjaaXM9
import Derived.Lib.AppendZerosOnto
set_option linter.unusedVariables false
set_option linter.unusedSimpArgs false
namespace Go.Proofs.Ytmjbjlhjpdebjaa.Mini
open Go Go.RowKit
section
variable {P : Program} {s : Sem Value} {w0 : Start} {M0 av : Nat → Prop} {fresh : Nat} {C : Ctx} {out : Out}

/-! ### A row changes hands -/
def Ctx.mv (C : Ctx) (w' : World) (id fresh : Nat) (q : Pl) (blk : Blk) : Ctx := { w := w', io := upd C.io fresh (some (some q)), tab := upd (upd C.tab id none) fresh (some blk), base := C.base, yl := C.yl }

/-- The world is turned in one block alone. -/
structure Wrote (w w' : World) (b : Nat) : Prop where
  os : w'.os = w.os
  tape : w'.tape = w.tape
  output : w'.output = w.output
  size : w'.heap.size = w.heap.size
  other : ∀ i, i ≠ b → w'.heap[i]? = w.heap[i]?
  same : ∀ cs T fr, w.heap[b]? = some (.cells cs T fr) → ∃ cs' fr', w'.heap[b]? = some (.cells cs' T fr') ∧ cs'.size = cs.size

theorem Wrote.refl (w : World) (b : Nat) : Wrote w w b := ⟨rfl, rfl, rfl, rfl, fun _ _ => rfl, fun cs _ _ h => ⟨cs, _, h, rfl⟩⟩

theorem Wrote.setRow {w : World} {b : Nat} {cs0 : Array Value} {T : TypeId} {fr : Nat × Nat} (h : w.heap[b]? = some (.cells cs0 T fr)) {cs : Array Value} (hs : cs.size = cs0.size) : Wrote w (w.setRow b cs) b :=
  ⟨rfl, rfl, rfl, setRow_size _ _ _, fun i hi => setRow_other _ _ _ _ hi, fun cs1 T1 fr1 h1 => by
    rw [h] at h1
    cases h1
    exact ⟨cs, _, setRow_heap _ _ _ _ _ _ h, hs⟩⟩

theorem mv_ext {w' : World} {id : Nat} {p q : Pl} {old blk : Blk} (hi : C.io fresh = none) (e : C.tab id = some old) (hp : C.io id = some (some p)) (hm : old.isMut = true) (hw : Wrote C.w w' p.b) (hq : q.b = p.b) : Ext C (C.mv w' id fresh q blk) := by
  refine ExtH.ext ⟨fun i r e' => ?_, fun i blk' hne e' => ?_, fun b c T fr e' _ => ?_, fun b hb ho => ⟨ho.1, fun i r blk' e1 e2 hm' => ?_⟩, ?_⟩ rfl
  · show upd C.io fresh _ i = _
    rw [upd_ne]
    · exact e'
    · rintro rfl
      rw [hi] at e'
      cases e'
  · have hne' : i ≠ fresh := by
      rintro rfl
      exact hne hi
    change upd (upd C.tab id none) fresh _ i = _ at e'
    rw [upd_ne _ _ hne'] at e'
    by_cases h : i = id
    · subst h
      rw [upd_same] at e'
      cases e'
    · rw [upd_ne _ _ h] at e'
      exact ⟨blk', e', Compat.refl _⟩
  · by_cases h : b = p.b
    · subst h
      obtain ⟨cs', fr', h1, h2⟩ := hw.same c T fr e'
      exact ⟨cs', fr', h1, h2, fun ho => absurd rfl (ho.2 id p old hp e hm)⟩
    · exact ⟨c, _, (hw.other b h).trans e', rfl, fun _ => ⟨rfl, rfl⟩⟩
  · change upd C.io fresh _ i = _ at e1
    change upd (upd C.tab id none) fresh _ i = _ at e2
    by_cases h : i = fresh
    · subst h
      rw [upd_same] at e1
      cases e1
      rw [hq]
      exact ho.2 id p old hp e hm
    · rw [upd_ne _ _ h] at e1 e2
      by_cases h2 : i = id
      · subst h2
        rw [upd_same] at e2
        cases e2
      · rw [upd_ne _ _ h2] at e2
        exact ho.2 i r blk' e1 e2 hm'
  · show C.w.heap.size ≤ w'.heap.size
    rw [hw.size]
    exact Nat.le_refl _

theorem mv_ok (t : TabOk w0 M0 av C) {w' : World} {id : Nat} {p q : Pl} {old blk : Blk} (hi : C.io fresh = none) (e : C.tab id = some old) (hp : C.io id = some (some p)) (hm : old.isMut = true) (hw : Wrote C.w w' p.b) (hq : q.b = p.b) (hbo : old.isBor = false)
    (hb : BlkRel (C.mv w' id fresh q blk) (some q) blk) : TabOk w0 M0 (fun i => av i ∧ i ≠ fresh) (C.mv w' id fresh q blk) := by
  have he := mv_ext (blk := blk) hi e hp hm hw hq
  have hid : id ≠ fresh := by
    rintro rfl
    rw [hi] at hp
    cases hp
  refine ⟨fun i b e' => ?_, fun i i' r r' b b' e1 e2 h h' hr => ?_, fun i r b e' h hm' => ?_, fun i ⟨ha, hne⟩ => ?_, ?_, fun i r b e' h hm' => ?_, t.bf, t.bq⟩
  · change upd (upd C.tab id none) fresh _ i = _ at e'
    by_cases h : i = fresh
    · subst h
      rw [upd_same] at e'
      cases e'
      exact ⟨_, upd_same .., hb⟩
    · rw [upd_ne _ _ h] at e'
      by_cases h2 : i = id
      · subst h2
        rw [upd_same] at e'
        cases e'
      · rw [upd_ne _ _ h2] at e'
        obtain ⟨r, hr, hrel⟩ := t.bl i b e'
        refine ⟨r, (upd_ne _ _ h).trans hr, hrel.ext he fun q' hq' => ?_⟩
        subst hq'
        exact hw.other _ fun hb' => h2 (t.inj i id q' p b old e' e hr hp hb')
  · change upd (upd C.tab id none) fresh _ i = _ at e1
    change upd (upd C.tab id none) fresh _ i' = _ at e2
    change upd C.io fresh _ i = _ at h
    change upd C.io fresh _ i' = _ at h'
    have f : ∀ {j : Nat} {c : Blk}, j ≠ fresh → upd (upd C.tab id none) fresh (some blk) j = some c → j ≠ id ∧ C.tab j = some c := fun {j c} hj hc => by
      rw [upd_ne _ _ hj] at hc
      by_cases h2 : j = id
      · subst h2
        rw [upd_same] at hc
        cases hc
      · rw [upd_ne _ _ h2] at hc
        exact ⟨h2, hc⟩
    by_cases h1 : i = fresh <;> by_cases h2 : i' = fresh
    · rw [h1, h2]
    · subst h1
      rw [upd_same] at h
      rw [upd_ne _ _ h2] at h'
      cases h
      obtain ⟨k1, k2⟩ := f h2 e2
      exact absurd (t.inj id i' p r' old b' e k2 hp h' (hq.symm.trans hr)) (Ne.symm k1)
    · subst h2
      rw [upd_same] at h'
      rw [upd_ne _ _ h1] at h
      cases h'
      obtain ⟨k1, k2⟩ := f h1 e1
      exact absurd (t.inj i id r p b old k2 e h hp (hr.trans hq)) k1
    · rw [upd_ne _ _ h1] at h
      rw [upd_ne _ _ h2] at h'
      exact t.inj i i' r r' b b' (f h1 e1).2 (f h2 e2).2 h h' hr
  · change upd (upd C.tab id none) fresh _ i = _ at e'
    change upd C.io fresh _ i = _ at h
    by_cases h1 : i = fresh
    · subst h1
      rw [upd_same] at h
      cases h
      rw [hq]
      exact t.mb id p old e hp hm
    · rw [upd_ne _ _ h1] at h e'
      by_cases h2 : i = id
      · subst h2
        rw [upd_same] at e'
        cases e'
      · rw [upd_ne _ _ h2] at e'
        exact t.mb i r b e' h hm'
  · show upd C.io fresh _ i = none
    rw [upd_ne _ _ hne]
    exact t.av i ha
  · refine ⟨hw.os.trans t.fr.os, hw.tape.trans t.fr.tape, hw.output.trans t.fr.output, Nat.le_trans t.fr.size he.size, fun i hi' hn => ?_⟩
    refine (hw.other i ?_).trans (t.fr.blk i hi' hn)
    rintro rfl
    rcases t.mb id p old e hp hm with h | h
    · omega
    · exact hn h
  · change upd (upd C.tab id none) fresh _ i = _ at e'
    change upd C.io fresh _ i = _ at h
    by_cases h1 : i = fresh
    · subst h1
      rw [upd_same] at h
      cases h
      show C.base q.b
      rw [hq]
      exact t.bs id p old e hp hbo
    · rw [upd_ne _ _ h1] at h e'
      by_cases h2 : i = id
      · subst h2
        rw [upd_same] at e'
        cases e'
      · rw [upd_ne _ _ h2] at e'
        exact t.bs i r b e' h hm'

/-! ### What is appended -/
/-- A slice's elements in memory. -/
def ElAt (C : Ctx) (k : Kd) (ys : List (El k)) (A : Option Addr) : Prop := 0 < ys.length → ∃ b o cs T fr, A = some ⟨b, o, none⟩ ∧ C.w.heap[b]? = some (.cells cs T fr) ∧
  ∀ j x, ys[j]? = some x → o + j * k.sz + k.sz ≤ cs.size ∧ RepC C.w C.ok k x ((cs.toList.drop (o + j * k.sz)).take k.sz)

theorem elAt_row {v : Value} {k : Kd} {xs : List (El k)} (h : RepC C.w C.ok (.row k) xs [v]) : ∃ A c, v = .slice A xs.length c ∧ xs.length ≤ c ∧ ElAt C k xs A := by
  obtain ⟨A, c, hv, hlc, hR⟩ := h
  cases hv
  refine ⟨A, c, rfl, hlc, fun h0 => ?_⟩
  obtain ⟨ad, rfl, hsp, _, cs, T, fr, hh, hseg⟩ := hR h0
  exact ⟨ad.block, ad.off, cs, T, fr, by rw [← addr_eq hsp], hh, hseg⟩

theorem elAt_sl (t : TabOk w0 M0 av C) {v : Value} {id off : Nat} {len : Option Nat} (h : SlRel C v id off len) {blk : Blk} (e : C.tab id = some blk) {k : Kd} {T : TypeId} {xs : List (El k)} (hr : RowLike blk k T xs) :
    ∃ A c, v = .slice A ((xs.drop off).take (len.getD xs.length)).length c ∧ ((xs.drop off).take (len.getD xs.length)).length ≤ c ∧ ElAt C k ((xs.drop off).take (len.getD xs.length)) A := by
  obtain ⟨hi, A, n, c, rfl, hb⟩ := h
  obtain ⟨k', T', ys, hr', hn, ho, hnc, hs⟩ := hb blk e
  obtain ⟨rfl, rfl, hq⟩ := hr.uniq hr'
  obtain rfl := eq_of_heq hq
  have hl : ((xs.drop off).take (len.getD xs.length)).length = n := by
    rw [List.length_take, List.length_drop, ← hn]
    omega
  refine ⟨A, c, by rw [hl], by rw [hl]; exact hnc, fun h0 => ?_⟩
  rw [hl] at h0
  rcases hs with ⟨_, hc⟩ | ⟨p, hp, hA, cs, T', fr, hh, hsz⟩
  · omega
  · refine ⟨p.b, _, cs, T', fr, hA (by omega), hh, fun j x hj => ?_⟩
    obtain ⟨p', hp', hbr⟩ := t.bl id blk e
    rw [hp] at hp'
    cases hp'
    rcases hr.rel hbr with ⟨h, _⟩ | ⟨q, h, cs', hh', hx⟩
    · cases h
    · cases h
      rw [hh] at hh'
      cases hh'
      have hjl : j < ((xs.drop off).take (len.getD xs.length)).length := (List.getElem?_eq_some_iff.1 hj).1
      rw [List.getElem?_take, if_pos (by rw [List.length_take] at hjl; omega), List.getElem?_drop] at hj
      obtain ⟨h1, h2⟩ := hx _ _ hj
      have e1 : p.o + off * k.sz + j * k.sz = p.o + (off + j) * k.sz := by rw [Nat.add_mul]; omega
      rw [e1]
      exact ⟨h1, h2⟩

/-- The elements as a list of cells. -/
theorem ElAt.cells {k : Kd} {ys : List (El k)} {A : Option Addr} (h : ElAt C k ys A) : ∃ news : List Value, news.length = ys.length * k.sz ∧ Segs C k ys news ∧
    (0 < ys.length → ∃ ad, A = some ad ∧ ad.spot = none ∧ ∀ w' : World, w'.heap = C.w.heap → ∀ j u, news[j]? = some u → w'.cell? (ad.add j) = some u) := by
  rcases Nat.eq_zero_or_pos ys.length with h0 | h0
  · refine ⟨[], by rw [h0]; simp, fun j x hj => ?_, fun h => by omega⟩
    have := (List.getElem?_eq_some_iff.1 hj).1
    omega
  · obtain ⟨b, o, cs, T, fr, rfl, hh, hseg⟩ := h h0
    have hlast := (hseg (ys.length - 1) _ (getD_at (d := dflt k) (by omega))).1
    have hm : (ys.length - 1) * k.sz + k.sz = ys.length * k.sz := by
      rw [← Nat.succ_mul]
      congr 1
      omega
    have hcl : cs.toList.length = cs.size := Array.length_toList
    have hlen : ((cs.toList.drop o).take (ys.length * k.sz)).length = ys.length * k.sz := by rw [List.length_take, List.length_drop]; omega
    refine ⟨(cs.toList.drop o).take (ys.length * k.sz), hlen, fun j x hj => ?_, fun _ => ⟨_, rfl, rfl, fun w' hw' j u hj => ?_⟩⟩
    · have hjl := (List.getElem?_eq_some_iff.1 hj).1
      have h1 : (j + 1) * k.sz ≤ ys.length * k.sz := Nat.mul_le_mul_right _ hjl
      rw [Nat.add_mul] at h1
      refine ⟨by omega, ?_⟩
      rw [drop_take_drop, List.take_take, Nat.min_eq_left (by omega)]
      exact (hseg j x hj).2
    · rw [List.getElem?_take] at hj
      split at hj
      · rw [List.getElem?_drop, Array.getElem?_toList] at hj
        rw [add_off, World.cell?, hw', hh]
        exact hj
      · cases hj

theorem src_of {k : Kd} {ys : List (El k)} {A : Option Addr} {c : Nat} (h : ElAt C k ys A) {ty e' : TypeId} (hu : P.underlying ty = some (.slice e')) :
    ∃ news : List Value, news.length = ys.length * k.sz ∧ Segs C k ys news ∧ Src P k.sz ty (.slice A ys.length c) ys.length news C.w := by
  obtain ⟨news, hl, hs, hA⟩ := h.cells
  refine ⟨news, hl, hs, ?_⟩
  rcases Nat.eq_zero_or_pos ys.length with h0 | h0
  · have hn : news = [] := List.eq_nil_of_length_eq_zero (by rw [hl, h0]; simp)
    subst hn
    rw [h0]
    cases A with
    | none => exact Src.ofNil (P := P) C.w hu c
    | some a => exact Src.ofSlice (P := P) C.w hu a 0 c [] (by simp) (by simp) (by simp)
  · obtain ⟨ad, rfl, _, hcells⟩ := hA h0
    exact Src.ofSlice (P := P) C.w hu ad ys.length c news hl (hcells C.w rfl) (hs.one hl)

theorem elemsV_at (t : TabOk w0 M0 av C) {vw : Tab} (hsub : Sub vw C.tab) {k : Kd} {y : AV} {ys : List (El k)} {u : Value} (h : elemsV vw k y = some ys) (hy : Rel C u y) : ∃ A c, u = .slice A ys.length c ∧ ys.length ≤ c ∧ ElAt C k ys A := by
  unfold elemsV at h
  have key : ∀ {id off : Nat} {len : Option Nat}, SlRel C u id off len → ∀ {k' : Kd} {T : TypeId} {xs : List (El k')} {blk : Blk}, vw id = some blk → RowLike blk k' T xs → k' = k → HEq ys ((xs.drop off).take (len.getD xs.length)) →
      ∃ A c, u = .slice A ys.length c ∧ ys.length ≤ c ∧ ElAt C k ys A := by
    intro id off len hs k' T xs blk hv hrl hk hq
    subst hk
    obtain rfl := eq_of_heq hq
    exact elAt_sl t hs (hsub _ _ hv) hrl
  split at h
  · rename_i k' xs hsn
    split at h
    · rename_i hk
      subst hk
      simp only [castR_rfl, Option.some.injEq] at h
      subst h
      cases y with
      | row k2 zs =>
        cases hsn
        cases hy with
        | row hy => exact elAt_row hy
      | own id =>
        cases hy with
        | own hy =>
          simp only [snap] at hsn
          split at hsn
          · rename_i hv
            cases hsn
            exact key hy hv (.inl ⟨_, rfl⟩) rfl (by rw [Option.getD_none, drop_zero_take])
          · rename_i hv
            cases hsn
            exact key hy hv (.inr rfl) rfl (by rw [Option.getD_none, drop_zero_take])
          · cases hsn
      | sl id off len =>
        cases hy with
        | sl hy =>
          simp only [snap] at hsn
          split at hsn
          · rename_i hv
            cases hsn
            exact key hy hv (.inl ⟨_, rfl⟩) rfl (by rw [Option.getD_some])
          · rename_i hv
            cases hsn
            exact key hy hv (.inr rfl) rfl (by rw [Option.getD_some])
          · cases hsn
      | _ => cases hsn
    · cases h
  · rename_i hsn
    cases h
    cases y with
    | nils =>
      cases hy
      exact ⟨_, _, rfl, Nat.le_refl _, fun h => absurd h (by simp)⟩
    | own id =>
      simp only [snap] at hsn
      split at hsn <;> cases hsn
    | sl id off len =>
      simp only [snap] at hsn
      split at hsn <;> cases hsn
    | _ => cases hsn
  · cases h

theorem firstCells_of {k : Kd} {zs : List (El k)} {A : Option Addr} {c : Nat} (h : ElAt C k zs A) {w' : World} (hw : w'.heap = C.w.heap) :
    ∃ olds : List Value, olds.length = zs.length * k.sz ∧ Segs C k zs olds ∧ (Builtin.firstCells k.sz zs.length (.slice A zs.length c)).run P w' = .ok olds.toArray w' := by
  obtain ⟨olds, hl, hs, hA⟩ := h.cells
  refine ⟨olds, hl, hs, ?_⟩
  rcases Nat.eq_zero_or_pos zs.length with h0 | h0
  · have hn : olds = [] := List.eq_nil_of_length_eq_zero (by rw [hl, h0]; simp)
    subst hn
    rw [h0]
    cases A with
    | none => exact run_firstCells_none w' k.sz 0 0 c
    | some a => exact run_firstCells_some (P := P) w' k.sz 0 a 0 c [] (by simp) (by simp)
  · obtain ⟨ad, rfl, _, hcells⟩ := hA h0
    exact run_firstCells_some (P := P) w' k.sz zs.length ad zs.length c olds hl (hcells w' hw)

/-- What is appended, whatever it is: what the machine does. -/
structure ASrc (P : Program) (e' : TypeId) (i : TypeInfo) (zv : Value) (ty ty2 r : TypeId) (x : Value) (n : Nat) (news : List Value) (w : World) : Prop where
  nothing : n = 0 → ∀ (A : Option Addr) (m c : Nat), m ≤ c → (Builtin.append_ #[ty, ty2] r #[.slice A m c, x]).run P w = .ok (.slice A m c) w
  room : ∀ {b o m c : Nat}, m + n ≤ c → ∀ {cs : Array Value} {T : TypeId}, w.heap[b]? = some (.cells cs T (0, 0)) → o + m * i.size + news.length ≤ cs.size →
    (Builtin.append_ #[ty, ty2] r #[.slice (some ⟨b, o, none⟩) m c, x]).run P w = .ok (.slice (some ⟨b, o, none⟩) (m + n) c) (w.setRow b (cs.toList.take (o + m * i.size) ++ news ++ cs.toList.drop (o + m * i.size + news.length)).toArray)
  grow : ∀ (base : Option Addr) (sLen sCap : Nat) (olds : List Value), (Builtin.firstCells i.size sLen (.slice base sLen sCap)).run P w.drew = .ok olds.toArray w.drew → sLen ≤ sCap → sCap < sLen + n → ((sLen + n : Nat) : Int) ≤ 9223372036854775807 →
    (sLen + n) * i.bytes ≤ 140737488355328 →
    (Builtin.append_ #[ty, ty2] r #[.slice base sLen sCap, x]).run P w =
      .ok (.slice (some ⟨w.heap.size, 0, none⟩) (sLen + n) (grownCap w (sLen + n) sCap e'))
        (w.drew.alloc (.cells ((olds ++ news).toArray ++ Builtin.zeroCells zv.cells (grownCap w (sLen + n) sCap e' - (sLen + n))) e'))

theorem run_append_room_row {ty ty2 r e' : TypeId} (hu : P.underlying ty = some (.slice e')) {i : TypeInfo} (hi : P.info? e' = some i) {b o n c : Nat} {x : Value} {m : Nat} {news : List Value} {w : World} (hs : Src P i.size ty2 x m news w)
    (hroom : n + m ≤ c) {cs : Array Value} {T : TypeId} (hh : w.heap[b]? = some (.cells cs T (0, 0))) (hfit : o + n * i.size + news.length ≤ cs.size) :
    (Builtin.append_ #[ty, ty2] r #[.slice (some ⟨b, o, none⟩) n c, x]).run P w = .ok (.slice (some ⟨b, o, none⟩) (n + m) c) (w.setRow b (cs.toList.take (o + n * i.size) ++ news ++ cs.toList.drop (o + n * i.size + news.length)).toArray) := by
  have hst := run_storeCells_at P b (o + n * i.size) T news 0 cs w hh (by simpa using hfit) hs.one
  simp only [Nat.add_zero] at hst
  rcases hs.kind with ⟨e', hk⟩ | hk <;> simp [Builtin.append_, run_underlying hu, run_underlying hk, sizeOf, typeInfo, hi, hs.len, hroom, hs.cells, Addr.add_lit, hst]

theorem ASrc.ofSrc {ty ty2 r e' : TypeId} (hu : P.underlying ty = some (.slice e')) {i : TypeInfo} (hi : P.info? e' = some i) {zv : Value} (hz : i.zero = some zv) {x : Value} {n : Nat} {news : List Value} {w : World} (hs : Src P i.size ty2 x n news w) :
    ASrc P e' i zv ty ty2 r x n news w := by
  refine ⟨fun h0 A m c hmc => ?_, fun hroom _ _ hh hfit => run_append_room_row hu hi hs hroom hh hfit, fun base sLen sCap olds hold _ hg h63 hby => run_append_grow_src (P := P) w ty ty2 r e' i zv hu hi hz base sLen sCap olds hold x n news hs hg h63 (growslice_fits hg hby)⟩
  subst h0
  have hne : news = [] := List.eq_nil_of_length_eq_zero (by rw [hs.newsLen]; simp)
  subst hne
  exact run_append_nothing (P := P) w ty ty2 r e' i hu hi A m c hmc x hs

theorem ASrc.zeros {ty ty2 r e' : TypeId} (hu : P.underlying ty = some (.slice e')) {kn : IntKind} (hn : P.underlying ty2 = some (.int kn)) {i : TypeInfo} (hi : P.info? e' = some i) {zv : Value} (hz : i.zero = some zv) (hzs : zv.cells.size = i.size)
    (hone : ∀ u ∈ zv.cells.toList, u.oneCell' = true) (hs0 : 0 < i.size) {kq : IntKind} {n : Nat} {w : World} (hb : n * i.bytes ≤ 140737488355328) (h63 : (n : Int) ≤ 9223372036854775807) :
    ASrc P e' i zv ty ty2 r (.int kq n) n (Builtin.zeroCells zv.cells n).toList w := by
  have hw : IntKind.i64.wrap (n : Int) = n := by rw [IntKind.wrap_i64]; omega
  have h48i : ¬ (281474976710656 < (n : Int) * (i.bytes : Int)) := by
    rw [← Int.natCast_mul]
    omega
  have hneg : ¬ ((n : Int) < 0) := by omega
  refine ⟨fun h0 A m c hmc => ?_, fun {b o m c} hroom cs T hh hfit => ?_, fun base sLen sCap olds hold hle hg h63' hby => ?_⟩
  · subst h0
    cases A <;> simp [Builtin.append_, run_underlying hu, run_underlying hn, sizeOf, typeInfo, hi, asInt, asIntOf, IntKind.wrap_i64, hmc, storeCells]
  · have hst := run_storeCells_at P b (o + m * i.size) T (Builtin.zeroCells zv.cells n).toList 0 cs w hh (by simpa using hfit) (fun u hu => by
      unfold Builtin.zeroCells at hu
      rw [Array.toList_map] at hu
      obtain ⟨j, hj, rfl⟩ := List.mem_map.1 hu
      refine hone _ ?_
      have hlt : j % zv.cells.size < zv.cells.size := Nat.mod_lt _ (by omega)
      rw [getElem!_pos zv.cells _ hlt]
      exact Array.getElem_mem_toList hlt)
    simp only [Nat.add_zero] at hst
    by_cases h0 : n * i.size = 0
    · have hn0 : n = 0 := by
        rcases Nat.mul_eq_zero.1 h0 with h | h
        · exact h
        · omega
      subst hn0
      have hnil : (Builtin.zeroCells zv.cells 0).toList = [] := by
        unfold Builtin.zeroCells
        simp
      rw [hnil] at hst ⊢
      simp [Builtin.append_, run_underlying hu, run_underlying hn, sizeOf, typeInfo, hi, asInt, asIntOf, IntKind.wrap_i64, hroom, Addr.add_lit, hst]
      exact fun h => absurd h (by omega)
    · simp [Builtin.append_, run_underlying hu, run_underlying hn, sizeOf, typeInfo, zeroValue, hi, hz, asInt, asIntOf, hw, h48i, hneg, hroom, h0, Addr.add_lit, hst]
  · have := Go.Lib.run_append_grow_zeros (P := P) w ty ty2 r e' i zv kq kn hu hn hi hz base sLen sCap olds hold n (by omega) hs0 hg h63' (by omega) (growslice_fits hg hby)
    rw [this]
    congr 3
    apply Array.ext'
    simp

/-- There is no room: a new row. -/
theorem append_grow (t : TabOk w0 M0 av C) (hav : ∀ c, c < room → av (fresh + c)) {ty ty2 r e' : TypeId} {k : Kd} (hu : P.underlying ty = some (.slice e')) {i : TypeInfo} (hi : P.info? e' = some i) (hisz : i.size = k.sz) {zv : Value} (hz : i.zero = some zv) (hzs : zv.cells.size = i.size)
    {zs ys : List (El k)} {A : Option Addr} {c : Nat} (hA : ElAt C k zs A) {x : Value} {news : List Value} (hnl : news.length = ys.length * k.sz) (hns : Segs C k ys news) (hsrc : ASrc P e' i zv ty ty2 r x ys.length news C.w) (hlc : zs.length ≤ c)
    (hg : c < zs.length + ys.length) (hby : (zs.length + ys.length) * i.bytes ≤ 140737488355328) (hb0 : 0 < i.bytes) {tab : Tab} (hfade : Fade C.tab tab) :
    ∃ v C', (Builtin.append_ #[ty, ty2] r #[.slice A zs.length c, x]).run P C.w = .ok v C'.w ∧ C'.tab = upd tab fresh (some (.row true k e' (zs ++ ys))) ∧ Ext C C' ∧ TabOk w0 M0 (fun i => av i ∧ i ≠ fresh) C' ∧ Rel C' v (.own fresh) := by
  have hio : C.io fresh = none := t.av _ (hav 0 (by decide))
  obtain ⟨olds, hol, hos, hold⟩ := firstCells_of (P := P) (c := c) hA (w' := C.w.drew) rfl
  have h63 : ((zs.length + ys.length : Nat) : Int) ≤ 9223372036854775807 := by
    have : zs.length + ys.length ≤ (zs.length + ys.length) * i.bytes := Nat.le_mul_of_pos_right _ hb0
    omega
  rw [← hisz] at hold
  have hrun := hsrc.grow A zs.length c olds hold hlc hg h63 hby
  have t1 := (t.fade hfade).sameHeap (w := C.w.drew) rfl rfl rfl rfl
  have x1 := hfade.ext.trans (Ext.sameHeap (C := C.setT tab) (w := C.w.drew) rfl)
  have hseg := ((hos.app hol hns).more (M := (Builtin.zeroCells zv.cells (grownCap C.w (zs.length + ys.length) c e' - (zs.length + ys.length))).toList)).ext x1
  have hge := grownCap_ge C.w (zs.length + ys.length) c e'
  have hio1 : ((C.setT tab).setW C.w.drew).io fresh = none := hio
  have hlist : ((olds ++ news).toArray ++ Builtin.zeroCells zv.cells (grownCap C.w (zs.length + ys.length) c e' - (zs.length + ys.length))).toList = (olds ++ news) ++ (Builtin.zeroCells zv.cells (grownCap C.w (zs.length + ys.length) c e' - (zs.length + ys.length))).toList := by simp
  obtain ⟨g1, g2⟩ := own_new t1 (fresh := fresh) hio1 (T := e') (cs := (olds ++ news).toArray ++ Builtin.zeroCells zv.cells (grownCap C.w (zs.length + ys.length) c e' - (zs.length + ys.length))) (by rw [hlist]; exact hseg) (c := grownCap C.w (zs.length + ys.length) c e') (by rw [List.length_append]; exact hge) (by
    rw [Array.size_append, size_zeroCells, List.size_toArray, List.length_append, hol, hnl, hzs, hisz, ← Nat.add_mul, ← Nat.add_mul]
    exact Nat.mul_le_mul_right _ (by omega))
  rw [List.length_append] at g2
  exact ⟨_, _, hrun, rfl, x1.trans (Ext.new hio1 _ _ _), g1, g2⟩

end
end Go.Proofs.Ytmjbjlhjpdebjaa.Mini
