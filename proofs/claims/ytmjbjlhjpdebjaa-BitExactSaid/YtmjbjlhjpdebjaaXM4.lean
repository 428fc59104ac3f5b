/- A small machine over plain data: how the memory may turn. -/
import Derived.Test.YtmjbjlhjpdebjaaXM3
import Derived.Laws.CopyRow
import Derived.Deep.AppendSrc
import Derived.Deep.Upon
namespace Go.Proofs.Ytmjbjlhjpdebjaa.Mini
open Go Go.RowKit

/-- A block's row of elements. -/
def RowAt (C : Ctx) (k : Kd) (T : TypeId) (xs : List (El k)) (p : Option Pl) : Prop :=
  (p = none ∧ xs = []) ∨ ∃ q, p = some q ∧ ∃ cs, C.w.heap[q.b]? = some (.cells cs T (0, 0)) ∧
    ∀ j x, xs[j]? = some x → q.o + j * k.sz + k.sz ≤ cs.size ∧ RepC C.w C.ok k x ((cs.toList.drop (q.o + j * k.sz)).take k.sz)

def CellsAt (C : Ctx) (T : TypeId) (l : List AV) (p : Option Pl) : Prop :=
  ∃ q, p = some q ∧ q.o = 0 ∧ ∃ cs, C.w.heap[q.b]? = some (.cells cs T (0, 0)) ∧ RelL C cs.toList l

def BlkRel (C : Ctx) (p : Option Pl) : Blk → Prop
  | .row _ k T xs => RowAt C k T xs p
  | .fro k T xs => RowAt C k T xs p
  | .cells T l => CellsAt C T l p

theorem RowLike.rel {C : Ctx} {p : Option Pl} {blk : Blk} {k : Kd} {T : TypeId} {xs : List (El k)} (h : RowLike blk k T xs) (r : BlkRel C p blk) : RowAt C k T xs p := by
  rcases h with ⟨o, rfl⟩ | rfl <;> exact r

/-- Nothing that was there is turned, but for some blocks. -/
structure Frame0 (w w' : World) (M : Nat → Prop) : Prop where
  os : w'.os = w.os
  tape : w'.tape = w.tape
  output : w'.output = w.output
  size : w.heap.size ≤ w'.heap.size
  blk : ∀ i, i < w.heap.size → ¬ M i → w'.heap[i]? = w.heap[i]?

theorem Frame0.refl (w : World) (M : Nat → Prop) : Frame0 w w M := ⟨rfl, rfl, rfl, Nat.le_refl _, fun _ _ _ => rfl⟩

theorem Frame0.trans {a b c : World} {M N : Nat → Prop} (h : Frame0 a b M) (k : Frame0 b c N) (hN : ∀ i, i < a.heap.size → N i → M i) : Frame0 a c M :=
  ⟨k.os.trans h.os, k.tape.trans h.tape, k.output.trans h.output, Nat.le_trans h.size k.size,
    fun i hi hm => (k.blk i (Nat.lt_of_lt_of_le hi h.size) fun hn => hm (hN i hi hn)).trans (h.blk i hi hm)⟩

/-- Where a call began: its memory, and what may be read without end. -/
structure Start extends World where
  base : Nat → Prop

structure TabOk (w0 : Start) (M0 : Nat → Prop) (av : Nat → Prop) (C : Ctx) : Prop where
  bl : ∀ id blk, C.tab id = some blk → ∃ p, C.io id = some p ∧ BlkRel C p blk
  inj : ∀ id id' p p' b b', C.tab id = some b → C.tab id' = some b' → C.io id = some (some p) → C.io id' = some (some p') → p.b = p'.b → id = id'
  mb : ∀ id p blk, C.tab id = some blk → C.io id = some (some p) → blk.isMut = true → w0.heap.size ≤ p.b ∨ M0 p.b
  av : ∀ id, av id → C.io id = none
  fr : Frame0 w0.toWorld C.w M0
  bs : ∀ id p blk, C.tab id = some blk → C.io id = some (some p) → blk.isBor = false → C.base p.b
  bf : ∀ b, w0.heap.size ≤ b → C.base b
  bq : C.base = w0.base

theorem TabOk.io_ne {w0 : Start} {M0 av : Nat → Prop} {C : Ctx} (h : TabOk w0 M0 av C) {id : Nat} {blk : Blk} (e : C.tab id = some blk) : C.io id ≠ none := by
  obtain ⟨p, hp, _⟩ := h.bl id blk e
  rw [hp]
  simp

theorem TabOk.tab_none {w0 : Start} {M0 av : Nat → Prop} {C : Ctx} (h : TabOk w0 M0 av C) {id : Nat} (e : C.io id = none) : C.tab id = none := by
  cases hb : C.tab id with
  | none => rfl
  | some blk => exact absurd e (h.io_ne hb)

theorem TabOk.weak {w0 : Start} {M0 av av' : Nat → Prop} {C : Ctx} (h : TabOk w0 M0 av C) (ha : ∀ id, av' id → av id) : TabOk w0 M0 av' C :=
  ⟨h.bl, h.inj, h.mb, fun id hi => h.av id (ha id hi), h.fr, h.bs, h.bf, h.bq⟩

theorem RowAt.ext {C C' : Ctx} (h : Ext C C') {k : Kd} {T : TypeId} {xs : List (El k)} {p : Option Pl} (hb : ∀ q, p = some q → C'.w.heap[q.b]? = C.w.heap[q.b]?) (r : RowAt C k T xs p) : RowAt C' k T xs p := by
  rcases r with r | ⟨q, hq, cs, hc, hx⟩
  · exact .inl r
  · exact .inr ⟨q, hq, cs, by rw [hb q hq]; exact hc, fun j x hj => ⟨(hx j x hj).1, (hx j x hj).2.ext h.reads⟩⟩

theorem BlkRel.ext {C C' : Ctx} (h : Ext C C') {p : Option Pl} {blk : Blk} (hb : ∀ q, p = some q → C'.w.heap[q.b]? = C.w.heap[q.b]?) (r : BlkRel C p blk) : BlkRel C' p blk := by
  cases blk with
  | row o k T xs => exact RowAt.ext h hb r
  | fro k T xs => exact RowAt.ext h hb r
  | cells T l =>
    obtain ⟨q, hq, ho, cs, hc, hx⟩ := r
    exact ⟨q, hq, ho, cs, by rw [hb q hq]; exact hc, hx.ext h⟩

theorem Compat.bor {a b : Blk} (h : Compat a b) : b.isBor = false → a.isBor = false := by
  cases b with
  | row o k T ys =>
    obtain ⟨xs, rfl, _⟩ := h
    cases o with
    | true => exact fun _ => rfl
    | false => exact fun h => h
  | fro k T ys =>
    obtain ⟨xs, h, _⟩ := h
    rcases h with rfl | rfl <;> exact fun _ => rfl
  | cells T l =>
    obtain ⟨l', rfl, _⟩ := h
    exact fun _ => rfl

/-! ### Turned in the drawn orders alone -/
def Ctx.setW (C : Ctx) (w : World) : Ctx := { C with w := w }

theorem Ext.sameHeap {C : Ctx} {w : World} (h : w.heap = C.w.heap) : Ext C (C.setW w) :=
  ExtH.ext ⟨fun _ _ e => e, fun _ b _ e => ⟨b, e, Compat.refl b⟩, fun b cs T fr e _ => ⟨cs, fr, by show w.heap[b]? = _; rw [h]; exact e, rfl, fun _ => ⟨rfl, rfl⟩⟩, fun _ _ e => e, by show _ ≤ w.heap.size; rw [h]; exact Nat.le_refl _⟩ rfl

theorem TabOk.sameHeap {w0 : Start} {M0 av : Nat → Prop} {C : Ctx} (t : TabOk w0 M0 av C) {w : World} (h : w.heap = C.w.heap) (ho : w.os = C.w.os) (ht : w.tape = C.w.tape) (hp : w.output = C.w.output) :
    TabOk w0 M0 av (C.setW w) := by
  refine ⟨fun id blk e => ?_, t.inj, t.mb, t.av, ?_, t.bs, t.bf, t.bq⟩
  · obtain ⟨p, hp, hr⟩ := t.bl id blk e
    exact ⟨p, hp, hr.ext (Ext.sameHeap h) fun q _ => by show w.heap[_]? = _; rw [h]⟩
  · refine ⟨ho.trans t.fr.os, ht.trans t.fr.tape, hp.trans t.fr.output, ?_, fun i hi hm => ?_⟩
    · show _ ≤ w.heap.size
      rw [h]
      exact t.fr.size
    · show w.heap[i]? = _
      rw [h]
      exact t.fr.blk i hi hm

/-! ### A new block -/
def Ctx.new (C : Ctx) (id : Nat) (cs : Array Value) (T : TypeId) (blk : Blk) : Ctx :=
  { w := C.w.alloc (.cells cs T), io := upd C.io id (some (some ⟨C.w.heap.size, 0⟩)), tab := upd C.tab id (some blk), base := C.base, yl := C.yl }

theorem upd_same {α : Type} (f : Nat → α) (i : Nat) (x : α) : upd f i x i = x := by simp [upd]
theorem upd_ne {α : Type} (f : Nat → α) {i j : Nat} (x : α) (h : j ≠ i) : upd f i x j = f j := by
  unfold upd
  cases e : Nat.beq j i with
  | false => rfl
  | true => exact absurd (Nat.eq_of_beq_eq_true e) h
theorem upd_self {α : Type} (f : Nat → α) (i : Nat) : upd f i (f i) = f := by
  funext j
  by_cases h : j = i
  · subst h
    exact upd_same ..
  · exact upd_ne _ _ h

theorem alloc_old (w : World) (o : Obj) (b : Nat) (h : b < w.heap.size) : (w.alloc o).heap[b]? = w.heap[b]? := by
  show (w.heap.push o)[b]? = _
  rw [Array.getElem?_push_lt h]
  simp [h]
theorem alloc_new (w : World) (o : Obj) : (w.alloc o).heap[w.heap.size]? = some o := by
  show (w.heap.push o)[w.heap.size]? = _
  simp
theorem alloc_size (w : World) (o : Obj) : (w.alloc o).heap.size = w.heap.size + 1 := by
  show (w.heap.push o).size = _
  simp

theorem TabOk.blk_lt {w0 : Start} {M0 av : Nat → Prop} {C : Ctx} (t : TabOk w0 M0 av C) {id : Nat} {blk : Blk} {p : Pl} (e : C.tab id = some blk) (hp : C.io id = some (some p)) : p.b < C.w.heap.size := by
  obtain ⟨p', hp', hr⟩ := t.bl id blk e
  rw [hp] at hp'
  cases hp'
  cases blk with
  | row o k T xs =>
    rcases hr with ⟨h, _⟩ | ⟨q, h, cs, hc, _⟩
    · cases h
    · cases h
      exact heap_lt hc
  | fro k T xs =>
    rcases hr with ⟨h, _⟩ | ⟨q, h, cs, hc, _⟩
    · cases h
    · cases h
      exact heap_lt hc
  | cells T l =>
    obtain ⟨q, h, _, cs, hc, _⟩ := hr
    cases h
    exact heap_lt hc

theorem Ext.new {C : Ctx} {id : Nat} (hi : C.io id = none) (cs : Array Value) (T : TypeId) (blk : Blk) : Ext C (C.new id cs T blk) := by
  refine ExtH.ext ⟨fun i p e => ?_, fun i blk' hne e => ?_, fun b c T' fr e _ => ⟨c, fr, ?_, rfl, fun _ => ⟨rfl, rfl⟩⟩, fun b hb ho => ⟨ho.1, fun i p blk' e1 e2 hm => ?_⟩, ?_⟩ rfl
  · show upd C.io id _ i = _
    rw [upd_ne]
    · exact e
    · rintro rfl
      rw [hi] at e
      cases e
  · have hne' : i ≠ id := by
      rintro rfl
      exact hne hi
    change upd C.tab id _ i = _ at e
    rw [upd_ne _ _ hne'] at e
    exact ⟨blk', e, Compat.refl _⟩
  · show (C.w.alloc _).heap[b]? = _
    rw [alloc_old _ _ _ (heap_lt e)]
    exact e
  · change upd C.io id _ i = _ at e1
    change upd C.tab id _ i = _ at e2
    by_cases h : i = id
    · subst h
      rw [upd_same] at e1
      cases e1
      exact (Nat.ne_of_lt hb).symm
    · rw [upd_ne _ _ h] at e1 e2
      exact ho.2 i p blk' e1 e2 hm
  · show _ ≤ (C.w.alloc _).heap.size
    rw [alloc_size]
    omega

theorem TabOk.new {w0 : Start} {M0 av : Nat → Prop} {C : Ctx} (t : TabOk w0 M0 av C) {id : Nat} (hi : C.io id = none) (cs : Array Value) (T : TypeId) (blk : Blk)
    (hb : BlkRel (C.new id cs T blk) (some ⟨C.w.heap.size, 0⟩) blk) : TabOk w0 M0 (fun i => av i ∧ i ≠ id) (C.new id cs T blk) := by
  have he := Ext.new hi cs T blk
  refine ⟨fun i b e => ?_, fun i i' p p' b b' e e' h h' hp => ?_, fun i p b e h hm => ?_, fun i ⟨ha, hne⟩ => ?_, ?_, fun i p b e h hm => ?_, t.bf, t.bq⟩
  · change upd C.tab id _ i = _ at e
    by_cases h : i = id
    · subst h
      rw [upd_same] at e
      cases e
      exact ⟨_, upd_same .., hb⟩
    · rw [upd_ne _ _ h] at e
      obtain ⟨p, hp, hr⟩ := t.bl i b e
      refine ⟨p, (upd_ne _ _ h).trans hp, hr.ext he fun q hq => ?_⟩
      subst hq
      exact alloc_old _ _ _ (t.blk_lt e hp)
  · change upd C.tab id _ i = _ at e
    change upd C.tab id _ i' = _ at e'
    change upd C.io id _ i = _ at h
    change upd C.io id _ i' = _ at h'
    by_cases h1 : i = id <;> by_cases h2 : i' = id
    · rw [h1, h2]
    · subst h1
      rw [upd_same] at h
      rw [upd_ne _ _ h2] at h' e'
      cases h
      exact absurd hp (Nat.ne_of_lt (t.blk_lt e' h')).symm
    · subst h2
      rw [upd_same] at h'
      rw [upd_ne _ _ h1] at h e
      cases h'
      exact absurd hp (Nat.ne_of_lt (t.blk_lt e h))
    · rw [upd_ne _ _ h1] at h e
      rw [upd_ne _ _ h2] at h' e'
      exact t.inj i i' p p' b b' e e' h h' hp
  · change upd C.tab id _ i = _ at e
    change upd C.io id _ i = _ at h
    by_cases h1 : i = id
    · subst h1
      rw [upd_same] at h
      cases h
      exact .inl t.fr.size
    · rw [upd_ne _ _ h1] at h e
      exact t.mb i p b e h hm
  · show upd C.io id _ i = none
    rw [upd_ne _ _ hne]
    exact t.av i ha
  · refine ⟨t.fr.os, t.fr.tape, t.fr.output, Nat.le_trans t.fr.size he.size, fun i hi hm => ?_⟩
    exact (alloc_old _ _ _ (Nat.lt_of_lt_of_le hi t.fr.size)).trans (t.fr.blk i hi hm)
  · change upd C.tab id _ i = _ at e
    change upd C.io id _ i = _ at h
    by_cases h1 : i = id
    · subst h1
      rw [upd_same] at h
      cases h
      exact t.bf _ t.fr.size
    · rw [upd_ne _ _ h1] at h e
      exact t.bs i p b e h hm

/-! ### A row that is nil -/
def Ctx.newNil (C : Ctx) (id : Nat) (k : Kd) (T : TypeId) : Ctx :=
  { w := C.w, io := upd C.io id (some none), tab := upd C.tab id (some (.row true k T [])), base := C.base, yl := C.yl }

theorem Ext.newNil {C : Ctx} {id : Nat} (hi : C.io id = none) (k : Kd) (T : TypeId) : Ext C (C.newNil id k T) := by
  refine ExtH.ext ⟨fun i p e => ?_, fun i blk' hne e => ?_, fun b c T' fr e _ => ⟨c, fr, e, rfl, fun _ => ⟨rfl, rfl⟩⟩, fun b hb ho => ⟨ho.1, fun i p blk' e1 e2 hm => ?_⟩, Nat.le_refl _⟩ rfl
  · show upd C.io id _ i = _
    rw [upd_ne]
    · exact e
    · rintro rfl
      rw [hi] at e
      cases e
  · have hne' : i ≠ id := by
      rintro rfl
      exact hne hi
    change upd C.tab id _ i = _ at e
    rw [upd_ne _ _ hne'] at e
    exact ⟨blk', e, Compat.refl _⟩
  · change upd C.io id _ i = _ at e1
    change upd C.tab id _ i = _ at e2
    by_cases h : i = id
    · subst h
      rw [upd_same] at e1
      cases e1
    · rw [upd_ne _ _ h] at e1 e2
      exact ho.2 i p blk' e1 e2 hm

theorem TabOk.newNil {w0 : Start} {M0 av : Nat → Prop} {C : Ctx} (t : TabOk w0 M0 av C) {id : Nat} (hi : C.io id = none) (k : Kd) (T : TypeId) : TabOk w0 M0 (fun i => av i ∧ i ≠ id) (C.newNil id k T) := by
  have he := Ext.newNil hi k T
  refine ⟨fun i b e => ?_, fun i i' p p' b b' e e' h h' hp => ?_, fun i p b e h hm => ?_, fun i ⟨ha, hne⟩ => ?_, t.fr, fun i p b e h hm => ?_, t.bf, t.bq⟩
  · change upd C.tab id _ i = _ at e
    by_cases h : i = id
    · subst h
      rw [upd_same] at e
      cases e
      exact ⟨_, upd_same .., .inl ⟨rfl, rfl⟩⟩
    · rw [upd_ne _ _ h] at e
      obtain ⟨p, hp, hr⟩ := t.bl i b e
      exact ⟨p, (upd_ne _ _ h).trans hp, hr.ext he fun q hq => rfl⟩
  · change upd C.tab id _ i = _ at e
    change upd C.tab id _ i' = _ at e'
    change upd C.io id _ i = _ at h
    change upd C.io id _ i' = _ at h'
    by_cases h1 : i = id
    · subst h1
      rw [upd_same] at h
      cases h
    · by_cases h2 : i' = id
      · subst h2
        rw [upd_same] at h'
        cases h'
      · rw [upd_ne _ _ h1] at h e
        rw [upd_ne _ _ h2] at h' e'
        exact t.inj i i' p p' b b' e e' h h' hp
  · change upd C.tab id _ i = _ at e
    change upd C.io id _ i = _ at h
    by_cases h1 : i = id
    · subst h1
      rw [upd_same] at h
      cases h
    · rw [upd_ne _ _ h1] at h e
      exact t.mb i p b e h hm
  · show upd C.io id _ i = none
    rw [upd_ne _ _ hne]
    exact t.av i ha
  · change upd C.tab id _ i = _ at e
    change upd C.io id _ i = _ at h
    by_cases h1 : i = id
    · subst h1
      rw [upd_same] at h
      cases h
    · rw [upd_ne _ _ h1] at h e
      exact t.bs i p b e h hm

/-! ### A block is written -/
def Ctx.put (C : Ctx) (id b : Nat) (cs : Array Value) (blk : Blk) : Ctx :=
  { w := C.w.setRow b cs, io := C.io, tab := upd C.tab id (some blk), base := C.base, yl := C.yl }

theorem Ext.put {w0 : Start} {M0 av : Nat → Prop} {C : Ctx} (_t : TabOk w0 M0 av C) {id : Nat} {p : Pl} {old blk : Blk} (e : C.tab id = some old) (hp : C.io id = some (some p)) (hm : old.isMut = true) (hc : Compat old blk)
    {cs0 : Array Value} {T : TypeId} {fr : Nat × Nat} (hh : C.w.heap[p.b]? = some (.cells cs0 T fr)) (cs : Array Value) (hs : cs.size = cs0.size) : Ext C (C.put id p.b cs blk) := by
  refine ExtH.ext ⟨fun i p e => e, fun i blk' hne e' => ?_, fun b c T' fr' e' _ => ?_, fun b hb ho => ⟨ho.1, fun i q blk' e1 e2 hm' => ?_⟩, ?_⟩ rfl
  · change upd C.tab id _ i = _ at e'
    by_cases h : i = id
    · subst h
      rw [upd_same] at e'
      cases e'
      exact ⟨old, e, hc⟩
    · rw [upd_ne _ _ h] at e'
      exact ⟨blk', e', Compat.refl _⟩
  · by_cases h : b = p.b
    · subst h
      rw [hh] at e'
      cases e'
      exact ⟨cs, _, setRow_heap _ _ _ _ _ _ hh, hs, fun ho => absurd rfl (ho.2 id p old hp e hm)⟩
    · exact ⟨c, _, (setRow_other _ _ _ _ h).trans e', rfl, fun _ => ⟨rfl, rfl⟩⟩
  · change upd C.tab id _ i = _ at e2
    by_cases h : i = id
    · subst h
      exact ho.2 i q old e1 e hm
    · rw [upd_ne _ _ h] at e2
      exact ho.2 i q blk' e1 e2 hm'
  · show _ ≤ (C.w.setRow _ _).heap.size
    rw [setRow_size]
    exact Nat.le_refl _

theorem TabOk.put {w0 : Start} {M0 av : Nat → Prop} {C : Ctx} (t : TabOk w0 M0 av C) {id : Nat} {p : Pl} {old blk : Blk} (e : C.tab id = some old) (hp : C.io id = some (some p)) (hm : old.isMut = true) (hc : Compat old blk)
    {cs0 : Array Value} {T : TypeId} {fr : Nat × Nat} (hh : C.w.heap[p.b]? = some (.cells cs0 T fr)) (cs : Array Value) (hs : cs.size = cs0.size)
    (hb : BlkRel (C.put id p.b cs blk) (some p) blk) : TabOk w0 M0 av (C.put id p.b cs blk) := by
  have he := Ext.put t e hp hm hc hh cs hs
  refine ⟨fun i b e' => ?_, fun i i' q q' b b' e1 e2 h h' hq => ?_, fun i q b e' h hm' => ?_, t.av, ?_, fun i q b e' h hm' => ?_, t.bf, t.bq⟩
  · change upd C.tab id _ i = _ at e'
    by_cases h : i = id
    · subst h
      rw [upd_same] at e'
      cases e'
      exact ⟨_, hp, hb⟩
    · rw [upd_ne _ _ h] at e'
      obtain ⟨q, hq, hr⟩ := t.bl i b e'
      refine ⟨q, hq, hr.ext he fun q' hq' => ?_⟩
      subst hq'
      exact setRow_other _ _ _ _ fun hb' => h (t.inj i id q' p b old e' e hq hp hb')
  · change upd C.tab id _ i = _ at e1
    change upd C.tab id _ i' = _ at e2
    have f : ∀ j c, upd C.tab id (some blk) j = some c → ∃ c', C.tab j = some c' := fun j c hj => by
      by_cases hjd : j = id
      · exact ⟨old, hjd ▸ e⟩
      · rw [upd_ne _ _ hjd] at hj
        exact ⟨c, hj⟩
    obtain ⟨c1, k1⟩ := f _ _ e1
    obtain ⟨c2, k2⟩ := f _ _ e2
    exact t.inj i i' q q' c1 c2 k1 k2 h h' hq
  · change upd C.tab id _ i = _ at e'
    by_cases h1 : i = id
    · subst h1
      exact t.mb i q old e h hm
    · rw [upd_ne _ _ h1] at e'
      exact t.mb i q b e' h hm'
  · refine ⟨t.fr.os, t.fr.tape, t.fr.output, Nat.le_trans t.fr.size he.size, fun i hi hn => ?_⟩
    refine (setRow_other _ _ _ _ ?_).trans (t.fr.blk i hi hn)
    rintro rfl
    rcases t.mb id p old e hp hm with h | h
    · omega
    · exact hn h
  · change upd C.tab id _ i = _ at e'
    by_cases h1 : i = id
    · subst h1
      rw [upd_same] at e'
      cases e'
      exact t.bs i q old e h (hc.bor hm')
    · rw [upd_ne _ _ h1] at e'
      exact t.bs i q b e' h hm'

/-! ### Blocks that are written no more, or dead -/
theorem chg_nil (t : Tab) : chg t [] = t := rfl
theorem chg_cons (t : Tab) (p : Nat × Option Blk) (l : Chg) : chg t (p :: l) = chg (upd t p.1 p.2) l := rfl
theorem chg_app (t : Tab) (l m : Chg) : chg t (l ++ m) = chg (chg t l) m := by
  induction l generalizing t with
  | nil => rfl
  | cons p l ih => exact ih _

def Ctx.setT (C : Ctx) (tab : Tab) : Ctx := { C with tab := tab }

/-- The blocks may be told to be written no more, or forgotten. -/
def Fade (a b : Tab) : Prop := ∀ id, b id = a id ∨ b id = none ∨ ∃ k T xs, a id = some (.row true k T xs) ∧ b id = some (.fro k T xs)

theorem Fade.refl (a : Tab) : Fade a a := fun _ => .inl rfl
theorem Fade.trans {a b c : Tab} (h : Fade a b) (k : Fade b c) : Fade a c := fun id => by
  rcases k id with e | e | ⟨kk, T, xs, e1, e2⟩
  · rw [e]
    exact h id
  · exact .inr (.inl e)
  · rcases h id with e | e | ⟨k', T', xs', e3, e4⟩
    · exact .inr (.inr ⟨kk, T, xs, e ▸ e1, e2⟩)
    · rw [e] at e1
      cases e1
    · rw [e4] at e1
      cases e1

theorem Fade.ext {C : Ctx} {tab : Tab} (h : Fade C.tab tab) : Ext C (C.setT tab) := by
  refine ExtH.ext ⟨fun _ _ e => e, fun i blk' hne e => ?_, fun b c T fr e _ => ⟨c, fr, e, rfl, fun _ => ⟨rfl, rfl⟩⟩, fun b hb ho => ⟨ho.1, fun i p blk' e1 e2 hm => ?_⟩, Nat.le_refl _⟩ rfl
  · rcases h i with k | k | ⟨kk, T, xs, k1, k2⟩
    · exact ⟨blk', k ▸ e, Compat.refl _⟩
    · change tab i = _ at e
      rw [k] at e
      cases e
    · change tab i = _ at e
      rw [k2] at e
      cases e
      exact ⟨_, k1, ⟨xs, .inl rfl, rfl⟩⟩
  · change tab i = _ at e2
    rcases h i with k | k | ⟨kk, T, xs, k1, k2⟩
    · exact ho.2 i p blk' e1 (k ▸ e2) hm
    · rw [k] at e2
      cases e2
    · rw [k2] at e2
      cases e2
      cases hm

theorem TabOk.fade {w0 : Start} {M0 av : Nat → Prop} {C : Ctx} (t : TabOk w0 M0 av C) {tab : Tab} (h : Fade C.tab tab) : TabOk w0 M0 av (C.setT tab) := by
  have he := h.ext
  have f : ∀ i b, tab i = some b → ∃ b', C.tab i = some b' := fun i b e => by
    rcases h i with k | k | ⟨kk, T, xs, k1, k2⟩
    · exact ⟨b, k ▸ e⟩
    · rw [k] at e
      cases e
    · exact ⟨_, k1⟩
  refine ⟨fun i b e => ?_, fun i i' p p' b b' e e' h1 h2 hp => ?_, fun i p b e hp hm => ?_, t.av, t.fr, fun i p b e hp hm => ?_, t.bf, t.bq⟩
  · change tab i = _ at e
    rcases h i with k | k | ⟨kk, T, xs, k1, k2⟩
    · rw [k] at e
      obtain ⟨p, hp, hr⟩ := t.bl i b e
      exact ⟨p, hp, hr.ext he fun _ _ => rfl⟩
    · rw [k] at e
      cases e
    · rw [k2] at e
      cases e
      obtain ⟨p, hp, hr⟩ := t.bl i _ k1
      exact ⟨p, hp, RowAt.ext he (fun _ _ => rfl) hr⟩
  · obtain ⟨c, hc⟩ := f _ _ e
    obtain ⟨c', hc'⟩ := f _ _ e'
    exact t.inj i i' p p' c c' hc hc' h1 h2 hp
  · change tab i = _ at e
    rcases h i with k | k | ⟨kk, T, xs, k1, k2⟩
    · exact t.mb i p b (k ▸ e) hp hm
    · rw [k] at e
      cases e
    · rw [k2] at e
      cases e
      cases hm
  · change tab i = _ at e
    rcases h i with k | k | ⟨kk, T, xs, k1, k2⟩
    · exact t.bs i p b (k ▸ e) hp hm
    · rw [k] at e
      cases e
    · exact t.bs i p _ k1 hp rfl

theorem frz1_fade {tab : Tab} {v : AV} {c : Chg} (h : frz1 tab v = some c) : Fade tab (chg tab c) := by
  have key : ∀ id, (match tab id with | some (.row true k T xs) => some [(id, some (Blk.fro k T xs))] | some (.fro _ _ _) => some [] | _ => none) = some c → Fade tab (chg tab c) := by
    intro id h
    split at h
    · rename_i k T xs e
      cases h
      intro i
      show upd tab id _ i = _ ∨ _
      by_cases hi : i = id
      · subst hi
        exact .inr (.inr ⟨k, T, xs, e, upd_same ..⟩)
      · exact .inl (upd_ne _ _ hi)
    · cases h
      exact Fade.refl _
    · cases h
  cases v <;> first | exact key _ h | (simp [frz1] at h; subst h; exact Fade.refl _)

/-- What a freezing is made of: rows of one's own that are told as rows that are written no more. -/
def FrzOf (tab : Tab) (c : Chg) : Prop := ∀ p ∈ c, ∃ k T xs, tab p.1 = some (.row true k T xs) ∧ p.2 = some (.fro k T xs)

theorem frz_of {tab : Tab} : ∀ {l : List AV} {c : Chg}, frz tab l = some c → FrzOf tab c
  | [], c, h => by
    cases h
    intro p hp
    cases hp
  | v :: l, c, h => by
    unfold frz at h
    split at h
    · rename_i c1 h1
      split at h
      · rename_i c2 h2
        cases h
        intro p hp
        rcases List.mem_append.1 hp with hp | hp
        · cases v <;> simp [frz1] at h1 <;> (try subst h1; cases hp)
          all_goals
            split at h1
            · rename_i e
              simp at h1
              subst h1
              simp at hp
              subst hp
              exact ⟨_, _, _, e, rfl⟩
            · simp at h1
              subst h1
              cases hp
            · cases h1
        · exact frz_of h2 p hp
      · cases h
    · cases h

theorem FrzOf.fade {tab : Tab} : ∀ {c : Chg}, FrzOf tab c → ∀ {t : Tab}, Fade tab t → (∀ p ∈ c, t p.1 = tab p.1 ∨ t p.1 = p.2) → Fade tab (chg t c)
  | [], _, t, ht, _ => ht
  | p :: c, h, t, ht, hs => by
    obtain ⟨k, T, xs, e1, e2⟩ := h p (by simp)
    refine FrzOf.fade (c := c) (fun q hq => h q (by simp [hq])) (t := upd t p.1 p.2) (fun i => ?_) (fun q hq => ?_)
    · by_cases hi : i = p.1
      · subst hi
        exact .inr (.inr ⟨k, T, xs, e1, (upd_same ..).trans e2⟩)
      · rw [upd_ne _ _ hi]
        exact ht i
    · by_cases hi : q.1 = p.1
      · right
        rw [hi, upd_same]
        obtain ⟨k', T', xs', e3, e4⟩ := h q (by simp [hq])
        rw [hi, e1] at e3
        cases e3
        rw [e2, e4]
      · rw [upd_ne _ _ hi]
        exact hs q (by simp [hq])

theorem frz_fade {tab : Tab} {l : List AV} {c : Chg} (h : frz tab l = some c) : Fade tab (chg tab c) := (frz_of h).fade (Fade.refl _) fun _ _ => .inl rfl

theorem FrzOf.get {tab : Tab} : ∀ {c : Chg}, FrzOf tab c → ∀ {t : Tab} {i : Nat}, (∀ p ∈ c, p.1 = i → t i = tab i ∨ t i = p.2) → (∃ p ∈ c, p.1 = i) → ∃ p ∈ c, p.1 = i ∧ chg t c i = p.2
  | [], _, t, i, _, h => by
    obtain ⟨p, hp, _⟩ := h
    cases hp
  | p :: c, h, t, i, hs, hex => by
    by_cases hc : ∃ q ∈ c, q.1 = i
    · obtain ⟨q, hq, h1, h2⟩ := FrzOf.get (c := c) (fun q hq => h q (by simp [hq])) (t := upd t p.1 p.2) (i := i) (fun q hq hqi => by
        by_cases hi : i = p.1
        · right
          obtain ⟨k, T, xs, e1, e2⟩ := h p (by simp)
          obtain ⟨k', T', xs', e3, e4⟩ := h q (by simp [hq])
          rw [hi, upd_same]
          rw [hqi, hi, e1] at e3
          cases e3
          rw [e2, e4]
        · rw [upd_ne _ _ hi]
          exact hs q (by simp [hq]) hqi) hc
      exact ⟨q, by simp [hq], h1, h2⟩
    · obtain ⟨q, hq, hqi⟩ := hex
      rcases List.mem_cons.1 hq with rfl | hq
      · refine ⟨q, by simp, hqi, ?_⟩
        have : ∀ {c : Chg} {t : Tab}, (¬ ∃ q ∈ c, q.1 = i) → chg t c i = t i := by
          intro c
          induction c with
          | nil => intro t _; rfl
          | cons r c ih =>
            intro t hn
            rw [chg_cons, ih (fun ⟨q, hq, hi⟩ => hn ⟨q, by simp [hq], hi⟩)]
            exact upd_ne _ _ fun h => hn ⟨r, by simp, h.symm⟩
        rw [chg_cons, this hc, ← hqi, upd_same]
      · exact absurd ⟨q, hq, hqi⟩ hc

/-! ### Snapshots -/
theorem SlRel.snap {C : Ctx} {w0 : Start} {M0 av : Nat → Prop} (t : TabOk w0 M0 av C) {v : Value} {id off : Nat} {len : Option Nat} (h : SlRel C v id off len) {blk : Blk} (e : C.tab id = some blk)
    {k : Kd} {T : TypeId} {xs : List (El k)} (hr : RowLike blk k T xs) (ok : Nat → Prop) (hok : ∀ b, C.ok b → ok b) (hid : ∀ p, C.io id = some (some p) → ok p.b) :
    RepC C.w ok (.row k) ((xs.drop off).take (len.getD xs.length)) [v] := by
  obtain ⟨hi, A, n, c, rfl, hb⟩ := h
  obtain ⟨k', T', ys, hr', hn, ho, hnc, hs⟩ := hb blk e
  obtain ⟨rfl, rfl, hq⟩ := hr.uniq hr'
  obtain rfl := eq_of_heq hq
  have hl : ((xs.drop off).take (len.getD xs.length)).length = n := by
    rw [List.length_take, List.length_drop, ← hn]
    omega
  refine ⟨A, c, by rw [hl], by rw [hl]; exact hnc, fun h0 => ?_⟩
  rw [hl] at h0
  rcases hs with ⟨_, hc⟩ | ⟨p, hp, hA, cs, T', fr, hh, hsz⟩
  · omega
  · refine ⟨_, hA (by omega), rfl, hid p hp, cs, T', fr, hh, fun j x hj => ?_⟩
    obtain ⟨p', hp', hbr⟩ := t.bl id blk e
    rw [hp] at hp'
    cases hp'
    rcases hr.rel hbr with ⟨h, _⟩ | ⟨q, h, cs', hh', hx⟩
    · cases h
    · cases h
      rw [hh] at hh'
      cases hh'
      have hjl : j < ((xs.drop off).take (len.getD xs.length)).length := (List.getElem?_eq_some_iff.1 hj).1
      rw [List.getElem?_take, if_pos (by rw [List.length_take] at hjl; omega), List.getElem?_drop] at hj
      obtain ⟨h1, h2⟩ := hx _ _ hj
      have e1 : p.o + off * k.sz + j * k.sz = p.o + (off + j) * k.sz := by rw [Nat.add_mul]; omega
      show p.o + off * k.sz + j * k.sz + k.sz ≤ _ ∧ _
      rw [e1]
      exact ⟨h1, h2.ext ⟨fun b _ _ _ hh _ => hh, fun b _ ho => hok b ho⟩⟩

end Go.Proofs.Ytmjbjlhjpdebjaa.Mini
