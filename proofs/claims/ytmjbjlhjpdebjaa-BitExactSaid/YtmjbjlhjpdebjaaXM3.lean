/- A small machine over plain data: what its states say of the machine's memory. -/
import Derived.Test.YtmjbjlhjpdebjaaXM2
namespace Go.Proofs.Ytmjbjlhjpdebjaa.Mini
open Go Go.RowKit

/-! ### Data in memory -/
/-- Elements side by side, from an address on. -/
def RepR {α : Type} (R : α → List Value → Prop) (sz : Nat) (w : World) (ok : Nat → Prop) (A : Option Addr) (xs : List α) : Prop :=
  0 < xs.length → ∃ ad, A = some ad ∧ ad.spot = none ∧ ok ad.block ∧ ∃ cs T fr, w.heap[ad.block]? = some (.cells cs T fr) ∧
    ∀ j x, xs[j]? = some x → ad.off + j * sz + sz ≤ cs.size ∧ R x ((cs.toList.drop (ad.off + j * sz)).take sz)

def RepC (w : World) (ok : Nat → Prop) : (k : Kd) → El k → List Value → Prop
  | .int k, n, cs => cs = [.int k n]
  | .bool, b, cs => cs = [.bool b]
  | .str, s, cs => cs = [.string s]
  | .unit, _, cs => cs = []
  | .pair a b, x, cs => ∃ c d, cs = c ++ d ∧ RepC w ok a x.1 c ∧ RepC w ok b x.2 d
  | .row a, xs, cs => ∃ A c, cs = [.slice A xs.length c] ∧ xs.length ≤ c ∧ RepR (RepC w ok a) a.sz w ok A xs

theorem RepC.length {w : World} {ok : Nat → Prop} : ∀ {k : Kd} {x : El k} {cs : List Value}, RepC w ok k x cs → cs.length = k.sz
  | .int _, _, _, h => by rw [show _ = _ from h]; rfl
  | .bool, _, _, h => by rw [show _ = _ from h]; rfl
  | .str, _, _, h => by rw [show _ = _ from h]; rfl
  | .unit, _, _, h => by rw [show _ = _ from h]; rfl
  | .pair a b, x, cs, h => by
    obtain ⟨c, d, rfl, h1, h2⟩ := h
    rw [List.length_append, h1.length, h2.length]
    rfl
  | .row a, xs, cs, h => by
    obtain ⟨A, c, rfl, _⟩ := h
    rfl

/-- What is read in one world is read in the other. -/
structure Reads (w w' : World) (ok ok' : Nat → Prop) : Prop where
  blk : ∀ b cs T fr, w.heap[b]? = some (.cells cs T fr) → ok b → w'.heap[b]? = some (.cells cs T fr)
  ok : ∀ b, b < w.heap.size → ok b → ok' b

theorem heap_lt {w : World} {b : Nat} {o : Obj} (h : w.heap[b]? = some o) : b < w.heap.size := (Array.getElem?_eq_some_iff.1 h).1

theorem RepR.ext {α : Type} {R R' : α → List Value → Prop} {sz : Nat} {w w' : World} {ok ok' : Nat → Prop} (hr : Reads w w' ok ok') {A : Option Addr} {xs : List α}
    (hR : ∀ x cs, R x cs → R' x cs) (h : RepR R sz w ok A xs) : RepR R' sz w' ok' A xs := by
  intro h0
  obtain ⟨ad, hA, hs, ho, cs, T, fr, hh, hx⟩ := h h0
  exact ⟨ad, hA, hs, hr.ok _ (heap_lt hh) ho, cs, T, fr, hr.blk _ _ _ _ hh ho, fun j x hj => ⟨(hx j x hj).1, hR _ _ (hx j x hj).2⟩⟩

theorem RepC.ext {w w' : World} {ok ok' : Nat → Prop} (hr : Reads w w' ok ok') : ∀ {k : Kd} {x : El k} {cs : List Value}, RepC w ok k x cs → RepC w' ok' k x cs
  | .int _, _, _, h => h
  | .bool, _, _, h => h
  | .str, _, _, h => h
  | .unit, _, _, h => h
  | .pair a b, x, cs, h => by
    obtain ⟨c, d, e, h1, h2⟩ := h
    exact ⟨c, d, e, h1.ext hr, h2.ext hr⟩
  | .row a, xs, cs, h => by
    obtain ⟨A, c, e, hl, h⟩ := h
    exact ⟨A, c, e, hl, h.ext hr fun x cs h => RepC.ext hr h⟩

/-! ### The state of what is known -/
structure Pl where
  b : Nat
  o : Nat

structure Ctx where
  w : World
  /-- none: never made; some none: nil -/
  io : Nat → Option (Option Pl)
  tab : Tab
  /-- what may be read without end -/
  base : Nat → Prop
  /-- the record of the range over a function in which this runs -/
  yl : Nat

def Blk.isMut : Blk → Bool
  | .fro _ _ _ => false
  | _ => true

/-- A row that was handed over to be written. -/
def Blk.isBor : Blk → Bool
  | .row false _ _ _ => true
  | _ => false

/-- Blocks that are written no more. -/
def Ctx.ok (C : Ctx) (b : Nat) : Prop := C.base b ∧ ∀ id p blk, C.io id = some (some p) → C.tab id = some blk → blk.isMut = true → p.b ≠ b

def RowLike (blk : Blk) (k : Kd) (T : TypeId) (xs : List (El k)) : Prop := (∃ o, blk = .row o k T xs) ∨ blk = .fro k T xs

/-- The slice that begins at element off. -/
def SlAt (C : Ctx) (id sz off : Nat) (A : Option Addr) (c : Nat) : Prop :=
  (C.io id = some none ∧ c = 0) ∨ ∃ p, C.io id = some (some p) ∧ (0 < c → A = some ⟨p.b, p.o + off * sz, none⟩) ∧ ∃ cs T fr, C.w.heap[p.b]? = some (.cells cs T fr) ∧ p.o + (off + c) * sz ≤ cs.size

def SlRel (C : Ctx) (v : Value) (id off : Nat) (len : Option Nat) : Prop :=
  C.io id ≠ none ∧ ∃ A n c, v = .slice A n c ∧ ∀ blk, C.tab id = some blk → ∃ k T xs, RowLike blk k T xs ∧ n = len.getD xs.length ∧ off + n ≤ xs.length ∧ n ≤ c ∧ SlAt C id k.sz off A c

def PtrRel (C : Ctx) (v : Value) (id off : Nat) : Prop :=
  C.io id ≠ none ∧ ∃ a, v = .pointer (some a) ∧ ∀ blk, C.tab id = some blk → ∃ T l p, blk = .cells T l ∧ C.io id = some (some p) ∧ p.o = 0 ∧ a = ⟨p.b, off, none⟩

def EptrRel (C : Ctx) (v : Value) (id j off : Nat) : Prop :=
  C.io id ≠ none ∧ ∃ a, v = .pointer (some a) ∧ ∀ blk, C.tab id = some blk → ∃ k T xs p, RowLike blk k T xs ∧ C.io id = some (some p) ∧ j < xs.length ∧ a = ⟨p.b, p.o + j * k.sz + off, none⟩

mutual
inductive Rel (C : Ctx) : Value → AV → Prop where
  | undef {v : Value} : Rel C v .undef
  | int {k : IntKind} {n : Int} : Rel C (.int k n) (.int k n)
  | bool {b : Bool} : Rel C (.bool b) (.bool b)
  | str {s : ByteArray} : Rel C (.string s) (.str s)
  | row {v : Value} {k : Kd} {xs : List (El k)} (h : RepC C.w C.ok (.row k) xs [v]) : Rel C v (.row k xs)
  | nils {A : Option Addr} : Rel C (.slice A 0 0) .nils
  | own {v : Value} {id : Nat} (h : SlRel C v id 0 none) : Rel C v (.own id)
  | sl {v : Value} {id off len : Nat} (h : SlRel C v id off (some len)) : Rel C v (.sl id off len)
  | ptr {v : Value} {id off : Nat} (h : PtrRel C v id off) : Rel C v (.ptr id off)
  | eptr {v : Value} {id j off : Nat} (h : EptrRel C v id j off) : Rel C v (.eptr id j off)
  | iptr {a : Addr} {l : List AV} {cs : Array Value} {T : TypeId} {fr : Nat × Nat} (hs : a.spot = none) (ho : C.ok a.block) (hh : C.w.heap[a.block]? = some (.cells cs T fr)) (h : RelL C ((cs.toList.drop a.off).take l.length) l) : Rel C (.pointer (some a)) (.iptr l)
  | nilp : Rel C (.pointer none) .nilp
  | agg {cs : Array Value} {l : List AV} (h : RelL C cs.toList l) : Rel C (.agg cs) (.agg l)
  | tup {cs : Array Value} {l : List AV} (h : RelL C cs.toList l) : Rel C (.tuple cs) (.tup l)
  | fn {f : FuncId} {cs : Array Value} {l : List AV} (h : RelL C cs.toList l) : Rel C (.func (.func f) #[] cs) (.fn (.func f) l)
  | yld : Rel C (.func (.yield C.yl) #[] #[]) (.fn (.yield 0) [])
inductive RelL (C : Ctx) : List Value → List AV → Prop where
  | nil : RelL C [] []
  | cons {v : Value} {x : AV} {vs : List Value} {xs : List AV} (h : Rel C v x) (t : RelL C vs xs) : RelL C (v :: vs) (x :: xs)
end

/-- Blocks may turn so. -/
def Compat (a b : Blk) : Prop := match b with
  | .row o k T ys => ∃ xs, a = .row o k T xs ∧ xs.length = ys.length
  | .fro k T ys => ∃ xs, (a = .row true k T xs ∨ a = .fro k T xs) ∧ xs.length = ys.length
  | .cells T l => ∃ l', a = .cells T l' ∧ l'.length = l.length

structure Ext (C C' : Ctx) : Prop where
  io : ∀ id p, C.io id = some p → C'.io id = some p
  tab : ∀ id blk', C.io id ≠ none → C'.tab id = some blk' → ∃ blk, C.tab id = some blk ∧ Compat blk blk'
  okh : ∀ b cs T fr, C.w.heap[b]? = some (.cells cs T fr) → C.ok b → C'.w.heap[b]? = some (.cells cs T fr)
  liv : ∀ id p blk', C.io id = some (some p) → C'.tab id = some blk' → ∀ cs T fr, C.w.heap[p.b]? = some (.cells cs T fr) → ∃ cs' fr', C'.w.heap[p.b]? = some (.cells cs' T fr') ∧ cs'.size = cs.size
  ok : ∀ b, b < C.w.heap.size → C.ok b → C'.ok b
  size : C.w.heap.size ≤ C'.w.heap.size
  yl : C'.yl = C.yl

/-- All blocks stay what they were, so large. -/
structure ExtH (C C' : Ctx) : Prop where
  io : ∀ id p, C.io id = some p → C'.io id = some p
  tab : ∀ id blk', C.io id ≠ none → C'.tab id = some blk' → ∃ blk, C.tab id = some blk ∧ Compat blk blk'
  heap : ∀ b cs T fr, C.w.heap[b]? = some (.cells cs T fr) → True → ∃ cs' fr', C'.w.heap[b]? = some (.cells cs' T fr') ∧ cs'.size = cs.size ∧ (C.ok b → cs' = cs ∧ fr' = fr)
  ok : ∀ b, b < C.w.heap.size → C.ok b → C'.ok b
  size : C.w.heap.size ≤ C'.w.heap.size

theorem ExtH.ext {C C' : Ctx} (h : ExtH C C') (y : C'.yl = C.yl) : Ext C C' :=
  ⟨h.io, h.tab, fun b cs T fr hh ho => by
    obtain ⟨cs', fr', h1, _, h3⟩ := h.heap b cs T fr hh trivial
    rw [h1, (h3 ho).1, (h3 ho).2], fun _ p _ _ _ cs T fr hh => by
    obtain ⟨cs', fr', h1, h2, _⟩ := h.heap p.b cs T fr hh trivial
    exact ⟨cs', fr', h1, h2⟩, h.ok, h.size, y⟩

theorem Ext.reads {C C' : Ctx} (h : Ext C C') : Reads C.w C'.w C.ok C'.ok := ⟨h.okh, h.ok⟩

theorem RowLike.compat {a b : Blk} {k : Kd} {T : TypeId} {ys : List (El k)} (h : RowLike b k T ys) (c : Compat a b) : ∃ xs, RowLike a k T xs ∧ xs.length = ys.length := by
  rcases h with ⟨o, rfl⟩ | rfl
  · obtain ⟨xs, rfl, hl⟩ := c
    exact ⟨xs, .inl ⟨o, rfl⟩, hl⟩
  · obtain ⟨xs, h, hl⟩ := c
    exact ⟨xs, h.elim (fun e => .inl ⟨true, e⟩) .inr, hl⟩

theorem RowLike.uniq {a : Blk} {k k' : Kd} {T T' : TypeId} {xs : List (El k)} {ys : List (El k')} (h : RowLike a k T xs) (h' : RowLike a k' T' ys) : k = k' ∧ T = T' ∧ HEq xs ys := by
  rcases h with ⟨o, rfl⟩ | rfl <;> rcases h' with ⟨o', e⟩ | e <;> cases e <;> exact ⟨rfl, rfl, HEq.rfl⟩

/-- Compatible with something like a row: like a row. -/
theorem Compat.rowLike {a b : Blk} (c : Compat a b) {k : Kd} {T : TypeId} {xs : List (El k)} (h : RowLike a k T xs) : ∃ ys, RowLike b k T ys ∧ xs.length = ys.length := by
  cases b with
  | row o k' T' ys =>
    obtain ⟨zs, rfl, hl⟩ := c
    obtain ⟨rfl, rfl, hz⟩ := h.uniq (.inl ⟨o, rfl⟩)
    obtain rfl := eq_of_heq hz
    exact ⟨ys, .inl ⟨o, rfl⟩, hl⟩
  | fro k' T' ys =>
    obtain ⟨zs, hz, hl⟩ := c
    obtain ⟨rfl, rfl, hq⟩ := h.uniq (hz.elim (fun e => .inl ⟨true, e⟩) .inr)
    obtain rfl := eq_of_heq hq
    exact ⟨ys, .inr rfl, hl⟩
  | cells T' l =>
    obtain ⟨l', rfl, _⟩ := c
    rcases h with ⟨o, e⟩ | e <;> cases e

theorem Compat.cells {a b : Blk} (c : Compat a b) {T : TypeId} {l : List AV} (h : a = .cells T l) : ∃ l', b = .cells T l' ∧ l.length = l'.length := by
  subst h
  cases b with
  | row o k T ys =>
    obtain ⟨xs, e, _⟩ := c
    cases e
  | fro k T ys =>
    obtain ⟨xs, e, _⟩ := c
    rcases e with e | e <;> cases e
  | cells T' l' =>
    obtain ⟨l'', e, h⟩ := c
    cases e
    exact ⟨l', rfl, h⟩

theorem Compat.refl (a : Blk) : Compat a a := by
  cases a with
  | row o k T xs => exact ⟨xs, rfl, rfl⟩
  | fro k T xs => exact ⟨xs, .inr rfl, rfl⟩
  | cells T l => exact ⟨l, rfl, rfl⟩

theorem Compat.trans {a b c : Blk} (h : Compat a b) (h' : Compat b c) : Compat a c := by
  cases c with
  | row o k T zs =>
    obtain ⟨ys, rfl, h2⟩ := h'
    obtain ⟨xs, rfl, h1⟩ := h
    exact ⟨xs, rfl, h1.trans h2⟩
  | fro k T zs =>
    obtain ⟨ys, hy, h2⟩ := h'
    rcases hy with rfl | rfl
    · obtain ⟨xs, rfl, h1⟩ := h
      exact ⟨xs, .inl rfl, h1.trans h2⟩
    · obtain ⟨xs, hx, h1⟩ := h
      exact ⟨xs, hx, h1.trans h2⟩
  | cells T l =>
    obtain ⟨l', rfl, h2⟩ := h'
    obtain ⟨l'', rfl, h1⟩ := h
    exact ⟨l'', rfl, h1.trans h2⟩

theorem Ext.io_ne {C C' : Ctx} (h : Ext C C') {id : Nat} (hi : C.io id ≠ none) : C'.io id ≠ none := by
  cases e : C.io id with
  | none => exact absurd e hi
  | some p => rw [h.io id p e]; simp

theorem SlAt.ext {C C' : Ctx} (h : Ext C C') {id sz off : Nat} {blk' : Blk} (ht : C'.tab id = some blk') {A : Option Addr} {c : Nat} (k : SlAt C id sz off A c) : SlAt C' id sz off A c := by
  rcases k with ⟨hi, hc⟩ | ⟨p, hi, hA, cs, T, fr, hh, hs⟩
  · exact .inl ⟨h.io _ _ hi, hc⟩
  · obtain ⟨cs', fr', h1, h2⟩ := h.liv _ _ _ hi ht _ _ _ hh
    exact .inr ⟨p, h.io _ _ hi, hA, cs', T, fr', h1, by rw [h2]; exact hs⟩

theorem SlRel.ext {C C' : Ctx} (h : Ext C C') {v : Value} {id off : Nat} {len : Option Nat} (k : SlRel C v id off len) : SlRel C' v id off len := by
  obtain ⟨hi, A, n, c, hv, hb⟩ := k
  refine ⟨h.io_ne hi, A, n, c, hv, fun blk' hblk' => ?_⟩
  obtain ⟨blk, hblk, hc⟩ := h.tab id blk' hi hblk'
  obtain ⟨k, T, xs, hr, hn, ho, hnc, hs⟩ := hb blk hblk
  obtain ⟨ys, hy, hl⟩ := hc.rowLike hr
  exact ⟨k, T, ys, hy, by rw [hn, hl], by rw [← hl]; exact ho, hnc, hs.ext h hblk'⟩

theorem PtrRel.ext {C C' : Ctx} (h : Ext C C') {v : Value} {id off : Nat} (k : PtrRel C v id off) : PtrRel C' v id off := by
  obtain ⟨hi, a, hv, hb⟩ := k
  refine ⟨h.io_ne hi, a, hv, fun blk' hblk' => ?_⟩
  obtain ⟨blk, hblk, hc⟩ := h.tab id blk' hi hblk'
  obtain ⟨T, l, p, hr, hp, ho, ha⟩ := hb blk hblk
  obtain ⟨l', hl', hll⟩ := hc.cells hr
  exact ⟨T, l', p, hl', h.io _ _ hp, ho, ha⟩

theorem EptrRel.ext {C C' : Ctx} (h : Ext C C') {v : Value} {id j off : Nat} (k : EptrRel C v id j off) : EptrRel C' v id j off := by
  obtain ⟨hi, a, hv, hb⟩ := k
  refine ⟨h.io_ne hi, a, hv, fun blk' hblk' => ?_⟩
  obtain ⟨blk, hblk, hc⟩ := h.tab id blk' hi hblk'
  obtain ⟨k, T, xs, p, hr, hp, hj, ha⟩ := hb blk hblk
  obtain ⟨ys, hy, hl⟩ := hc.rowLike hr
  exact ⟨k, T, ys, p, hy, h.io _ _ hp, by rw [← hl]; exact hj, ha⟩

mutual
theorem Rel.ext {C C' : Ctx} (h : Ext C C') : ∀ {v : Value} {x : AV}, Rel C v x → Rel C' v x
  | _, _, .undef => .undef
  | _, _, .int => .int
  | _, _, .bool => .bool
  | _, _, .str => .str
  | _, _, .row k => .row (k.ext h.reads)
  | _, _, .nils => .nils
  | _, _, .own k => .own (k.ext h)
  | _, _, .sl k => .sl (k.ext h)
  | _, _, .ptr k => .ptr (k.ext h)
  | _, _, .eptr k => .eptr (k.ext h)
  | _, _, .iptr hs ho hh k => .iptr hs (h.ok _ (heap_lt hh) ho) (h.reads.blk _ _ _ _ hh ho) (RelL.ext h k)
  | _, _, .nilp => .nilp
  | _, _, .agg k => .agg (RelL.ext h k)
  | _, _, .tup k => .tup (RelL.ext h k)
  | _, _, .fn k => .fn (RelL.ext h k)
  | _, _, .yld => by rw [← h.yl]; exact .yld
theorem RelL.ext {C C' : Ctx} (h : Ext C C') : ∀ {vs : List Value} {xs : List AV}, RelL C vs xs → RelL C' vs xs
  | _, _, .nil => .nil
  | _, _, .cons k t => .cons (Rel.ext h k) (RelL.ext h t)
end

theorem Ext.refl (C : Ctx) : Ext C C :=
  ⟨fun _ _ h => h, fun _ b _ h => ⟨b, h, Compat.refl b⟩, fun _ _ _ _ h _ => h, fun _ _ _ _ _ cs _ _ h => ⟨cs, _, h, rfl⟩, fun _ _ h => h, Nat.le_refl _, rfl⟩

theorem Ext.trans {A B C : Ctx} (h : Ext A B) (k : Ext B C) : Ext A C := by
  refine ⟨fun id p e => k.io _ _ (h.io _ _ e), fun id blk' hi e => ?_, fun b cs T fr e ho => k.okh b cs T fr (h.okh b cs T fr e ho) (h.ok _ (heap_lt e) ho), fun id p blk' hi ht cs T fr e => ?_, fun b hb ho => k.ok _ (Nat.lt_of_lt_of_le hb h.size) (h.ok _ hb ho), Nat.le_trans h.size k.size, k.yl.trans h.yl⟩
  · obtain ⟨b1, h1, c1⟩ := k.tab id blk' (h.io_ne hi) e
    obtain ⟨b2, h2, c2⟩ := h.tab id b1 hi h1
    exact ⟨b2, h2, c2.trans c1⟩
  · obtain ⟨b1, ht1, _⟩ := k.tab id blk' (h.io_ne (by rw [hi]; simp)) ht
    obtain ⟨cs1, fr1, h1, s1⟩ := h.liv id p b1 hi ht1 cs T fr e
    obtain ⟨cs2, fr2, h2, s2⟩ := k.liv id p blk' (h.io _ _ hi) ht cs1 T fr1 h1
    exact ⟨cs2, fr2, h2, s2.trans s1⟩

theorem RelL.length {C : Ctx} : ∀ {vs : List Value} {xs : List AV}, RelL C vs xs → vs.length = xs.length
  | _, _, .nil => rfl
  | _, _, .cons _ t => by simp only [List.length_cons, t.length]

theorem RelL.get {C : Ctx} : ∀ {vs : List Value} {xs : List AV}, RelL C vs xs → ∀ {i : Nat} {x : AV}, xs[i]? = some x → ∃ v, vs[i]? = some v ∧ Rel C v x
  | _, _, .cons h t, 0, _, e => ⟨_, rfl, by cases e; exact h⟩
  | _, _, .cons _ t, i + 1, _, e => by
    obtain ⟨v, h1, h2⟩ := t.get (i := i) (by simpa using e)
    exact ⟨v, by simpa using h1, h2⟩

theorem RelL.app {C : Ctx} : ∀ {vs ws : List Value} {xs ys : List AV}, RelL C vs xs → RelL C ws ys → RelL C (vs ++ ws) (xs ++ ys)
  | _, _, _, _, .nil, k => k
  | _, _, _, _, .cons h t, k => .cons h (t.app k)

theorem RelL.drop {C : Ctx} : ∀ {vs : List Value} {xs : List AV} (n : Nat), RelL C vs xs → RelL C (vs.drop n) (xs.drop n)
  | _, _, 0, h => h
  | _, _, _ + 1, .nil => .nil
  | _, _, n + 1, .cons _ t => t.drop n

theorem RelL.take {C : Ctx} : ∀ {vs : List Value} {xs : List AV} (n : Nat), RelL C vs xs → RelL C (vs.take n) (xs.take n)
  | _, _, 0, _ => .nil
  | _, _, _ + 1, .nil => .nil
  | _, _, n + 1, .cons h t => .cons h (t.take n)

theorem RelL.split {C : Ctx} : ∀ {vs : List Value} {xs ys : List AV}, RelL C vs (xs ++ ys) → ∃ c d, vs = c ++ d ∧ RelL C c xs ∧ RelL C d ys
  | vs, [], ys, h => ⟨[], vs, rfl, .nil, h⟩
  | _, x :: xs, ys, .cons h t => by
    obtain ⟨c, d, rfl, h1, h2⟩ := t.split (xs := xs)
    exact ⟨_ :: c, d, rfl, .cons h h1, h2⟩

/-! ### Data and cells' values -/
theorem RepC.leaves {C : Ctx} : ∀ {k : Kd} {x : El k} {cs : List Value}, RepC C.w C.ok k x cs → RelL C cs (leavesOf k x)
  | .int _, _, _, h => by rw [show _ = _ from h]; exact .cons .int .nil
  | .bool, _, _, h => by rw [show _ = _ from h]; exact .cons .bool .nil
  | .str, _, _, h => by rw [show _ = _ from h]; exact .cons .str .nil
  | .unit, _, _, h => by rw [show _ = _ from h]; exact .nil
  | .pair a b, x, cs, h => by
    obtain ⟨c, d, rfl, h1, h2⟩ := h
    exact h1.leaves.app h2.leaves
  | .row a, xs, cs, h => by
    obtain ⟨A, c, rfl, hl, hr⟩ := h
    exact .cons (.row ⟨A, c, rfl, hl, hr⟩) .nil

theorem RepC.nils {w : World} {ok : Nat → Prop} {a : Kd} {A : Option Addr} {c : Nat} : RepC w ok (.row a) [] [.slice A 0 c] :=
  ⟨A, c, rfl, Nat.zero_le _, fun h => absurd h (by simp)⟩

theorem toEl_rep {C : Ctx} : ∀ {k : Kd} {l : List AV} {x : El k} {r : List AV}, toEl k l = some (x, r) → ∀ {cs : List Value}, RelL C cs l →
    ∃ c d, cs = c ++ d ∧ RepC C.w C.ok k x c ∧ RelL C d r
  | .int k, l, x, r, h, cs, hc => by
    cases hc with
    | nil => simp [toEl] at h
    | cons hv t =>
      rename_i v y vs ys
      cases y <;> simp [toEl] at h
      obtain ⟨rfl, rfl, rfl⟩ := h
      cases hv
      exact ⟨[_], vs, rfl, rfl, t⟩
  | .bool, l, x, r, h, cs, hc => by
    cases hc with
    | nil => simp [toEl] at h
    | cons hv t =>
      rename_i v y vs ys
      cases y <;> simp [toEl] at h
      obtain ⟨rfl, rfl⟩ := h
      cases hv
      exact ⟨[_], vs, rfl, rfl, t⟩
  | .str, l, x, r, h, cs, hc => by
    cases hc with
    | nil => simp [toEl] at h
    | cons hv t =>
      rename_i v y vs ys
      cases y <;> simp [toEl] at h
      obtain ⟨rfl, rfl⟩ := h
      cases hv
      exact ⟨[_], vs, rfl, rfl, t⟩
  | .unit, l, x, r, h, cs, hc => by
    simp [toEl] at h
    subst h
    exact ⟨[], cs, rfl, rfl, hc⟩
  | .pair a b, l, x, r, h, cs, hc => by
    unfold toEl at h
    split at h
    · rename_i x1 l1 h1
      split at h
      · rename_i x2 l2 h2
        simp only [Option.some.injEq, Prod.mk.injEq] at h
        obtain ⟨rfl, rfl⟩ := h
        obtain ⟨c1, d1, rfl, k1, t1⟩ := toEl_rep h1 hc
        obtain ⟨c2, d2, rfl, k2, t2⟩ := toEl_rep h2 t1
        exact ⟨c1 ++ c2, d2, by rw [List.append_assoc], ⟨c1, c2, rfl, k1, k2⟩, t2⟩
      · cases h
    · cases h
  | .row a, l, x, r, h, cs, hc => by
    cases hc with
    | nil => simp [toEl] at h
    | cons hv t =>
      rename_i v y vs ys
      cases y <;> simp [toEl] at h
      · rename_i a' xs
        obtain ⟨⟨rfl, rfl⟩, rfl⟩ := h
        cases hv with
        | row hv => exact ⟨[v], vs, rfl, hv, t⟩
      · obtain ⟨rfl, rfl⟩ := h
        cases hv
        exact ⟨[_], vs, rfl, RepC.nils, t⟩

theorem toElAll_rep {C : Ctx} {k : Kd} {l : List AV} {x : El k} (h : toElAll k l = some x) {cs : List Value} (hc : RelL C cs l) : RepC C.w C.ok k x cs := by
  unfold toElAll at h
  split at h
  · rename_i y e
    cases h
    obtain ⟨c, d, rfl, k, t⟩ := toEl_rep e hc
    cases t
    simpa using k
  · cases h

end Go.Proofs.Ytmjbjlhjpdebjaa.Mini
