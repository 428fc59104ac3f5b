/- A small machine over plain data: what is kept where ways meet. -/
import Derived.Test.YtmjbjlhjpdebjaaXMI
namespace Go.Proofs.Ytmjbjlhjpdebjaa.Mini
open Go Go.RowKit

/-! ### Blocks get new names -/
def src (lo : Nat) (l : List Nat) (i : Nat) : Option Nat := bif Nat.blt i lo then some i else l[i - lo]?

def Ctx.ren (C : Ctx) (lo : Nat) (l : List Nat) : Ctx :=
  { C with io := fun i => (src lo l i).bind C.io, tab := fun i => (src lo l i).bind fun j => (C.tab j).map (renB lo l) }

theorem idx_spec : ∀ {l : List Nat} {i n : Nat}, idx l i = some n → l[n]? = some i
  | [], i, n, h => by cases h
  | x :: l, i, n, h => by
    unfold idx at h
    cases hb : Nat.beq x i with
    | true =>
      rw [hb] at h
      cases h
      rw [Nat.eq_of_beq_eq_true hb]
      rfl
    | false =>
      rw [hb] at h
      simp only [cond_false] at h
      split at h
      · rename_i m hm
        cases h
        rw [List.getElem?_cons_succ]
        exact idx_spec hm
      · cases h

theorem renId_src {lo : Nat} {l : List Nat} {i j : Nat} (h : renId lo l i = some j) : src lo l j = some i := by
  unfold renId at h
  cases hb : Nat.blt i lo with
  | true =>
    rw [hb] at h
    cases h
    unfold src
    rw [hb]
    rfl
  | false =>
    rw [hb] at h
    simp only [cond_false] at h
    split at h
    · rename_i n hn
      cases h
      unfold src
      have : Nat.blt (lo + n) lo = false := by
        cases hh : Nat.blt (lo + n) lo with
        | false => rfl
        | true =>
          rw [Nat.blt_eq] at hh
          omega
      rw [this]
      simp only [cond_false]
      rw [Nat.add_sub_cancel_left]
      exact idx_spec hn
    · cases h

structure RenOk (lo : Nat) (l : List Nat) : Prop where
  nodup : l.Nodup
  ge : ∀ i ∈ l, lo ≤ i

theorem RenOk.inj {lo : Nat} {l : List Nat} (h : RenOk lo l) {i j k : Nat} (hi : src lo l i = some k) (hj : src lo l j = some k) : i = j := by
  unfold src at hi hj
  cases bi : Nat.blt i lo with
  | true =>
    rw [bi] at hi
    cases hi
    cases bj : Nat.blt j lo with
    | true =>
      rw [bj] at hj
      cases hj
      rfl
    | false =>
      rw [bj] at hj
      have := h.ge _ (List.mem_of_getElem? hj)
      rw [Nat.blt_eq] at bi
      omega
  | false =>
    rw [bi] at hi
    cases bj : Nat.blt j lo with
    | true =>
      rw [bj] at hj
      cases hj
      have := h.ge _ (List.mem_of_getElem? hi)
      rw [Nat.blt_eq] at bj
      omega
    | false =>
      rw [bj] at hj
      simp only [cond_false] at hi hj
      have hl : i - lo < l.length := (List.getElem?_eq_some_iff.1 hi).1
      have := (List.getElem?_inj hl h.nodup).1 (hi.trans hj.symm)
      have h1 : ¬ i < lo := fun hh => by
        rw [← Nat.blt_eq, bi] at hh
        cases hh
      have h2 : ¬ j < lo := fun hh => by
        rw [← Nat.blt_eq, bj] at hh
        cases hh
      omega

theorem renB_mut {lo : Nat} {l : List Nat} (b : Blk) : (renB lo l b).isMut = b.isMut := by cases b <;> rfl
theorem renB_bor {lo : Nat} {l : List Nat} (b : Blk) : (renB lo l b).isBor = b.isBor := by cases b <;> rfl
theorem renB_row {lo : Nat} {l : List Nat} {b : Blk} {k : Kd} {T : TypeId} {xs : List (El k)} (h : RowLike b k T xs) : renB lo l b = b := by
  rcases h with ⟨o, rfl⟩ | rfl <;> rfl

theorem ren_tab {C : Ctx} {lo : Nat} {l : List Nat} {i : Nat} {blk : Blk} (h : (C.ren lo l).tab i = some blk) : ∃ j b, src lo l i = some j ∧ C.tab j = some b ∧ blk = renB lo l b := by
  change (src lo l i).bind _ = _ at h
  cases hs : src lo l i with
  | none => rw [hs] at h; cases h
  | some j =>
    rw [hs] at h
    change (C.tab j).map _ = _ at h
    cases hb : C.tab j with
    | none => rw [hb] at h; cases h
    | some b =>
      rw [hb] at h
      cases h
      exact ⟨j, b, rfl, hb, rfl⟩

theorem ren_io {C : Ctx} {lo : Nat} {l : List Nat} {i j : Nat} (h : src lo l i = some j) : (C.ren lo l).io i = C.io j := by
  show (src lo l i).bind C.io = _
  rw [h]
  rfl

theorem ren_ok {C : Ctx} {lo : Nat} {l : List Nat} {b : Nat} (h : C.ok b) : (C.ren lo l).ok b := by
  refine ⟨h.1, fun i p blk hio htab hm => ?_⟩
  obtain ⟨j, b', hs, hb, rfl⟩ := ren_tab htab
  rw [ren_io hs] at hio
  rw [renB_mut] at hm
  exact h.2 j p b' hio hb hm

theorem ren_reads {C : Ctx} {lo : Nat} {l : List Nat} : Reads C.w (C.ren lo l).w C.ok (C.ren lo l).ok := ⟨fun _ _ _ _ h _ => h, fun _ _ h => ren_ok h⟩

theorem SlRel.ren {C : Ctx} {lo : Nat} {l : List Nat} {v : Value} {id id' off : Nat} {len : Option Nat} (h : SlRel C v id off len) (hs : src lo l id' = some id) : SlRel (C.ren lo l) v id' off len := by
  obtain ⟨h1, A, n, c, rfl, h2⟩ := h
  refine ⟨by rw [ren_io hs]; exact h1, A, n, c, rfl, fun blk hb => ?_⟩
  obtain ⟨j, b, hj, hb', rfl⟩ := ren_tab hb
  rw [hs] at hj
  cases hj
  obtain ⟨k, T, xs, hr, h3, h4, h5, h6⟩ := h2 b hb'
  refine ⟨k, T, xs, by rw [renB_row hr]; exact hr, h3, h4, h5, ?_⟩
  rcases h6 with ⟨h6, h7⟩ | ⟨p, h6, h7⟩
  · exact .inl ⟨by rw [ren_io hs]; exact h6, h7⟩
  · exact .inr ⟨p, by rw [ren_io hs]; exact h6, h7⟩

theorem PtrRel.ren {C : Ctx} {lo : Nat} {l : List Nat} {v : Value} {id id' off : Nat} (h : PtrRel C v id off) (hs : src lo l id' = some id) : PtrRel (C.ren lo l) v id' off := by
  obtain ⟨h1, a, rfl, h2⟩ := h
  refine ⟨by rw [ren_io hs]; exact h1, a, rfl, fun blk hb => ?_⟩
  obtain ⟨j, b, hj, hb', rfl⟩ := ren_tab hb
  rw [hs] at hj
  cases hj
  obtain ⟨T, cs, p, rfl, h3, h4⟩ := h2 b hb'
  exact ⟨T, _, p, rfl, by rw [ren_io hs]; exact h3, h4⟩

theorem EptrRel.ren {C : Ctx} {lo : Nat} {l : List Nat} {v : Value} {id id' j off : Nat} (h : EptrRel C v id j off) (hs : src lo l id' = some id) : EptrRel (C.ren lo l) v id' j off := by
  obtain ⟨h1, a, rfl, h2⟩ := h
  refine ⟨by rw [ren_io hs]; exact h1, a, rfl, fun blk hb => ?_⟩
  obtain ⟨j', b, hj, hb', rfl⟩ := ren_tab hb
  rw [hs] at hj
  cases hj
  obtain ⟨k, T, xs, p, hr, h3, h4⟩ := h2 b hb'
  exact ⟨k, T, xs, p, by rw [renB_row hr]; exact hr, by rw [ren_io hs]; exact h3, h4⟩

theorem flat_ren {C : Ctx} {lo : Nat} {l : List Nat} {v : Value} {x : AV} (h : Rel C v x) (hf : x.flat = true) : Rel (C.ren lo l) v x := by
  cases h with
  | undef => exact .undef
  | int => exact .int
  | bool => exact .bool
  | str => exact .str
  | row h => exact .row (h.ext ren_reads)
  | nils => exact .nils
  | nilp => exact .nilp
  | _ => cases hf

theorem flats_ren {C : Ctx} {lo : Nat} {l : List Nat} : ∀ {vs : List Value} {xs : List AV}, RelL C vs xs → xs.all AV.flat = true → RelL (C.ren lo l) vs xs
  | _, _, .nil, _ => .nil
  | _, _, .cons h t, hf => by
    simp only [List.all_cons, Bool.and_eq_true] at hf
    exact .cons (flat_ren h hf.1) (flats_ren t hf.2)

theorem ren0_rel {C : Ctx} {lo : Nat} {l : List Nat} {v : Value} {x : AV} (h : Rel C v x) : Rel (C.ren lo l) v (ren0 lo l x) := by
  cases h with
  | undef => exact .undef
  | int => exact .int
  | bool => exact .bool
  | str => exact .str
  | row h => exact .row (h.ext ren_reads)
  | nils => exact .nils
  | nilp => exact .nilp
  | agg h => exact .undef
  | own h =>
    simp only [ren0]
    split
    · rename_i hr
      exact .own (h.ren (renId_src hr))
    · exact .undef
  | sl h =>
    simp only [ren0]
    split
    · rename_i hr
      exact .sl (h.ren (renId_src hr))
    · exact .undef
  | ptr h =>
    simp only [ren0]
    split
    · rename_i hr
      exact .ptr (h.ren (renId_src hr))
    · exact .undef
  | eptr h =>
    simp only [ren0]
    split
    · rename_i hr
      exact .eptr (h.ren (renId_src hr))
    · exact .undef
  | iptr hs ho hh h =>
    simp only [ren0]
    rename_i l' _ _ _
    cases hb : l'.all AV.flat with
    | true => exact .iptr hs (ren_ok ho) hh (flats_ren h hb)
    | false => exact .undef
  | tup h =>
    rename_i cs l'
    cases h' : l' with
    | nil =>
      subst h'
      refine .tup ?_
      have := h.length
      generalize cs.toList = y at h
      cases h
      exact .nil
    | cons => exact .undef
  | fn h =>
    rename_i cs l'
    cases h' : l' with
    | nil =>
      subst h'
      refine .fn ?_
      generalize cs.toList = y at h
      cases h
      exact .nil
    | cons => exact .undef
  | yld => exact .yld

theorem ren0s_rel {C : Ctx} {lo : Nat} {l : List Nat} : ∀ {vs : List Value} {xs : List AV}, RelL C vs xs → RelL (C.ren lo l) vs (xs.map (ren0 lo l))
  | _, _, .nil => .nil
  | _, _, .cons h t => .cons (ren0_rel h) (ren0s_rel t)

theorem ren1_rel {C : Ctx} {lo : Nat} {l : List Nat} {v : Value} {x : AV} (h : Rel C v x) : Rel (C.ren lo l) v (ren1 lo l x) := by
  cases h with
  | agg h => exact .agg (ren0s_rel h)
  | tup h => exact .tup (ren0s_rel h)
  | fn h => exact .fn (ren0s_rel h)
  | yld => exact .yld
  | undef => exact .undef
  | int => exact .int
  | bool => exact .bool
  | str => exact .str
  | row h => exact ren0_rel (.row h)
  | nils => exact .nils
  | nilp => exact .nilp
  | own h => exact ren0_rel (.own h)
  | sl h => exact ren0_rel (.sl h)
  | ptr h => exact ren0_rel (.ptr h)
  | eptr h => exact ren0_rel (.eptr h)
  | iptr hs ho hh h => exact ren0_rel (.iptr hs ho hh h)

theorem ren1s_rel {C : Ctx} {lo : Nat} {l : List Nat} : ∀ {vs : List Value} {xs : List AV}, RelL C vs xs → RelL (C.ren lo l) vs (xs.map (ren1 lo l))
  | _, _, .nil => .nil
  | _, _, .cons h t => .cons (ren1_rel h) (ren1s_rel t)

theorem RowAt.ren {C : Ctx} {lo : Nat} {l : List Nat} {k : Kd} {T : TypeId} {xs : List (El k)} {p : Option Pl} (h : RowAt C k T xs p) : RowAt (C.ren lo l) k T xs p := by
  rcases h with h | ⟨q, hq, cs, hh, h⟩
  · exact .inl h
  · exact .inr ⟨q, hq, cs, hh, fun j x hx => ⟨(h j x hx).1, (h j x hx).2.ext ren_reads⟩⟩

theorem BlkRel.ren {C : Ctx} {lo : Nat} {l : List Nat} {p : Option Pl} {b : Blk} (h : BlkRel C p b) : BlkRel (C.ren lo l) p (renB lo l b) := by
  cases b with
  | row o k T xs => exact RowAt.ren h
  | fro k T xs => exact RowAt.ren h
  | cells T vs =>
    obtain ⟨q, hq, h0, cs, hh, hl⟩ := h
    exact ⟨q, hq, h0, cs, hh, ren1s_rel hl⟩

theorem TabOk.ren {w0 : Start} {M0 more : Nat → Prop} {C : Ctx} {lo : Nat} {l : List Nat} {nx : Nat} (t : TabOk w0 M0 (fun id => more id ∨ nx ≤ id) C) (hl : RenOk lo l) (hm : ∀ id, more id → id < lo) :
    TabOk w0 M0 (fun id => more id ∨ lo + l.length ≤ id) (C.ren lo l) := by
  refine ⟨fun i blk h => ?_, fun i i' p p' b b' e e' h h' hp => ?_, fun i p blk h hp hmut => ?_, fun i hi => ?_, t.fr, fun i p blk h hp hbor => ?_, t.bf, t.bq⟩
  · obtain ⟨j, b, hs, hb, rfl⟩ := ren_tab h
    obtain ⟨p, hp, hr⟩ := t.bl j b hb
    exact ⟨p, by rw [ren_io hs]; exact hp, hr.ren⟩
  · obtain ⟨j, b1, hs, hb, rfl⟩ := ren_tab e
    obtain ⟨j', b1', hs', hb', rfl⟩ := ren_tab e'
    rw [ren_io hs] at h
    rw [ren_io hs'] at h'
    have := t.inj j j' p p' b1 b1' hb hb' h h' hp
    subst this
    exact hl.inj hs hs'
  · obtain ⟨j, b, hs, hb, rfl⟩ := ren_tab h
    rw [ren_io hs] at hp
    rw [renB_mut] at hmut
    exact t.mb j p b hb hp hmut
  · show (src lo l i).bind C.io = none
    unfold src
    rcases hi with hi | hi
    · have : Nat.blt i lo = true := by
        rw [Nat.blt_eq]
        exact hm i hi
      rw [this]
      exact t.av i (.inl hi)
    · have : Nat.blt i lo = false := by
        cases hb : Nat.blt i lo with
        | false => rfl
        | true =>
          rw [Nat.blt_eq] at hb
          omega
      rw [this]
      simp only [cond_false]
      rw [List.getElem?_eq_none (by omega)]
      rfl
  · obtain ⟨j, b, hs, hb, rfl⟩ := ren_tab h
    rw [ren_io hs] at hp
    rw [renB_bor] at hbor
    exact t.bs j p b hb hp hbor

theorem renB_compat {lo : Nat} {l : List Nat} {a b : Blk} (h : Compat a b) : Compat a (renB lo l b) := by
  cases b with
  | row => exact h
  | fro => exact h
  | cells T vs =>
    obtain ⟨l', h1, h2⟩ := h
    exact ⟨l', h1, by rw [h2, List.length_map]⟩

theorem Ext.ren {C0 C : Ctx} {lo : Nat} {l : List Nat} (h : Ext C0 C) (h0 : ∀ id, lo ≤ id → C0.io id = none) : Ext C0 (C.ren lo l) := by
  have hs : ∀ id, C0.io id ≠ none → src lo l id = some id := fun id hid => by
    unfold src
    have : Nat.blt id lo = true := by
      rw [Nat.blt_eq]
      rcases Nat.lt_or_ge id lo with k | k
      · exact k
      · exact absurd (h0 id k) hid
    rw [this]
    rfl
  refine ⟨fun id p e => ?_, fun id blk' hne e => ?_, h.okh, fun id p blk' e ht => ?_, fun b hb ho => ren_ok (h.ok b hb ho), h.size, h.yl⟩
  · rw [ren_io (hs id (by rw [e]; simp))]
    exact h.io id p e
  · obtain ⟨j, b, hj, hb, rfl⟩ := ren_tab e
    rw [hs id hne] at hj
    cases hj
    obtain ⟨blk, h1, h2⟩ := h.tab id b hne hb
    exact ⟨blk, h1, renB_compat h2⟩
  · obtain ⟨j, b, hj, hb, rfl⟩ := ren_tab ht
    rw [hs id (by rw [e]; simp)] at hj
    cases hj
    exact h.liv id p b e hb

/-! ### What is kept -/
structure Good (C0 : Ctx) (w0 : Start) (M0 more : Nat → Prop) (lo : Nat) (s : St) (a : Act) (C : Ctx) : Prop where
  sim : Sim C0 w0 M0 (fun id => more id ∨ s.nx ≤ id) s a C
  lo : lo ≤ s.nx

/-- What holds throughout. -/
structure Base (C0 : Ctx) (more : Nat → Prop) (lo : Nat) : Prop where
  more : ∀ id, more id → id < lo
  io : ∀ id, lo ≤ id → C0.io id = none

section
variable {C0 : Ctx} {w0 : Start} {M0 more : Nat → Prop} {lo : Nat} {s : St} {a : Act} {C : Ctx}

/-- The places of what may be written. -/
def MutOf (C : Ctx) (b : Nat) : Prop := ∃ id p blk, C.tab id = some blk ∧ C.io id = some (some p) ∧ blk.isMut = true ∧ p.b = b

theorem ok_iff {C : Ctx} {b : Nat} : C.ok b ↔ C.base b ∧ ¬ MutOf C b :=
  ⟨fun h => ⟨h.1, fun ⟨id, p, blk, h1, h2, h3, h4⟩ => h.2 id p blk h2 h1 h3 h4⟩, fun h => ⟨h.1, fun id p blk h1 h2 h3 h4 => h.2 ⟨id, p, blk, h2, h1, h3, h4⟩⟩⟩

/-- The same memory, told otherwise. -/
structure Turned (C C' : Ctx) : Prop where
  w : C'.w = C.w
  mu : ∀ b, MutOf C' b → MutOf C b

theorem Turned.refl (C : Ctx) : Turned C C := ⟨rfl, fun _ h => h⟩
theorem Turned.trans {A B C : Ctx} (h : Turned A B) (k : Turned B C) : Turned A C := ⟨k.w.trans h.w, fun b hb => h.mu b (k.mu b hb)⟩
theorem Turned.newNil {C : Ctx} (id : Nat) (k : Kd) (T : TypeId) : Turned C (C.newNil id k T) := ⟨rfl, fun b ⟨i, p, blk, h1, h2, h3, h4⟩ => by
  change upd C.tab id _ i = _ at h1
  change upd C.io id _ i = _ at h2
  by_cases hi : i = id
  · subst hi
    rw [upd_same] at h2
    cases h2
  · rw [upd_ne _ _ hi] at h1 h2
    exact ⟨i, p, blk, h1, h2, h3, h4⟩⟩
theorem Turned.fade {C : Ctx} {tab : Tab} (h : Fade C.tab tab) : Turned C (C.setT tab) := ⟨rfl, fun b ⟨i, p, blk, h1, h2, h3, h4⟩ => by
  change tab i = _ at h1
  rcases h i with k | k | ⟨kk, T, xs, k1, k2⟩
  · exact ⟨i, p, blk, k ▸ h1, h2, h3, h4⟩
  · rw [k] at h1
    cases h1
  · rw [k2] at h1
    cases h1
    cases h3⟩
theorem Turned.recell {C : Ctx} {id : Nat} {T : TypeId} {l l' : List AV} (e : C.tab id = some (.cells T l)) : Turned C (C.setT (upd C.tab id (some (.cells T l')))) := ⟨rfl, fun b ⟨i, p, blk, h1, h2, h3, h4⟩ => by
  change upd C.tab id _ i = _ at h1
  by_cases hi : i = id
  · subst hi
    exact ⟨i, p, _, e, h2, rfl, h4⟩
  · rw [upd_ne _ _ hi] at h1
    exact ⟨i, p, blk, h1, h2, h3, h4⟩⟩
theorem Turned.ren {C : Ctx} {lo : Nat} {l : List Nat} : Turned C (C.ren lo l) := ⟨rfl, fun b ⟨i, p, blk, h1, h2, h3, h4⟩ => by
  obtain ⟨j, b', hj, hb, rfl⟩ := ren_tab h1
  rw [ren_io hj] at h2
  exact ⟨j, p, b', hb, h2, by rw [renB_mut] at h3; exact h3, h4⟩⟩

theorem matOne_good (hB : Base C0 more lo) (h : Good C0 w0 M0 more lo s a C) (p : Tmp × Kd × TypeId) : ∃ C', Turned C C' ∧ Good C0 w0 M0 more lo (matOne s p) a C' := by
  unfold matOne
  split
  · rename_i hn
    have hio := h.sim.ok.av s.nx (.inr (Nat.le_refl _))
    have he := Ext.newNil (C := C) hio p.2.1 p.2.2
    refine ⟨C.newNil s.nx p.2.1 p.2.2, .newNil .., ⟨h.sim.n, fun t => ?_, ?_, (h.sim.ok.newNil hio _ _).weak fun id hid => ?_, h.sim.ext.trans he, h.sim.defers⟩, Nat.le_succ_of_le h.lo⟩
    · show Rel _ _ (upd s.tm p.1 _ t)
      by_cases ht : t = p.1
      · subst ht
        rw [upd_same]
        have := h.sim.tm p.1
        rw [hn] at this
        generalize a.tmps.getD p.1 undef = v at this
        cases this
        refine .own ⟨?_, _, _, _, rfl, fun blk hb => ?_⟩
        · show upd C.io s.nx _ s.nx ≠ none
          rw [upd_same]
          simp
        · change upd C.tab s.nx _ s.nx = _ at hb
          rw [upd_same] at hb
          cases hb
          exact ⟨_, _, _, .inl ⟨_, rfl⟩, rfl, Nat.le_refl _, Nat.le_refl _, .inl ⟨upd_same .., rfl⟩⟩
      · rw [upd_ne _ _ ht]
        exact (h.sim.tm t).ext he
    · show upd C.tab _ _ = upd s.tab _ _
      rw [h.sim.tab]
    · rcases hid with hid | hid
      · have h1 := hB.more id hid
        have h2 := h.lo
        exact ⟨.inl hid, by omega⟩
      · have : s.nx + 1 ≤ id := hid
        exact ⟨.inr (by omega), by omega⟩
  · exact ⟨C, .refl C, h⟩

theorem frz1_get {tab : Tab} {v : AV} {c : Chg} (h : frz1 tab v = some c) : ∀ p ∈ c, chg tab c p.1 = p.2 := by
  have key : ∀ id, (match tab id with | some (.row true k T xs) => some [(id, some (Blk.fro k T xs))] | some (.fro _ _ _) => some [] | _ => none) = some c → ∀ p ∈ c, chg tab c p.1 = p.2 := by
    intro id h
    split at h
    · cases h
      intro p hp
      simp only [List.mem_singleton] at hp
      subst hp
      exact upd_same ..
    · cases h
      intro p hp
      cases hp
    · cases h
  cases v <;> first | exact key _ h | (simp [frz1] at h; subst h; intro p hp; cases hp)

theorem froOne_good (h : Good C0 w0 M0 more lo s a C) (t : Tmp) : ∃ C', Turned C C' ∧ Good C0 w0 M0 more lo (froOne s t) a C' := by
  unfold froOne
  split
  · rename_i c hc
    have hf : Fade C.tab (chg C.tab c) := by
      rw [h.sim.tab]
      exact frz1_fade hc
    have he := hf.ext
    have hk := h.sim.ok.fade hf
    refine ⟨C.setT (chg C.tab c), .fade hf, ⟨h.sim.n, fun u => ?_, ?_, hk, h.sim.ext.trans he, h.sim.defers⟩, h.lo⟩
    · show Rel _ _ (upd s.tm t _ u)
      by_cases hu : u = t
      · subst hu
        rw [upd_same]
        have h1 := snap_rel h.sim.ok (vw := s.tab) (by rw [h.sim.tab]; exact fun _ _ h => h) hk he (h.sim.tm u) hc (fun p hp => by
          show chg C.tab c p.1 = p.2
          rw [h.sim.tab]
          exact frz1_get hc p hp)
        split
        · rename_i hn
          rw [hn] at h1
          exact h1
        · exact h1
      · rw [upd_ne _ _ hu]
        exact (h.sim.tm u).ext he
    · show chg C.tab c = chg s.tab c
      rw [h.sim.tab]
  · exact ⟨C, .refl C, h⟩

theorem RelL.set {C : Ctx} : ∀ {vs : List Value} {xs : List AV} (i : Nat) (x : AV), RelL C vs xs → (∀ v, vs[i]? = some v → Rel C v x) → RelL C vs (xs.set i x)
  | _, _, _, _, .nil, _ => .nil
  | _, _, 0, x, .cons h t, hx => .cons (hx _ rfl) t
  | _, _, i + 1, x, .cons h t, hx => .cons h (t.set i x fun v hv => hx v (by simpa using hv))

/-- Other words for a block's cells. -/
theorem recell {w0 : Start} {M0 av : Nat → Prop} {C : Ctx} (t : TabOk w0 M0 av C) {id : Nat} {T : TypeId} {l l' : List AV} (e : C.tab id = some (.cells T l)) (hlen : l'.length = l.length)
    (h : ∀ p cs, C.io id = some (some p) → C.w.heap[p.b]? = some (.cells cs T (0, 0)) → RelL C cs.toList l → RelL C cs.toList l') : Ext C (C.setT (upd C.tab id (some (.cells T l')))) ∧ TabOk w0 M0 av (C.setT (upd C.tab id (some (.cells T l')))) := by
  have part : ∀ i b, upd C.tab id (some (.cells T l')) i = some b → ∃ b0, C.tab i = some b0 ∧ Compat b0 b ∧ b0.isMut = b.isMut ∧ b0.isBor = b.isBor := fun i b hb => by
    by_cases hi : i = id
    · subst hi
      rw [upd_same] at hb
      cases hb
      exact ⟨_, e, ⟨l, rfl, hlen.symm⟩, rfl, rfl⟩
    · rw [upd_ne _ _ hi] at hb
      exact ⟨b, hb, Compat.refl _, rfl, rfl⟩
  have he : Ext C (C.setT (upd C.tab id (some (.cells T l')))) := by
    refine ExtH.ext ⟨fun _ _ e => e, fun i b _ hb => ?_, fun b cs T fr e _ => ⟨cs, fr, e, rfl, fun _ => ⟨rfl, rfl⟩⟩, fun b _ ho => ⟨ho.1, fun i p blk e1 e2 hm => ?_⟩, Nat.le_refl _⟩ rfl
    · obtain ⟨b0, h0, h1, _⟩ := part i b hb
      exact ⟨b0, h0, h1⟩
    · obtain ⟨b0, h0, _, h2, _⟩ := part i blk e2
      exact ho.2 i p b0 e1 h0 (h2.trans hm)
  refine ⟨he, ⟨fun i b hb => ?_, fun i i' p p' b b' e1 e2 h1 h2 hp => ?_, fun i p b hb hp hm => ?_, t.av, t.fr, fun i p b hb hp hm => ?_, t.bf, t.bq⟩⟩
  · by_cases hi : i = id
    · subst hi
      change upd C.tab i _ i = _ at hb
      rw [upd_same] at hb
      cases hb
      obtain ⟨p, hp, q, hq, h0, cs, hh, hl⟩ := t.bl i _ e
      subst hq
      exact ⟨_, hp, q, rfl, h0, cs, hh, (h q cs hp hh hl).ext he⟩
    · change upd C.tab id _ i = _ at hb
      rw [upd_ne _ _ hi] at hb
      obtain ⟨p, hp, hr⟩ := t.bl i b hb
      exact ⟨p, hp, hr.ext he fun _ _ => rfl⟩
  · obtain ⟨c1, k1, _⟩ := part i b e1
    obtain ⟨c2, k2, _⟩ := part i' b' e2
    exact t.inj i i' p p' c1 c2 k1 k2 h1 h2 hp
  · obtain ⟨c1, k1, _, k2, _⟩ := part i b hb
    exact t.mb i p c1 k1 hp (k2.trans hm)
  · obtain ⟨c1, k1, _, _, k3⟩ := part i b hb
    exact t.bs i p c1 k1 hp (k3.trans hm)

theorem own_nil {C : Ctx} (id : Nat) (k : Kd) (T : TypeId) {v : Value} (h : Rel C v .nils) : Rel (C.newNil id k T) v (.own id) := by
  cases h
  refine .own ⟨?_, _, _, _, rfl, fun blk hb => ?_⟩
  · show upd C.io id _ id ≠ none
    rw [upd_same]
    simp
  · change upd C.tab id _ id = _ at hb
    rw [upd_same] at hb
    cases hb
    exact ⟨_, _, _, .inl ⟨_, rfl⟩, rfl, Nat.le_refl _, Nat.le_refl _, .inl ⟨upd_same .., rfl⟩⟩

theorem matcOne_good (hB : Base C0 more lo) (h : Good C0 w0 M0 more lo s a C) (p : Tmp × Nat × Kd × TypeId) : ∃ C', Turned C C' ∧ Good C0 w0 M0 more lo (matcOne s p) a C' := by
  have hio := h.sim.ok.av s.nx (.inr (Nat.le_refl _))
  have he := Ext.newNil (C := C) hio p.2.2.1 p.2.2.2
  have hk : TabOk w0 M0 (fun id => more id ∨ s.nx + 1 ≤ id) (C.newNil s.nx p.2.2.1 p.2.2.2) := (h.sim.ok.newNil hio _ _).weak fun id hid => by
    rcases hid with hid | hid
    · have h1 := hB.more id hid
      have h2 := h.lo
      exact ⟨.inl hid, by omega⟩
    · exact ⟨.inr (by omega), by omega⟩
  unfold matcOne
  split
  · rename_i id _ _
    split
    · rename_i T l ht
      split
      · rename_i hn
        have hne : id ≠ s.nx := fun hid => by
          subst hid
          have := h.sim.ok.tab_none hio
          rw [h.sim.tab, ht] at this
          cases this
        have e : (C.newNil s.nx p.2.2.1 p.2.2.2).tab id = some (.cells T l) := by
          show upd C.tab s.nx _ id = _
          rw [upd_ne _ _ hne, h.sim.tab]
          exact ht
        obtain ⟨x1, x2⟩ := recell hk (l' := l.set p.2.1 (.own s.nx)) e (List.length_set ..) fun _ cs _ _ hc => hc.set _ _ fun v hv => by
          obtain ⟨v', h1, h2⟩ := hc.get hn
          rw [h1] at hv
          cases hv
          cases h2
          exact own_nil s.nx p.2.2.1 p.2.2.2 (C := C) .nils
        refine ⟨_, ?_, ⟨h.sim.n, fun t => ((h.sim.tm t).ext he).ext x1, ?_, x2, (h.sim.ext.trans he).trans x1, h.sim.defers⟩, Nat.le_succ_of_le h.lo⟩
        · exact (Turned.newNil ..).trans (.recell e)
        · show upd (upd C.tab _ _) _ _ = upd (upd s.tab _ _) _ _
          rw [h.sim.tab]
      · exact ⟨C, .refl C, h⟩
    · exact ⟨C, .refl C, h⟩
  · rename_i l hl
    split
    · rename_i hn
      refine ⟨C.newNil s.nx p.2.2.1 p.2.2.2, .newNil .., ⟨h.sim.n, fun t => ?_, ?_, hk, h.sim.ext.trans he, h.sim.defers⟩, Nat.le_succ_of_le h.lo⟩
      · show Rel _ _ (upd s.tm p.1 _ t)
        by_cases ht : t = p.1
        · subst ht
          rw [upd_same]
          have := h.sim.tm p.1
          rw [hl] at this
          generalize a.tmps.getD p.1 undef = v at this
          cases this with
          | agg hc =>
            refine .agg ((hc.ext he).set _ _ fun v hv => ?_)
            obtain ⟨v', h1, h2⟩ := hc.get hn
            rw [h1] at hv
            cases hv
            exact own_nil _ _ _ h2
        · rw [upd_ne _ _ ht]
          exact (h.sim.tm t).ext he
      · show upd C.tab _ _ = upd s.tab _ _
        rw [h.sim.tab]
    · exact ⟨C, .refl C, h⟩
  · exact ⟨C, .refl C, h⟩

theorem frzd_rel {av : Nat → Prop} (t : TabOk w0 M0 av C) {vw : Tab} (hvw : vw = C.tab) {c : Chg} {v : Value} {x : AV} (hx : Rel C v x) (hc : frz1 vw x = some c) : Rel (C.setT (chg C.tab c)) v (frzd vw x) := by
  subst hvw
  have hf : Fade C.tab (chg C.tab c) := frz1_fade hc
  have h1 := snap_rel t (vw := C.tab) (fun _ _ h => h) (t.fade hf) hf.ext hx hc (fun p hp => frz1_get hc p hp)
  unfold frzd
  split
  · exact h1
  · exact h1

theorem frocOne_good (h : Good C0 w0 M0 more lo s a C) (p : Tmp × Nat) : ∃ C', Turned C C' ∧ Good C0 w0 M0 more lo (frocOne s p) a C' := by
  unfold frocOne
  split
  · rename_i id _ _
    split
    · rename_i T l ht
      split
      · rename_i v hv
        split
        · rename_i c hc
          cases hb : c.any (fun q => Nat.beq q.1 id) with
          | true => exact ⟨C, .refl C, h⟩
          | false =>
            have hf : Fade C.tab (chg C.tab c) := by
              rw [h.sim.tab]
              exact frz1_fade hc
            have he := hf.ext
            have hk := h.sim.ok.fade hf
            have e : (C.setT (chg C.tab c)).tab id = some (.cells T l) := by
              show chg C.tab c id = _
              rw [chg_other fun q hq e => ?_, h.sim.tab]
              · exact ht
              · have := List.any_eq_false.1 hb q hq
                rw [e, Nat.beq_refl] at this
                exact this rfl
            obtain ⟨x1, x2⟩ := recell hk (l' := l.set p.2 (frzd s.tab v)) e (List.length_set ..) fun p0 cs hp0 hh0 hcs => hcs.set _ _ fun u hu => by
              obtain ⟨p1, hp1, q1, hq1, _, cs1, hh1, hl1⟩ := h.sim.ok.bl id _ (by rw [h.sim.tab]; exact ht)
              subst hq1
              have hp0' : C.io id = some (some p0) := hp0
              rw [hp1] at hp0'
              cases hp0'
              have hh0' : C.w.heap[p0.b]? = _ := hh0
              rw [hh1] at hh0'
              cases hh0'
              obtain ⟨v', h1, h2⟩ := hl1.get hv
              rw [h1] at hu
              cases hu
              exact frzd_rel h.sim.ok h.sim.tab.symm h2 hc
            refine ⟨_, ?_, ⟨h.sim.n, fun t => ((h.sim.tm t).ext he).ext x1, ?_, x2, (h.sim.ext.trans he).trans x1, h.sim.defers⟩, h.lo⟩
            · exact (Turned.fade hf).trans (.recell e)
            · show upd (chg C.tab c) _ _ = upd (chg s.tab c) _ _
              rw [h.sim.tab]
        · exact ⟨C, .refl C, h⟩
      · exact ⟨C, .refl C, h⟩
    · exact ⟨C, .refl C, h⟩
  · rename_i l hl
    split
    · rename_i v hv
      split
      · rename_i c hc
        have hf : Fade C.tab (chg C.tab c) := by
          rw [h.sim.tab]
          exact frz1_fade hc
        have he := hf.ext
        have hk := h.sim.ok.fade hf
        refine ⟨C.setT (chg C.tab c), .fade hf, ⟨h.sim.n, fun u => ?_, ?_, hk, h.sim.ext.trans he, h.sim.defers⟩, h.lo⟩
        · show Rel _ _ (upd s.tm p.1 _ u)
          by_cases hu : u = p.1
          · subst hu
            rw [upd_same]
            have := h.sim.tm p.1
            rw [hl] at this
            generalize a.tmps.getD p.1 undef = v0 at this
            cases this with
            | agg hcs =>
              refine .agg ((hcs.ext he).set _ _ fun u hu => ?_)
              obtain ⟨v', h1, h2⟩ := hcs.get hv
              rw [h1] at hu
              cases hu
              exact frzd_rel h.sim.ok h.sim.tab.symm h2 hc
          · rw [upd_ne _ _ hu]
            exact (h.sim.tm u).ext he
        · show chg C.tab c = chg s.tab c
          rw [h.sim.tab]
      · exact ⟨C, .refl C, h⟩
    · exact ⟨C, .refl C, h⟩
  · exact ⟨C, .refl C, h⟩

theorem addNew_nodup : ∀ {l acc : List Nat}, acc.Nodup → (addNew acc l).Nodup
  | [], acc, h => h
  | x :: l, acc, h => by
    unfold addNew
    cases hb : acc.any (Nat.beq x) with
    | true => exact addNew_nodup h
    | false =>
      refine addNew_nodup ?_
      rw [List.nodup_append]
      refine ⟨h, by simp, fun y hy z hz e => ?_⟩
      simp only [List.mem_singleton] at hz
      subst e
      subst hz
      have : acc.any (Nat.beq y) = true := List.any_eq_true.2 ⟨y, hy, Nat.beq_refl y⟩
      rw [this] at hb
      cases hb

theorem reach_nodup {tab : Tab} : ∀ (f : Nat) {acc new : List Nat}, acc.Nodup → (reach tab f acc new).Nodup
  | 0, _, _, h => h
  | f + 1, _, _, h => reach_nodup f (addNew_nodup h)

theorem slots_map {f : Tmp → AV} {t : Tmp} : ∀ (l : List Tmp), slots (l.map fun t => (t, f t)) t = .undef ∨ slots (l.map fun t => (t, f t)) t = f t
  | [] => .inl rfl
  | d :: l => by
    show (bif Nat.beq t d then f d else slots (l.map fun t => (t, f t)) t) = .undef ∨ (bif Nat.beq t d then f d else slots (l.map fun t => (t, f t)) t) = f t
    cases hb : Nat.beq t d with
    | true =>
      rw [Nat.eq_of_beq_eq_true hb]
      exact .inr rfl
    | false => exact slots_map l

theorem blks_get : ∀ (l : List (Option Blk)) (i : Nat), blks l i = (l[i]?).bind id
  | [], i => rfl
  | b :: l, 0 => rfl
  | b :: l, i + 1 => by
    rw [List.getElem?_cons_succ]
    exact blks_get l i

theorem norm_good (hB : Base C0 more lo) (h : Good C0 w0 M0 more lo s a C) (an : Ann) : ∃ C', Turned C C' ∧ Good C0 w0 M0 more lo (norm lo an s) a C' := by
  have mats : ∀ (l : List (Tmp × Kd × TypeId)) (s : St) (C : Ctx), Good C0 w0 M0 more lo s a C → ∃ C', Turned C C' ∧ Good C0 w0 M0 more lo (l.foldl matOne s) a C' := by
    intro l
    induction l with
    | nil => exact fun s C h => ⟨C, .refl C, h⟩
    | cons p l ih =>
      intro s C h
      obtain ⟨C1, h1, g1⟩ := matOne_good hB h p
      obtain ⟨C2, h2, g2⟩ := ih _ _ g1
      exact ⟨C2, h1.trans h2, g2⟩
  have fros : ∀ (l : List Tmp) (s : St) (C : Ctx), Good C0 w0 M0 more lo s a C → ∃ C', Turned C C' ∧ Good C0 w0 M0 more lo (l.foldl froOne s) a C' := by
    intro l
    induction l with
    | nil => exact fun s C h => ⟨C, .refl C, h⟩
    | cons p l ih =>
      intro s C h
      obtain ⟨C1, h1, g1⟩ := froOne_good h p
      obtain ⟨C2, h2, g2⟩ := ih _ _ g1
      exact ⟨C2, h1.trans h2, g2⟩
  obtain ⟨C1, h1, g1⟩ := mats an.mat s C h
  obtain ⟨C2a, h2a, g2a⟩ := fros an.fro _ _ g1
  have matcs : ∀ (l : List (Tmp × Nat × Kd × TypeId)) (s : St) (C : Ctx), Good C0 w0 M0 more lo s a C → ∃ C', Turned C C' ∧ Good C0 w0 M0 more lo (l.foldl matcOne s) a C' := by
    intro l
    induction l with
    | nil => exact fun s C h => ⟨C, .refl C, h⟩
    | cons p l ih =>
      intro s C h
      obtain ⟨C1, h1, g1⟩ := matcOne_good hB h p
      obtain ⟨C2, h2, g2⟩ := ih _ _ g1
      exact ⟨C2, h1.trans h2, g2⟩
  have frocs : ∀ (l : List (Tmp × Nat)) (s : St) (C : Ctx), Good C0 w0 M0 more lo s a C → ∃ C', Turned C C' ∧ Good C0 w0 M0 more lo (l.foldl frocOne s) a C' := by
    intro l
    induction l with
    | nil => exact fun s C h => ⟨C, .refl C, h⟩
    | cons p l ih =>
      intro s C h
      obtain ⟨C1, h1, g1⟩ := frocOne_good h p
      obtain ⟨C2, h2, g2⟩ := ih _ _ g1
      exact ⟨C2, h1.trans h2, g2⟩
  obtain ⟨C2b, h2b, g2b⟩ := matcs an.matc _ _ g2a
  obtain ⟨C2, h2c, g2⟩ := frocs an.froc _ _ g2b
  have h2 : Turned C1 C2 := (h2a.trans h2b).trans h2c
  unfold norm
  simp only []
  generalize an.froc.foldl frocOne (an.matc.foldl matcOne (an.fro.foldl froOne (an.mat.foldl matOne s))) = s2 at g2
  have hl : RenOk lo ((reach s2.tab 4 [] (an.keep.flatMap fun t => (s2.tm t).refs1)).filter (Nat.ble lo)) := by
    refine ⟨(reach_nodup 4 List.nodup_nil).sublist List.filter_sublist, fun i hi => ?_⟩
    exact Nat.le_of_ble_eq_true (List.mem_filter.1 hi).2
  generalize (reach s2.tab 4 [] (an.keep.flatMap fun t => (s2.tm t).refs1)).filter (Nat.ble lo) = l at hl
  refine ⟨C2.ren lo l, (h1.trans h2).trans .ren, ⟨g2.sim.n, fun t => ?_, ?_, g2.sim.ok.ren hl hB.more, g2.sim.ext.ren hB.io, g2.sim.defers⟩, Nat.le_add_right ..⟩
  · show Rel _ _ (slots _ t)
    rcases slots_map (f := fun t => ren1 lo l (s2.tm t)) (t := t) an.keep with h | h
    · rw [h]
      exact .undef
    · rw [h]
      exact ren1_rel (g2.sim.tm t)
  · funext i
    show (src lo l i).bind (fun j => (C2.tab j).map (renB lo l)) = blks _ i
    rw [blks_get, g2.sim.tab]
    unfold src
    cases hb : Nat.blt i lo with
    | true =>
      rw [Nat.blt_eq] at hb
      rw [List.getElem?_append_left (by simpa using hb), List.getElem?_map, List.getElem?_range hb]
      rfl
    | false =>
      have hb : ¬ i < lo := fun h => by
        rw [← Nat.blt_eq, hb] at h
        cases h
      rw [List.getElem?_append_right (by simp; omega), List.getElem?_map, List.length_map, List.length_range]
      simp only [cond_false]
      cases l[i - lo]? <;> rfl

theorem normAt_good (hB : Base C0 more lo) (h : Good C0 w0 M0 more lo s a C) (A : Anns) (z : Bool) (c : Code) : ∃ C', Turned C C' ∧ Good C0 w0 M0 more lo (normAt lo A z c s) a C' := by
  unfold normAt
  split
  · split
    · exact norm_good hB h _
    · exact ⟨C, .refl C, h⟩
  · exact ⟨C, .refl C, h⟩

end
end Go.Proofs.Ytmjbjlhjpdebjaa.Mini
