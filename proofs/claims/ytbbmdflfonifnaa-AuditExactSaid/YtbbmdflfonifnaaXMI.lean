/- A small machine over plain data: regions, in whatever order they draw. -/
import Derived.Test.YtbbmdflfonifnaaXMH
namespace Go.Proofs.Ytbbmdflfonifnaa.Mini
open Go Go.RowKit

section
variable {E : Env} {w0 : Start} {M0 av : Nat → Prop} {C C0 : Ctx} {a : Act} {s s' : St} {ops : Array Oper} {base i : Nat} {o : Oper}

theorem Sim.put {d : Option Tmp} {x : AV} {v : Value} {ch : Chg} {av' : Nat → Prop} {C' : Ctx} (h : Sim C0 w0 M0 av s a C) (hd : dstOk s d = true) (ht : C'.tab = chg C.tab ch) (he : Ext C C') (hk : TabOk w0 M0 av' C') (hv : Rel C' v x) :
    Sim C0 w0 M0 av' { s.put d x with tab := chg s.tab ch } (a.put d v) C' := by
  refine ⟨?_, fun t => ?_, by rw [ht, h.tab], hk, h.ext.trans he, ?_⟩
  · cases d with
    | none => exact h.n
    | some d =>
      show (a.tmps.setIfInBounds d v).size = s.n
      rw [Array.size_setIfInBounds]
      exact h.n
  · cases d with
    | none => exact (h.tm t).ext he
    | some d =>
      have hlt : d < a.tmps.size := by
        rw [h.n]
        simpa [dstOk, Nat.blt_eq] using hd
      show Rel C' ((a.tmps.setIfInBounds d v).getD t undef) (upd s.tm d x t)
      by_cases htd : t = d
      · subst htd
        rw [upd_same]
        have : (a.tmps.setIfInBounds t v).getD t undef = v := by simp [hlt]
        rw [this]
        exact hv
      · rw [upd_ne _ _ htd]
        have : (a.tmps.setIfInBounds d v).getD t undef = a.tmps.getD t undef := by
          simp [Array.getElem?_setIfInBounds_ne (Ne.symm htd)]
        rw [this]
        exact (h.tm t).ext he
  · cases d <;> exact h.defers

theorem Sim.weak {av' : Nat → Prop} (h : Sim C0 w0 M0 av s a C) (ha : ∀ id, av' id → av id) : Sim C0 w0 M0 av' s a C := ⟨h.n, h.tm, h.tab, h.ok.weak ha, h.ext, h.defers⟩

theorem Sim.put_undef {d : Option Tmp} (h : Sim C0 w0 M0 av s a C) (hd : dstOk s d = true) : Sim C0 w0 M0 av (s.put d (.tup [])) (a.put d undef) C := by
  have := h.put (ch := []) hd rfl (Ext.refl C) h.ok (.tup .nil : Rel C undef (.tup []))
  have hs : ({ s.put d (.tup []) with tab := chg s.tab [] } : St) = s.put d (.tup []) := st_ext (by rfl) (fun _ => by rfl) (fun _ => by rw [put_tab]; rfl) (by rfl)
  rw [hs] at this
  exact this

theorem vwOf_sub {draw : Bool} {op : Op} (h : Sim C0 w0 M0 av s a C) : Sub (vwOf E draw op ops base i s.tab) C.tab := by
  intro id x hx
  rw [h.tab]
  unfold vwOf at hx
  cases draw with
  | false => exact hx
  | true =>
    cases ht : touches E op with
    | false => rw [ht] at hx; cases hx
    | true =>
      rw [ht] at hx
      simp only [cond_true] at hx
      have hview : ∀ {x : Blk}, view ops base i s.tab id = some x → s.tab id = some x := fun {x} hx => by
        unfold view at hx
        cases hb : (Nat.blt id base || (mask ops i).testBit ((id - base) / room)) with
        | false => rw [hb] at hx; cases hx
        | true => rw [hb] at hx; exact hx
      cases hp : peeks E ops i op with
      | false =>
        rw [hp] at hx
        exact hview hx
      | true =>
        rw [hp] at hx
        simp only [cond_true] at hx
        unfold cellsOnly at hx
        split at hx
        · rename_i T l hv
          cases hx
          exact hview hv
        · cases hx

/-- The block of fresh ids of operation i. -/
def inBlk (base i id : Nat) : Prop := base + room * i ≤ id ∧ id < base + room * i + room

theorem step_op {draw : Bool} (hE : EnvOk E) (h : Sim C0 w0 M0 av s a C) (hav : ∀ id, inBlk base i id → av id) (g : StepOp E draw ops base i o s s') {next : Act → World → Prop} {Q : Exit → Act → World → Prop}
    (hn : ∀ a' C', Sim C0 w0 M0 (fun id => av id ∧ ¬ inBlk base i id) s' a' C' → next a' C'.w) : o.wp E.P a C.w next Q := by
  obtain ⟨⟨e, out, h1, h2, _, rfl⟩, hd⟩ := g
  exact op_done hE h (vwOf_sub h) (fun c hc => hav _ ⟨Nat.le_add_right .., Nat.add_lt_add_left hc _⟩) h1 h2 next Q fun v C' k1 k2 k3 k4 => hn _ _ (h.put hd k1 k2 k3 k4)

theorem Sim.bool (h : Sim C0 w0 M0 av s a C) {d : Tmp} {b : Bool} (hd : s.tm d = .bool b) : a.tmps[d]? = some (.bool b) := by
  have := h.tm d
  rw [hd] at this
  have hv := rel_bool this
  cases hg : a.tmps[d]? with
  | none => simp [hg, undef] at hv
  | some v =>
    simp [hg] at hv
    rw [hv]

theorem Sim.unset (h : Sim C0 w0 M0 av s a C) {d : Tmp} (hd : s.tm d = .tup []) (b : Bool) : a.tmps[d]? ≠ some (.bool b) := by
  intro hg
  have := h.tm d
  rw [hd] at this
  have he : a.tmps.getD d undef = .bool b := by simp [hg]
  rw [he] at this
  cases this

theorem wanted_yes {j d : Nat} {want : Bool} (h : Sim C0 w0 M0 av s a C) (hg : o.guard = some (j, want)) (hd : (ops[j]?).bind (·.dst) = some d) (ht : s.tm d = .bool want) : Region.wanted o (yielded ops a.tmps) = true := by
  unfold Region.wanted yielded
  rw [hg]
  simp only [hd, Option.bind_some, h.bool ht]
  cases want <;> rfl

theorem wanted_no {j d : Nat} {want : Bool} (h : Sim C0 w0 M0 av s a C) (hg : o.guard = some (j, want)) (hd : (ops[j]?).bind (·.dst) = some d) (ht : s.tm d = .bool (!want) ∨ s.tm d = .tup []) : Region.wanted o (yielded ops a.tmps) = false := by
  unfold Region.wanted yielded
  rw [hg]
  simp only [hd, Option.bind_some]
  rcases ht with ht | ht
  · rw [h.bool ht]
    cases want <;> rfl
  · have := h.unset ht
    cases hv : a.tmps[d]? with
    | none => rfl
    | some v =>
      cases v <;> first | rfl | exact absurd hv (this _)

theorem gstep_wp {draw : Bool} (hE : EnvOk E) (h : Sim C0 w0 M0 av s a C) (hav : ∀ id, inBlk base i id → av id) (ho : ops[i]? = some o) (g : GStep E draw ops base i o s s') {next : Act → World → Prop} {Q : Exit → Act → World → Prop}
    (hn : ∀ a' C', Sim C0 w0 M0 (fun id => av id ∧ ¬ inBlk base i id) s' a' C' → next a' C'.w) : wpOp E.P ops Q i next a C.w := by
  unfold wpOp
  rw [ho]
  simp only []
  cases g with
  | plain hg g =>
    rw [if_pos (by unfold Region.wanted; rw [hg])]
    exact .inl (step_op hE h hav g hn)
  | yes hg hd ht g =>
    rw [if_pos (wanted_yes h hg hd ht)]
    exact .inl (step_op hE h hav g hn)
  | no hg hd ht hk hs =>
    rw [if_neg (by rw [wanted_no h hg hd (.inl ht)]; simp), ]
    subst hs
    exact hn _ _ ((h.put_undef hk).weak fun _ h => h.1)
  | skip hg hd ht hk hs =>
    rw [if_neg (by rw [wanted_no h hg hd (.inr ht)]; simp), ]
    subst hs
    exact hn _ _ ((h.put_undef hk).weak fun _ h => h.1)

theorem GStep.nx {draw : Bool} (g : GStep E draw ops base i o s s') : s'.nx = s.nx := by
  obtain ⟨v, ch, _, _, rfl⟩ := g.eff
  exact put_nx

theorem Chain.nx {l : List Nat} (h : Chain E ops base l s s') : s'.nx = s.nx := by
  induction h with
  | nil => rfl
  | cons _ g _ ih => rw [ih, g.nx]

theorem inBlk_uniq {j id : Nat} (h : inBlk base i id) (k : inBlk base j id) : i = j := by
  unfold inBlk room at *
  omega

/-- What has been drawn yet. -/
structure Drawn (ops : Array Oper) (listed : Array Bool) (l : List Nat) : Prop where
  size : listed.size = ops.size
  mem : ∀ i, i ∈ l ↔ listed[i]? = some false
  sorted : l.Pairwise (· < ·)
  closed : ∀ k j, listed.getD k false = true → (mask ops k).testBit j = true → listed.getD j false = true

theorem draw_wp (hE : EnvOk E) (hD : DrawOk E ops) {Q : Exit → Act → World → Prop} {more : Nat → Prop} (hm : ∀ id, more id → ∀ i, i < ops.size → ¬ inBlk base i id)
    (hQ : ∀ a C, Sim C0 w0 M0 more s' a C → Q .normal a C.w) :
    ∀ (fuel : Nat) (l : List Nat) (listed : Array Bool) (s : St) (a : Act) (C : Ctx), l.length ≤ fuel → Drawn ops listed l → Chain E ops base l s s' → Sim C0 w0 M0 (fun id => more id ∨ ∃ j ∈ l, inBlk base j id) s a C →
      wpAny E.P .any ops Q fuel listed a C.w := by
  have fin : ∀ (listed : Array Bool) (s : St) (a : Act) (C : Ctx), Drawn ops listed [] → Chain E ops base [] s s' → Sim C0 w0 M0 (fun id => more id ∨ ∃ j ∈ [], inBlk base j id) s a C → Region.ready .any ops listed = [] ∧ Q .normal a C.w := by
    intro listed s a C d c h
    refine ⟨?_, ?_⟩
    · refine List.eq_nil_iff_forall_not_mem.2 fun j hj => ?_
      obtain ⟨h0, o, ho, _⟩ := mem_ready.1 hj
      have hlt : j < ops.size := (Array.getElem?_eq_some_iff.1 ho).1
      have : j ∈ ([] : List Nat) := (d.mem j).2 (by
        have hl : j < listed.size := by rw [d.size]; exact hlt
        simp [hl] at h0
        simp [hl, h0])
      cases this
    · cases c
      exact hQ a C (h.weak fun id h => .inl h)
  intro fuel
  induction fuel with
  | zero =>
    intro l listed s a C hl d c h
    have : l = [] := List.length_eq_zero_iff.1 (by omega)
    subst this
    exact fin listed s a C d c h
  | succ fuel ih =>
    intro l listed s a C hl d c h
    have hready : ∀ i ∈ Region.ready .any ops listed, i ∈ l ∧ ∃ o, ops[i]? = some o ∧ ∀ e ∈ o.after.toList, Region.binds .any e = true → listed.getD e.on false = true := fun i hi => by
      obtain ⟨h0, o, ho, h1⟩ := mem_ready.1 hi
      have hlt : i < ops.size := (Array.getElem?_eq_some_iff.1 ho).1
      refine ⟨(d.mem i).2 ?_, o, ho, fun e he => h1 e (by simpa using he)⟩
      have hl : i < listed.size := by rw [d.size]; exact hlt
      simp [hl] at h0
      simp [hl, h0]
    refine ⟨fun hr => ?_, fun i hi => ?_⟩
    · cases l with
      | nil => exact (fin listed s a C d c h).2
      | cons i l =>
        exfalso
        have hi : listed[i]? = some false := (d.mem i).1 (by simp)
        have hlt : i < ops.size := by
          rw [← d.size]
          exact (Array.getElem?_eq_some_iff.1 hi).1
        have : i ∈ Region.ready .any ops listed := by
          refine mem_ready.2 ⟨by simp [hi], ops[i], by simp [hlt], fun e he hb => ?_⟩
          have hlow := hD.lower i ops[i] (by simp [hlt]) e (by simpa using he) hb
          have hne : e.on ∉ i :: l := fun hm => by
            rcases List.mem_cons.1 hm with h | h
            · omega
            · have := (List.pairwise_cons.1 d.sorted).1 _ h
              omega
          have hs : e.on < listed.size := by rw [d.size]; omega
          cases hb' : listed[e.on] with
          | true => simp [hs, hb']
          | false => exact absurd ((d.mem e.on).2 (by simp [hs, hb'])) hne
        rw [hr] at this
        cases this
    · obtain ⟨hil, o, ho, hpre⟩ := hready i hi
      obtain ⟨l1, l2, rfl⟩ := List.append_of_mem hil
      have hsort := d.sorted
      have hlt1 : ∀ j ∈ l1, j < i := fun j hj => (List.pairwise_append.1 hsort).2.2 j hj i (by simp)
      have hlt2 : ∀ j ∈ l2, i < j := fun j hj => (List.pairwise_cons.1 (List.pairwise_append.1 hsort).2.1).1 j hj
      have hmaskl : ∀ j, (mask ops i).testBit j = true → listed.getD j false = true := fun j hj => by
        obtain ⟨o', ho', e, he, hb, hor⟩ := mask_spec hj
        rw [ho] at ho'
        cases ho'
        have := hpre e he hb
        rcases hor with rfl | hor
        · exact this
        · exact d.closed _ _ this hor
      have hun : ∀ j ∈ l1, (mask ops i).testBit j = false := fun j hj => by
        cases hb : (mask ops i).testBit j with
        | false => rfl
        | true =>
          have h1 := hmaskl j hb
          have h2 := (d.mem j).1 (by simp [hj])
          simp [h2] at h1
      obtain ⟨o', s1, ho', g, c'⟩ := chain_first hD c fun j hj => ⟨hlt1 j hj, hun j hj⟩
      have hi0 := (d.mem i).1 (by simp)
      have his : i < listed.size := (Array.getElem?_eq_some_iff.1 hi0).1
      refine gstep_wp hE h (fun id hid => .inr ⟨i, by simp, hid⟩) ho' g fun a' C' h' => ?_
      refine ih (l1 ++ l2) (listed.setIfInBounds i true) s1 a' C' (by simp at hl ⊢; omega) ⟨by simp [d.size], fun j => ?_, ?_, fun k j hk hj => ?_⟩ c' (h'.weak fun id hid => ?_)
      · by_cases hj : j = i
        · subst hj
          simp only [List.mem_append]
          constructor
          · rintro (hj | hj)
            · exact absurd (hlt1 j hj) (by omega)
            · exact absurd (hlt2 j hj) (by omega)
          · intro hj
            simp [his] at hj
        · rw [Array.getElem?_setIfInBounds_ne (Ne.symm hj), ← d.mem j]
          simp [hj]
      · exact hsort.sublist (List.Sublist.append_left (List.sublist_cons_self i l2) l1)
      · refine getD_set_true ?_
        by_cases hki : k = i
        · subst hki
          exact hmaskl j hj
        · rw [getD_set_ne false (Ne.symm hki)] at hk
          exact d.closed k j hk hj
      · rcases hid with hid | ⟨j, hj, hid⟩
        · refine ⟨.inl hid, hm id hid i (by rw [← d.size]; exact his)⟩
        · refine ⟨.inr ⟨j, ?_, hid⟩, fun k => ?_⟩
          · rcases List.mem_append.1 hj with h | h
            · exact List.mem_append.2 (.inl h)
            · exact List.mem_append.2 (.inr (by simp [h]))
          · have := inBlk_uniq k hid
            subst this
            rcases List.mem_append.1 hj with h | h
            · exact absurd (hlt1 _ h) (by omega)
            · exact absurd (hlt2 _ h) (by omega)

theorem Sim.setW (h : Sim C0 w0 M0 av s a C) {w : World} (hh : w.heap = C.w.heap) (ho : w.os = C.w.os) (ht : w.tape = C.w.tape) (hp : w.output = C.w.output) : Sim C0 w0 M0 av s a (C.setW w) :=
  ⟨h.n, fun t => (h.tm t).ext (Ext.sameHeap hh), h.tab, h.ok.sameHeap hh ho ht hp, h.ext.trans (Ext.sameHeap hh), h.defers⟩

/-- A region that draws. -/
theorem drawn_wp {R : Type} {inl : Inl R} (hE : EnvOk E) {id : Nat} (hd : drawB E ops = true) {more : Nat → Prop} (hmore : ∀ id, more id → id < s.nx) {K : St → Option R} {r : R}
    (hr : runOps E inl true ops s.nx 0 ops.toList { s with nx := s.nx + room * ops.size } K = some r) (h : Sim C0 w0 M0 (fun id => more id ∨ s.nx ≤ id) s a C) :
    (Code.region id ops true).wp E.P (fun ex a' w' => ∃ s' C', ex = .normal ∧ C'.w = w' ∧ Sim C0 w0 M0 (fun id => more id ∨ s'.nx ≤ id) s' a' C' ∧ s.nx ≤ s'.nx ∧ K s' = some r) a C.w := by
  obtain ⟨s', c, hk⟩ := runOps_chain ops.toList 0 _ (fun j => by simp) hr
  have hD := drawOk_of hd
  have hnx : s'.nx = s.nx + room * ops.size := c.nx
  refine wp_region_any hE.mixed ?_
  have h1 : Sim C0 w0 M0 (fun id => more id ∨ s.nx ≤ id) { s with nx := s.nx + room * ops.size } a (C.setW { C.w with drawn := C.w.drawn + 1 }) := by
    have := h.setW (w := { C.w with drawn := C.w.drawn + 1 }) rfl rfl rfl rfl
    exact ⟨this.n, this.tm, this.tab, this.ok, this.ext, this.defers⟩
  refine draw_wp (C0 := C0) (w0 := w0) (M0 := M0) (s' := s') (base := s.nx) (more := fun id => more id ∨ s'.nx ≤ id) hE hD (fun id hid i hi hb => ?_) (fun a C hS => ⟨s', C, rfl, rfl, hS, by omega, hk⟩) ops.size _ _ _ a _ (by simp) ⟨by simp, fun i => ?_, List.pairwise_lt_range', fun k j hk => ?_⟩ c (h1.weak fun id hid => ?_)
  · unfold inBlk room at hb
    unfold room at hnx
    rcases hid with hid | hid
    · have := hmore id hid
      omega
    · omega
  · rw [List.mem_range'_1, Array.length_toList, Array.getElem?_replicate]
    constructor
    · intro hi
      rw [if_pos (by omega)]
    · intro hi
      split at hi
      · omega
      · cases hi
  · rw [Array.getD_eq_getD_getElem?, Array.getElem?_replicate] at hk
    split at hk <;> cases hk
  · rcases hid with (hid | hid) | ⟨j, _, hid⟩
    · exact .inl hid
    · exact .inr (by omega)
    · exact .inr (by unfold inBlk at hid; omega)

end
end Go.Proofs.Ytbbmdflfonifnaa.Mini
