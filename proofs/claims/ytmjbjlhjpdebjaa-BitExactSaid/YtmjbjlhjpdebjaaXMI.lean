/- A small machine over plain data: regions, in whatever order they draw. -/
import Derived.Test.YtmjbjlhjpdebjaaXMH
namespace Go.Proofs.Ytmjbjlhjpdebjaa.Mini
open Go Go.RowKit

section
variable {E : Env} {w0 : Start} {M0 av : Nat → Prop} {C C0 : Ctx} {a : Act} {s s' : St} {ops : Array Oper} {base i : Nat} {o : Oper}

theorem Sim.put {d : Option Tmp} {x : AV} {v : Value} {ch : Chg} {av' : Nat → Prop} {C' : Ctx} (h : Sim C0 w0 M0 av s a C) (hd : dstOk s d = true) (ht : C'.tab = chg C.tab ch) (he : Ext C C') (hk : TabOk w0 M0 av' C') (hv : Rel C' v x) :
    Sim C0 w0 M0 av' { s.put d x with tab := chg s.tab ch } (a.put d v) C' := by
  refine ⟨?_, fun t => ?_, by rw [ht, h.tab], hk, h.ext.trans he, ?_⟩
  · cases d with
    | none => exact h.n
    | some d =>
      show (a.tmps.setIfInBounds d v).size = s.n
      rw [Array.size_setIfInBounds]
      exact h.n
  · cases d with
    | none => exact (h.tm t).ext he
    | some d =>
      have hlt : d < a.tmps.size := by
        rw [h.n]
        simpa [dstOk, Nat.blt_eq] using hd
      show Rel C' ((a.tmps.setIfInBounds d v).getD t undef) (upd s.tm d x t)
      by_cases htd : t = d
      · subst htd
        rw [upd_same]
        have : (a.tmps.setIfInBounds t v).getD t undef = v := by simp [hlt]
        rw [this]
        exact hv
      · rw [upd_ne _ _ htd]
        have : (a.tmps.setIfInBounds d v).getD t undef = a.tmps.getD t undef := by
          simp [Array.getElem?_setIfInBounds_ne (Ne.symm htd)]
        rw [this]
        exact (h.tm t).ext he
  · cases d <;> exact h.defers

theorem Sim.weak {av' : Nat → Prop} (h : Sim C0 w0 M0 av s a C) (ha : ∀ id, av' id → av id) : Sim C0 w0 M0 av' s a C := ⟨h.n, h.tm, h.tab, h.ok.weak ha, h.ext, h.defers⟩

theorem Sim.put_undef {d : Option Tmp} (h : Sim C0 w0 M0 av s a C) (hd : dstOk s d = true) : Sim C0 w0 M0 av (s.put d (.tup [])) (a.put d undef) C := by
  have := h.put (ch := []) hd rfl (Ext.refl C) h.ok (.tup .nil : Rel C undef (.tup []))
  have hs : ({ s.put d (.tup []) with tab := chg s.tab [] } : St) = s.put d (.tup []) := st_ext (by rfl) (fun _ => by rfl) (fun _ => by rw [put_tab]; rfl) (by rfl)
  rw [hs] at this
  exact this

theorem vwOf_sub {draw : Bool} {op : Op} (h : Sim C0 w0 M0 av s a C) : Sub (vwOf E draw op ops base i s.tab) C.tab := by
  intro id x hx
  rw [h.tab]
  unfold vwOf at hx
  cases draw with
  | false => exact hx
  | true =>
    cases ht : touches E op with
    | false => rw [ht] at hx; cases hx
    | true =>
      rw [ht] at hx
      simp only [cond_true] at hx
      have hview : ∀ {x : Blk}, view ops base i s.tab id = some x → s.tab id = some x := fun {x} hx => by
        unfold view at hx
        cases hb : (Nat.blt id base || (mask ops i).testBit ((id - base) / room)) with
        | false => rw [hb] at hx; cases hx
        | true => rw [hb] at hx; exact hx
      cases hp : peeks E ops i op with
      | false =>
        rw [hp] at hx
        exact hview hx
      | true =>
        rw [hp] at hx
        simp only [cond_true] at hx
        unfold cellsOnly at hx
        split at hx
        · rename_i T l hv
          cases hx
          exact hview hv
        · cases hx

/-- The block of fresh ids of operation i. -/
def inBlk (base i id : Nat) : Prop := base + room * i ≤ id ∧ id < base + room * i + room

theorem aop_noDefer {r : Operand → AV} {tab : Tab} {fresh : Nat} {op : Op} {e : Eff} (h : aop E op r tab fresh = some e) : ∀ c, op ≠ .defer c := by
  rintro c rfl
  cases h

theorem step_op {ro : Option Nat} {draw : Bool} (hE : EnvOk E) (h : Sim C0 w0 M0 av s a C) (hav : ∀ id, inBlk base i id → av id) (g : StepOp E draw ops base i o s s') {next : Act → World → Prop} {Q : Exit → Act → World → Prop}
    (hn : ∀ a' C', Sim C0 w0 M0 (fun id => av id ∧ ¬ inBlk base i id) s' a' C' → next a' C'.w) : o.wpIn (fw ro) 0 E.P a C.w next Q := by
  obtain ⟨⟨e, out, h1, h2, _, rfl⟩, hd⟩ := g
  exact op_done hE h (vwOf_sub h) (fun c hc => hav _ ⟨Nat.le_add_right .., Nat.add_lt_add_left hc _⟩) h1 h2 ro next Q (aop_noDefer h1) fun v C' k1 k2 k3 k4 => hn _ _ (h.put hd k1 k2 k3 k4)

theorem Sim.bool (h : Sim C0 w0 M0 av s a C) {d : Tmp} {b : Bool} (hd : s.tm d = .bool b) : a.tmps[d]? = some (.bool b) := by
  have := h.tm d
  rw [hd] at this
  have hv := rel_bool this
  cases hg : a.tmps[d]? with
  | none => simp [hg, undef] at hv
  | some v =>
    simp [hg] at hv
    rw [hv]

theorem Sim.unset (h : Sim C0 w0 M0 av s a C) {d : Tmp} (hd : s.tm d = .tup []) (b : Bool) : a.tmps[d]? ≠ some (.bool b) := by
  intro hg
  have := h.tm d
  rw [hd] at this
  have he : a.tmps.getD d undef = .bool b := by simp [hg]
  rw [he] at this
  cases this

theorem wanted_yes {j d : Nat} {want : Bool} (h : Sim C0 w0 M0 av s a C) (hg : o.guard = some (j, want)) (hd : (ops[j]?).bind (·.dst) = some d) (ht : s.tm d = .bool want) : Region.wanted o (yielded ops a.tmps) = true := by
  unfold Region.wanted yielded
  rw [hg]
  simp only [hd, Option.bind_some, h.bool ht]
  cases want <;> rfl

theorem wanted_no {j d : Nat} {want : Bool} (h : Sim C0 w0 M0 av s a C) (hg : o.guard = some (j, want)) (hd : (ops[j]?).bind (·.dst) = some d) (ht : s.tm d = .bool (!want) ∨ s.tm d = .tup []) : Region.wanted o (yielded ops a.tmps) = false := by
  unfold Region.wanted yielded
  rw [hg]
  simp only [hd, Option.bind_some]
  rcases ht with ht | ht
  · rw [h.bool ht]
    cases want <;> rfl
  · have := h.unset ht
    cases hv : a.tmps[d]? with
    | none => rfl
    | some v =>
      cases v <;> first | rfl | exact absurd hv (this _)

theorem gstep_wp {ro : Option Nat} {draw : Bool} (hE : EnvOk E) (h : Sim C0 w0 M0 av s a C) (hav : ∀ id, inBlk base i id → av id) (ho : ops[i]? = some o) (g : GStep E draw ops base i o s s') {next : Act → World → Prop} {Q : Exit → Act → World → Prop}
    (hn : ∀ a' C', Sim C0 w0 M0 (fun id => av id ∧ ¬ inBlk base i id) s' a' C' → next a' C'.w) : wpOpIn (fw ro) 0 E.P ops Q i next a C.w := by
  unfold wpOpIn
  rw [ho]
  simp only []
  cases g with
  | plain hg g =>
    rw [if_pos (by unfold Region.wanted; rw [hg])]
    exact step_op hE h hav g hn
  | yes hg hd ht g =>
    rw [if_pos (wanted_yes h hg hd ht)]
    exact step_op hE h hav g hn
  | no hg hd ht hk hs =>
    rw [if_neg (by rw [wanted_no h hg hd (.inl ht)]; simp), ]
    subst hs
    exact ⟨fun _ _ => trivial, hn _ _ ((h.put_undef hk).weak fun _ h => h.1)⟩
  | skip hg hd ht hk hs =>
    rw [if_neg (by rw [wanted_no h hg hd (.inr ht)]; simp), ]
    subst hs
    exact ⟨fun _ _ => trivial, hn _ _ ((h.put_undef hk).weak fun _ h => h.1)⟩

theorem GStep.nx {draw : Bool} (g : GStep E draw ops base i o s s') : s'.nx = s.nx := by
  obtain ⟨v, ch, _, _, rfl⟩ := g.eff
  exact put_nx

theorem Chain.nx {l : List Nat} (h : Chain E ops base l s s') : s'.nx = s.nx := by
  induction h with
  | nil => rfl
  | cons _ g _ ih => rw [ih, g.nx]

theorem inBlk_uniq {j id : Nat} (h : inBlk base i id) (k : inBlk base j id) : i = j := by
  unfold inBlk room at *
  omega

/-- What has been drawn yet. -/
structure Drawn (ops : Array Oper) (listed : Array Bool) (l : List Nat) : Prop where
  size : listed.size = ops.size
  mem : ∀ i, i ∈ l ↔ listed[i]? = some false
  sorted : l.Pairwise (· < ·)
  closed : ∀ k j, listed.getD k false = true → (mask ops k).testBit j = true → listed.getD j false = true

theorem Sim.setW (h : Sim C0 w0 M0 av s a C) {w : World} (hh : w.heap = C.w.heap) (ho : w.os = C.w.os) (ht : w.tape = C.w.tape) (hp : w.output = C.w.output) : Sim C0 w0 M0 av s a (C.setW w) :=
  ⟨h.n, fun t => (h.tm t).ext (Ext.sameHeap hh), h.tab, h.ok.sameHeap hh ho ht hp, h.ext.trans (Ext.sameHeap hh), h.defers⟩

end
end Go.Proofs.Ytmjbjlhjpdebjaa.Mini
