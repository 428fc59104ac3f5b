/- A small machine over plain data: a region that draws its order does what it does in the text's order. -/
import Derived.Test.YtmjbjlhjpdebjaaXMG
namespace Go.Proofs.Ytmjbjlhjpdebjaa.Mini
open Go Go.RowKit

structure StepOp (E : Env) (draw : Bool) (ops : Array Oper) (base i : Nat) (o : Oper) (s s' : St) : Prop where
  ex : ∃ e out, aop E o.op s.val (vwOf E draw o.op ops base i s.tab) (base + room * i) = some e ∧ e.Res out ∧ fits E draw ops base i o.op (vwOf E draw o.op ops base i s.tab) out.ch = true ∧ s' = { s.put o.dst out.v with tab := chg s.tab out.ch }
  dst : dstOk s o.dst = true

inductive GStep (E : Env) (draw : Bool) (ops : Array Oper) (base i : Nat) (o : Oper) (s s' : St) : Prop where
  | plain (hg : o.guard = none) (h : StepOp E draw ops base i o s s')
  | yes {j d : Nat} {want : Bool} (hg : o.guard = some (j, want)) (hd : (ops[j]?).bind (·.dst) = some d) (ht : s.tm d = .bool want) (h : StepOp E draw ops base i o s s')
  | no {j d : Nat} {want : Bool} (hg : o.guard = some (j, want)) (hd : (ops[j]?).bind (·.dst) = some d) (ht : s.tm d = .bool (!want)) (hk : dstOk s o.dst = true) (h : s' = s.put o.dst (.tup []))
  | skip {j d : Nat} {want : Bool} (hg : o.guard = some (j, want)) (hd : (ops[j]?).bind (·.dst) = some d) (ht : s.tm d = .tup []) (hk : dstOk s o.dst = true) (h : s' = s.put o.dst (.tup []))

theorem run_res {R : Type} {e : Eff} {K : Out → Option R} {r : R} (h : e.run K = some r) : ∃ out, e.Res out ∧ K out = some r := by
  induction e with
  | out o => exact ⟨o, .out, h⟩
  | guard c d e ih =>
    unfold Eff.run at h
    split at h
    · rename_i hc
      obtain ⟨o, h1, h2⟩ := ih h
      exact ⟨o, .guard hc h1, h2⟩
    · cases h
  | bind T m f =>
    unfold Eff.run at h
    cases hm : m with
    | none => rw [hm] at h; cases h
    | some t =>
      rw [hm] at h
      exact ⟨f t, .bind rfl, h⟩

theorem upd_eq {s : St} {d : Nat} {b : Bool} (h : s.tm d = .bool b) : ({ s with tm := upd s.tm d (.bool b) } : St) = s := by
  cases s with
  | mk n tm tab nx =>
    have h' : tm d = .bool b := h
    rw [← h']
    simp only [upd_self]

/-- The operations one behind the other. -/
inductive Chain (E : Env) (ops : Array Oper) (base : Nat) : List Nat → St → St → Prop where
  | nil {s : St} : Chain E ops base [] s s
  | cons {i : Nat} {l : List Nat} {o : Oper} {s s1 s2 : St} (ho : ops[i]? = some o) (h : GStep E true ops base i o s s1) (t : Chain E ops base l s1 s2) : Chain E ops base (i :: l) s s2

theorem oneOp_draw {R : Type} {E : Env} {inl : Inl R} {ops : Array Oper} {base i : Nat} {o : Oper} {s : St} {K : St → Option R} {r : R} (h : oneOp E inl true ops base i o s K = some r) :
    (∃ s', StepOp E true ops base i o s s' ∧ K s' = some r) ∨ (pivotB ops i = true ∧ inlOp E inl o s K = some r) := by
  unfold oneOp at h
  split at h
  · rename_i e he
    obtain ⟨out, h1, h2⟩ := run_res h
    cases hb : (dstOk s o.dst && fits E true ops base i o.op (vwOf E true o.op ops base i s.tab) out.ch) with
    | false => rw [hb] at h2; cases h2
    | true =>
      rw [hb] at h2
      rw [Bool.and_eq_true] at hb
      exact .inl ⟨_, ⟨⟨e, out, he, h1, hb.2, rfl⟩, hb.1⟩, h2⟩
  · cases hp : pivotB ops i with
    | false => rw [hp] at h; cases h
    | true =>
      rw [hp] at h
      exact .inr ⟨rfl, h⟩

/-- It is to be done. -/
def GuardYes (ops : Array Oper) (o : Oper) (s : St) : Prop := o.guard = none ∨ ∃ j d want, o.guard = some (j, want) ∧ (ops[j]?).bind (·.dst) = some d ∧ s.tm d = .bool want

/-- Where a chain ends: at the region's end, or at what is walked in place. -/
def ChainEnd {R : Type} (E : Env) (inl : Inl R) (ops : Array Oper) (base : Nat) (K : St → Option R) (m : Nat) (s : St) (r : R) : Prop :=
  (m = ops.size ∧ K s = some r) ∨ ∃ o l, ops[m]? = some o ∧ (∀ j, l[j]? = ops[m + 1 + j]?) ∧ m + 1 + l.length = ops.size ∧ pivotB ops m = true ∧ GuardYes ops o s ∧ inlOp E inl o s (fun s => runOps E inl true ops base (m + 1) l s K) = some r

theorem runOps_chain {R : Type} {E : Env} {inl : Inl R} {ops : Array Oper} {base : Nat} {K : St → Option R} {r : R} : ∀ (l : List Oper) (i : Nat) (s : St), (∀ j, l[j]? = ops[i + j]?) → i + l.length = ops.size → runOps E inl true ops base i l s K = some r →
    ∃ m s', i ≤ m ∧ m ≤ ops.size ∧ Chain E ops base (List.range' i (m - i)) s s' ∧ ChainEnd E inl ops base K m s' r
  | [], i, s, _, hlen, h => ⟨i, s, Nat.le_refl _, Nat.le_of_eq hlen, by rw [Nat.sub_self]; exact .nil, .inl ⟨hlen, h⟩⟩
  | o :: l, i, s, hl, hlen, h => by
    have ho : ops[i]? = some o := by simpa using (hl 0).symm
    have hl' : ∀ j, l[j]? = ops[i + 1 + j]? := fun j => by
      have := hl (j + 1)
      rw [List.getElem?_cons_succ] at this
      rw [this]
      congr 1
      omega
    have hlen' : i + 1 + l.length = ops.size := by
      rw [List.length_cons] at hlen
      omega
    have fin : ∀ {s1 : St}, GStep E true ops base i o s s1 → runOps E inl true ops base (i + 1) l s1 K = some r → ∃ m s', i ≤ m ∧ m ≤ ops.size ∧ Chain E ops base (List.range' i (m - i)) s s' ∧ ChainEnd E inl ops base K m s' r := fun g h => by
      obtain ⟨m, s', h1, h2, c, hk⟩ := runOps_chain l (i + 1) _ hl' hlen' h
      refine ⟨m, s', by omega, h2, ?_, hk⟩
      rw [show m - i = (m - (i + 1)) + 1 by omega, List.range'_succ]
      exact .cons ho g c
    have piv : GuardYes ops o s → pivotB ops i = true → inlOp E inl o s (fun s => runOps E inl true ops base (i + 1) l s K) = some r → ∃ m s', i ≤ m ∧ m ≤ ops.size ∧ Chain E ops base (List.range' i (m - i)) s s' ∧ ChainEnd E inl ops base K m s' r := fun hg hp h =>
      ⟨i, s, Nat.le_refl _, by omega, by rw [Nat.sub_self]; exact .nil, .inr ⟨o, l, ho, hl', hlen', hp, hg, h⟩⟩
    unfold runOps at h
    split at h
    · rename_i hg
      rcases oneOp_draw h with ⟨s1, h1, h2⟩ | ⟨h1, h2⟩
      · exact fin (.plain hg h1) h2
      · exact piv (.inl hg) h1 h2
    · rename_i j want hg
      split at h
      · rename_i d hd
        split at h
        · rename_i b hb
          cases want with
          | true =>
            simp only [cond_true] at h
            split at h
            · rename_i hbt
              subst hbt
              rw [upd_eq hb] at h
              rcases oneOp_draw h with ⟨s1, h1, h2⟩ | ⟨h1, h2⟩
              · exact fin (.yes hg hd hb h1) h2
              · exact piv (.inr ⟨_, _, _, hg, hd, hb⟩) h1 h2
            · rename_i hbf
              have hbf : b = false := by simpa using hbf
              subst hbf
              cases hk : dstOk s o.dst with
              | false => rw [hk] at h; cases h
              | true =>
                rw [hk, cond_true, upd_eq hb] at h
                exact fin (.no hg hd hb hk rfl) h
          | false =>
            simp only [cond_false] at h
            split at h
            · rename_i hbt
              subst hbt
              cases hk : dstOk s o.dst with
              | false => rw [hk] at h; cases h
              | true =>
                rw [hk, cond_true, upd_eq hb] at h
                exact fin (.no hg hd hb hk rfl) h
            · rename_i hbf
              have hbf : b = false := by simpa using hbf
              subst hbf
              rw [upd_eq hb] at h
              rcases oneOp_draw h with ⟨s1, h1, h2⟩ | ⟨h1, h2⟩
              · exact fin (.yes hg hd hb h1) h2
              · exact piv (.inr ⟨_, _, _, hg, hd, hb⟩) h1 h2
        · rename_i ht
          cases hk : dstOk s o.dst with
          | false => rw [hk] at h; cases h
          | true =>
            rw [hk, cond_true] at h
            exact fin (.skip hg hd ht hk rfl) h
        · cases h
      · cases h

/-! ### Two that are apart may change places -/
theorem put_tm_ne {s : St} {d : Option Tmp} {v : AV} {t : Tmp} (h : d ≠ some t) : (s.put d v).tm t = s.tm t := by
  cases d with
  | none => rfl
  | some d => exact upd_ne _ _ fun e => h (by rw [e])

theorem val_put {s : St} {d : Option Tmp} {v : AV} {tab : Tab} {x : Operand} (h : ∀ t, x = .tmp t → d ≠ some t) : ({ s.put d v with tab := tab } : St).val x = s.val x := by
  cases x with
  | tmp t => exact put_tm_ne (h t rfl)
  | _ => rfl

theorem put_n {s : St} {d : Option Tmp} {v : AV} : (s.put d v).n = s.n := by cases d <;> rfl
theorem put_tab {s : St} {d : Option Tmp} {v : AV} : (s.put d v).tab = s.tab := by cases d <;> rfl
theorem put_nx {s : St} {d : Option Tmp} {v : AV} : (s.put d v).nx = s.nx := by cases d <;> rfl

theorem st_ext {s t : St} (h1 : s.n = t.n) (h2 : ∀ i, s.tm i = t.tm i) (h3 : ∀ i, s.tab i = t.tab i) (h4 : s.nx = t.nx) : s = t := by
  cases s
  cases t
  simp only [St.mk.injEq]
  exact ⟨h1, funext h2, funext h3, h4⟩

theorem put_tm_eq {s : St} {d : Tmp} {v : AV} : (s.put (some d) v).tm d = v := upd_same ..

theorem tab_put_same {s : St} {d : Tmp} {v : AV} {tab : Tab} : (({ s with tab := tab } : St).put (some d) v).tm d = v := upd_same ..
theorem tab_put_ne {s : St} {d : Option Tmp} {v : AV} {t : Tmp} {tab : Tab} (h : d ≠ some t) : (({ s with tab := tab } : St).put d v).tm t = s.tm t := (put_tm_ne h).trans rfl

theorem chg_comm {c d : Chg} (h : ∀ p ∈ c, ∀ q ∈ d, p.1 ≠ q.1) (t : Tab) (i : Nat) : chg (chg t c) d i = chg (chg t d) c i := by
  by_cases hc : ∃ p ∈ c, p.1 = i
  · obtain ⟨p, hp, hi⟩ := hc
    have hd : ∀ q ∈ d, q.1 ≠ i := fun q hq e => h p hp q hq (hi.trans e.symm)
    rw [chg_other hd]
    have : ∀ {c : Chg} {t t' : Tab}, t i = t' i → chg t c i = chg t' c i := fun h => chg_two h
    exact (this (chg_other hd)).symm
  · rw [chg_other (t := chg t d) fun p hp e => hc ⟨p, hp, e⟩]
    exact chg_two (chg_other fun p hp e => hc ⟨p, hp, e⟩)

/-- What an operation does to the slots and the table. -/
inductive Eff1 (E : Env) (draw : Bool) (ops : Array Oper) (base i : Nat) (o : Oper) (s : St) : AV → Chg → Prop where
  | op {e : Eff} {out : Out} (h : aop E o.op s.val (vwOf E draw o.op ops base i s.tab) (base + room * i) = some e) (hr : e.Res out) (hf : fits E draw ops base i o.op (vwOf E draw o.op ops base i s.tab) out.ch = true)
      (hg : o.guard = none ∨ ∃ j d want, o.guard = some (j, want) ∧ (ops[j]?).bind (·.dst) = some d ∧ s.tm d = .bool want) : Eff1 E draw ops base i o s out.v out.ch
  | no {j d : Nat} {want : Bool} (hg : o.guard = some (j, want)) (hd : (ops[j]?).bind (·.dst) = some d) (ht : s.tm d = .bool (!want) ∨ s.tm d = .tup []) : Eff1 E draw ops base i o s (.tup []) []

theorem GStep.eff {E : Env} {draw : Bool} {ops : Array Oper} {base i : Nat} {o : Oper} {s s' : St} (h : GStep E draw ops base i o s s') : ∃ v ch, Eff1 E draw ops base i o s v ch ∧ dstOk s o.dst = true ∧ s' = { s.put o.dst v with tab := chg s.tab ch } := by
  cases h with
  | plain hg h =>
    obtain ⟨⟨e, out, h1, h2, h3, h4⟩, hd⟩ := h
    exact ⟨_, _, .op h1 h2 h3 (.inl hg), hd, h4⟩
  | yes hg hd ht h =>
    obtain ⟨⟨e, out, h1, h2, h3, h4⟩, hk⟩ := h
    exact ⟨_, _, .op h1 h2 h3 (.inr ⟨_, _, _, hg, hd, ht⟩), hk, h4⟩
  | no hg hd ht hk h => exact ⟨_, _, .no hg hd (.inl ht), hk, h.trans (st_ext (by rfl) (fun _ => by rfl) (fun _ => by rw [put_tab]; rfl) (by rfl))⟩
  | skip hg hd ht hk h => exact ⟨_, _, .no hg hd (.inr ht), hk, h.trans (st_ext (by rfl) (fun _ => by rfl) (fun _ => by rw [put_tab]; rfl) (by rfl))⟩

theorem Eff1.step {E : Env} {draw : Bool} {ops : Array Oper} {base i : Nat} {o : Oper} {s : St} {v : AV} {ch : Chg} (h : Eff1 E draw ops base i o s v ch) (hk : dstOk s o.dst = true) : GStep E draw ops base i o s { s.put o.dst v with tab := chg s.tab ch } := by
  cases h with
  | op h1 h2 h3 hg =>
    rcases hg with hg | ⟨j, d, want, hg, hd, ht⟩
    · exact .plain hg ⟨⟨_, _, h1, h2, h3, rfl⟩, hk⟩
    · exact .yes hg hd ht ⟨⟨_, _, h1, h2, h3, rfl⟩, hk⟩
  | no hg hd ht =>
    have hs : ({ s.put o.dst (.tup []) with tab := chg s.tab [] } : St) = s.put o.dst (.tup []) := st_ext (by rfl) (fun _ => by rfl) (fun _ => by rw [put_tab]; rfl) (by rfl)
    rw [hs]
    rcases ht with ht | ht
    · exact .no hg hd ht hk rfl
    · exact .skip hg hd ht hk rfl

theorem Res.det {e : Eff} {o o' : Out} (h : e.Res o) (h' : e.Res o') : o = o' := by
  induction h with
  | out => cases h'; rfl
  | guard _ _ ih =>
    cases h' with
    | guard _ k => exact ih k
  | bind h =>
    cases h' with
    | bind k =>
      rw [h] at k
      cases k
      rfl

/-- The state that an operation looks at. -/
structure Alike (E : Env) (ops : Array Oper) (base i : Nat) (o : Oper) (s s' : St) : Prop where
  val : ∀ x ∈ o.op.operands.toList, s.val x = s'.val x
  guard : ∀ j want d, o.guard = some (j, want) → (ops[j]?).bind (·.dst) = some d → s.tm d = s'.tm d
  vw : vwOf E true o.op ops base i s.tab = vwOf E true o.op ops base i s'.tab

theorem Eff1.alike {E : Env} {ops : Array Oper} {base i : Nat} {o : Oper} {s s' : St} {v : AV} {ch : Chg} (h : Eff1 E true ops base i o s v ch) (ha : Alike E ops base i o s s') : Eff1 E true ops base i o s' v ch := by
  cases h with
  | op h1 h2 h3 hg =>
    rw [aop_congr ha.val, ha.vw] at h1
    rw [ha.vw] at h3
    refine .op h1 h2 h3 (hg.imp id ?_)
    rintro ⟨j, d, want, hg, hd, ht⟩
    exact ⟨j, d, want, hg, hd, (ha.guard j want d hg hd) ▸ ht⟩
  | no hg hd ht =>
    refine .no hg hd ?_
    rw [← ha.guard _ _ _ hg hd]
    exact ht

/-- An operation's changes, as they may be seen. -/
theorem Eff1.keys {E : Env} {ops : Array Oper} {base i : Nat} {o : Oper} {s : St} {v : AV} {ch : Chg} (h : Eff1 E true ops base i o s v ch) : ∀ p ∈ ch, 
    (chgs E ops i o.op = true ∧ (p.1 < base ∨ (p.1 - base) / room = i ∨ (mask ops i).testBit ((p.1 - base) / room) = true)) ∨ (chgs E ops i o.op = false ∧ base ≤ p.1 ∧ (p.1 - base) / room = i) := by
  intro p hp
  cases h with
  | op h1 h2 h3 hg =>
    unfold fits at h3
    simp only [cond_true] at h3
    cases hc : chgs E ops i o.op with
    | true =>
      rw [hc] at h3
      simp only [cond_true] at h3
      rw [Bool.and_eq_true] at h3
      replace h3 := h3.1
      unfold seenOnly at h3
      rw [List.all_eq_true] at h3
      have := h3 p hp
      rw [Bool.or_eq_true, Bool.or_eq_true] at this
      rcases this with (this | this) | this
      · exact .inl ⟨rfl, .inl (by simpa [Nat.blt_eq] using this)⟩
      · exact .inl ⟨rfl, .inr (.inl (Nat.eq_of_beq_eq_true this))⟩
      · exact .inl ⟨rfl, .inr (.inr this)⟩
    | false =>
      rw [hc] at h3
      simp only [cond_false] at h3
      unfold freshOnly at h3
      rw [List.all_eq_true] at h3
      have := h3 p hp
      rw [Bool.and_eq_true] at this
      have a1 := Nat.le_of_ble_eq_true this.1
      have a2 : p.1 < base + room * i + room := by simpa [Nat.blt_eq] using this.2
      refine .inr ⟨rfl, by omega, ?_⟩
      unfold room at *
      omega
  | no hg hd ht => cases hp

theorem looks_mem {ops : Array Oper} {o : Oper} {t : Tmp} (h : Operand.tmp t ∈ o.op.operands.toList) : t ∈ o.looksAt ops := by
  unfold Oper.looksAt
  exact List.mem_append.2 (.inl (List.mem_filterMap.2 ⟨.tmp t, h, rfl⟩))

theorem looks_guard {ops : Array Oper} {o : Oper} {j d : Nat} {want : Bool} (h : o.guard = some (j, want)) (hd : (ops[j]?).bind (·.dst) = some d) : d ∈ o.looksAt ops := by
  unfold Oper.looksAt
  rw [h]
  exact List.mem_append.2 (.inr (by simp [hd]))

theorem changes_noload {E : Env} {op : Op} (h : changes E op = true) : isLoad op = false := by
  cases op with
  | call c =>
    obtain ⟨callee, args, argTypes⟩ := c
    cases callee with
    | builtin b => cases b <;> first | rfl | cases h
    | _ => rfl
  | _ => first | rfl | cases h

theorem chgs_changes {E : Env} {ops : Array Oper} {i : Nat} {op : Op} (h : chgs E ops i op = true) : changes E op = true := by
  unfold chgs at h
  rw [Bool.and_eq_true] at h
  exact h.1

theorem chgs_nopeek {E : Env} {ops : Array Oper} {i : Nat} {op : Op} (h : chgs E ops i op = true) : peeks E ops i op = false := by
  have hc := chgs_changes h
  unfold chgs at h
  rw [hc, Bool.true_and, Bool.not_eq_true'] at h
  unfold peeks
  rw [changes_noload hc, h]
  rfl

theorem free_mix {E : Env} {ops : Array Oper} {i : Nat} (h : freeOf E ops i = true) : mixB E ops = true := by
  unfold freeOf at h
  obtain ⟨m, _, hm⟩ := List.any_eq_true.1 h
  split at hm
  · rename_i x hx
    simp only [Bool.and_eq_true] at hm
    unfold mixB
    refine List.any_eq_true.2 ⟨x, ?_, ?_⟩
    · exact (Array.mem_toList_iff).2 (Array.mem_of_getElem? hx)
    · rw [hm.1.1.1.1, hm.1.1.1.2]
      rfl
  · cases hm

theorem chg_noCells {c : Chg} {i : Nat} : ∀ {t : Tab}, (∀ p ∈ c, p.1 = i → noCells (t p.1) = true ∧ noCells p.2 = true) → (∃ p ∈ c, p.1 = i) → noCells (chg t c i) = true := by
  suffices key : ∀ (c : Chg) (t : Tab), (∀ p ∈ c, p.1 = i → noCells p.2 = true) → noCells (t i) = true → noCells (chg t c i) = true from fun {t} h ⟨p, hp, e⟩ => key c t (fun q hq e => (h q hq e).2) (e ▸ (h p hp e).1)
  intro c
  induction c with
  | nil => exact fun t _ h => h
  | cons p c ih =>
    intro t h h0
    show noCells (chg (upd t p.1 p.2) c i) = true
    refine ih _ (fun q hq => h q (List.mem_cons_of_mem _ hq)) ?_
    by_cases e : p.1 = i
    · rw [← e, upd_same]
      exact h p (List.mem_cons_self ..) e
    · rw [upd_ne _ _ (Ne.symm e)]
      exact h0

/-- What an operation that is no store changes, where loads look at cells alone. -/
theorem Eff1.rows {E : Env} {ops : Array Oper} {base i : Nat} {o : Oper} {s : St} {v : AV} {ch : Chg} (h : Eff1 E true ops base i o s v ch) (hc : chgs E ops i o.op = true) (hs : isStore o.op = false) (hm : mixB E ops = true) : rowsChg (view ops base i s.tab) ch = true := by
  cases h with
  | op h1 h2 h3 hg =>
    unfold fits at h3
    rw [hc, hs, hm] at h3
    simp only [cond_true, Bool.and_eq_true, Bool.false_or, Bool.not_true] at h3
    have h4 := h3.2
    have hp : peeks E ops i o.op = false := chgs_nopeek hc
    unfold vwOf at h4
    rw [changes_touches (chgs_changes hc), hp] at h4
    exact h4
  | no hg hd ht => rfl

/-- What the one does is not seen by the other. -/
theorem alike_after {E : Env} {ops : Array Oper} {base i j : Nat} {x y : Oper} {s : St} {v : AV} {ch : Chg} (hx : Eff1 E true ops base i x s v ch) (hnb : (mask ops j).testBit i = false) 
    (hd : ∀ d, x.dst = some d → d ∉ y.looksAt ops) (hc : meets E ops i j x.op y.op = false) : Alike E ops base j y s { s.put x.dst v with tab := chg s.tab ch } := by
  refine ⟨fun o ho => ?_, fun k want d hg hk => ?_, ?_⟩
  · exact (val_put fun t ht hdt => hd t hdt (looks_mem (ht ▸ ho))).symm
  · exact (put_tm_ne fun hdt => hd d hdt (looks_guard hg hk)).symm
  · unfold vwOf
    simp only [cond_true]
    cases ht : touches E y.op with
    | false => rfl
    | true =>
      simp only [cond_true]
      have hvis : ∀ id, (Nat.blt id base || (mask ops j).testBit ((id - base) / room)) = true → ∀ p ∈ ch, p.1 = id → chgs E ops i x.op = true ∧ (p.1 < base ∨ (mask ops i).testBit ((p.1 - base) / room) = true) := by
        intro id hb p hp e
        subst e
        rw [Bool.or_eq_true] at hb
        rcases hx.keys p hp with ⟨h1, h2⟩ | ⟨_, h2, h3⟩
        · refine ⟨h1, ?_⟩
          rcases h2 with h2 | h2 | h2
          · exact .inl h2
          · rcases hb with hb | hb
            · exact .inl (by simpa [Nat.blt_eq] using hb)
            · rw [h2, hnb] at hb
              cases hb
          · exact .inr h2
        · exfalso
          rcases hb with hb | hb
          · have : p.1 < base := by simpa [Nat.blt_eq] using hb
            omega
          · rw [h3, hnb] at hb
            cases hb
      cases hpk : peeks E ops j y.op with
      | false =>
        simp only [cond_false]
        funext id
        unfold view
        show _ = (bif Nat.blt id base || (mask ops j).testBit ((id - base) / room) then chg s.tab ch id else none)
        cases hb : (Nat.blt id base || (mask ops j).testBit ((id - base) / room)) with
        | false => rfl
        | true =>
          simp only [cond_true]
          refine (chg_other fun p hp e => ?_).symm
          have h1 := (hvis id hb p hp e).1
          unfold meets at hc
          rw [h1, ht, hpk] at hc
          cases hc
      | true =>
        simp only [cond_true]
        funext id
        unfold cellsOnly view
        show (match (bif Nat.blt id base || (mask ops j).testBit ((id - base) / room) then s.tab id else none) with | some (.cells T l) => some (Blk.cells T l) | _ => none) = (match (bif Nat.blt id base || (mask ops j).testBit ((id - base) / room) then chg s.tab ch id else none) with | some (.cells T l) => some (Blk.cells T l) | _ => none)
        cases hb : (Nat.blt id base || (mask ops j).testBit ((id - base) / room)) with
        | false => rfl
        | true =>
          simp only [cond_true]
          by_cases hex : ∃ p ∈ ch, p.1 = id
          · obtain ⟨p0, hp0, e0⟩ := hex
            have hch := (hvis id hb p0 hp0 e0).1
            have hst : isStore x.op = false := by
              unfold meets at hc
              rw [hch, ht, hpk] at hc
              cases hs : isStore x.op with
              | false => rfl
              | true => rw [hs] at hc; cases hc
            have hmix : mixB E ops = true := by
              unfold peeks at hpk
              rw [Bool.or_eq_true, Bool.and_eq_true, Bool.and_eq_true] at hpk
              exact hpk.elim (fun h => free_mix h.2) (fun h => h.2)
            have hr := hx.rows hch hst hmix
            unfold rowsChg at hr
            rw [List.all_eq_true] at hr
            have hall : ∀ p ∈ ch, p.1 = id → noCells (s.tab p.1) = true ∧ noCells p.2 = true := fun p hp e => by
              have h1 := hr p hp
              rw [Bool.and_eq_true] at h1
              refine ⟨?_, h1.2⟩
              have h2 := h1.1
              unfold view at h2
              have hv : (Nat.blt p.1 base || (mask ops i).testBit ((p.1 - base) / room)) = true := by
                rcases (hvis id hb p hp e).2 with h | h
                · rw [Bool.or_eq_true]
                  exact .inl (by simpa [Nat.blt_eq] using h)
                · rw [Bool.or_eq_true]
                  exact .inr h
              rw [hv] at h2
              exact h2
            have n1 : noCells (s.tab id) = true := e0 ▸ (hall p0 hp0 e0).1
            have n2 : noCells (chg s.tab ch id) = true := chg_noCells hall ⟨p0, hp0, e0⟩
            have none_of : ∀ b : Option Blk, noCells b = true → (match b with | some (.cells T l) => some (Blk.cells T l) | _ => none) = none := fun b h => by
              cases b with
              | none => rfl
              | some b => cases b <;> first | rfl | cases h
            rw [none_of _ n1, none_of _ n2]
          · rw [chg_other fun p hp e => hex ⟨p, hp, e⟩]

theorem gstep_swap {E : Env} {ops : Array Oper} (hD : DrawOk E ops) {base i j : Nat} {x y : Oper} {s s1 s2 : St} (hij : i < j) (hx : ops[i]? = some x) (hy : ops[j]? = some y) (hnb : (mask ops j).testBit i = false)
    (g1 : GStep E true ops base i x s s1) (g2 : GStep E true ops base j y s1 s2) : ∃ s1', GStep E true ops base j y s s1' ∧ GStep E true ops base i x s1' s2 := by
  have hap := (hD.apart i j x y hij hx hy).resolve_left (by rw [hnb]; simp)
  unfold apartB at hap
  simp only [Bool.and_eq_true, Bool.not_eq_true'] at hap
  obtain ⟨⟨ha, hc1⟩, hc2⟩ := hap
  obtain ⟨a1, a2, a3⟩ := Oper.apart_spec ha
  have hnb2 : (mask ops i).testBit j = false := by
    cases h : (mask ops i).testBit j with
    | false => rfl
    | true =>
      have := mask_lt hD i h
      omega
  obtain ⟨v1, c1, e1, k1, rfl⟩ := g1.eff
  obtain ⟨v2, c2, e2, k2, rfl⟩ := g2.eff
  have al1 := alike_after e1 hnb a1 hc1
  have e2' : Eff1 E true ops base j y s v2 c2 := e2.alike ⟨fun x hx => (al1.val x hx).symm, fun k w d hg hk => (al1.guard k w d hg hk).symm, al1.vw.symm⟩
  have al2 := alike_after e2' hnb2 a3 hc2
  have e1' := e1.alike al2
  have hdst : ∀ {o : Oper} {s' : St}, s'.n = s.n → dstOk s' o.dst = dstOk s o.dst := fun {o s'} h => by
    unfold dstOk
    rw [h]
  have k2' : dstOk s y.dst = true := by rw [← hdst (o := y) (s' := { s.put x.dst v1 with tab := chg s.tab c1 }) put_n]; exact k2
  refine ⟨_, e2'.step k2', ?_⟩
  have hfin := e1'.step (by rw [hdst (o := x) (s' := { s.put y.dst v2 with tab := chg s.tab c2 }) put_n]; exact k1)
  have hkeys : ∀ p ∈ c1, ∀ q ∈ c2, p.1 ≠ q.1 := fun p hp q hq e => by
    rcases e1.keys p hp with ⟨h1, h2⟩ | ⟨h1, h2, h3⟩ <;> rcases e2.keys q hq with ⟨h4, h5⟩ | ⟨h4, h5, h6⟩
    · unfold meets at hc1
      rw [h1, changes_touches (chgs_changes h4), chgs_nopeek h4] at hc1
      cases hc1
    · rw [e] at h2
      rcases h2 with h2 | h2 | h2
      · omega
      · omega
      · rw [h6, hnb2] at h2
        cases h2
    · rw [← e] at h5
      rcases h5 with h5 | h5 | h5
      · omega
      · omega
      · rw [h3, hnb] at h5
        cases h5
    · rw [e] at h3
      omega
  have hst : ({ ({ s.put y.dst v2 with tab := chg s.tab c2 } : St).put x.dst v1 with tab := chg (chg s.tab c2) c1 } : St) = { ({ s.put x.dst v1 with tab := chg s.tab c1 } : St).put y.dst v2 with tab := chg (chg s.tab c1) c2 } := by
    refine st_ext (by simp [put_n]) (fun t => ?_) (fun t => chg_comm (fun p hp q hq => (hkeys q hq p hp).symm) s.tab t) (by simp [put_nx])
    show (({ s.put y.dst v2 with tab := chg s.tab c2 } : St).put x.dst v1).tm t = (({ s.put x.dst v1 with tab := chg s.tab c1 } : St).put y.dst v2).tm t
    by_cases h1 : x.dst = some t
    · have h2 : y.dst ≠ some t := a2 t h1
      rw [tab_put_ne h2, h1]
      exact tab_put_same.trans put_tm_eq.symm
    · rw [tab_put_ne h1]
      by_cases h2 : y.dst = some t
      · rw [h2]
        exact put_tm_eq.trans tab_put_same.symm
      · rw [put_tm_ne h2]
        exact ((tab_put_ne h2).trans (put_tm_ne h1)).symm
  rw [← hst]
  exact hfin

/-- An operation that all of those ahead of it are apart from may come first. -/
theorem chain_first {E : Env} {ops : Array Oper} (hD : DrawOk E ops) {base : Nat} : ∀ {l1 l2 : List Nat} {i : Nat} {s s' : St}, Chain E ops base (l1 ++ i :: l2) s s' → (∀ j ∈ l1, j < i ∧ (mask ops i).testBit j = false) →
    ∃ o s1, ops[i]? = some o ∧ GStep E true ops base i o s s1 ∧ Chain E ops base (l1 ++ l2) s1 s'
  | [], l2, i, s, s', h, _ => by
    cases h with
    | cons ho g t => exact ⟨_, _, ho, g, t⟩
  | j :: l1, l2, i, s, s', h, hl => by
    cases h with
    | cons ho g t =>
      obtain ⟨o', s1', h1, h2, h3⟩ := chain_first hD t fun k hk => hl k (by simp [hk])
      obtain ⟨hlt, hnb⟩ := hl j (by simp)
      obtain ⟨s2, k1, k2⟩ := gstep_swap hD hlt ho h1 hnb g h2
      exact ⟨o', s2, h1, k1, .cons ho k2 h3⟩

end Go.Proofs.Ytmjbjlhjpdebjaa.Mini
