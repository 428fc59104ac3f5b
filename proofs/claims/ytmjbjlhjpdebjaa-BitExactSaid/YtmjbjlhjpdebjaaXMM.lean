/- A small machine over plain data: functions. -/
import Derived.Test.YtmjbjlhjpdebjaaXML
import Derived.Test.YtmjbjlhjpdebjaaXMR
namespace Go.Proofs.Ytmjbjlhjpdebjaa.Mini
open Go Go.RowKit

section
variable {E : Env} {w0 : Start} {M0 more av : Nat → Prop} {C C0 : Ctx} {a : Act} {s : St}

theorem enter_good {fn : Func} {args : Array Value} {vs : List AV} {tab : Tab} {nx : Nat} (ht : TabOk w0 M0 (fun id => more id ∨ nx ≤ id) C) (htab : C.tab = tab) (hr : RelL C args.toList vs) :
    Good C w0 M0 more nx (stAt fn vs tab nx) { tmps := args ++ Array.replicate (fn.ntmps - args.size) undef, defers := [] } C := by
  have hlen : args.size = vs.length := by
    rw [← Array.length_toList]
    exact hr.length
  refine ⟨⟨?_, fun t => ?_, htab, ht, Ext.refl C, Marks.nil _ _ _⟩, Nat.le_refl _⟩
  · show (args ++ Array.replicate (fn.ntmps - args.size) undef).size = max fn.ntmps vs.length
    rw [Array.size_append, Array.size_replicate, hlen]
    omega
  · show Rel C ((args ++ Array.replicate (fn.ntmps - args.size) undef).getD t undef) (vs.getD t (.tup []))
    by_cases h : t < args.size
    · obtain ⟨v, h1, h2⟩ := hr.get (i := t) (x := vs[t]'(by omega)) (by simp)
      rw [Array.getElem?_toList] at h1
      have e1 : (args ++ Array.replicate (fn.ntmps - args.size) undef).getD t undef = v := by
        rw [Array.getD_eq_getD_getElem?, Array.getElem?_append_left h, h1]
        rfl
      have e2 : vs.getD t (.tup []) = vs[t]'(by omega) := by
        rw [List.getD_eq_getElem?_getD, List.getElem?_eq_getElem (by omega)]
        rfl
      rw [e1, e2]
      exact h2
    · have e1 : (args ++ Array.replicate (fn.ntmps - args.size) undef).getD t undef = undef := by
        rw [Array.getD_eq_getD_getElem?, Array.getElem?_append_right (by omega), Array.getElem?_replicate]
        split <;> rfl
      have e2 : vs.getD t (.tup []) = .tup [] := by
        rw [List.getD_eq_getElem?_getD, List.getElem?_eq_none (by omega)]
        rfl
      rw [e1, e2]
      exact .tup .nil

def readVar (tmps : Array Value) : ResultVar → Sem Value
  | .tmp t => pure (tmps.getD t undef)
  | .cell a t => do loadVar t (← asAddr (tmps.getD a undef))

theorem resVs_rel {P : Program} (h : Sim C0 w0 M0 av s a C) : ∀ {rs : List ResultVar} {xs : List AV}, resVs P s rs = some xs → ∃ vs, (rs.mapM (readVar a.tmps)).run P C.w = .ok vs C.w ∧ RelL C vs xs
  | [], xs, e => by
    cases e
    exact ⟨[], by simp, .nil⟩
  | r :: rs, xs, e => by
    unfold resVs at e
    split at e
    · rename_i v hv
      split at e
      · rename_i ws hw
        cases e
        obtain ⟨vs, h1, h2⟩ := resVs_rel (P := P) h hw
        cases r with
        | tmp t =>
          cases hv
          refine ⟨a.tmps.getD t undef :: vs, ?_, .cons (h.tm t) h2⟩
          rw [List.mapM_cons]
          simp only [readVar, Sem.run_bind, Sem.run_pure, Result.andThen_ok, h1]
        | cell b t =>
          simp only [resV] at hv
          split at hv
          · rename_i id off hp
            split at hv
            · rename_i T l ht
              have hx := h.tm b
              rw [hp] at hx
              generalize hpv : a.tmps.getD b undef = pv at hx
              cases hx with
              | ptr hx =>
                obtain ⟨_, ad, rfl, hb⟩ := hx
                have e1 : C.tab id = some (.cells T l) := by rw [h.tab]; exact ht
                obtain ⟨T', l', p, hc, hp', ho, rfl⟩ := hb _ e1
                cases hc
                obtain ⟨p', hp2, hbr⟩ := h.ok.bl id _ e1
                rw [hp'] at hp2
                cases hp2
                obtain ⟨q, hq, _, cs, hh, hl⟩ := hbr
                cases hq
                have hl' := hl.drop off
                rw [show cs.toList.drop off = (cs.toList.drop off).take (cs.toList.drop off).length from (List.take_length).symm] at hl'
                obtain ⟨u, h3, h4⟩ := takeT_load hv hh hl'
                refine ⟨u :: vs, ?_, .cons h4 h2⟩
                rw [List.mapM_cons]
                have h5 : (readVar a.tmps (.cell b t)).run P C.w = .ok u C.w := by
                  simp only [readVar, hpv, asAddr, Sem.run_bind, Sem.run_pure, Result.andThen_ok]
                  exact h3
                simp only [h5, Sem.run_bind, Sem.run_pure, Result.andThen_ok, h1]
            · cases hv
          · cases hv
      · cases e
    · cases e

theorem results_rel {P : Program} {fn : Func} (h : Sim C0 w0 M0 av s a C) {xs : List AV} (e : resVs P s fn.results.toList = some xs) : ∃ v, (results fn a.tmps).run P C.w = .ok v C.w ∧ Rel C v (oneOf xs) := by
  obtain ⟨vs, h1, h2⟩ := resVs_rel (P := P) h e
  have hm : fn.results.mapM (readVar a.tmps) = (do let l ← fn.results.toList.mapM (readVar a.tmps); pure l.toArray) := by
    rw [Array.mapM_eq_mapM_toList]
    rfl
  have hres : results fn a.tmps = (do
      let vs ← fn.results.mapM (readVar a.tmps)
      pure (if h : vs.size = 1 then vs[0] else .tuple vs)) := by
    unfold results
    congr 1
  rw [hres, hm]
  simp only [Sem.run_bind, h1, Result.andThen_ok, Sem.run_pure]
  refine ⟨_, rfl, ?_⟩
  cases h2 with
  | nil => exact .tup .nil
  | cons hv ht =>
    cases ht with
    | nil => exact hv
    | cons hv2 ht => exact .tup (.cons hv (.cons hv2 ht))

/-- Worlds that differ in blocks of deferred calls alone, from a place on. -/
structure Shut (n0 : Nat) (w w' : World) : Prop where
  os : w'.os = w.os
  tape : w'.tape = w.tape
  output : w'.output = w.output
  size : w'.heap.size = w.heap.size
  blk : ∀ b, w'.heap[b]? = w.heap[b]? ∨ (n0 ≤ b ∧ ∃ x y, w.heap[b]? = some (Obj.deferred x) ∧ w'.heap[b]? = some (Obj.deferred y))

theorem Shut.refl (n0 : Nat) (w : World) : Shut n0 w w := ⟨rfl, rfl, rfl, rfl, fun _ => .inl rfl⟩

theorem Shut.hush {n0 n1 : Nat} {w w' : World} (h : Shut n0 w w') (hn : n1 ≤ n0) : Hush n1 w w' :=
  ⟨h.os, h.tape, h.output, Nat.le_of_eq h.size.symm, fun b _ => (h.blk b).imp_right fun ⟨h0, x, y, h1, h2⟩ => ⟨Nat.le_trans hn h0, (fun cs T fr e => by rw [h1] at e; cases e), (fun cs T fr e => by rw [h2] at e; cases e)⟩⟩

theorem leave_marks {F : Fence} {n : Nat} {P : Program} {fn : Func} {tmps : Array Value} {R : Ending → World → Prop} {n0 : Nat} {w : World} (hR : ∀ w', Shut n0 w w' → ∃ v, (results fn tmps).run P w' = .ok v w' ∧ R (.returned v) w') :
    ∀ (ds : List Deferred) (w1 : World), Shut n0 w w1 → (ds.map (·.target)).Nodup → (∀ d ∈ ds, ∃ D, d.target = .collected D ∧ n0 ≤ D ∧ w1.heap[D]? = some (.deferred (some [])) ∧ ∃ x, w.heap[D]? = some (Obj.deferred x)) → LeavesInM F n P fn tmps R ds .returning w1
  | [], w1, h, _, _ => hR w1 h
  | d :: ds, w1, h, hn, hd => by
    obtain ⟨D, h1, h0, h2, h3⟩ := hd d (by simp)
    rw [List.map_cons, List.nodup_cons] at hn
    refine ⟨by simp, .inl ⟨D, w1.putObj D (.deferred none), h1, run_takeDeferred h2, ?_⟩⟩
    refine leave_marks hR ds _ ⟨h.os, h.tape, h.output, by rw [World.putObj_size]; exact h.size, fun b => ?_⟩ hn.2 fun e he => ?_
    · by_cases hb : b = D
      · obtain ⟨x, hx⟩ := h3
        exact .inr ⟨by omega, x, none, by rw [hb]; exact hx, by rw [hb]; exact World.putObj_heap_same (heap_lt h2)⟩
      · rw [World.putObj_heap_other hb]
        exact h.blk b
    · obtain ⟨D', k1, k0, k2, k3⟩ := hd e (by simp [he])
      have hne : D' ≠ D := fun eq => hn.1 (by rw [h1, ← eq, ← k1]; exact List.mem_map_of_mem he)
      exact ⟨D', k1, k0, (World.putObj_heap_other hne).trans k2, k3⟩

theorem isRet_cases {ex : Exit} (h : isRet ex = true) : ex = .normal ∨ ex = .ret := by
  cases ex <;> first | exact .inl rfl | exact .inr rfl | cases h

theorem Sim.marks (h : Sim C0 w0 M0 av s a C) : (a.defers.map (·.target)).Nodup ∧ ∀ d ∈ a.defers, ∃ D, d.target = .collected D ∧ C0.w.heap.size ≤ D ∧ C.w.heap[D]? = some (.deferred (some [])) ∧ ∃ x, C.w.heap[D]? = some (Obj.deferred x) :=
  ⟨h.defers.1, fun d hd => by
    obtain ⟨D, h1, h0, h2, h3, _⟩ := h.defers.2 d hd
    have := (h.ok.fr.blk D (heap_lt h2) h3).trans h2
    exact ⟨D, h1, h0, this, _, this⟩⟩

theorem Sim.hush {n0 : Nat} {w : World} (h : Sim C0 w0 M0 av s a C) (hs : Hush n0 C.w w) : Sim C0 ⟨w, C.base⟩ (MutOf C) av s { a with defers := [] } (C.at w C.base) := by
  obtain ⟨x4, t4⟩ := h.ok.hush hs
  exact ⟨h.n, fun t => (h.tm t).ext x4, h.tab, t4, h.ext.trans x4, Marks.nil _ _ _⟩

theorem inlOf_sound {R : Type} {n0 y : Nat} (hE : EnvOk E) {T : Carry R} (hT0 : StableQ n0 T) (A : FuncId → Anns) : ∀ d S, InlSound E T S y (inlOf E A d : Inl R)
  | 0, _ => fun g vs tab nx K r h => by cases h
  | d + 1, S => fun g vs tab nx K r h w0 M0 more C args hy hT ht hm htab hr => by
    unfold inlOf at h
    split at h
    · rename_i g
      split at h
      · rename_i fn hfn
        split at h
        · rename_i c hc
          refine ⟨fn, hfn, by rw [hc]; rfl, (callsIn_wide (n := 0)).1 (callsIn_of_wp_marks hfn hc trivial ?_)⟩
          have hg := enter_good (fn := fn) ht htab hr
          have hB : Base C more nx := ⟨hm, fun id hid => ht.av id (.inr hid)⟩
          have hle : w0.heap.size ≤ C.w.heap.size := ht.fr.size
          have hn0 : n0 ≤ C.w.heap.size := Nat.le_trans (hT0.size r w0 _ hT.t) hle
          refine wpIn_mono (evC_sound hE hT0 (inlOf_sound hE hT0 A d) (A g) c none nx C more S hB hy _ _ r w0 M0 _ C h hT (fun _ e => by cases e) hg) ?_
          rintro ex a' w' ⟨s', C', r', w0', M0', rfl, hT', hst, g', hk⟩
          simp only [] at hk
          cases hx : isRet ex with
          | false => rw [hx] at hk; cases hk
          | true =>
            rw [hx, cond_true] at hk
            split at hk
            · rename_i xs hxs
              obtain ⟨m1, m2⟩ := g'.sim.marks
              have fin := leave_marks (F := Fence.wide) (n := 0) (P := E.P) (fn := fn) (tmps := a'.tmps) (n0 := C.w.heap.size) (w := C'.w) (R := fun e w' => ∃ v' x C'' nx' r' w0' M0', e = .returned v' ∧ C''.w = w' ∧ Ext C C'' ∧ Rel C'' v' x ∧ T.sh S r' w0' M0' ∧ StepW S w0 M0 w0' M0' ∧ TabOk w0' M0' (fun id => more id ∨ nx' ≤ id) C'' ∧ nx ≤ nx' ∧ K x C''.tab nx' = some r')
                (fun w' hs => by
                  have hush := hs.hush hn0
                  have g2 := g'.sim.hush hush
                  obtain ⟨v, h1, h2⟩ := results_rel (P := E.P) g2 hxs
                  have hsame : ∀ b, b < w0.heap.size → w'.heap[b]? = C'.w.heap[b]? := fun b hb => (hs.blk b).resolve_right fun ⟨h0, _⟩ => by omega
                  have hnm : ∀ b, b < w0.heap.size → ¬ M0 b → ¬ M0' b := fun b hb hm h => (hst.mb b h).elim hm fun hle => absurd hb (Nat.not_lt.2 hle)
                  refine ⟨v, h1, v, _, C'.at w' C'.base, s'.nx, r', ⟨w', C'.base⟩, MutOf C', rfl, rfl, g2.ext, h2, hT'.step hT0 (g'.sim.ok.stepQ hush), ⟨hs.os.trans (g'.sim.ok.fr.os.trans hst.os), hs.tape.trans (g'.sim.ok.fr.tape.trans hst.tape), hs.output.trans (g'.sim.ok.fr.output.trans hst.output), ?_, fun b hb hm hB => ?_, fun b hb hm hS => ?_, fun b hm => ?_⟩, g2.ok, g'.lo, ?_⟩
                  · exact Nat.le_trans hst.size (Nat.le_trans g'.sim.ok.fr.size (Nat.le_of_eq hs.size.symm))
                  · obtain ⟨k1, k2⟩ := hst.blk b hb hm hB
                    exact ⟨((hsame b hb).trans (g'.sim.ok.fr.blk b (Nat.lt_of_lt_of_le hb hst.size) (hnm b hb hm))).trans k1, by show C'.base b; rw [g'.sim.ok.bq]; exact k2⟩
                  · exact ((hsame b hb).trans (g'.sim.ok.fr.blk b (Nat.lt_of_lt_of_le hb hst.size) (hnm b hb hm))).trans (hst.oth b hb hm hS)
                  · exact (g'.sim.ok.mut_from hm).elim (hst.mb b) fun hle => .inr (Nat.le_trans hst.size hle)
                  · show K (oneOf xs) C'.tab s'.nx = some r'
                    rw [g'.sim.tab]
                    exact hk)
                a'.defers C'.w (Shut.refl _ _) m1 m2
              rcases isRet_cases hx with rfl | rfl
              · exact fin
              · exact fin
            · cases hk
        · cases h
      · cases h
    · cases h

/-- What a plain function carries along: nothing has been told. -/
def plainT {R : Type} (r0 : R) (w0 : Start) (M0 : Nat → Prop) : Carry R := fun r w1 M1 => r0 = r ∧ StepQ w0.heap.size w0 M0 w1 M1

theorem plainT_stable {R : Type} (r0 : R) (w0 : Start) (M0 : Nat → Prop) : StableQ w0.heap.size (plainT r0 w0 M0) := ⟨fun _ _ _ _ _ h k => ⟨h.1, h.2.trans k⟩, fun _ _ _ h => h.2.size⟩

theorem plainT_enter {R : Type} (r0 : R) (w0 : Start) (M0 : Nat → Prop) : (plainT r0 w0 M0).sh none' r0 w0 M0 :=
  ⟨⟨rfl, rfl, rfl, rfl, Nat.le_refl _, fun _ _ _ => .inl rfl, fun _ h => h.elim .inl False.elim, fun _ h => .inl h⟩, fun _ h => h.elim, fun _ h => h.elim, fun _ h => h.elim⟩

/-- A start is set back. -/
theorem Sim.back {n0 : Nat} {M1 : Nat → Prop} (h : Sim C0 ⟨C.w, C.base⟩ (MutOf C) av s a C) (hd : a.defers = []) (k : StepQ n0 w0 M0 ⟨C.w, C.base⟩ M1) (hn : n0 = w0.heap.size) (hM : ∀ b, MutOf C b → M1 b) (hb : ∀ b, w0.heap.size ≤ b → w0.base b) : Sim C0 w0 M0 av s a (C.setB w0.base) := by
  subst hn
  have hbase : ∀ b, C.base b → w0.base b := fun b hB => by
    rcases k.base b hB with h1 | h1 | ⟨h1, _⟩
    · exact h1
    · exact hb b h1
    · exact hb b h1
  have x : Ext C (C.setB w0.base) := ExtH.ext ⟨fun _ _ h => h, fun _ blk _ h => ⟨blk, h, Compat.refl _⟩, fun b cs T fr e _ => ⟨cs, fr, e, rfl, fun _ => ⟨rfl, rfl⟩⟩, fun b _ ho => ⟨hbase b ho.1, ho.2⟩, Nat.le_refl _⟩ rfl
  refine ⟨h.n, fun t => (h.tm t).ext x, h.tab, ⟨fun id blk e => ?_, h.ok.inj, fun id p blk e hp hm => ?_, h.ok.av, ⟨k.os, k.tape, k.output, k.size, fun b hb hm => ?_⟩, fun id p blk e hp hm => hbase _ (h.ok.bs id p blk e hp hm), hb, rfl⟩, h.ext.trans x, by rw [hd]; exact Marks.nil _ _ _⟩
  · obtain ⟨p, hp, hr⟩ := h.ok.bl id blk e
    exact ⟨p, hp, BlkRel.ext x (fun _ _ => rfl) hr⟩
  · exact (k.mb _ (hM _ ⟨id, p, blk, e, hp, hm, rfl⟩)).symm
  · rcases k.blk b hb hm with h1 | ⟨h1, _⟩
    · exact h1
    · omega

/-- What stands at the end of a plain function. -/
theorem plain_end {R' : Ending → World → Prop} {R : Type} {r0 r : R} {w00 : Start} {M00 : Nat → Prop} {P : Program} {fn : Func} (hn : C0.w.heap.size = w00.heap.size) (h : Sim C0 w0 M0 av s a C) (hT : (plainT r0 w00 M00).sh none' r w0 M0) (hb : ∀ b, w00.heap.size ≤ b → w00.base b)
    (hR : ∀ C', Sim C0 w00 M00 av s { a with defers := [] } C' → ∃ v, (results fn a.tmps).run P C'.w = .ok v C'.w ∧ R' (.returned v) C'.w) : r0 = r ∧ LeavesInM Fence.wide 0 P fn a.tmps R' a.defers .returning C.w := by
  obtain ⟨m1, m2⟩ := h.marks
  refine ⟨hT.t.1, leave_marks (n0 := C0.w.heap.size) (fun w' hs => ?_) a.defers C.w (Shut.refl _ _) m1 m2⟩
  have hush := hs.hush (Nat.le_of_eq hn.symm)
  have hT2 := hT.step (plainT_stable r0 w00 M00) (h.ok.stepQ hush)
  exact hR _ ((h.hush hush).back (C := C.at w' C.base) rfl hT2.t.2 rfl (fun b hm => .inl hm) hb)

/-- What a function is evaluated to is what it does. -/
theorem contract_of (hE : EnvOk E) {A : FuncId → Anns} {d : Nat} {g : FuncId} {fn : Func} {c : Code} {sp : Spec} (hf : E.P.funcs[g]? = some fn) (hb : fn.body = some c)
    (h : ∀ a r, sp.f E.k a = some r → evF E A d g fn c sp.ps sp.rs a = some r) : Contract E.P E.k g sp := by
  intro x r hx w B y vs fresh hB hargs
  have he := h x r hx
  unfold evF at he
  refine (callsIn_wide (n := 0)).1 (callsIn_of_wp_marks hf hb trivial ?_)
  have ht : TabOk ⟨w, B⟩ none' (fun id => none' id ∨ 0 ≤ id) (zeroCtx w B y) := by
    refine ⟨fun _ _ h => (by cases h), fun _ _ _ _ _ _ h => (by cases h), fun _ _ _ h => (by cases h), fun _ _ => rfl, Frame0.refl _ _, fun _ _ _ h => (by cases h), hB, rfl⟩
  have hg := enter_good (fn := fn) (more := none') (nx := 0) ht rfl hargs
  have hBase : Base (zeroCtx w B y) none' 0 := ⟨fun _ h => h.elim, fun _ _ => rfl⟩
  refine wpIn_mono (evC_sound hE (plainT_stable r ⟨w, B⟩ none') (inlOf_sound hE (plainT_stable r ⟨w, B⟩ none') A d) (A g) c none 0 _ none' none' hBase rfl _ _ r _ _ _ _ he (plainT_enter r ⟨w, B⟩ none') (fun _ e => by cases e) hg) ?_
  rintro ex a' w' ⟨s', C', r', w0', M0', rfl, hT', hst, g', hk⟩
  obtain rfl := hT'.t.1
  unfold retK at hk
  cases hxr : isRet ex with
  | false => rw [hxr] at hk; cases hk
  | true =>
    rw [hxr, cond_true] at hk
    split at hk
    · rename_i xs hxs
      have fin : LeavesInM Fence.wide 0 E.P fn a'.tmps (fun e w' => ∃ v C'', e = .returned v ∧ C''.w = w' ∧ C''.tab = chg (fun _ => none) (encSs fresh sp.rs r).2 ∧ C''.yl = y ∧ TabOk ⟨w, B⟩ none' (fun i => ¬ (fresh ≤ i ∧ i < fresh + room)) C'' ∧ Rel C'' v (oneOf (encSs fresh sp.rs r).1)) a'.defers .returning C'.w := by
        refine (plain_end (w00 := ⟨w, B⟩) rfl g'.sim hT' hB fun C' g1 => ?_).2
        cases hb2 : (nodupB (Whence.ids (srcSs sp.rs xs)) && (froSs sp.rs xs).all (fun i => !(Whence.ids (srcSs sp.rs xs)).any (Nat.beq i)) && Nat.ble ((sp.rs.map Sh.ids).sum) room) with
        | false => rw [hb2] at hk; cases hk
        | true =>
          rw [hb2, cond_true] at hk
          rw [Bool.and_eq_true, Bool.and_eq_true] at hb2
          obtain ⟨⟨hn, hfro⟩, hroom⟩ := hb2
          have hnd := nodup_of hn
          have hdis : ∀ id ∈ froSs sp.rs xs, id ∉ Whence.ids (srcSs sp.rs xs) := fun id hid hm => by
            rw [List.all_eq_true] at hfro
            have := hfro id hid
            rw [Bool.not_eq_true'] at this
            rw [List.any_eq_true.2 ⟨id, hm, Nat.beq_refl id⟩] at this
            cases this
          have hle : (srcSs sp.rs xs).length ≤ room := by
            rw [srcSs_len hk]
            exact Nat.le_of_ble_eq_true hroom
          have hret : retSs C'.tab sp.rs xs = some r := by rw [g1.tab]; exact hk
          have hent := entSs (C := C') (S := srcSs sp.rs xs) (fresh := fresh) (m := 0) (rest := []) hret (by simp)
          rw [Nat.add_zero] at hent
          have hlist : ∃ vs', ((fn.results.toList).mapM (readVar a'.tmps)).run E.P C'.w = .ok vs' C'.w ∧ RelL C' vs' xs := resVs_rel (P := E.P) g1 hxs
          obtain ⟨v, h1, h2⟩ := results_rel (P := E.P) g1 hxs
          have hv : Rel (C'.hand (srcSs sp.rs xs) fresh (encSs fresh sp.rs r).2) v (oneOf (encSs fresh sp.rs r).1) := by
            obtain ⟨vs', h3, h4⟩ := hlist
            have h5 := handSs (ch := (encSs fresh sp.rs r).2) (m := 0) (rest := []) g1.ok hent hret (by simp) hdis h4
            rw [Nat.add_zero] at h5
            have hv' : v = (if h : vs'.toArray.size = 1 then vs'.toArray[0] else .tuple vs'.toArray) := by
              have hm : fn.results.mapM (readVar a'.tmps) = (do let l ← fn.results.toList.mapM (readVar a'.tmps); pure l.toArray) := by
                rw [Array.mapM_eq_mapM_toList]
                rfl
              have hres : results fn a'.tmps = (do
                  let vs ← fn.results.mapM (readVar a'.tmps)
                  pure (if h : vs.size = 1 then vs[0] else .tuple vs)) := by
                unfold results
                congr 1
              rw [hres, hm] at h1
              simp only [Sem.run_bind, h3, Result.andThen_ok, Sem.run_pure] at h1
              cases h1
              rfl
            subst hv'
            generalize (encSs fresh sp.rs r).1 = ys at h5
            cases h5 with
            | nil => exact .tup .nil
            | cons hv ht =>
              cases ht with
              | nil => exact hv
              | cons hv2 ht => exact .tup (.cons hv (.cons hv2 ht))
          exact ⟨v, h1, v, C'.hand (srcSs sp.rs xs) fresh (encSs fresh sp.rs r).2, rfl, rfl, rfl, g1.ext.yl, hand_tabOk g1.ok hent hnd hle, hv⟩
      rcases isRet_cases hxr with rfl | rfl
      · exact fin
      · exact fin
    · cases hk

end

section
variable {E : Env}

/-! ### Functions that are ranged over -/
/-- What such a function carries along: what it has yet to yield. -/
def genT {X : Type} (nG : Nat) (xs : List X) (J : Nat → Start → (Nat → Prop) → Prop) (Jx : Start → (Nat → Prop) → Prop) : Carry (List X) := fun r w M => nG ≤ w.heap.size ∧ ((∃ i, i ≤ xs.length ∧ r = xs.drop i ∧ J i w M) ∨ (r = [] ∧ Jx w M))

theorem genT_stable {X : Type} {nG : Nat} {xs : List X} {J : Nat → Start → (Nat → Prop) → Prop} {Jx : Start → (Nat → Prop) → Prop} (hJ : ∀ i w0 M0 w1 M1, J i w0 M0 → StepQ nG w0 M0 w1 M1 → J i w1 M1) (hJx : ∀ w0 M0 w1 M1, Jx w0 M0 → StepQ nG w0 M0 w1 M1 → Jx w1 M1) :
    StableQ nG (genT nG xs J Jx) :=
  ⟨fun _ _ _ _ _ ⟨h0, h⟩ k => ⟨Nat.le_trans h0 k.size, h.imp (fun ⟨i, h1, h2, h3⟩ => ⟨i, h1, h2, hJ i _ _ _ _ h3 k⟩) fun ⟨h1, h2⟩ => ⟨h1, hJx _ _ _ _ h2 k⟩⟩, fun _ _ _ h => h.1⟩

theorem gcons_some {X : Type} {x : X} {a b : Option (List X)} {r : List X} (h : gcons x a b = some r) : ∃ l, a = some l ∧ b = some [] ∧ r = x :: l := by
  unfold gcons at h
  split at h
  · cases h
    exact ⟨_, rfl, rfl, rfl⟩
  · cases h

theorem genI_sound {ys : List Sh} {nG l : Nat} {xs : List (ElSs ys)} {J : Nat → Start → (Nat → Prop) → Prop} {Jx : Start → (Nat → Prop) → Prop} (hJ : ∀ i w0 M0 w1 M1, J i w0 M0 → StepQ nG w0 M0 w1 M1 → J i w1 M1)
    (hround : ∀ i x w1 M1 (args : Array Value), J i w1 M1 → (∀ b, M1 b → b < w1.heap.size) → xs[i]? = some x → (∀ y, RelL (yieldCtx w1 M1 y) args.toList (argSs ys x)) →
      YieldAt Fence.wide 0 E.P l args w1.toWorld fun e w' => GKeep w1 M1 w' ∧ ((e = .returned (.bool true) ∧ J (i + 1) (behind w1 w') M1) ∨ (e = .returned (.bool false) ∧ Jx (behind w1 w') M1)))
    {inl : Inl (List (ElSs ys))} (hI : ∀ S, InlSound E (genT nG xs J Jx) S l inl) (S : Nat → Prop) : InlSound E (genT nG xs J Jx) S l (genI ys inl) := by
  intro g vs tab nx K r h w0 M0 more C args hy hT ht hm htab hr
  have other : (∀ l0, g ≠ .yield l0) → FnCalls E.P C.yl g args C.w fun e w' => ∃ v x C' nx' r' w0' M0', e = .returned v ∧ C'.w = w' ∧ Ext C C' ∧ Rel C' v x ∧ (genT nG xs J Jx).sh S r' w0' M0' ∧ StepW S w0 M0 w0' M0' ∧ TabOk w0' M0' (fun id => more id ∨ nx' ≤ id) C' ∧ nx ≤ nx' ∧ K x C'.tab nx' = some r' := fun hg => by
    refine hI S g vs tab nx K r ?_ w0 M0 more C args hy hT ht hm htab hr
    cases g <;> first | exact h | exact absurd rfl (hg _)
  cases g with
  | yield l0 =>
    simp only [genI] at h
    split at h
    · rename_i x c hd hc
      cases hrefs : ys.any Sh.refs with
      | true => rw [hrefs] at h; cases h
      | false =>
        rw [hrefs, cond_false] at h
        obtain ⟨l', ha, hb, rfl⟩ := gcons_some h
        subst htab
        obtain ⟨i, hile, hi, hJi⟩ : ∃ i, i ≤ xs.length ∧ x :: l' = xs.drop i ∧ J i w0 (fun b => M0 b ∨ S b) := by
          rcases hT.t.2 with h1 | ⟨h1, _⟩
          · exact h1
          · cases h1
        have hilt : i < xs.length := by
          rcases Nat.lt_or_ge i xs.length with h1 | h1
          · exact h1
          · rw [List.drop_eq_nil_of_le h1] at hi
            cases hi
        rw [List.drop_eq_getElem_cons hilt] at hi
        obtain ⟨hx, hl'⟩ := List.cons.inj hi
        have hfo := frz_of hc
        have hho : HidOf C.tab c := fun p hp => .inr (hfo p hp)
        have hfade : Fade C.tab (chg C.tab c) := hho.fade (Fade.refl _)
        have t1 := ht.fade hfade
        have x1 := hfade.ext
        have hmut : ∀ b, MutOf (C.setT (chg C.tab c)) b → M0 b ∨ w0.heap.size ≤ b := fun b hm => t1.mut_from hm
        have hSm : ∀ b, S b → ¬ MutOf (C.setT (chg C.tab c)) b := fun b hb hm => (hmut b hm).elim (hT.nm b hb) fun hle => absurd (hT.lt b hb) (Nat.not_lt.2 hle)
        have hSb : ∀ b, S b → ¬ C.base b := fun b hb => by
          rw [ht.bq]
          exact hT.nb b hb
        let w1 : Start := ⟨C.w, C.base⟩
        let M1 : Nat → Prop := fun b => MutOf (C.setT (chg C.tab c)) b ∨ S b
        have hJ1 : J i w1 M1 := by
          refine hJ i _ _ _ _ hJi ⟨ht.fr.os, ht.fr.tape, ht.fr.output, ht.fr.size, fun b hb hm => .inl (ht.fr.blk b hb fun h => hm (.inl h)), fun b hb => ?_, fun b hb => .inl (by rw [← ht.bq]; exact hb)⟩
          rcases hb with hb | hb
          · exact (hmut b hb).imp_left .inl
          · exact .inl (.inr hb)
        have hM1 : ∀ b, M1 b → b < w1.heap.size := fun b hb => by
          rcases hb with hb | hb
          · exact t1.mut_lt hb
          · exact Nat.lt_of_lt_of_le (hT.lt b hb) ht.fr.size
        have hargs : ∀ y0, RelL (yieldCtx w1 M1 y0) args.toList (argSs ys x) := fun y0 => by
          refine args_rel (yl := y0) ht (vw := C.tab) (fun _ _ h => h) (fun b => C.base b ∧ ¬ M1 b) (fun b hb => ?_) (.inl hrefs) hd (fun y hy' id p _ hid hp => ?_) hr
          · refine ⟨hb.1, fun hm => hm.elim (fun hm => ?_) fun hs => hSb b hs hb.1⟩
            exact (ok_iff.1 (hid_ok0 hho hb)).2 hm
          · obtain ⟨d, d1, d2⟩ := frz_parts hc y hy'
            have key : (match C.tab id with | some (.row true k T xs) => some [(id, some (Blk.fro k T xs))] | some (.fro _ _ _) => some [] | _ => none) = some d := by
              cases y <;> simp [AV.id?] at hid
              · subst hid
                exact d1
              · subst hid
                exact d1
            have hok : (C.setT (chg C.tab c)).ok p.b := by
              split at key
              · rename_i k' T xs' e1
                cases key
                exact hid_ok ht hho e1 hp rfl (.inr ⟨_, d2 _ (List.mem_singleton.2 rfl), rfl⟩)
              · rename_i k' T xs' e1
                exact hid_ok ht hho e1 hp rfl (.inl rfl)
              · cases key
            exact ⟨hok.1, fun hm => hm.elim (ok_iff.1 hok).2 fun hs => hSb _ hs hok.1⟩
        have hya := hround i x w1 M1 args hJ1 hM1 (by rw [List.getElem?_eq_getElem hilt, hx]) hargs
        show YieldAt Fence.wide 0 E.P C.yl args C.w _
        rw [hy]
        obtain ⟨fn, tmps, as, bd, hrun, hro⟩ := hya
        refine ⟨fn, tmps, as, bd, hrun, hro.mono ?_⟩
        rintro e w' ⟨gk, hcase⟩
        have hBf : ∀ b, w'.heap.size ≤ b → (behind w1 w').base b := fun b hb => ⟨t1.bf b (Nat.le_trans ht.fr.size (Nat.le_trans gk.size hb)), .inr hb⟩
        obtain ⟨x2, t2⟩ := t1.move (w' := w') (B' := (behind w1 w').base) gk.size (fun b cs T fr e hb => (gk.blk b (heap_lt e) (hb.imp (fun h => h) .inl)).trans e) (fun b hb hB => ⟨hB, .inl hb⟩) hBf
        have hst : StepW S w0 M0 (behind w1 w') (MutOf (C.setT (chg C.tab c))) := by
          refine ⟨gk.os.trans ht.fr.os, gk.tape.trans ht.fr.tape, gk.output.trans ht.fr.output, Nat.le_trans ht.fr.size gk.size, fun b hb hm hB => ?_, fun b hb hm hs => ?_, hmut⟩
          · have hlt : b < C.w.heap.size := Nat.lt_of_lt_of_le hb ht.fr.size
            have hB' : C.base b := by
              rw [ht.bq]
              exact hB
            exact ⟨(gk.blk b hlt (.inl hB')).trans (ht.fr.blk b hb hm), hB', .inl hlt⟩
          · exact (gk.blk b (Nat.lt_of_lt_of_le hb ht.fr.size) (.inr (.inr hs))).trans (ht.fr.blk b hb hm)
        have sh : ∀ {r'}, ((∃ i, i ≤ xs.length ∧ r' = xs.drop i ∧ J i (behind w1 w') M1) ∨ (r' = [] ∧ Jx (behind w1 w') M1)) → (genT nG xs J Jx).sh S r' (behind w1 w') (MutOf (C.setT (chg C.tab c))) := fun hc' =>
          ⟨⟨Nat.le_trans hT.t.1 (Nat.le_trans ht.fr.size gk.size), hc'⟩, fun b hb => Nat.lt_of_lt_of_le (hT.lt b hb) (Nat.le_trans ht.fr.size gk.size), fun b hb hB => hSb b hb hB.1, hSm⟩
        rcases hcase with ⟨rfl, hJ2⟩ | ⟨rfl, hJ2⟩
        · exact ⟨_, .bool true, (C.setT (chg C.tab c)).at w' (behind w1 w').base, nx, l', behind w1 w', _, rfl, rfl, x1.trans x2, .bool, sh (.inl ⟨i + 1, hilt, hl', hJ2⟩), hst, t2, Nat.le_refl _, ha⟩
        · exact ⟨_, .bool false, (C.setT (chg C.tab c)).at w' (behind w1 w').base, nx, [], behind w1 w', _, rfl, rfl, x1.trans x2, .bool, sh (.inr ⟨rfl, hJ2⟩), hst, t2, Nat.le_refl _, hb⟩
    · cases h
  | _ => exact other (by intro l0 e; cases e)

/-- What a function that is ranged over is evaluated to is what it yields. -/
theorem gcontract_of (hE : EnvOk E) {A : FuncId → Anns} {d : Nat} {g : FuncId} {fn : Func} {c : Code} {gs : GSpec} (hf : E.P.funcs[g]? = some fn) (hb : fn.body = some c)
    (h : ∀ a xs, gs.f E.k a = some xs → evG E A d g fn c gs.ks gs.ys a = some xs) : GContract E.P E.k g gs := by
  intro q xs hx w B l caps J Jx hB hcaps hJ hJx hround h0
  have he := h q xs hx
  unfold evG at he
  refine (callsIn_wide (n := 0)).1 (callsIn_of_wp_marks hf hb trivial ?_)
  have ht : TabOk ⟨w, B⟩ none' (fun id => none' id ∨ 0 ≤ id) (zeroCtx w B l) := by
    refine ⟨fun _ _ h => (by cases h), fun _ _ _ _ _ _ h => (by cases h), fun _ _ _ h => (by cases h), fun _ _ => rfl, Frame0.refl _ _, fun _ _ _ h => (by cases h), hB, rfl⟩
  have hargs : RelL (zeroCtx w B l) (#[Value.func (.yield l) #[] #[]] ++ caps).toList (.fn (.yield 0) [] :: argPs gs.ks q) := by
    rw [Array.toList_append]
    exact .cons (Rel.yld (C := zeroCtx w B l)) hcaps
  have hg := enter_good (fn := fn) (more := none') (nx := 0) ht rfl hargs
  have hBase : Base (zeroCtx w B l) none' 0 := ⟨fun _ h => h.elim, fun _ _ => rfl⟩
  have hst := genT_stable (xs := xs) hJ hJx
  have hT0 : (genT w.heap.size xs J Jx).sh none' xs ⟨w, B⟩ none' := by
    refine ⟨⟨Nat.le_refl _, .inl ⟨0, Nat.zero_le _, rfl, hJ 0 _ _ _ _ h0 ⟨rfl, rfl, rfl, Nat.le_refl _, fun _ _ _ => .inl rfl, fun _ h => h.elim .inl False.elim, fun _ h => .inl h⟩⟩⟩, fun _ h => h.elim, fun _ h => h.elim, fun _ h => h.elim⟩
  refine wpIn_mono (evC_sound hE hst (genI_sound hJ hround fun S => inlOf_sound hE hst A d S) (A g) c none 0 _ none' none' hBase rfl _ _ xs _ _ _ _ he hT0 (fun _ e => by cases e) hg) ?_
  rintro ex a' w' ⟨s', C', r', w0', M0', rfl, hT', hst', g', hk⟩
  unfold retG at hk
  cases hxr : isRet ex with
  | false => rw [hxr] at hk; cases hk
  | true =>
    rw [hxr, cond_true] at hk
    split at hk
    · rename_i xs' hxs
      cases hk
      obtain ⟨m1, m2⟩ := g'.sim.marks
      have fin := leave_marks (F := Fence.wide) (n := 0) (P := E.P) (fn := fn) (tmps := a'.tmps) (n0 := w.heap.size) (w := C'.w) (R := fun e w' => ∃ v, e = .returned v ∧ ∃ B' M', J xs.length ⟨w', B'⟩ M' ∨ Jx ⟨w', B'⟩ M')
        (fun w' hs => by
          have hush := hs.hush (Nat.le_refl _)
          have g2 := g'.sim.hush hush
          obtain ⟨v, h1, h2⟩ := results_rel (P := E.P) g2 hxs
          have hT2 := hT'.step hst (g'.sim.ok.stepQ hush)
          refine ⟨v, h1, v, rfl, C'.base, fun b => MutOf C' b ∨ none' b, ?_⟩
          rcases hT2.t.2 with ⟨i, hi, he2, hJ2⟩ | ⟨_, hJ2⟩
          · have : i = xs.length := by
              have := congrArg List.length he2
              rw [List.length_drop, List.length_nil] at this
              omega
            subst this
            exact .inl hJ2
          · exact .inr hJ2)
        a'.defers C'.w (Shut.refl _ _) m1 m2
      rcases isRet_cases hxr with rfl | rfl
      · exact fin
      · exact fin
    · cases hk

end

/-- What is known of each function that may be ranged over. -/
inductive AllG (P : Program) (k : Nat) : List (FuncId × GSpec) → Prop where
  | nil : AllG P k []
  | cons {g : FuncId} {s : GSpec} {l : List (FuncId × GSpec)} (h : GContract P k g s ∧ ∃ fn, P.funcs[g]? = some fn ∧ fn.body.isNone = false) (t : AllG P k l) : AllG P k ((g, s) :: l)

theorem AllG.get {P : Program} {k : Nat} : ∀ {l : List (FuncId × GSpec)}, AllG P k l → ∀ g s, tabGG l g = some s → GContract P k g s ∧ ∃ fn, P.funcs[g]? = some fn ∧ fn.body.isNone = false
  | _, .nil, g, s, h => by cases h
  | _, .cons (g := g0) (s := s0) (l := l) h t, g, s, e => by
    change (bif Nat.beq g g0 then some s0 else tabGG l g) = some s at e
    cases hb : Nat.beq g g0 with
    | true =>
      rw [hb] at e
      cases e
      rw [Nat.eq_of_beq_eq_true hb]
      exact h
    | false =>
      rw [hb] at e
      exact t.get g s e

/-- What is known of each function that may be called. -/
inductive AllC (P : Program) (k : Nat) : List (FuncId × Spec) → Prop where
  | nil : AllC P k []
  | cons {g : FuncId} {s : Spec} {l : List (FuncId × Spec)} (h : Contract P k (gOf g) s ∧ ∃ fn, P.funcs[gOf g]? = some fn ∧ fn.body.isNone = false) (t : AllC P k l) : AllC P k ((g, s) :: l)

theorem AllC.get {P : Program} {k : Nat} : ∀ {l : List (FuncId × Spec)}, AllC P k l → ∀ g s, tabG l g = some s → Contract P k (gOf g) s ∧ ∃ fn, P.funcs[gOf g]? = some fn ∧ fn.body.isNone = false
  | _, .nil, g, s, h => by cases h
  | _, .cons (g := g0) (s := s0) (l := l) h t, g, s, e => by
    change (bif Nat.beq g g0 then some s0 else tabG l g) = some s at e
    cases hb : Nat.beq g g0 with
    | true =>
      rw [hb] at e
      cases e
      rw [Nat.eq_of_beq_eq_true hb]
      exact h
    | false =>
      rw [hb] at e
      exact t.get g s e

/-- What is known of each function that writes into a row. -/
inductive AllB (P : Program) (k : Nat) : List (FuncId × BSpec) → Prop where
  | nil : AllB P k []
  | cons {g : FuncId} {s : BSpec} {l : List (FuncId × BSpec)} (h : ContractB P k g s ∧ ∃ fn, P.funcs[g]? = some fn ∧ fn.body.isNone = false) (t : AllB P k l) : AllB P k ((g, s) :: l)

theorem AllB.get {P : Program} {k : Nat} : ∀ {l : List (FuncId × BSpec)}, AllB P k l → ∀ g s, tabGB l g = some s → ContractB P k g s ∧ ∃ fn, P.funcs[g]? = some fn ∧ fn.body.isNone = false
  | _, .nil, g, s, h => by cases h
  | _, .cons (g := g0) (s := s0) (l := l) h t, g, s, e => by
    change (bif Nat.beq g g0 then some s0 else tabGB l g) = some s at e
    cases hb : Nat.beq g g0 with
    | true =>
      rw [hb] at e
      cases e
      rw [Nat.eq_of_beq_eq_true hb]
      exact h
    | false =>
      rw [hb] at e
      exact t.get g s e

theorem envOk_of {E : Env} {l : List (FuncId × Spec)} {lB : List (FuncId × BSpec)} {lG : List (FuncId × GSpec)} (hn : (E.P.funcs.all fun f => !(f.name == "runtime.NumGoroutine")) = true) (hm : E.P.follows .mixedOrders = true) (hG : E.G = tabG l) (hGB : E.GB = tabGB lB) (hGG : E.GG = tabGG lG) (hC : AllC E.P E.k l)
    (hCB : AllB E.P E.k lB) (hCG : AllG E.P E.k lG) : EnvOk E := by
  refine ⟨fun g fn h => ?_, hm, fun g s h => ?_, fun g s h => ?_, fun g s h => ?_⟩
  · have := Array.all_eq_true_iff_forall_mem.1 hn fn (Array.mem_of_getElem? h)
    simpa using this
  · rw [hG] at h
    exact hC.get g s h
  · rw [hGB] at h
    exact hCB.get g s h
  · rw [hGG] at h
    exact hCG.get g s h

section
variable {E : Env}

/-- What a function that writes into its first argument is evaluated to is what it does. -/
theorem contractB_of (hE : EnvOk E) {A : FuncId → Anns} {d : Nat} {g : FuncId} {fn : Func} {c : Code} {sp : BSpec} (hf : E.P.funcs[g]? = some fn) (hb : fn.body = some c)
    (h : ∀ xs off len a zs, sp.f E.k xs off len a = some zs → evB E A d g fn c sp.k sp.T sp.ps xs off len a = some zs) : ContractB E.P E.k g sp := by
  intro xs off len x zs hx w p vs hrow hargs
  have he := h xs off len x zs hx
  unfold evB at he
  refine (callsIn_wide (n := 0)).1 (callsIn_of_wp_marks hf hb trivial ?_)
  have ht0 : ∀ {i : Nat} {blk : Blk}, (startB w sp p xs).tab i = some blk → i = 0 ∧ blk = .row false sp.k sp.T xs := by
    intro i blk e
    cases i with
    | zero =>
      cases e
      exact ⟨rfl, rfl⟩
    | succ i => cases e
  have hio : ∀ {i : Nat}, 1 ≤ i → (startB w sp p xs).io i = none := by
    intro i hi
    cases hq : (startB w sp p xs).io i with
    | none => rfl
    | some q =>
      have := (startB_io hq).1
      omega
  have ht : TabOk ⟨w, fun _ => True⟩ (m0Of p) (fun id => none' id ∨ 1 ≤ id) (startB w sp p xs) := by
    refine ⟨fun i blk e => ?_, fun i i' q q' b b' e e' _ _ _ => ?_, fun i q blk e hq _ => ?_, fun i hi => ?_, Frame0.refl _ _, fun _ _ _ _ _ _ => trivial, fun _ _ => trivial, rfl⟩
    · obtain ⟨rfl, rfl⟩ := ht0 e
      exact ⟨p, startB_at, hrow⟩
    · rw [(ht0 e).1, (ht0 e').1]
    · obtain ⟨_, rfl⟩ := startB_io hq
      exact .inr ⟨q, rfl, rfl⟩
    · rcases hi with hi | hi
      · exact hi.elim
      · exact hio hi
  have hg := enter_good (fn := fn) (more := none') (nx := 1) ht rfl hargs
  have hBase : Base (startB w sp p xs) none' 1 := ⟨fun _ h => h.elim, fun _ hi => hio hi⟩
  refine wpIn_mono (evC_sound hE (plainT_stable zs ⟨w, fun _ => True⟩ (m0Of p)) (inlOf_sound hE (plainT_stable zs ⟨w, fun _ => True⟩ (m0Of p)) A d) (A g) c none 1 _ none' none' hBase rfl _ _ zs _ _ _ _ he (plainT_enter zs ⟨w, fun _ => True⟩ (m0Of p)) (fun _ e => by cases e) hg) ?_
  rintro ex a' w' ⟨s', C', r', w0', M0', rfl, hT', hst, g', hk⟩
  obtain rfl := hT'.t.1
  unfold retB at hk
  cases hxr : isRet ex with
  | false => rw [hxr] at hk; cases hk
  | true =>
    rw [hxr, cond_true] at hk
    split at hk
    · rename_i hxs
      split at hk
      · rename_i k' T' ys htab
        split at hk
        · rename_i hkk
          subst hkk
          cases hT : Nat.beq T' sp.T with
          | false => rw [hT] at hk; cases hk
          | true =>
            rw [hT, cond_true] at hk
            cases hk
            obtain rfl := Nat.eq_of_beq_eq_true hT
            have fin : LeavesInM Fence.wide 0 E.P fn a'.tmps (fun e w' => ∃ v C'', e = .returned v ∧ C''.w = w' ∧ C''.tab 0 = some (.row false sp.k sp.T (castR rfl ys)) ∧
                TabOk ⟨w, fun _ => True⟩ (m0Of p) (fun _ => False) C'' ∧ Ext (startB w sp p xs) C'' ∧ Rel C'' v (.tup [])) a'.defers .returning C'.w := by
              refine (plain_end (w00 := ⟨w, fun _ => True⟩) rfl g'.sim hT' (fun _ _ => trivial) fun C' g1 => ?_).2
              obtain ⟨v, h1, h2⟩ := results_rel (P := E.P) g1 hxs
              have h3 : C'.tab 0 = some (.row false sp.k sp.T (castR rfl ys)) := by
                rw [g1.tab, castR_rfl]
                exact htab
              exact ⟨v, h1, v, C', rfl, rfl, h3, g1.ok.weak (fun _ h => h.elim), g1.ext, h2⟩
            rcases isRet_cases hxr with rfl | rfl
            · exact fin
            · exact fin
        · cases hk
      · cases hk
    · cases hk

end

end Go.Proofs.Ytmjbjlhjpdebjaa.Mini
