/- A small machine over plain data: functions. -/
import Derived.Test.YtbbmdflfonifnaaXML
namespace Go.Proofs.Ytbbmdflfonifnaa.Mini
open Go Go.RowKit

section
variable {E : Env} {w0 : Start} {M0 more av : Nat → Prop} {C C0 : Ctx} {a : Act} {s : St}

theorem enter_good {fn : Func} {args : Array Value} {vs : List AV} {tab : Tab} {nx : Nat} (ht : TabOk w0 M0 (fun id => more id ∨ nx ≤ id) C) (htab : C.tab = tab) (hr : RelL C args.toList vs) :
    Good C w0 M0 more nx (stAt fn vs tab nx) { tmps := args ++ Array.replicate (fn.ntmps - args.size) undef, defers := [] } C := by
  have hlen : args.size = vs.length := by
    rw [← Array.length_toList]
    exact hr.length
  refine ⟨⟨?_, fun t => ?_, htab, ht, Ext.refl C, rfl⟩, Nat.le_refl _⟩
  · show (args ++ Array.replicate (fn.ntmps - args.size) undef).size = max fn.ntmps vs.length
    rw [Array.size_append, Array.size_replicate, hlen]
    omega
  · show Rel C ((args ++ Array.replicate (fn.ntmps - args.size) undef).getD t undef) (vs.getD t (.tup []))
    by_cases h : t < args.size
    · obtain ⟨v, h1, h2⟩ := hr.get (i := t) (x := vs[t]'(by omega)) (by simp)
      rw [Array.getElem?_toList] at h1
      have e1 : (args ++ Array.replicate (fn.ntmps - args.size) undef).getD t undef = v := by
        rw [Array.getD_eq_getD_getElem?, Array.getElem?_append_left h, h1]
        rfl
      have e2 : vs.getD t (.tup []) = vs[t]'(by omega) := by
        rw [List.getD_eq_getElem?_getD, List.getElem?_eq_getElem (by omega)]
        rfl
      rw [e1, e2]
      exact h2
    · have e1 : (args ++ Array.replicate (fn.ntmps - args.size) undef).getD t undef = undef := by
        rw [Array.getD_eq_getD_getElem?, Array.getElem?_append_right (by omega), Array.getElem?_replicate]
        split <;> rfl
      have e2 : vs.getD t (.tup []) = .tup [] := by
        rw [List.getD_eq_getElem?_getD, List.getElem?_eq_none (by omega)]
        rfl
      rw [e1, e2]
      exact .tup .nil

def readVar (tmps : Array Value) : ResultVar → Sem Value
  | .tmp t => pure (tmps.getD t undef)
  | .cell a t => do loadVar t (← asAddr (tmps.getD a undef))

theorem resVs_rel {P : Program} (h : Sim C0 w0 M0 av s a C) : ∀ {rs : List ResultVar} {xs : List AV}, resVs P s rs = some xs → ∃ vs, (rs.mapM (readVar a.tmps)).run P C.w = .ok vs C.w ∧ RelL C vs xs
  | [], xs, e => by
    cases e
    exact ⟨[], by simp, .nil⟩
  | r :: rs, xs, e => by
    unfold resVs at e
    split at e
    · rename_i v hv
      split at e
      · rename_i ws hw
        cases e
        obtain ⟨vs, h1, h2⟩ := resVs_rel (P := P) h hw
        cases r with
        | tmp t =>
          cases hv
          refine ⟨a.tmps.getD t undef :: vs, ?_, .cons (h.tm t) h2⟩
          rw [List.mapM_cons]
          simp only [readVar, Sem.run_bind, Sem.run_pure, Result.andThen_ok, h1]
        | cell b t =>
          simp only [resV] at hv
          split at hv
          · rename_i id off hp
            split at hv
            · rename_i T l ht
              have hx := h.tm b
              rw [hp] at hx
              generalize hpv : a.tmps.getD b undef = pv at hx
              cases hx with
              | ptr hx =>
                obtain ⟨_, ad, rfl, hb⟩ := hx
                have e1 : C.tab id = some (.cells T l) := by rw [h.tab]; exact ht
                obtain ⟨T', l', p, hc, hp', ho, rfl⟩ := hb _ e1
                cases hc
                obtain ⟨p', hp2, hbr⟩ := h.ok.bl id _ e1
                rw [hp'] at hp2
                cases hp2
                obtain ⟨q, hq, _, cs, hh, hl⟩ := hbr
                cases hq
                have hl' := hl.drop off
                rw [show cs.toList.drop off = (cs.toList.drop off).take (cs.toList.drop off).length from (List.take_length).symm] at hl'
                obtain ⟨u, h3, h4⟩ := takeT_load hv hh hl'
                refine ⟨u :: vs, ?_, .cons h4 h2⟩
                rw [List.mapM_cons]
                have h5 : (readVar a.tmps (.cell b t)).run P C.w = .ok u C.w := by
                  simp only [readVar, hpv, asAddr, Sem.run_bind, Sem.run_pure, Result.andThen_ok]
                  exact h3
                simp only [h5, Sem.run_bind, Sem.run_pure, Result.andThen_ok, h1]
            · cases hv
          · cases hv
      · cases e
    · cases e

theorem results_rel {P : Program} {fn : Func} (h : Sim C0 w0 M0 av s a C) {xs : List AV} (e : resVs P s fn.results.toList = some xs) : ∃ v, (results fn a.tmps).run P C.w = .ok v C.w ∧ Rel C v (oneOf xs) := by
  obtain ⟨vs, h1, h2⟩ := resVs_rel (P := P) h e
  have hm : fn.results.mapM (readVar a.tmps) = (do let l ← fn.results.toList.mapM (readVar a.tmps); pure l.toArray) := by
    rw [Array.mapM_eq_mapM_toList]
    rfl
  have hres : results fn a.tmps = (do
      let vs ← fn.results.mapM (readVar a.tmps)
      pure (if h : vs.size = 1 then vs[0] else .tuple vs)) := by
    unfold results
    congr 1
  rw [hres, hm]
  simp only [Sem.run_bind, h1, Result.andThen_ok, Sem.run_pure]
  refine ⟨_, rfl, ?_⟩
  cases h2 with
  | nil => exact .tup .nil
  | cons hv ht =>
    cases ht with
    | nil => exact hv
    | cons hv2 ht => exact .tup (.cons hv (.cons hv2 ht))

theorem isRet_cases {ex : Exit} (h : isRet ex = true) : ex = .normal ∨ ex = .ret := by
  cases ex <;> first | exact .inl rfl | exact .inr rfl | cases h

theorem inlOf_sound {R : Type} (hE : EnvOk E) (A : FuncId → Anns) : ∀ d, InlSound E (inlOf E A d : Inl R)
  | 0 => fun g vs tab nx K r h => by cases h
  | d + 1 => fun g vs tab nx K r h w0 M0 more C args ht hm htab hr => by
    unfold inlOf at h
    split at h
    · rename_i fn hfn
      split at h
      · rename_i c hc
        refine ⟨fn, hfn, by rw [hc]; rfl, calls_of_wp hfn hc ?_⟩
        have hg := enter_good (fn := fn) ht htab hr
        have hB : Base C more nx := ⟨hm, fun id hid => ht.av id (.inr hid)⟩
        refine wp_mono (evC_sound hE (inlOf_sound hE A d) hB (A g) c _ _ r _ C h hg) ?_
        rintro ex a' w' ⟨s', C', rfl, g', hk⟩
        simp only [] at hk
        cases hx : isRet ex with
        | false => rw [hx] at hk; cases hk
        | true =>
          rw [hx, cond_true] at hk
          split at hk
          · rename_i xs hxs
            obtain ⟨v, h1, h2⟩ := results_rel (P := E.P) g'.sim hxs
            have fin : a'.defers = [] ∧ ∃ v, (results fn a'.tmps).run E.P C'.w = .ok v C'.w ∧ ∃ v' x C'' nx', Ending.returned v = .returned v' ∧ C''.w = C'.w ∧ Ext C C'' ∧ Rel C'' v' x ∧ TabOk w0 M0 (fun id => more id ∨ nx' ≤ id) C'' ∧ nx ≤ nx' ∧ K x C''.tab nx' = some r :=
              ⟨g'.sim.defers, v, h1, v, _, C', s'.nx, rfl, rfl, g'.sim.ext, h2, g'.sim.ok, g'.lo, by rw [g'.sim.tab]; exact hk⟩
            rcases isRet_cases hx with rfl | rfl
            · exact fin
            · exact fin
          · cases hk
      · cases h
    · cases h

/-- What a function is evaluated to is what it does. -/
theorem contract_of (hE : EnvOk E) {A : FuncId → Anns} {d : Nat} {g : FuncId} {fn : Func} {c : Code} {sp : Spec} (hf : E.P.funcs[g]? = some fn) (hb : fn.body = some c)
    (h : ∀ a r, sp.f E.k a = some r → evF E A d g fn c sp.ps sp.rs a = some r) : Contract E.P E.k g sp := by
  intro x r hx w B vs fresh hB hargs
  have he := h x r hx
  unfold evF at he
  refine calls_of_wp hf hb ?_
  have ht : TabOk ⟨w, B⟩ none' (fun id => none' id ∨ 0 ≤ id) (zeroCtx w B) := by
    refine ⟨fun _ _ h => (by cases h), fun _ _ _ _ _ _ h => (by cases h), fun _ _ _ h => (by cases h), fun _ _ => rfl, Frame0.refl _ _, fun _ _ _ h => (by cases h), hB, rfl⟩
  have hg := enter_good (fn := fn) (more := none') (nx := 0) ht rfl hargs
  have hBase : Base (zeroCtx w B) none' 0 := ⟨fun _ h => h.elim, fun _ _ => rfl⟩
  refine wp_mono (evC_sound hE (inlOf_sound hE A d) hBase (A g) c _ _ r _ _ he hg) ?_
  rintro ex a' w' ⟨s', C', rfl, g', hk⟩
  unfold retK at hk
  cases hxr : isRet ex with
  | false => rw [hxr] at hk; cases hk
  | true =>
    rw [hxr, cond_true] at hk
    split at hk
    · rename_i xs hxs
      cases hb2 : (nodupB (Whence.ids (srcSs sp.rs xs)) && (froSs sp.rs xs).all (fun i => !(Whence.ids (srcSs sp.rs xs)).any (Nat.beq i)) && Nat.ble ((sp.rs.map Sh.ids).sum) room) with
      | false => rw [hb2] at hk; cases hk
      | true =>
        rw [hb2, cond_true] at hk
        rw [Bool.and_eq_true, Bool.and_eq_true] at hb2
        obtain ⟨⟨hn, hfro⟩, hroom⟩ := hb2
        have hnd := nodup_of hn
        have hdis : ∀ id ∈ froSs sp.rs xs, id ∉ Whence.ids (srcSs sp.rs xs) := fun id hid hm => by
          rw [List.all_eq_true] at hfro
          have := hfro id hid
          rw [Bool.not_eq_true'] at this
          rw [List.any_eq_true.2 ⟨id, hm, Nat.beq_refl id⟩] at this
          cases this
        have hle : (srcSs sp.rs xs).length ≤ room := by
          rw [srcSs_len hk]
          exact Nat.le_of_ble_eq_true hroom
        have hret : retSs C'.tab sp.rs xs = some r := by rw [g'.sim.tab]; exact hk
        have hent := entSs (C := C') (S := srcSs sp.rs xs) (fresh := fresh) (m := 0) (rest := []) hret (by simp)
        rw [Nat.add_zero] at hent
        have hlist : ∃ vs', ((fn.results.toList).mapM (readVar a'.tmps)).run E.P C'.w = .ok vs' C'.w ∧ RelL C' vs' xs := resVs_rel (P := E.P) g'.sim hxs
        obtain ⟨v, h1, h2⟩ := results_rel (P := E.P) g'.sim hxs
        have hv : Rel (C'.hand (srcSs sp.rs xs) fresh (encSs fresh sp.rs r).2) v (oneOf (encSs fresh sp.rs r).1) := by
          obtain ⟨vs', h3, h4⟩ := hlist
          have h5 := handSs (ch := (encSs fresh sp.rs r).2) (m := 0) (rest := []) g'.sim.ok hent hret (by simp) hdis h4
          rw [Nat.add_zero] at h5
          have hv' : v = (if h : vs'.toArray.size = 1 then vs'.toArray[0] else .tuple vs'.toArray) := by
            have hm : fn.results.mapM (readVar a'.tmps) = (do let l ← fn.results.toList.mapM (readVar a'.tmps); pure l.toArray) := by
              rw [Array.mapM_eq_mapM_toList]
              rfl
            have hres : results fn a'.tmps = (do
                let vs ← fn.results.mapM (readVar a'.tmps)
                pure (if h : vs.size = 1 then vs[0] else .tuple vs)) := by
              unfold results
              congr 1
            rw [hres, hm] at h1
            simp only [Sem.run_bind, h3, Result.andThen_ok, Sem.run_pure] at h1
            cases h1
            rfl
          subst hv'
          generalize (encSs fresh sp.rs r).1 = ys at h5
          cases h5 with
          | nil => exact .tup .nil
          | cons hv ht =>
            cases ht with
            | nil => exact hv
            | cons hv2 ht => exact .tup (.cons hv (.cons hv2 ht))
        have fin : a'.defers = [] ∧ ∃ v, (results fn a'.tmps).run E.P C'.w = .ok v C'.w ∧ ∃ v' C'', Ending.returned v = .returned v' ∧ C''.w = C'.w ∧ C''.tab = chg (fun _ => none) (encSs fresh sp.rs r).2 ∧
            TabOk ⟨w, B⟩ none' (fun i => ¬ (fresh ≤ i ∧ i < fresh + room)) C'' ∧ Rel C'' v' (oneOf (encSs fresh sp.rs r).1) :=
          ⟨g'.sim.defers, v, h1, v, C'.hand (srcSs sp.rs xs) fresh (encSs fresh sp.rs r).2, rfl, rfl, rfl, hand_tabOk g'.sim.ok hent hnd hle, hv⟩
        rcases isRet_cases hxr with rfl | rfl
        · exact fin
        · exact fin
    · cases hk

end

/-- What is known of each function that may be called. -/
inductive AllC (P : Program) (k : Nat) : List (FuncId × Spec) → Prop where
  | nil : AllC P k []
  | cons {g : FuncId} {s : Spec} {l : List (FuncId × Spec)} (h : Contract P k (gOf g) s ∧ ∃ fn, P.funcs[gOf g]? = some fn ∧ fn.body.isNone = false) (t : AllC P k l) : AllC P k ((g, s) :: l)

theorem AllC.get {P : Program} {k : Nat} : ∀ {l : List (FuncId × Spec)}, AllC P k l → ∀ g s, tabG l g = some s → Contract P k (gOf g) s ∧ ∃ fn, P.funcs[gOf g]? = some fn ∧ fn.body.isNone = false
  | _, .nil, g, s, h => by cases h
  | _, .cons (g := g0) (s := s0) (l := l) h t, g, s, e => by
    change (bif Nat.beq g g0 then some s0 else tabG l g) = some s at e
    cases hb : Nat.beq g g0 with
    | true =>
      rw [hb] at e
      cases e
      rw [Nat.eq_of_beq_eq_true hb]
      exact h
    | false =>
      rw [hb] at e
      exact t.get g s e

/-- What is known of each function that writes into a row. -/
inductive AllB (P : Program) (k : Nat) : List (FuncId × BSpec) → Prop where
  | nil : AllB P k []
  | cons {g : FuncId} {s : BSpec} {l : List (FuncId × BSpec)} (h : ContractB P k g s ∧ ∃ fn, P.funcs[g]? = some fn ∧ fn.body.isNone = false) (t : AllB P k l) : AllB P k ((g, s) :: l)

theorem AllB.get {P : Program} {k : Nat} : ∀ {l : List (FuncId × BSpec)}, AllB P k l → ∀ g s, tabGB l g = some s → ContractB P k g s ∧ ∃ fn, P.funcs[g]? = some fn ∧ fn.body.isNone = false
  | _, .nil, g, s, h => by cases h
  | _, .cons (g := g0) (s := s0) (l := l) h t, g, s, e => by
    change (bif Nat.beq g g0 then some s0 else tabGB l g) = some s at e
    cases hb : Nat.beq g g0 with
    | true =>
      rw [hb] at e
      cases e
      rw [Nat.eq_of_beq_eq_true hb]
      exact h
    | false =>
      rw [hb] at e
      exact t.get g s e

theorem envOk_of {E : Env} {l : List (FuncId × Spec)} {lB : List (FuncId × BSpec)} (hn : (E.P.funcs.all fun f => !(f.name == "runtime.NumGoroutine")) = true) (hm : E.P.follows .mixedOrders = true) (hG : E.G = tabG l) (hGB : E.GB = tabGB lB) (hC : AllC E.P E.k l)
    (hCB : AllB E.P E.k lB) : EnvOk E := by
  refine ⟨fun g fn h => ?_, hm, fun g s h => ?_, fun g s h => ?_⟩
  · have := Array.all_eq_true_iff_forall_mem.1 hn fn (Array.mem_of_getElem? h)
    simpa using this
  · rw [hG] at h
    exact hC.get g s h
  · rw [hGB] at h
    exact hCB.get g s h

section
variable {E : Env}

/-- What a function that writes into its first argument is evaluated to is what it does. -/
theorem contractB_of (hE : EnvOk E) {A : FuncId → Anns} {d : Nat} {g : FuncId} {fn : Func} {c : Code} {sp : BSpec} (hf : E.P.funcs[g]? = some fn) (hb : fn.body = some c)
    (h : ∀ xs off len a zs, sp.f E.k xs off len a = some zs → evB E A d g fn c sp.k sp.T sp.ps xs off len a = some zs) : ContractB E.P E.k g sp := by
  intro xs off len x zs hx w p vs hrow hargs
  have he := h xs off len x zs hx
  unfold evB at he
  refine calls_of_wp hf hb ?_
  have ht0 : ∀ {i : Nat} {blk : Blk}, (startB w sp p xs).tab i = some blk → i = 0 ∧ blk = .row false sp.k sp.T xs := by
    intro i blk e
    cases i with
    | zero =>
      cases e
      exact ⟨rfl, rfl⟩
    | succ i => cases e
  have hio : ∀ {i : Nat}, 1 ≤ i → (startB w sp p xs).io i = none := by
    intro i hi
    cases hq : (startB w sp p xs).io i with
    | none => rfl
    | some q =>
      have := (startB_io hq).1
      omega
  have ht : TabOk ⟨w, fun _ => True⟩ (m0Of p) (fun id => none' id ∨ 1 ≤ id) (startB w sp p xs) := by
    refine ⟨fun i blk e => ?_, fun i i' q q' b b' e e' _ _ _ => ?_, fun i q blk e hq _ => ?_, fun i hi => ?_, Frame0.refl _ _, fun _ _ _ _ _ _ => trivial, fun _ _ => trivial, rfl⟩
    · obtain ⟨rfl, rfl⟩ := ht0 e
      exact ⟨p, startB_at, hrow⟩
    · rw [(ht0 e).1, (ht0 e').1]
    · obtain ⟨_, rfl⟩ := startB_io hq
      exact .inr ⟨q, rfl, rfl⟩
    · rcases hi with hi | hi
      · exact hi.elim
      · exact hio hi
  have hg := enter_good (fn := fn) (more := none') (nx := 1) ht rfl hargs
  have hBase : Base (startB w sp p xs) none' 1 := ⟨fun _ h => h.elim, fun _ hi => hio hi⟩
  refine wp_mono (evC_sound hE (inlOf_sound hE A d) hBase (A g) c _ _ zs _ _ he hg) ?_
  rintro ex a' w' ⟨s', C', rfl, g', hk⟩
  unfold retB at hk
  cases hxr : isRet ex with
  | false => rw [hxr] at hk; cases hk
  | true =>
    rw [hxr, cond_true] at hk
    split at hk
    · rename_i hxs
      split at hk
      · rename_i k' T' ys htab
        split at hk
        · rename_i hkk
          subst hkk
          cases hT : Nat.beq T' sp.T with
          | false => rw [hT] at hk; cases hk
          | true =>
            rw [hT, cond_true] at hk
            cases hk
            obtain rfl := Nat.eq_of_beq_eq_true hT
            obtain ⟨v, h1, h2⟩ := results_rel (P := E.P) g'.sim hxs
            have h3 : C'.tab 0 = some (.row false sp.k sp.T (castR rfl ys)) := by
              rw [g'.sim.tab, castR_rfl]
              exact htab
            have fin : a'.defers = [] ∧ ∃ v, (results fn a'.tmps).run E.P C'.w = .ok v C'.w ∧ ∃ v' C'', Ending.returned v = .returned v' ∧ C''.w = C'.w ∧ C''.tab 0 = some (.row false sp.k sp.T (castR rfl ys)) ∧
                TabOk ⟨w, fun _ => True⟩ (m0Of p) (fun _ => False) C'' ∧ Ext (startB w sp p xs) C'' ∧ Rel C'' v' (.tup []) :=
              ⟨g'.sim.defers, v, h1, v, C', rfl, rfl, h3, g'.sim.ok.weak (fun _ h => h.elim), g'.sim.ext, h2⟩
            rcases isRet_cases hxr with rfl | rfl
            · exact fin
            · exact fin
        · cases hk
      · cases hk
    · cases hk

end

end Go.Proofs.Ytbbmdflfonifnaa.Mini
