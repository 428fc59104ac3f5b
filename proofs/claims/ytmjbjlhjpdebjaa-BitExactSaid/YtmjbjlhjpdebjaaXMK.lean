/- A small machine over plain data: code does what it is told to do. -/
import Derived.Test.YtmjbjlhjpdebjaaXMJ
import Derived.RangeFuncKeeps
namespace Go.Proofs.Ytmjbjlhjpdebjaa.Mini
open Go Go.RowKit

/-- What a walk carries along: what is still to be told, from where on, and what may be turned. -/
abbrev Carry (R : Type) := R → Start → (Nat → Prop) → Prop

structure StableQ {R : Type} (n0 : Nat) (T : Carry R) : Prop where
  step : ∀ r w0 M0 w1 M1, T r w0 M0 → StepQ n0 w0 M0 w1 M1 → T r w1 M1
  size : ∀ r w0 M0, T r w0 M0 → n0 ≤ w0.heap.size

/-- S: what others write. -/
structure Carry.sh {R : Type} (T : Carry R) (S : Nat → Prop) (r : R) (w0 : Start) (M0 : Nat → Prop) : Prop where
  t : T r w0 fun b => M0 b ∨ S b
  lt : ∀ b, S b → b < w0.heap.size
  nb : ∀ b, S b → ¬ w0.base b
  nm : ∀ b, S b → ¬ M0 b

theorem Carry.sh.step {R : Type} {n0 : Nat} {T : Carry R} (hT : StableQ n0 T) {S : Nat → Prop} {r : R} {w0 w1 : Start} {M0 M1 : Nat → Prop} (h : T.sh S r w0 M0) (k : StepQ n0 w0 M0 w1 M1) : T.sh S r w1 M1 := by
  refine ⟨hT.step r w0 _ w1 _ h.t ⟨k.os, k.tape, k.output, k.size, fun b hb hm => k.blk b hb fun hM => hm (.inl hM), fun b hb => ?_, fun b hb => ?_⟩, fun b hb => Nat.lt_of_lt_of_le (h.lt b hb) k.size, fun b hb hB => ?_, fun b hb hM => ?_⟩
  · rcases hb with hb | hb
    · exact (k.mb b hb).imp_left .inl
    · exact .inl (.inr hb)
  · rcases k.base b hb with h1 | h1 | ⟨h1, h2⟩
    · exact .inl h1
    · exact .inr (.inl h1)
    · exact .inr (.inr ⟨h1, .inl h2⟩)
  · rcases k.base b hB with h1 | h1 | ⟨_, h2⟩
    · exact h.nb b hb h1
    · exact absurd (h.lt b hb) (Nat.not_lt.2 h1)
    · exact h.nm b hb h2
  · exact (k.mb b hM).elim (h.nm b hb) fun h1 => absurd (h.lt b hb) (Nat.not_lt.2 h1)

/-- What calling a function value comes to; y: the record in which this runs. -/
def FnCalls (P : Program) (y : Nat) (f : Fn) (args : Array Value) (w : World) (Q : Ending → World → Prop) : Prop := match f with
  | .func g => ∃ fn, P.funcs[g]? = some fn ∧ fn.body.isNone = false ∧ Calls P g args w Q
  | .yield _ => YieldAt Fence.wide 0 P y args w Q
  | _ => False

/-- A call that is walked in place does what it is told to do. -/
def InlSound {R : Type} (E : Env) (T : Carry R) (S : Nat → Prop) (y : Nat) (inl : Inl R) : Prop :=
  ∀ (g : Fn) vs tab nx K r, inl g vs tab nx K = some r → ∀ (w0 : Start) (M0 more : Nat → Prop) (C : Ctx) (args : Array Value), C.yl = y → T.sh S r w0 M0 → TabOk w0 M0 (fun id => more id ∨ nx ≤ id) C → (∀ id, more id → id < nx) → C.tab = tab → RelL C args.toList vs →
    FnCalls E.P C.yl g args C.w fun e w' => ∃ v x C' nx' r' w0' M0', e = .returned v ∧ C'.w = w' ∧ Ext C C' ∧ Rel C' v x ∧ T.sh S r' w0' M0' ∧ StepW S w0 M0 w0' M0' ∧ TabOk w0' M0' (fun id => more id ∨ nx' ≤ id) C' ∧ nx ≤ nx' ∧ K x C'.tab nx' = some r'

section
variable {E : Env} {w0 : Start} {M0 more : Nat → Prop} {C C0 : Ctx} {a : Act} {s s' : St} {ops : Array Oper} {base i n : Nat} {o : Oper}

/-- The ids that are not taken: in a region whose operations from i on are still to come. -/
def avq (more : Nat → Prop) (base i n nx : Nat) (id : Nat) : Prop := more id ∨ (base + room * i ≤ id ∧ id < base + room * n) ∨ nx ≤ id

theorem both_eq {R : Type} {a b : Option R} {r : R} (h : both a b = some r) : a = some r ∧ b = some r := by
  unfold both at h
  split at h
  · rename_i e
    exact ⟨h, e ▸ h⟩
  · cases h

theorem nilK_eq {R : Type} {e : Bool} {a b : Option R} {r : R} (h : nilK e a b = some r) : b = some r ∧ (e = true → a = some r) := by
  unfold nilK at h
  cases e with
  | true =>
    obtain ⟨h1, h2⟩ := both_eq h
    exact ⟨h2, fun _ => h1⟩
  | false => exact ⟨h, fun h => by cases h⟩

theorem equal_slice {P : Program} {ty e : TypeId} (hu : P.underlying ty = some (.slice e)) (A : Option Addr) (n c m d : Nat) (w : World) : (Op.equal ty (.slice A n c) (.slice none m d)).run P w = .ok A.isNone w := by
  refine run_equal ?_
  rw [Op.equalIn, Sem.run_bind, run_underlying hu]
  cases A <;> rfl

/-- If it is nil, it may be. -/
theorem nil_spec (h : Sim C0 w0 M0 more s a C) {v : Value} {x : AV} {e : Bool} (hv : Rel C v x) (hn : nilOf s.tab x = some e) : ∃ A n c, v = .slice A n c ∧ (A.isNone = true → e = true) := by
  have sl : ∀ {id off : Nat} {len : Option Nat} {k : Kd} {T : TypeId} {xs : List (El k)} {blk : Blk}, SlRel C v id off len → C.tab id = some blk → RowLike blk k T xs → ∃ A n c, v = .slice A n c ∧ n = len.getD xs.length ∧ (A.isNone = true → n = 0) := by
    intro id off len k T xs blk hs ht hr
    obtain ⟨_, A, n, c, rfl, h2⟩ := hs
    obtain ⟨k', T', xs', hr', h3, _, h5, h6⟩ := h2 blk ht
    obtain ⟨rfl, rfl, hx⟩ := hr'.uniq hr
    cases hx
    refine ⟨A, n, c, rfl, h3, fun hA => ?_⟩
    rcases h6 with ⟨_, h6⟩ | ⟨p, _, h6, _⟩
    · omega
    · rcases Nat.eq_zero_or_pos c with hc | hc
      · omega
      · rw [h6 hc] at hA
        cases hA
  cases hv with
  | row h =>
    rename_i k xs
    cases hn
    obtain ⟨A, c, hc, _, hr⟩ := h
    cases hc
    refine ⟨A, _, c, rfl, fun hA => ?_⟩
    cases xs with
    | nil => rfl
    | cons y ys =>
      obtain ⟨ad, rfl, _⟩ := hr (by simp)
      cases hA
  | nils =>
    cases hn
    exact ⟨_, _, _, rfl, fun _ => rfl⟩
  | own hs =>
    simp only [nilOf] at hn
    split at hn
    · rename_i ht
      cases hn
      obtain ⟨A, n, c, rfl, h1, h2⟩ := sl hs (by rw [h.tab]; exact ht) (.inl ⟨_, rfl⟩)
      refine ⟨A, n, c, rfl, fun hA => ?_⟩
      have := h2 hA
      rw [h1] at this
      exact List.isEmpty_iff_length_eq_zero.2 this
    · rename_i ht
      cases hn
      obtain ⟨A, n, c, rfl, h1, h2⟩ := sl hs (by rw [h.tab]; exact ht) (.inr rfl)
      refine ⟨A, n, c, rfl, fun hA => ?_⟩
      have := h2 hA
      rw [h1] at this
      exact List.isEmpty_iff_length_eq_zero.2 this
    · cases hn
  | _ => cases hn

theorem eql_wp {P : Program} {o : Oper} {t e : TypeId} {x : Operand} {m d : Nat} {ty : TypeId} (hop : o.op = .binOp .eql t x (.const (.slice none m d)) ty) (hu : P.underlying t = some (.slice e)) {A : Option Addr} {n c : Nat}
    (hv : a.eval x = .slice A n c) {w : World} {ro : Option Nat} {next : Act → World → Prop} {Q : Exit → Act → World → Prop} (h : next (a.put o.dst (.bool A.isNone)) w) : o.wpIn (fw ro) 0 P a w next Q := by
  refine wpIn_exec (fun c hc => by rw [hop] at hc; cases hc) ?_
  have hc : a.eval (.const (.slice none m d)) = .slice none m d := rfl
  have : (execOp a.eval o).run P w = .ok (.value (.bool A.isNone)) w := by
    simp [execOp, hop, hv, hc, eqGuard, binOp, equal_slice hu]
  rw [this]
  exact h

theorem neq_wp {P : Program} {o : Oper} {t e : TypeId} {x : Operand} {m d : Nat} {ty : TypeId} (hop : o.op = .binOp .neq t x (.const (.slice none m d)) ty) (hu : P.underlying t = some (.slice e)) {A : Option Addr} {n c : Nat}
    (hv : a.eval x = .slice A n c) {w : World} {ro : Option Nat} {next : Act → World → Prop} {Q : Exit → Act → World → Prop} (h : next (a.put o.dst (.bool !A.isNone)) w) : o.wpIn (fw ro) 0 P a w next Q := by
  refine wpIn_exec (fun c hc => by rw [hop] at hc; cases hc) ?_
  have hc : a.eval (.const (.slice none m d)) = .slice none m d := rfl
  have : (execOp a.eval o).run P w = .ok (.value (.bool !A.isNone)) w := by
    simp [execOp, hop, hv, hc, eqGuard, binOp, equal_slice hu]
  rw [this]
  exact h

theorem avq_blk {id nx : Nat} (hn : i < n) (h : inBlk base i id) : avq more base i n nx id := by
  unfold inBlk room at h
  unfold avq room
  exact .inr (.inl (by omega))

theorem avq_next {id nx : Nat} (hm : ∀ id, more id → id < base) (hn : i < n) (hnx : base + room * n ≤ nx) (h : avq more base (i + 1) n nx id) : avq more base i n nx id ∧ ¬ inBlk base i id := by
  unfold avq room at h
  unfold avq inBlk room
  unfold room at hnx
  rcases h with h | h | h
  · exact ⟨.inl h, by have := hm id h; omega⟩
  · exact ⟨.inr (.inl (by omega)), by omega⟩
  · exact ⟨.inr (.inr h), by omega⟩

theorem inlOp_wp {ro : Option Nat} {R : Type} {inl : Inl R} {T : Carry R} {S : Nat → Prop} {K : St → Option R} {r : R} (hE : EnvOk E) (hI : InlSound E T S C0.yl inl) (hm : ∀ id, more id → id < base) (hn : i < n) (hT : T.sh S r w0 M0) (hnx : base + room * n ≤ s.nx)
    (h : inlOp E inl o s K = some r) (hS : Sim C0 w0 M0 (avq more base i n s.nx) s a C) {next : Act → World → Prop} {Q : Exit → Act → World → Prop}
    (hk : ∀ r w1 M1 s' a' C', T.sh S r w1 M1 → StepW S w0 M0 w1 M1 → Sim C0 w1 M1 (avq more base (i + 1) n s'.nx) s' a' C' → s.nx ≤ s'.nx → K s' = some r → next a' C'.w) : o.wpIn (fw ro) 0 E.P a C.w next Q := by
  have tst : dstOk s o.dst = true → ∀ (b : Bool), K (s.put o.dst (.bool b)) = some r → next (a.put o.dst (.bool b)) C.w := fun hd b hK => by
    have h1 := hS.put (ch := []) (C' := C) (x := .bool b) (v := .bool b) hd rfl (Ext.refl C) hS.ok .bool
    have hs : ({ s.put o.dst (.bool b) with tab := chg s.tab [] } : St) = s.put o.dst (.bool b) := st_ext (by rfl) (fun _ => by rfl) (fun _ => by rw [put_tab]; rfl) (by rfl)
    rw [hs] at h1
    have hx : (s.put o.dst (.bool b)).nx = s.nx := put_nx
    exact hk _ _ _ _ _ C hT (StepW.refl _ _) (h1.weak fun id hid => (avq_next hm hn hnx (by rw [hx] at hid; exact hid)).1) (Nat.le_of_eq hx.symm) hK
  have calls : ∀ (g : Fn) (args : Array Value) (vs : List AV) {c : Call}, inl g vs s.tab s.nx (fun v tab nx => K { s.put o.dst v with tab := tab, nx := nx }) = some r → RelL C args.toList vs → dstOk s o.dst = true → o.op = .call c →
      (∀ R' : Ending → World → Prop, FnCalls E.P C.yl g args C.w R' → (∀ e w', R' e w' → ∃ v, e = .returned v ∧ next (a.put o.dst v) w') → o.uponIn (fw ro) 0 E.P a next Q ((execOp a.eval o).run E.P C.w)) → o.wpIn (fw ro) 0 E.P a C.w next Q := by
    intro g args vs c h hargs hd hop key
    have hav : TabOk w0 M0 (fun id => (more id ∨ (base + room * (i + 1) ≤ id ∧ id < base + room * n)) ∨ s.nx ≤ id) C := hS.ok.weak fun id hid => by
      unfold avq room at *
      rcases hid with (hid | hid) | hid
      · exact .inl hid
      · exact .inr (.inl ⟨by omega, hid.2⟩)
      · exact .inr (.inr hid)
    have hdf : ∀ c, o.op ≠ .defer c := fun c hc => by rw [hop] at hc; cases hc
    have hcalls := hI g _ _ _ _ r h w0 M0 _ C args hS.ext.yl hT hav (fun id hid => by
      rcases hid with hid | hid
      · have := hm id hid
        omega
      · omega) hS.tab hargs
    refine wpIn_exec hdf ?_
    refine key _ hcalls ?_
    rintro e w' ⟨v, x, C', nx', r', w0', M0', rfl, rfl, he, hx, hT', hst, ht, hle, hK⟩
    refine ⟨v, rfl, ?_⟩
    refine hk _ _ _ _ (a.put o.dst v) C' hT' hst ?_ hle hK
    have h1 : Sim C0 w0' M0' (avq more base (i + 1) n nx') { s with tab := C'.tab } a C' :=
      ⟨hS.n, fun t => (hS.tm t).ext he, rfl, ht.weak fun id hid => by
        unfold avq at hid
        rcases hid with hid | hid | hid
        · exact .inl (.inl hid)
        · exact .inl (.inr hid)
        · exact .inr hid, hS.ext.trans he, hS.defers.step hst⟩
    have h2 := h1.put (ch := []) (d := o.dst) hd rfl (Ext.refl C') h1.ok hx
    have h3 : ({ s.put o.dst x with tab := C'.tab, nx := nx' } : St) = { ({ ({ s with tab := C'.tab } : St).put o.dst x with tab := chg C'.tab [] } : St) with nx := nx' } := by
      cases o.dst <;> rfl
    rw [h3]
    exact ⟨h2.n, h2.tm, h2.tab, h2.ok, h2.ext, h2.defers⟩
  unfold inlOp at h
  split at h
  · rename_i op f args ty hop
    split at h
    · rename_i g caps hval
      cases hd : dstOk s o.dst with
      | false => rw [hd] at h; cases h
      | true =>
        rw [hd, cond_true] at h
        have hv := hS.val f
        rw [hval] at hv
        obtain ⟨cs, hvv, hcaps⟩ := rel_fn hv
        have hargs : RelL C (args.map a.eval ++ cs).toList (args.toList.map s.val ++ caps) := by
          rw [Array.toList_append, Array.toList_map]
          exact (relL_map hS args.toList).app hcaps
        refine calls (.func g) _ _ h hargs hd hop ?_
        rintro R' ⟨fn, hfn, hbody, hc⟩ hR'
        have hname := hE.names g fn hfn
        have hrun : (execOp a.eval o).run E.P C.w = .ok (.enter g (args.map a.eval ++ cs)) C.w := by
          simp only [execOp, hop, resolve, hvv, Deferred.ofValue, invoke, callFunc, Sem.run_bind, Sem.run_pure, Result.andThen_ok, run_program, hfn, hname, hbody]
          simp
        rw [hrun]
        refine enter_upon (hc.mono ?_)
        intro e w' hw'
        obtain ⟨v, rfl, hv⟩ := hR' e w' hw'
        exact hv
    · rename_i hval
      cases hd : dstOk s o.dst with
      | false => rw [hd] at h; cases h
      | true =>
        rw [hd, cond_true] at h
        have hv := hS.val f
        rw [hval] at hv
        have hvv : a.eval f = .func (.yield C.yl) #[] #[] := by
          generalize a.eval f = u at hv
          cases hv
          rfl
        have hargs : RelL C (args.map a.eval).toList (args.toList.map s.val) := by
          rw [Array.toList_map]
          exact relL_map hS args.toList
        refine calls (.yield 0) _ _ h hargs hd hop ?_
        rintro R' ⟨fn, tmps, assign, body, hy, hr⟩ hR'
        have hrun : (execOp a.eval o).run E.P C.w = .ok (.round C.yl fn tmps assign body) C.w := by
          simp only [execOp, hop, resolve, hvv, Deferred.ofValue, invoke, Sem.run_bind, Sem.run_pure, Result.andThen_ok]
          simp
          exact hy
        rw [hrun, Oper.uponIn_round]
        refine ⟨fun h => by simp [fw, Fence.wide] at h, ?_⟩
        have hr' : RoundIn (fw ro) 0 E.P C.yl fn tmps assign body C.w R' := hr
        refine hr'.mono ?_
        intro e w' hw'
        obtain ⟨v, rfl, hv⟩ := hR' e w' hw'
        exact hv
    · cases h
  · rename_i hop
    split at h
    · rename_i hu he
      cases hd : dstOk s o.dst with
      | false => rw [hd] at h; cases h
      | true =>
        rw [hd, cond_true] at h
        obtain ⟨hb, ha⟩ := nilK_eq h
        obtain ⟨A, m, c, hv, hnil⟩ := nil_spec hS (hS.val _) he
        refine eql_wp hop hu hv ?_
        cases hA : A.isNone with
        | true => exact tst hd true (ha (hnil hA))
        | false => exact tst hd false hb
    · cases h
  · rename_i hop
    split at h
    · rename_i hu he
      cases hd : dstOk s o.dst with
      | false => rw [hd] at h; cases h
      | true =>
        rw [hd, cond_true] at h
        obtain ⟨hb, ha⟩ := nilK_eq h
        obtain ⟨A, m, c, hv, hnil⟩ := nil_spec hS (hS.val _) he
        refine neq_wp hop hu hv ?_
        cases hA : A.isNone with
        | true => exact tst hd false (ha (hnil hA))
        | false => exact tst hd true hb
    · cases h
  · cases h

theorem oneOp_wp {ro : Option Nat} {R : Type} {inl : Inl R} {T : Carry R} {S : Nat → Prop} {K : St → Option R} {r : R} (hE : EnvOk E) (hI : InlSound E T S C0.yl inl) (hm : ∀ id, more id → id < base) (hn : i < n) (hT : T.sh S r w0 M0) (hnx : base + room * n ≤ s.nx)
    (h : oneOp E inl false ops base i o s K = some r) (hS : Sim C0 w0 M0 (avq more base i n s.nx) s a C) {next : Act → World → Prop} {Q : Exit → Act → World → Prop}
    (hk : ∀ r w1 M1 s' a' C', T.sh S r w1 M1 → StepW S w0 M0 w1 M1 → Sim C0 w1 M1 (avq more base (i + 1) n s'.nx) s' a' C' → s.nx ≤ s'.nx → K s' = some r → next a' C'.w) : o.wpIn (fw ro) 0 E.P a C.w next Q := by
  unfold oneOp at h
  split at h
  · rename_i e he
    obtain ⟨out, h1, h2⟩ := run_res h
    cases hb : (dstOk s o.dst && fits E false ops base i o.op (vwOf E false o.op ops base i s.tab) out.ch) with
    | false => rw [hb] at h2; cases h2
    | true =>
      rw [hb] at h2
      rw [Bool.and_eq_true] at hb
      have g : StepOp E false ops base i o s { s.put o.dst out.v with tab := chg s.tab out.ch } := ⟨⟨e, out, he, h1, hb.2, rfl⟩, hb.1⟩
      have hnx' : ({ s.put o.dst out.v with tab := chg s.tab out.ch } : St).nx = s.nx := put_nx
      exact step_op hE hS (fun id hid => avq_blk hn hid) g fun a' C' h' => hk _ _ _ _ a' C' hT (StepW.refl _ _) (h'.weak fun id hid => avq_next hm hn hnx (by rw [hnx'] at hid; exact hid)) (Nat.le_of_eq hnx'.symm) h2
  · exact inlOp_wp hE hI hm hn hT hnx h hS hk

theorem skip_wp {d : Option Tmp} {rest : Act → World → Prop} (hS : Sim C0 w0 M0 (avq more base i n s.nx) s a C) (hd : dstOk s d = true)
    (hk : ∀ s' a' C', Sim C0 w0 M0 (avq more base (i + 1) n s'.nx) s' a' C' → s.nx ≤ s'.nx → s' = s.put d (.tup []) → rest a' C'.w) : rest (a.put d undef) C.w := by
  have h1 := hS.put_undef hd
  have hx : (s.put d (.tup [])).nx = s.nx := put_nx
  refine hk _ _ _ (h1.weak fun id hid => ?_) (Nat.le_of_eq hx.symm) rfl
  rw [hx] at hid
  unfold avq room at hid ⊢
  rcases hid with hid | hid | hid
  · exact .inl hid
  · exact .inr (.inl ⟨by omega, hid.2⟩)
  · exact .inr (.inr hid)

theorem runOps_wp {ro : Option Nat} {R : Type} {inl : Inl R} {T : Carry R} {S : Nat → Prop} {K : St → Option R} (hE : EnvOk E) (hI : InlSound E T S C0.yl inl) (hm : ∀ id, more id → id < base) {Q : Exit → Act → World → Prop}
    {w00 : Start} {M00 : Nat → Prop} (hQ : ∀ r w0 M0 s' a C, T.sh S r w0 M0 → StepW S w00 M00 w0 M0 → Sim C0 w0 M0 (fun id => more id ∨ s'.nx ≤ id) s' a C → base + room * ops.size ≤ s'.nx → K s' = some r → Q .normal a C.w) :
    ∀ (l : List Oper) (i : Nat) (r : R) (w0 : Start) (M0 : Nat → Prop) (s : St) (a : Act) (C : Ctx), T.sh S r w0 M0 → StepW S w00 M00 w0 M0 → (∀ j, l[j]? = ops[i + j]?) → i + l.length = ops.size → base + room * ops.size ≤ s.nx → runOps E inl false ops base i l s K = some r →
      Sim C0 w0 M0 (avq more base i ops.size s.nx) s a C → wpOpsIn (fw ro) 0 E.P ops Q (List.range' i l.length) a C.w
  | [], i, r, w0, M0, s, a, C, hT, hst, _, _, hnx, h, hS => by
    exact hQ r w0 M0 s a C hT hst (hS.weak fun id hid => by
      unfold avq
      rcases hid with hid | hid
      · exact .inl hid
      · exact .inr (.inr hid)) hnx h
  | o :: l, i, r, w0, M0, s, a, C, hT, hst, hl, hlen, hnx, h, hS => by
    have ho : ops[i]? = some o := by simpa using (hl 0).symm
    have hl' : ∀ j, l[j]? = ops[i + 1 + j]? := fun j => by
      have := hl (j + 1)
      rw [List.getElem?_cons_succ] at this
      rw [this]
      congr 1
      omega
    have hlt : i < ops.size := (Array.getElem?_eq_some_iff.1 ho).1
    have hlen' : i + 1 + l.length = ops.size := by
      rw [List.length_cons] at hlen
      omega
    rw [List.length_cons, List.range'_succ, wpOpsIn_cons]
    unfold wpOpIn
    rw [ho]
    simp only []
    have fin : ∀ r w1 M1 s' a' C', T.sh S r w1 M1 → StepW S w0 M0 w1 M1 → Sim C0 w1 M1 (avq more base (i + 1) ops.size s'.nx) s' a' C' → s.nx ≤ s'.nx → runOps E inl false ops base (i + 1) l s' K = some r → wpOpsIn (fw ro) 0 E.P ops Q (List.range' (i + 1) l.length) a' C'.w :=
      fun r w1 M1 s' a' C' h0 hs1 h1 h2 h3 => runOps_wp hE hI hm hQ l (i + 1) r w1 M1 s' a' C' h0 (hst.trans hs1) hl' hlen' (Nat.le_trans hnx h2) h3 h1
    unfold runOps at h
    split at h
    · rename_i hg
      rw [if_pos (by unfold Region.wanted; rw [hg])]
      exact oneOp_wp hE hI hm hlt hT hnx h hS fun r w1 M1 s' a' C' h0 hs1 h1 h2 h3 => fin r w1 M1 s' a' C' h0 hs1 h1 h2 h3
    · rename_i j want hg
      split at h
      · rename_i d hd
        have no : ∀ (b : AV), (s.tm d = .bool (!want) ∨ s.tm d = .tup []) → dstOk s o.dst = true → runOps E inl false ops base (i + 1) l (s.put o.dst (.tup [])) K = some r →
            (if Region.wanted o (yielded ops a.tmps) = true then o.wpIn (fw ro) 0 E.P a C.w (wpOpsIn (fw ro) 0 E.P ops Q (List.range' (i + 1) l.length)) Q else (∀ f, o.about E.P C.w a.eval = some f → (fw ro).fn f) ∧ wpOpsIn (fw ro) 0 E.P ops Q (List.range' (i + 1) l.length) (a.put o.dst undef) C.w) := fun _ hb hk h3 => by
          rw [if_neg (by rw [wanted_no hS hg hd hb]; simp)]
          exact ⟨fun _ _ => trivial, skip_wp hS hk fun s' a' C' h1 h2 hs => fin r w0 M0 s' a' C' hT (StepW.refl _ _) h1 h2 (hs ▸ h3)⟩
        have yes : s.tm d = .bool want → oneOp E inl false ops base i o s (fun s => runOps E inl false ops base (i + 1) l s K) = some r →
            (if Region.wanted o (yielded ops a.tmps) = true then o.wpIn (fw ro) 0 E.P a C.w (wpOpsIn (fw ro) 0 E.P ops Q (List.range' (i + 1) l.length)) Q else (∀ f, o.about E.P C.w a.eval = some f → (fw ro).fn f) ∧ wpOpsIn (fw ro) 0 E.P ops Q (List.range' (i + 1) l.length) (a.put o.dst undef) C.w) := fun hb h3 => by
          rw [if_pos (wanted_yes hS hg hd hb)]
          exact oneOp_wp hE hI hm hlt hT hnx h3 hS fun r w1 M1 s' a' C' h0 hs1 h1 h2 h3 => fin r w1 M1 s' a' C' h0 hs1 h1 h2 h3
        split at h
        · rename_i b hb
          cases want with
          | true =>
            simp only [cond_true] at h
            split at h
            · rename_i hbt
              subst hbt
              rw [upd_eq hb] at h
              exact yes hb h
            · rename_i hbf
              have hbf : b = false := by simpa using hbf
              subst hbf
              cases hk : dstOk s o.dst with
              | false => rw [hk] at h; cases h
              | true =>
                rw [hk, cond_true, upd_eq hb] at h
                exact no .undef (.inl hb) hk h
          | false =>
            simp only [cond_false] at h
            split at h
            · rename_i hbt
              subst hbt
              cases hk : dstOk s o.dst with
              | false => rw [hk] at h; cases h
              | true =>
                rw [hk, cond_true, upd_eq hb] at h
                exact no .undef (.inl hb) hk h
            · rename_i hbf
              have hbf : b = false := by simpa using hbf
              subst hbf
              rw [upd_eq hb] at h
              exact yes hb h
        · rename_i ht
          cases hk : dstOk s o.dst with
          | false => rw [hk] at h; cases h
          | true =>
            rw [hk, cond_true] at h
            exact no .undef (.inr ht) hk h
        · cases h
      · cases h

theorem mask_lower (hD : DrawOk E ops) : ∀ {i j : Nat}, (mask ops i).testBit j = true → j < i := by
  intro i
  induction i using Nat.strongRecOn with
  | ind i ih =>
    intro j hj
    obtain ⟨o', ho', e, he, hb, hor⟩ := mask_spec hj
    have h1 := hD.lower i o' ho' e (by simpa using he) hb
    rcases hor with rfl | hor
    · exact h1
    · exact Nat.lt_trans (ih e.on h1 hor) h1

theorem pivot_spec {i j : Nat} (h : pivotB ops i = true) (hj : j < ops.size) (hne : j ≠ i) : (mask ops i).testBit j = true ∨ (mask ops j).testBit i = true := by
  unfold pivotB at h
  rw [List.all_eq_true] at h
  have := h j (List.mem_range.2 hj)
  simp only [Bool.or_eq_true] at this
  rcases this with (h1 | h1) | h1
  · exact absurd (Nat.eq_of_beq_eq_true h1) hne
  · exact .inl h1
  · exact .inr h1

/-- A region that draws, what is walked in place and all. -/
theorem drawn_wp {ro : Option Nat} {R : Type} {inl : Inl R} {T : Carry R} {S : Nat → Prop} {K : St → Option R} (hE : EnvOk E) (hI : InlSound E T S C0.yl inl) {id : Nat} (hd : drawB E ops = true) (hm : ∀ id, more id → id < base) {Q : Exit → Act → World → Prop}
    {w00 : Start} {M00 : Nat → Prop} (hQ : ∀ r w0 M0 s' a C, T.sh S r w0 M0 → StepW S w00 M00 w0 M0 → Sim C0 w0 M0 (fun id => more id ∨ s'.nx ≤ id) s' a C → base + room * ops.size ≤ s'.nx → K s' = some r → Q .normal a C.w)
    {r : R} (hT : T.sh S r w00 M00) (hnx : base + room * ops.size ≤ s.nx) (hr : runOps E inl true ops base 0 ops.toList s K = some r) (h : Sim C0 w00 M00 (fun id => more id ∨ base ≤ id) s a C) : (Code.region id ops true).wpIn (fw ro) 0 E.P Q a C.w := by
  have hD := drawOk_of hd
  have main : ∀ (fuel m : Nat) (l1 : List Nat) (listed : Array Bool) (r : R) (w0 : Start) (M0 : Nat → Prop) (s sm : St) (a : Act) (C : Ctx), (l1 ++ List.range' m (ops.size - m)).length ≤ fuel → m ≤ ops.size → (∀ j ∈ l1, j < m) → Drawn ops listed (l1 ++ List.range' m (ops.size - m)) → Chain E ops base l1 s sm → ChainEnd E inl ops base K m sm r →
      T.sh S r w0 M0 → StepW S w00 M00 w0 M0 → base + room * ops.size ≤ s.nx → Sim C0 w0 M0 (fun id => (more id ∨ s.nx ≤ id) ∨ ∃ j ∈ l1 ++ List.range' m (ops.size - m), inBlk base j id) s a C → wpAnyIn (fw ro) 0 E.P .any ops Q fuel listed a C.w := by
    have fin : ∀ (listed : Array Bool) (l : List Nat), l = [] → Drawn ops listed l → Region.ready .any ops listed = [] := by
      rintro listed _ rfl d
      refine List.eq_nil_iff_forall_not_mem.2 fun j hj => ?_
      obtain ⟨h0, o, ho, _⟩ := mem_ready.1 hj
      have hlt : j < ops.size := (Array.getElem?_eq_some_iff.1 ho).1
      have : j ∈ ([] : List Nat) := (d.mem j).2 (by
        have hl : j < listed.size := by rw [d.size]; exact hlt
        simp [hl] at h0
        simp [hl, h0])
      cases this
    have done : ∀ (m : Nat) (l1 : List Nat) (r : R) (w0 : Start) (M0 : Nat → Prop) (s sm : St) (a : Act) (C : Ctx), l1 ++ List.range' m (ops.size - m) = [] → m ≤ ops.size → Chain E ops base l1 s sm → ChainEnd E inl ops base K m sm r → T.sh S r w0 M0 → StepW S w00 M00 w0 M0 → base + room * ops.size ≤ s.nx →
        Sim C0 w0 M0 (fun id => (more id ∨ s.nx ≤ id) ∨ ∃ j ∈ l1 ++ List.range' m (ops.size - m), inBlk base j id) s a C → Q .normal a C.w := by
      intro m l1 r w0 M0 s sm a C hl hms c hend hT hst hnx hS
      obtain ⟨rfl, hl2⟩ := List.append_eq_nil_iff.1 hl
      have hm' : m = ops.size := by
        have := congrArg List.length hl2
        rw [List.length_range', List.length_nil] at this
        omega
      cases c
      rcases hend with ⟨_, hk⟩ | ⟨o, l, ho, _⟩
      · exact hQ r w0 M0 s a C hT hst (hS.weak fun id h => .inl h) hnx hk
      · have := (Array.getElem?_eq_some_iff.1 ho).1
        omega
    intro fuel
    induction fuel with
    | zero =>
      intro m l1 listed r w0 M0 s sm a C hl hms hlt d c hend hT hst hnx hS
      have hnil : l1 ++ List.range' m (ops.size - m) = [] := List.length_eq_zero_iff.1 (by omega)
      exact ⟨fin listed _ hnil d, done m l1 r w0 M0 s sm a C hnil hms c hend hT hst hnx hS⟩
    | succ fuel ih =>
      intro m l1 listed r w0 M0 s sm a C hl hms hlt d c hend hT hst hnx hS
      have hready : ∀ i ∈ Region.ready .any ops listed, i ∈ l1 ++ List.range' m (ops.size - m) ∧ ∃ o, ops[i]? = some o ∧ ∀ e ∈ o.after.toList, Region.binds .any e = true → listed.getD e.on false = true := fun i hi => by
        obtain ⟨h0, o, ho, h1⟩ := mem_ready.1 hi
        have hlt : i < ops.size := (Array.getElem?_eq_some_iff.1 ho).1
        refine ⟨(d.mem i).2 ?_, o, ho, fun e he => h1 e (by simpa using he)⟩
        have hl : i < listed.size := by rw [d.size]; exact hlt
        simp [hl] at h0
        simp [hl, h0]
      refine ⟨fun hr => ?_, fun i hi => ?_⟩
      · generalize hll : l1 ++ List.range' m (ops.size - m) = ll at d
        cases ll with
        | nil => exact done m l1 r w0 M0 s sm a C hll hms c hend hT hst hnx hS
        | cons i l =>
          exfalso
          have hi : listed[i]? = some false := (d.mem i).1 (by simp)
          have hlt : i < ops.size := by
            rw [← d.size]
            exact (Array.getElem?_eq_some_iff.1 hi).1
          have : i ∈ Region.ready .any ops listed := by
            refine mem_ready.2 ⟨by simp [hi], ops[i], by simp [hlt], fun e he hb => ?_⟩
            have hlow := hD.lower i ops[i] (by simp [hlt]) e (by simpa using he) hb
            have hne : e.on ∉ i :: l := fun hm => by
              rcases List.mem_cons.1 hm with h | h
              · omega
              · have := (List.pairwise_cons.1 d.sorted).1 _ h
                omega
            have hs : e.on < listed.size := by rw [d.size]; omega
            cases hb' : listed[e.on] with
            | true => simp [hs, hb']
            | false => exact absurd ((d.mem e.on).2 (by simp [hs, hb'])) hne
          rw [hr] at this
          cases this
      · obtain ⟨hil, o, ho, hpre⟩ := hready i hi
        have hsort := d.sorted
        have hmaskl : ∀ j, (mask ops i).testBit j = true → listed.getD j false = true := fun j hj => by
          obtain ⟨o', ho', e, he, hb, hor⟩ := mask_spec hj
          rw [ho] at ho'
          cases ho'
          have := hpre e he hb
          rcases hor with rfl | hor
          · exact this
          · exact d.closed _ _ this hor
        have hun' : ∀ j ∈ l1 ++ List.range' m (ops.size - m), (mask ops i).testBit j = false := fun j hj => by
          cases hb : (mask ops i).testBit j with
          | false => rfl
          | true =>
            have h1 := hmaskl j hb
            have h2 := (d.mem j).1 hj
            simp [h2] at h1
        have hi0 := (d.mem i).1 hil
        have his : i < listed.size := (Array.getElem?_eq_some_iff.1 hi0).1
        have hisz : i < ops.size := by rw [← d.size]; exact his
        rcases List.mem_append.1 hil with hi1 | hi2
        · obtain ⟨la, lb, rfl⟩ := List.append_of_mem hi1
          have hlt1 : ∀ j ∈ la, j < i := fun j hj => (List.pairwise_append.1 (List.pairwise_append.1 hsort).1).2.2 j hj i (by simp)
          have hlt2 : ∀ j ∈ lb, i < j := fun j hj => (List.pairwise_cons.1 (List.pairwise_append.1 (List.pairwise_append.1 hsort).1).2.1).1 j hj
          obtain ⟨o', s1, ho', g, c'⟩ := chain_first hD c fun j hj => ⟨hlt1 j hj, hun' j (by simp [hj])⟩
          refine gstep_wp hE hS (fun id hid => .inr ⟨i, by simp, hid⟩) ho' g fun a' C' h' => ?_
          refine ih m (la ++ lb) (listed.setIfInBounds i true) r w0 M0 s1 sm a' C' (by simp at hl ⊢; omega) hms (fun j hj => hlt j (by
            rcases List.mem_append.1 hj with h | h
            · simp [h]
            · simp [h])) ⟨by simp [d.size], fun j => ?_, ?_, fun k j hk hj => ?_⟩ c' hend hT hst (by rw [g.nx]; exact hnx) (h'.weak fun id hid => ?_)
          · by_cases hj : j = i
            · subst hj
              simp only [List.mem_append, List.mem_range'_1]
              constructor
              · rintro ((hj | hj) | hj)
                · exact absurd (hlt1 j hj) (by omega)
                · exact absurd (hlt2 j hj) (by omega)
                · have := hlt j (by simp)
                  omega
              · intro hj
                simp [his] at hj
            · rw [Array.getElem?_setIfInBounds_ne (Ne.symm hj), ← d.mem j]
              simp [hj]
          · refine hsort.sublist ?_
            exact List.Sublist.append_right (List.Sublist.append_left (List.sublist_cons_self i lb) la) _
          · refine getD_set_true ?_
            by_cases hki : k = i
            · subst hki
              exact hmaskl j hj
            · rw [getD_set_ne false (Ne.symm hki)] at hk
              exact d.closed k j hk hj
          · rw [g.nx] at hid
            have hnb : ∀ {id}, (more id ∨ s.nx ≤ id) → ¬ inBlk base i id := fun {id} hid hb => by
              unfold inBlk room at hb
              unfold room at hnx
              rcases hid with hid | hid
              · have := hm id hid
                omega
              · omega
            rcases hid with hid | ⟨j, hj, hid⟩
            · exact ⟨.inl hid, hnb hid⟩
            · refine ⟨.inr ⟨j, ?_, hid⟩, fun k => ?_⟩
              · rcases List.mem_append.1 hj with h | h
                · rcases List.mem_append.1 h with h | h
                  · simp [h]
                  · simp [h]
                · exact List.mem_append.2 (.inr h)
              · have := inBlk_uniq k hid
                subst this
                rcases List.mem_append.1 hj with h | h
                · rcases List.mem_append.1 h with h | h
                  · exact absurd (hlt1 _ h) (by omega)
                  · exact absurd (hlt2 _ h) (by omega)
                · have := hlt i (by simp)
                  have := (List.mem_range'_1.1 h).1
                  omega
        · have him := (List.mem_range'_1.1 hi2).1
          rcases hend with ⟨hm', _⟩ | ⟨o', l', ho', hl', hlen', hp, hg, hk⟩
          · omega
          · have hmsz : m < ops.size := (Array.getElem?_eq_some_iff.1 ho').1
            have hmem : m ∈ l1 ++ List.range' m (ops.size - m) := List.mem_append.2 (.inr (List.mem_range'_1.2 ⟨Nat.le_refl _, by omega⟩))
            obtain rfl : i = m := by
              rcases Nat.eq_or_lt_of_le him with h1 | h1
              · exact h1.symm
              · rcases pivot_spec hp hisz (by omega) with h2 | h2
                · have := mask_lower hD h2
                  omega
                · rw [hun' m hmem] at h2
                  cases h2
            have hl1 : l1 = [] := by
              cases l1 with
              | nil => rfl
              | cons j l1 =>
                have hj := hlt j (by simp)
                rcases pivot_spec hp (show j < ops.size by omega) (by omega) with h2 | h2
                · rw [hun' j (by simp)] at h2
                  cases h2
                · have := mask_lower hD h2
                  omega
            subst hl1
            cases c
            rw [ho] at ho'
            cases ho'
            have hS' : Sim C0 w0 M0 (avq more base i ops.size s.nx) s a C := hS.weak fun id hid => by
              unfold avq at hid
              rcases hid with hid | hid | hid
              · exact .inl (.inl hid)
              · refine .inr ⟨(id - base) / room, List.mem_append.2 (.inr (List.mem_range'_1.2 ⟨?_, ?_⟩)), ?_⟩
                · unfold room at hid ⊢
                  omega
                · unfold room at hid ⊢
                  omega
                · unfold inBlk room
                  unfold room at hid
                  omega
              · exact .inl (.inr hid)
            have hop : o.wpIn (fw ro) 0 E.P a C.w (fun a' w' => wpAnyIn (fw ro) 0 E.P .any ops Q fuel (listed.setIfInBounds i true) a' w') Q := by
              refine inlOp_wp (base := base) (i := i) (n := ops.size) hE hI hm hisz hT hnx hk hS' fun r1 w1 M1 s2 a2 C2 hT1 hst1 hS1 hle hk1 => ?_
              obtain ⟨m2, sm2, g1, g2, c2, hend2⟩ := runOps_chain l' (i + 1) s2 hl' hlen' hk1
              have hsplit : List.range' (i + 1) (m2 - (i + 1)) ++ List.range' m2 (ops.size - m2) = List.range' (i + 1) (ops.size - (i + 1)) := by
                have := List.range'_append_1 (s := i + 1) (m := m2 - (i + 1)) (n := ops.size - m2)
                rw [show i + 1 + (m2 - (i + 1)) = m2 by omega] at this
                rw [this]
                congr 1
                omega
              have hold : List.range' i (ops.size - i) = i :: List.range' (i + 1) (ops.size - (i + 1)) := by
                rw [show ops.size - i = (ops.size - (i + 1)) + 1 by omega, List.range'_succ]
              have hmr : ∀ j, j ∈ List.range' (i + 1) (ops.size - (i + 1)) ↔ i + 1 ≤ j ∧ j < ops.size := fun j => by
                rw [List.mem_range'_1]
                omega
              refine ih m2 (List.range' (i + 1) (m2 - (i + 1))) (listed.setIfInBounds i true) r1 w1 M1 s2 sm2 a2 C2 ?_ g2 (fun j hj => by have := List.mem_range'_1.1 hj; omega) ⟨by simp [d.size], fun j => ?_, ?_, fun k j hk' hj => ?_⟩ c2 hend2 hT1 (hst.trans hst1) (Nat.le_trans hnx hle) (hS1.weak fun id hid => ?_)
              · rw [hsplit, List.length_range']
                rw [List.nil_append, List.length_range'] at hl
                omega
              · rw [hsplit, hmr]
                by_cases hj : j = i
                · subst hj
                  constructor
                  · omega
                  · intro hj
                    simp [his] at hj
                · rw [Array.getElem?_setIfInBounds_ne (Ne.symm hj), ← d.mem j, List.nil_append, hold, List.mem_cons, hmr]
                  constructor
                  · exact .inr
                  · exact fun h => h.resolve_left hj
              · rw [hsplit]
                exact List.pairwise_lt_range'
              · refine getD_set_true ?_
                by_cases hki : k = i
                · subst hki
                  exact hmaskl j hj
                · rw [getD_set_ne false (Ne.symm hki)] at hk'
                  exact d.closed k j hk' hj
              · unfold avq
                rcases hid with (hid | hid) | ⟨j, hj, hid⟩
                · exact .inl hid
                · exact .inr (.inr hid)
                · rw [hsplit, hmr] at hj
                  unfold inBlk room at hid
                  unfold room
                  exact .inr (.inl (by omega))
            unfold wpOpIn
            rw [ho]
            simp only []
            rcases hg with hg | ⟨j, d', want, hg, hd', ht⟩
            · rw [if_pos (by unfold Region.wanted; rw [hg])]
              exact hop
            · rw [if_pos (wanted_yes hS' hg hd' ht)]
              exact hop
  obtain ⟨m, sm, _, g2, c, hend⟩ := runOps_chain ops.toList 0 s (fun j => by simp) (by simp) hr
  refine wpIn_region_any hE.mixed ?_
  have h1 : Sim C0 w00 M00 (fun id => more id ∨ base ≤ id) s a (C.setW { C.w with drawn := C.w.drawn + 1 }) := h.setW (w := { C.w with drawn := C.w.drawn + 1 }) rfl rfl rfl rfl
  have hsplit : List.range' 0 (m - 0) ++ List.range' m (ops.size - m) = List.range' 0 ops.size := by
    have := List.range'_append_1 (s := 0) (m := m) (n := ops.size - m)
    rw [Nat.zero_add] at this
    rw [Nat.sub_zero, this]
    congr 1
    omega
  refine main ops.size m (List.range' 0 (m - 0)) _ r w00 M00 s sm a _ (by rw [hsplit]; simp) g2 (fun j hj => by have := List.mem_range'_1.1 hj; omega) ⟨by simp, fun i => ?_, by rw [hsplit]; exact List.pairwise_lt_range', fun k j hk => ?_⟩ c hend hT (StepW.refl _ _) hnx (h1.weak fun id hid => ?_)
  · rw [hsplit, List.mem_range'_1, Array.getElem?_replicate]
    constructor
    · intro hi
      rw [if_pos (by omega)]
    · intro hi
      split at hi
      · omega
      · cases hi
  · rw [Array.getD_eq_getD_getElem?, Array.getElem?_replicate] at hk
    split at hk <;> cases hk
  · rcases hid with (hid | hid) | ⟨j, _, hid⟩
    · exact .inl hid
    · exact .inr (by omega)
    · exact .inr (by unfold inBlk at hid; omega)

end
end Go.Proofs.Ytmjbjlhjpdebjaa.Mini
