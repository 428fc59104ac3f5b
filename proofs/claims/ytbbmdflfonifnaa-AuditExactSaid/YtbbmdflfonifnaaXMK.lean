/- A small machine over plain data: code does what it is told to do. -/
import Derived.Test.YtbbmdflfonifnaaXMJ
namespace Go.Proofs.Ytbbmdflfonifnaa.Mini
open Go Go.RowKit

/-- A call that is walked in place does what it is told to do. -/
def InlSound {R : Type} (E : Env) (inl : Inl R) : Prop :=
  ∀ (g : FuncId) vs tab nx K r, inl g vs tab nx K = some r → ∀ (w0 : Start) (M0 more : Nat → Prop) (C : Ctx) (args : Array Value), TabOk w0 M0 (fun id => more id ∨ nx ≤ id) C → (∀ id, more id → id < nx) → C.tab = tab → RelL C args.toList vs →
    ∃ fn, E.P.funcs[g]? = some fn ∧ fn.body.isNone = false ∧
      Calls E.P g args C.w fun e w' => ∃ v x C' nx', e = .returned v ∧ C'.w = w' ∧ Ext C C' ∧ Rel C' v x ∧ TabOk w0 M0 (fun id => more id ∨ nx' ≤ id) C' ∧ nx ≤ nx' ∧ K x C'.tab nx' = some r

section
variable {E : Env} {w0 : Start} {M0 more : Nat → Prop} {C C0 : Ctx} {a : Act} {s s' : St} {ops : Array Oper} {base i n : Nat} {o : Oper}

/-- The ids that are not taken: in a region whose operations from i on are still to come. -/
def avq (more : Nat → Prop) (base i n nx : Nat) (id : Nat) : Prop := more id ∨ (base + room * i ≤ id ∧ id < base + room * n) ∨ nx ≤ id

theorem both_eq {R : Type} {a b : Option R} {r : R} (h : both a b = some r) : a = some r ∧ b = some r := by
  unfold both at h
  split at h
  · rename_i e
    exact ⟨h, e ▸ h⟩
  · cases h

theorem nilK_eq {R : Type} {e : Bool} {a b : Option R} {r : R} (h : nilK e a b = some r) : b = some r ∧ (e = true → a = some r) := by
  unfold nilK at h
  cases e with
  | true =>
    obtain ⟨h1, h2⟩ := both_eq h
    exact ⟨h2, fun _ => h1⟩
  | false => exact ⟨h, fun h => by cases h⟩

theorem equal_slice {P : Program} {ty e : TypeId} (hu : P.underlying ty = some (.slice e)) (A : Option Addr) (n c m d : Nat) (w : World) : (Op.equal ty (.slice A n c) (.slice none m d)).run P w = .ok A.isNone w := by
  refine run_equal ?_
  rw [Op.equalIn, Sem.run_bind, run_underlying hu]
  cases A <;> rfl

/-- If it is nil, it may be. -/
theorem nil_spec (h : Sim C0 w0 M0 more s a C) {v : Value} {x : AV} {e : Bool} (hv : Rel C v x) (hn : nilOf s.tab x = some e) : ∃ A n c, v = .slice A n c ∧ (A.isNone = true → e = true) := by
  have sl : ∀ {id off : Nat} {len : Option Nat} {k : Kd} {T : TypeId} {xs : List (El k)} {blk : Blk}, SlRel C v id off len → C.tab id = some blk → RowLike blk k T xs → ∃ A n c, v = .slice A n c ∧ n = len.getD xs.length ∧ (A.isNone = true → n = 0) := by
    intro id off len k T xs blk hs ht hr
    obtain ⟨_, A, n, c, rfl, h2⟩ := hs
    obtain ⟨k', T', xs', hr', h3, _, h5, h6⟩ := h2 blk ht
    obtain ⟨rfl, rfl, hx⟩ := hr'.uniq hr
    cases hx
    refine ⟨A, n, c, rfl, h3, fun hA => ?_⟩
    rcases h6 with ⟨_, h6⟩ | ⟨p, _, h6, _⟩
    · omega
    · rcases Nat.eq_zero_or_pos c with hc | hc
      · omega
      · rw [h6 hc] at hA
        cases hA
  cases hv with
  | row h =>
    rename_i k xs
    cases hn
    obtain ⟨A, c, hc, _, hr⟩ := h
    cases hc
    refine ⟨A, _, c, rfl, fun hA => ?_⟩
    cases xs with
    | nil => rfl
    | cons y ys =>
      obtain ⟨ad, rfl, _⟩ := hr (by simp)
      cases hA
  | nils =>
    cases hn
    exact ⟨_, _, _, rfl, fun _ => rfl⟩
  | own hs =>
    simp only [nilOf] at hn
    split at hn
    · rename_i ht
      cases hn
      obtain ⟨A, n, c, rfl, h1, h2⟩ := sl hs (by rw [h.tab]; exact ht) (.inl ⟨_, rfl⟩)
      refine ⟨A, n, c, rfl, fun hA => ?_⟩
      have := h2 hA
      rw [h1] at this
      exact List.isEmpty_iff_length_eq_zero.2 this
    · rename_i ht
      cases hn
      obtain ⟨A, n, c, rfl, h1, h2⟩ := sl hs (by rw [h.tab]; exact ht) (.inr rfl)
      refine ⟨A, n, c, rfl, fun hA => ?_⟩
      have := h2 hA
      rw [h1] at this
      exact List.isEmpty_iff_length_eq_zero.2 this
    · cases hn
  | _ => cases hn

theorem eql_wp {P : Program} {o : Oper} {t e : TypeId} {x : Operand} {m d : Nat} {ty : TypeId} (hop : o.op = .binOp .eql t x (.const (.slice none m d)) ty) (hu : P.underlying t = some (.slice e)) {A : Option Addr} {n c : Nat}
    (hv : a.eval x = .slice A n c) {w : World} {next : Act → World → Prop} {Q : Exit → Act → World → Prop} (h : next (a.put o.dst (.bool A.isNone)) w) : o.wp P a w next Q := by
  unfold Oper.wp
  have hc : a.eval (.const (.slice none m d)) = .slice none m d := rfl
  have : (execOp a.eval o).run P w = .ok (.value (.bool A.isNone)) w := by
    simp [execOp, hop, hv, hc, eqGuard, binOp, equal_slice hu]
  rw [this]
  exact h

theorem neq_wp {P : Program} {o : Oper} {t e : TypeId} {x : Operand} {m d : Nat} {ty : TypeId} (hop : o.op = .binOp .neq t x (.const (.slice none m d)) ty) (hu : P.underlying t = some (.slice e)) {A : Option Addr} {n c : Nat}
    (hv : a.eval x = .slice A n c) {w : World} {next : Act → World → Prop} {Q : Exit → Act → World → Prop} (h : next (a.put o.dst (.bool !A.isNone)) w) : o.wp P a w next Q := by
  unfold Oper.wp
  have hc : a.eval (.const (.slice none m d)) = .slice none m d := rfl
  have : (execOp a.eval o).run P w = .ok (.value (.bool !A.isNone)) w := by
    simp [execOp, hop, hv, hc, eqGuard, binOp, equal_slice hu]
  rw [this]
  exact h

theorem avq_blk {id nx : Nat} (hn : i < n) (h : inBlk base i id) : avq more base i n nx id := by
  unfold inBlk room at h
  unfold avq room
  exact .inr (.inl (by omega))

theorem avq_next {id nx : Nat} (hm : ∀ id, more id → id < base) (hn : i < n) (hnx : base + room * n ≤ nx) (h : avq more base (i + 1) n nx id) : avq more base i n nx id ∧ ¬ inBlk base i id := by
  unfold avq room at h
  unfold avq inBlk room
  unfold room at hnx
  rcases h with h | h | h
  · exact ⟨.inl h, by have := hm id h; omega⟩
  · exact ⟨.inr (.inl (by omega)), by omega⟩
  · exact ⟨.inr (.inr h), by omega⟩

theorem oneOp_wp {R : Type} {inl : Inl R} {K : St → Option R} {r : R} (hE : EnvOk E) (hI : InlSound E inl) (hm : ∀ id, more id → id < base) (hn : i < n) (hnx : base + room * n ≤ s.nx)
    (h : oneOp E inl false ops base i o s K = some r) (hS : Sim C0 w0 M0 (avq more base i n s.nx) s a C) {next : Act → World → Prop} {Q : Exit → Act → World → Prop}
    (hk : ∀ s' a' C', Sim C0 w0 M0 (avq more base (i + 1) n s'.nx) s' a' C' → s.nx ≤ s'.nx → K s' = some r → next a' C'.w) : o.wp E.P a C.w next Q := by
  have tst : dstOk s o.dst = true → ∀ (b : Bool), K (s.put o.dst (.bool b)) = some r → next (a.put o.dst (.bool b)) C.w := fun hd b hK => by
    have h1 := hS.put (ch := []) (C' := C) (x := .bool b) (v := .bool b) hd rfl (Ext.refl C) hS.ok .bool
    have hs : ({ s.put o.dst (.bool b) with tab := chg s.tab [] } : St) = s.put o.dst (.bool b) := st_ext (by rfl) (fun _ => by rfl) (fun _ => by rw [put_tab]; rfl) (by rfl)
    rw [hs] at h1
    have hx : (s.put o.dst (.bool b)).nx = s.nx := put_nx
    exact hk _ _ C (h1.weak fun id hid => (avq_next hm hn hnx (by rw [hx] at hid; exact hid)).1) (Nat.le_of_eq hx.symm) hK
  unfold oneOp at h
  split at h
  · rename_i e he
    obtain ⟨out, h1, h2⟩ := run_res h
    cases hb : (dstOk s o.dst && fits E false ops base i o.op (vwOf E false o.op ops base i s.tab) out.ch) with
    | false => rw [hb] at h2; cases h2
    | true =>
      rw [hb] at h2
      rw [Bool.and_eq_true] at hb
      have g : StepOp E false ops base i o s { s.put o.dst out.v with tab := chg s.tab out.ch } := ⟨⟨e, out, he, h1, hb.2, rfl⟩, hb.1⟩
      have hnx' : ({ s.put o.dst out.v with tab := chg s.tab out.ch } : St).nx = s.nx := put_nx
      exact step_op hE hS (fun id hid => avq_blk hn hid) g fun a' C' h' => hk _ a' C' (h'.weak fun id hid => avq_next hm hn hnx (by rw [hnx'] at hid; exact hid)) (Nat.le_of_eq hnx'.symm) h2
  · simp only [cond_false] at h
    split at h
    · rename_i op f args ty hop
      split at h
      · rename_i g caps hval
        cases hd : dstOk s o.dst with
        | false => rw [hd] at h; cases h
        | true =>
          rw [hd, cond_true] at h
          have hv := hS.val f
          rw [hval] at hv
          generalize hvv : a.eval f = v at hv
          cases hv with
          | fn hcaps =>
            rename_i cs
            have hargs : RelL C (args.map a.eval ++ cs).toList (args.toList.map s.val ++ caps) := by
              rw [Array.toList_append, Array.toList_map]
              exact (relL_map hS args.toList).app hcaps
            have hav : TabOk w0 M0 (fun id => (more id ∨ (base + room * (i + 1) ≤ id ∧ id < base + room * n)) ∨ s.nx ≤ id) C := hS.ok.weak fun id hid => by
              unfold avq room at *
              rcases hid with (hid | hid) | hid
              · exact .inl hid
              · exact .inr (.inl ⟨by omega, hid.2⟩)
              · exact .inr (.inr hid)
            obtain ⟨fn, hfn, hbody, hcalls⟩ := hI g _ _ _ _ r h w0 M0 _ C _ hav (fun id hid => by
              rcases hid with hid | hid
              · have := hm id hid
                omega
              · omega) hS.tab hargs
            have hname := hE.names g fn hfn
            unfold Oper.wp
            have hrun : (execOp a.eval o).run E.P C.w = .ok (.enter g (args.map a.eval ++ cs)) C.w := by
              simp only [execOp, hop, resolve, hvv, Deferred.ofValue, invoke, callFunc, Sem.run_bind, Sem.run_pure, Result.andThen_ok, run_program, hfn, hname, hbody]
              simp
            rw [hrun]
            show Calls _ _ _ _ _
            refine hcalls.mono ?_
            rintro e w' ⟨v, x, C', nx', rfl, rfl, he, hx, ht, hle, hK⟩
            refine hk _ (a.put o.dst v) C' ?_ hle hK
            have h1 : Sim C0 w0 M0 (avq more base (i + 1) n nx') { s with tab := C'.tab } a C' :=
              ⟨hS.n, fun t => (hS.tm t).ext he, rfl, ht.weak fun id hid => by
                unfold avq at hid
                rcases hid with hid | hid | hid
                · exact .inl (.inl hid)
                · exact .inl (.inr hid)
                · exact .inr hid, hS.ext.trans he, hS.defers⟩
            have h2 := h1.put (ch := []) (d := o.dst) hd rfl (Ext.refl C') h1.ok hx
            have h3 : ({ s.put o.dst x with tab := C'.tab, nx := nx' } : St) = { ({ ({ s with tab := C'.tab } : St).put o.dst x with tab := chg C'.tab [] } : St) with nx := nx' } := by
              cases o.dst <;> rfl
            rw [h3]
            exact ⟨h2.n, h2.tm, h2.tab, h2.ok, h2.ext, h2.defers⟩
      · cases h
    · rename_i hop
      split at h
      · rename_i hu he
        cases hd : dstOk s o.dst with
        | false => rw [hd] at h; cases h
        | true =>
          rw [hd, cond_true] at h
          obtain ⟨hb, ha⟩ := nilK_eq h
          obtain ⟨A, m, c, hv, hnil⟩ := nil_spec hS (hS.val _) he
          refine eql_wp hop hu hv ?_
          cases hA : A.isNone with
          | true => exact tst hd true (ha (hnil hA))
          | false => exact tst hd false hb
      · cases h
    · rename_i hop
      split at h
      · rename_i hu he
        cases hd : dstOk s o.dst with
        | false => rw [hd] at h; cases h
        | true =>
          rw [hd, cond_true] at h
          obtain ⟨hb, ha⟩ := nilK_eq h
          obtain ⟨A, m, c, hv, hnil⟩ := nil_spec hS (hS.val _) he
          refine neq_wp hop hu hv ?_
          cases hA : A.isNone with
          | true => exact tst hd false (ha (hnil hA))
          | false => exact tst hd true hb
      · cases h
    · cases h

theorem skip_wp {d : Option Tmp} {rest : Act → World → Prop} (hS : Sim C0 w0 M0 (avq more base i n s.nx) s a C) (hd : dstOk s d = true)
    (hk : ∀ s' a' C', Sim C0 w0 M0 (avq more base (i + 1) n s'.nx) s' a' C' → s.nx ≤ s'.nx → s' = s.put d (.tup []) → rest a' C'.w) : rest (a.put d undef) C.w := by
  have h1 := hS.put_undef hd
  have hx : (s.put d (.tup [])).nx = s.nx := put_nx
  refine hk _ _ _ (h1.weak fun id hid => ?_) (Nat.le_of_eq hx.symm) rfl
  rw [hx] at hid
  unfold avq room at hid ⊢
  rcases hid with hid | hid | hid
  · exact .inl hid
  · exact .inr (.inl ⟨by omega, hid.2⟩)
  · exact .inr (.inr hid)

theorem runOps_wp {R : Type} {inl : Inl R} {K : St → Option R} {r : R} (hE : EnvOk E) (hI : InlSound E inl) (hm : ∀ id, more id → id < base) {Q : Exit → Act → World → Prop}
    (hQ : ∀ s' a C, Sim C0 w0 M0 (fun id => more id ∨ s'.nx ≤ id) s' a C → base + room * ops.size ≤ s'.nx → K s' = some r → Q .normal a C.w) :
    ∀ (l : List Oper) (i : Nat) (s : St) (a : Act) (C : Ctx), (∀ j, l[j]? = ops[i + j]?) → i + l.length = ops.size → base + room * ops.size ≤ s.nx → runOps E inl false ops base i l s K = some r →
      Sim C0 w0 M0 (avq more base i ops.size s.nx) s a C → wpOps E.P ops Q (List.range' i l.length) a C.w
  | [], i, s, a, C, _, _, hnx, h, hS => by
    exact hQ s a C (hS.weak fun id hid => by
      unfold avq
      rcases hid with hid | hid
      · exact .inl hid
      · exact .inr (.inr hid)) hnx h
  | o :: l, i, s, a, C, hl, hlen, hnx, h, hS => by
    have ho : ops[i]? = some o := by simpa using (hl 0).symm
    have hl' : ∀ j, l[j]? = ops[i + 1 + j]? := fun j => by
      have := hl (j + 1)
      rw [List.getElem?_cons_succ] at this
      rw [this]
      congr 1
      omega
    have hlt : i < ops.size := (Array.getElem?_eq_some_iff.1 ho).1
    have hlen' : i + 1 + l.length = ops.size := by
      rw [List.length_cons] at hlen
      omega
    rw [List.length_cons, List.range'_succ, wpOps_cons]
    unfold wpOp
    rw [ho]
    simp only []
    have fin : ∀ s' a' C', Sim C0 w0 M0 (avq more base (i + 1) ops.size s'.nx) s' a' C' → s.nx ≤ s'.nx → runOps E inl false ops base (i + 1) l s' K = some r → wpOps E.P ops Q (List.range' (i + 1) l.length) a' C'.w :=
      fun s' a' C' h1 h2 h3 => runOps_wp hE hI hm hQ l (i + 1) s' a' C' hl' hlen' (Nat.le_trans hnx h2) h3 h1
    unfold runOps at h
    split at h
    · rename_i hg
      rw [if_pos (by unfold Region.wanted; rw [hg])]
      exact .inl (oneOp_wp hE hI hm hlt hnx h hS fun s' a' C' h1 h2 h3 => fin s' a' C' h1 h2 h3)
    · rename_i j want hg
      split at h
      · rename_i d hd
        have no : ∀ (b : AV), (s.tm d = .bool (!want) ∨ s.tm d = .tup []) → dstOk s o.dst = true → runOps E inl false ops base (i + 1) l (s.put o.dst (.tup [])) K = some r →
            (if Region.wanted o (yielded ops a.tmps) = true then o.wp E.P a C.w (wpOps E.P ops Q (List.range' (i + 1) l.length)) Q ∨ (o.asks E.P a C.w ∧ LetsOut Q) else wpOps E.P ops Q (List.range' (i + 1) l.length) (a.put o.dst undef) C.w) := fun _ hb hk h3 => by
          rw [if_neg (by rw [wanted_no hS hg hd hb]; simp)]
          exact skip_wp hS hk fun s' a' C' h1 h2 hs => fin s' a' C' h1 h2 (hs ▸ h3)
        have yes : s.tm d = .bool want → oneOp E inl false ops base i o s (fun s => runOps E inl false ops base (i + 1) l s K) = some r →
            (if Region.wanted o (yielded ops a.tmps) = true then o.wp E.P a C.w (wpOps E.P ops Q (List.range' (i + 1) l.length)) Q ∨ (o.asks E.P a C.w ∧ LetsOut Q) else wpOps E.P ops Q (List.range' (i + 1) l.length) (a.put o.dst undef) C.w) := fun hb h3 => by
          rw [if_pos (wanted_yes hS hg hd hb)]
          exact .inl (oneOp_wp hE hI hm hlt hnx h3 hS fun s' a' C' h1 h2 h3 => fin s' a' C' h1 h2 h3)
        split at h
        · rename_i b hb
          cases want with
          | true =>
            simp only [cond_true] at h
            split at h
            · rename_i hbt
              subst hbt
              rw [upd_eq hb] at h
              exact yes hb h
            · rename_i hbf
              have hbf : b = false := by simpa using hbf
              subst hbf
              cases hk : dstOk s o.dst with
              | false => rw [hk] at h; cases h
              | true =>
                rw [hk, cond_true, upd_eq hb] at h
                exact no .undef (.inl hb) hk h
          | false =>
            simp only [cond_false] at h
            split at h
            · rename_i hbt
              subst hbt
              cases hk : dstOk s o.dst with
              | false => rw [hk] at h; cases h
              | true =>
                rw [hk, cond_true, upd_eq hb] at h
                exact no .undef (.inl hb) hk h
            · rename_i hbf
              have hbf : b = false := by simpa using hbf
              subst hbf
              rw [upd_eq hb] at h
              exact yes hb h
        · rename_i ht
          cases hk : dstOk s o.dst with
          | false => rw [hk] at h; cases h
          | true =>
            rw [hk, cond_true] at h
            exact no .undef (.inr ht) hk h
        · cases h
      · cases h

/-- Where the code's end leads. -/
def Post {R : Type} (C0 : Ctx) (w0 : Start) (M0 more : Nat → Prop) (lo : Nat) (K : Exit → St → Option R) (r : R) (ex : Exit) (a : Act) (w : World) : Prop :=
  ∃ s C, C.w = w ∧ Good C0 w0 M0 more lo s a C ∧ K ex s = some r

theorem cutK_id {R : Type} (A : Anns) (c : Code) (f : St → Option R) : cutK (fun _ f => f) A c f = f := by
  unfold cutK
  split
  · split <;> rfl
  · rfl

theorem evC_sound {R : Type} {inl : Inl R} {lo : Nat} (hE : EnvOk E) (hI : InlSound E inl) (hB : Base C0 more lo) (A : Anns) : ∀ (c : Code) (s : St) (K : Exit → St → Option R) (r : R) (a : Act) (C : Ctx), evC E (fun _ f => f) inl lo A c s K = some r → Good C0 w0 M0 more lo s a C →
    c.wp E.P (Post C0 w0 M0 more lo K r) a C.w := by
  intro c
  induction c with
  | skip => exact fun s K r a C h g => wp_skip ⟨s, C, rfl, g, h⟩
  | region id ops draw =>
    intro s K r a C h g
    have hm : ∀ id, more id → id < s.nx := fun id hid => Nat.lt_of_lt_of_le (hB.more id hid) g.lo
    unfold evC at h
    cases draw with
    | true =>
      simp only [cond_true] at h
      cases hd : drawB E ops with
      | false => rw [hd] at h; cases h
      | true =>
        rw [hd, cond_true] at h
        refine wp_mono (drawn_wp hE hd hm h g.sim) ?_
        rintro ex a' w' ⟨s', C', rfl, rfl, h1, h3, h2⟩
        exact ⟨s', C', rfl, ⟨h1, Nat.le_trans g.lo h3⟩, h2⟩
    | false =>
      simp only [cond_false] at h
      refine wp_region ?_
      rw [List.range_eq_range']
      have := runOps_wp (Q := Post C0 w0 M0 more lo K r) hE hI hm (fun s' a C h1 h2 h3 => ⟨s', C, rfl, ⟨h1, Nat.le_trans g.lo (by omega)⟩, h3⟩) ops.toList 0 { s with nx := s.nx + room * ops.size } a C (fun j => by simp) (by simp) (Nat.le_refl _) h (by
        have h1 : Sim C0 w0 M0 (avq more s.nx 0 ops.size (s.nx + room * ops.size)) s a C := g.sim.weak fun id hid => by
          unfold avq at hid
          rcases hid with hid | hid | hid
          · exact .inl hid
          · exact .inr (by omega)
          · exact .inr (by omega)
        exact ⟨h1.n, h1.tm, h1.tab, h1.ok, h1.ext, h1.defers⟩)
      simpa using this
  | seq x y ihx ihy =>
    intro s K r a C h g
    unfold evC at h
    rw [cutK_id] at h
    refine wp_seq (wp_mono (ihx s _ r a C h g) ?_)
    rintro ex a' w' ⟨s', C', rfl, h1, h2⟩
    cases ex with
    | normal =>
      obtain ⟨C2, hw, g2⟩ := normAt_good hB h1 A false y
      have := ihy _ K r a' C2 h2 g2
      rw [hw] at this
      exact this
    | _ => exact ⟨s', C', rfl, h1, h2⟩
  | cond c x y ihx ihy =>
    intro s K r a C h g
    unfold evC condK at h
    split at h
    · rename_i b hb
      have hv := g.sim.val c
      rw [hb] at hv
      refine wp_cond (rel_bool hv) ?_
      cases b with
      | true => exact ihx s K r a C (by simpa using h) g
      | false => exact ihy s K r a C (by simpa using h) g
    · cases h
  | block id x ih =>
    intro s K r a C h g
    refine wp_block (wp_mono (ih s _ r a C h g) ?_)
    rintro ex a' w' ⟨s', C', rfl, h1, h2⟩
    cases ex with
    | exit j =>
      unfold Exit.inBlock
      simp only []
      unfold blockK at h2
      simp only [] at h2
      cases hj : Nat.beq j id with
      | true =>
        rw [hj, cond_true] at h2
        rw [if_pos (Nat.eq_of_beq_eq_true hj)]
        exact ⟨s', C', rfl, h1, h2⟩
      | false =>
        rw [hj, cond_false] at h2
        rw [if_neg (fun e => by rw [e, Nat.beq_refl] at hj; cases hj)]
        exact ⟨s', C', rfl, h1, h2⟩
    | _ => exact ⟨s', C', rfl, h1, h2⟩
  | loop x ih =>
    intro s K r a C h g
    unfold evC at h
    obtain ⟨C1, hw1, g1⟩ := normAt_good hB g A true x
    refine wp_loop_rounds E.k ?_
    have key : ∀ (k : Nat) (s : St) (a : Act) (C : Ctx), loopN (normAt lo A true x) (fun K s => evC E (fun _ f => f) inl lo A x s K) K k s = some r → Good C0 w0 M0 more lo s a C → Code.rounds E.P x (Post C0 w0 M0 more lo K r) k a C.w := by
      intro k
      induction k with
      | zero => exact fun s a C h _ => by cases h
      | succ k ihk =>
        intro s a C h g
        rw [rounds_succ]
        refine wp_mono (ih s _ r a C h g) ?_
        rintro ex a' w' ⟨s', C', rfl, h1, h2⟩
        cases ex with
        | normal =>
          obtain ⟨C2, hw, g2⟩ := normAt_good hB h1 A true x
          have := ihk _ a' C2 h2 g2
          rw [hw] at this
          exact this
        | _ => exact ⟨s', C', rfl, h1, h2⟩
    have := key E.k _ a C1 h g1
    rw [hw1] at this
    exact this
  | exit id => exact fun s K r a C h g => wp_exit ⟨s, C, rfl, g, h⟩
  | ret => exact fun s K r a C h g => wp_ret ⟨s, C, rfl, g, h⟩
  | label l => exact fun s K r a C h g => wp_label ⟨s, C, rfl, g, h⟩
  | rangeFunc => exact fun s K r a C h g => by cases h
  | scope => exact fun s K r a C h g => by cases h
  | goto => exact fun s K r a C h g => by cases h
  | refuse => exact fun s K r a C h g => by cases h

end
end Go.Proofs.Ytbbmdflfonifnaa.Mini
