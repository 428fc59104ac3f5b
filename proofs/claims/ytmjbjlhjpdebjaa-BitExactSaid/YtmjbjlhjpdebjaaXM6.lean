/- A small machine over plain data: each operation of the machine does what it is told to do. Second part: memory, read and written. -/
import Derived.Test.YtmjbjlhjpdebjaaXM5
namespace Go.Proofs.Ytmjbjlhjpdebjaa.Mini
open Go Go.RowKit
section
variable {P : Program} {s : Sem Value} {w0 : Start} {M0 av : Nat → Prop} {fresh : Nat} {C : Ctx} {out : Out}

/-! ### Loads -/
theorem addr_eq {a : Addr} (h : a.spot = none) : a = ⟨a.block, a.off, none⟩ := by
  cases a
  simp_all

theorem cell_at {w : World} {b o : Nat} {cs : Array Value} {T : TypeId} {fr : Nat × Nat} (h : w.heap[b]? = some (.cells cs T fr)) : w.cell? ⟨b, o, none⟩ = cs[o]? := by
  simp [World.cell?, h]

theorem add_off (b o j : Nat) : (⟨b, o, none⟩ : Addr).add j = ⟨b, o + j, none⟩ := by unfold Addr.add; split <;> simp_all

theorem run_loadVar {ty : TypeId} {a : Bool} {n b off : Nat} {cs : Array Value} {T : TypeId} {fr : Nat × Nat} {v : Value} (hs : shapeOf P ty = some (a, n)) {w : World} (hh : w.heap[b]? = some (.cells cs T fr))
    (h1 : a = true → n ≤ (cs.toList.drop off).length ∧ v = .agg ((cs.toList.drop off).take n).toArray) (h2 : a = false → (cs.toList.drop off)[0]? = some v) : (loadVar ty ⟨b, off, none⟩).run P w = .ok v w := by
  obtain ⟨i, hi, rfl⟩ := shape_info hs
  unfold loadVar
  rw [Sem.run_bind, run_isAgg hs]
  cases a with
  | true =>
    obtain ⟨hn, rfl⟩ := h1 rfl
    have hl := run_loadCells_list (P := P) w ⟨b, off, none⟩ ((cs.toList.drop off).take i.size) (fun j v hj => by
      rw [add_off, cell_at hh]
      have hj' := hj
      rw [List.getElem?_take] at hj'
      split at hj'
      · rw [List.getElem?_drop, Array.getElem?_toList] at hj'
        exact hj'
      · cases hj')
    rw [List.length_take, Nat.min_eq_left hn] at hl
    simp only [Result.andThen_ok, if_true, Sem.run_bind, run_sizeOf hi, hl, Sem.run_pure]
  | false =>
    have := h2 rfl
    rw [List.getElem?_drop, Nat.add_zero, Array.getElem?_toList] at this
    simp only [Result.andThen_ok, Bool.false_eq_true, if_false]
    rw [run_load, cell_at hh, this]

theorem takeT_load {ty : TypeId} {l : List AV} {x : AV} (h : takeT P ty l = some x) {b off : Nat} {cs : Array Value} {T : TypeId} {fr : Nat × Nat} (hh : C.w.heap[b]? = some (.cells cs T fr))
    {m : Nat} (hc : RelL C ((cs.toList.drop off).take m) l) : ∃ v, (loadVar ty ⟨b, off, none⟩).run P C.w = .ok v C.w ∧ Rel C v x := by
  unfold takeT at h
  cases hs : shapeOf P ty with
  | none => rw [hs] at h; cases h
  | some an =>
    obtain ⟨a, n⟩ := an
    rw [hs] at h
    obtain ⟨v, h1, h2, h3⟩ := take_rel h hc
    refine ⟨v, run_loadVar hs hh (fun ha => ?_) (fun ha => ?_), h3⟩
    · obtain ⟨k1, k2⟩ := h1 ha
      rw [List.length_take] at k1
      refine ⟨by omega, ?_⟩
      rw [k2, List.take_take, Nat.min_eq_left (by omega)]
    · have := h2 ha
      rw [List.getElem?_take] at this
      split at this
      · exact this
      · cases this

theorem getD_at {α : Type} {xs : List α} {j : Nat} {d : α} (h : j < xs.length) : xs[j]? = some (xs.getD j d) := by
  rw [List.getD_eq_getElem?_getD, List.getElem?_eq_getElem h]
  rfl

theorem RowAt.leaves {k : Kd} {T : TypeId} {xs : List (El k)} {p : Pl} (h : RowAt C k T xs (some p)) {j : Nat} (hj : j < xs.length) :
    ∃ cs, C.w.heap[p.b]? = some (.cells cs T (0, 0)) ∧ p.o + j * k.sz + k.sz ≤ cs.size ∧ RelL C ((cs.toList.drop (p.o + j * k.sz)).take k.sz) (leavesOf k (xs.getD j (dflt k))) := by
  rcases h with ⟨h, _⟩ | ⟨q, h, cs, hh, hx⟩
  · cases h
  · cases h
    obtain ⟨h1, h2⟩ := hx j _ (getD_at hj)
    exact ⟨cs, hh, h1, h2.leaves⟩

theorem drop_take_drop {α : Type} (l : List α) (a n off : Nat) : ((l.drop a).take n).drop off = (l.drop (a + off)).take (n - off) := by
  rw [List.drop_take, List.drop_drop]

theorem intsOf_rel {k : IntKind} : ∀ {l : List AV} {ns : List Int}, intsOf k l = some ns → ∀ {cs : List Value}, RelL C cs l → ∀ {i : Nat}, i < ns.length → cs[i]? = some (.int k (ns.getD i 0))
  | [], ns, h, cs, hl, i, hi => by
    cases h
    cases hi
  | y :: l, ns, h, cs, hl, i, hi => by
    cases y <;> simp only [intsOf, reduceCtorEq] at h
    rename_i k' n
    split at h
    · rename_i hk
      subst hk
      split at h
      · rename_i ms hms
        cases h
        cases hl with
        | cons hv ht =>
          cases hv
          cases i with
          | zero => rfl
          | succ i => exact intsOf_rel hms ht (i := i) (by simpa using hi)
      · cases h
    · cases h

theorem loadV_gives (t : TabOk w0 M0 av C) {vw : Tab} (hsub : Sub vw C.tab) {ty : TypeId} {x : AV} {v : Value} {e : Eff} (h : loadV P vw ty x = some e) (hr : e.Res out) (hx : Rel C v x) :
    Gives P (Instr.loadAt ty v) w0 M0 av fresh C out := by
  have key : ∀ {k : Kd} {T : TypeId} {xs : List (El k)} {id j off : Nat} {blk : Blk}, C.tab id = some blk → RowLike blk k T xs → EptrRel C v id j off →
      (match takeT P ty ((leavesOf k (xs.getD j (dflt k))).drop off) with | some v => ok v | none => none) = some e → Gives P (Instr.loadAt ty v) w0 M0 av fresh C out := by
    intro k T xs id j off blk e1 hrl hx h
    obtain ⟨_, a, rfl, hb⟩ := hx
    obtain ⟨k', T', ys, p, hr', hp, hj, rfl⟩ := hb blk e1
    obtain ⟨rfl, rfl, hq⟩ := hrl.uniq hr'
    obtain rfl := eq_of_heq hq
    obtain ⟨p', hp', hbr⟩ := t.bl id blk e1
    rw [hp] at hp'
    cases hp'
    obtain ⟨cs, hh, _, hl⟩ := (hrl.rel hbr).leaves hj
    split at h
    · rename_i y hy
      obtain rfl := ok_res h hr
      have hl' := hl.drop off
      rw [drop_take_drop] at hl'
      obtain ⟨u, h1, h2⟩ := takeT_load hy hh hl'
      exact gives_pure t (by simpa [Instr.loadAt, Instr.sureAddr] using h1) h2
    · cases h
  unfold loadV at h
  split at h
  · rename_i id off
    cases hx with
    | ptr hx =>
      obtain ⟨_, a, rfl, hb⟩ := hx
      split at h
      · rename_i T l hv
        have e1 := hsub _ _ hv
        obtain ⟨T', l', p, hc, hp, ho, rfl⟩ := hb _ e1
        cases hc
        obtain ⟨p', hp', hbr⟩ := t.bl id _ e1
        rw [hp] at hp'
        cases hp'
        obtain ⟨q, hq, _, cs, hh, hl⟩ := hbr
        cases hq
        split at h
        · rename_i e' hai
          obtain rfl := Option.some.inj h
          unfold arrI at hai
          split at hai
          · rename_i _ _ k _ hu hs
            split at hai
            · rename_i ns hns
              obtain rfl := Option.some.inj hai
              unfold wh at hr
              cases hr with
              | guard hc hr =>
                cases hr
                have hlt : off < ns.length := by
                  have := Gd.ok.1 hc
                  omega
                have h1 := intsOf_rel hns hl hlt
                have h2 := run_loadVar (a := false) (v := .int k (ns.getD off 0)) hs hh (fun h => by cases h) (fun _ => by rw [List.getElem?_drop, Nat.add_zero]; exact h1)
                exact gives_pure t (by simpa [Instr.loadAt, Instr.sureAddr] using h2) .int
            · cases hai
          · cases hai
        split at h
        · rename_i y hy
          obtain rfl := ok_res h hr
          have hl' := hl.drop off
          rw [show cs.toList.drop off = (cs.toList.drop off).take (cs.toList.drop off).length from (List.take_length).symm] at hl'
          obtain ⟨u, h1, h2⟩ := takeT_load hy hh hl'
          exact gives_pure t (by simpa [Instr.loadAt, Instr.sureAddr] using h1) h2
        · cases h
      · cases h
  · rename_i id j off
    cases hx with
    | eptr hx =>
      split at h
      · rename_i hv
        exact key (hsub _ _ hv) (.inl ⟨_, rfl⟩) hx h
      · rename_i hv
        exact key (hsub _ _ hv) (.inr rfl) hx h
      · cases h
  · rename_i l
    cases hx with
    | iptr hs ho hh hl =>
      rename_i a cs T fr
      split at h
      · rename_i y hy
        obtain rfl := ok_res h hr
        obtain ⟨u, h1, h2⟩ := takeT_load hy hh hl
        rw [← addr_eq hs] at h1
        exact gives_pure t (by simpa [Instr.loadAt, Instr.sureAddr] using h1) h2
      · cases h
  · cases h

/-! ### Values of one cell -/
theorem leaf_one {v : Value} {x : AV} (h : Rel C v x) (hl : leafB x = true) : v.oneCell' = true ∧ v.cells = #[v] := by
  cases h with
  | undef => cases hl
  | agg => cases hl
  | tup => cases hl
  | row h =>
    obtain ⟨A, c, e, _⟩ := h
    cases e
    exact ⟨rfl, rfl⟩
  | own h =>
    obtain ⟨_, A, n, c, rfl, _⟩ := h
    exact ⟨rfl, rfl⟩
  | sl h =>
    obtain ⟨_, A, n, c, rfl, _⟩ := h
    exact ⟨rfl, rfl⟩
  | ptr h =>
    obtain ⟨_, a, rfl, _⟩ := h
    exact ⟨rfl, rfl⟩
  | eptr h =>
    obtain ⟨_, a, rfl, _⟩ := h
    exact ⟨rfl, rfl⟩
  | _ => exact ⟨rfl, rfl⟩

theorem cells_rel {v : Value} {x : AV} (h : Rel C v x) (hl : x.leaves.all leafB = true) : RelL C v.cells.toList x.leaves := by
  cases h with
  | agg h => exact h
  | undef => simp [AV.leaves, leafB] at hl
  | tup => simp [AV.leaves, leafB] at hl
  | row h => exact (by rw [(leaf_one (.row h) rfl).2]; exact .cons (.row h) .nil)
  | own h => exact (by rw [(leaf_one (.own h) rfl).2]; exact .cons (.own h) .nil)
  | sl h => exact (by rw [(leaf_one (.sl h) rfl).2]; exact .cons (.sl h) .nil)
  | ptr h => exact (by rw [(leaf_one (.ptr h) rfl).2]; exact .cons (.ptr h) .nil)
  | eptr h => exact (by rw [(leaf_one (.eptr h) rfl).2]; exact .cons (.eptr h) .nil)
  | int => exact .cons .int .nil
  | bool => exact .cons .bool .nil
  | str => exact .cons .str .nil
  | nils => exact .cons .nils .nil
  | nilp => exact .cons .nilp .nil
  | iptr a b c d => exact .cons (.iptr a b c d) .nil
  | fn h => exact .cons (.fn h) .nil
  | yld => exact .cons .yld .nil

theorem cells_one : ∀ {cs : List Value} {l : List AV}, RelL C cs l → l.all leafB = true → ∀ v ∈ cs, v.oneCell' = true
  | _, _, .nil, _, v, hv => by cases hv
  | _, _, .cons h t, hl, v, hv => by
    simp only [List.all_cons, Bool.and_eq_true] at hl
    rcases List.mem_cons.1 hv with rfl | hv
    · exact (leaf_one h hl.1).1
    · exact cells_one t hl.2 v hv

theorem RepC.one {w : World} {ok : Nat → Prop} : ∀ {k : Kd} {x : El k} {cs : List Value}, RepC w ok k x cs → ∀ v ∈ cs, v.oneCell' = true
  | .int _, _, _, h, v, hv => by rw [show _ = _ from h] at hv; simp at hv; subst hv; rfl
  | .bool, _, _, h, v, hv => by rw [show _ = _ from h] at hv; simp at hv; subst hv; rfl
  | .str, _, _, h, v, hv => by rw [show _ = _ from h] at hv; simp at hv; subst hv; rfl
  | .unit, _, _, h, v, hv => by rw [show _ = _ from h] at hv; simp at hv
  | .pair a b, x, cs, h, v, hv => by
    obtain ⟨c, d, rfl, h1, h2⟩ := h
    rcases List.mem_append.1 hv with hv | hv
    · exact h1.one v hv
    · exact h2.one v hv
  | .row a, xs, cs, h, v, hv => by
    obtain ⟨A, c, rfl, _⟩ := h
    simp at hv
    subst hv
    rfl

/-! ### Rows, spliced -/
theorem splice_get {α : Type} (L vs : List α) (a : Nat) (h : a + vs.length ≤ L.length) (i : Nat) :
    (L.take a ++ vs ++ L.drop (a + vs.length))[i]? = if i < a then L[i]? else if i < a + vs.length then vs[i - a]? else L[i]? := by
  have h1 : (L.take a).length = a := by rw [List.length_take]; omega
  rw [List.getElem?_append]
  split
  · rename_i hi
    rw [List.length_append, h1] at hi
    rw [List.getElem?_append, h1]
    split
    · rename_i h2
      rw [List.getElem?_take, if_pos h2]
    · rfl
  · rename_i hi
    rw [List.length_append, h1] at hi
    rw [if_neg (by omega), if_neg hi, List.length_append, h1, List.getElem?_drop]
    congr 1
    omega

theorem splice_len {α : Type} (L vs : List α) (a : Nat) (h : a + vs.length ≤ L.length) : (L.take a ++ vs ++ L.drop (a + vs.length)).length = L.length := by
  simp only [List.length_append, List.length_take, List.length_drop]
  omega

/-- The segment that is written into. -/
theorem splice_seg {α : Type} (L vs : List α) (S off sz : Nat) (h1 : off + vs.length ≤ sz) (h2 : S + sz ≤ L.length) :
    ((L.take (S + off) ++ vs ++ L.drop (S + off + vs.length)).drop S).take sz = ((L.drop S).take sz).take off ++ vs ++ ((L.drop S).take sz).drop (off + vs.length) := by
  apply List.ext_getElem?
  intro i
  rw [List.getElem?_take, List.getElem?_drop, splice_get _ _ _ (by omega)]
  have hl : ((L.drop S).take sz).length = sz := by rw [List.length_take, List.length_drop]; omega
  rw [splice_get _ _ _ (by rw [hl]; exact h1), List.getElem?_take, List.getElem?_drop]
  by_cases hi : i < sz
  · rw [if_pos hi, if_pos hi]
    by_cases h3 : i < off
    · rw [if_pos (by omega), if_pos h3]
    · rw [if_neg (by omega), if_neg h3]
      by_cases h4 : i < off + vs.length
      · rw [if_pos (by omega), if_pos h4]
        congr 1
        omega
      · rw [if_neg (by omega), if_neg h4]
  · rw [if_neg hi, if_neg hi, if_neg (by omega), if_neg (by omega)]

/-- The segments beside it. -/
theorem splice_other {α : Type} (L vs : List α) (S off sz S' : Nat) (h1 : off + vs.length ≤ sz) (h2 : S + sz ≤ L.length) (h3 : S' + sz ≤ S ∨ S + sz ≤ S') :
    ((L.take (S + off) ++ vs ++ L.drop (S + off + vs.length)).drop S').take sz = (L.drop S').take sz := by
  apply List.ext_getElem?
  intro i
  rw [List.getElem?_take, List.getElem?_drop, splice_get _ _ _ (by omega), List.getElem?_take, List.getElem?_drop]
  by_cases hi : i < sz
  · rw [if_pos hi, if_pos hi]
    by_cases h4 : S' + i < S + off
    · rw [if_pos h4]
    · rw [if_neg h4, if_neg (by omega)]
  · rw [if_neg hi, if_neg hi]

theorem putL_eq {l : List AV} {off : Nat} {vs l' : List AV} (h : putL l off vs = some l') : off + vs.length ≤ l.length ∧ l' = l.take off ++ vs ++ l.drop (off + vs.length) := by
  unfold putL at h
  cases hb : Nat.ble (off + vs.length) l.length with
  | false => rw [hb] at h; cases h
  | true =>
    rw [hb] at h
    cases h
    exact ⟨Nat.le_of_ble_eq_true hb, rfl⟩

theorem RelL.splice {cs ws : List Value} {l vs : List AV} (h : RelL C cs l) (k : RelL C ws vs) (off : Nat) : RelL C (cs.take off ++ ws ++ cs.drop (off + ws.length)) (l.take off ++ vs ++ l.drop (off + vs.length)) := by
  rw [k.length]
  exact ((h.take off).app k).app (h.drop _)

/-! ### A leaf, told as data -/
theorem RowAt.ok_of (t : TabOk w0 M0 av C) {id : Nat} {blk : Blk} (e : C.tab id = some blk) (hm : blk.isMut = false) {p : Pl} (hp : C.io id = some (some p)) : C.ok p.b := by
  refine ⟨t.bs id p blk e hp (by cases blk <;> first | rfl | cases hm), fun id' p' blk' h1 h2 h3 h4 => ?_⟩
  obtain rfl := t.inj id' id p' p blk' blk h2 e h1 hp h4
  rw [e] at h2
  cases h2
  rw [hm] at h3
  cases h3

theorem snap_fro (t : TabOk w0 M0 av C) {v : Value} {id off : Nat} {len : Option Nat} (h : SlRel C v id off len) {k : Kd} {T : TypeId} {xs : List (El k)} (e : C.tab id = some (.fro k T xs)) :
    Rel C v (.row k ((xs.drop off).take (len.getD xs.length))) :=
  .row (h.snap t e (.inr rfl) C.ok (fun _ h => h) fun _ hp => RowAt.ok_of t e rfl hp)

theorem drop_zero_take {α : Type} (xs : List α) : (xs.drop 0).take xs.length = xs := by simp

/-- After a freezing a leaf is what it was told to be. -/
theorem snap_rel (t : TabOk w0 M0 av C) {vw : Tab} (hsub : Sub vw C.tab) {C1 : Ctx} (t1 : TabOk w0 M0 av C1) (hx1 : Ext C C1) {v : Value} {x : AV} (h : Rel C v x) {c : Chg} (hf : frz1 vw x = some c)
    (hc : ∀ p ∈ c, C1.tab p.1 = p.2) : Rel C1 v (snap vw x) := by
  have key : ∀ {id off : Nat} {len : Option Nat}, SlRel C v id off len → (match vw id with | some (.row true k T xs) => some [(id, some (Blk.fro k T xs))] | some (.fro _ _ _) => some [] | _ => none) = some c →
      ∃ k T xs, (vw id = some (.row true k T xs) ∨ vw id = some (.fro k T xs)) ∧ Rel C1 v (.row k ((xs.drop off).take (len.getD xs.length))) := by
    intro id off len hs hf
    split at hf
    · rename_i k T xs e
      cases hf
      have e1 := hc _ (List.mem_singleton.2 rfl)
      exact ⟨k, T, xs, .inl e, snap_fro t1 (hs.ext hx1) e1⟩
    · rename_i k T xs e
      exact ⟨k, T, xs, .inr e, (snap_fro t hs (hsub _ _ e)).ext hx1⟩
    · cases hf
  cases x with
  | own id =>
    cases h with
    | own h =>
      obtain ⟨k, T, xs, e, hr⟩ := key h hf
      rw [Option.getD_none, drop_zero_take] at hr
      rcases e with e | e <;> simpa only [snap, e] using hr
  | sl id off len =>
    cases h with
    | sl h =>
      obtain ⟨k, T, xs, e, hr⟩ := key h hf
      rw [Option.getD_some] at hr
      rcases e with e | e <;> simpa only [snap, e] using hr
  | _ => exact h.ext hx1

theorem frz_parts {vw : Tab} : ∀ {l : List AV} {c : Chg}, frz vw l = some c → ∀ x ∈ l, ∃ d, frz1 vw x = some d ∧ ∀ p ∈ d, p ∈ c
  | [], _, _, x, hx => by cases hx
  | y :: l, c, h, x, hx => by
    unfold frz at h
    split at h
    · rename_i c1 h1
      split at h
      · rename_i c2 h2
        cases h
        rcases List.mem_cons.1 hx with rfl | hx
        · exact ⟨c1, h1, fun p hp => List.mem_append.2 (.inl hp)⟩
        · obtain ⟨d, h3, h4⟩ := frz_parts h2 x hx
          exact ⟨d, h3, fun p hp => List.mem_append.2 (.inr (h4 p hp))⟩
      · cases h
    · cases h

theorem snaps_rel (t : TabOk w0 M0 av C) {vw : Tab} (hsub : Sub vw C.tab) {C1 : Ctx} (t1 : TabOk w0 M0 av C1) (hx1 : Ext C C1) : ∀ {vs : List Value} {l : List AV}, RelL C vs l →
    (∀ x ∈ l, ∃ d, frz1 vw x = some d ∧ ∀ p ∈ d, C1.tab p.1 = p.2) → RelL C1 vs (l.map (snap vw))
  | _, _, .nil, _ => .nil
  | _, _, .cons h k, hf => by
    obtain ⟨d, h1, h2⟩ := hf _ List.mem_cons_self
    exact .cons (snap_rel t hsub t1 hx1 h h1 h2) (snaps_rel t hsub t1 hx1 k fun x hx => hf x (by simp [hx]))

theorem FrzOf.sub {a b : Tab} (h : Sub a b) {c : Chg} (k : FrzOf a c) : FrzOf b c := fun p hp => by
  obtain ⟨kd, T, xs, e1, e2⟩ := k p hp
  exact ⟨kd, T, xs, h _ _ e1, e2⟩

theorem chg_get_of {tab : Tab} {c : Chg} (h : FrzOf tab c) {p : Nat × Option Blk} (hp : p ∈ c) : chg tab c p.1 = p.2 := by
  obtain ⟨q, hq, h1, h2⟩ := h.get (t := tab) (i := p.1) (fun q _ _ => .inl (by rfl)) ⟨p, hp, rfl⟩
  rw [h2]
  obtain ⟨k, T, xs, e1, e2⟩ := h p hp
  obtain ⟨k', T', xs', e3, e4⟩ := h q hq
  rw [h1, e1] at e3
  cases e3
  rw [e2, e4]

theorem chg_other {c : Chg} {id : Nat} : ∀ {t : Tab}, (∀ p ∈ c, p.1 ≠ id) → chg t c id = t id := by
  induction c with
  | nil => intro t _; rfl
  | cons p c ih =>
    intro t h
    rw [chg_cons, ih fun q hq => h q (by simp [hq])]
    exact upd_ne _ _ fun e => h p (by simp) e.symm

end
end Go.Proofs.Ytmjbjlhjpdebjaa.Mini
