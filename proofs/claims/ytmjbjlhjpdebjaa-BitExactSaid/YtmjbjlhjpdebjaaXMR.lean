/- A small machine over plain data: ranges over functions: code does what it is told to do. -/
import Derived.Test.YtmjbjlhjpdebjaaXMQ
namespace Go.Proofs.Ytmjbjlhjpdebjaa.Mini
open Go Go.RowKit

/-- Where the code's end leads. -/
def Post {R : Type} (T : Carry R) (S : Nat → Prop) (C0 : Ctx) (w00 : Start) (M00 more : Nat → Prop) (lo : Nat) (K : Exit → St → Option R) (ex : Exit) (a : Act) (w : World) : Prop :=
  ∃ s C r w0 M0, C.w = w ∧ T.sh S r w0 M0 ∧ StepW S w00 M00 w0 M0 ∧ Good C0 w0 M0 more lo s a C ∧ K ex s = some r

theorem cutK_id {R : Type} (A : Anns) (c : Code) (f : St → Option R) : cutK (fun _ f => f) A c f = f := by
  unfold cutK
  split
  · split <;> rfl
  · rfl

theorem Post.from {R : Type} {T : Carry R} {S : Nat → Prop} {C0 : Ctx} {w0 w1 : Start} {M0 M1 more : Nat → Prop} {lo : Nat} {K : Exit → St → Option R} {ex : Exit} {a : Act} {w : World} (h : Post T S C0 w1 M1 more lo K ex a w) (k : StepW S w0 M0 w1 M1) : Post T S C0 w0 M0 more lo K ex a w := by
  obtain ⟨s, C, r, w2, M2, h1, h2, h3, h4⟩ := h
  exact ⟨s, C, r, w2, M2, h1, h2, k.trans h3, h4⟩

/-- Code does what it is told to do. -/
def Walks {R : Type} (E : Env) (T : Carry R) (inl : Inl R) (A : Anns) (yl : Nat) (c : Code) : Prop :=
  ∀ (ro : Option Nat) (lo : Nat) (C0 : Ctx) (more S : Nat → Prop), Base C0 more lo → C0.yl = yl → ∀ (s : St) (K : Exit → St → Option R) (r : R) (w0 : Start) (M0 : Nat → Prop) (a : Act) (C : Ctx), evC E (fun _ f => f) inl lo A c s K = some r → T.sh S r w0 M0 → RoOk ro w0 M0 → Good C0 w0 M0 more lo s a C →
    c.wpIn (fw ro) 0 E.P (Post T S C0 w0 M0 more lo K) a C.w

theorem putP_rel {C : Ctx} : ∀ {ts : List Tmp} {vs : List AV} {us : List Value} {tmps : Array Value} {f : Nat → AV}, RelL C us vs → (∀ t ∈ ts, t < tmps.size) → ts.length = vs.length → (∀ t, Rel C (tmps.getD t undef) (f t)) →
    ∀ t, Rel C (((ts.zip us).foldl (fun tmps (p : Tmp × Value) => tmps.setIfInBounds p.1 p.2) tmps).getD t undef) (putP ts vs f t)
  | [], _, us, tmps, f, _, _, _, hf, t => by
    show Rel C (tmps.getD t undef) _
    cases us <;> exact hf t
  | t0 :: ts, _, _, tmps, f, .nil, _, hl, _, _ => by cases hl
  | t0 :: ts, v :: vs, u :: us, tmps, f, .cons h ht, hlt, hl, hf, t => by
    show Rel C (((ts.zip us).foldl _ (tmps.setIfInBounds t0 u)).getD t undef) (putP ts vs (upd f t0 v) t)
    refine putP_rel ht (fun t' ht' => ?_) (by simpa using hl) (fun t' => ?_) t
    · rw [Array.size_setIfInBounds]
      exact hlt t' (by simp [ht'])
    · have h0 : t0 < tmps.size := hlt t0 (by simp)
      by_cases he : t' = t0
      · subst he
        rw [upd_same]
        have : (tmps.setIfInBounds t' u).getD t' undef = u := by simp [h0]
        rw [this]
        exact h
      · rw [upd_ne _ _ he]
        have : (tmps.setIfInBounds t0 u).getD t' undef = tmps.getD t' undef := by
          simp [Array.getElem?_setIfInBounds_ne (Ne.symm he)]
        rw [this]
        exact hf t'

theorem foldl_size : ∀ {ts : List (Tmp × Value)} {tmps : Array Value}, (ts.foldl (fun tmps (p : Tmp × Value) => tmps.setIfInBounds p.1 p.2) tmps).size = tmps.size
  | [], _ => rfl
  | p :: ts, tmps => by
    show (ts.foldl _ (tmps.setIfInBounds p.1 p.2)).size = _
    rw [foldl_size, Array.size_setIfInBounds]

theorem argSs_len : ∀ {ys : List Sh} (a : ElSs ys), (argSs ys a).length = ys.length
  | [], _ => rfl
  | [_], _ => rfl
  | _ :: b :: l, a => by
    show (argS _ a.1 :: argSs (b :: l) a.2).length = _
    rw [List.length_cons, argSs_len]
    rfl

/-- Marks lie elsewhere. -/
theorem Marks.put {n : Nat} {w0 : Start} {M0 av : Nat → Prop} {C : Ctx} {ds : List Deferred} (h : Marks n w0 M0 ds) (t : TabOk w0 M0 av C) {l : Nat} {rb : Loop} (hl : C.w.heap[l]? = some (.loop rb)) (o : Obj) : Marks n ⟨C.w.putObj l o, C.base⟩ (MutOf C) ds :=
  ⟨h.1, fun d hd => by
    obtain ⟨D, h1, h2, h3, h4, h5⟩ := h.2 d hd
    have h6 := (t.fr.blk D (heap_lt h3) h4).trans h3
    have hne : D ≠ l := fun e => by
      subst e
      rw [hl] at h6
      cases h6
    refine ⟨D, h1, h2, (World.putObj_heap_other hne).trans h6, fun hm => ?_, by rw [t.bq]; exact h5⟩
    obtain ⟨cs, T', h7⟩ := t.mut_cells hm
    rw [h6] at h7
    cases h7⟩

theorem walk_at {S : Nat → Prop} {C C3 : Ctx} {w3 : Start} {M3 av : Nat → Prop} (k : StepW S ⟨C.w, C.base⟩ (MutOf C) w3 M3) (t : TabOk w3 M3 av C3) {b : Nat} (hb : b < C.w.heap.size) (hm : ¬ MutOf C b) (hB : C.base b) : C3.w.heap[b]? = C.w.heap[b]? :=
  (t.fr.blk b (Nat.lt_of_lt_of_le hb k.size) fun h => (k.mb b h).elim hm fun hle => absurd hb (Nat.not_lt.2 hle)).trans (k.blk b hb hm hB).1

/-- The jump that an exit leaves in the record. -/
def exC : Exit → Option Code
  | .ret => some .ret
  | .exit j => some (.exit j)
  | _ => none

section
variable {E : Env} {R : Type} {T : Carry R} {S : Nat → Prop} {inl : Inl R} {A : Anns} {C0 : Ctx} {wE : Start} {ME more : Nat → Prop} {lo l nG n0 yl : Nat} {a : Act} {ps : Array Tmp} {x b : Code} {fn : FuncId}

/-- One round. -/
theorem round_ok (hT : StableQ n0 T) (hx : Walks E T inl A yl x) (hb : Walks E T inl A yl b) (hB : Base C0 more lo) (hyl : C0.yl = yl) (hn : n0 ≤ l) {ys : List Sh} {K : Exit → St → Option R} {L : St → Option R} {y : ElSs ys} (hps : ps.size = ys.length) (hlt : ∀ t ∈ ps.toList, t < a.tmps.size) {Q : St → Option R}
    (hQ : ∀ s, Q s = evC E (fun _ f => f) inl s.nx A x { n := s.n, tm := putP ps.toList (argSs ys y) s.tm, tab := s.tab, nx := s.nx } (asK fun s2 => evC E (fun _ f => f) inl s.nx A b s2 (roundK L (normAt lo A true b) s K)))
    {W : Start} {M : Nat → Prop} (h : RJ T S C0 wE ME more lo l nG (RecAt fn a.tmps ps x b l none) a Q W M) (hM : ∀ b, M b → b < W.heap.size) {args : Array Value} (hargs : ∀ y0, RelL (yieldCtx W M y0) args.toList (argSs ys y)) :
    YieldAt Fence.wide 0 E.P l args W.toWorld fun e w' => GKeep W M w' ∧ ((e = .returned (.bool true) ∧ RJ T S C0 wE ME more lo l nG (RecAt fn a.tmps ps x b l none) a L (behind W w') M) ∨
      (e = .returned (.bool false) ∧ ∃ ex c, exC ex = some c ∧ RJ T S C0 wE ME more lo l nG (RecAt fn a.tmps ps x b l (some c)) a (fun s => K ex s) (behind W w') M)) := by
  obtain ⟨s, C, r, hw, h⟩ := h
  obtain ⟨W0, WB⟩ := W
  obtain rfl : C.w = W0 := hw
  have h : RJ0 T S C0 wE ME more lo l nG (RecAt fn a.tmps ps x b l none) a Q WB M s C r := h
  have hM : ∀ b, M b → b < C.w.heap.size := hM
  obtain ⟨rb, hl, h1, h2, h3, h4, h5, h6, h7⟩ := h.rcd
  have hll : l < C.w.heap.size := heap_lt hl
  have tk := h.good.sim.ok
  have xe : Ext (yieldCtx ⟨C.w, WB⟩ M C.yl) C := by
    refine ⟨fun _ _ h => (by cases h), fun _ _ h _ => absurd rfl h, fun _ _ _ _ h _ => h, fun _ _ _ h _ => (by cases h), fun b' hb' ho => ?_, Nat.le_refl _, rfl⟩
    obtain ⟨⟨k1, k2⟩, _⟩ := ho
    exact ok_iff.2 ⟨h.gb b' hb' k1 k2, fun hm => (h.mu b' hm).1 k1⟩
  have hrel : RelL C args.toList (argSs ys y) := (hargs C.yl).ext xe
  have hsz : args.size = rb.params.size := by
    rw [h3, hps, ← argSs_len y, ← hrel.length, Array.length_toList]
  refine ⟨rb.fn, _, rb.assign, rb.body, run_yield hl hsz, ?_⟩
  refine roundIn_of_wpIn (F := Fence.wide) (n := 0) trivial ?_
  rw [h4, h5]
  have hBase : Base C more s.nx := ⟨fun id hid => Nat.lt_of_lt_of_le (hB.more id hid) h.good.lo, fun id hid => tk.av id (.inr hid)⟩
  have htm : (rb.params.zip args).foldl (fun tmps (x : Tmp × Value) => match x with | (t, a) => tmps.setIfInBounds t a) rb.tmps = (ps.toList.zip args.toList).foldl (fun tmps (p : Tmp × Value) => tmps.setIfInBounds p.1 p.2) a.tmps := by
    rw [h2, h3, ← Array.foldl_toList, Array.toList_zip]
  have hg1 : Good C ⟨C.w, C.base⟩ (MutOf C) more s.nx { n := s.n, tm := putP ps.toList (argSs ys y) s.tm, tab := s.tab, nx := s.nx } { tmps := (rb.params.zip args).foldl (fun tmps (x : Tmp × Value) => match x with | (t, a) => tmps.setIfInBounds t a) rb.tmps, defers := [] } C := by
    refine ⟨⟨?_, fun t => ?_, h.good.sim.tab, tk, Ext.refl C, Marks.nil _ _ _⟩, Nat.le_refl _⟩
    · show ((rb.params.zip args).foldl _ rb.tmps).size = s.n
      rw [htm, foldl_size]
      exact h.good.sim.n
    · show Rel C (((rb.params.zip args).foldl _ rb.tmps).getD t undef) _
      rw [htm]
      exact putP_rel hrel hlt (by rw [argSs_len, Array.length_toList, hps]) h.good.sim.tm t
  have hq := h.q
  rw [hQ] at hq
  have hro : RoOk (some l) ⟨C.w, C.base⟩ (MutOf C) := fun l' e => by
    cases e
    exact ⟨rb, hl, h.lm, h.lc⟩
  have hyl2 : C.yl = yl := h.good.sim.ext.yl.trans hyl
  refine wpIn_mono (hx (some l) s.nx C more _ hBase hyl2 _ _ r _ _ _ C hq h.t hro hg1) ?_
  rintro ex a2 w2 ⟨s2, C2, r2, w2s, M2, rfl, t2, st2, g2, hk⟩
  cases ex <;> try (cases hk)
  have hl2 : C2.w.heap[l]? = some (.loop rb) := (walk_at st2 g2.sim.ok hll h.lm h.lc).trans hl
  have f1 : Far l (fun b => S b ∨ (M b ∧ b < C.w.heap.size)) C C2 := Far.walk st2 g2.sim.ok
  have hm2 : ∀ {rb' : Loop}, C2.w.heap[l]? = some (.loop rb') → ¬ MutOf C2 l := fun h hm => by
    obtain ⟨cs, T', h7⟩ := g2.sim.ok.mut_cells hm
    rw [h] at h7
    cases h7
  refine ⟨C2.w.putObj l (.loop { rb with state := .busy }), run_beginRound hl2 h7, ?_⟩
  have hush : Hush n0 C2.w (C2.w.putObj l (.loop { rb with state := .busy })) := Hush.put hl2 hn
  obtain ⟨x3, t3⟩ := g2.sim.ok.hush hush
  have hl2b : (C2.w.putObj l (.loop { rb with state := .busy })).heap[l]? = some (.loop { rb with state := .busy }) := World.putObj_heap_same (heap_lt hl2)
  have hg2 : Good C ⟨C2.w.putObj l (.loop { rb with state := .busy }), C2.base⟩ (MutOf C2) more s.nx s2 a2 (C2.at (C2.w.putObj l (.loop { rb with state := .busy })) C2.base) :=
    ⟨⟨g2.sim.n, fun t => (g2.sim.tm t).ext x3, g2.sim.tab, t3, g2.sim.ext.trans x3, g2.sim.defers.put g2.sim.ok hl2 _⟩, g2.lo⟩
  have hbl : C2.base l := f1.base l hll h.lm h.lc
  have hro2 : RoOk (some l) ⟨C2.w.putObj l (.loop { rb with state := .busy }), C2.base⟩ (MutOf C2) := fun l' e => by
    cases e
    exact ⟨_, hl2b, hm2 hl2, hbl⟩
  refine wpIn_mono (hb (some l) s.nx C more _ hBase hyl2 s2 _ r2 _ _ a2 (C2.at (C2.w.putObj l (.loop { rb with state := .busy })) C2.base) hk (t2.step hT (g2.sim.ok.stepQ hush)) hro2 hg2) ?_
  rintro ex a3 w4 ⟨s3, C3, r3, w3s, M3, rfl, t3', st3, g3, hk3⟩
  have f : Far l (fun b => S b ∨ (M b ∧ b < C.w.heap.size)) C C3 := (f1.put _).trans (Far.walk (C := C2.at (C2.w.putObj l (.loop { rb with state := .busy })) C2.base) st3 g3.sim.ok)
  have hl3 : C3.w.heap[l]? = some (.loop { rb with state := .busy }) := (walk_at (C := C2.at (C2.w.putObj l (.loop { rb with state := .busy })) C2.base) st3 g3.sim.ok (heap_lt hl2b) (hm2 hl2) hbl).trans hl2b
  have hl4 : ∀ rr : Loop, (C3.w.putObj l (.loop rr)).heap[l]? = some (.loop rr) := fun rr => World.putObj_heap_same (heap_lt hl3)
  cases ex with
  | normal =>
    obtain ⟨k1, k2⟩ := round_end (rc' := RecAt fn a.tmps ps x b l none) (Q' := fun s => L (normAt lo A true b s)) hT hn h hM f t3' g3 (r' := { rb with state := .ready, pending := none }) hl3 hk3 ⟨_, hl4 _, h1, h2, h3, h4, h5, rfl, rfl⟩
    exact ⟨_, _, run_endRound none hl3, k1, .inl ⟨rfl, RJ.norm hT hB k2⟩⟩
  | ret =>
    obtain ⟨k1, k2⟩ := round_end (rc' := RecAt fn a.tmps ps x b l (some .ret)) (Q' := fun s => K .ret s) hT hn h hM f t3' g3 (r' := { rb with state := .done, pending := some .ret }) hl3 hk3 ⟨_, hl4 _, h1, h2, h3, h4, h5, rfl, rfl⟩
    exact ⟨_, _, run_endRound (some .ret) hl3, k1, .inr ⟨rfl, .ret, .ret, rfl, k2⟩⟩
  | exit j =>
    obtain ⟨k1, k2⟩ := round_end (rc' := RecAt fn a.tmps ps x b l (some (.exit j))) (Q' := fun s => K (.exit j) s) hT hn h hM f t3' g3 (r' := { rb with state := .done, pending := some (.exit j) }) hl3 hk3 ⟨_, hl4 _, h1, h2, h3, h4, h5, rfl, rfl⟩
    exact ⟨_, _, run_endRound (some (.exit j)) hl3, k1, .inr ⟨rfl, .exit j, .exit j, rfl, k2⟩⟩
  | _ => cases hk3

theorem RecAt.get {fn : FuncId} {tmps : Array Value} {ps : Array Tmp} {x b : Code} {l : Nat} {pend : Option Code} {w : World} (h : RecAt fn tmps ps x b l pend w) : ∃ r : Loop, w.heap[l]? = some (.loop r) ∧ r.pending = pend ∧ r.state ≠ .busy := by
  obtain ⟨r, h1, _, _, _, _, _, h6, h7⟩ := h
  refine ⟨r, h1, h6, ?_⟩
  rw [h7]
  cases pend <;> simp

/-- Behind the range. -/
theorem range_end {rc : World → Prop} {Q : St → Option R} (hT : StableQ n0 T) (hn : n0 ≤ l) {B M : Nat → Prop} {s : St} {C : Ctx} {r : R} (h : RJ0 T S C0 wE ME more lo l nG rc a Q B M s C r) {rb r' : Loop} (hl : C.w.heap[l]? = some (.loop rb)) :
    ∃ s' C' r1 w1 M1, C'.w = C.w.putObj l (.loop r') ∧ T.sh S r1 w1 M1 ∧ StepW S wE ME w1 M1 ∧ Good C0 w1 M1 more lo s' a C' ∧ Q s' = some r1 := by
  have tk := h.good.sim.ok
  have hush : Hush n0 C.w (C.w.putObj l (.loop r')) := Hush.put hl hn
  obtain ⟨x4, t4⟩ := tk.hush hush
  have hnl : ∀ b, b < wE.heap.size → b ≠ l := fun b hb e => by
    have := h.el
    omega
  refine ⟨s, C.at (C.w.putObj l (.loop r')) C.base, r, ⟨C.w.putObj l (.loop r'), C.base⟩, fun b => MutOf C b ∨ (M b ∧ b < C.w.heap.size), rfl, ⟨?_, fun b hb => Nat.lt_of_lt_of_le (h.t.lt b (.inl hb)) hush.size, fun b hb => h.t.nb b (.inl hb), fun b hb hm => ?_⟩, ⟨h.st.os, h.st.tape, h.st.output, Nat.le_trans h.st.size hush.size, fun b hb hm hB => ?_, fun b hb hm hs => ?_, fun b hb => ?_⟩,
    ⟨⟨h.good.sim.n, fun t => (h.good.sim.tm t).ext x4, h.good.sim.tab, ?_, h.good.sim.ext.trans x4, ?_⟩, h.good.lo⟩, h.q⟩
  · refine hT.step r _ _ _ _ h.t.t ⟨rfl, rfl, rfl, hush.size, fun b hb _ => hush.blk b hb, fun b hb => ?_, fun b hb => .inl hb⟩
    rcases hb with (hb | hb) | hb
    · exact .inl (.inl hb)
    · exact .inl (.inr (.inr hb))
    · exact .inl (.inr (.inl hb))
  · rcases hm with hm | ⟨hm, _⟩
    · exact h.t.nm b (.inl hb) hm
    · exact (h.gs b hb).2 hm
  · obtain ⟨h1, h2⟩ := h.st.blk b hb hm hB
    exact ⟨(World.putObj_heap_other (hnl b hb)).trans h1, h2⟩
  · exact (World.putObj_heap_other (hnl b hb)).trans (h.st.oth b hb hm hs)
  · rcases hb with hb | ⟨hb, _⟩
    · exact h.st.mb b hb
    · exact .inr (Nat.le_trans h.en (h.new b hb))
  · exact ⟨t4.bl, t4.inj, fun id p blk e hp hm => (t4.mb id p blk e hp hm).imp_right .inl, t4.av, Frame0.refl _ _, t4.bs, t4.bf, t4.bq⟩
  · have hmk := h.good.sim.defers.put tk hl (.loop r')
    refine ⟨hmk.1, fun d hd => ?_⟩
    obtain ⟨D, h1, h2, h3, h4, h5⟩ := hmk.2 d hd
    refine ⟨D, h1, h2, h3, fun hm => ?_, h5⟩
    rcases hm with hm | ⟨hm, _⟩
    · exact h4 hm
    · have := h.new D hm
      have := (h.mkd d hd D h1).1
      omega

theorem rangeL_cons {ys : List Sh} {ps : List Tmp} {N : St → St} {body : St → St → (Exit → St → Option R) → Option R} {K : Exit → St → Option R} {y : ElSs ys} {l : List (ElSs ys)} {s : St} :
    rangeL ys ps N body K (y :: l) s = body s { n := s.n, tm := putP ps (argSs ys y) s.tm, tab := s.tab, nx := s.nx } (roundK (rangeL ys ps N body K l) N s K) := rfl

theorem range_wp (hE : EnvOk E) (hT : StableQ n0 T) {g : Operand} (hx : Walks E T inl A yl x) (hb : Walks E T inl A yl b) : Walks E T inl A yl (.rangeFunc g ps x b) := by
  intro ro lo C0 more S hB hyl s K r w0 M0 a C h ht hRo gd
  unfold evC at h
  split at h <;> try cases h
  rename_i gf caps hval
  split at h <;> try cases h
  rename_i gs hgs
  split at h <;> try cases h
  rename_i q c hq hc
  cases hp : (Nat.beq ps.size gs.ys.length && ps.all fun t => Nat.blt t s.n) with
  | false => rw [hp] at h; cases h
  | true =>
  rw [hp, cond_true] at h
  rw [Bool.and_eq_true] at hp
  have hps := Nat.eq_of_beq_eq_true hp.1
  have hlt : ∀ t ∈ ps.toList, t < a.tmps.size := fun t ht => by
    rw [gd.sim.n, ← Nat.blt_eq]
    exact Array.all_eq_true_iff_forall_mem.1 hp.2 t (Array.mem_def.2 ht)
  obtain ⟨xs, hf, hL⟩ := Option.bind_eq_some_iff.1 h
  clear h hp
  have hv := gd.sim.val g
  rw [hval] at hv
  obtain ⟨cs, hvv, hcaps⟩ := rel_fn hv
  rw [← gd.sim.tab] at hq hc
  have tk := gd.sim.ok
  have hho := hidL_of hc
  have hfade := hho.fade (Fade.refl C.tab)
  have x1 := hfade.ext
  have hg1 : Good C0 w0 M0 more lo { s with tab := chg s.tab c } a (C.setT (chg C.tab c)) :=
    ⟨⟨gd.sim.n, fun t => (gd.sim.tm t).ext x1, by show chg C.tab c = chg s.tab c; rw [gd.sim.tab], tk.fade hfade, gd.sim.ext.trans x1, gd.sim.defers⟩, gd.lo⟩
  obtain ⟨C2, tu, g2⟩ := normAt_good hB hg1 A true b
  have hw2 : C2.w = C.w := tu.w
  have hsz0 : w0.heap.size ≤ C.w.heap.size := tk.fr.size
  have hn0 : n0 ≤ w0.heap.size := hT.size r w0 _ ht.t
  refine wpIn_rangeFunc ?_
  intro fn _
  obtain ⟨l, mark, w1, hrun, hrec, ent⟩ := enter_loop (P := E.P) hRo tk.fr fn a.tmps ps x b
  obtain ⟨hcon, fnG, hfn, hbody⟩ := hE.conG gf gs hgs
  have hname := hE.names gf fnG hfn
  have hn : n0 ≤ l := Nat.le_trans hn0 (Nat.le_trans hsz0 ent.ll)
  have hush : Hush n0 C2.w w1 := by
    rw [hw2]
    exact ⟨ent.os, ent.tape, ent.output, ent.size, fun b hb => .inl (ent.old b hb)⟩
  obtain ⟨x3, t3⟩ := g2.sim.ok.hush hush
  have hb2 : C2.base = w0.base := g2.sim.ok.bq
  have hlt2 : ∀ b, MutOf C2 b → b < C.w.heap.size := fun b hm => by
    have := g2.sim.ok.mut_lt hm
    rw [hw2] at this
    exact this
  obtain ⟨rb, hrl, _, _⟩ := hrec.get
  have hmark : ∀ d ∈ mark ++ a.defers, ∃ D, d.target = .collected D ∧ C0.w.heap.size ≤ D ∧ w1.heap[D]? = some (.deferred (some [])) ∧ ¬ MutOf C2 D ∧ C2.base D := fun d hd => by
    rcases List.mem_append.1 hd with hd | hd
    · rcases ent.mark with hm | ⟨D, hm, h1, h2⟩
      · rw [hm] at hd
        cases hd
      · rw [hm] at hd
        obtain rfl := List.mem_singleton.1 hd
        exact ⟨D, rfl, Nat.le_trans gd.sim.ext.size h1, h2, fun hm => absurd (hlt2 D hm) (Nat.not_lt.2 h1), by rw [hb2, ← tk.bq]; exact tk.bf D (Nat.le_trans hsz0 h1)⟩
    · obtain ⟨D, h1, h2, h3, h4, h5⟩ := gd.sim.defers.2 d hd
      have h6 := (tk.fr.blk D (heap_lt h3) h4).trans h3
      refine ⟨D, h1, h2, (ent.old D (heap_lt h6)).trans h6, fun hm => ?_, by rw [hb2]; exact h5⟩
      obtain ⟨cs', T', h7⟩ := g2.sim.ok.mut_cells hm
      rw [hw2, h6] at h7
      cases h7
  have hnd : ((mark ++ a.defers).map (·.target)).Nodup := by
    rcases ent.mark with hm | ⟨D, hm, h1, h2⟩
    · rw [hm]
      exact gd.sim.defers.1
    · rw [hm, List.singleton_append, List.map_cons, List.nodup_cons]
      refine ⟨fun hmem => ?_, gd.sim.defers.1⟩
      obtain ⟨d, hd, he⟩ := List.mem_map.1 hmem
      obtain ⟨D', k1, _, k3, _⟩ := gd.sim.defers.2 d hd
      have : D' = D := by
        rw [he] at k1
        cases k1
        rfl
      subst this
      have := heap_lt k3
      omega
  refine ⟨l, mark, w1, { target := .fn (.func gf) cs, args := #[.func (.yield l) #[] #[]] }, w1, gf, #[.func (.yield l) #[] #[]] ++ cs, w1, hrun, ?_, fun _ _ => trivial, ?_, fun h => by simp [fw, Fence.wide] at h, ?_⟩
  · simp only [resolve, hvv]
    simp [go_sem]
  · simp only [invoke, callFunc, Sem.run_bind, Result.andThen_ok, run_program, hfn, hname, hbody]
    simp
  · let B : Nat → Prop := fun b => ((C.setT (chg C.tab c)).ok b ∧ b < C.w.heap.size) ∨ w1.heap.size ≤ b
    have hargs : RelL (zeroCtx w1 B l) cs.toList (argPs gs.ks q) := by
      have h1 := hid_args (y := l) tk hho hq hc (fun _ h => h) hcaps
      have xe : Ext (zeroCtx C.w (C.setT (chg C.tab c)).ok l) (zeroCtx w1 B l) := ⟨fun _ _ h => (by cases h), fun _ _ h _ => absurd rfl h, fun b cs T fr e _ => (ent.old b (heap_lt e)).trans e, fun _ _ _ h _ => (by cases h), fun b hb ho => ⟨.inl ⟨ho.1, hb⟩, fun _ _ _ h => (by cases h)⟩, ent.size, rfl⟩
      exact h1.ext xe
    have hSlt : ∀ b, S b → b < C.w.heap.size := fun b hb => Nat.lt_of_lt_of_le (ht.lt b hb) hsz0
    have hcall := hcon q xs hf w1 B l cs
      (fun i => RJ T S C0 w0 M0 more lo l w1.heap.size (RecAt fn a.tmps ps x b l none) { a with defers := mark ++ a.defers } (fun s => rangeL gs.ys ps.toList (normAt lo A true b) (fun s s1 K1 => evC E (fun _ f => f) inl s.nx A x s1 (asK fun s2 => evC E (fun _ f => f) inl s.nx A b s2 K1)) K (xs.drop i) s))
      (fun W M => ∃ ex cd, exC ex = some cd ∧ RJ T S C0 w0 M0 more lo l w1.heap.size (RecAt fn a.tmps ps x b l (some cd)) { a with defers := mark ++ a.defers } (fun s => K ex s) W M)
      (fun b hb => .inr hb) hargs (fun i w0 M0 w1 M1 h k => h.step hT (Nat.le_trans hn (Nat.le_of_lt ent.lt)) RecAt.atBlk k)
      (fun w0 M0 w1 M1 ⟨ex, cd, h1, h⟩ k => ⟨ex, cd, h1, h.step hT (Nat.le_trans hn (Nat.le_of_lt ent.lt)) RecAt.atBlk k⟩)
      (fun i y W M args hJ hM hi hy => by
        have hdrop : xs.drop i = y :: xs.drop (i + 1) := by
          obtain ⟨hlt', he⟩ := List.getElem?_eq_some_iff.1 hi
          rw [List.drop_eq_getElem_cons hlt', he]
        exact round_ok (a := { a with defers := mark ++ a.defers }) hT hx hb hB hyl hn (y := y) (Q := fun s => rangeL gs.ys ps.toList (normAt lo A true b) (fun s s1 K1 => evC E (fun _ f => f) inl s.nx A x s1 (asK fun s2 => evC E (fun _ f => f) inl s.nx A b s2 K1)) K (xs.drop i) s) (L := fun s => rangeL gs.ys ps.toList (normAt lo A true b) (fun s s1 K1 => evC E (fun _ f => f) inl s.nx A x s1 (asK fun s2 => evC E (fun _ f => f) inl s.nx A b s2 K1)) K (xs.drop (i + 1)) s) hps hlt (fun s => by show rangeL gs.ys ps.toList (normAt lo A true b) (fun s s1 K1 => evC E (fun _ f => f) inl s.nx A x s1 (asK fun s2 => evC E (fun _ f => f) inl s.nx A b s2 K1)) K (xs.drop i) s = _; rw [hdrop, rangeL_cons]) hJ hM hy)
      (by
        refine ⟨_, C2.at w1 C2.base, r, rfl, ⟨?_, ⟨ent.os.trans tk.fr.os, ent.tape.trans tk.fr.tape, ent.output.trans tk.fr.output, Nat.le_trans hsz0 ent.size, fun b hb hm hB => ?_, fun b hb hm _ => ?_, fun b hm => g2.sim.ok.mut_from hm⟩,
          ⟨⟨g2.sim.n, fun t => (g2.sim.tm t).ext x3, g2.sim.tab, t3, g2.sim.ext.trans x3, hnd, hmark⟩, g2.lo⟩, hL, hrec, ?_, ?_, ?_, ?_, ?_, fun _ h => h.elim, Nat.le_refl _, ent.lt, ?_, Nat.le_trans hsz0 ent.size, Nat.le_trans hsz0 ent.ll, ?_⟩⟩
        · have h1 : (fun b => S b ∨ (none' b ∧ b < (C2.at w1 C2.base).w.heap.size)) = S := funext fun b => propext ⟨fun h => h.elim id fun h => h.1.elim, .inl⟩
          rw [h1]
          exact ht.step hT (g2.sim.ok.stepQ hush)
        · have h1 := (ent.old b (Nat.lt_of_lt_of_le hb hsz0)).trans (tk.fr.blk b hb hm)
          exact ⟨h1, by show C2.base b; rw [hb2]; exact hB⟩
        · exact (ent.old b (Nat.lt_of_lt_of_le hb hsz0)).trans (tk.fr.blk b hb hm)
        · intro b hm
          refine ⟨fun hb => ?_, fun h => h⟩
          rcases hb with ⟨h1, _⟩ | h1
          · exact (ok_iff.1 h1).2 (tu.mu b hm)
          · have := hlt2 b hm
            have := ent.size
            omega
        · intro b hb hB _
          rcases hB with ⟨h1, _⟩ | h1
          · show C2.base b
            rw [hb2, ← tk.bq]
            exact h1.1
          · exact absurd hb (Nat.not_lt.2 h1)
        · intro b hs
          refine ⟨fun hb => ?_, fun h => h⟩
          rcases hb with ⟨h1, _⟩ | h1
          · have := h1.1
            change C.base b at this
            rw [tk.bq] at this
            exact ht.nb b hs this
          · have := hSlt b hs
            have := ent.size
            omega
        · refine ⟨fun hb => ?_, fun h => h⟩
          rcases hb with ⟨_, h1⟩ | h1
          · have := ent.ll
            omega
          · have := ent.lt
            omega
        · show C2.base l
          rw [hb2, ← tk.bq]
          exact tk.bf l (Nat.le_trans hsz0 ent.ll)
        · intro d hd D hD
          obtain ⟨D', k1, _, k3, _⟩ := hmark d hd
          rw [hD] at k1
          cases k1
          refine ⟨heap_lt k3, fun e => ?_⟩
          subst e
          rw [hrl] at k3
          cases k3
        · intro hm
          have := hlt2 l hm
          have := ent.ll
          omega)
    refine CallsIn.mono (CallsIn.inRound (F := Fence.wide) (0 : Nat) (callsIn_wide.2 hcall) : CallsIn (fw ro) 0 E.P gf _ w1 _) ?_
    rintro e w' ⟨v, rfl, B', M', hJ | ⟨ex, cd, hex, hJ⟩⟩
    · obtain ⟨s', C', r', hw, h⟩ := hJ
      obtain rfl : C'.w = w' := hw
      obtain ⟨rb', k1, k2, k3⟩ := h.rcd.get
      obtain ⟨s4, C4, r4, w4, M4, e1, e2, e3, e4, e5⟩ := range_end hT hn h k1 (r' := { rb' with state := .exhausted })
      refine ⟨none, C'.w.putObj l (.loop { rb' with state := .exhausted }), by rw [run_endLoop k1 k3, k2], ?_⟩
      refine ⟨s4, C4, r4, w4, M4, e1, e2, e3, e4, ?_⟩
      simp only [List.drop_length] at e5
      exact e5
    · obtain ⟨s', C', r', hw, h⟩ := hJ
      obtain rfl : C'.w = w' := hw
      obtain ⟨rb', k1, k2, k3⟩ := h.rcd.get
      obtain ⟨s4, C4, r4, w4, M4, e1, e2, e3, e4, e5⟩ := range_end hT hn h k1 (r' := { rb' with state := .exhausted })
      refine ⟨some cd, C'.w.putObj l (.loop { rb' with state := .exhausted }), by rw [run_endLoop k1 k3, k2], ?_⟩
      cases ex <;> try (cases hex)
      · exact wpIn_exit ⟨s4, C4, r4, w4, M4, e1, e2, e3, e4, e5⟩
      · exact wpIn_ret ⟨s4, C4, r4, w4, M4, e1, e2, e3, e4, e5⟩

theorem evC_sound (hE : EnvOk E) (hT : StableQ n0 T) (hI : ∀ S, InlSound E T S yl inl) (A : Anns) : ∀ (c : Code), Walks E T inl A yl c := by
  intro c
  induction c with
  | skip => exact fun ro lo C0 more S hB hyl s K r w0 M0 a C h hT hRo g => wpIn_skip ⟨s, C, r, w0, M0, rfl, hT, StepW.refl _ _, g, h⟩
  | region id ops draw =>
    intro ro lo C0 more S hB hyl s K r w0 M0 a C h hT hRo g
    have hm : ∀ id, more id → id < s.nx := fun id hid => Nat.lt_of_lt_of_le (hB.more id hid) g.lo
    unfold evC at h
    cases draw with
    | true =>
      simp only [cond_true] at h
      cases hd : drawB E ops with
      | false => rw [hd] at h; cases h
      | true =>
        rw [hd, cond_true] at h
        refine drawn_wp (Q := Post T S C0 w0 M0 more lo K) (s := { s with nx := s.nx + room * ops.size }) hE (by rw [hyl]; exact hI S) hd hm (fun r w1 M1 s' a C h0 hs1 h1 h2 h3 => ⟨s', C, r, w1, M1, rfl, h0, hs1, ⟨h1, Nat.le_trans g.lo (by omega)⟩, h3⟩) hT (Nat.le_refl _) h ?_
        exact ⟨g.sim.n, g.sim.tm, g.sim.tab, g.sim.ok, g.sim.ext, g.sim.defers⟩
    | false =>
      simp only [cond_false] at h
      refine wpIn_region ?_
      rw [List.range_eq_range']
      have := runOps_wp (ro := ro) (Q := Post T S C0 w0 M0 more lo K) hE (by rw [hyl]; exact hI S) hm (fun r w1 M1 s' a C h0 hs1 h1 h2 h3 => ⟨s', C, r, w1, M1, rfl, h0, hs1, ⟨h1, Nat.le_trans g.lo (by omega)⟩, h3⟩) ops.toList 0 r w0 M0 { s with nx := s.nx + room * ops.size } a C hT (StepW.refl _ _) (fun j => by simp) (by simp) (Nat.le_refl _) h (by
        have h1 : Sim C0 w0 M0 (avq more s.nx 0 ops.size (s.nx + room * ops.size)) s a C := g.sim.weak fun id hid => by
          unfold avq at hid
          rcases hid with hid | hid | hid
          · exact .inl hid
          · exact .inr (by omega)
          · exact .inr (by omega)
        exact ⟨h1.n, h1.tm, h1.tab, h1.ok, h1.ext, h1.defers⟩)
      simpa using this
  | seq x y ihx ihy =>
    intro ro lo C0 more S hB hyl s K r w0 M0 a C h hT hRo g
    unfold evC at h
    rw [cutK_id] at h
    refine wpIn_seq (wpIn_mono (ihx ro lo C0 more S hB hyl s _ r w0 M0 a C h hT hRo g) ?_)
    rintro ex a' w' ⟨s', C', r', w0', M0', rfl, hT', hst, h1, h2⟩
    cases ex with
    | normal =>
      obtain ⟨C2, hw, g2⟩ := normAt_good hB h1 A false y
      have := ihy ro lo C0 more S hB hyl _ K r' w0' M0' a' C2 h2 hT' (hRo.step hst) g2
      rw [hw.w] at this
      exact wpIn_mono this fun ex a w hp => hp.from hst
    | _ => exact ⟨s', C', r', w0', M0', rfl, hT', hst, h1, h2⟩
  | cond c x y ihx ihy =>
    intro ro lo C0 more S hB hyl s K r w0 M0 a C h hT hRo g
    unfold evC condK at h
    split at h
    · rename_i b hb
      have hv := g.sim.val c
      rw [hb] at hv
      refine wpIn_cond (rel_bool hv) ?_
      cases b with
      | true => exact ihx ro lo C0 more S hB hyl s K r w0 M0 a C (by simpa using h) hT hRo g
      | false => exact ihy ro lo C0 more S hB hyl s K r w0 M0 a C (by simpa using h) hT hRo g
    · cases h
  | block id x ih =>
    intro ro lo C0 more S hB hyl s K r w0 M0 a C h hT hRo g
    refine wpIn_block (wpIn_mono (ih ro lo C0 more S hB hyl s _ r w0 M0 a C h hT hRo g) ?_)
    rintro ex a' w' ⟨s', C', r', w0', M0', rfl, hT', hst, h1, h2⟩
    cases ex with
    | exit j =>
      unfold Exit.inBlock
      simp only []
      unfold blockK at h2
      simp only [] at h2
      cases hj : Nat.beq j id with
      | true =>
        rw [hj, cond_true] at h2
        rw [if_pos (Nat.eq_of_beq_eq_true hj)]
        exact ⟨s', C', r', w0', M0', rfl, hT', hst, h1, h2⟩
      | false =>
        rw [hj, cond_false] at h2
        rw [if_neg (fun e => by rw [e, Nat.beq_refl] at hj; cases hj)]
        exact ⟨s', C', r', w0', M0', rfl, hT', hst, h1, h2⟩
    | _ => exact ⟨s', C', r', w0', M0', rfl, hT', hst, h1, h2⟩
  | loop x ih =>
    intro ro lo C0 more S hB hyl s K r w0 M0 a C h hT hRo g
    unfold evC at h
    obtain ⟨C1, hw1, g1⟩ := normAt_good hB g A true x
    refine wpIn_loop_rounds E.k ?_
    have key : ∀ (k : Nat) (r : R) (w1 : Start) (M1 : Nat → Prop) (s : St) (a : Act) (C : Ctx), T.sh S r w1 M1 → StepW S w0 M0 w1 M1 → loopN (normAt lo A true x) (fun K s => evC E (fun _ f => f) inl lo A x s K) K k s = some r → Good C0 w1 M1 more lo s a C → Code.roundsIn (fw ro) 0 E.P x (Post T S C0 w0 M0 more lo K) k a C.w := by
      intro k
      induction k with
      | zero => exact fun r w1 M1 s a C _ _ h _ => by cases h
      | succ k ihk =>
        intro r w1 M1 s a C hT hst0 h g
        rw [roundsIn_succ]
        refine wpIn_mono (ih ro lo C0 more S hB hyl s _ r w1 M1 a C h hT (hRo.step hst0) g) ?_
        rintro ex a' w' ⟨s', C', r', w0', M0', rfl, hT', hst, h1, h2⟩
        cases ex with
        | normal =>
          obtain ⟨C2, hw, g2⟩ := normAt_good hB h1 A true x
          have := ihk r' w0' M0' _ a' C2 hT' (hst0.trans hst) h2 g2
          rw [hw.w] at this
          exact this
        | _ => exact ⟨s', C', r', w0', M0', rfl, hT', hst0.trans hst, h1, h2⟩
    have := key E.k r w0 M0 _ a C1 hT (StepW.refl _ _) h g1
    rw [hw1.w] at this
    exact this
  | exit id => exact fun ro lo C0 more S hB hyl s K r w0 M0 a C h hT hRo g => wpIn_exit ⟨s, C, r, w0, M0, rfl, hT, StepW.refl _ _, g, h⟩
  | ret => exact fun ro lo C0 more S hB hyl s K r w0 M0 a C h hT hRo g => wpIn_ret ⟨s, C, r, w0, M0, rfl, hT, StepW.refl _ _, g, h⟩
  | label l => exact fun ro lo C0 more S hB hyl s K r w0 M0 a C h hT hRo g => wpIn_label ⟨s, C, r, w0, M0, rfl, hT, StepW.refl _ _, g, h⟩
  | rangeFunc g ps x b ihx ihb => exact range_wp hE (by assumption) ihx ihb
  | scope => exact fun ro lo C0 more S hB hyl s K r w0 M0 a C h hT hRo g => by cases h
  | goto => exact fun ro lo C0 more S hB hyl s K r w0 M0 a C h hT hRo g => by cases h
  | refuse => exact fun ro lo C0 more S hB hyl s K r w0 M0 a C h hT hRo g => by cases h

end
end Go.Proofs.Ytmjbjlhjpdebjaa.Mini
