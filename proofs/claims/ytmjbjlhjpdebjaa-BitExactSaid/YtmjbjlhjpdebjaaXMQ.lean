/- A small machine over plain data: ranges over functions: the rounds, beside what is ranged over. -/
import Derived.Test.YtmjbjlhjpdebjaaXMP
namespace Go.Proofs.Ytmjbjlhjpdebjaa.Mini
open Go Go.RowKit

/-- In a round the record of its loop stands. -/
def RoOk (ro : Option Nat) (w0 : Start) (M0 : Nat → Prop) : Prop := ∀ l, ro = some l → ∃ r, w0.heap[l]? = some (.loop r) ∧ ¬ M0 l ∧ w0.base l

theorem RoOk.step {S : Nat → Prop} {ro : Option Nat} {w0 w1 : Start} {M0 M1 : Nat → Prop} (h : RoOk ro w0 M0) (k : StepW S w0 M0 w1 M1) : RoOk ro w1 M1 := fun l hl => by
  obtain ⟨r, h1, h2, h3⟩ := h l hl
  have hlt := heap_lt h1
  obtain ⟨k1, k2⟩ := k.blk l hlt h2 h3
  exact ⟨r, k1.trans h1, fun hm => (k.mb l hm).elim h2 fun hle => absurd hlt (Nat.not_lt.2 hle), k2⟩

/-- The record of a range over a function, between its rounds. -/
def RecAt (fn : FuncId) (tmps : Array Value) (ps : Array Tmp) (x b : Code) (l : Nat) (pend : Option Code) (w : World) : Prop :=
  ∃ r : Loop, w.heap[l]? = some (.loop r) ∧ r.fn = fn ∧ r.tmps = tmps ∧ r.params = ps ∧ r.assign = x ∧ r.body = b ∧ r.pending = pend ∧ r.state = (match pend with | none => .ready | some _ => .done)

structure Entered (w w1 : World) (l : Nat) (mark : List Deferred) : Prop where
  os : w1.os = w.os
  tape : w1.tape = w.tape
  output : w1.output = w.output
  size : w.heap.size ≤ w1.heap.size
  old : ∀ b, b < w.heap.size → w1.heap[b]? = w.heap[b]?
  ll : w.heap.size ≤ l
  lt : l < w1.heap.size
  mark : mark = [] ∨ ∃ D, mark = [{ target := .collected D, args := #[] }] ∧ w.heap.size ≤ D ∧ w1.heap[D]? = some (.deferred (some []))

theorem enter_loop {P : Program} {ro : Option Nat} {w0 : Start} {M0 : Nat → Prop} (hRo : RoOk ro w0 M0) {w : World} (hfr : Frame0 w0.toWorld w M0) (fn : FuncId) (tmps : Array Value) (ps : Array Tmp) (x b : Code) :
    ∃ l mark w1, (Instr.enterLoop fn tmps ps x b ro).run P w = .ok (l, mark) w1 ∧ RecAt fn tmps ps x b l none w1 ∧ Entered w w1 l mark := by
  have old : ∀ {w : World} {o : Obj} {b : Nat}, b < w.heap.size → (w.alloc o).heap[b]? = w.heap[b]? := fun {w o b} hb => by
    show (w.heap.push o)[b]? = _
    rw [Array.getElem?_push]
    rw [if_neg (by omega)]
  cases ro with
  | none =>
    refine ⟨_, _, _, run_enterLoop_outer fn tmps ps x b, ⟨{ state := .ready, pending := none, fn, tmps, params := ps, assign := x, body := b, defers := w.heap.size }, ?_, rfl, rfl, rfl, rfl, rfl, rfl, rfl⟩, ⟨rfl, rfl, rfl, by simp only [World.size_alloc]; omega, fun b hb => ?_, by omega, by simp only [World.size_alloc]; omega, .inr ⟨_, rfl, Nat.le_refl _, ?_⟩⟩⟩
    · have := World.alloc_heap_new (w.alloc (.deferred (some []))) (.loop { state := .ready, pending := none, fn, tmps, params := ps, assign := x, body := b, defers := w.heap.size })
      rw [World.size_alloc] at this
      exact this
    · rw [old (by simp only [World.size_alloc]; omega), old hb]
    · rw [old (by simp only [World.size_alloc]; omega)]
      exact World.alloc_heap_new w _
  | some l0 =>
    obtain ⟨r0, h1, h2, h3⟩ := hRo l0 rfl
    have hl0 : w.heap[l0]? = some (.loop r0) := (hfr.blk l0 (heap_lt h1) h2).trans h1
    refine ⟨_, _, _, run_enterLoop_inner hl0 fn tmps ps x b, ⟨{ state := .ready, pending := none, fn, tmps, params := ps, assign := x, body := b, defers := r0.defers }, World.alloc_heap_new w _, rfl, rfl, rfl, rfl, rfl, rfl, rfl⟩, ⟨rfl, rfl, rfl, by simp only [World.size_alloc]; omega, fun b hb => old hb, Nat.le_refl _, by simp only [World.size_alloc]; omega, .inl rfl⟩⟩

/-! ### Between the rounds -/
section
variable {R : Type} {T : Carry R} {S : Nat → Prop} {C0 : Ctx} {wE : Start} {ME more : Nat → Prop} {lo l nG n0 : Nat} {rc : Option Code → World → Prop} {a : Act} {Q : St → Option R} {pend : Option Code}

/-- What holds of the consumer while something is ranged over: B, M: what that reads and writes. -/
structure RJ0 (T : Carry R) (S : Nat → Prop) (C0 : Ctx) (wE : Start) (ME more : Nat → Prop) (lo l nG : Nat) (rc : World → Prop) (a : Act) (Q : St → Option R) (B M : Nat → Prop) (s : St) (C : Ctx) (r : R) : Prop where
  t : T.sh (fun b => S b ∨ (M b ∧ b < C.w.heap.size)) r ⟨C.w, C.base⟩ (MutOf C)
  st : StepW S wE ME ⟨C.w, C.base⟩ (MutOf C)
  good : Good C0 ⟨C.w, C.base⟩ (MutOf C) more lo s a C
  q : Q s = some r
  rcd : rc C.w
  mu : ∀ b, MutOf C b → ¬ B b ∧ ¬ M b
  gb : ∀ b, b < C.w.heap.size → B b → ¬ M b → C.base b
  gs : ∀ b, S b → ¬ B b ∧ ¬ M b
  lb : ¬ B l ∧ ¬ M l
  lc : C.base l
  new : ∀ b, M b → nG ≤ b
  ng : nG ≤ C.w.heap.size
  ln : l < nG
  mkd : ∀ d ∈ a.defers, ∀ D, d.target = .collected D → D < nG ∧ D ≠ l
  en : wE.heap.size ≤ nG
  el : wE.heap.size ≤ l
  lm : ¬ MutOf C l

def RJ (T : Carry R) (S : Nat → Prop) (C0 : Ctx) (wE : Start) (ME more : Nat → Prop) (lo l nG : Nat) (rc : World → Prop) (a : Act) (Q : St → Option R) (W : Start) (M : Nat → Prop) : Prop :=
  ∃ s C r, C.w = W.toWorld ∧ RJ0 T S C0 wE ME more lo l nG rc a Q W.base M s C r

/-- What is asked of a record: it hangs on its own block alone. -/
def AtBlk (l : Nat) (rc : World → Prop) : Prop := ∀ w w' : World, w'.heap[l]? = w.heap[l]? → rc w → rc w'

theorem RecAt.atBlk {fn : FuncId} {tmps : Array Value} {ps : Array Tmp} {x b : Code} {l : Nat} {pend : Option Code} : AtBlk l (RecAt fn tmps ps x b l pend) := fun _ _ h ⟨r, h1, h2⟩ => ⟨r, h.trans h1, h2⟩

theorem RJ.step {rc : World → Prop} (hT : StableQ n0 T) (hn : n0 ≤ nG) (hrc : AtBlk l rc) {W W2 : Start} {M M2 : Nat → Prop} (h : RJ T S C0 wE ME more lo l nG rc a Q W M) (k : StepQ nG W M W2 M2) : RJ T S C0 wE ME more lo l nG rc a Q W2 M2 := by
  obtain ⟨s, C, r, hw, h⟩ := h
  have ksz : C.w.heap.size ≤ W2.heap.size := by rw [hw]; exact k.size
  have kblk : ∀ b, b < C.w.heap.size → ¬ M b → W2.heap[b]? = C.w.heap[b]? ∨ (nG ≤ b ∧ Quiet C.w b ∧ Quiet W2.toWorld b) := by rw [hw]; exact k.blk
  have kmb : ∀ b, M2 b → M b ∨ C.w.heap.size ≤ b := by rw [hw]; exact k.mb
  have kbase : ∀ b, W2.base b → W.base b ∨ C.w.heap.size ≤ b ∨ (nG ≤ b ∧ M b) := by rw [hw]; exact k.base
  have tk := h.good.sim.ok
  have hSlt : ∀ b, S b → b < C.w.heap.size := fun b hb => h.t.lt b (.inl hb)
  have hSnb : ∀ b, S b → ¬ C.base b := fun b hb => h.t.nb b (.inl hb)
  have hMnb : ∀ b, b < C.w.heap.size → C.base b → ¬ M b := fun b hb hB hm => h.t.nb b (.inr ⟨hm, hb⟩) hB
  have hM2 : ∀ b, b < C.w.heap.size → M2 b → M b := fun b hb hm => (kmb b hm).resolve_right (by omega)
  let B' : Nat → Prop := fun b => (C.base b ∨ W2.base b ∨ C.w.heap.size ≤ b) ∧ ¬ (M2 b ∧ b < W2.heap.size) ∧ ¬ S b
  have hcell : ∀ b cs T fr, C.w.heap[b]? = some (.cells cs T fr) → C.base b ∨ MutOf C b → W2.heap[b]? = some (.cells cs T fr) := fun b cs T fr e hb => by
    have hlt := heap_lt e
    have hm : ¬ M b := hb.elim (hMnb b hlt) fun hb => (h.mu b hb).2
    rcases kblk b hlt hm with h1 | ⟨_, h1, _⟩
    · exact h1.trans e
    · exact absurd e (h1 cs T fr)
  have hB : ∀ b, b < C.w.heap.size → C.base b → B' b := fun b hb hB => ⟨.inl hB, fun ⟨h1, _⟩ => hMnb b hb hB (hM2 b hb h1), fun hs => hSnb b hs hB⟩
  obtain ⟨x, t2⟩ := tk.move (w' := W2.toWorld) (B' := B') ksz hcell hB fun b hb => ⟨.inr (.inr (Nat.le_trans ksz hb)), fun ⟨_, h1⟩ => absurd hb (Nat.not_le.2 h1), fun hs => by
    have := hSlt b hs
    have : W2.heap.size ≤ b := hb
    omega⟩
  have hold : ∀ b, b < C.w.heap.size → b < nG → ¬ M b → W2.heap[b]? = C.w.heap[b]? := fun b hb hg hm => by
    rcases kblk b hb hm with h1 | ⟨h1, _⟩
    · exact h1
    · omega
  refine ⟨s, C.at W2.toWorld B', r, rfl, ⟨?_, ?_, ?_, h.q, ?_, ?_, ?_, ?_, ?_, ?_, ?_, Nat.le_trans h.ng ksz, h.ln, h.mkd, h.en, h.el, h.lm⟩⟩
  · refine ⟨hT.step r _ _ _ _ h.t.t ⟨(show W2.os = C.w.os by rw [hw]; exact k.os), (show W2.tape = C.w.tape by rw [hw]; exact k.tape), (show W2.output = C.w.output by rw [hw]; exact k.output), ksz, fun b hb hm => ?_, fun b hb => ?_, fun b hb => ?_⟩, fun b hb => ?_, fun b hb hb' => ?_, fun b hb hm => ?_⟩
    · rcases kblk b hb fun h1 => hm (.inr (.inr ⟨h1, hb⟩)) with h1 | ⟨h1, h2, h3⟩
      · exact .inl h1
      · exact .inr ⟨Nat.le_trans hn h1, h2, h3⟩
    · rcases hb with hb | hb | ⟨hb, _⟩
      · exact .inl (.inl hb)
      · exact .inl (.inr (.inl hb))
      · by_cases hlt : b < C.w.heap.size
        · exact .inl (.inr (.inr ⟨hM2 b hlt hb, hlt⟩))
        · exact .inr (Nat.le_of_not_lt hlt)
    · obtain ⟨h1, h2, h3⟩ : B' b := hb
      by_cases hlt : b < C.w.heap.size
      · rcases h1 with h1 | h1 | h1
        · exact .inl h1
        · by_cases hm : M b
          · exact .inr (.inr ⟨Nat.le_trans hn (h.new b hm), .inr (.inr ⟨hm, hlt⟩)⟩)
          · rcases kbase b h1 with h4 | h4 | ⟨_, h4⟩
            · exact .inl (h.gb b hlt h4 hm)
            · omega
            · exact absurd h4 hm
        · omega
      · exact .inr (.inl (Nat.le_of_not_lt hlt))
    · rcases hb with hb | ⟨_, hb⟩
      · exact Nat.lt_of_lt_of_le (hSlt b hb) ksz
      · exact hb
    · obtain ⟨_, h2, h3⟩ : B' b := hb'
      exact hb.elim h3 h2
    · rcases hb with hb | ⟨hb, _⟩
      · exact h.t.nm b (.inl hb) hm
      · exact (h.mu b hm).2 (hM2 b (tk.mut_lt hm) hb)
  · refine ⟨(show W2.os = C.w.os by rw [hw]; exact k.os).trans h.st.os, (show W2.tape = C.w.tape by rw [hw]; exact k.tape).trans h.st.tape, (show W2.output = C.w.output by rw [hw]; exact k.output).trans h.st.output, Nat.le_trans h.st.size ksz, fun b hb hm hB' => ?_, fun b hb hm hs => ?_, h.st.mb⟩
    · obtain ⟨h1, h2⟩ := h.st.blk b hb hm hB'
      have hlt : b < C.w.heap.size := Nat.lt_of_lt_of_le hb h.st.size
      exact ⟨(hold b hlt (Nat.lt_of_lt_of_le hb h.en) (hMnb b hlt h2)).trans h1, hB b hlt h2⟩
    · exact (hold b (hSlt b hs) (Nat.lt_of_lt_of_le hb h.en) (h.gs b hs).2).trans (h.st.oth b hb hm hs)
  · refine ⟨⟨h.good.sim.n, fun t => (h.good.sim.tm t).ext x, h.good.sim.tab, t2, h.good.sim.ext.trans x, h.good.sim.defers.1, fun d hd => ?_⟩, h.good.lo⟩
    obtain ⟨D, h1, h2, h3, h4, h5⟩ := h.good.sim.defers.2 d hd
    have hlt := heap_lt h3
    exact ⟨D, h1, h2, (hold D hlt (h.mkd d hd D h1).1 (hMnb D hlt h5)).trans h3, h4, hB D hlt h5⟩
  · exact hrc _ _ (hold l (Nat.lt_of_lt_of_le h.ln h.ng) h.ln h.lb.2) h.rcd
  · refine fun b hm => ⟨fun hb => ?_, fun hb => (h.mu b hm).2 (hM2 b (tk.mut_lt hm) hb)⟩
    rcases kbase b hb with h1 | h1 | ⟨_, h1⟩
    · exact (h.mu b hm).1 h1
    · have := tk.mut_lt hm
      omega
    · exact (h.mu b hm).2 h1
  · refine fun b hb hB2 hm => ⟨.inr (.inl hB2), fun ⟨h1, _⟩ => hm h1, fun hs => ?_⟩
    rcases kbase b hB2 with h1 | h1 | ⟨_, h1⟩
    · exact (h.gs b hs).1 h1
    · have := hSlt b hs
      omega
    · exact (h.gs b hs).2 h1
  · refine fun b hs => ⟨fun hb => ?_, fun hb => (h.gs b hs).2 (hM2 b (hSlt b hs) hb)⟩
    rcases kbase b hb with h1 | h1 | ⟨_, h1⟩
    · exact (h.gs b hs).1 h1
    · have := hSlt b hs
      omega
    · exact (h.gs b hs).2 h1
  · have hl : l < C.w.heap.size := Nat.lt_of_lt_of_le h.ln h.ng
    refine ⟨fun hb => ?_, fun hb => h.lb.2 (hM2 l hl hb)⟩
    rcases kbase l hb with h1 | h1 | ⟨_, h1⟩
    · exact h.lb.1 h1
    · omega
    · exact h.lb.2 h1
  · exact hB l (Nat.lt_of_lt_of_le h.ln h.ng) h.lc
  · exact fun b hm => (kmb b hm).elim (h.new b) fun h1 => Nat.le_trans h.ng h1

/-- Told otherwise. -/
theorem RJ.norm {rc : World → Prop} (hT : StableQ n0 T) (hB : Base C0 more lo) {W : Start} {M : Nat → Prop} {A : Anns} {z : Bool} {c : Code} (h : RJ T S C0 wE ME more lo l nG rc a (fun s => Q (normAt lo A z c s)) W M) : RJ T S C0 wE ME more lo l nG rc a Q W M := by
  obtain ⟨s, C, r, hw, h⟩ := h
  obtain ⟨C', tu, g⟩ := normAt_good hB h.good A z c
  have hb : C'.base = C.base := g.sim.ok.bq
  have hw' := tu.w
  obtain ⟨_, t2⟩ := g.sim.ok.move (w' := C'.w) (B' := C'.base) (Nat.le_refl _) (fun _ _ _ _ e _ => e) (fun _ _ h => h) fun b hb' => by
    rw [hb]
    exact h.good.sim.ok.bf b (by rw [hw'] at hb'; exact hb')
  have hst : StepW S ⟨C.w, C.base⟩ (MutOf C) ⟨C'.w, C'.base⟩ (MutOf C') := by
    rw [hb, hw']
    exact ⟨rfl, rfl, rfl, Nat.le_refl _, fun _ _ _ h => ⟨rfl, h⟩, fun _ _ _ _ => rfl, fun b hb => .inl (tu.mu b hb)⟩
  refine ⟨_, C', r, hw'.trans hw, ⟨?_, h.st.trans hst, ⟨⟨g.sim.n, g.sim.tm, g.sim.tab, t2, g.sim.ext, g.sim.defers.step hst⟩, g.lo⟩, h.q, by rw [hw']; exact h.rcd, fun b hm => h.mu b (tu.mu b hm), by rw [hw', hb]; exact h.gb, h.gs, h.lb, by rw [hb]; exact h.lc, h.new, by rw [hw']; exact h.ng, h.ln, h.mkd, h.en, h.el, fun hm => h.lm (tu.mu l hm)⟩⟩
  have := h.t.step hT (w1 := ⟨C'.w, C'.base⟩) (M1 := MutOf C') (by
    rw [hb, hw']
    exact ⟨rfl, rfl, rfl, Nat.le_refl _, fun _ _ _ => .inl rfl, fun b hm => .inl (tu.mu b hm), fun b hb => .inl hb⟩)
  rw [hw'] at this ⊢
  exact this

/-- What is left alone, but for the record. -/
structure Far (l : Nat) (S : Nat → Prop) (C C' : Ctx) : Prop where
  os : C'.w.os = C.w.os
  tape : C'.w.tape = C.w.tape
  output : C'.w.output = C.w.output
  size : C.w.heap.size ≤ C'.w.heap.size
  keep : ∀ b, b < C.w.heap.size → b ≠ l → ¬ MutOf C b → C.base b ∨ S b → C'.w.heap[b]? = C.w.heap[b]?
  base : ∀ b, b < C.w.heap.size → ¬ MutOf C b → C.base b → C'.base b
  mu : ∀ b, MutOf C' b → MutOf C b ∨ C.w.heap.size ≤ b

theorem Far.walk {C C3 : Ctx} {w3 : Start} {M3 av : Nat → Prop} (k : StepW S ⟨C.w, C.base⟩ (MutOf C) w3 M3) (t : TabOk w3 M3 av C3) : Far l S C C3 := by
  have hn : ∀ b, b < C.w.heap.size → ¬ MutOf C b → ¬ M3 b := fun b hb hm h => (k.mb b h).elim hm fun hle => absurd hb (Nat.not_lt.2 hle)
  refine ⟨t.fr.os.trans k.os, t.fr.tape.trans k.tape, t.fr.output.trans k.output, Nat.le_trans k.size t.fr.size, fun b hb _ hm hs => ?_, fun b hb hm hB => ?_, fun b hm => ?_⟩
  · have h1 := t.fr.blk b (Nat.lt_of_lt_of_le hb k.size) (hn b hb hm)
    rcases hs with hs | hs
    · exact h1.trans (k.blk b hb hm hs).1
    · exact h1.trans (k.oth b hb hm hs)
  · rw [t.bq]
    exact (k.blk b hb hm hB).2
  · exact (t.mut_from hm).elim (k.mb b) fun hle => .inr (Nat.le_trans k.size hle)

theorem Far.put {C C3 : Ctx} (f : Far l S C C3) (o : Obj) : Far l S C (C3.at (C3.w.putObj l o) C3.base) :=
  ⟨f.os, f.tape, f.output, by show _ ≤ (C3.w.putObj l o).heap.size; rw [World.putObj_size]; exact f.size, fun b hb hl hm hs => (World.putObj_heap_other hl).trans (f.keep b hb hl hm hs), f.base, f.mu⟩

theorem Far.trans {A B C : Ctx} (f : Far l S A B) (g : Far l S B C) : Far l S A C := by
  have hn : ∀ b, b < A.w.heap.size → ¬ MutOf A b → ¬ MutOf B b := fun b hb hm h => (f.mu b h).elim hm fun hle => absurd hb (Nat.not_lt.2 hle)
  refine ⟨g.os.trans f.os, g.tape.trans f.tape, g.output.trans f.output, Nat.le_trans f.size g.size, fun b hb hl hm hs => ?_, fun b hb hm hB => g.base b (Nat.lt_of_lt_of_le hb f.size) (hn b hb hm) (f.base b hb hm hB), fun b hm => (g.mu b hm).elim (f.mu b) fun hle => .inr (Nat.le_trans f.size hle)⟩
  exact (g.keep b (Nat.lt_of_lt_of_le hb f.size) hl (hn b hb hm) (hs.imp_left (f.base b hb hm))).trans (f.keep b hb hl hm hs)

theorem round_end {rc rc' : World → Prop} {Q' : St → Option R} (hT : StableQ n0 T) (hn : n0 ≤ l) {B M : Nat → Prop} {s s3 : St} {C C3 : Ctx} {r r3 : R} {w3 : Start} {M3 : Nat → Prop} {a3 : Act} (h : RJ0 T S C0 wE ME more lo l nG rc a Q B M s C r) (hM : ∀ b, M b → b < C.w.heap.size)
    (f : Far l (fun b => S b ∨ (M b ∧ b < C.w.heap.size)) C C3) (t3 : T.sh (fun b => S b ∨ (M b ∧ b < C.w.heap.size)) r3 w3 M3) (g3 : Good C w3 M3 more s.nx s3 a3 C3) {rb r' : Loop} (hl : C3.w.heap[l]? = some (.loop rb)) (hq : Q' (s.at s3) = some r3) (hrc : rc' (C3.w.putObj l (.loop r'))) :
    GKeep ⟨C.w, B⟩ M (C3.w.putObj l (.loop r')) ∧ RJ T S C0 wE ME more lo l nG rc' a Q' (behind ⟨C.w, B⟩ (C3.w.putObj l (.loop r'))) M := by
  have hush : Hush n0 C3.w (C3.w.putObj l (.loop r')) := Hush.put hl hn
  obtain ⟨x4, t4⟩ := g3.sim.ok.hush hush
  have hsz : C.w.heap.size ≤ (C3.w.putObj l (.loop r')).heap.size := by rw [World.putObj_size]; exact f.size
  have hS : (fun b => S b ∨ (M b ∧ b < (C3.w.putObj l (.loop r')).heap.size)) = fun b => S b ∨ (M b ∧ b < C.w.heap.size) := funext fun b => propext ⟨fun hb => hb.imp_right fun ⟨h1, _⟩ => ⟨h1, hM b h1⟩, fun hb => hb.imp_right fun ⟨h1, _⟩ => ⟨h1, Nat.lt_of_lt_of_le (hM b h1) hsz⟩⟩
  have hmn : ∀ b, B b ∨ M b → ¬ MutOf C b := fun b hb hm => hb.elim (h.mu b hm).1 (h.mu b hm).2
  refine ⟨⟨f.os, f.tape, f.output, hsz, fun b hb hBM => ?_⟩, s.at s3, C3.at (C3.w.putObj l (.loop r')) C3.base, r3, rfl, ⟨?_, ?_, ⟨⟨h.good.sim.n, fun t => ((h.good.sim.tm t).ext g3.sim.ext).ext x4, g3.sim.tab, t4, h.good.sim.ext.trans (g3.sim.ext.trans x4), h.good.sim.defers.1, fun d hd => ?_⟩, Nat.le_trans h.good.lo g3.lo⟩, hq, hrc, ?_, ?_, ?_, ?_, ?_, h.new, Nat.le_trans h.ng hsz, h.ln, h.mkd, h.en, h.el, ?_⟩⟩
  · have hbl : b ≠ l := fun e => by
      subst e
      exact hBM.elim h.lb.1 h.lb.2
    refine (World.putObj_heap_other hbl).trans (f.keep b hb hbl (hmn b hBM) ?_)
    by_cases hm : M b
    · exact .inr (.inr ⟨hm, hb⟩)
    · exact .inl (h.gb b hb (hBM.resolve_right hm) hm)
  · show T.sh (fun b => S b ∨ (M b ∧ b < (C3.w.putObj l (.loop r')).heap.size)) r3 _ _
    rw [hS]
    exact t3.step hT (g3.sim.ok.stepQ hush)
  · have hnl : ∀ b, b < wE.heap.size → b ≠ l := fun b hb e => by
      have := h.el
      omega
    have hmu : ∀ b, b < wE.heap.size → ¬ ME b → ¬ MutOf C b := fun b hb hm h1 => (h.st.mb b h1).elim hm fun hle => absurd hb (Nat.not_lt.2 hle)
    refine ⟨f.os.trans h.st.os, f.tape.trans h.st.tape, f.output.trans h.st.output, Nat.le_trans h.st.size hsz, fun b hb hm hB => ?_, fun b hb hm hs => ?_, fun b hm => (f.mu b hm).elim (h.st.mb b) fun hle => .inr (Nat.le_trans h.st.size hle)⟩
    · obtain ⟨h1, h2⟩ := h.st.blk b hb hm hB
      have hlt := Nat.lt_of_lt_of_le hb h.st.size
      exact ⟨((World.putObj_heap_other (hnl b hb)).trans (f.keep b hlt (hnl b hb) (hmu b hb hm) (.inl h2))).trans h1, f.base b hlt (hmu b hb hm) h2⟩
    · have hlt := Nat.lt_of_lt_of_le hb h.st.size
      exact ((World.putObj_heap_other (hnl b hb)).trans (f.keep b hlt (hnl b hb) (hmu b hb hm) (.inr (.inl hs)))).trans (h.st.oth b hb hm hs)
  · obtain ⟨D, h1, h2, h3, h4, h5⟩ := h.good.sim.defers.2 d hd
    have hlt := heap_lt h3
    have hDl := (h.mkd d hd D h1).2
    have h6 : (C3.w.putObj l (.loop r')).heap[D]? = some (.deferred (some [])) := ((World.putObj_heap_other hDl).trans (f.keep D hlt hDl h4 (.inl h5))).trans h3
    refine ⟨D, h1, h2, h6, fun hm => ?_, f.base D hlt h4 h5⟩
    obtain ⟨cs, T', h7⟩ := t4.mut_cells (b := D) hm
    rw [show (C3.at (C3.w.putObj l (.loop r')) C3.base).w.heap[D]? = _ from h6] at h7
    cases h7
  · intro b hm
    rcases f.mu b hm with h1 | h1
    · exact ⟨fun hb => (h.mu b h1).1 hb.1, (h.mu b h1).2⟩
    · have := t4.mut_lt (b := b) hm
      refine ⟨fun hb => ?_, fun hb => absurd (hM b hb) (Nat.not_lt.2 h1)⟩
      rcases hb.2 with h2 | h2
      · exact absurd h2 (Nat.not_lt.2 h1)
      · exact absurd this (Nat.not_lt.2 h2)
  · intro b hb hB hm
    rcases hB.2 with h2 | h2
    · exact f.base b h2 (hmn b (.inl hB.1)) (h.gb b h2 hB.1 hm)
    · exact absurd hb (Nat.not_lt.2 h2)
  · exact fun b hs => ⟨fun hb => (h.gs b hs).1 hb.1, (h.gs b hs).2⟩
  · exact ⟨fun hb => h.lb.1 hb.1, h.lb.2⟩
  · exact f.base l (Nat.lt_of_lt_of_le h.ln h.ng) h.lm h.lc
  · intro hm
    obtain ⟨cs, T', h7⟩ := g3.sim.ok.mut_cells (b := l) hm
    rw [hl] at h7
    cases h7

end
end Go.Proofs.Ytmjbjlhjpdebjaa.Mini
