/- A small machine over plain data: each operation of the machine does what it is told to do. All of them. -/
import Derived.Test.YtmjbjlhjpdebjaaXME
import Derived.OrdersIn
import Derived.LoopNIn
import Derived.RangeFuncCalls
namespace Go.Proofs.Ytmjbjlhjpdebjaa.Mini
open Go Go.RowKit

/-- No cells. -/
def Quiet (w : World) (b : Nat) : Prop := ∀ cs T fr, w.heap[b]? ≠ some (.cells cs T fr)

theorem Quiet.of {w w' : World} {b : Nat} (h : Quiet w b) (e : w'.heap[b]? = w.heap[b]?) : Quiet w' b := fun cs T fr k => h cs T fr (e ▸ k)

/-- From one start to a later one, seen from outside: what is no cells, from a place on, may be turned. -/
structure StepQ (n0 : Nat) (w0 : Start) (M0 : Nat → Prop) (w1 : Start) (M1 : Nat → Prop) : Prop where
  os : w1.os = w0.os
  tape : w1.tape = w0.tape
  output : w1.output = w0.output
  size : w0.heap.size ≤ w1.heap.size
  blk : ∀ b, b < w0.heap.size → ¬ M0 b → w1.heap[b]? = w0.heap[b]? ∨ (n0 ≤ b ∧ Quiet w0.toWorld b ∧ Quiet w1.toWorld b)
  mb : ∀ b, M1 b → M0 b ∨ w0.heap.size ≤ b
  base : ∀ b, w1.base b → w0.base b ∨ w0.heap.size ≤ b ∨ (n0 ≤ b ∧ M0 b)

theorem StepQ.refl (n0 : Nat) (w0 : Start) (M0 : Nat → Prop) : StepQ n0 w0 M0 w0 M0 := ⟨rfl, rfl, rfl, Nat.le_refl _, fun _ _ _ => .inl rfl, fun _ h => .inl h, fun _ h => .inl h⟩

theorem StepQ.trans {n0 : Nat} {a b c : Start} {M N O : Nat → Prop} (h : StepQ n0 a M b N) (k : StepQ n0 b N c O) : StepQ n0 a M c O := by
  refine ⟨k.os.trans h.os, k.tape.trans h.tape, k.output.trans h.output, Nat.le_trans h.size k.size, fun i hi hm => ?_, fun i hi => (k.mb i hi).elim (h.mb i) fun hle => .inr (Nat.le_trans h.size hle), fun i hi => ?_⟩
  · have hn : ¬ N i := fun hn => (h.mb i hn).elim hm fun hle => absurd hi (Nat.not_lt.2 hle)
    rcases h.blk i hi hm with e1 | ⟨h0, q1, q2⟩ <;> rcases k.blk i (Nat.lt_of_lt_of_le hi h.size) hn with e2 | ⟨k0, q3, q4⟩
    · exact .inl (e2.trans e1)
    · exact .inr ⟨k0, q3.of e1.symm, q4⟩
    · exact .inr ⟨h0, q1, q2.of e2⟩
    · exact .inr ⟨h0, q1, q4⟩
  · rcases k.base i hi with h1 | h1 | ⟨h1, h2⟩
    · exact h.base i h1
    · exact .inr (.inl (Nat.le_trans h.size h1))
    · exact (h.mb i h2).elim (fun h3 => .inr (.inr ⟨h1, h3⟩)) fun h3 => .inr (.inl h3)

/-- What a round of a range over a function leaves alone: what the function that is ranged over reads and writes. -/
structure GKeep (w : Start) (M : Nat → Prop) (w' : World) : Prop where
  os : w'.os = w.os
  tape : w'.tape = w.tape
  output : w'.output = w.output
  size : w.heap.size ≤ w'.heap.size
  blk : ∀ b, b < w.heap.size → w.base b ∨ M b → w'.heap[b]? = w.heap[b]?

/-- What may be read, behind a round. -/
def behind (w : Start) (w' : World) : Start := ⟨w', fun b => w.base b ∧ (b < w.heap.size ∨ w'.heap.size ≤ b)⟩

/-- What is handed over at a yield may be read, and is written no more. -/
def yieldCtx (w : Start) (M : Nat → Prop) (l : Nat) : Ctx := zeroCtx w.toWorld (fun b => w.base b ∧ ¬ M b) l

/-- What a function that is ranged over is known to do: it yields what the plain function tells, one after the other, until a round tells false. J: what the rounds keep, and what it may do itself. -/
def GContract (P : Program) (k : Nat) (g : FuncId) (s : GSpec) : Prop :=
  ∀ a xs, s.f k a = some xs → ∀ (w : World) (B : Nat → Prop) (l : Nat) (caps : Array Value) (J : Nat → Start → (Nat → Prop) → Prop) (Jx : Start → (Nat → Prop) → Prop),
    (∀ b, w.heap.size ≤ b → B b) → RelL (zeroCtx w B l) caps.toList (argPs s.ks a) →
    (∀ i w0 M0 w1 M1, J i w0 M0 → StepQ w.heap.size w0 M0 w1 M1 → J i w1 M1) → (∀ w0 M0 w1 M1, Jx w0 M0 → StepQ w.heap.size w0 M0 w1 M1 → Jx w1 M1) →
    (∀ i x w1 M1 (args : Array Value), J i w1 M1 → (∀ b, M1 b → b < w1.heap.size) → xs[i]? = some x → (∀ y, RelL (yieldCtx w1 M1 y) args.toList (argSs s.ys x)) →
      YieldAt Fence.wide 0 P l args w1.toWorld fun e w' => GKeep w1 M1 w' ∧ ((e = .returned (.bool true) ∧ J (i + 1) (behind w1 w') M1) ∨ (e = .returned (.bool false) ∧ Jx (behind w1 w') M1))) →
    J 0 ⟨w, B⟩ none' → Calls P g (#[.func (.yield l) #[] #[]] ++ caps) w fun e w' => ∃ v, e = .returned v ∧ ∃ B' M', J xs.length ⟨w', B'⟩ M' ∨ Jx ⟨w', B'⟩ M'

/-- What is known of a program's functions. -/
structure EnvOk (E : Env) : Prop where
  names : ∀ (g : Nat) fn, E.P.funcs[g]? = some fn → (fn.name == "runtime.NumGoroutine") = false
  mixed : E.P.follows .mixedOrders = true
  con : ∀ g s, E.G g = some s → Contract E.P E.k (gOf g) s ∧ ∃ fn, E.P.funcs[gOf g]? = some fn ∧ fn.body.isNone = false
  conB : ∀ g s, E.GB g = some s → ContractB E.P E.k g s ∧ ∃ fn, E.P.funcs[g]? = some fn ∧ fn.body.isNone = false
  conG : ∀ g s, E.GG g = some s → GContract E.P E.k g s ∧ ∃ fn, E.P.funcs[g]? = some fn ∧ fn.body.isNone = false

/-- From one start to a later one: what may be read is what it was; S: what others write stays, too. -/
structure StepW (S : Nat → Prop) (w0 : Start) (M0 : Nat → Prop) (w1 : Start) (M1 : Nat → Prop) : Prop where
  os : w1.os = w0.os
  tape : w1.tape = w0.tape
  output : w1.output = w0.output
  size : w0.heap.size ≤ w1.heap.size
  blk : ∀ b, b < w0.heap.size → ¬ M0 b → w0.base b → w1.heap[b]? = w0.heap[b]? ∧ w1.base b
  oth : ∀ b, b < w0.heap.size → ¬ M0 b → S b → w1.heap[b]? = w0.heap[b]?
  mb : ∀ b, M1 b → M0 b ∨ w0.heap.size ≤ b

theorem StepW.refl {S : Nat → Prop} (w0 : Start) (M0 : Nat → Prop) : StepW S w0 M0 w0 M0 := ⟨rfl, rfl, rfl, Nat.le_refl _, fun _ _ _ h => ⟨rfl, h⟩, fun _ _ _ _ => rfl, fun _ h => .inl h⟩

theorem StepW.trans {S : Nat → Prop} {a b c : Start} {M N O : Nat → Prop} (h : StepW S a M b N) (k : StepW S b N c O) : StepW S a M c O := by
  have hn : ∀ i, i < a.heap.size → ¬ M i → ¬ N i := fun i hi hm hn => (h.mb i hn).elim hm fun hle => absurd hi (Nat.not_lt.2 hle)
  refine ⟨k.os.trans h.os, k.tape.trans h.tape, k.output.trans h.output, Nat.le_trans h.size k.size, fun i hi hm hb => ?_, fun i hi hm hs => (k.oth i (Nat.lt_of_lt_of_le hi h.size) (hn i hi hm) hs).trans (h.oth i hi hm hs), fun i hi => (k.mb i hi).elim (h.mb i) fun hle => .inr (Nat.le_trans h.size hle)⟩
  obtain ⟨h1, h2⟩ := h.blk i hi hm hb
  obtain ⟨k1, k2⟩ := k.blk i (Nat.lt_of_lt_of_le hi h.size) (hn i hi hm) h2
  exact ⟨k1.trans h1, k2⟩

theorem StepW.mono {S S' : Nat → Prop} {a b : Start} {M N : Nat → Prop} (h : StepW S a M b N) (hs : ∀ i, S' i → S i) : StepW S' a M b N := ⟨h.os, h.tape, h.output, h.size, h.blk, fun i hi hm hS => h.oth i hi hm (hs i hS), h.mb⟩

/-- What a function has to do yet when it leaves: marks of ranges over functions, none with a call. -/
def Marks (n0 : Nat) (w0 : Start) (M0 : Nat → Prop) (ds : List Deferred) : Prop :=
  (ds.map (·.target)).Nodup ∧ ∀ d ∈ ds, ∃ D, d.target = .collected D ∧ n0 ≤ D ∧ w0.heap[D]? = some (.deferred (some [])) ∧ ¬ M0 D ∧ w0.base D

theorem Marks.nil (n0 : Nat) (w0 : Start) (M0 : Nat → Prop) : Marks n0 w0 M0 [] := ⟨List.nodup_nil, fun _ h => by cases h⟩

theorem Marks.step {S : Nat → Prop} {n0 : Nat} {w0 w1 : Start} {M0 M1 : Nat → Prop} {ds : List Deferred} (h : Marks n0 w0 M0 ds) (k : StepW S w0 M0 w1 M1) : Marks n0 w1 M1 ds :=
  ⟨h.1, fun d hd => by
    obtain ⟨D, h1, h0, h2, h3, h4⟩ := h.2 d hd
    have hlt := heap_lt h2
    obtain ⟨k1, k2⟩ := k.blk D hlt h3 h4
    exact ⟨D, h1, h0, k1.trans h2, fun hm => (k.mb D hm).elim h3 fun hle => absurd hlt (Nat.not_lt.2 hle), k2⟩⟩

structure Sim (C0 : Ctx) (w0 : Start) (M0 av : Nat → Prop) (s : St) (a : Act) (C : Ctx) : Prop where
  n : a.tmps.size = s.n
  tm : ∀ t, Rel C (a.tmps.getD t undef) (s.tm t)
  tab : C.tab = s.tab
  ok : TabOk w0 M0 av C
  ext : Ext C0 C
  defers : Marks C0.w.heap.size w0 M0 a.defers

section
variable {P : Program} {w0 : Start} {M0 av : Nat → Prop} {fresh : Nat} {C C0 : Ctx} {out : Out} {a : Act} {o : Oper} {s : St}

theorem Sim.val (h : Sim C0 w0 M0 av s a C) (x : Operand) : Rel C (a.eval x) (s.val x) := by
  cases x with
  | tmp t => exact h.tm t
  | const v => exact ofValue_rel v
  | global g => exact .undef
  | func f => exact .fn .nil

/-- The fence of a walk: in a round of a range over a function, or not. -/
def fw (ro : Option Nat) : Fence := { Fence.wide with round := ro }

theorem fw_room (ro : Option Nat) (n : Nat) : (fw ro).room n := fun _ h => by simp [fw, Fence.wide] at h

theorem wpIn_exec {P : Program} {ro : Option Nat} {o : Oper} {a : Act} {w : World} {next : Act → World → Prop} {Q : Exit → Act → World → Prop} (hd : ∀ c, o.op ≠ .defer c) (h : o.uponIn (fw ro) 0 P a next Q ((execOp a.eval o).run P w)) : o.wpIn (fw ro) 0 P a w next Q :=
  ⟨fun _ _ => trivial, by rw [Oper.semAt_eq _ _ _ hd]; exact h⟩

theorem enter_upon {P : Program} {ro : Option Nat} {o : Oper} {a : Act} {w : World} {next : Act → World → Prop} {Q : Exit → Act → World → Prop} {g : FuncId} {args : Array Value} (h : Calls P g args w fun | .returned v, w'' => next (a.put o.dst v) w'' | .panicked chain, w'' => Q (.panic chain) a w'' | .outgrown, _ => LetsOut Q) :
    o.uponIn (fw ro) 0 P a next Q (.ok (.enter g args) w) := by
  rw [Oper.uponIn_enter]
  exact ⟨fun h => by simp [fw, Fence.wide] at h, CallsIn.inRound (F := Fence.wide) (0 : Nat) (callsIn_wide.2 h)⟩

def Done (P : Program) (o : Oper) (a : Act) (w0 : Start) (M0 av : Nat → Prop) (fresh : Nat) (C : Ctx) (out : Out) : Prop :=
  ∀ (ro : Option Nat) (next : Act → World → Prop) (Q : Exit → Act → World → Prop), (∀ c, o.op ≠ .defer c) → (∀ v C', C'.tab = chg C.tab out.ch → Ext C C' → TabOk w0 M0 (fun i => av i ∧ ¬ (fresh ≤ i ∧ i < fresh + room)) C' → Rel C' v out.v → next (a.put o.dst v) C'.w) →
    o.wpIn (fw ro) 0 P a C.w next Q

theorem done_v {m : Sem Value} (g : Gives P m w0 M0 av fresh C out) (h : execOp a.eval o = (do let v ← m; pure (Next.value v))) : Done P o a w0 M0 av fresh C out := by
  intro ro next Q hdf hn
  obtain ⟨v, C', h1, h2, h3, h4, h5⟩ := g
  refine wpIn_exec hdf ?_
  rw [h, Sem.run_bind, h1]
  exact hn v C' h2 h3 h4 h5

theorem done_u {m : Sem Unit} (g : GivesU P m w0 M0 av fresh C out) (h : execOp a.eval o = (do m; pure Next.skip)) : Done P o a w0 M0 av fresh C out := by
  intro ro next Q hdf hn
  obtain ⟨C', h1, h2, h3, h4, h5⟩ := g
  refine wpIn_exec hdf ?_
  rw [h, Sem.run_bind, h1]
  exact hn undef C' h2 h3 h4 (by rw [h5]; exact .tup .nil)

theorem relL_map (h : Sim C0 w0 M0 av s a C) : ∀ (l : List Operand), RelL C (l.map a.eval) (l.map s.val)
  | [] => .nil
  | x :: l => .cons (h.val x) (relL_map h l)

theorem part_map (h : Sim C0 w0 M0 av s a C) : ∀ (l : List (Nat × Operand)), PartRel C (l.map fun p => (p.1, a.eval p.2)) (l.map fun p => (p.1, s.val p.2))
  | [] => .nil
  | (_, x) :: l => .cons (h.val x) (part_map h l)

theorem opt_map (h : Sim C0 w0 M0 av s a C) (x : Option Operand) : (x.map s.val = none ∧ x.map a.eval = none) ∨ ∃ y v, x.map s.val = some y ∧ x.map a.eval = some v ∧ Rel C v y := by
  cases x with
  | none => exact .inl ⟨rfl, rfl⟩
  | some x => exact .inr ⟨_, _, rfl, rfl, h.val x⟩

theorem minV_gives (t : TabOk w0 M0 av C) {f : Int → Int → Int} {g : Value → Value → Sem Value} (hg : ∀ (k k' : IntKind) (x y : Int), g (.int k x) (.int k' y) = pure (.int k (f x y))) : ∀ {l : List AV} {vs : List Value} {x : AV} {v : Value} {y : AV},
    minV f x l = some y → Rel C v x → RelL C vs l → Gives P (vs.foldlM g v) w0 M0 av fresh C ⟨y, []⟩
  | [], vs, x, v, y, h, hx, hl => by
    cases hl
    cases h
    exact gives_pure t (by simp) hx
  | z :: l, vs, x, v, y, h, hx, hl => by
    cases hl with
    | cons hz ht =>
      cases x <;> cases z <;> simp only [minV] at h <;> try cases h
      split at h
      · rename_i k a k' b hk
        subst hk
        cases hx
        cases hz
        have := minV_gives t hg h .int ht
        obtain ⟨v', C', h1, h2⟩ := this
        exact ⟨v', C', by simp only [List.foldlM_cons, hg, Sem.run_bind, Sem.run_pure, Result.andThen_ok]; exact h1, h2⟩
      · cases h

theorem to_arr {α : Type} {x : Array α} {l : List α} (h : x.toList = l) : x = l.toArray := by
  subst h
  simp

theorem rel_int {v : Value} {k : IntKind} {n : Int} (h : Rel C v (.int k n)) : v = .int k n := by cases h; rfl
theorem rel_bool {v : Value} {b : Bool} (h : Rel C v (.bool b)) : v = .bool b := by cases h; rfl
theorem rel_ptr {v : Value} {i o : Nat} (h : Rel C v (.ptr i o)) : ∃ p, v = .pointer (some p) := by
  cases h with
  | ptr h =>
    obtain ⟨_, p, e, _⟩ := h
    exact ⟨p, e⟩
theorem rel_eptr {v : Value} {i j o : Nat} (h : Rel C v (.eptr i j o)) : ∃ p, v = .pointer (some p) := by
  cases h with
  | eptr h =>
    obtain ⟨_, p, e, _⟩ := h
    exact ⟨p, e⟩
theorem rel_iptr {v : Value} {l : List AV} (h : Rel C v (.iptr l)) : ∃ p, v = .pointer (some p) := by
  cases h
  exact ⟨_, rfl⟩
theorem rel_fn {v : Value} {f : FuncId} {l : List AV} (h : Rel C v (.fn (.func f) l)) : ∃ cs, v = .func (.func f) #[] cs ∧ RelL C cs.toList l := by
  cases h with
  | fn h => exact ⟨_, rfl, h⟩

theorem op_done {E : Env} (hE : EnvOk E) (h : Sim C0 w0 M0 av s a C) {vw : Tab} (hsub : Sub vw C.tab) (hav : ∀ c, c < room → av (fresh + c)) {e : Eff} (he : aop E o.op s.val vw fresh = some e) (hr : e.Res out) :
    Done E.P o a w0 M0 av fresh C out := by
  have t := h.ok
  have hx := fun x => h.val x
  cases hop : o.op with
  | move x =>
    rw [hop] at he
    obtain rfl := ok_res he hr
    exact done_v (m := pure (a.eval x)) (gives_pure t rfl (hx x)) (by simp only [execOp, hop]; rfl)
  | assign x =>
    rw [hop] at he
    obtain rfl := ok_res he hr
    exact done_v (m := pure (a.eval x)) (gives_pure t rfl (hx x)) (by simp only [execOp, hop]; rfl)
  | pick c p q =>
    rw [hop] at he
    simp only [aop] at he
    split at he
    · rename_i b hcv
      have e1 : a.eval c = .bool b := rel_bool (hcv ▸ hx c)
      refine done_v (m := do pure (if ← asBool (a.eval c) then a.eval p else a.eval q)) ?_ (by simp [execOp, hop])
      rw [e1]
      split at he
      · rename_i x y h1 h2
        obtain rfl := ok_res he hr
        refine gives_pure t (v := .bool (bif b then x else y)) ?_ .bool
        have e2 : a.eval p = .bool x := rel_bool (h1 ▸ hx p)
        have e3 : a.eval q = .bool y := rel_bool (h2 ▸ hx q)
        rw [e2, e3]
        cases b <;> simp [asBool]
      · cases b with
        | true =>
          obtain rfl := ok_res he hr
          exact gives_pure t (v := a.eval p) (by simp [asBool]) (hx p)
        | false =>
          obtain rfl := ok_res he hr
          exact gives_pure t (v := a.eval q) (by simp [asBool]) (hx q)
    · cases he
  | alloc ty =>
    rw [hop] at he
    simp only [aop] at he
    split at he
    · rename_i l hl
      obtain rfl := out_res he hr
      exact done_v (alloc_gives t hav hl) (by simp only [execOp, hop])
    · cases he
  | box ty x =>
    rw [hop] at he
    simp only [aop] at he
    cases hl : (s.val x).leaves.all leafB with
    | false => rw [hl] at he; cases he
    | true =>
      rw [hl] at he
      obtain rfl := out_res he hr
      exact done_v (box_gives t hav hl (hx x)) (by simp only [execOp, hop])
  | build ty parts =>
    rw [hop] at he
    refine done_v (buildV_gives t (vp := parts.map fun (i, x) => (i, a.eval x)) he hr ?_) (by simp only [execOp, hop])
    rw [Array.toList_map]
    exact part_map h parts.toList
  | buildSlice ty len parts =>
    rw [hop] at he
    refine done_v (buildSliceV_gives t hav hsub (vp := parts.map fun (i, x) => (i, a.eval x)) he hr ?_) (by simp only [execOp, hop])
    rw [Array.toList_map]
    exact part_map h parts.toList
  | load ty x =>
    rw [hop] at he
    exact done_v (loadV_gives t hsub he hr (hx x)) (by simp only [execOp, hop])
  | store ty x v =>
    rw [hop] at he
    exact done_u (storeV_gives t hsub he hr (hx x) (hx v)) (by simp only [execOp, hop])
  | nilCheck x =>
    rw [hop] at he
    simp only [aop] at he
    have hv := hx x
    split at he
    · rename_i id off hval
      rw [hval] at hv
      obtain rfl := ok_res he hr
      obtain ⟨p, e1⟩ := rel_ptr hv
      exact done_v (m := pure (a.eval x)) (gives_pure t rfl hv) (by simp only [execOp, hop, e1]; rfl)
    · rename_i id j off hval
      rw [hval] at hv
      obtain rfl := ok_res he hr
      obtain ⟨p, e1⟩ := rel_eptr hv
      exact done_v (m := pure (a.eval x)) (gives_pure t rfl hv) (by simp only [execOp, hop, e1]; rfl)
    · rename_i l hval
      rw [hval] at hv
      obtain rfl := ok_res he hr
      obtain ⟨p, e1⟩ := rel_iptr hv
      exact done_v (m := pure (a.eval x)) (gives_pure t rfl hv) (by simp only [execOp, hop, e1]; rfl)
    · rename_i f l hval
      rw [hval] at hv
      obtain rfl := ok_res he hr
      obtain ⟨cs, e1, _⟩ := rel_fn hv
      exact done_v (m := pure (a.eval x)) (gives_pure t rfl hv) (by simp only [execOp, hop, e1]; rfl)
    · rename_i hval
      rw [hval] at hv
      obtain rfl := ok_res he hr
      have e1 : a.eval x = .func (.yield C.yl) #[] #[] := by
        generalize a.eval x = u at hv
        cases hv
        rfl
      exact done_v (m := pure (a.eval x)) (gives_pure t rfl hv) (by simp only [execOp, hop, e1]; rfl)
    · cases he
  | binOp op ty x y yt =>
    rw [hop] at he
    exact done_v (binV_gives t he hr (hx x) (hx y) x y) (by simp only [execOp, hop])
  | unOp op ty x =>
    rw [hop] at he
    exact done_v (unV_gives t he hr (hx x)) (by simp only [execOp, hop])
  | convert src dst x =>
    rw [hop] at he
    exact done_v (convV_gives t hsub he hr (hx x)) (by simp only [execOp, hop])
  | makeFunc f first caps =>
    rw [hop] at he
    simp only [aop] at he
    cases f <;> try cases he
    rename_i f
    cases hf : first.isEmpty with
    | false => rw [hf] at he; cases he
    | true =>
      rw [hf] at he
      obtain rfl := ok_res he hr
      have hf0 : first = #[] := Array.isEmpty_iff.1 hf
      subst hf0
      refine done_v (m := Instr.makeFunc (.func f) #[] (caps.map a.eval)) (gives_pure t rfl (.fn ?_)) (by simp [execOp, hop])
      rw [Array.toList_map]
      exact relL_map h caps.toList
  | makeSlice ty l c =>
    rw [hop] at he
    exact done_v (makeSliceV_gives t hav he hr (hx l) (hx c)) (by simp only [execOp, hop])
  | slice ty x lo hi m =>
    rw [hop] at he
    cases m with
    | none => exact done_v (sliceV_gives t hsub he hr (hx x) (opt_map h lo) (opt_map h hi)) (by simp only [execOp, hop]; rfl)
    | some m =>
      cases lo with
      | none => cases he
      | some lo =>
        cases hi with
        | none => cases he
        | some hi => exact done_v (slice3V_gives t he hr (hx x) (hx lo) (hx hi) (hx m)) (by simp only [execOp, hop]; rfl)
  | fieldAddr ty x f =>
    rw [hop] at he
    exact done_v (fieldAddrV_gives t he hr (hx x)) (by simp only [execOp, hop])
  | field ty x f =>
    rw [hop] at he
    exact done_v (fieldV_gives t he hr (hx x)) (by simp only [execOp, hop])
  | indexAddr ty x i =>
    rw [hop] at he
    exact done_v (indexAddrV_gives t hsub he hr (hx x) (hx i)) (by simp only [execOp, hop])
  | index ty x i =>
    rw [hop] at he
    refine done_v (m := Instr.index ty (a.eval x) (a.eval i)) ?_ (by simp only [execOp, hop])
    have hv := hx x
    have hi := hx i
    generalize a.eval x = v at hv
    generalize a.eval i = u at hi
    simp only [aop, indexV] at he
    split at he
    · rename_i n e' l ki j hu hxv hiv
      rw [hxv] at hv
      rw [hiv] at hi
      cases hv with
      | agg hl =>
        cases hi
        split at he
        · rename_i ke hue hse
          split at he
          · rename_i ns hns
            cases hlen : Nat.beq ns.length n with
            | false => rw [hlen] at he; cases he
            | true =>
              rw [hlen, cond_true] at he
              cases he
              obtain ⟨h0, hr⟩ := wh_res hr
              obtain ⟨h1, hr⟩ := wh_res hr
              cases hr
              obtain ⟨inf, hinf, hsz⟩ := shape_info hse
              have hc : 0 ≤ j ∧ j < (n : Int) := ⟨h0, h1⟩
              have hlen' := Nat.eq_of_beq_eq_true hlen
              have hat := intsOf_rel hns hl (i := j.toNat) (by omega)
              refine gives_pure t (v := .int ke (ns.getD j.toNat 0)) ?_ .int
              have hpart := run_part (off := j.toNat * inf.size) hse C.w (fun h => by cases h) (fun _ => by rw [hsz, Nat.mul_one, List.getElem?_drop, Nat.add_zero]; exact hat)
              simp [Instr.index, asIntOf, run_underlying hu, hc, run_sizeOf hinf, hpart]
          · cases he
        split at he
        · rename_i y hy
          cases he
          obtain ⟨h0, hr⟩ := wh_res hr
          obtain ⟨h1, hr⟩ := wh_res hr
          cases hr
          unfold takeT at hy
          cases hs : shapeOf E.P e' with
          | none => rw [hs] at hy; cases hy
          | some an =>
            obtain ⟨ag, m⟩ := an
            rw [hs] at hy
            obtain ⟨w, k1, k2, k3⟩ := take_rel hy (hl.drop (j.toNat * E.P.cellsOf e'))
            obtain ⟨inf, hinf, _⟩ := shape_info hs
            have hc : 0 ≤ j ∧ j < (n : Int) := ⟨h0, h1⟩
            refine gives_pure t (v := w) ?_ k3
            have hpart := run_part hs C.w k1 k2
            rw [cellsOf_eq hinf] at hpart
            simp [Instr.index, asIntOf, run_underlying hu, hc, run_sizeOf hinf, hpart]
        · cases he
    · rename_i b ki j hu hxv hiv
      rw [hxv] at hv
      rw [hiv] at hi
      cases hv
      cases hi
      cases he
      obtain ⟨h0, hr⟩ := wh_res hr
      cases hr with
      | bind hb =>
        refine gives_pure t (v := .int .u8 _) ?_ .int
        simp [Instr.index, asIntOf, run_underlying hu, h0, hb]
    · cases he
  | extract x i =>
    rw [hop] at he
    simp only [aop] at he
    have hv := hx x
    generalize hvv : a.eval x = v at hv
    split at he
    · rename_i l hval
      rw [hval] at hv
      cases hv with
      | tup hl =>
        split at he
        · rename_i y hy
          obtain rfl := ok_res he hr
          obtain ⟨w, h1, h2⟩ := hl.get hy
          rw [Array.getElem?_toList] at h1
          exact done_v (m := pure w) (gives_pure t rfl h2) (by simp only [execOp, hop, hvv, Instr.extract, h1])
        · cases he
    · cases he
  | call c =>
    rw [hop] at he
    obtain ⟨callee, args, argTypes⟩ := c
    cases callee with
    | builtin b =>
      simp only [aop] at he
      split at he
      · rename_i x ty ha hty
        obtain rfl := to_arr ha
        obtain rfl := to_arr hty
        exact done_v (lenV_gives (r := o.type) t hsub he hr (hx x)) (by simp [execOp, hop, resolve, invoke, builtin])
      · rename_i p q ty u ha hty
        obtain rfl := to_arr ha
        obtain rfl := to_arr hty
        split at he
        · rename_i e2 hu2
          exact done_v (appendV_gives (r := o.type) t hav hsub he hr (hx p) (hx q) hu2) (by simp [execOp, hop, resolve, invoke, builtin])
        · rename_i kn hu2
          split at he
          · rename_i kq n hq
            have hv := hx q
            generalize hvv : a.eval q = vq at hv
            rw [hq] at hv
            cases hv
            exact done_v (appendZ_gives (r := o.type) (kq := kq) t hav hsub he hr (hx p) hu2) (by simp [execOp, hop, resolve, invoke, builtin, hvv])
          · cases he
        · cases he
      · rename_i p q ty u ha hty
        obtain rfl := to_arr ha
        obtain rfl := to_arr hty
        exact done_v (copyV_gives (ty2 := u) (r := o.type) t hsub he hr (hx p) (hx q)) (by simp [execOp, hop, resolve, invoke, builtin])
      · rename_i x l ha
        split at he
        · rename_i y hy
          obtain rfl := ok_res he hr
          obtain rfl := to_arr ha
          refine done_v (m := (l.map a.eval).foldlM Builtin.min2 (a.eval x)) (minV_gives t (fun k k' x y => rfl) hy (hx x) (relL_map h l)) ?_
          simp [execOp, hop, resolve, invoke, builtin, Builtin.min_]
        · cases he
      · rename_i x l ha
        split at he
        · rename_i y hy
          obtain rfl := ok_res he hr
          obtain rfl := to_arr ha
          refine done_v (m := (l.map a.eval).foldlM Builtin.max2 (a.eval x)) (minV_gives t (fun k k' x y => rfl) hy (hx x) (relL_map h l)) ?_
          simp [execOp, hop, resolve, invoke, builtin, Builtin.max_]
        · cases he
      · cases he
    | invoke r m => cases he
    | value f =>
      simp only [aop] at he
      have hv := hx f
      generalize hvv : a.eval f = v at hv
      split at he
      · rename_i g caps hval
        rw [hval] at hv
        split at he
        · rename_i sp hsp
          cases hbq : Nat.beq (gOf (gkey g (args.toList.map s.val ++ caps))) g with
          | false => rw [hbq] at he; cases he
          | true =>
          rw [hbq] at he
          obtain ⟨hcon, fn, hfn, hbody⟩ := hE.con _ sp hsp
          rw [Nat.eq_of_beq_eq_true hbq] at hcon hfn
          have hname := hE.names g fn hfn
          cases hv with
          | fn hcaps =>
            rename_i cs
            have hargs : RelL C (args.map a.eval ++ cs).toList (args.toList.map s.val ++ caps) := by
              rw [Array.toList_append, Array.toList_map]
              exact (relL_map h args.toList).app hcaps
            have hc := callV_calls t hav hsub hcon he hr hargs
            intro ro next Q hdf hn
            refine wpIn_exec hdf ?_
            have hrun : (execOp a.eval o).run E.P C.w = .ok (.enter g (args.map a.eval ++ cs)) C.w := by
              simp only [execOp, hop, resolve, hvv, Deferred.ofValue, invoke, callFunc, Sem.run_bind, Sem.run_pure, Result.andThen_ok, run_program, hfn, hname, hbody]
              simp
            rw [hrun]
            refine enter_upon ?_
            refine hc.mono ?_
            rintro e w' ⟨v, C', rfl, rfl, h1, h2, h3, h4⟩
            exact hn v C' h1 h2 h3 h4
        · split at he
          · rename_i sp hsp
            obtain ⟨hcon, fn, hfn, hbody⟩ := hE.conB g sp hsp
            have hname := hE.names g fn hfn
            cases hv with
            | fn hcaps =>
              rename_i cs
              have hargs : RelL C (args.map a.eval ++ cs).toList (args.toList.map s.val ++ caps) := by
                rw [Array.toList_append, Array.toList_map]
                exact (relL_map h args.toList).app hcaps
              have hc := callB_calls t hsub hcon he hr hargs
              intro ro next Q hdf hn
              refine wpIn_exec hdf ?_
              have hrun : (execOp a.eval o).run E.P C.w = .ok (.enter g (args.map a.eval ++ cs)) C.w := by
                simp only [execOp, hop, resolve, hvv, Deferred.ofValue, invoke, callFunc, Sem.run_bind, Sem.run_pure, Result.andThen_ok, run_program, hfn, hname, hbody]
                simp
              rw [hrun]
              refine enter_upon ?_
              refine hc.mono ?_
              rintro e w' ⟨v, C', rfl, rfl, h1, h2, h3, h4⟩
              exact hn v C' h1 h2 (h3.weak fun _ hi => hi.1) h4
          · cases he
      · cases he
  | _ => rw [hop] at he; cases he

end
end Go.Proofs.Ytmjbjlhjpdebjaa.Mini
