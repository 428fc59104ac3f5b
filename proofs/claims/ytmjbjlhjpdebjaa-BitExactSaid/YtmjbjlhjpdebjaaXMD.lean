/- A small machine over plain data: what a call is known to do, and how a caller takes it. -/
import Derived.Test.YtmjbjlhjpdebjaaXMC
namespace Go.Proofs.Ytmjbjlhjpdebjaa.Mini
open Go Go.RowKit

/-! ### Data that holds no rows -/
theorem RepC.nomem {w : World} {ok ok' : Nat → Prop} : ∀ {k : Kd} {x : El k} {cs : List Value}, k.mem = false → RepC w ok k x cs → RepC w ok' k x cs
  | .int _, _, _, _, h => h
  | .bool, _, _, _, h => h
  | .str, _, _, _, h => h
  | .unit, _, _, _, h => h
  | .pair a b, x, cs, hm, h => by
    simp only [Kd.mem, Bool.or_eq_false_iff] at hm
    obtain ⟨c, d, e, h1, h2⟩ := h
    exact ⟨c, d, e, h1.nomem hm.1, h2.nomem hm.2⟩
  | .row a, xs, cs, hm, h => by cases hm

def zeroCtx (w : World) (B : Nat → Prop) (y : Nat) : Ctx := { w := w, io := fun _ => none, tab := fun _ => none, base := B, yl := y }

def none' : Nat → Prop := fun _ => False

/-- What a call is known to do: what is told is what the plain function tells; nothing that was there is turned. -/
def Contract (P : Program) (k : Nat) (g : FuncId) (s : Spec) : Prop :=
  ∀ a r, s.f k a = some r → ∀ (w : World) (B : Nat → Prop) (y : Nat) (vs : Array Value) (fresh : Nat), (∀ b, w.heap.size ≤ b → B b) → RelL (zeroCtx w B y) vs.toList (argSs s.ps a) →
    Calls P g vs w fun e w' => ∃ v C', e = .returned v ∧ C'.w = w' ∧ C'.tab = chg (fun _ => none) (encSs fresh s.rs r).2 ∧ C'.yl = y ∧ TabOk ⟨w, B⟩ none' (fun i => ¬ (fresh ≤ i ∧ i < fresh + room)) C' ∧
      Rel C' v (oneOf (encSs fresh s.rs r).1)

section
variable {P : Program} {w0 : Start} {M0 av : Nat → Prop} {fresh : Nat} {C : Ctx} {out : Out}

/-! ### Arguments -/
theorem headD_rel {C : Ctx} {k : Kd} {x : El k} {v : Value} (h : RelL C [v] (leavesOf k x)) : Rel C v ((leavesOf k x).headD .undef) := by
  generalize leavesOf k x = l at h
  cases h with
  | cons h _ => exact h

/-- A leaf that is handed over, as data, wherever its own block may be read. -/
theorem leaf_rep {yl : Nat} (t : TabOk w0 M0 av C) {vw : Tab} (hsub : Sub vw C.tab) (B : Nat → Prop) (hB : ∀ b, C.ok b → B b) {v : Value} {x : AV} (hx : Rel C v x) (hl : leafB x = true) (hown : ∀ id p, vw id ≠ none → x.id? = some id → C.io id = some (some p) → B p.b) :
    Rel (zeroCtx C.w B yl) v (snap vw x) ∨ (∃ f l, x = .fn f l) ∨ (∃ l, x = .iptr l) ∨ (∃ i o, x = .ptr i o) ∨ ∃ i j o, x = .eptr i j o := by
  have hz : ∀ b, B b → (zeroCtx C.w B yl).ok b := fun b hb => ⟨hb, fun _ _ _ h => by cases h⟩
  have key : ∀ {id off : Nat} {len : Option Nat}, SlRel C v id off len → x.id? = some id → ∀ {blk : Blk} {k : Kd} {T : TypeId} {xs : List (El k)}, vw id = some blk → RowLike blk k T xs →
      Rel (zeroCtx C.w B yl) v (.row k ((xs.drop off).take (len.getD xs.length))) := by
    intro id off len hs hid blk k T xs hv hr
    exact .row (hs.snap t (hsub _ _ hv) hr _ (fun b hb => hz b (hB b hb)) fun p hp => hz _ (hown id p (by rw [hv]; simp) hid hp))
  cases hx with
  | undef => cases hl
  | agg => cases hl
  | tup => cases hl
  | int => exact .inl .int
  | bool => exact .inl .bool
  | str => exact .inl .str
  | nils => exact .inl .nils
  | nilp => exact .inl .nilp
  | row h => exact .inl (.row (h.ext ⟨fun _ _ _ _ h _ => h, fun b _ ho => hz b (hB b ho)⟩))
  | fn => exact .inr (.inl ⟨_, _, rfl⟩)
  | yld => exact .inr (.inl ⟨_, _, rfl⟩)
  | iptr => exact .inr (.inr (.inl ⟨_, rfl⟩))
  | ptr => exact .inr (.inr (.inr (.inl ⟨_, _, rfl⟩)))
  | eptr => exact .inr (.inr (.inr (.inr ⟨_, _, _, rfl⟩)))
  | own h =>
    rename_i id
    cases hv : vw id with
    | none => exact .inl (by simp only [snap, hv]; exact .undef)
    | some blk =>
      cases blk with
      | row o k T xs =>
        have := key h rfl hv (.inl ⟨o, rfl⟩)
        rw [Option.getD_none, drop_zero_take] at this
        exact .inl (by simpa only [snap, hv] using this)
      | fro k T xs =>
        have := key h rfl hv (.inr rfl)
        rw [Option.getD_none, drop_zero_take] at this
        exact .inl (by simpa only [snap, hv] using this)
      | cells T l => exact .inl (by simp only [snap, hv]; exact .undef)
  | sl h =>
    rename_i id off len
    cases hv : vw id with
    | none => exact .inl (by simp only [snap, hv]; exact .undef)
    | some blk =>
      cases blk with
      | row o k T xs =>
        have := key h rfl hv (.inl ⟨o, rfl⟩)
        rw [Option.getD_some] at this
        exact .inl (by simpa only [snap, hv] using this)
      | fro k T xs =>
        have := key h rfl hv (.inr rfl)
        rw [Option.getD_some] at this
        exact .inl (by simpa only [snap, hv] using this)
      | cells T l => exact .inl (by simp only [snap, hv]; exact .undef)

/-- Leaves that a kind takes as data are no functions, no pointers. -/
theorem toEl_data : ∀ {k : Kd} {l : List AV} {x : El k} {r : List AV}, toEl k l = some (x, r) → ∃ c, l = c ++ r ∧ ∀ y ∈ c, (∀ f l, y ≠ .fn f l) ∧ (∀ l, y ≠ .iptr l) ∧ (∀ i o, y ≠ .ptr i o) ∧ ∀ i j o, y ≠ .eptr i j o
  | .int k, l, x, r, h => by
    cases l with
    | nil => simp [toEl] at h
    | cons y l =>
      cases y <;> simp [toEl] at h
      obtain ⟨_, _, rfl⟩ := h
      exact ⟨[_], rfl, fun y hy => by simp at hy; subst hy; simp⟩
  | .bool, l, x, r, h => by
    cases l with
    | nil => simp [toEl] at h
    | cons y l =>
      cases y <;> simp [toEl] at h
      obtain ⟨_, rfl⟩ := h
      exact ⟨[_], rfl, fun y hy => by simp at hy; subst hy; simp⟩
  | .str, l, x, r, h => by
    cases l with
    | nil => simp [toEl] at h
    | cons y l =>
      cases y <;> simp [toEl] at h
      obtain ⟨_, rfl⟩ := h
      exact ⟨[_], rfl, fun y hy => by simp at hy; subst hy; simp⟩
  | .unit, l, x, r, h => by
    simp [toEl] at h
    subst h
    exact ⟨[], rfl, fun y hy => by cases hy⟩
  | .pair a b, l, x, r, h => by
    unfold toEl at h
    split at h
    · rename_i x1 l1 h1
      split at h
      · rename_i x2 l2 h2
        simp only [Option.some.injEq, Prod.mk.injEq] at h
        obtain ⟨_, rfl⟩ := h
        obtain ⟨c1, rfl, k1⟩ := toEl_data h1
        obtain ⟨c2, rfl, k2⟩ := toEl_data h2
        exact ⟨c1 ++ c2, by rw [List.append_assoc], fun y hy => (List.mem_append.1 hy).elim (k1 y) (k2 y)⟩
      · cases h
    · cases h
  | .row a, l, x, r, h => by
    cases l with
    | nil => simp [toEl] at h
    | cons y l =>
      cases y <;> simp [toEl] at h
      · obtain ⟨_, rfl⟩ := h
        exact ⟨[_], rfl, fun y hy => by simp at hy; subst hy; simp⟩
      · obtain ⟨_, rfl⟩ := h
        exact ⟨[_], rfl, fun y hy => by simp at hy; subst hy; simp⟩

theorem snap_same {vw : Tab} {y : AV} : (∀ f l, y = .fn f l → snap vw y = y) ∧ (∀ l, y = .iptr l → snap vw y = y) ∧ (∀ i o, y = .ptr i o → snap vw y = y) ∧ ∀ i j o, y = .eptr i j o → snap vw y = y :=
  ⟨fun _ _ h => by subst h; rfl, fun _ h => by subst h; rfl, fun _ _ h => by subst h; rfl, fun _ _ _ h => by subst h; rfl⟩

/-- Leaves that are taken as data are that, wherever their own blocks may be read. -/
theorem leaves_rep (t : TabOk w0 M0 av C) {vw : Tab} (hsub : Sub vw C.tab) (B : Nat → Prop) (hB : ∀ b, C.ok b → B b) {k : Kd} {l : List AV} {x : El k} (h : toElAll k (l.map (snap vw)) = some x) (hl : l.all leafB = true)
    (hown : ∀ y ∈ l, ∀ id p, vw id ≠ none → y.id? = some id → C.io id = some (some p) → B p.b) {vs : List Value} (hv : RelL C vs l) : RepC C.w B k x vs := by
  have hdata : ∀ y ∈ l.map (snap vw), (∀ f l, y ≠ .fn f l) ∧ (∀ l, y ≠ .iptr l) ∧ (∀ i o, y ≠ .ptr i o) ∧ ∀ i j o, y ≠ .eptr i j o := by
    unfold toElAll at h
    split at h
    · rename_i y e
      obtain ⟨c, hc, hd⟩ := toEl_data e
      rw [List.append_nil] at hc
      rw [hc]
      exact hd
    · cases h
  have hrel : ∀ {l : List AV} {vs : List Value}, RelL C vs l → l.all leafB = true → (∀ y ∈ l, ∀ id p, vw id ≠ none → y.id? = some id → C.io id = some (some p) → B p.b) →
      (∀ y ∈ l.map (snap vw), (∀ f l, y ≠ .fn f l) ∧ (∀ l, y ≠ .iptr l) ∧ (∀ i o, y ≠ .ptr i o) ∧ ∀ i j o, y ≠ .eptr i j o) → RelL (zeroCtx C.w B 0) vs (l.map (snap vw)) := by
    intro l
    induction l with
    | nil =>
      intro vs hv _ _ _
      cases hv
      exact .nil
    | cons y l ih =>
      intro vs hv hl hown hd
      cases hv with
      | cons h t' =>
        simp only [List.all_cons, Bool.and_eq_true] at hl
        refine .cons ?_ (ih t' hl.2 (fun z hz => hown z (by simp [hz])) fun z hz => hd z (by simp at hz ⊢; exact .inr hz))
        have hd' := hd (snap vw y) (by simp)
        rcases leaf_rep t hsub B hB h hl.1 (hown y (by simp)) with k | ⟨f, l, rfl⟩ | ⟨l, rfl⟩ | ⟨i, o, rfl⟩ | ⟨i, j, o, rfl⟩
        · exact k
        · exact absurd rfl (hd'.1 f l)
        · exact absurd rfl (hd'.2.1 l)
        · exact absurd rfl (hd'.2.2.1 i o)
        · exact absurd rfl (hd'.2.2.2 i j o)
  have := toElAll_rep h (hrel hv hl hown hdata)
  exact this.ext ⟨fun _ _ _ _ h _ => h, fun b _ ho => ho.1⟩

/-- The arguments, as the callee has them. -/
theorem leavesOf_len : ∀ (k : Kd) (x : El k), (leavesOf k x).length = k.sz
  | .int _, _ => rfl
  | .bool, _ => rfl
  | .str, _ => rfl
  | .unit, _ => rfl
  | .pair a b, x => by
    show (leavesOf a x.1 ++ leavesOf b x.2).length = a.sz + b.sz
    rw [List.length_append, leavesOf_len a, leavesOf_len b]
  | .row _, _ => rfl

/-- A pointer at what is read alone. -/
theorem ptr_arg {yl : Nat} (t : TabOk w0 M0 av C) {vw : Tab} (hsub : Sub vw C.tab) (B : Nat → Prop) (hB : ∀ b, B b) {k : Kd} {x : AV} {a : El k} (h : decP vw k x = some a) {v : Value} (hv : Rel C v x) : Rel (zeroCtx C.w B yl) v (.iptr (leavesOf k a)) := by
  have hz : ∀ b, (zeroCtx C.w B yl).ok b := fun b => ⟨hB b, fun _ _ _ h => by cases h⟩
  have key : ∀ {vs : List Value} {l : List AV}, RelL C vs l → (bif l.all leafB then toElAll k (l.map (snap vw)) else none) = some a → RelL (zeroCtx C.w B yl) vs (leavesOf k a) ∧ vs.length = k.sz := by
    intro vs l hr h
    cases hl : l.all leafB with
    | false => rw [hl] at h; cases h
    | true =>
      rw [hl] at h
      have hr := leaves_rep t hsub B (fun b _ => hB b) h hl (fun _ _ _ _ _ _ _ => hB _) hr
      exact ⟨RepC.leaves (C := zeroCtx C.w B yl) (hr.ext (w' := C.w) (ok' := (zeroCtx C.w B yl).ok) ⟨fun _ _ _ _ h _ => h, fun b _ _ => hz b⟩), hr.length⟩
  cases x <;> try cases h
  case ptr id off =>
    simp only [decP] at h
    cases hv with
    | ptr hp =>
      obtain ⟨_, ad, rfl, hb⟩ := hp
      split at h
      · rename_i T l e
        obtain ⟨T', l', p, e1, e2, e3, rfl⟩ := hb _ (hsub _ _ e)
        cases e1
        obtain ⟨q, hq, ⟨p', hp', _, cs, hh, hrel⟩⟩ := t.bl id _ (hsub _ _ e)
        rw [e2] at hq
        cases hq
        cases hp'
        obtain ⟨k1, _⟩ := key ((hrel.drop off).take k.sz) h
        refine .iptr (a := ⟨p.b, off, none⟩) rfl (hz _) hh ?_
        rw [leavesOf_len]
        exact k1
      · cases h
  case iptr l =>
    simp only [decP] at h
    cases hv with
    | iptr hs _ hh hrel =>
      obtain ⟨k1, k2⟩ := key (hrel.take k.sz) h
      refine .iptr hs (hz _) hh ?_
      rw [leavesOf_len]
      rw [List.take_take] at k1 k2
      rename_i ad cs T fr
      have : min k.sz l.length = k.sz := by
        rw [List.length_take] at k2
        omega
      rw [this] at k1
      exact k1

theorem ptrs_arg {yl : Nat} (t : TabOk w0 M0 av C) {vw : Tab} (hsub : Sub vw C.tab) (B : Nat → Prop) (hB : ∀ b, B b) : ∀ {ks : List Kd} {xs : List AV} {a : ElPs ks}, decPs vw ks xs = some a → ∀ {vs : List Value}, RelL C vs xs → RelL (zeroCtx C.w B yl) vs (argPs ks a) := by
  intro ks
  induction ks with
  | nil =>
    intro xs a h vs hv
    cases xs with
    | nil =>
      cases hv
      exact .nil
    | cons y xs => cases h
  | cons k ks ih =>
    intro xs a h vs hv
    cases ks with
    | nil =>
      cases xs with
      | nil => cases h
      | cons y xs =>
        cases xs with
        | nil =>
          cases hv with
          | cons hv t' =>
            cases t'
            exact .cons (ptr_arg t hsub B hB h hv) .nil
        | cons z xs => cases h
    | cons k2 ks =>
      cases xs with
      | nil => cases h
      | cons y xs =>
        cases hv with
        | cons hv t' =>
          simp only [decPs] at h
          split at h
          · rename_i x1 h1
            split at h
            · rename_i y1 h2
              cases h
              exact .cons (ptr_arg t hsub B hB h1 hv) (ih h2 t')
            · cases h
          · cases h

theorem decSs_noFn : ∀ {ps : List Sh}, ps.any Sh.refs = false → ∀ s ∈ ps, s.refs = false := by
  intro ps h s hs
  cases hr : s.refs with
  | false => rfl
  | true =>
    have : ps.any Sh.refs = true := List.any_eq_true.2 ⟨s, hs, hr⟩
    rw [h] at this
    cases this

theorem args_rel {yl : Nat} (t : TabOk w0 M0 av C) {vw : Tab} (hsub : Sub vw C.tab) (B : Nat → Prop) (hB : ∀ b, C.ok b → B b) : ∀ {ps : List Sh} {xs : List AV} {a : ElSs ps}, (ps.any Sh.refs = false ∨ ∀ b, B b) → decSs vw ps xs = some a → 
    (∀ y ∈ xs.flatMap AV.leaves, ∀ id p, vw id ≠ none → y.id? = some id → C.io id = some (some p) → B p.b) → ∀ {vs : List Value}, RelL C vs xs → RelL (zeroCtx C.w B yl) vs (argSs ps a) := by
  have hz : ∀ b, B b → (zeroCtx C.w B yl).ok b := fun b hb => ⟨hb, fun _ _ _ h => by cases h⟩
  have one : ∀ {s : Sh} {x : AV} {a : ElS s}, (s.refs = false ∨ ∀ b, B b) → decS vw s x = some a → (∀ y ∈ x.leaves, ∀ id p, vw id ≠ none → y.id? = some id → C.io id = some (some p) → B p.b) → ∀ {v : Value}, Rel C v x → Rel (zeroCtx C.w B yl) v (argS s a) := by
    intro s x a hp h hown v hv
    cases s with
    | leaf l =>
      cases l with
      | val k =>
        simp only [decS, decL] at h
        cases hl : leafB x with
        | false => rw [hl] at h; cases h
        | true =>
          rw [hl] at h
          simp only [cond_true] at h
          have hleaves : x.leaves = [x] := by cases x <;> first | rfl | cases hl
          have hr := leaves_rep t hsub B hB (l := [x]) h (by simp [hl]) (by rw [← hleaves]; exact hown) (.cons hv .nil)
          have hr2 := (hr.ext (w' := C.w) (ok' := (zeroCtx C.w B yl).ok) ⟨fun _ _ _ _ h _ => h, fun b _ ho => hz b ho⟩)
          exact headD_rel (RepC.leaves (C := zeroCtx C.w B yl) hr2)
      | own k T => cases h
    | st k =>
      cases x with
      | agg l =>
        simp only [decS] at h
        cases hl : l.all leafB with
        | false => rw [hl] at h; cases h
        | true =>
          rw [hl] at h
          simp only [cond_true] at h
          cases hv with
          | agg hv =>
            have hr := leaves_rep t hsub B hB h hl hown hv
            have hr2 := (hr.ext (w' := C.w) (ok' := (zeroCtx C.w B yl).ok) ⟨fun _ _ _ _ h _ => h, fun b _ ho => hz b ho⟩)
            exact .agg (RepC.leaves (C := zeroCtx C.w B yl) hr2)
      | _ => cases h
    | agg ls => cases x <;> cases h
    | ptr k => exact ptr_arg t hsub B (hp.resolve_left (by simp [Sh.refs])) h hv
    | fn f ks =>
      cases x <;> try cases h
      rename_i fv l
      cases fv <;> try cases h
      rename_i f'
      simp only [decS] at h
      cases hq : Nat.beq f' f with
      | false => rw [hq] at h; cases h
      | true =>
        rw [hq] at h
        obtain rfl := Nat.eq_of_beq_eq_true hq
        cases hv with
        | fn hl =>
          rename_i cs
          cases ks with
          | nil =>
            cases l with
            | nil =>
              have hnil : cs.toList = [] := List.eq_nil_of_length_eq_zero hl.length
              refine .fn ?_
              rw [hnil]
              exact .nil
            | cons y l => cases h
          | cons k ks => exact .fn (ptrs_arg t hsub B (hp.resolve_left (by simp [Sh.refs])) h hl)
  intro ps
  induction ps with
  | nil =>
    intro xs a _ h _ vs hv
    cases xs with
    | nil =>
      cases hv
      exact .nil
    | cons y xs => cases h
  | cons s ps ih =>
    intro xs a hpt h hown vs hv
    have hp1 : s.refs = false ∨ ∀ b, B b := hpt.imp_left fun h => decSs_noFn h s (by simp)
    have hp2 : ps.any Sh.refs = false ∨ ∀ b, B b := hpt.imp_left fun h => by
      rw [List.any_cons, Bool.or_eq_false_iff] at h
      exact h.2
    cases ps with
    | nil =>
      cases xs with
      | nil => cases h
      | cons y xs =>
        cases xs with
        | nil =>
          cases hv with
          | cons hv t' =>
            cases t'
            exact .cons (one hp1 h (fun z hz => hown z (by simpa using hz)) hv) .nil
        | cons z xs => cases h
    | cons s2 ps =>
      cases xs with
      | nil => cases h
      | cons y xs =>
        cases hv with
        | cons hv t' =>
          simp only [decSs] at h
          split at h
          · rename_i x1 h1
            split at h
            · rename_i y1 h2
              cases h
              exact .cons (one hp1 h1 (fun z hz => hown z (by rw [List.flatMap_cons]; exact List.mem_append.2 (.inl hz))) hv) (ih hp2 h2 (fun z hz => hown z (by rw [List.flatMap_cons]; exact List.mem_append.2 (.inr hz))) t')
            · cases h
          · cases h

end
end Go.Proofs.Ytmjbjlhjpdebjaa.Mini
