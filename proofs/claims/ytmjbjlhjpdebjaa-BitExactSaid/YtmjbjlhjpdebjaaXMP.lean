/- A small machine over plain data: ranges over functions: how the memory may turn beside a walk. -/
import Derived.Test.YtmjbjlhjpdebjaaXMK
import Derived.RangeFuncNested
namespace Go.Proofs.Ytmjbjlhjpdebjaa.Mini
open Go Go.RowKit

theorem BlkRel.lies {C : Ctx} {p : Option Pl} {blk : Blk} {q : Pl} (h : BlkRel C p blk) (e : p = some q) : ∃ cs T, C.w.heap[q.b]? = some (Obj.cells cs T (0, 0)) := by
  subst e
  cases blk with
  | row _ _ T _ =>
    rcases h with ⟨h, _⟩ | ⟨q', hq, cs, h, _⟩
    · cases h
    · cases hq
      exact ⟨cs, T, h⟩
  | fro _ T _ =>
    rcases h with ⟨h, _⟩ | ⟨q', hq, cs, h, _⟩
    · cases h
    · cases hq
      exact ⟨cs, T, h⟩
  | cells T _ =>
    obtain ⟨q', hq, _, cs, h, _⟩ := h
    cases hq
    exact ⟨cs, T, h⟩

section
variable {w0 : Start} {M0 av : Nat → Prop} {C : Ctx}

theorem TabOk.cells_at (t : TabOk w0 M0 av C) {id : Nat} {p : Pl} {blk : Blk} (e : C.tab id = some blk) (hp : C.io id = some (some p)) : ∃ cs T, C.w.heap[p.b]? = some (Obj.cells cs T (0, 0)) := by
  obtain ⟨p', hp', hr⟩ := t.bl id blk e
  rw [hp] at hp'
  cases hp'
  exact hr.lies rfl

theorem TabOk.mut_cells (t : TabOk w0 M0 av C) {b : Nat} (h : MutOf C b) : ∃ cs T, C.w.heap[b]? = some (Obj.cells cs T (0, 0)) := by
  obtain ⟨id, p, blk, e, hp, _, rfl⟩ := h
  exact t.cells_at e hp

theorem TabOk.mut_lt (t : TabOk w0 M0 av C) {b : Nat} (h : MutOf C b) : b < C.w.heap.size := by
  obtain ⟨cs, T, h⟩ := t.mut_cells h
  exact heap_lt h

theorem TabOk.mut_from (t : TabOk w0 M0 av C) {b : Nat} (h : MutOf C b) : M0 b ∨ w0.heap.size ≤ b := by
  obtain ⟨id, p, blk, e, hp, hm, rfl⟩ := h
  exact (t.mb id p blk e hp hm).symm

theorem TabOk.place (t : TabOk w0 M0 av C) {id : Nat} {p : Pl} {blk : Blk} (e : C.tab id = some blk) (hp : C.io id = some (some p)) : C.base p.b ∨ MutOf C p.b := by
  cases hm : blk.isMut with
  | true => exact .inr ⟨id, p, blk, e, hp, hm, rfl⟩
  | false =>
    refine .inl (t.bs id p blk e hp ?_)
    cases blk <;> first | rfl | cases hm

def Ctx.at (C : Ctx) (w : World) (B : Nat → Prop) : Ctx := { w := w, io := C.io, tab := C.tab, base := B, yl := C.yl }

theorem at_mut {w : World} {B : Nat → Prop} {b : Nat} : MutOf (C.at w B) b ↔ MutOf C b := Iff.rfl

/-- A new start, where others may have written. -/
theorem TabOk.move (t : TabOk w0 M0 av C) {w' : World} {B' : Nat → Prop} (hsz : C.w.heap.size ≤ w'.heap.size)
    (hc : ∀ b cs T fr, C.w.heap[b]? = some (.cells cs T fr) → C.base b ∨ MutOf C b → w'.heap[b]? = some (.cells cs T fr)) (hB : ∀ b, b < C.w.heap.size → C.base b → B' b) (hbf : ∀ b, w'.heap.size ≤ b → B' b) :
    Ext C (C.at w' B') ∧ TabOk ⟨w', B'⟩ (MutOf C) av (C.at w' B') := by
  have x : Ext C (C.at w' B') := ⟨fun _ _ h => h, fun _ blk _ h => ⟨blk, h, Compat.refl _⟩, fun b cs T fr e ho => hc b cs T fr e (.inl ho.1), fun id p blk' hi ht cs T fr e => ⟨cs, fr, hc _ _ _ _ e (t.place ht hi), rfl⟩,
    fun b hb ho => ⟨hB b hb ho.1, ho.2⟩, hsz, rfl⟩
  refine ⟨x, fun id blk e => ?_, t.inj, fun id p blk e hp hm => .inr ⟨id, p, blk, e, hp, hm, rfl⟩, t.av, Frame0.refl _ _, fun id p blk e hp hb => hB _ (t.blk_lt e hp) (t.bs id p blk e hp hb), hbf, rfl⟩
  obtain ⟨p, hp, hr⟩ := t.bl id blk e
  refine ⟨p, hp, hr.ext x fun q hq => ?_⟩
  subst hq
  obtain ⟨cs, T, hl⟩ := hr.lies rfl
  exact (hc _ _ _ _ hl (t.place e hp)).trans hl.symm

/-- What is no cells is turned, from a place on. -/
structure Hush (n0 : Nat) (w w' : World) : Prop where
  os : w'.os = w.os
  tape : w'.tape = w.tape
  output : w'.output = w.output
  size : w.heap.size ≤ w'.heap.size
  blk : ∀ b, b < w.heap.size → w'.heap[b]? = w.heap[b]? ∨ (n0 ≤ b ∧ Quiet w b ∧ Quiet w' b)

theorem Hush.cells {n0 : Nat} {w w' : World} (h : Hush n0 w w') {b : Nat} {cs : Array Value} {T : TypeId} {fr : Nat × Nat} (e : w.heap[b]? = some (.cells cs T fr)) : w'.heap[b]? = some (.cells cs T fr) := by
  rcases h.blk b (heap_lt e) with h1 | ⟨_, h1, _⟩
  · exact h1.trans e
  · exact absurd e (h1 cs T fr)

theorem Hush.put {n0 : Nat} {w : World} {l : Nat} {r r' : Loop} (h : w.heap[l]? = some (.loop r)) (hn : n0 ≤ l) : Hush n0 w (w.putObj l (.loop r')) := by
  refine ⟨rfl, rfl, rfl, by simp, fun b hb => ?_⟩
  by_cases hbl : b = l
  · subst hbl
    exact .inr ⟨hn, (fun cs T fr e => by rw [h] at e; cases e), (fun cs T fr e => by rw [World.putObj_heap_same hb] at e; cases e)⟩
  · exact .inl (World.putObj_heap_other hbl)

theorem TabOk.hush (t : TabOk w0 M0 av C) {n0 : Nat} {w' : World} (h : Hush n0 C.w w') : Ext C (C.at w' C.base) ∧ TabOk ⟨w', C.base⟩ (MutOf C) av (C.at w' C.base) :=
  t.move h.size (fun _ _ _ _ e _ => h.cells e) (fun _ _ hb => hb) fun b hb => t.bf b (Nat.le_trans t.fr.size (Nat.le_trans h.size hb))

theorem TabOk.stepQ (t : TabOk w0 M0 av C) {n0 : Nat} {w' : World} (h : Hush n0 C.w w') : StepQ n0 w0 M0 ⟨w', C.base⟩ (MutOf C) := by
  refine ⟨h.os.trans t.fr.os, h.tape.trans t.fr.tape, h.output.trans t.fr.output, Nat.le_trans t.fr.size h.size, fun b hb hm => ?_, fun b hb => t.mut_from hb, fun b hb => .inl (by rw [← t.bq]; exact hb)⟩
  have h1 := t.fr.blk b hb hm
  rcases h.blk b (Nat.lt_of_lt_of_le hb t.fr.size) with h2 | ⟨h2, h3, h4⟩
  · exact .inl (h2.trans h1)
  · exact .inr ⟨h2, h3.of h1.symm, h4⟩

/-! ### What is captured -/
def HidOf (tab : Tab) (c : Chg) : Prop := ∀ p ∈ c, p.2 = none ∨ ∃ k T xs, tab p.1 = some (.row true k T xs) ∧ p.2 = some (.fro k T xs)

theorem HidOf.fade {tab : Tab} : ∀ {c : Chg}, HidOf tab c → ∀ {t : Tab}, Fade tab t → Fade tab (chg t c)
  | [], _, _, ht => ht
  | p :: c, h, t, ht => HidOf.fade (c := c) (fun q hq => h q (by simp [hq])) (t := upd t p.1 p.2) fun i => by
    by_cases hi : i = p.1
    · subst hi
      rw [upd_same]
      exact .inr ((h p (by simp)).imp id id)
    · rw [upd_ne _ _ hi]
      exact ht i

theorem chg_last {i : Nat} : ∀ {c : Chg} {t : Tab}, (∃ p ∈ c, p.1 = i) → ∃ q ∈ c, q.1 = i ∧ chg t c i = q.2
  | [], _, h => by
    obtain ⟨_, h, _⟩ := h
    cases h
  | p :: c, t, h => by
    rw [chg_cons]
    by_cases hc : ∃ q ∈ c, q.1 = i
    · obtain ⟨q, h1, h2, h3⟩ := chg_last (t := upd t p.1 p.2) hc
      exact ⟨q, by simp [h1], h2, h3⟩
    · obtain ⟨q, hq, hi⟩ := h
      rcases List.mem_cons.1 hq with rfl | hq
      · refine ⟨q, by simp, hi, ?_⟩
        rw [chg_other fun r hr e => hc ⟨r, hr, e⟩, ← hi, upd_same]
      · exact absurd ⟨q, hq, hi⟩ hc

theorem hidL_of {tab : Tab} : ∀ {l : List AV} {c : Chg}, hidL tab l = some c → HidOf tab c
  | [], c, h => by
    cases h
    intro p hp
    cases hp
  | v :: l, c, h => by
    cases v <;> simp only [hidL] at h <;> try cases h
    · split at h
      · split at h
        · rename_i c1 d h1 h2
          cases h
          intro p hp
          rcases List.mem_append.1 hp with hp | hp
          · exact .inr (frz_of h1 p hp)
          · rcases List.mem_cons.1 hp with rfl | hp
            · exact .inl rfl
            · exact hidL_of h2 p hp
        · cases h
      · cases h
    · split at h
      · rename_i c1 d h1 h2
        cases h
        intro p hp
        rcases List.mem_append.1 hp with hp | hp
        · exact .inr (frz_of h1 p hp)
        · exact hidL_of h2 p hp
      · cases h

/-- What is hidden, or frozen, is read alone from there on. -/
theorem hid_ok (t : TabOk w0 M0 av C) {c : Chg} (hc : HidOf C.tab c) {id : Nat} {p : Pl} {blk : Blk} (e : C.tab id = some blk) (hp : C.io id = some (some p)) (hb : blk.isBor = false) (h : blk.isMut = false ∨ ∃ q ∈ c, q.1 = id) : (C.setT (chg C.tab c)).ok p.b := by
  refine ⟨t.bs id p blk e hp hb, fun i q blk' e1 e2 hm hq => ?_⟩
  change C.io i = _ at e1
  change chg C.tab c i = _ at e2
  have e3 : C.tab i = some blk' := by
    rcases hc.fade (Fade.refl _) i with k | k | ⟨kk, T, xs, k1, k2⟩
    · exact k ▸ e2
    · rw [k] at e2
      cases e2
    · rw [k2] at e2
      cases e2
      cases hm
  obtain rfl := t.inj i id q p blk' blk e3 e e1 hp hq
  rw [e] at e3
  cases e3
  rcases h with h | h
  · rw [h] at hm
    cases hm
  · obtain ⟨q, h1, h2, h3⟩ := chg_last (t := C.tab) h
    rw [h3] at e2
    rcases hc q h1 with h4 | ⟨k, T, xs, _, h4⟩
    · rw [h4] at e2
      cases e2
    · rw [h4] at e2
      cases e2
      cases hm

theorem hid_ok0 {c : Chg} (hc : HidOf C.tab c) {b : Nat} (h : C.ok b) : (C.setT (chg C.tab c)).ok b := by
  rw [ok_iff] at h ⊢
  exact ⟨h.1, fun hm => h.2 ((Turned.fade (hc.fade (Fade.refl _))).mu b hm)⟩

theorem hid_leaves {y : Nat} (t : TabOk w0 M0 av C) {c : Chg} (hc : HidOf C.tab c) {k : Kd} {l l' : List AV} {x : El k} {c1 : Chg} (h1 : frz C.tab l = some c1) (hs : ∀ p ∈ c1, p ∈ c) (hl : ∀ v ∈ l', v ∈ l) (h : (bif l'.all leafB then toElAll k (l'.map (snap C.tab)) else none) = some x) {vs : List Value}
    (hv : RelL C vs l') : RelL (zeroCtx C.w (C.setT (chg C.tab c)).ok y) vs (leavesOf k x) ∧ vs.length = k.sz := by
  cases hb : l'.all leafB with
  | false => rw [hb] at h; cases h
  | true =>
    rw [hb, cond_true] at h
    have hr := leaves_rep t (vw := C.tab) (fun _ _ h => h) (C.setT (chg C.tab c)).ok (fun b ho => hid_ok0 hc ho) h hb (fun v hv' id p hne hid hp => by
      obtain ⟨d, d1, d2⟩ := frz_parts h1 v (hl v hv')
      have key : (match C.tab id with | some (.row true k T xs) => some [(id, some (Blk.fro k T xs))] | some (.fro _ _ _) => some [] | _ => none) = some d := by
        cases v <;> simp [AV.id?] at hid
        · subst hid
          exact d1
        · subst hid
          exact d1
      split at key
      · rename_i k' T xs' e1
        cases key
        exact hid_ok t hc e1 hp rfl (.inr ⟨_, hs _ (d2 _ (List.mem_singleton.2 rfl)), rfl⟩)
      · rename_i k' T xs' e1
        exact hid_ok t hc e1 hp rfl (.inl rfl)
      · cases key) hv
    exact ⟨RepC.leaves (C := zeroCtx C.w (C.setT (chg C.tab c)).ok y) (hr.ext (w' := C.w) (ok' := (zeroCtx C.w (C.setT (chg C.tab c)).ok y).ok) ⟨fun _ _ _ _ h _ => h, fun b _ ho => ⟨ho, fun _ _ _ h => by cases h⟩⟩), hr.length⟩

/-- The captures, as the function that is ranged over has them. -/
theorem hid_args {y : Nat} (t : TabOk w0 M0 av C) {c : Chg} (hc : HidOf C.tab c) : ∀ {ks : List Kd} {xs : List AV} {a : ElPs ks} {d : Chg}, decPs C.tab ks xs = some a → hidL C.tab xs = some d → (∀ p ∈ d, p ∈ c) → ∀ {vs : List Value}, RelL C vs xs →
    RelL (zeroCtx C.w (C.setT (chg C.tab c)).ok y) vs (argPs ks a) := by
  have hz : ∀ {b}, (C.setT (chg C.tab c)).ok b → (zeroCtx C.w (C.setT (chg C.tab c)).ok y).ok b := fun ho => ⟨ho, fun _ _ _ h => by cases h⟩
  have one : ∀ {k : Kd} {x : AV} {a : El k} {l : List AV} {d : Chg}, decP C.tab k x = some a → hidL C.tab (x :: l) = some d → (∀ p ∈ d, p ∈ c) → ∀ {v : Value}, Rel C v x →
      Rel (zeroCtx C.w (C.setT (chg C.tab c)).ok y) v (.iptr (leavesOf k a)) ∧ ∃ d', hidL C.tab l = some d' ∧ ∀ p ∈ d', p ∈ c := by
    intro k x a l d h hd hs v hv
    cases x <;> try cases h
    case ptr id off =>
      simp only [decP] at h
      simp only [hidL] at hd
      cases hv with
      | ptr hp =>
        obtain ⟨_, ad, rfl, hb⟩ := hp
        split at h
        · rename_i T vs e
          rw [e] at hd
          simp only [] at hd
          split at hd
          · rename_i c1 d' h1 h2
            cases hd
            obtain ⟨T', l', p, e1, e2, e3, rfl⟩ := hb _ e
            cases e1
            obtain ⟨q, hq, ⟨p', hp', _, cs, hh, hrel⟩⟩ := t.bl id _ e
            rw [e2] at hq
            cases hq
            cases hp'
            obtain ⟨k1, k2⟩ := hid_leaves (y := y) t hc h1 (fun p hp => hs p (by simp [hp])) (fun v hv => (List.mem_of_mem_drop (List.mem_of_mem_take hv))) h ((hrel.drop off).take k.sz)
            refine ⟨.iptr (a := ⟨p.b, off, none⟩) rfl (hz (hid_ok t hc e e2 rfl (.inr ⟨(id, none), hs _ (by simp), rfl⟩))) hh ?_, d', h2, fun p hp => hs p (by simp [hp])⟩
            rw [leavesOf_len]
            exact k1
          · cases hd
        · cases h
    case iptr vs =>
      simp only [decP] at h
      simp only [hidL] at hd
      split at hd
      · rename_i c1 d' h1 h2
        cases hd
        cases hv with
        | iptr hs' ho hh hrel =>
          obtain ⟨k1, k2⟩ := hid_leaves (y := y) t hc h1 (fun p hp => hs p (by simp [hp])) (fun v hv => List.mem_of_mem_take hv) h (hrel.take k.sz)
          refine ⟨.iptr hs' (hz (hid_ok0 hc ho)) hh ?_, d', h2, fun p hp => hs p (by simp [hp])⟩
          rw [leavesOf_len]
          rw [List.take_take] at k1 k2
          have : min k.sz vs.length = k.sz := by
            rw [List.length_take] at k2
            omega
          rw [this] at k1
          exact k1
      · cases hd
  intro ks
  induction ks with
  | nil =>
    intro xs a d h _ _ vs hv
    cases xs with
    | nil =>
      cases hv
      exact .nil
    | cons x xs => cases h
  | cons k ks ih =>
    intro xs a d h hd hs vs hv
    cases ks with
    | nil =>
      cases xs with
      | nil => cases h
      | cons x xs =>
        cases xs with
        | nil =>
          cases hv with
          | cons hv t' =>
            cases t'
            exact .cons (one h hd hs hv).1 .nil
        | cons z xs => cases h
    | cons k2 ks =>
      cases xs with
      | nil => cases h
      | cons x xs =>
        cases hv with
        | cons hv t' =>
          simp only [decPs] at h
          split at h
          · rename_i x1 h1
            split at h
            · rename_i y1 h2
              cases h
              obtain ⟨k1, d', k2, k3⟩ := one h1 hd hs hv
              exact .cons k1 (ih h2 k2 k3 t')
            · cases h
          · cases h

end
end Go.Proofs.Ytmjbjlhjpdebjaa.Mini
