/- A small machine over plain data: what comes back of a call. -/
import Derived.Test.YtmjbjlhjpdebjaaXMD
namespace Go.Proofs.Ytmjbjlhjpdebjaa.Mini
open Go Go.RowKit

/-! ### Values without rows that are read -/
def noRow0 : AV → Bool
  | .row _ _ | .iptr _ | .agg _ | .tup _ | .fn _ _ => false
  | _ => true
def noRow1 : AV → Bool
  | .agg l => l.all noRow0
  | v => noRow0 v
def noRow2 : AV → Bool
  | .tup l => l.all noRow1
  | v => noRow1 v

def Ctx.setB (C : Ctx) (B : Nat → Prop) : Ctx := { C with base := B }

theorem Rel.setB0 {C : Ctx} {B : Nat → Prop} {v : Value} {x : AV} (h : Rel C v x) (hn : noRow0 x = true) : Rel (C.setB B) v x := by
  cases h with
  | undef => exact .undef
  | int => exact .int
  | bool => exact .bool
  | str => exact .str
  | row => cases hn
  | nils => exact .nils
  | own h => exact .own h
  | sl h => exact .sl h
  | ptr h => exact .ptr h
  | eptr h => exact .eptr h
  | iptr => cases hn
  | nilp => exact .nilp
  | agg => cases hn
  | tup => cases hn
  | fn => cases hn
  | yld => cases hn

theorem RelL.setB0 {C : Ctx} {B : Nat → Prop} : ∀ {vs : List Value} {l : List AV}, RelL C vs l → l.all noRow0 = true → RelL (C.setB B) vs l
  | _, _, .nil, _ => .nil
  | _, _, .cons h t, hn => by
    simp only [List.all_cons, Bool.and_eq_true] at hn
    exact .cons (h.setB0 hn.1) (t.setB0 hn.2)

theorem Rel.setB1 {C : Ctx} {B : Nat → Prop} {v : Value} {x : AV} (h : Rel C v x) (hn : noRow1 x = true) : Rel (C.setB B) v x := by
  cases x with
  | agg l =>
    cases h with
    | agg h => exact .agg (h.setB0 hn)
  | _ => exact h.setB0 hn

theorem RelL.setB1 {C : Ctx} {B : Nat → Prop} : ∀ {vs : List Value} {l : List AV}, RelL C vs l → l.all noRow1 = true → RelL (C.setB B) vs l
  | _, _, .nil, _ => .nil
  | _, _, .cons h t, hn => by
    simp only [List.all_cons, Bool.and_eq_true] at hn
    exact .cons (h.setB1 hn.1) (t.setB1 hn.2)

theorem Rel.setB2 {C : Ctx} {B : Nat → Prop} {v : Value} {x : AV} (h : Rel C v x) (hn : noRow2 x = true) : Rel (C.setB B) v x := by
  cases x with
  | tup l =>
    cases h with
    | tup h => exact .tup (h.setB1 hn)
  | _ => exact h.setB1 hn

theorem leaves_noRow : ∀ {k : Kd} (x : El k), k.mem = false → (leavesOf k x).all noRow0 = true
  | .int _, _, _ => rfl
  | .bool, _, _ => rfl
  | .str, _, _ => rfl
  | .unit, _, _ => rfl
  | .pair a b, x, h => by
    simp only [Kd.mem, Bool.or_eq_false_iff] at h
    simp only [leavesOf, List.all_append, leaves_noRow x.1 h.1, leaves_noRow x.2 h.2, Bool.and_true]
  | .row _, _, h => by cases h

/-- Blocks without rows inside. -/
def flatC (c : Chg) : Prop := ∀ p ∈ c, ∃ k T xs, p.2 = some (.row true k T xs) ∧ k.mem = false

theorem headD_all {l : List AV} {d : AV} {f : AV → Bool} (h : l.all f = true) (hd : f d = true) : f (l.headD d) = true := by
  cases l with
  | nil => exact hd
  | cons x l =>
    simp only [List.all_cons, Bool.and_eq_true] at h
    exact h.1

theorem encL_noRow (n : Nat) (l : LSh) (x : ElL l) (h : l.alias = false) : noRow0 (encL n l x).1 = true ∧ flatC (encL n l x).2 := by
  cases l with
  | val k => exact ⟨headD_all (leaves_noRow x h) rfl, fun p hp => by cases hp⟩
  | own k T => exact ⟨rfl, fun p hp => by simp [encL] at hp; subst hp; exact ⟨k, T, x, rfl, h⟩⟩

theorem flatC_app {a b : Chg} (h : flatC a) (k : flatC b) : flatC (a ++ b) := fun p hp => (List.mem_append.1 hp).elim (h p) (k p)

theorem encLs_noRow : ∀ (n : Nat) (ls : List LSh) (x : ElLs ls), ls.any LSh.alias = false → (encLs n ls x).1.all noRow0 = true ∧ flatC (encLs n ls x).2
  | _, [], _, _ => ⟨rfl, fun p hp => by cases hp⟩
  | n, [a], x, h => by
    simp only [List.any_cons, List.any_nil, Bool.or_false] at h
    obtain ⟨h1, h2⟩ := encL_noRow n a x h
    exact ⟨by simp [encLs, h1], h2⟩
  | n, a :: b :: l, x, h => by
    rw [List.any_cons, Bool.or_eq_false_iff] at h
    obtain ⟨h1, h2⟩ := encL_noRow n a x.1 h.1
    obtain ⟨h3, h4⟩ := encLs_noRow (n + a.ids) (b :: l) x.2 h.2
    exact ⟨by simp only [encLs, List.all_cons, h1, h3, Bool.and_true], flatC_app h2 h4⟩

theorem encS_noRow (n : Nat) (s : Sh) (x : ElS s) (h : s.alias = false) : noRow1 (encS n s x).1 = true ∧ flatC (encS n s x).2 := by
  cases s with
  | leaf l =>
    obtain ⟨h1, h2⟩ := encL_noRow n l x h
    refine ⟨?_, h2⟩
    show noRow1 (encL n l x).1 = true
    generalize (encL n l x).1 = y at h1
    cases y <;> first | exact h1 | cases h1
  | st k => exact ⟨leaves_noRow x h, fun p hp => by cases hp⟩
  | agg ls => exact encLs_noRow n ls x h
  | ptr k => cases h
  | fn f ks => cases h

theorem encSs_noRow : ∀ (n : Nat) (rs : List Sh) (x : ElSs rs), rs.any Sh.alias = false → (encSs n rs x).1.all noRow1 = true ∧ flatC (encSs n rs x).2
  | _, [], _, _ => ⟨rfl, fun p hp => by cases hp⟩
  | n, [a], x, h => by
    simp only [List.any_cons, List.any_nil, Bool.or_false] at h
    obtain ⟨h1, h2⟩ := encS_noRow n a x h
    exact ⟨by simp [encSs, h1], h2⟩
  | n, a :: b :: l, x, h => by
    rw [List.any_cons, Bool.or_eq_false_iff] at h
    obtain ⟨h1, h2⟩ := encS_noRow n a x.1 h.1
    obtain ⟨h3, h4⟩ := encSs_noRow (n + a.ids) (b :: l) x.2 h.2
    exact ⟨by simp only [encSs, List.all_cons, h1, h3, Bool.and_true], flatC_app h2 h4⟩

theorem oneOf_noRow {l : List AV} (h : l.all noRow1 = true) : noRow2 (oneOf l) = true := by
  unfold oneOf
  split
  · rename_i v
    simp only [List.all_cons, List.all_nil, Bool.and_true] at h
    cases v <;> first | exact h | cases h
  · exact h

/-! ### The blocks of what is told -/
/-- The keys lie from n on, below m. -/
def KeysIn (c : Chg) (n m : Nat) : Prop := ∀ p ∈ c, n ≤ p.1 ∧ p.1 < m ∧ ∃ k T xs, p.2 = some (.row true k T xs)

theorem KeysIn.mono {c : Chg} {n m n' m' : Nat} (h : KeysIn c n m) (h1 : n' ≤ n) (h2 : m ≤ m') : KeysIn c n' m' := fun p hp => by
  obtain ⟨a, b, d⟩ := h p hp
  exact ⟨by omega, by omega, d⟩

theorem KeysIn.app {c d : Chg} {n m : Nat} (h : KeysIn c n m) (k : KeysIn d n m) : KeysIn (c ++ d) n m := fun p hp => (List.mem_append.1 hp).elim (h p) (k p)

theorem encL_keys (n : Nat) (l : LSh) (x : ElL l) : KeysIn (encL n l x).2 n (n + l.ids) := by
  cases l with
  | val k => exact fun p hp => by cases hp
  | own k T => exact fun p hp => by simp [encL] at hp; subst hp; exact ⟨Nat.le_refl _, Nat.lt_succ_self _, k, T, x, rfl⟩

theorem encLs_keys : ∀ (n : Nat) (ls : List LSh) (x : ElLs ls), KeysIn (encLs n ls x).2 n (n + (ls.map LSh.ids).sum)
  | _, [], _ => fun p hp => by cases hp
  | n, [a], x => (encL_keys n a x).mono (Nat.le_refl _) (by simp)
  | n, a :: b :: l, x => by
    have h := encLs_keys (n + a.ids) (b :: l) x.2
    rw [List.map_cons, List.sum_cons]
    exact ((encL_keys n a x.1).mono (Nat.le_refl _) (by omega)).app (h.mono (by omega) (by omega))

theorem encS_keys (n : Nat) (s : Sh) (x : ElS s) : KeysIn (encS n s x).2 n (n + s.ids) := by
  cases s with
  | leaf l => exact encL_keys n l x
  | st k => exact fun p hp => by cases hp
  | agg ls => exact encLs_keys n ls x
  | ptr k => exact fun p hp => by cases hp
  | fn f ks => exact fun p hp => by cases hp

theorem encSs_keys : ∀ (n : Nat) (rs : List Sh) (x : ElSs rs), KeysIn (encSs n rs x).2 n (n + (rs.map Sh.ids).sum)
  | _, [], _ => fun p hp => by cases hp
  | n, [a], x => (encS_keys n a x).mono (Nat.le_refl _) (by simp)
  | n, a :: b :: l, x => by
    have h := encSs_keys (n + a.ids) (b :: l) x.2
    rw [List.map_cons, List.sum_cons]
    exact ((encS_keys n a x.1).mono (Nat.le_refl _) (by omega)).app (h.mono (by omega) (by omega))

theorem chg_two {c : Chg} {i : Nat} : ∀ {t t' : Tab}, t i = t' i → chg t c i = chg t' c i := by
  induction c with
  | nil => intro t t' h; exact h
  | cons p c ih =>
    intro t t' h
    refine ih ?_
    show upd t p.1 p.2 i = upd t' p.1 p.2 i
    by_cases hi : i = p.1
    · subst hi
      rw [upd_same, upd_same]
    · rw [upd_ne _ _ hi, upd_ne _ _ hi]
      exact h

theorem chg_some {c : Chg} {i : Nat} {b : Blk} : ∀ {t : Tab}, t i = none → chg t c i = some b → ∃ p ∈ c, p.1 = i ∧ p.2 = some b := by
  induction c with
  | nil => intro t h1 h2; rw [chg_nil, h1] at h2; cases h2
  | cons p c ih =>
    intro t h1 h2
    rw [chg_cons] at h2
    by_cases hi : i = p.1
    · by_cases hc : ∃ q ∈ c, q.1 = i
      · cases hp2 : p.2 with
        | none =>
          obtain ⟨q, hq, h3, h4⟩ := ih (by rw [hi, upd_same, hp2]) h2
          exact ⟨q, by simp [hq], h3, h4⟩
        | some b' =>
          have h5 : chg (upd t p.1 p.2) c i = chg t c i := by
            obtain ⟨q, hq, hqi⟩ := hc
            clear ih h2
            have : ∀ {c : Chg} {t t' : Tab}, (∃ q ∈ c, q.1 = i) → chg t c i = chg t' c i := by
              intro c
              induction c with
              | nil => intro t t' ⟨q, hq, _⟩; cases hq
              | cons r c ih =>
                intro t t' ⟨q, hq, hqi⟩
                rw [chg_cons, chg_cons]
                by_cases hri : i = r.1
                · exact chg_two (by rw [hri, upd_same, upd_same])
                · rcases List.mem_cons.1 hq with rfl | hq
                  · exact absurd hqi.symm hri
                  · exact ih ⟨q, hq, hqi⟩
            exact this ⟨q, hq, hqi⟩
          rw [h5] at h2
          obtain ⟨q, hq, h3, h4⟩ := ih h1 h2
          exact ⟨q, by simp [hq], h3, h4⟩
      · rw [chg_other (fun q hq e => hc ⟨q, hq, e⟩), hi, upd_same] at h2
        exact ⟨p, by simp, hi.symm, h2⟩
    · obtain ⟨q, hq, h3, h4⟩ := ih (by rw [upd_ne _ _ hi]; exact h1) h2
      exact ⟨q, by simp [hq], h3, h4⟩

section
variable {P : Program} {w0 : Start} {M0 av : Nat → Prop} {fresh : Nat} {C : Ctx} {out : Out}

theorem TabOk.setB {w : World} {B B' : Nat → Prop} {av : Nat → Prop} {C' : Ctx} (t : TabOk ⟨w, B⟩ none' av C') (hB : ∀ b, w.heap.size ≤ b → B' b)
    (hf : ∀ id blk, C'.tab id = some blk → ∃ k T xs, blk = .row true k T xs ∧ k.mem = false) : TabOk ⟨w, B'⟩ none' av (C'.setB B') := by
  refine ⟨fun id blk e => ?_, t.inj, t.mb, t.av, t.fr, fun id p blk e hp _ => ?_, hB, rfl⟩
  · obtain ⟨p, hp, hr⟩ := t.bl id blk e
    obtain ⟨k, T, xs, rfl, hm⟩ := hf id blk e
    refine ⟨p, hp, ?_⟩
    rcases hr with hr | ⟨q, hq, cs, hh, hx⟩
    · exact .inl hr
    · exact .inr ⟨q, hq, cs, hh, fun j x hj => ⟨(hx j x hj).1, (hx j x hj).2.nomem hm⟩⟩
  · obtain ⟨k, T, xs, rfl, hm⟩ := hf id blk e
    exact (t.mb id p _ e hp rfl).elim (hB _) False.elim

/-! ### Back at the caller -/
def Ctx.join (C1 C' : Ctx) (fresh : Nat) (ch : Chg) : Ctx :=
  { w := C'.w, io := fun i => if fresh ≤ i ∧ i < fresh + room then C'.io i else C1.io i, tab := chg C1.tab ch, base := C1.base, yl := C1.yl }

theorem join_facts {C1 C' : Ctx} {ch : Chg} (t1 : TabOk w0 M0 av C1) (hav : ∀ c, c < room → av (fresh + c)) (hk : KeysIn ch fresh (fresh + room)) (ht : C'.tab = chg (fun _ => none) ch) (i : Nat) :
    ((fresh ≤ i ∧ i < fresh + room) ∧ (C1.join C' fresh ch).tab i = C'.tab i ∧ (C1.join C' fresh ch).io i = C'.io i ∧ C1.tab i = none ∧ C1.io i = none) ∨
    (¬ (fresh ≤ i ∧ i < fresh + room) ∧ (C1.join C' fresh ch).tab i = C1.tab i ∧ (C1.join C' fresh ch).io i = C1.io i ∧ C'.tab i = none) := by
  by_cases h : fresh ≤ i ∧ i < fresh + room
  · have hio : C1.io i = none := by
      have := t1.av _ (hav (i - fresh) (by omega))
      rwa [show fresh + (i - fresh) = i by omega] at this
    have htn := t1.tab_none hio
    refine .inl ⟨h, ?_, if_pos h, htn, hio⟩
    rw [ht]
    exact chg_two htn
  · have hno : ∀ p ∈ ch, p.1 ≠ i := fun p hp e => by
      obtain ⟨a, b, _⟩ := hk p hp
      exact h (by omega)
    refine .inr ⟨h, chg_other hno, if_neg h, ?_⟩
    rw [ht]
    exact chg_other hno

theorem join_ok {C1 C' : Ctx} {ch : Chg} {B : Nat → Prop} (t1 : TabOk w0 M0 av C1) (hav : ∀ c, c < room → av (fresh + c)) (hk : KeysIn ch fresh (fresh + room)) (ht : C'.tab = chg (fun _ => none) ch)
    (t' : TabOk ⟨C1.w, B⟩ none' (fun i => ¬ (fresh ≤ i ∧ i < fresh + room)) C') (hB : ∀ b, B b → C1.ok b ∨ C1.w.heap.size ≤ b) (hyl : C'.yl = C1.yl) :
    Ext C1 (C1.join C' fresh ch) ∧ Ext C' (C1.join C' fresh ch) ∧ TabOk w0 M0 (fun i => av i ∧ ¬ (fresh ≤ i ∧ i < fresh + room)) (C1.join C' fresh ch) := by
  have jf := join_facts (C' := C') t1 hav hk ht
  have hnew : ∀ i p blk, C'.tab i = some blk → C'.io i = some (some p) → C1.w.heap.size ≤ p.b := fun i p blk e hp => by
    have hm : blk.isMut = true := by
      rw [ht] at e
      obtain ⟨q, hq, _, h4⟩ := chg_some rfl e
      obtain ⟨_, _, k, T, xs, h5⟩ := hk q hq
      rw [h4] at h5
      cases h5
      rfl
    exact (t'.mb i p blk e hp hm).elim id False.elim
  have hheap : ∀ b, b < C1.w.heap.size → C'.w.heap[b]? = C1.w.heap[b]? := fun b hb => t'.fr.blk b hb (fun h => h)
  have x1 : Ext C1 (C1.join C' fresh ch) := by
    refine ExtH.ext ⟨fun i p e => ?_, fun i blk' hne e => ?_, fun b cs T fr e _ => ⟨cs, fr, ?_, rfl, fun _ => ⟨rfl, rfl⟩⟩, fun b hb ho => ⟨ho.1, fun i p blk' e1 e2 hm => ?_⟩, t'.fr.size⟩ rfl
    · rcases jf i with ⟨_, _, _, _, h4⟩ | ⟨_, _, h3, _⟩
      · rw [h4] at e
        cases e
      · rw [h3]
        exact e
    · rcases jf i with ⟨_, _, _, _, h4⟩ | ⟨_, h2, _, _⟩
      · exact absurd h4 hne
      · rw [h2] at e
        exact ⟨blk', e, Compat.refl _⟩
    · exact (hheap b (heap_lt e)).trans e
    · rcases jf i with ⟨_, h2, h3, _, _⟩ | ⟨_, h2, h3, _⟩
      · rw [h3] at e1
        rw [h2] at e2
        have := hnew i p blk' e2 e1
        omega
      · rw [h3] at e1
        rw [h2] at e2
        exact ho.2 i p blk' e1 e2 hm
  have x2 : Ext C' (C1.join C' fresh ch) := by
    refine ExtH.ext ⟨fun i p e => ?_, fun i blk' hne e => ?_, fun b cs T fr e _ => ⟨cs, fr, e, rfl, fun _ => ⟨rfl, rfl⟩⟩, fun b hb ho => ?_, Nat.le_refl _⟩ hyl.symm
    · rcases jf i with ⟨_, _, h3, _, _⟩ | ⟨h1, _, _, _⟩
      · rw [h3]
        exact e
      · rw [t'.av i h1] at e
        cases e
    · rcases jf i with ⟨_, h2, _, _, _⟩ | ⟨h1, _, _, _⟩
      · rw [h2] at e
        exact ⟨blk', e, Compat.refl _⟩
      · exact absurd (t'.av i h1) hne
    · have hb1 := hB b (by have := ho.1; rw [t'.bq] at this; exact this)
      refine ⟨?_, fun i p blk' e1 e2 hm => ?_⟩
      · rcases hb1 with h | h
        · exact h.1
        · exact t1.bf b (Nat.le_trans t1.fr.size h)
      · rcases jf i with ⟨_, h2, h3, _, _⟩ | ⟨_, h2, h3, _⟩
        · rw [h3] at e1
          rw [h2] at e2
          exact ho.2 i p blk' e1 e2 hm
        · rw [h3] at e1
          rw [h2] at e2
          rcases hb1 with h | h
          · exact h.2 i p blk' e1 e2 hm
          · have := t1.blk_lt e2 e1
            omega
  refine ⟨x1, x2, ⟨fun i blk e => ?_, fun i i' p p' b b' e e' h h' hp => ?_, fun i p blk e hp hm => ?_, fun i ⟨ha, hn⟩ => ?_, ?_, fun i p blk e hp hb => ?_, t1.bf, t1.bq⟩⟩
  · rcases jf i with ⟨_, h2, h3, _, _⟩ | ⟨_, h2, h3, _⟩
    · rw [h2] at e
      obtain ⟨p, hp, hr⟩ := t'.bl i blk e
      exact ⟨p, h3.trans hp, hr.ext x2 fun q _ => rfl⟩
    · rw [h2] at e
      obtain ⟨p, hp, hr⟩ := t1.bl i blk e
      refine ⟨p, h3.trans hp, hr.ext x1 fun q hq => ?_⟩
      subst hq
      exact hheap _ (t1.blk_lt e hp)
  · rcases jf i with ⟨_, h2, h3, _, _⟩ | ⟨_, h2, h3, _⟩ <;> rcases jf i' with ⟨_, k2, k3, _, _⟩ | ⟨_, k2, k3, _⟩
    · rw [h2] at e
      rw [k2] at e'
      rw [h3] at h
      rw [k3] at h'
      exact t'.inj i i' p p' b b' e e' h h' hp
    · rw [h2] at e
      rw [k2] at e'
      rw [h3] at h
      rw [k3] at h'
      have := hnew i p b e h
      have := t1.blk_lt e' h'
      omega
    · rw [h2] at e
      rw [k2] at e'
      rw [h3] at h
      rw [k3] at h'
      have := hnew i' p' b' e' h'
      have := t1.blk_lt e h
      omega
    · rw [h2] at e
      rw [k2] at e'
      rw [h3] at h
      rw [k3] at h'
      exact t1.inj i i' p p' b b' e e' h h' hp
  · rcases jf i with ⟨_, h2, h3, _, _⟩ | ⟨_, h2, h3, _⟩
    · rw [h2] at e
      rw [h3] at hp
      exact .inl (Nat.le_trans t1.fr.size (hnew i p blk e hp))
    · rw [h2] at e
      rw [h3] at hp
      exact t1.mb i p blk e hp hm
  · rcases jf i with ⟨h1, _, _, _, _⟩ | ⟨_, _, h3, _⟩
    · exact absurd h1 hn
    · rw [h3]
      exact t1.av i ha
  · exact t1.fr.trans (N := none') ⟨t'.fr.os, t'.fr.tape, t'.fr.output, t'.fr.size, t'.fr.blk⟩ fun _ _ h => h.elim
  · rcases jf i with ⟨_, h2, h3, _, _⟩ | ⟨_, h2, h3, _⟩
    · rw [h2] at e
      rw [h3] at hp
      exact t1.bf _ (Nat.le_trans t1.fr.size (hnew i p blk e hp))
    · rw [h2] at e
      rw [h3] at hp
      exact t1.bs i p blk e hp hb

/-- A call whose doing is known, taken by its caller. -/
theorem callV_calls (t : TabOk w0 M0 av C) (hav : ∀ c, c < room → av (fresh + c)) {vw : Tab} (hsub : Sub vw C.tab) {k : Nat} {g : FuncId} {s : Spec} (hcon : Contract P k g s) {xs : List AV} {vs : Array Value} {e : Eff}
    (h : callV k s xs vw fresh = some e) (hr : e.Res out) (hx : RelL C vs.toList xs) :
    Calls P g vs C.w fun e w' => ∃ v C', e = .returned v ∧ C'.w = w' ∧ C'.tab = chg C.tab out.ch ∧ Ext C C' ∧ TabOk w0 M0 (fun i => av i ∧ ¬ (fresh ≤ i ∧ i < fresh + room)) C' ∧ Rel C' v out.v := by
  unfold callV at h
  split at h
  · rename_i a c ha hc
    cases hroom : Nat.ble ((s.rs.map Sh.ids).sum) room with
    | false => rw [hroom] at h; cases h
    | true =>
      rw [hroom] at h
      simp only [cond_true] at h
      cases h
      cases hr with
      | bind hf =>
      rename_i r
      have hkeys := (encSs_keys fresh s.rs r).mono (Nat.le_refl _) (Nat.add_le_add_left (Nat.le_of_ble_eq_true hroom) fresh)
      cases hal : s.alias with
      | true =>
        rw [hal] at hc
        simp only [cond_true] at hc
        have hpr : s.ps.any Sh.refs = false := by
          cases hq : s.ps.any Sh.refs with
          | false => rfl
          | true => rw [hq] at hc; cases hc
        rw [hpr] at hc
        simp only [cond_false] at hc
        have hfo := (frz_of hc).sub hsub
        have hfade : Fade C.tab (chg C.tab c) := hfo.fade (Fade.refl _) fun _ _ => .inl rfl
        have t1 := t.fade hfade
        have x1 := hfade.ext
        have hargs := args_rel (yl := C.yl) t hsub (fun b => (C.setT (chg C.tab c)).ok b ∨ C.w.heap.size ≤ b) (fun b hb => ?_) (.inl hpr) ha (fun y hy id p _ hid hp => ?_) hx
        · refine (hcon a r hf C.w (fun b => (C.setT (chg C.tab c)).ok b ∨ C.w.heap.size ≤ b) C.yl vs fresh (fun b hb => .inr hb) hargs).mono ?_
          rintro e w' ⟨v, C', rfl, rfl, ht, hyl, t', hv⟩
          obtain ⟨y1, y2, y3⟩ := join_ok (C1 := C.setT (chg C.tab c)) t1 hav hkeys ht t' (fun b hb => hb) hyl
          refine ⟨v, (C.setT (chg C.tab c)).join C' fresh (encSs fresh s.rs r).2, rfl, rfl, ?_, x1.trans y1, y3, hv.ext y2⟩
          show chg (chg C.tab c) _ = _
          rw [chg_app]
        · by_cases hlt : b < C.w.heap.size
          · exact .inl (x1.ok b hlt hb)
          · exact .inr (by omega)
        · obtain ⟨d, d1, d2⟩ := frz_parts hc y hy
          refine .inl ?_
          have key : (match vw id with | some (.row true k T xs) => some [(id, some (Blk.fro k T xs))] | some (.fro _ _ _) => some [] | _ => none) = some d := by
            cases y <;> simp [AV.id?] at hid
            · subst hid
              exact d1
            · subst hid
              exact d1
          split at key
          · rename_i k' T xs' e1
            cases key
            have e2 : (C.setT (chg C.tab c)).tab id = some (.fro k' T xs') := chg_get_of hfo (d2 _ (List.mem_singleton.2 rfl))
            exact RowAt.ok_of t1 e2 rfl hp
          · rename_i k' T xs' e1
            have e1' := hsub _ _ e1
            rcases hfade id with e2 | e2 | ⟨k2, T2, xs2, e2, e3⟩
            · exact RowAt.ok_of t1 (e2.trans e1') rfl hp
            · exact x1.ok _ (t.blk_lt e1' hp) (RowAt.ok_of t e1' rfl hp)
            · rw [e1'] at e2
              cases e2
          · cases key
      | false =>
        rw [hal] at hc
        simp only [cond_false] at hc
        cases hc
        have hargs := args_rel (yl := C.yl) t hsub (fun _ => True) (fun _ _ => trivial) (.inr fun _ => trivial) ha (fun _ _ _ _ _ _ _ => trivial) hx
        refine (hcon a r hf C.w (fun _ => True) C.yl vs fresh (fun _ _ => trivial) hargs).mono ?_
        rintro e w' ⟨v, C', rfl, rfl, ht, hyl, t', hv⟩
        obtain ⟨n1, n2⟩ := encSs_noRow fresh s.rs r hal
        have t2 := t'.setB (B' := fun b => C.ok b ∨ C.w.heap.size ≤ b) (fun b hb => .inr hb) fun id blk e => by
          rw [ht] at e
          obtain ⟨q, hq, _, h4⟩ := chg_some rfl e
          obtain ⟨k', T, xs', h5, h6⟩ := n2 q hq
          rw [h4] at h5
          cases h5
          exact ⟨k', T, xs', rfl, h6⟩
        obtain ⟨y1, y2, y3⟩ := join_ok (C' := C'.setB fun b => C.ok b ∨ C.w.heap.size ≤ b) t hav hkeys ht t2 (fun b hb => hb) hyl
        exact ⟨v, C.join (C'.setB fun b => C.ok b ∨ C.w.heap.size ≤ b) fresh (encSs fresh s.rs r).2, rfl, rfl, rfl, y1, y3, (hv.setB2 (oneOf_noRow n1)).ext y2⟩
  · cases h

end

/-! ### Calls that write into a row -/
/-- Where such a call begins. -/
def startB (w : World) (s : BSpec) (p : Option Pl) (xs : List (El s.k)) : Ctx := { w := w, io := upd (fun _ => none) 0 (some p), tab := tabB s.k s.T xs, base := fun _ => True, yl := 0 }

def m0Of (p : Option Pl) (b : Nat) : Prop := ∃ q, p = some q ∧ q.b = b

/-- What such a call is known to do: the row is what the plain function tells; nothing else that was there is turned. -/
def ContractB (P : Program) (k : Nat) (g : FuncId) (s : BSpec) : Prop :=
  ∀ xs off len a zs, s.f k xs off len a = some zs → ∀ (w : World) (p : Option Pl) (vs : Array Value), RowAt (startB w s p xs) s.k s.T xs p → RelL (startB w s p xs) vs.toList (.sl 0 off len :: argSs s.ps a) →
    Calls P g vs w fun e w' => ∃ v C', e = .returned v ∧ C'.w = w' ∧ C'.tab 0 = some (.row false s.k s.T zs) ∧ TabOk ⟨w, fun _ => True⟩ (m0Of p) (fun _ => False) C' ∧ Ext (startB w s p xs) C' ∧ Rel C' v (.tup [])

theorem startB_io {w : World} {s : BSpec} {p : Option Pl} {xs : List (El s.k)} {i : Nat} {q : Option Pl} (h : (startB w s p xs).io i = some q) : i = 0 ∧ p = q := by
  change upd (fun _ => none) 0 (some p) i = some q at h
  by_cases hi : i = 0
  · subst hi
    rw [upd_same] at h
    cases h
    exact ⟨rfl, rfl⟩
  · rw [upd_ne _ _ hi] at h
    cases h

theorem startB_at {w : World} {s : BSpec} {p : Option Pl} {xs : List (El s.k)} : (startB w s p xs).io 0 = some p := by
  show upd (fun _ => none) 0 (some p) 0 = some p
  rw [upd_same]

theorem borAt_rel {C : Ctx} {v : Value} {x : AV} {id off : Nat} {len : Option Nat} (h : borAt x = some (id, off, len)) (hv : Rel C v x) : SlRel C v id off len := by
  cases x <;> simp only [borAt, Option.some.injEq, Prod.mk.injEq, reduceCtorEq] at h
  · obtain ⟨rfl, rfl, rfl⟩ := h
    cases hv with
    | own hv => exact hv
  · obtain ⟨rfl, rfl, rfl⟩ := h
    cases hv with
    | sl hv => exact hv

theorem idsOf_mem {l : List AV} {y : AV} {id : Nat} (h : y ∈ l.flatMap AV.leaves) (hid : y.id? = some id) : (idsOf l).any (Nat.beq id) = true := by
  obtain ⟨x, hx, hy⟩ := List.mem_flatMap.1 h
  exact List.any_eq_true.2 ⟨id, List.mem_flatMap.2 ⟨x, hx, List.mem_filterMap.2 ⟨y, hy, hid⟩⟩, Nat.beq_refl id⟩

section
variable {P : Program} {w0 : Start} {M0 av : Nat → Prop} {C : Ctx} {out : Out}

def Ctx.joinB (C C' : Ctx) (id : Nat) (blk : Blk) : Ctx := { w := C'.w, io := C.io, tab := upd C.tab id (some blk), base := C.base, yl := C.yl }

theorem joinB_ok (t : TabOk w0 M0 av C) {s : BSpec} {o : Bool} {p : Option Pl} {id : Nat} {xs zs : List (El s.k)} (e : C.tab id = some (.row o s.k s.T xs)) (hp : C.io id = some p) (hm : s.k.mem = false) {C' : Ctx}
    (htab : C'.tab 0 = some (.row false s.k s.T zs)) (t' : TabOk ⟨C.w, fun _ => True⟩ (m0Of p) (fun _ => False) C') (x : Ext (startB C.w s p xs) C') :
    Ext C (C.joinB C' id (.row o s.k s.T zs)) ∧ TabOk w0 M0 av (C.joinB C' id (.row o s.k s.T zs)) := by
  have hlen : xs.length = zs.length := by
    obtain ⟨blk, hb, hc⟩ := x.tab 0 _ (by rw [startB_at]; simp) htab
    cases hb
    obtain ⟨ys, hy, hl⟩ := hc
    cases hy
    exact hl
  have hcomp : Compat (.row o s.k s.T xs) (.row o s.k s.T zs) := ⟨xs, rfl, hlen⟩
  have hmut : ∀ b, C.ok b → (startB C.w s p xs).ok b := fun b ho => ⟨trivial, fun i q blk e1 _ _ => by
    obtain ⟨_, rfl⟩ := startB_io e1
    exact ho.2 id q _ hp e rfl⟩
  have x1 : Ext C (C.joinB C' id (.row o s.k s.T zs)) := by
    refine ExtH.ext ⟨fun i q e1 => e1, fun i blk' hne e1 => ?_, fun b cs T fr e1 _ => ?_, fun b hb ho => ⟨ho.1, fun i q blk' e1 e2 hm' => ?_⟩, x.size⟩ rfl
    · change upd C.tab id _ i = _ at e1
      by_cases h : i = id
      · subst h
        rw [upd_same] at e1
        cases e1
        exact ⟨_, e, hcomp⟩
      · rw [upd_ne _ _ h] at e1
        exact ⟨blk', e1, Compat.refl _⟩
    · by_cases hm0 : m0Of p b
      · obtain ⟨q, rfl, rfl⟩ := hm0
        obtain ⟨cs', fr', h1, h2⟩ := x.liv 0 q _ startB_at htab cs T fr e1
        exact ⟨cs', fr', h1, h2, fun ho => absurd rfl (ho.2 id q _ hp e rfl)⟩
      · exact ⟨cs, fr, (t'.fr.blk b (heap_lt e1) hm0).trans e1, rfl, fun _ => ⟨rfl, rfl⟩⟩
    · change upd C.tab id _ i = _ at e2
      by_cases h : i = id
      · subst h
        exact ho.2 i q _ e1 e rfl
      · rw [upd_ne _ _ h] at e2
        exact ho.2 i q blk' e1 e2 hm'
  refine ⟨x1, ⟨fun i b e1 => ?_, fun i i' q q' b b' e1 e2 h h' hq => ?_, fun i q b e1 h hm' => ?_, t.av, ?_, fun i q b e1 h hm' => ?_, t.bf, t.bq⟩⟩
  · change upd C.tab id _ i = _ at e1
    by_cases h : i = id
    · subst h
      rw [upd_same] at e1
      cases e1
      obtain ⟨p', hp', hr⟩ := t'.bl 0 _ htab
      have h0 : C'.io 0 = some p := x.io 0 p startB_at
      rw [h0] at hp'
      cases hp'
      refine ⟨p, hp, ?_⟩
      rcases hr with hr | ⟨q, hq, cs, hc, hx⟩
      · exact .inl hr
      · exact .inr ⟨q, hq, cs, hc, fun j y hj => ⟨(hx j y hj).1, (hx j y hj).2.nomem hm⟩⟩
    · rw [upd_ne _ _ h] at e1
      obtain ⟨q, hq, hr⟩ := t.bl i b e1
      refine ⟨q, hq, hr.ext x1 fun q' hq' => ?_⟩
      subst hq'
      refine t'.fr.blk _ (t.blk_lt e1 hq) ?_
      rintro ⟨q2, rfl, h2⟩
      exact h (t.inj i id q' q2 b _ e1 e hq hp h2.symm)
  · change upd C.tab id _ i = _ at e1
    change upd C.tab id _ i' = _ at e2
    have f : ∀ j c, upd C.tab id (some (.row o s.k s.T zs)) j = some c → ∃ c', C.tab j = some c' := fun j c hj => by
      by_cases hjd : j = id
      · exact ⟨_, hjd ▸ e⟩
      · rw [upd_ne _ _ hjd] at hj
        exact ⟨c, hj⟩
    obtain ⟨c1, k1⟩ := f _ _ e1
    obtain ⟨c2, k2⟩ := f _ _ e2
    exact t.inj i i' q q' c1 c2 k1 k2 h h' hq
  · change upd C.tab id _ i = _ at e1
    by_cases h1 : i = id
    · subst h1
      exact t.mb i q _ e h rfl
    · rw [upd_ne _ _ h1] at e1
      exact t.mb i q b e1 h hm'
  · refine t.fr.trans (N := m0Of p) ⟨t'.fr.os, t'.fr.tape, t'.fr.output, t'.fr.size, t'.fr.blk⟩ fun i hi hn => ?_
    obtain ⟨q, rfl, rfl⟩ := hn
    rcases t.mb id q _ e hp rfl with h | h
    · omega
    · exact h
  · change upd C.tab id _ i = _ at e1
    by_cases h1 : i = id
    · subst h1
      rw [upd_same] at e1
      cases e1
      exact t.bs i q _ e h (hcomp.bor hm')
    · rw [upd_ne _ _ h1] at e1
      exact t.bs i q b e1 h hm'

/-- A call that writes into a row, taken by its caller. -/
theorem callB_calls (t : TabOk w0 M0 av C) {vw : Tab} (hsub : Sub vw C.tab) {k : Nat} {g : FuncId} {s : BSpec} (hcon : ContractB P k g s) {xs : List AV} {vs : Array Value} {e : Eff}
    (h : callB k s xs vw = some e) (hr : e.Res out) (hx : RelL C vs.toList xs) :
    Calls P g vs C.w fun e w' => ∃ v C', e = .returned v ∧ C'.w = w' ∧ C'.tab = chg C.tab out.ch ∧ Ext C C' ∧ TabOk w0 M0 av C' ∧ Rel C' v out.v := by
  unfold callB at h
  split at h
  · rename_i x xs'
    split at h
    · rename_i id off len hbor
      cases hflag : (s.k.mem || s.ps.any Sh.refs || (idsOf xs').any (Nat.beq id)) with
      | true => rw [hflag] at h; cases h
      | false =>
        rw [hflag, cond_false] at h
        rw [Bool.or_eq_false_iff, Bool.or_eq_false_iff] at hflag
        obtain ⟨⟨hm, hrefs⟩, hids⟩ := hflag
        split at h
        · rename_i a o k' T ys ha htab
          split at h
          · rename_i hk
            subst hk
            cases hT : Nat.beq T s.T with
            | false => rw [hT] at h; cases h
            | true =>
              rw [hT, cond_true] at h
              obtain rfl := Nat.eq_of_beq_eq_true hT
              cases h
              cases hr with
              | bind hf =>
              rename_i zs
              rw [castR_rfl] at hf
              have e2 := hsub _ _ htab
              obtain ⟨p, hp, hrow⟩ := t.bl id _ e2
              generalize hvl : vs.toList = vl at hx
              cases hx with
              | cons hv hrest =>
              rename_i v0 vs'
              have hsl := borAt_rel hbor hv
              have hrow2 : RowAt (startB C.w s p ys) s.k s.T ys p := by
                rcases hrow with h | ⟨q, hq, cs, hc, hx⟩
                · exact .inl h
                · exact .inr ⟨q, hq, cs, hc, fun j y hj => ⟨(hx j y hj).1, (hx j y hj).2.nomem hm⟩⟩
              have hn : borLen len ys.length = len.getD ys.length := by cases len <;> rfl
              rw [hn] at hf
              have hv2 : Rel (startB C.w s p ys) v0 (.sl 0 off (len.getD ys.length)) := by
                obtain ⟨h1, A, n, c, rfl, h2⟩ := hsl
                obtain ⟨k2, T2, xs2, hr, hn2, ho, hnc, hsat⟩ := h2 _ e2
                obtain ⟨rfl, rfl, hxs⟩ := hr.uniq (.inl ⟨o, rfl⟩)
                obtain rfl := eq_of_heq hxs
                refine .sl ⟨by rw [startB_at]; simp, A, n, c, rfl, fun blk hb => ?_⟩
                cases hb
                refine ⟨s.k, s.T, xs2, .inl ⟨false, rfl⟩, hn2, ho, hnc, ?_⟩
                rcases hsat with ⟨hi, hc⟩ | ⟨p', hi, hA, cs, T, fr, hh, hs⟩
                · rw [hp] at hi
                  cases hi
                  exact .inl ⟨startB_at, hc⟩
                · rw [hp] at hi
                  cases hi
                  exact .inr ⟨p', startB_at, hA, cs, T, fr, hh, hs⟩
              have hargs := args_rel (yl := 0) t hsub (fun b => ¬ m0Of p b) (fun b ho => ?_) (.inl hrefs) ha (fun y hy id' p' hid hid2 hp' => ?_) hrest
              · have hext : Ext (zeroCtx C.w (fun b => ¬ m0Of p b) 0) (startB C.w s p ys) := by
                  refine ExtH.ext ⟨fun _ _ h => (by cases h), fun _ _ h _ => absurd rfl h, fun b cs T fr e _ => ⟨cs, fr, e, rfl, fun _ => ⟨rfl, rfl⟩⟩, fun b hb ho => ⟨trivial, fun i q blk e1 _ _ hqb => ?_⟩, Nat.le_refl _⟩ rfl
                  obtain ⟨_, rfl⟩ := startB_io e1
                  exact ho.1 ⟨q, rfl, hqb⟩
                refine (hcon ys off _ a zs hf C.w p vs hrow2 (by rw [hvl]; exact .cons hv2 (hargs.ext hext))).mono ?_
                rintro e w' ⟨v, C', rfl, rfl, h1, t', x', hv'⟩
                obtain ⟨y1, y2⟩ := joinB_ok t e2 hp hm h1 t' x'
                refine ⟨v, C.joinB C' id (.row o s.k s.T zs), rfl, rfl, rfl, y1, y2, ?_⟩
                cases hv' with
                | tup hl =>
                  rename_i cs
                  have hnil : cs.toList = [] := List.eq_nil_of_length_eq_zero hl.length
                  refine .tup ?_
                  rw [hnil]
                  exact .nil
              · rintro ⟨q, rfl, hqb⟩
                exact ho.2 id q _ hp e2 rfl hqb
              · rintro ⟨q, rfl, hqb⟩
                cases hvw : vw id' with
                | none => exact hid hvw
                | some blk' =>
                  have := t.inj id' id p' q _ _ (hsub _ _ hvw) e2 hp' hp hqb.symm
                  subst this
                  rw [idsOf_mem hy hid2] at hids
                  cases hids
          · cases h
        · cases h
    · cases h
  · cases h

end
end Go.Proofs.Ytmjbjlhjpdebjaa.Mini
