/- A small machine over plain data: what a function hands back. -/
import Derived.Test.YtmjbjlhjpdebjaaXMK
namespace Go.Proofs.Ytmjbjlhjpdebjaa.Mini
open Go Go.RowKit

def OwnAt (tab : Tab) (k : Kd) (T : TypeId) (x : List (El k)) : Whence → Prop
  | none => x = []
  | some (id, off, len, sz) => sz = k.sz ∧ ∃ xs, tab id = some (.row true k T xs) ∧ x = (xs.drop off).take (len.getD xs.length)

def ioSrc (C : Ctx) : Whence → Option Pl
  | none => none
  | some (id, off, _, sz) => match C.io id with
    | some (some p) => some ⟨p.b, p.o + off * sz⟩
    | _ => none

def ioOf (C : Ctx) (S : List Whence) (fresh i : Nat) : Option (Option Pl) := bif Nat.blt i fresh then none else match S[i - fresh]? with
  | none => none
  | some src => some (ioSrc C src)

def Ctx.hand (C : Ctx) (S : List Whence) (fresh : Nat) (ch : Chg) : Ctx := { w := C.w, io := ioOf C S fresh, tab := chg (fun _ => none) ch, base := C.base, yl := C.yl }

def Entry (C : Ctx) (S : List Whence) (fresh : Nat) (p : Nat × Option Blk) : Prop :=
  fresh ≤ p.1 ∧ ∃ src k T x, S[p.1 - fresh]? = some src ∧ p.2 = some (.row true k T x) ∧ OwnAt C.tab k T x src

theorem io_at {C : Ctx} {S : List Whence} {fresh i : Nat} {src : Whence} (h : fresh ≤ i) (hs : S[i - fresh]? = some src) : ioOf C S fresh i = some (ioSrc C src) := by
  unfold ioOf
  have : Nat.blt i fresh = false := by
    cases hb : Nat.blt i fresh with
    | false => rfl
    | true =>
      rw [Nat.blt_eq] at hb
      omega
  rw [this, hs]
  rfl

theorem ioSrc_some {C : Ctx} {id off : Nat} {len : Option Nat} {sz : Nat} {p : Pl} (h : C.io id = some (some p)) : ioSrc C (some (id, off, len, sz)) = some ⟨p.b, p.o + off * sz⟩ := by
  simp only [ioSrc, h]

theorem ioSrc_nil {C : Ctx} {id off : Nat} {len : Option Nat} {sz : Nat} (h : C.io id = some none) : ioSrc C (some (id, off, len, sz)) = none := by
  simp only [ioSrc, h]

theorem ids_uniq : ∀ {S : List Whence} {i j : Nat} {id : Nat} {x y : Nat × Option Nat × Nat}, (Whence.ids S).Nodup → S[i]? = some (some (id, x)) → S[j]? = some (some (id, y)) → i = j
  | [], i, j, id, x, y, _, h, _ => by simp at h
  | s :: S, i, j, id, x, y, hn, hi, hj => by
    have hmem : ∀ {k : Nat} {z : Nat × Option Nat × Nat}, S[k]? = some (some (id, z)) → id ∈ Whence.ids S := fun h => List.mem_filterMap.2 ⟨_, List.mem_of_getElem? h, rfl⟩
    have hn' : (Whence.ids S).Nodup := by
      unfold Whence.ids at hn ⊢
      rw [List.filterMap_cons] at hn
      split at hn
      · exact hn
      · exact (List.nodup_cons.1 hn).2
    cases i with
    | zero =>
      cases j with
      | zero => rfl
      | succ j =>
        rw [List.getElem?_cons_succ] at hj
        simp only [List.getElem?_cons_zero, Option.some.injEq] at hi
        subst hi
        unfold Whence.ids at hn
        rw [List.filterMap_cons] at hn
        exact absurd (hmem hj) (List.nodup_cons.1 hn).1
    | succ i =>
      cases j with
      | zero =>
        rw [List.getElem?_cons_succ] at hi
        simp only [List.getElem?_cons_zero, Option.some.injEq] at hj
        subst hj
        unfold Whence.ids at hn
        rw [List.filterMap_cons] at hn
        exact absurd (hmem hi) (List.nodup_cons.1 hn).1
      | succ j =>
        rw [List.getElem?_cons_succ] at hi hj
        rw [ids_uniq hn' hi hj]

section
variable {w0 : Start} {M0 av : Nat → Prop} {C : Ctx} {S : List Whence} {fresh : Nat} {ch : Chg}

/-- What the handed context knows of a block. -/
theorem hand_at (he : ∀ p ∈ ch, Entry C S fresh p) {i : Nat} {blk : Blk} (h : (C.hand S fresh ch).tab i = some blk) :
    ∃ src k T x, fresh ≤ i ∧ S[i - fresh]? = some src ∧ blk = .row true k T x ∧ OwnAt C.tab k T x src ∧ (C.hand S fresh ch).io i = some (ioSrc C src) := by
  obtain ⟨q, hq, rfl, h2⟩ := chg_some rfl h
  obtain ⟨h3, src, k, T, x, h4, h5, h6⟩ := he q hq
  rw [h2] at h5
  cases h5
  exact ⟨src, k, T, x, h3, h4, rfl, h6, io_at h3 h4⟩

/-- A place in it is one of those there were. -/
theorem hand_src (he : ∀ p ∈ ch, Entry C S fresh p) {i : Nat} {blk : Blk} {p : Pl} (h : (C.hand S fresh ch).tab i = some blk) (hp : (C.hand S fresh ch).io i = some (some p)) :
    ∃ id off len sz k T xs q, fresh ≤ i ∧ S[i - fresh]? = some (some (id, off, len, sz)) ∧ C.tab id = some (.row true k T xs) ∧ C.io id = some (some q) ∧ p = ⟨q.b, q.o + off * sz⟩ ∧ blk.isBor = false := by
  obtain ⟨src, k, T, x, h1, h2, rfl, h3, h4⟩ := hand_at he h
  rw [hp] at h4
  cases src with
  | none => cases h4
  | some t =>
    obtain ⟨id, off, len, sz⟩ := t
    obtain ⟨h5, xs, h6, h7⟩ := h3
    simp only [ioSrc] at h4
    split at h4
    · rename_i q hq
      cases h4
      exact ⟨id, off, len, sz, k, T, xs, q, h1, h2, h6, hq, rfl, rfl⟩
    · cases h4

theorem hand_ok (he : ∀ p ∈ ch, Entry C S fresh p) {b : Nat} (h : C.ok b) : (C.hand S fresh ch).ok b := by
  refine ⟨h.1, fun i p blk hp ht _ => ?_⟩
  obtain ⟨id, off, len, sz, k, T, xs, q, _, _, h1, h2, rfl, _⟩ := hand_src he ht hp
  exact h.2 id q _ h2 h1 rfl

theorem hand_reads (he : ∀ p ∈ ch, Entry C S fresh p) : Reads C.w (C.hand S fresh ch).w C.ok (C.hand S fresh ch).ok := ⟨fun _ _ _ _ h _ => h, fun _ _ h => hand_ok he h⟩

theorem hand_tabOk (t : TabOk w0 M0 av C) (he : ∀ p ∈ ch, Entry C S fresh p) (hn : (Whence.ids S).Nodup) (hl : S.length ≤ room) :
    TabOk w0 M0 (fun i => ¬ (fresh ≤ i ∧ i < fresh + room)) (C.hand S fresh ch) := by
  refine ⟨fun i blk h => ?_, fun i i' p p' b b' e e' h h' hp => ?_, fun i p blk h hp hm => ?_, fun i hi => ?_, t.fr, fun i p blk h hp hb => ?_, t.bf, t.bq⟩
  · obtain ⟨src, k, T, x, h1, h2, rfl, h3, h4⟩ := hand_at he h
    cases src with
    | none => exact ⟨none, h4, .inl ⟨rfl, h3⟩⟩
    | some s =>
      obtain ⟨id, off, len, sz⟩ := s
      obtain ⟨h5, xs, h6, h7⟩ := h3
      subst h5
      obtain ⟨p, hp, hr⟩ := t.bl id _ h6
      cases p with
      | none =>
        rw [ioSrc_nil hp] at h4
        refine ⟨none, h4, .inl ⟨rfl, ?_⟩⟩
        rcases hr with ⟨_, rfl⟩ | ⟨q, hq, _⟩
        · rw [h7]
          simp
        · cases hq
      | some p =>
        rw [ioSrc_some hp] at h4
        refine ⟨_, h4, ?_⟩
        rcases hr with ⟨hq, _⟩ | ⟨q, hq, cs, hc, hr⟩
        · cases hq
        · cases hq
          refine .inr ⟨_, rfl, cs, hc, fun j y hy => ?_⟩
          rw [h7] at hy
          have hy' : xs[off + j]? = some y := by
            rw [List.getElem?_take] at hy
            split at hy
            · rw [List.getElem?_drop] at hy
              exact hy
            · cases hy
          obtain ⟨h8, h9⟩ := hr (off + j) y hy'
          have hm : p.o + (off + j) * k.sz = p.o + off * k.sz + j * k.sz := by rw [Nat.add_mul, Nat.add_assoc]
          rw [hm] at h8 h9
          exact ⟨h8, h9.ext (hand_reads he)⟩
  · obtain ⟨id, off, len, sz, k, T, xs, q, h1, h2, h3, h4, rfl, _⟩ := hand_src he e h
    obtain ⟨id', off', len', sz', k', T', xs', q', h1', h2', h3', h4', rfl, _⟩ := hand_src he e' h'
    have := t.inj id id' q q' _ _ h3 h3' h4 h4' hp
    subst this
    have := ids_uniq hn h2 h2'
    omega
  · obtain ⟨id, off, len, sz, k, T, xs, q, h1, h2, h3, h4, rfl, _⟩ := hand_src he h hp
    exact t.mb id q _ h3 h4 rfl
  · show ioOf C S fresh i = none
    unfold ioOf
    cases hb : Nat.blt i fresh with
    | true => rfl
    | false =>
      have : ¬ i < fresh := fun h => by
        rw [← Nat.blt_eq, hb] at h
        cases h
      rw [List.getElem?_eq_none (by omega)]
      rfl
  · obtain ⟨id, off, len, sz, k, T, xs, q, h1, h2, h3, h4, rfl, _⟩ := hand_src he h hp
    exact t.bs id q _ h3 h4 rfl

/-- A row of one's own, handed back. -/
theorem hand_own (he : ∀ p ∈ ch, Entry C S fresh p) {v : Value} {id off m : Nat} {len : Option Nat} {k : Kd} {T : TypeId} {xs : List (El k)} (h : SlRel C v id off len) (ht : C.tab id = some (.row true k T xs))
    (hs : S[m]? = some (some (id, off, len, k.sz))) : SlRel (C.hand S fresh ch) v (fresh + m) 0 none := by
  have hs' : S[fresh + m - fresh]? = some (some (id, off, len, k.sz)) := by rw [Nat.add_sub_cancel_left]; exact hs
  have hio := io_at (C := C) (Nat.le_add_right fresh m) hs'
  obtain ⟨h1, A, n, c, rfl, h2⟩ := h
  obtain ⟨k', T', xs', hr, h3, h4, h5, h6⟩ := h2 _ ht
  have hr' : RowLike (.row true k T xs) k T xs := .inl ⟨_, rfl⟩
  obtain ⟨rfl, rfl, hx⟩ := hr.uniq hr'
  cases hx
  refine ⟨?_, A, n, c, rfl, fun blk hb => ?_⟩
  · show ioOf C S fresh _ ≠ none
    rw [hio]
    simp
  · obtain ⟨src, k2, T2, x, _, h8, rfl, h9, _⟩ := hand_at he hb
    rw [hs'] at h8
    cases h8
    obtain ⟨_, xs2, h10, h11⟩ := h9
    rw [ht] at h10
    cases h10
    have hlen : x.length = n := by
      rw [h11, List.length_take, List.length_drop, h3]
      omega
    refine ⟨_, _, x, .inl ⟨_, rfl⟩, hlen.symm, by omega, h5, ?_⟩
    rcases h6 with ⟨h6, h7⟩ | ⟨p, h6, h7, cs, T3, fr, h12, h13⟩
    · refine .inl ⟨?_, h7⟩
      show ioOf C S fresh _ = _
      rw [hio, ioSrc_nil h6]
    · refine .inr ⟨⟨p.b, p.o + off * k'.sz⟩, ?_, fun hc => ?_, cs, T3, fr, h12, ?_⟩
      · show ioOf C S fresh _ = _
        rw [hio, ioSrc_some h6]
      · rw [h7 hc]
        simp
      · have : p.o + off * k'.sz + (0 + c) * k'.sz = p.o + (off + c) * k'.sz := by
          rw [Nat.zero_add, Nat.add_mul, Nat.add_assoc]
        rw [this]
        exact h13

theorem hand_nil (he : ∀ p ∈ ch, Entry C S fresh p) {A : Option Addr} {m : Nat} (hs : S[m]? = some none) : SlRel (C.hand S fresh ch) (.slice A 0 0) (fresh + m) 0 none := by
  have hs' : S[fresh + m - fresh]? = some none := by rw [Nat.add_sub_cancel_left]; exact hs
  have hio := io_at (C := C) (Nat.le_add_right fresh m) hs'
  refine ⟨?_, A, 0, 0, rfl, fun blk hb => ?_⟩
  · show ioOf C S fresh _ ≠ none
    rw [hio]
    simp
  · obtain ⟨src, k2, T2, x, _, h8, rfl, h9, _⟩ := hand_at he hb
    rw [hs'] at h8
    cases h8
    cases h9
    exact ⟨_, _, [], .inl ⟨_, rfl⟩, rfl, Nat.le_refl _, Nat.le_refl _, .inl ⟨hio, rfl⟩⟩

theorem retL_own {tab : Tab} {k : Kd} {T : TypeId} {v : AV} {x : List (El k)} (h : retL tab (.own k T) v = some x) :
    (v = .nils ∧ x = [] ∧ srcL (.own k T) v = [none]) ∨ ∃ id off len xs, srcL (.own k T) v = [some (id, off, len, k.sz)] ∧ tab id = some (.row true k T xs) ∧ x = (xs.drop off).take (len.getD xs.length) ∧
      ((v = .own id ∧ off = 0 ∧ len = none) ∨ ∃ n, v = .sl id off n ∧ len = some n) := by
  simp only [retL] at h
  split at h
  · cases h
    exact .inl ⟨rfl, rfl, rfl⟩
  · rename_i id
    split at h
    · rename_i k' T' xs e
      split at h
      · rename_i hk
        subst hk
        cases hT : Nat.beq T' T with
        | false => rw [hT] at h; cases h
        | true =>
          rw [hT] at h
          have := Nat.eq_of_beq_eq_true hT
          subst this
          cases h
          exact .inr ⟨id, 0, none, xs, rfl, e, by simp [castR_rfl], .inl ⟨rfl, rfl, rfl⟩⟩
      · cases h
    · cases h
  · rename_i id off len
    split at h
    · rename_i k' T' xs e
      split at h
      · rename_i hk
        subst hk
        cases hT : Nat.beq T' T with
        | false => rw [hT] at h; cases h
        | true =>
          rw [hT] at h
          have := Nat.eq_of_beq_eq_true hT
          subst this
          cases h
          exact .inr ⟨id, off, some len, xs, rfl, e, rfl, .inr ⟨len, rfl, rfl⟩⟩
      · cases h
    · cases h
  · cases h

/-- What is handed back as data may be read without end. -/
theorem hand_val (t : TabOk w0 none' av C) (he : ∀ p ∈ ch, Entry C S fresh p) {vw : Tab} (hvw : vw = C.tab) {id : Nat} {p : Pl} (hne : id ∉ Whence.ids S) (hid : vw id ≠ none) (hp : C.io id = some (some p)) : (C.hand S fresh ch).ok p.b := by
  subst hvw
  cases hb : C.tab id with
  | none => exact absurd hb hid
  | some blk =>
    refine ⟨?_, fun i p' blk' hp' ht' _ e => ?_⟩
    · cases hbor : blk.isBor with
      | false => exact t.bs id p blk hb hp hbor
      | true =>
        have hm : blk.isMut = true := by cases blk <;> first | rfl | cases hbor
        exact t.bf _ ((t.mb id p blk hb hp hm).elim (fun h => h) False.elim)
    · obtain ⟨id', off, len, sz, k, T, xs, q, _, h2, h3, h4, rfl, _⟩ := hand_src he ht' hp'
      have := t.inj id' id q p _ _ h3 hb h4 hp e
      subst this
      exact hne (List.mem_filterMap.2 ⟨_, List.mem_of_getElem? h2, rfl⟩)

theorem drop_get {α : Type} {l r : List α} {x : α} {m : Nat} (h : l.drop m = x :: r) : l[m]? = some x := by
  have := List.getElem?_drop (xs := l) (i := m) (j := 0)
  rw [h] at this
  simpa using this.symm

theorem srcL_len (l : LSh) (v : AV) : (srcL l v).length = l.ids := by
  cases l with
  | val k => rfl
  | own k T => cases v <;> rfl

theorem handL (t : TabOk w0 none' av C) (he : ∀ p ∈ ch, Entry C S fresh p) {l : LSh} {v : Value} {x : AV} {y : ElL l} {m : Nat} {rest : List Whence} (h : retL C.tab l x = some y) (hs : S.drop m = srcL l x ++ rest) (hf : ∀ id ∈ froL l x, id ∉ Whence.ids S)
    (hv : Rel C v x) : Rel (C.hand S fresh ch) v (encL (fresh + m) l y).1 := by
  cases l with
  | val k =>
    simp only [retL] at h
    cases hl : leafB x with
    | false => rw [hl] at h; cases h
    | true =>
      rw [hl, cond_true] at h
      have hr := leaves_rep t (vw := C.tab) (fun _ _ h => h) (C.hand S fresh ch).ok (fun b hb => hand_ok he hb) (l := [x]) h (by simp [hl]) (fun y hy id p hid hy2 hp => ?_) (.cons hv .nil)
      · exact headD_rel (RepC.leaves (C := C.hand S fresh ch) hr)
      · simp only [List.mem_singleton] at hy
        subst hy
        exact hand_val t he rfl (hf id (by simp only [froL]; rw [hy2]; simp)) hid hp
  | own k T =>
    rcases retL_own h with ⟨rfl, rfl, hsrc⟩ | ⟨id, off, len, xs, hsrc, ht, _, hor⟩
    · rw [hsrc] at hs
      cases hv with
      | nils => exact .own (hand_nil he (drop_get hs))
    · rw [hsrc] at hs
      rcases hor with ⟨rfl, rfl, rfl⟩ | ⟨n, rfl, rfl⟩
      · cases hv with
        | own hv => exact .own (hand_own he hv ht (drop_get hs))
      · cases hv with
        | sl hv => exact .own (hand_own he hv ht (drop_get hs))

/-- The blocks that are told of. -/
theorem entL {l : LSh} {x : AV} {y : ElL l} {m : Nat} {rest : List Whence} (h : retL C.tab l x = some y) (hs : S.drop m = srcL l x ++ rest) : ∀ p ∈ (encL (fresh + m) l y).2, Entry C S fresh p := by
  cases l with
  | val k => exact fun p hp => by cases hp
  | own k T =>
    intro p hp
    simp only [encL, List.mem_singleton] at hp
    subst hp
    have : fresh + m - fresh = m := Nat.add_sub_cancel_left ..
    rcases retL_own h with ⟨rfl, rfl, hsrc⟩ | ⟨id, off, len, xs, hsrc, ht, hx, _⟩
    · rw [hsrc] at hs
      exact ⟨Nat.le_add_right .., none, k, T, [], by rw [this]; exact drop_get hs, rfl, rfl⟩
    · rw [hsrc] at hs
      exact ⟨Nat.le_add_right .., some (id, off, len, k.sz), k, T, y, by rw [this]; exact drop_get hs, rfl, rfl, xs, ht, hx⟩

theorem drop_more {α : Type} {S a b : List α} {m : Nat} (h : S.drop m = a ++ b) : S.drop (m + a.length) = b := by
  rw [← List.drop_drop, h, List.drop_left]

theorem handLs (t : TabOk w0 none' av C) (he : ∀ p ∈ ch, Entry C S fresh p) : ∀ {ls : List LSh} {vs : List Value} {xs : List AV} {y : ElLs ls} {m : Nat} {rest : List Whence}, retLs C.tab ls xs = some y → S.drop m = srcLs ls xs ++ rest →
    (∀ id ∈ froLs ls xs, id ∉ Whence.ids S) → RelL C vs xs → RelL (C.hand S fresh ch) vs (encLs (fresh + m) ls y).1
  | [], vs, xs, y, m, rest, h, hs, hf, hv => by
    cases hv with
    | nil => exact .nil
    | cons => cases h
  | [l], vs, xs, y, m, rest, h, hs, hf, hv => by
    cases hv with
    | nil => cases h
    | cons hv ht =>
      cases ht with
      | cons => cases h
      | nil =>
        simp only [srcLs, List.append_nil] at hs
        simp only [froLs, List.append_nil] at hf
        exact .cons (handL t he h hs hf hv) .nil
  | l :: l2 :: ls, vs, xs, y, m, rest, h, hs, hf, hv => by
    cases hv with
    | nil => cases h
    | cons hv ht =>
      simp only [retLs] at h
      split at h
      · rename_i y1 h1
        split at h
        · rename_i y2 h2
          cases h
          rw [srcLs, List.append_assoc] at hs
          rw [froLs] at hf
          have hs2 := drop_more hs
          rw [srcL_len] at hs2
          refine .cons (handL t he h1 hs (fun id hid => hf id (by simp [hid])) hv) ?_
          have := handLs t he h2 hs2 (fun id hid => hf id (by simp [hid])) ht
          rw [← Nat.add_assoc] at this
          exact this
        · cases h
      · cases h

theorem entLs : ∀ {ls : List LSh} {xs : List AV} {y : ElLs ls} {m : Nat} {rest : List Whence}, retLs C.tab ls xs = some y → S.drop m = srcLs ls xs ++ rest → ∀ p ∈ (encLs (fresh + m) ls y).2, Entry C S fresh p
  | [], xs, y, m, rest, h, hs => fun p hp => by cases hp
  | [l], xs, y, m, rest, h, hs => by
    cases xs with
    | nil => cases h
    | cons x xs =>
      cases xs with
      | cons => cases h
      | nil =>
        simp only [srcLs, List.append_nil] at hs
        exact entL h hs
  | l :: l2 :: ls, xs, y, m, rest, h, hs => by
    cases xs with
    | nil => cases h
    | cons x xs =>
      simp only [retLs] at h
      split at h
      · rename_i y1 h1
        split at h
        · rename_i y2 h2
          cases h
          rw [srcLs, List.append_assoc] at hs
          have hs2 := drop_more hs
          rw [srcL_len] at hs2
          intro p hp
          rcases List.mem_append.1 hp with hp | hp
          · exact entL h1 hs p hp
          · rw [Nat.add_assoc] at hp
            exact entLs h2 hs2 p hp
        · cases h
      · cases h

theorem srcLs_len : ∀ {ls : List LSh} {xs : List AV} {tab : Tab} {y : ElLs ls}, retLs tab ls xs = some y → (srcLs ls xs).length = (ls.map LSh.ids).sum
  | [], xs, tab, y, h => rfl
  | [l], xs, tab, y, h => by
    cases xs with
    | nil => cases h
    | cons x xs => simp [srcLs, srcL_len]
  | l :: l2 :: ls, xs, tab, y, h => by
    cases xs with
    | nil => cases h
    | cons x xs =>
      simp only [retLs] at h
      split at h
      · split at h
        · rename_i y2 h2
          rw [srcLs, List.length_append, srcL_len, srcLs_len h2]
          simp
        · cases h
      · cases h

theorem handS (t : TabOk w0 none' av C) (he : ∀ p ∈ ch, Entry C S fresh p) {s : Sh} {v : Value} {x : AV} {y : ElS s} {m : Nat} {rest : List Whence} (h : retS C.tab s x = some y) (hs : S.drop m = srcS s x ++ rest) (hf : ∀ id ∈ froS s x, id ∉ Whence.ids S)
    (hv : Rel C v x) : Rel (C.hand S fresh ch) v (encS (fresh + m) s y).1 := by
  cases s with
  | leaf l => exact handL t he h hs hf hv
  | st k =>
    cases x with
    | agg l =>
      simp only [retS] at h
      cases hl : l.all leafB with
      | false => rw [hl] at h; cases h
      | true =>
        rw [hl, cond_true] at h
        cases hv with
        | agg hv =>
          have hr := leaves_rep t (vw := C.tab) (fun _ _ h => h) (C.hand S fresh ch).ok (fun b hb => hand_ok he hb) h hl (fun y hy id p hid hy2 hp => ?_) hv
          · exact .agg (RepC.leaves (C := C.hand S fresh ch) hr)
          · exact hand_val t he rfl (hf id (by
              unfold froS
              exact List.mem_filterMap.2 ⟨y, hy, hy2⟩)) hid hp
    | _ => cases h
  | agg ls =>
    cases x with
    | agg l =>
      cases hv with
      | agg hv => exact .agg (handLs t he h hs hf hv)
    | _ => cases h
  | ptr k => cases x <;> cases h
  | fn f ks => cases x <;> cases h

theorem entS {s : Sh} {x : AV} {y : ElS s} {m : Nat} {rest : List Whence} (h : retS C.tab s x = some y) (hs : S.drop m = srcS s x ++ rest) : ∀ p ∈ (encS (fresh + m) s y).2, Entry C S fresh p := by
  cases s with
  | leaf l => exact entL h hs
  | st k => exact fun p hp => by cases hp
  | agg ls =>
    cases x with
    | agg l => exact entLs h hs
    | _ => cases h
  | ptr k => exact fun p hp => by cases hp
  | fn f ks => exact fun p hp => by cases hp

theorem srcS_len {s : Sh} {x : AV} {tab : Tab} {y : ElS s} (h : retS tab s x = some y) : (srcS s x).length = s.ids := by
  cases s with
  | leaf l => exact srcL_len l x
  | st k => rfl
  | agg ls =>
    cases x with
    | agg l => exact srcLs_len h
    | _ => cases h
  | ptr k => rfl
  | fn f ks => rfl

theorem handSs (t : TabOk w0 none' av C) (he : ∀ p ∈ ch, Entry C S fresh p) : ∀ {rs : List Sh} {vs : List Value} {xs : List AV} {y : ElSs rs} {m : Nat} {rest : List Whence}, retSs C.tab rs xs = some y → S.drop m = srcSs rs xs ++ rest →
    (∀ id ∈ froSs rs xs, id ∉ Whence.ids S) → RelL C vs xs → RelL (C.hand S fresh ch) vs (encSs (fresh + m) rs y).1
  | [], vs, xs, y, m, rest, h, hs, hf, hv => by
    cases hv with
    | nil => exact .nil
    | cons => cases h
  | [l], vs, xs, y, m, rest, h, hs, hf, hv => by
    cases hv with
    | nil => cases h
    | cons hv ht =>
      cases ht with
      | cons => cases h
      | nil =>
        simp only [srcSs, List.append_nil] at hs
        simp only [froSs, List.append_nil] at hf
        exact .cons (handS t he h hs hf hv) .nil
  | l :: l2 :: ls, vs, xs, y, m, rest, h, hs, hf, hv => by
    cases hv with
    | nil => cases h
    | cons hv ht =>
      simp only [retSs] at h
      split at h
      · rename_i y1 h1
        split at h
        · rename_i y2 h2
          cases h
          rw [srcSs, List.append_assoc] at hs
          rw [froSs] at hf
          have hs2 := drop_more hs
          rw [srcS_len h1] at hs2
          refine .cons (handS t he h1 hs (fun id hid => hf id (by simp [hid])) hv) ?_
          have := handSs t he h2 hs2 (fun id hid => hf id (by simp [hid])) ht
          rw [← Nat.add_assoc] at this
          exact this
        · cases h
      · cases h

theorem entSs : ∀ {rs : List Sh} {xs : List AV} {y : ElSs rs} {m : Nat} {rest : List Whence}, retSs C.tab rs xs = some y → S.drop m = srcSs rs xs ++ rest → ∀ p ∈ (encSs (fresh + m) rs y).2, Entry C S fresh p
  | [], xs, y, m, rest, h, hs => fun p hp => by cases hp
  | [l], xs, y, m, rest, h, hs => by
    cases xs with
    | nil => cases h
    | cons x xs =>
      cases xs with
      | cons => cases h
      | nil =>
        simp only [srcSs, List.append_nil] at hs
        exact entS h hs
  | l :: l2 :: ls, xs, y, m, rest, h, hs => by
    cases xs with
    | nil => cases h
    | cons x xs =>
      simp only [retSs] at h
      split at h
      · rename_i y1 h1
        split at h
        · rename_i y2 h2
          cases h
          rw [srcSs, List.append_assoc] at hs
          have hs2 := drop_more hs
          rw [srcS_len h1] at hs2
          intro p hp
          rcases List.mem_append.1 hp with hp | hp
          · exact entS h1 hs p hp
          · rw [Nat.add_assoc] at hp
            exact entSs h2 hs2 p hp
        · cases h
      · cases h

theorem srcSs_len : ∀ {rs : List Sh} {xs : List AV} {tab : Tab} {y : ElSs rs}, retSs tab rs xs = some y → (srcSs rs xs).length = (rs.map Sh.ids).sum
  | [], xs, tab, y, h => rfl
  | [l], xs, tab, y, h => by
    cases xs with
    | nil => cases h
    | cons x xs =>
      cases xs with
      | cons => cases h
      | nil => simp [srcSs, srcS_len (y := y) h]
  | l :: l2 :: ls, xs, tab, y, h => by
    cases xs with
    | nil => cases h
    | cons x xs =>
      simp only [retSs] at h
      split at h
      · rename_i y1 h1
        split at h
        · rename_i y2 h2
          rw [srcSs, List.length_append, srcS_len h1, srcSs_len h2]
          simp
        · cases h
      · cases h

theorem nodup_of : ∀ {l : List Nat}, nodupB l = true → l.Nodup
  | [], _ => List.nodup_nil
  | x :: l, h => by
    unfold nodupB at h
    simp only [Bool.and_eq_true, Bool.not_eq_true'] at h
    refine List.nodup_cons.2 ⟨fun hx => ?_, nodup_of h.2⟩
    have : l.any (Nat.beq x) = true := List.any_eq_true.2 ⟨x, hx, Nat.beq_refl x⟩
    rw [this] at h
    cases h.1

end
end Go.Proofs.Ytmjbjlhjpdebjaa.Mini
