/- The states behind any nibbles, any step, any step's nibble, are the reference's: for every row of at most 80 numbers, every state, nibble and next state. No condition but the law's own. -/
import Derived.Test.YtoenfedmohfkpaaPSpineExactx3
import Derived.Test.YtoenfedmohfkpaaBv
import Derived.Test.YtoenfedmohfkpaaEv
namespace Go.Proofs.Ytoenfedmohfkpaa.Pure
open Go.RowKit Go.Proofs.Ytoenfedmohfkpaa.PSpineExact Go.Proofs.YtoenfedmohfkpaaW.PrintWords Go.Proofs.YtoenfedmohfkpaaW.PrintLast
open Bv in
theorem mix_f (v : BitVec 32) : mix_Mix.f (u v) = some (u (mixB v)) := by
  unfold mix_Mix.f mixB xs
  simp only [shr16, xor32, ← u_c1, ← u_c2, mul32, shr15]

open Bv in
theorem inv_c2 : Ev (fun k => mix_inverse.f k 2221713035) (u d2) := Ev.of (fun k => mix_inverse.mono _ k) (k := 5) (by decide +kernel)
open Bv in
theorem inv_c1 : Ev (fun k => mix_inverse.f k 2146121005) (u d1) := Ev.of (fun k => mix_inverse.mono _ k) (k := 5) (by decide +kernel)
open Bv in
theorem back_ev (v : BitVec 32) : Ev (fun k => mix_Back.f k (u v)) (u (backB v)) := by
  unfold mix_Back.f
  refine E.bind inv_c2 (E.bind inv_c1 (E.nowEq ?_))
  unfold backB xs xt
  simp only [shr16, xor32, mul32, shr15, shr30]

open Bv in
/-- A nibble, as a state is turned by it. -/
def nib (x : Int) : BitVec 32 := BitVec.ofNat 32 x.toNat
open Bv in
/-- The state behind a nibble. -/
def stepB (s : BitVec 32) (x : Int) : BitVec 32 := mixB (s ^^^ nib x)
open Bv in
def beginB : BitVec 32 := 2654435769#32
def okNib (x : Int) : Prop := 0 ≤ x ∧ x ≤ 15
open Bv in
theorem u_nib {x : Int} (h0 : 0 ≤ x) (h1 : x < 4294967296) : u (nib x) = x := by
  unfold u nib
  rw [BitVec.toNat_ofNat, Nat.mod_eq_of_lt (by omega)]
  omega
theorem nib_inj {x y : Int} (hx : okNib x) (hy : okNib y) (h : nib x = nib y) : x = y := by
  obtain ⟨x0, x1⟩ := hx
  obtain ⟨y0, y1⟩ := hy
  rw [← u_nib x0 (by omega), ← u_nib y0 (by omega), h]
theorem xor_cancel (a b : BitVec 32) : a ^^^ b ^^^ a = b := by
  rw [BitVec.xor_comm a b, BitVec.xor_assoc, BitVec.xor_self, BitVec.xor_zero]
theorem xor_left_inj {a b c : BitVec 32} (h : a ^^^ b = a ^^^ c) : b = c := by
  rw [← xor_cancel a b, h, xor_cancel]
theorem xor_right_inj {a b c : BitVec 32} (h : a ^^^ c = b ^^^ c) : a = b := by
  rw [BitVec.xor_comm a c, BitVec.xor_comm b c] at h
  exact xor_left_inj h
open Bv in
theorem back_step (s : BitVec 32) (x : Int) : backB (stepB s x) = s ^^^ nib x := by unfold stepB; exact back_mix _
open Bv in
theorem step_iff (s t : BitVec 32) (x : Int) : stepB s x = t ↔ nib x = backB t ^^^ s := by
  constructor
  · intro h
    rw [← h, back_step, xor_cancel]
  · intro h
    unfold stepB
    rw [h, BitVec.xor_comm (backB t) s, ← BitVec.xor_assoc, BitVec.xor_self, BitVec.zero_xor, mix_back]
open Bv in
theorem step_inj {s : BitVec 32} {x y : Int} (hx : okNib x) (hy : okNib y) (h : stepB s x = stepB s y) : x = y := by
  unfold stepB at h
  exact nib_inj hx hy (xor_left_inj (mix_inj h))
open Bv in
theorem step_inj' {s t : BitVec 32} {x : Int} (h : stepB s x = stepB t x) : s = t := by
  unfold stepB at h
  exact xor_right_inj (mix_inj h)
open Bv in
theorem step_f (s : BitVec 32) {x : Int} (h : okNib x) : spine_Step.f (u s) x = some (u (stepB s x), 0) := by
  obtain ⟨h0, h1⟩ := h
  have e : x % 4294967296 = u (nib x) := by rw [u_nib h0 (by omega)]; omega
  unfold spine_Step.f
  rw [if_neg (by omega), if_neg (by omega), e, xor32, mix_f]
  rfl
theorem step_bad (a x : Int) (h : ¬ okNib x) : spine_Step.f a x = some (0, 1) := by
  unfold okNib at h
  unfold spine_Step.f
  by_cases h0 : x < 0
  · rw [if_pos h0]
  · rw [if_neg h0, if_pos (by omega)]
attribute [irreducible] stepB nib
open Bv in
theorem begin_f : spine_Begin.f = some (u beginB) := rfl
attribute [irreducible] beginB
open Bv in
theorem states_loop (l : List Int) (hl : l.length ≤ 64) : ∀ (rest pre : List Int) (s : BitVec 32) (acc : List Int), l = pre ++ rest → acc.length = pre.length → (∀ x ∈ rest, okNib x) →
    Ev (fun k => spine_States.l0 k acc (u s) l (l.length : Int) (pre.length : Int)) (acc ++ (E.scan stepB s rest).map u, 0) := by
  intro rest
  induction rest with
  | nil =>
    intro pre s acc h ha _
    have hlen : l.length = pre.length := by rw [h]; simp
    exact E.step (fun _ => spine_States.l0.eq_2 ..) (E.neg (by omega) (E.nowEq (by simp [E.scan_nil])))
  | cons x rest ih =>
    intro pre s acc h ha hok
    have hlen : l.length = pre.length + (rest.length + 1) := by rw [h]; simp
    have hp : rd l (pre.length : Int) = x := by rw [h]; exact E.rd_at pre rest x
    refine E.step (fun _ => spine_States.l0.eq_2 ..) (E.pos (by omega) (E.pos (by omega) (E.pos (by omega) ?_)))
    rw [hp]
    refine E.bval (step_f s (hok x (by simp))) (E.pos rfl (E.pos (by omega) ?_))
    rw [E.wrap_snoc pre x (by omega)]
    have := ih (pre ++ [x]) (stepB s x) (acc ++ [u (stepB s x)]) (by rw [h]; simp) (by simp [ha]) (fun y hy => hok y (by simp [hy]))
    refine E.eqv ?_ this
    rw [E.scan_cons]
    simp
open Bv in
theorem states_bad_loop (l : List Int) (hl : l.length ≤ 64) : ∀ (rest pre : List Int) (s : BitVec 32) (acc : List Int), l = pre ++ rest → acc.length = pre.length → (∃ x ∈ rest, ¬ okNib x) →
    Ev (fun k => spine_States.l0 k acc (u s) l (l.length : Int) (pre.length : Int)) ([], 1) := by
  intro rest
  induction rest with
  | nil =>
    intro pre s acc h ha hok
    obtain ⟨x, hx, _⟩ := hok
    cases hx
  | cons x rest ih =>
    intro pre s acc h ha hok
    have hlen : l.length = pre.length + (rest.length + 1) := by rw [h]; simp
    have hp : rd l (pre.length : Int) = x := by rw [h]; exact E.rd_at pre rest x
    refine E.step (fun _ => spine_States.l0.eq_2 ..) (E.pos (by omega) (E.pos (by omega) (E.pos (by omega) ?_)))
    rw [hp]
    by_cases hx : okNib x
    · refine E.bval (step_f s hx) (E.pos rfl (E.pos (by omega) ?_))
      rw [E.wrap_snoc pre x (by omega)]
      refine ih (pre ++ [x]) (stepB s x) (acc ++ [u (stepB s x)]) (by rw [h]; simp) (by simp [ha]) ?_
      obtain ⟨y, hy, hn⟩ := hok
      rcases List.mem_cons.1 hy with rfl | hy
      · exact absurd hx hn
      · exact ⟨y, hy, hn⟩
    · exact E.bval (step_bad _ _ hx) (E.neg (by decide) E.now)
open Bv in
theorem states_ev (l : List Int) (hl : l.length ≤ 64) (hok : ∀ x ∈ l, okNib x) : Ev (fun k => spine_States.f k l) ((E.scan stepB beginB l).map u, 0) := by
  unfold spine_States.f
  refine E.neg (by omega) (E.bval begin_f ?_)
  have := states_loop l hl l [] beginB [] rfl rfl hok
  simpa using this
theorem states_bad (l : List Int) (hl : l.length ≤ 64) (hok : ∃ x ∈ l, ¬ okNib x) : Ev (fun k => spine_States.f k l) ([], 1) := by
  unfold spine_States.f
  refine E.neg (by omega) (E.bval begin_f ?_)
  have := states_bad_loop l hl l [] beginB [] rfl rfl hok
  simpa using this
theorem states_long (l : List Int) (hl : ¬ l.length ≤ 64) : Ev (fun k => spine_States.f k l) ([], 2) := by
  unfold spine_States.f
  exact E.pos (by omega) E.now
instance decNib (x : Int) : Decidable (okNib x) := by unfold okNib; exact inferInstance
theorem path_loop (l : List Int) (hl : l.length < 4611686018427387904) : ∀ (rest pre : List Int), l = pre ++ rest → Ev (fun k => voluteref04_Path.l0 k l (pre.length : Int)) (decide (∀ x ∈ rest, okNib x)) := by
  intro rest
  induction rest with
  | nil =>
    intro pre h
    have hlen : l.length = pre.length := by rw [h]; simp
    exact E.step (fun _ => voluteref04_Path.l0.eq_2 ..) (E.neg (by omega) (E.nowEq (by simp)))
  | cons x rest ih =>
    intro pre h
    have hlen : l.length = pre.length + (rest.length + 1) := by rw [h]; simp
    have hp : rd l (pre.length : Int) = x := by rw [h]; exact E.rd_at pre rest x
    refine E.step (fun _ => voluteref04_Path.l0.eq_2 ..) (E.pos (by omega) (E.pos (by omega) ?_))
    rw [hp]
    by_cases h0 : x < 0
    · exact E.pos h0 (E.nowEq (by
        have : ¬ okNib x := by unfold okNib; omega
        simp [this]))
    · refine E.neg h0 ?_
      by_cases h1 : x > 15
      · exact E.pos h1 (E.nowEq (by
          have : ¬ okNib x := by unfold okNib; omega
          simp [this]))
      · refine E.neg h1 ?_
        rw [E.wrap_snoc pre x (by omega)]
        have := ih (pre ++ [x]) (by rw [h]; simp)
        refine E.eqv ?_ this
        have : okNib x := by unfold okNib; omega
        simp [this]
theorem path_ev (l : List Int) (hl : l.length < 4611686018427387904) : Ev (fun k => voluteref04_Path.f k l) (decide (∀ x ∈ l, okNib x)) := by
  unfold voluteref04_Path.f
  have := path_loop l hl l [] rfl
  simpa using this
open Bv in
theorem nibble_ev (s t : BitVec 32) : Ev (fun k => spine_Nibble.f k (u s) (u t)) (if u (backB t ^^^ s) ≥ 16 then (0, false) else (u (backB t ^^^ s), true)) := by
  unfold spine_Nibble.f
  refine E.bind (back_ev t) ?_
  rw [xor32]
  have hu := u_nonneg (backB t ^^^ s)
  have hv := u_lt32 (backB t ^^^ s)
  by_cases h : u (backB t ^^^ s) ≥ 16
  · exact E.pos h (E.nowEq (by rw [if_pos h]))
  · exact E.neg h (E.nowEq (by rw [if_neg h, E.wrap_id (by omega) (by omega)]))
open Bv in
theorem nibble_step (s : BitVec 32) {x : Int} (h : okNib x) : Ev (fun k => spine_Nibble.f k (u s) (u (stepB s x))) (x, true) := by
  have := nibble_ev s (stepB s x)
  rw [back_step, xor_cancel, u_nib h.1 (by have := h.2; omega), if_neg (by have := h.2; omega)] at this
  exact this
theorem wakes05 : Ev (fun k => volutelaw05_wakes.f k) true := by
  have h5 : okNib 5 := by unfold okNib; omega
  unfold volutelaw05_wakes.f
  exact E.bval begin_f (E.bval (step_f beginB h5) (E.bval begin_f (E.bind (nibble_step beginB h5) (E.pos rfl (E.pos rfl (E.pos rfl (E.bval (x := spine_Begin.f) (a := 2654435769) rfl (E.nowEq rfl))))))))

open Bv in
theorem mixref_f (v : BitVec 32) : voluteref04_Mix.f (u v) = some (u (mixB v)) := by
  unfold voluteref04_Mix.f mixB xs
  simp only [shr16, xor32, ← u_c1, ← u_c2, mul32, shr15]

theorem Words_loop (a b : List Int) (hl : a.length < 4611686018427387904) (he : a.length = b.length) : ∀ (ra rb pa pb : List Int), a = pa ++ ra → b = pb ++ rb → pa.length = pb.length →
    Ev (fun k => volutekeep_Words.l0 k a b (pa.length : Int)) (decide (ra = rb)) := by
  intro ra
  induction ra with
  | nil =>
    intro rb pa pb ha hb hp
    have h1 : a.length = pa.length := by rw [ha]; simp
    have h2 : b.length = pb.length + rb.length := by rw [hb]; simp
    obtain rfl : rb = [] := List.eq_nil_of_length_eq_zero (by omega)
    exact E.step (fun _ => volutekeep_Words.l0.eq_2 ..) (E.neg (by omega) (E.nowEq (by simp)))
  | cons x ra ih =>
    intro rb pa pb ha hb hp
    have h1 : a.length = pa.length + (ra.length + 1) := by rw [ha]; simp
    have h2 : b.length = pb.length + rb.length := by rw [hb]; simp
    cases rb with
    | nil => simp only [List.length_nil] at h2; omega
    | cons y rb =>
      have e1 : rd a (pa.length : Int) = x := by rw [ha]; exact E.rd_at pa ra x
      have e2 : rd b (pa.length : Int) = y := by rw [hb]; exact E.rd_at' pb rb y pa.length hp.symm
      simp only [List.length_cons] at h2
      refine E.step (fun _ => volutekeep_Words.l0.eq_2 ..) (E.pos (by omega) (E.pos (by omega) (E.pos (by omega) ?_)))
      rw [e1, e2]
      by_cases hxy : x = y
      · subst hxy
        refine E.pos rfl ?_
        rw [E.wrap_snoc pa x (by omega)]
        have := ih rb (pa ++ [x]) (pb ++ [x]) (by rw [ha]; simp) (by rw [hb]; simp) (by simp [hp])
        exact E.eqv (by simp) this
      · exact E.neg hxy (E.nowEq (by simp [hxy]))
theorem Words_ev (a b : List Int) (hl : a.length < 4611686018427387904) : Ev (fun k => volutekeep_Words.f k a b) (decide (a = b)) := by
  unfold volutekeep_Words.f
  by_cases he : a.length = b.length
  · refine E.pos (by omega) ?_
    have := Words_loop a b hl he a b [] [] rfl rfl rfl
    simpa using this
  · exact E.neg (by omega) (E.nowEq (by
      have : ¬ a = b := fun h => he (by rw [h])
      simp [this]))

theorem Ints_loop (a b : List Int) (hl : a.length < 4611686018427387904) (he : a.length = b.length) : ∀ (ra rb pa pb : List Int), a = pa ++ ra → b = pb ++ rb → pa.length = pb.length →
    Ev (fun k => volutekeep_Ints.l0 k a b (pa.length : Int)) (decide (ra = rb)) := by
  intro ra
  induction ra with
  | nil =>
    intro rb pa pb ha hb hp
    have h1 : a.length = pa.length := by rw [ha]; simp
    have h2 : b.length = pb.length + rb.length := by rw [hb]; simp
    obtain rfl : rb = [] := List.eq_nil_of_length_eq_zero (by omega)
    exact E.step (fun _ => volutekeep_Ints.l0.eq_2 ..) (E.neg (by omega) (E.nowEq (by simp)))
  | cons x ra ih =>
    intro rb pa pb ha hb hp
    have h1 : a.length = pa.length + (ra.length + 1) := by rw [ha]; simp
    have h2 : b.length = pb.length + rb.length := by rw [hb]; simp
    cases rb with
    | nil => simp only [List.length_nil] at h2; omega
    | cons y rb =>
      have e1 : rd a (pa.length : Int) = x := by rw [ha]; exact E.rd_at pa ra x
      have e2 : rd b (pa.length : Int) = y := by rw [hb]; exact E.rd_at' pb rb y pa.length hp.symm
      simp only [List.length_cons] at h2
      refine E.step (fun _ => volutekeep_Ints.l0.eq_2 ..) (E.pos (by omega) (E.pos (by omega) (E.pos (by omega) ?_)))
      rw [e1, e2]
      by_cases hxy : x = y
      · subst hxy
        refine E.pos rfl ?_
        rw [E.wrap_snoc pa x (by omega)]
        have := ih rb (pa ++ [x]) (pb ++ [x]) (by rw [ha]; simp) (by rw [hb]; simp) (by simp [hp])
        exact E.eqv (by simp) this
      · exact E.neg hxy (E.nowEq (by simp [hxy]))
theorem Ints_ev (a b : List Int) (hl : a.length < 4611686018427387904) : Ev (fun k => volutekeep_Ints.f k a b) (decide (a = b)) := by
  unfold volutekeep_Ints.f
  by_cases he : a.length = b.length
  · refine E.pos (by omega) ?_
    have := Ints_loop a b hl he a b [] [] rfl rfl rfl
    simpa using this
  · exact E.neg (by omega) (E.nowEq (by
      have : ¬ a = b := fun h => he (by rw [h])
      simp [this]))

open Bv in
theorem refstep_f (s : BitVec 32) {x : Int} (h : okNib x) : voluteref04_Step.f (u s) x = some (u (stepB s x)) := by
  have e : x % 4294967296 = u (nib x) := by rw [u_nib h.1 (by have := h.2; omega)]; have := h.1; have := h.2; omega
  unfold voluteref04_Step.f
  rw [e, xor32, mixref_f]
  unfold stepB
  rfl
open Bv in
theorem refbegin_f : voluteref04_Begin.f = some (u beginB) := by unfold beginB; rfl
open Bv in
theorem refstates_loop (l : List Int) (hl : l.length ≤ 64) : ∀ (rest pre : List Int) (s : BitVec 32) (acc : List Int), l = pre ++ rest → acc.length = pre.length → (∀ x ∈ rest, okNib x) →
    Ev (fun k => voluteref04_States.l0 k l (u s) acc (pre.length : Int)) (acc ++ (E.scan stepB s rest).map u) := by
  intro rest
  induction rest with
  | nil =>
    intro pre s acc h ha _
    have hlen : l.length = pre.length := by rw [h]; simp
    exact E.step (fun _ => voluteref04_States.l0.eq_2 ..) (E.neg (by omega) (E.nowEq (by simp [E.scan_nil])))
  | cons x rest ih =>
    intro pre s acc h ha hok
    have hlen : l.length = pre.length + (rest.length + 1) := by rw [h]; simp
    have hp : rd l (pre.length : Int) = x := by rw [h]; exact E.rd_at pre rest x
    refine E.step (fun _ => voluteref04_States.l0.eq_2 ..) (E.pos (by omega) (E.pos (by omega) ?_))
    rw [hp]
    refine E.bval (refstep_f s (hok x (by simp))) (E.pos (by omega) ?_)
    rw [E.wrap_snoc pre x (by omega)]
    have := ih (pre ++ [x]) (stepB s x) (acc ++ [u (stepB s x)]) (by rw [h]; simp) (by simp [ha]) (fun y hy => hok y (by simp [hy]))
    refine E.eqv ?_ this
    rw [E.scan_cons]
    simp
open Bv in
theorem refstates_ev (l : List Int) (hl : l.length ≤ 64) (hok : ∀ x ∈ l, okNib x) : Ev (fun k => voluteref04_States.f k l) ((E.scan stepB beginB l).map u) := by
  unfold voluteref04_States.f
  refine E.bval refbegin_f ?_
  have := refstates_loop l hl l [] beginB [] rfl rfl hok
  simpa using this
open Bv in
theorem find_loop (s t : BitVec 32) (hd : u (backB t ^^^ s) < 16) : ∀ (d i : Nat), i + d = 16 → (i : Int) ≤ u (backB t ^^^ s) →
    Ev (fun k => volutelaw05_SpineExact.l0 k (u s) (u t) (u (backB t ^^^ s)) true (i : Int)) true := by
  intro d
  induction d with
  | zero => intro i hi h; omega
  | succ d ih =>
    intro i hi h
    have ok : okNib (i : Int) := by unfold okNib; omega
    refine E.step (fun _ => volutelaw05_SpineExact.l0.eq_2 ..) (E.pos (by omega) (E.bval (refstep_f s ok) ?_))
    have key : u (stepB s (i : Int)) = u t ↔ (i : Int) = u (backB t ^^^ s) := by
      rw [u_iff, step_iff, ← u_iff, u_nib (by omega) (by omega)]
    by_cases e : (i : Int) = u (backB t ^^^ s)
    · exact E.pos (key.2 e) (E.pos rfl (E.pos e.symm (E.bind wakes05 E.now)))
    · refine E.neg (fun h => e (key.1 h)) ?_
      rw [E.wrap_id (by omega) (by omega)]
      have := ih (i + 1) (by omega) (by omega)
      exact_mod_cast this
open Bv in
theorem none_loop (s t : BitVec 32) (hd : ¬ u (backB t ^^^ s) < 16) : ∀ (d i : Nat), i + d = 16 →
    Ev (fun k => volutelaw05_SpineExact.l0 k (u s) (u t) 0 false (i : Int)) true := by
  intro d
  induction d with
  | zero =>
    intro i hi
    exact E.step (fun _ => volutelaw05_SpineExact.l0.eq_2 ..) (E.neg (by omega) (E.neg (by simp) (E.pos rfl (E.bval begin_f (E.bval refbegin_f (E.pos rfl (E.bind wakes05 E.now)))))))
  | succ d ih =>
    intro i hi
    have ok : okNib (i : Int) := by unfold okNib; omega
    refine E.step (fun _ => volutelaw05_SpineExact.l0.eq_2 ..) (E.pos (by omega) (E.bval (refstep_f s ok) (E.neg ?_ ?_)))
    · intro h
      have h2 := (step_iff s t (i : Int)).1 (u_inj h)
      rw [← u_iff, u_nib (by omega) (by omega)] at h2
      omega
    · rw [E.wrap_id (by omega) (by omega)]
      have := ih (i + 1) (by omega)
      exact_mod_cast this
open Bv in
theorem j2_ev (s t : BitVec 32) : Ev (fun k => volutelaw05_SpineExact.j2 k (u s) (u t)) true := by
  refine E.step (fun _ => volutelaw05_SpineExact.j2.eq_2 ..) (E.bind (nibble_ev s t) ?_)
  have hu := u_nonneg (backB t ^^^ s)
  by_cases h : u (backB t ^^^ s) ≥ 16
  · rw [if_pos h]
    exact none_loop s t (by omega) 16 0 rfl
  · rw [if_neg h]
    exact find_loop s t (by omega) 16 0 rfl (by omega)
open Bv in
theorem j0_ev (s t : BitVec 32) (x : Int) : Ev (fun k => volutelaw05_SpineExact.j0 k (u s) x (u t)) true := by
  refine E.step (fun _ => volutelaw05_SpineExact.j0.eq_2 ..) ?_
  by_cases hx : okNib x
  · have h0 := hx.1
    have h1 := hx.2
    refine E.bval (step_f s hx) (E.neg (by omega) (E.step (fun _ => volutelaw05_SpineExact.j1.eq_2 ..) (E.neg (by simp; omega) (E.pos rfl (E.bval (refstep_f s hx) (E.pos rfl (j2_ev s t)))))))
  · refine E.bval (step_bad _ _ hx) ?_
    unfold okNib at hx
    by_cases h0 : x < 0
    · exact E.pos h0 (E.step (fun _ => volutelaw05_SpineExact.j1.eq_2 ..) (E.pos rfl (E.pos rfl (E.pos rfl (j2_ev s t)))))
    · exact E.neg h0 (E.step (fun _ => volutelaw05_SpineExact.j1.eq_2 ..) (E.pos (by simp; omega) (E.pos rfl (E.pos rfl (j2_ev s t)))))
open Bv in
theorem SpineExact : volutelaw05_SpineExact.Pure := by
  intro l a1 x a3 _ hsz _ h1 _ h3
  obtain ⟨s, rfl⟩ := exists_u32 (wf_u32 h1).1 (wf_u32 h1).2
  obtain ⟨t, rfl⟩ := exists_u32 (wf_u32 h3).1 (wf_u32 h3).2
  refine Ev.rounds ?_
  unfold volutelaw05_SpineExact.f
  by_cases h80 : l.length ≤ 80
  · have tw : volutekeep_TwinInts.f l = some l := by
      unfold volutekeep_TwinInts.f
      rw [if_pos (by simp only [List.length_nil]; omega)]
      rfl
    have I : Ev (fun k => volutekeep_Ints.f k l l) true := by simpa using Ints_ev l l (by omega)
    by_cases hl : l.length ≤ 64
    · by_cases hok : ∀ x ∈ l, okNib x
      · have P := path_ev l (by omega)
        rw [decide_eq_true hok] at P
        have hlen : ((E.scan stepB beginB l).map u).length = l.length := by simp [E.scan_length]
        have W : Ev (fun k => volutekeep_Words.f k ((E.scan stepB beginB l).map u) ((E.scan stepB beginB l).map u)) true := by simpa using Words_ev ((E.scan stepB beginB l).map u) ((E.scan stepB beginB l).map u) (by omega)
        exact E.neg (by omega) (E.bval tw (E.bind (states_ev l hl hok) (E.bind I (E.pos rfl (E.neg (by omega) (E.bind P (E.pos rfl (E.pos rfl (E.bind (refstates_ev l hl hok) (E.bind W (E.pos rfl (j0_ev s t x))))))))))))
      · have P := path_ev l (by omega)
        rw [decide_eq_false hok] at P
        have hb : ∃ x ∈ l, ¬ okNib x := by
          refine Classical.byContradiction fun h => hok fun x hx => ?_
          exact Classical.byContradiction fun hn => h ⟨x, hx, hn⟩
        exact E.neg (by omega) (E.bval tw (E.bind (states_bad l hl hb) (E.bind I (E.pos rfl (E.neg (by omega) (E.bind P (E.neg (by simp) (E.pos rfl (E.neg (by simp) (j0_ev s t x))))))))))
    · exact E.neg (by omega) (E.bval tw (E.bind (states_long l hl) (E.bind I (E.pos rfl (E.pos (by omega) (E.pos rfl (E.neg (by simp) (j0_ev s t x))))))))
  · exact E.pos (by omega) E.now

end Go.Proofs.Ytoenfedmohfkpaa.Pure
