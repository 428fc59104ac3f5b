/- Two rows of at most 64 nibbles whose states are one somewhere, and whose nibbles are the same there, have the same state behind it; where the nibbles part, the states do; unlike states stay unlike under one nibble. No condition but the law's own. -/
import Derived.Test.YtoenfedmohfkpaaPSpineMergex2
import Derived.Test.YtoenfedmohfkpaaBv
import Derived.Test.YtoenfedmohfkpaaEv
namespace Go.Proofs.Ytoenfedmohfkpaa.Pure
open Go.RowKit Go.Proofs.Ytoenfedmohfkpaa.PSpineMerge Go.Proofs.YtoenfedmohfkpaaW.PrintWords Go.Proofs.YtoenfedmohfkpaaW.PrintLast
open Bv in
theorem mix_f (v : BitVec 32) : mix_Mix.f (u v) = some (u (mixB v)) := by
  unfold mix_Mix.f mixB xs
  simp only [shr16, xor32, ← u_c1, ← u_c2, mul32, shr15]

open Bv in
theorem inv_c2 : Ev (fun k => mix_inverse.f k 2221713035) (u d2) := Ev.of (fun k => mix_inverse.mono _ k) (k := 5) (by decide +kernel)
open Bv in
theorem inv_c1 : Ev (fun k => mix_inverse.f k 2146121005) (u d1) := Ev.of (fun k => mix_inverse.mono _ k) (k := 5) (by decide +kernel)
open Bv in
theorem back_ev (v : BitVec 32) : Ev (fun k => mix_Back.f k (u v)) (u (backB v)) := by
  unfold mix_Back.f
  refine E.bind inv_c2 (E.bind inv_c1 (E.nowEq ?_))
  unfold backB xs xt
  simp only [shr16, xor32, mul32, shr15, shr30]

open Bv in
/-- A nibble, as a state is turned by it. -/
def nib (x : Int) : BitVec 32 := BitVec.ofNat 32 x.toNat
open Bv in
/-- The state behind a nibble. -/
def stepB (s : BitVec 32) (x : Int) : BitVec 32 := mixB (s ^^^ nib x)
open Bv in
def beginB : BitVec 32 := 2654435769#32
def okNib (x : Int) : Prop := 0 ≤ x ∧ x ≤ 15
open Bv in
theorem u_nib {x : Int} (h0 : 0 ≤ x) (h1 : x < 4294967296) : u (nib x) = x := by
  unfold u nib
  rw [BitVec.toNat_ofNat, Nat.mod_eq_of_lt (by omega)]
  omega
theorem nib_inj {x y : Int} (hx : okNib x) (hy : okNib y) (h : nib x = nib y) : x = y := by
  obtain ⟨x0, x1⟩ := hx
  obtain ⟨y0, y1⟩ := hy
  rw [← u_nib x0 (by omega), ← u_nib y0 (by omega), h]
theorem xor_cancel (a b : BitVec 32) : a ^^^ b ^^^ a = b := by
  rw [BitVec.xor_comm a b, BitVec.xor_assoc, BitVec.xor_self, BitVec.xor_zero]
theorem xor_left_inj {a b c : BitVec 32} (h : a ^^^ b = a ^^^ c) : b = c := by
  rw [← xor_cancel a b, h, xor_cancel]
theorem xor_right_inj {a b c : BitVec 32} (h : a ^^^ c = b ^^^ c) : a = b := by
  rw [BitVec.xor_comm a c, BitVec.xor_comm b c] at h
  exact xor_left_inj h
open Bv in
theorem back_step (s : BitVec 32) (x : Int) : backB (stepB s x) = s ^^^ nib x := by unfold stepB; exact back_mix _
open Bv in
theorem step_iff (s t : BitVec 32) (x : Int) : stepB s x = t ↔ nib x = backB t ^^^ s := by
  constructor
  · intro h
    rw [← h, back_step, xor_cancel]
  · intro h
    unfold stepB
    rw [h, BitVec.xor_comm (backB t) s, ← BitVec.xor_assoc, BitVec.xor_self, BitVec.zero_xor, mix_back]
open Bv in
theorem step_inj {s : BitVec 32} {x y : Int} (hx : okNib x) (hy : okNib y) (h : stepB s x = stepB s y) : x = y := by
  unfold stepB at h
  exact nib_inj hx hy (xor_left_inj (mix_inj h))
open Bv in
theorem step_inj' {s t : BitVec 32} {x : Int} (h : stepB s x = stepB t x) : s = t := by
  unfold stepB at h
  exact xor_right_inj (mix_inj h)
open Bv in
theorem step_f (s : BitVec 32) {x : Int} (h : okNib x) : spine_Step.f (u s) x = some (u (stepB s x), 0) := by
  obtain ⟨h0, h1⟩ := h
  have e : x % 4294967296 = u (nib x) := by rw [u_nib h0 (by omega)]; omega
  unfold spine_Step.f
  rw [if_neg (by omega), if_neg (by omega), e, xor32, mix_f]
  rfl
theorem step_bad (a x : Int) (h : ¬ okNib x) : spine_Step.f a x = some (0, 1) := by
  unfold okNib at h
  unfold spine_Step.f
  by_cases h0 : x < 0
  · rw [if_pos h0]
  · rw [if_neg h0, if_pos (by omega)]
attribute [irreducible] stepB nib
open Bv in
theorem begin_f : spine_Begin.f = some (u beginB) := rfl
attribute [irreducible] beginB
open Bv in
theorem states_loop (l : List Int) (hl : l.length ≤ 64) : ∀ (rest pre : List Int) (s : BitVec 32) (acc : List Int), l = pre ++ rest → acc.length = pre.length → (∀ x ∈ rest, okNib x) →
    Ev (fun k => spine_States.l0 k acc (u s) l (l.length : Int) (pre.length : Int)) (acc ++ (E.scan stepB s rest).map u, 0) := by
  intro rest
  induction rest with
  | nil =>
    intro pre s acc h ha _
    have hlen : l.length = pre.length := by rw [h]; simp
    exact E.step (fun _ => spine_States.l0.eq_2 ..) (E.neg (by omega) (E.nowEq (by simp [E.scan_nil])))
  | cons x rest ih =>
    intro pre s acc h ha hok
    have hlen : l.length = pre.length + (rest.length + 1) := by rw [h]; simp
    have hp : rd l (pre.length : Int) = x := by rw [h]; exact E.rd_at pre rest x
    refine E.step (fun _ => spine_States.l0.eq_2 ..) (E.pos (by omega) (E.pos (by omega) (E.pos (by omega) ?_)))
    rw [hp]
    refine E.bval (step_f s (hok x (by simp))) (E.pos rfl (E.pos (by omega) ?_))
    rw [E.wrap_snoc pre x (by omega)]
    have := ih (pre ++ [x]) (stepB s x) (acc ++ [u (stepB s x)]) (by rw [h]; simp) (by simp [ha]) (fun y hy => hok y (by simp [hy]))
    refine E.eqv ?_ this
    rw [E.scan_cons]
    simp
open Bv in
theorem states_bad_loop (l : List Int) (hl : l.length ≤ 64) : ∀ (rest pre : List Int) (s : BitVec 32) (acc : List Int), l = pre ++ rest → acc.length = pre.length → (∃ x ∈ rest, ¬ okNib x) →
    Ev (fun k => spine_States.l0 k acc (u s) l (l.length : Int) (pre.length : Int)) ([], 1) := by
  intro rest
  induction rest with
  | nil =>
    intro pre s acc h ha hok
    obtain ⟨x, hx, _⟩ := hok
    cases hx
  | cons x rest ih =>
    intro pre s acc h ha hok
    have hlen : l.length = pre.length + (rest.length + 1) := by rw [h]; simp
    have hp : rd l (pre.length : Int) = x := by rw [h]; exact E.rd_at pre rest x
    refine E.step (fun _ => spine_States.l0.eq_2 ..) (E.pos (by omega) (E.pos (by omega) (E.pos (by omega) ?_)))
    rw [hp]
    by_cases hx : okNib x
    · refine E.bval (step_f s hx) (E.pos rfl (E.pos (by omega) ?_))
      rw [E.wrap_snoc pre x (by omega)]
      refine ih (pre ++ [x]) (stepB s x) (acc ++ [u (stepB s x)]) (by rw [h]; simp) (by simp [ha]) ?_
      obtain ⟨y, hy, hn⟩ := hok
      rcases List.mem_cons.1 hy with rfl | hy
      · exact absurd hx hn
      · exact ⟨y, hy, hn⟩
    · exact E.bval (step_bad _ _ hx) (E.neg (by decide) E.now)
open Bv in
theorem states_ev (l : List Int) (hl : l.length ≤ 64) (hok : ∀ x ∈ l, okNib x) : Ev (fun k => spine_States.f k l) ((E.scan stepB beginB l).map u, 0) := by
  unfold spine_States.f
  refine E.neg (by omega) (E.bval begin_f ?_)
  have := states_loop l hl l [] beginB [] rfl rfl hok
  simpa using this
theorem states_bad (l : List Int) (hl : l.length ≤ 64) (hok : ∃ x ∈ l, ¬ okNib x) : Ev (fun k => spine_States.f k l) ([], 1) := by
  unfold spine_States.f
  refine E.neg (by omega) (E.bval begin_f ?_)
  have := states_bad_loop l hl l [] beginB [] rfl rfl hok
  simpa using this
theorem states_long (l : List Int) (hl : ¬ l.length ≤ 64) : Ev (fun k => spine_States.f k l) ([], 2) := by
  unfold spine_States.f
  exact E.pos (by omega) E.now
instance decNib (x : Int) : Decidable (okNib x) := by unfold okNib; exact inferInstance
theorem path_loop (l : List Int) (hl : l.length < 4611686018427387904) : ∀ (rest pre : List Int), l = pre ++ rest → Ev (fun k => voluteref04_Path.l0 k l (pre.length : Int)) (decide (∀ x ∈ rest, okNib x)) := by
  intro rest
  induction rest with
  | nil =>
    intro pre h
    have hlen : l.length = pre.length := by rw [h]; simp
    exact E.step (fun _ => voluteref04_Path.l0.eq_2 ..) (E.neg (by omega) (E.nowEq (by simp)))
  | cons x rest ih =>
    intro pre h
    have hlen : l.length = pre.length + (rest.length + 1) := by rw [h]; simp
    have hp : rd l (pre.length : Int) = x := by rw [h]; exact E.rd_at pre rest x
    refine E.step (fun _ => voluteref04_Path.l0.eq_2 ..) (E.pos (by omega) (E.pos (by omega) ?_))
    rw [hp]
    by_cases h0 : x < 0
    · exact E.pos h0 (E.nowEq (by
        have : ¬ okNib x := by unfold okNib; omega
        simp [this]))
    · refine E.neg h0 ?_
      by_cases h1 : x > 15
      · exact E.pos h1 (E.nowEq (by
          have : ¬ okNib x := by unfold okNib; omega
          simp [this]))
      · refine E.neg h1 ?_
        rw [E.wrap_snoc pre x (by omega)]
        have := ih (pre ++ [x]) (by rw [h]; simp)
        refine E.eqv ?_ this
        have : okNib x := by unfold okNib; omega
        simp [this]
theorem path_ev (l : List Int) (hl : l.length < 4611686018427387904) : Ev (fun k => voluteref04_Path.f k l) (decide (∀ x ∈ l, okNib x)) := by
  unfold voluteref04_Path.f
  have := path_loop l hl l [] rfl
  simpa using this
open Bv in
theorem nibble_ev (s t : BitVec 32) : Ev (fun k => spine_Nibble.f k (u s) (u t)) (if u (backB t ^^^ s) ≥ 16 then (0, false) else (u (backB t ^^^ s), true)) := by
  unfold spine_Nibble.f
  refine E.bind (back_ev t) ?_
  rw [xor32]
  have hu := u_nonneg (backB t ^^^ s)
  have hv := u_lt32 (backB t ^^^ s)
  by_cases h : u (backB t ^^^ s) ≥ 16
  · exact E.pos h (E.nowEq (by rw [if_pos h]))
  · exact E.neg h (E.nowEq (by rw [if_neg h, E.wrap_id (by omega) (by omega)]))
open Bv in
theorem nibble_step (s : BitVec 32) {x : Int} (h : okNib x) : Ev (fun k => spine_Nibble.f k (u s) (u (stepB s x))) (x, true) := by
  have := nibble_ev s (stepB s x)
  rw [back_step, xor_cancel, u_nib h.1 (by have := h.2; omega), if_neg (by have := h.2; omega)] at this
  exact this
theorem wakes05 : Ev (fun k => volutelaw05_wakes.f k) true := by
  have h5 : okNib 5 := by unfold okNib; omega
  unfold volutelaw05_wakes.f
  exact E.bval begin_f (E.bval (step_f beginB h5) (E.bval begin_f (E.bind (nibble_step beginB h5) (E.pos rfl (E.pos rfl (E.pos rfl (E.bval (x := spine_Begin.f) (a := 2654435769) rfl (E.nowEq rfl))))))))

open Bv in
theorem SpineMerge_loop (a b : List Int) (ha : a.length ≤ 64) (X Y : List Int) : ∀ (ra rb pa pb pX pY : List Int) (s t : BitVec 32), a = pa ++ ra → b = pb ++ rb → pa.length = pb.length → X = pX ++ (E.scan stepB s ra).map u → Y = pY ++ (E.scan stepB t rb).map u → pX.length = pa.length → pY.length = pa.length → (∀ x ∈ ra, okNib x) → (∀ x ∈ rb, okNib x) →
    Ev (fun k => volutelaw05_SpineMerge.l0 k a b X Y (u s) (u t) (pa.length : Int)) true := by
  intro ra
  induction ra with
  | nil =>
    intro rb pa pb pX pY s t h1 h2 hp hX hY hpX hpY _ _
    have hlen : a.length = pa.length := by rw [h1]; simp
    exact E.step (fun _ => volutelaw05_SpineMerge.l0.eq_2 ..) (E.neg (by omega) (E.step (fun _ => volutelaw05_SpineMerge.j3.eq_2 ..) (E.neg (by simp) (E.bind wakes05 E.now))))
  | cons x ra ih =>
    intro rb pa pb pX pY s t h1 h2 hp hX hY hpX hpY oka okb
    have hlen : a.length = pa.length + (ra.length + 1) := by rw [h1]; simp
    have hlen2 : b.length = pa.length + rb.length := by rw [h2, hp]; simp
    refine E.step (fun _ => volutelaw05_SpineMerge.l0.eq_2 ..) (E.pos (by omega) ?_)
    cases rb with
    | nil =>
      simp only [List.length_nil] at hlen2
      rw [decide_eq_false (show ¬ (pa.length : Int) < (b.length : Int) by omega)]
      exact E.step (fun _ => volutelaw05_SpineMerge.j3.eq_2 ..) (E.neg (by simp) (E.bind wakes05 E.now))
    | cons y rb =>
      simp only [List.length_cons] at hlen2
      rw [decide_eq_true (show (pa.length : Int) < (b.length : Int) by omega)]
      have hx := oka x (by simp)
      have hy := okb y (by simp)
      have e1 : rd a (pa.length : Int) = x := by rw [h1]; exact E.rd_at pa ra x
      have e2 : rd b (pa.length : Int) = y := by rw [h2]; exact E.rd_at' pb rb y _ hp.symm
      have e3 : rd X (pa.length : Int) = u (stepB s x) := by rw [hX, E.scan_cons, List.map_cons]; exact E.rd_at' pX _ _ _ hpX
      have e4 : rd Y (pa.length : Int) = u (stepB t y) := by rw [hY, E.scan_cons, List.map_cons]; exact E.rd_at' pY _ _ _ hpY
      have hlX : X.length = pa.length + (ra.length + 1) := by rw [hX]; simp [E.scan_length, hpX]
      have hlY : Y.length = pa.length + (rb.length + 1) := by rw [hY]; simp [E.scan_length, hpY]
      have next : Ev (fun k => volutelaw05_SpineMerge.l0 k a b X Y (u (stepB s x)) (u (stepB t y)) (wrap64 ((pa.length : Int) + 1))) true := by
        rw [E.wrap_snoc pa x (by omega)]
        exact ih rb (pa ++ [x]) (pb ++ [y]) (pX ++ [u (stepB s x)]) (pY ++ [u (stepB t y)]) (stepB s x) (stepB t y) (by rw [h1]; simp) (by rw [h2]; simp) (by simp [hp]) (by rw [hX, E.scan_cons]; simp) (by rw [hY, E.scan_cons]; simp) (by simp [hpX]) (by simp [hpY]) (fun z hz => oka z (by simp [hz])) (fun z hz => okb z (by simp [hz]))
      refine E.step (fun _ => volutelaw05_SpineMerge.j3.eq_2 ..) (E.pos rfl ?_)
      by_cases hst : s = t
      · subst hst
        refine E.pos rfl (E.pos (by omega) (E.pos (by omega) (E.pos (by omega) (E.pos (by omega) (E.pos (by omega) ?_)))))
        rw [e1, e2, e3, e4]
        refine E.neg ?_ next
        by_cases hxy : x = y
        · subst hxy; simp
        · have : ¬ u (stepB s x) = u (stepB s y) := fun e => hxy (step_inj hx hy (u_inj e))
          rw [beq_eq_false_iff_ne.mpr this, beq_eq_false_iff_ne.mpr hxy]
          decide
      · refine E.neg (fun e => hst (u_inj e)) (E.pos (by omega) (E.pos (by omega) (E.pos (by omega) ?_)))
        rw [e1, e2, e3, e4]
        by_cases hxy : x = y
        · refine E.pos hxy (E.pos (by omega) (E.pos (by omega) (E.neg ?_ next)))
          subst hxy
          exact fun e => hst (step_inj' (u_inj e))
        · exact E.neg hxy (E.pos (by omega) (E.pos (by omega) next))
open Bv in
theorem SpineMerge : volutelaw05_SpineMerge.Pure := by
  intro a b _ _ _ _ _ _
  refine Ev.rounds ?_
  unfold volutelaw05_SpineMerge.f
  have T : Ev (fun k => volutelaw05_SpineMerge.j0 k a b true) true := E.step (fun _ => volutelaw05_SpineMerge.j0.eq_2 ..) (E.pos rfl E.now)
  by_cases ha : a.length ≤ 64
  · refine E.neg (by omega) ?_
    by_cases hb : b.length ≤ 64
    · refine E.neg (by omega) (E.bind (path_ev a (by omega)) ?_)
      by_cases oka : ∀ x ∈ a, okNib x
      · rw [decide_eq_true oka]
        refine E.pos rfl (E.bind (path_ev b (by omega)) ?_)
        by_cases okb : ∀ x ∈ b, okNib x
        · rw [decide_eq_true okb]
          have hla : ((E.scan stepB beginB a).map u).length = a.length := by simp [E.scan_length]
          have hlb : ((E.scan stepB beginB b).map u).length = b.length := by simp [E.scan_length]
          refine E.step (fun _ => volutelaw05_SpineMerge.j0.eq_2 ..) (E.neg (by simp) (E.bind (states_ev a ha oka) (E.bind (states_ev b hb okb) (E.pos rfl (E.pos rfl (E.pos (by rw [hla]) ?_))))))
          refine E.step (fun _ => volutelaw05_SpineMerge.j1.eq_2 ..) (E.neg (by simp [hlb]) (E.bval begin_f ?_))
          have := SpineMerge_loop a b ha ((E.scan stepB beginB a).map u) ((E.scan stepB beginB b).map u) a b [] [] [] [] beginB beginB rfl rfl rfl rfl rfl rfl rfl oka okb
          simpa using this
        · rw [decide_eq_false okb]
          exact T
      · rw [decide_eq_false oka]
        exact E.neg (by simp) T
    · exact E.pos (by omega) T
  · exact E.pos (by omega) T

end Go.Proofs.Ytoenfedmohfkpaa.Pure
