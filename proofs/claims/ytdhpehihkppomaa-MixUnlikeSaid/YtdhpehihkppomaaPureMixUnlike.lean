/- Unlike numbers of 32 bits have unlike mixes and are turned back to unlike numbers, like ones to like ones. No condition. -/
import Derived.Test.YtdhpehihkppomaaPMixUnlikex1
import Derived.Test.YtdhpehihkppomaaBv
import Derived.Test.YtdhpehihkppomaaEv
namespace Go.Proofs.Ytdhpehihkppomaa.Pure
open Go.RowKit Go.Proofs.Ytdhpehihkppomaa.PMixUnlike Go.Proofs.YtdhpehihkppomaaW.PrintWords Go.Proofs.YtdhpehihkppomaaW.PrintLast
open Bv in
theorem mix_f (v : BitVec 32) : mix_Mix.f (u v) = some (u (mixB v)) := by
  unfold mix_Mix.f mixB xs
  simp only [shr16, xor32, ← u_c1, ← u_c2, mul32, shr15]

open Bv in
theorem inv_c2 : Ev (fun k => mix_inverse.f k 2221713035) (u d2) := Ev.of (fun k => mix_inverse.mono _ k) (k := 5) (by decide +kernel)
open Bv in
theorem inv_c1 : Ev (fun k => mix_inverse.f k 2146121005) (u d1) := Ev.of (fun k => mix_inverse.mono _ k) (k := 5) (by decide +kernel)
open Bv in
theorem back_ev (v : BitVec 32) : Ev (fun k => mix_Back.f k (u v)) (u (backB v)) := by
  unfold mix_Back.f
  refine E.bind inv_c2 (E.bind inv_c1 (E.nowEq ?_))
  unfold backB xs xt
  simp only [shr16, xor32, mul32, shr15, shr30]
open Bv in
theorem mix_one : ∃ v : BitVec 32, mix_Mix.f 1 = some (u v) ∧ ¬ u v = (0 : Int) := ⟨mixB 1#32, mix_f 1#32, by decide +kernel⟩
open Bv in
theorem mix_many : ∃ v : BitVec 32, mix_Mix.f 123456789 = some (u v) ∧ u (backB v) = (123456789 : Int) := ⟨mixB 123456789#32, mix_f 123456789#32, by rw [back_mix]; rfl⟩
open Bv in
theorem wakes04 : Ev (fun k => volutelaw04_wakes.f k) true := by
  unfold volutelaw04_wakes.f
  obtain ⟨v, h1, h3⟩ := mix_one
  obtain ⟨w, h2, h4⟩ := mix_many
  exact E.bval h1 (E.neg h3 (E.bval h2 (E.bind (back_ev w) (E.nowEq (beq_iff_eq.mpr h4)))))

open Bv in
theorem MixUnlike : volutelaw04_MixUnlike.Pure := by
  intro a0 a1 h0 h1
  obtain ⟨v, rfl⟩ := exists_u32 (wf_u32 h0).1 (wf_u32 h0).2
  obtain ⟨w, rfl⟩ := exists_u32 (wf_u32 h1).1 (wf_u32 h1).2
  refine Ev.rounds ?_
  unfold volutelaw04_MixUnlike.f
  have e1 : ((u (mixB v) == u (mixB w)) == (u v == u w)) = true := by
    by_cases h : v = w
    · subst h; simp
    · have h2 : ¬ mixB v = mixB w := fun e => h (mix_inj e)
      rw [beq_eq_false_iff_ne.mpr (fun e => h (u_inj e)), beq_eq_false_iff_ne.mpr (fun e => h2 (u_inj e))]; rfl
  have e2 : ((u (backB v) == u (backB w)) == (u v == u w)) = true := by
    by_cases h : v = w
    · subst h; simp
    · have h2 : ¬ backB v = backB w := fun e => h (back_inj e)
      rw [beq_eq_false_iff_ne.mpr (fun e => h (u_inj e)), beq_eq_false_iff_ne.mpr (fun e => h2 (u_inj e))]; rfl
  exact E.bval (mix_f v) (E.bval (mix_f w) (E.pos e1 (E.bind (back_ev v) (E.bind (back_ev w) (E.pos e2 (E.bind wakes04 E.now))))))

end Go.Proofs.Ytdhpehihkppomaa.Pure
