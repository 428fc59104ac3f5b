/- A number of 32 bits that is mixed so many times, and turned back as many times, is what it was. No condition. -/
import Derived.Test.YtdhpehihkppomaaPMixChainsx1
import Derived.Test.YtdhpehihkppomaaBv
import Derived.Test.YtdhpehihkppomaaEv
namespace Go.Proofs.Ytdhpehihkppomaa.Pure
open Go.RowKit Go.Proofs.Ytdhpehihkppomaa.PMixChains Go.Proofs.YtdhpehihkppomaaW.PrintWords Go.Proofs.YtdhpehihkppomaaW.PrintLast
open Bv in
theorem mix_f (v : BitVec 32) : mix_Mix.f (u v) = some (u (mixB v)) := by
  unfold mix_Mix.f mixB xs
  simp only [shr16, xor32, ← u_c1, ← u_c2, mul32, shr15]

open Bv in
theorem inv_c2 : Ev (fun k => mix_inverse.f k 2221713035) (u d2) := Ev.of (fun k => mix_inverse.mono _ k) (k := 5) (by decide +kernel)
open Bv in
theorem inv_c1 : Ev (fun k => mix_inverse.f k 2146121005) (u d1) := Ev.of (fun k => mix_inverse.mono _ k) (k := 5) (by decide +kernel)
open Bv in
theorem back_ev (v : BitVec 32) : Ev (fun k => mix_Back.f k (u v)) (u (backB v)) := by
  unfold mix_Back.f
  refine E.bind inv_c2 (E.bind inv_c1 (E.nowEq ?_))
  unfold backB xs xt
  simp only [shr16, xor32, mul32, shr15, shr30]
open Bv in
theorem mix_one : ∃ v : BitVec 32, mix_Mix.f 1 = some (u v) ∧ ¬ u v = (0 : Int) := ⟨mixB 1#32, mix_f 1#32, by decide +kernel⟩
open Bv in
theorem mix_many : ∃ v : BitVec 32, mix_Mix.f 123456789 = some (u v) ∧ u (backB v) = (123456789 : Int) := ⟨mixB 123456789#32, mix_f 123456789#32, by rw [back_mix]; rfl⟩
open Bv in
theorem wakes04 : Ev (fun k => volutelaw04_wakes.f k) true := by
  unfold volutelaw04_wakes.f
  obtain ⟨v, h1, h3⟩ := mix_one
  obtain ⟨w, h2, h4⟩ := mix_many
  exact E.bval h1 (E.neg h3 (E.bval h2 (E.bind (back_ev w) (E.nowEq (beq_iff_eq.mpr h4)))))

open Bv in
theorem down (n : Nat) (v : BitVec 32) (hn : n ≤ 100) : ∀ (d : Nat) (i : Int), 0 ≤ i → (n : Int) - i = d →
    Ev (fun k => volutelaw04_MixChains.l1 k (u v) n (u (E.many mixB d v)) i) true := by
  intro d
  induction d with
  | zero =>
    intro i h0 hd
    exact E.step (fun _ => volutelaw04_MixChains.l1.eq_2 ..) (E.neg (by omega) (E.pos rfl (E.bind wakes04 E.now)))
  | succ d ih =>
    intro i h0 hd
    refine E.step (fun _ => volutelaw04_MixChains.l1.eq_2 ..) (E.pos (by omega) (E.bind (back_ev _) ?_))
    rw [E.many_succ, back_mix, E.wrap_id (by omega) (by omega)]
    exact ih (i + 1) (by omega) (by omega)
open Bv in
theorem updo (n : Nat) (v : BitVec 32) (hn : n ≤ 100) : ∀ (d : Nat) (i : Nat), i + d = n →
    Ev (fun k => volutelaw04_MixChains.l0 k (u v) n (u (E.many mixB i v)) i) true := by
  intro d
  induction d with
  | zero =>
    intro i hd
    obtain rfl : i = n := by omega
    exact E.step (fun _ => volutelaw04_MixChains.l0.eq_2 ..) (E.neg (by omega) (down i v hn i 0 (by omega) (by omega)))
  | succ d ih =>
    intro i hd
    refine E.step (fun _ => volutelaw04_MixChains.l0.eq_2 ..) (E.pos (by omega) (E.bval (mix_f _) ?_))
    rw [← E.many_succ mixB, E.wrap_id (by omega) (by omega)]
    have := ih (i + 1) (by omega)
    exact_mod_cast this
open Bv in
theorem MixChains : volutelaw04_MixChains.Pure := by
  intro a0 a1 h0 h1
  obtain ⟨v, rfl⟩ := exists_u32 (wf_u32 h0).1 (wf_u32 h0).2
  refine Ev.rounds ?_
  unfold volutelaw04_MixChains.f
  have hw : 0 ≤ IntKind.u64.wrap a1 := by rw [IntKind.wrap_u64]; omega
  have hr := Int.tmod_nonneg 100 hw
  have hl := Int.tmod_lt_of_pos (IntKind.u64.wrap a1) (show (0 : Int) < 100 by omega)
  have e : wrap64 (Int.tmod (IntKind.u64.wrap a1) 100) = Int.tmod (IntKind.u64.wrap a1) 100 := E.wrap_id (by omega) (by omega)
  rw [e]
  obtain ⟨n, hn⟩ := Int.eq_ofNat_of_zero_le hr
  rw [hn]
  exact updo n v (by omega) n 0 (by omega)

end Go.Proofs.Ytdhpehihkppomaa.Pure
