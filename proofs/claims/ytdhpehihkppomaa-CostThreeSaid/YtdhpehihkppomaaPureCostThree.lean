/- Of three states, what two cost by the third one's symbols is no less than what one costs by the other's; by its own each costs nothing; by one another's the same. No condition but the law's own (at most 16 places). -/
import Derived.Test.YtdhpehihkppomaaPCostThreex2
import Derived.Test.YtdhpehihkppomaaBv
import Derived.Test.YtdhpehihkppomaaEv
import Derived.Test.YtdhpehihkppomaaPop
namespace Go.Proofs.Ytdhpehihkppomaa.Pure
open Go.RowKit Go.Proofs.Ytdhpehihkppomaa.PCostThree Go.Proofs.YtdhpehihkppomaaW.PrintWords Go.Proofs.YtdhpehihkppomaaW.PrintLast
open Bv in
theorem mix_f (v : BitVec 32) : mix_Mix.f (u v) = some (u (mixB v)) := by
  unfold mix_Mix.f mixB xs
  simp only [shr16, xor32, ← u_c1, ← u_c2, mul32, shr15]

theorem pop_tbl : ∀ i : Nat, i < 256 → bt (⟨#[0, 1, 1, 2, 1, 2, 2, 3, 1, 2, 2, 3, 2, 3, 3, 4, 1, 2, 2, 3, 2, 3, 3, 4, 2, 3, 3, 4, 3, 4, 4, 5, 1, 2, 2, 3, 2, 3, 3, 4, 2, 3, 3, 4, 3, 4, 4, 5, 2, 3, 3, 4, 3, 4, 4, 5, 3, 4, 4, 5, 4, 5, 5, 6, 1, 2, 2, 3, 2, 3, 3, 4, 2, 3, 3, 4, 3, 4, 4, 5, 2, 3, 3, 4, 3, 4, 4, 5, 3, 4, 4, 5, 4, 5, 5, 6, 2, 3, 3, 4, 3, 4, 4, 5, 3, 4, 4, 5, 4, 5, 5, 6, 3, 4, 4, 5, 4, 5, 5, 6, 4, 5, 5, 6, 5, 6, 6, 7, 1, 2, 2, 3, 2, 3, 3, 4, 2, 3, 3, 4, 3, 4, 4, 5, 2, 3, 3, 4, 3, 4, 4, 5, 3, 4, 4, 5, 4, 5, 5, 6, 2, 3, 3, 4, 3, 4, 4, 5, 3, 4, 4, 5, 4, 5, 5, 6, 3, 4, 4, 5, 4, 5, 5, 6, 4, 5, 5, 6, 5, 6, 6, 7, 2, 3, 3, 4, 3, 4, 4, 5, 3, 4, 4, 5, 4, 5, 5, 6, 3, 4, 4, 5, 4, 5, 5, 6, 4, 5, 5, 6, 5, 6, 6, 7, 3, 4, 4, 5, 4, 5, 5, 6, 4, 5, 5, 6, 5, 6, 6, 7, 4, 5, 5, 6, 5, 6, 6, 7, 5, 6, 6, 7, 6, 7, 7, 8]⟩ : ByteArray) (i : Int) = ((Pop.pop 8 i : Nat) : Int) := by decide +kernel
theorem and255 (x : Nat) (hx : x < 4294967296) : Go.bits .and .u32 (x : Int) 255 = ((x % 256 : Nat) : Int) := by
  have h := u32_and_nat x 255 hx (by omega)
  rw [nat_mask8] at h
  exact h
theorem ones32_f (x : Nat) (hx : x < 4294967296) : bits_OnesCount32.f (x : Int) = some ((Pop.pop 32 x : Nat) : Int) := by
  have e3 : (x : Int) / 16777216 = ((x / 16777216 : Nat) : Int) := by omega
  have e2 : (x : Int) / 65536 = ((x / 65536 : Nat) : Int) := by omega
  have e1 : (x : Int) / 256 = ((x / 256 : Nat) : Int) := by omega
  have H := pop_tbl
  unfold bits_OnesCount32.f
  generalize (⟨#[0, 1, 1, 2, 1, 2, 2, 3, 1, 2, 2, 3, 2, 3, 3, 4, 1, 2, 2, 3, 2, 3, 3, 4, 2, 3, 3, 4, 3, 4, 4, 5, 1, 2, 2, 3, 2, 3, 3, 4, 2, 3, 3, 4, 3, 4, 4, 5, 2, 3, 3, 4, 3, 4, 4, 5, 3, 4, 4, 5, 4, 5, 5, 6, 1, 2, 2, 3, 2, 3, 3, 4, 2, 3, 3, 4, 3, 4, 4, 5, 2, 3, 3, 4, 3, 4, 4, 5, 3, 4, 4, 5, 4, 5, 5, 6, 2, 3, 3, 4, 3, 4, 4, 5, 3, 4, 4, 5, 4, 5, 5, 6, 3, 4, 4, 5, 4, 5, 5, 6, 4, 5, 5, 6, 5, 6, 6, 7, 1, 2, 2, 3, 2, 3, 3, 4, 2, 3, 3, 4, 3, 4, 4, 5, 2, 3, 3, 4, 3, 4, 4, 5, 3, 4, 4, 5, 4, 5, 5, 6, 2, 3, 3, 4, 3, 4, 4, 5, 3, 4, 4, 5, 4, 5, 5, 6, 3, 4, 4, 5, 4, 5, 5, 6, 4, 5, 5, 6, 5, 6, 6, 7, 2, 3, 3, 4, 3, 4, 4, 5, 3, 4, 4, 5, 4, 5, 5, 6, 3, 4, 4, 5, 4, 5, 5, 6, 4, 5, 5, 6, 5, 6, 6, 7, 3, 4, 4, 5, 4, 5, 5, 6, 4, 5, 5, 6, 5, 6, 6, 7, 4, 5, 5, 6, 5, 6, 6, 7, 5, 6, 6, 7, 6, 7, 7, 8]⟩ : ByteArray) = T at H ⊢
  rw [e3, e2, e1, and255 _ (by omega), and255 _ (by omega), and255 _ hx]
  rw [if_pos (by omega), if_pos (by omega), if_pos (by omega), if_pos (by omega), if_pos (by omega), if_pos (by omega), if_pos (by omega), if_pos (by omega)]
  rw [H _ (by omega), H _ (by omega), H _ (by omega), H _ (by omega)]
  have q := Pop.pop32 x
  have b0 := Pop.pop_le 8 (x % 256)
  have b1 := Pop.pop_le 8 (x / 256 % 256)
  have b2 := Pop.pop_le 8 (x / 65536 % 256)
  have b3 := Pop.pop_le 8 (x / 16777216 % 256)
  have m3 : x / 16777216 % 256 = x / 16777216 := by omega
  rw [m3] at q b3
  rw [q]
  generalize Pop.pop 8 (x % 256) = c0 at *
  generalize Pop.pop 8 (x / 256 % 256) = c1 at *
  generalize Pop.pop 8 (x / 65536 % 256) = c2 at *
  generalize Pop.pop 8 (x / 16777216) = c3 at *
  congr 1
  omega
/-- The ones among a number's lowest 32 bits; none of one below 0. -/
def onesI (n : Int) : Int := if n < 0 then 0 else ((Pop.pop 32 n.toNat : Nat) : Int)
theorem ones_f (n : Int) : bit_Ones.f n = some (onesI n) := by
  unfold bit_Ones.f onesI
  by_cases h : n < 0
  · rw [if_pos h, if_pos h]
  · have e : n % 4294967296 = ((n.toNat % 4294967296 : Nat) : Int) := by omega
    rw [if_neg h, if_neg h, e, ones32_f _ (by omega), Pop.pop_mod 32]
    rfl
theorem ones_nat (x : Nat) : bit_Ones.f (x : Int) = some ((Pop.pop 32 x : Nat) : Int) := by
  rw [ones_f]
  unfold onesI
  rw [if_neg (by omega), Int.toNat_natCast]
theorem xori (a b : Nat) (ha : a < 9223372036854775808) (hb : b < 9223372036854775808) : Go.bits .xor .i64 (a : Int) (b : Int) = ((a ^^^ b : Nat) : Int) := by
  have hx : a ^^^ b < 2 ^ 63 := Nat.xor_lt_two_pow (by omega) (by omega)
  have h1 : (BitVec.ofInt 64 (a : Int)).toNat = a := by
    rw [BitVec.ofInt_natCast, BitVec.toNat_ofNat]; exact Nat.mod_eq_of_lt (by omega)
  have h2 : (BitVec.ofInt 64 (b : Int)).toNat = b := by
    rw [BitVec.ofInt_natCast, BitVec.toNat_ofNat]; exact Nat.mod_eq_of_lt (by omega)
  show IntKind.i64.wrap ((BitVec.ofInt 64 (a : Int) ^^^ BitVec.ofInt 64 (b : Int)).toNat : Int) = _
  rw [BitVec.toNat_xor, h1, h2, IntKind.wrap_i64]
  omega

open Bv in
/-- A state's symbol at an index. -/
def symB (v : BitVec 32) (i : Nat) : Nat := if i < 4 then v.toNat / 2 ^ (8 * i) % 256 else (mixB (v + BitVec.ofNat 32 i * 2654435769#32)).toNat % 256
theorem symB_lt (v : BitVec 32) (i : Nat) : symB v i < 256 := by
  unfold symB
  split <;> omega
attribute [irreducible] symB
theorem shr_u32 (x i : Nat) (hi : i ≤ 32) : shr .u32 (x : Int) (i : Int) = ((x / 2 ^ i : Nat) : Int) := by
  unfold shr
  rw [Int.toNat_natCast, Nat.min_eq_left (by simpa [IntKind.bits] using hi)]
  exact_mod_cast rfl
open Bv in
theorem far_u (v : BitVec 32) (i : Nat) (hi : i ≤ 255) : (u v + ((i : Int) % 4294967296 * 2654435769) % 4294967296) % 4294967296 = u (v + BitVec.ofNat 32 i * 2654435769#32) := by
  rw [← add32, ← mul32]
  have e : u (BitVec.ofNat 32 i) = (i : Int) := by
    unfold u
    rw [BitVec.toNat_ofNat, Nat.mod_eq_of_lt (by omega)]
  have e2 : u (2654435769#32) = (2654435769 : Int) := rfl
  rw [e, e2]
  omega
open Bv in
theorem sym_ev (v : BitVec 32) (i : Nat) (hi : i ≤ 255) : Ev (fun k => symbol_Of.f k (u v) (i : Int)) ((symB v i : Int), 0) := by
  unfold symbol_Of.f
  refine E.neg (by omega) (E.step (fun _ => symbol_Of.j0.eq_2 ..) (E.neg (by simp; omega) ?_))
  by_cases h : i < 4
  · have e : wrap64 (8 * (i : Int)) = ((8 * i : Nat) : Int) := by rw [E.wrap_id (by omega) (by omega)]; omega
    refine E.pos (by omega) ?_
    rw [e]
    refine E.pos (by omega) (E.nowEq ?_)
    have hs : u v = ((v.toNat : Nat) : Int) := rfl
    have hv := v.isLt
    have hd : v.toNat / 2 ^ (8 * i) ≤ v.toNat := Nat.div_le_self _ _
    rw [hs, shr_u32 v.toNat (8 * i) (by omega), and255 _ (by omega), E.wrap_id (by omega) (by omega)]
    unfold symB
    rw [if_pos h]
  · refine E.neg (by omega) ?_
    rw [far_u v i hi]
    refine E.bval (mix_f _) (E.nowEq ?_)
    unfold symB
    rw [if_neg h]
    generalize mixB (v + BitVec.ofNat 32 i * 2654435769#32) = y
    have hs : u y = ((y.toNat : Nat) : Int) := rfl
    have hv := y.isLt
    rw [hs, and255 _ (by omega), E.wrap_id (by omega) (by omega)]
theorem sym_bad (a0 i : Int) (h : i < 0 ∨ 255 < i) : Ev (fun k => symbol_Of.f k a0 i) (0, 1) := by
  unfold symbol_Of.f
  by_cases h0 : i < 0
  · exact E.pos h0 (E.step (fun _ => symbol_Of.j0.eq_2 ..) (E.pos rfl E.now))
  · exact E.neg h0 (E.step (fun _ => symbol_Of.j0.eq_2 ..) (E.pos (by simp; omega) E.now))

/-- What a symbol that was heard costs a state. -/
def cost1 (v : BitVec 32) (p : S45) : Nat := Pop.pop 32 (symB v p.f0.toNat ^^^ p.f1.toNat)
def costL (v : BitVec 32) (l : List S45) : Nat := (l.map (cost1 v)).sum
theorem cost1_le (v : BitVec 32) (p : S45) : cost1 v p ≤ 32 := Pop.pop_le _ _
attribute [irreducible] cost1
def okSym (p : S45) : Prop := 0 ≤ p.f0 ∧ p.f0 ≤ 255 ∧ 0 ≤ p.f1 ∧ p.f1 ≤ 255
theorem rd_mid (pre rest : List S45) (p : S45) : rd_T45 (pre ++ p :: rest) (pre.length : Int) = p := by
  unfold rd_T45
  simp
open Bv in
theorem sum_loop (v : BitVec 32) (l : List S45) (hl : l.length ≤ 16) (hok : ∀ p ∈ l, okSym p) : ∀ (rest pre : List S45) (acc : Nat), l = pre ++ rest → acc ≤ 32 * pre.length →
    Ev (fun k => cost_Sum.l0 k (u v) (acc : Int) l (l.length : Int) (pre.length : Int)) ((acc + costL v rest : Nat) : Int) := by
  intro rest
  induction rest with
  | nil =>
    intro pre acc h ha
    have hlen : l.length = pre.length := by rw [h]; simp
    exact E.step (fun _ => cost_Sum.l0.eq_2 ..) (E.neg (by omega) (E.nowEq (by simp [costL])))
  | cons p rest ih =>
    intro pre acc h ha
    have hlen : l.length = pre.length + (rest.length + 1) := by rw [h]; simp
    have hp : rd_T45 l (pre.length : Int) = p := by rw [h]; exact rd_mid pre rest p
    obtain ⟨o1, o2, o3, o4⟩ := hok p (by rw [h]; simp)
    have e0 : p.f0 = ((p.f0.toNat : Nat) : Int) := by omega
    have e1 : p.f1 = ((p.f1.toNat : Nat) : Int) := by omega
    have hs := symB_lt v p.f0.toNat
    refine E.step (fun _ => cost_Sum.l0.eq_2 ..) (E.pos (by omega) (E.pos (by omega) (E.pos (by omega) ?_)))
    rw [hp]
    have S : Ev (fun k => symbol_Of.f k (u v) p.f0) ((symB v p.f0.toNat : Int), 0) := by
      have := sym_ev v p.f0.toNat (by omega)
      rwa [← e0] at this
    refine E.bind S (E.bval (a := ((cost1 v p : Nat) : Int)) ?_ ?_)
    · show bit_Ones.f (Go.bits .xor .i64 ((symB v p.f0.toNat : Nat) : Int) p.f1) = _
      rw [e1, xori _ _ (by omega) (by omega), ones_nat]
      unfold cost1
      rfl
    · have hc := cost1_le v p
      have hb : acc + cost1 v p ≤ 32 * (pre ++ [p]).length := by
        rw [List.length_append, List.length_singleton]
        clear S h hp hok ih e0 e1 hs
        omega
      have w1 := E.wrap_add acc (cost1 v p) (by clear S h hp hok ih e0 e1 hs; omega)
      have w2 : wrap64 ((pre.length : Int) + 1) = (((pre ++ [p]).length : Nat) : Int) := by rw [E.wrap_id (by omega) (by omega)]; simp
      rw [w1, w2]
      have := ih (pre ++ [p]) (acc + cost1 v p) (by rw [h]; simp) hb
      have e : acc + cost1 v p + costL v rest = acc + costL v (p :: rest) := by unfold costL; rw [List.map_cons, List.sum_cons, Nat.add_assoc]
      rw [e] at this
      exact this
open Bv in
theorem sum_ev (v : BitVec 32) (l : List S45) (hl : l.length ≤ 16) (hok : ∀ p ∈ l, okSym p) : Ev (fun k => cost_Sum.f k (u v) l) ((costL v l : Nat) : Int) := by
  unfold cost_Sum.f
  have := sum_loop v l hl hok l [] 0 rfl (by simp)
  simpa using this
open Bv in
theorem of_loop (v : BitVec 32) (l : List S45) (hl : l.length ≤ 16) (hok : ∀ p ∈ l, okSym p) : ∀ (rest pre : List S45), l = pre ++ rest →
    Ev (fun k => cost_Of.l0 k (u v) l l (l.length : Int) (pre.length : Int)) (((costL v l : Nat) : Int), 0) := by
  intro rest
  induction rest with
  | nil =>
    intro pre h
    have hlen : l.length = pre.length := by rw [h]; simp
    exact E.step (fun _ => cost_Of.l0.eq_2 ..) (E.neg (by omega) (E.bind (sum_ev v l hl hok) E.now))
  | cons p rest ih =>
    intro pre h
    have hlen : l.length = pre.length + (rest.length + 1) := by rw [h]; simp
    have hp : rd_T45 l (pre.length : Int) = p := by rw [h]; exact rd_mid pre rest p
    obtain ⟨o1, o2, o3, o4⟩ := hok p (by rw [h]; simp)
    refine E.step (fun _ => cost_Of.l0.eq_2 ..) (E.pos (by omega) (E.pos (by omega) (E.pos (by omega) ?_)))
    rw [hp]
    refine E.neg (by omega) (E.neg (by omega) (E.neg (by omega) (E.neg (by omega) ?_)))
    have w2 : wrap64 ((pre.length : Int) + 1) = (((pre ++ [p]).length : Nat) : Int) := by rw [E.wrap_id (by omega) (by omega)]; simp
    rw [w2]
    exact ih (pre ++ [p]) (by rw [h]; simp)
open Bv in
theorem of_ev (v : BitVec 32) (l : List S45) (hl : l.length ≤ 16) (hok : ∀ p ∈ l, okSym p) : Ev (fun k => cost_Of.f k (u v) l) (((costL v l : Nat) : Int), 0) := by
  unfold cost_Of.f
  refine E.neg (by omega) ?_
  have := of_loop v l hl hok l [] rfl
  simpa using this
open Bv in
theorem wakes10 : Ev (fun k => volutelaw10_wakes.f k) true := by
  unfold volutelaw10_wakes.f
  have h := of_ev 0#32 [(⟨0, 255⟩ : S45)] (by simp) (by intro p hp; simp at hp; subst hp; exact ⟨by decide, by decide, by decide, by decide⟩)
  have e : costL 0#32 [(⟨0, 255⟩ : S45)] = 8 := by decide +kernel
  rw [e] at h
  exact E.bind h (E.pos rfl (E.nowEq rfl))

/-- The index that a place is taken as. -/
def idx (p : Int) : Nat := (p % 256).toNat
theorem idx_le (p : Int) : idx p ≤ 255 := by unfold idx; omega
theorem idx_of (p : Int) : wrap64 (Int.tmod (IntKind.u64.wrap p) 256) = (idx p : Int) := by
  have hw : 0 ≤ IntKind.u64.wrap p := by rw [IntKind.wrap_u64]; omega
  rw [Int.tmod_eq_emod_of_nonneg hw, IntKind.wrap_u64]
  unfold idx
  rw [E.wrap_id (by omega) (by omega)]
  omega
/-- A state's own symbol at a place. -/
def own1 (v : BitVec 32) (p : Int) : S45 := ⟨(idx p : Int), (symB v (idx p) : Int)⟩
open Bv in
theorem own_loop (v : BitVec 32) (l : List Int) (hl : l.length ≤ 16) : ∀ (rest pre : List Int), l = pre ++ rest →
    Ev (fun k => volutelaw10_own.l0 k (u v) l (pre.map (own1 v)) (pre.length : Int)) (l.map (own1 v), true) := by
  intro rest
  induction rest with
  | nil =>
    intro pre h
    have hlen : l.length = pre.length := by rw [h]; simp
    exact E.step (fun _ => volutelaw10_own.l0.eq_2 ..) (E.neg (by omega) (E.nowEq (by rw [h]; simp)))
  | cons p rest ih =>
    intro pre h
    have hlen : l.length = pre.length + (rest.length + 1) := by rw [h]; simp
    have hp : rd l (pre.length : Int) = p := by rw [h]; unfold rd; simp
    refine E.step (fun _ => volutelaw10_own.l0.eq_2 ..) (E.pos (by omega) (E.pos (by omega) ?_))
    rw [hp, idx_of]
    refine E.bind (sym_ev v (idx p) (idx_le p)) (E.pos rfl (E.pos (by simp; omega) ?_))
    have w2 : wrap64 ((pre.length : Int) + 1) = (((pre ++ [p]).length : Nat) : Int) := by rw [E.wrap_id (by omega) (by omega)]; simp
    rw [w2]
    have := ih (pre ++ [p]) (by rw [h]; simp)
    rw [List.map_append] at this
    exact this
open Bv in
theorem own_ev (v : BitVec 32) (l : List Int) (hl : l.length ≤ 16) : Ev (fun k => volutelaw10_own.f k (u v) l) (l.map (own1 v), true) := by
  unfold volutelaw10_own.f
  have := own_loop v l hl l [] rfl
  simpa using this
theorem own_ok (v : BitVec 32) (l : List Int) : ∀ p ∈ l.map (own1 v), okSym p := by
  intro p hp
  obtain ⟨x, _, rfl⟩ := List.mem_map.1 hp
  have h1 := idx_le x
  have h2 := symB_lt v (idx x)
  unfold okSym own1
  refine ⟨?_, ?_, ?_, ?_⟩ <;> simp only [] <;> omega
/-- What a state costs by another one's own symbols. -/
def dist (a b : BitVec 32) (l : List Int) : Nat := (l.map (fun p => Pop.pop 32 (symB a (idx p) ^^^ symB b (idx p)))).sum
theorem cost_own (a b : BitVec 32) (l : List Int) : costL a (l.map (own1 b)) = dist a b l := by
  unfold costL dist
  rw [List.map_map]
  have e : (cost1 a ∘ own1 b) = (fun p => Pop.pop 32 (symB a (idx p) ^^^ symB b (idx p))) := funext fun p => by
    unfold cost1 own1
    simp only [Function.comp_apply, Int.toNat_natCast]
  rw [e]
theorem dist_self (a : BitVec 32) (l : List Int) : dist a a l = 0 := by
  unfold dist
  induction l with
  | nil => rfl
  | cons p l ih => rw [List.map_cons, List.sum_cons, ih, Nat.xor_self, Pop.pop_zero]
theorem dist_comm (a b : BitVec 32) (l : List Int) : dist a b l = dist b a l := by
  unfold dist
  have e : (fun p => Pop.pop 32 (symB a (idx p) ^^^ symB b (idx p))) = (fun p => Pop.pop 32 (symB b (idx p) ^^^ symB a (idx p))) := funext fun p => by rw [Nat.xor_comm]
  rw [e]
theorem dist_tri (a b c : BitVec 32) (l : List Int) : dist a c l ≤ dist a b l + dist b c l := by
  unfold dist
  induction l with
  | nil => simp
  | cons p l ih =>
    rw [List.map_cons, List.sum_cons, List.map_cons, List.sum_cons, List.map_cons, List.sum_cons]
    have := Pop.pop_tri 32 (symB a (idx p)) (symB b (idx p)) (symB c (idx p))
    omega
theorem dist_le (a b : BitVec 32) (l : List Int) : dist a b l ≤ 32 * l.length := by
  unfold dist
  induction l with
  | nil => simp
  | cons p l ih =>
    rw [List.map_cons, List.sum_cons, List.length_cons]
    have := Pop.pop_le 32 (symB a (idx p) ^^^ symB b (idx p))
    omega
open Bv in
theorem CostThree : volutelaw10_CostThree.Pure := by
  intro a0 a1 a2 l h0 h1 h2 _ _ _
  obtain ⟨a, rfl⟩ := exists_u32 (wf_u32 h0).1 (wf_u32 h0).2
  obtain ⟨b, rfl⟩ := exists_u32 (wf_u32 h1).1 (wf_u32 h1).2
  obtain ⟨c, rfl⟩ := exists_u32 (wf_u32 h2).1 (wf_u32 h2).2
  refine Ev.rounds ?_
  unfold volutelaw10_CostThree.f
  by_cases hl : l.length ≤ 16
  · have O := fun (x y : BitVec 32) => of_ev x (l.map (own1 y)) (by simpa using hl) (own_ok y l)
    simp only [cost_own] at O
    have Q := fun (x y : BitVec 32) => dist_le x y l
    refine E.neg (by omega) (E.bind (own_ev a l hl) (E.bind (own_ev b l hl) (E.bind (own_ev c l hl) (E.pos rfl (E.pos rfl ?_)))))
    refine E.step (fun _ => volutelaw10_CostThree.j0.eq_2 ..) (E.neg (by simp) ?_)
    refine E.bind (O a a) (E.bind (O a b) (E.bind (O b a) (E.bind (O a c) (E.bind (O c b) ?_))))
    refine E.pos rfl (E.pos rfl (E.pos rfl (E.pos rfl (E.pos rfl (E.pos ?_ (E.pos ?_ (E.pos ?_ (E.bind wakes10 E.now))))))))
    · rw [dist_self]; rfl
    · rw [dist_comm]
    · have t := dist_tri a c b l
      have q1 := Q a c
      have q2 := Q c b
      rw [E.wrap_id (by omega) (by omega)]
      omega
  · exact E.pos (by omega) E.now

end Go.Proofs.Ytdhpehihkppomaa.Pure
