/- What any bytes are read as, or why they are none, is the page's, and what is read is made again. No condition but the law's own. -/
import Derived.Test.YtmioimcpiddgfaaPAckReadsx4
import Derived.Test.YtmioimcpiddgfaaBe
import Derived.Test.YtmioimcpiddgfaaEv
import Derived.Test.YtmioimcpiddgfaaBv
import Derived.Test.YtmioimcpiddgfaaCrc
namespace Go.Proofs.Ytmioimcpiddgfaa.Pure
open Go.RowKit Go.Proofs.Ytmioimcpiddgfaa.PAckReads Go.Proofs.YtmioimcpiddgfaaW.PrintWords Go.Proofs.YtmioimcpiddgfaaW.PrintLast
theorem cloneb (l : List Int) (h : l.length ≤ 5000) : slices_Clone_byte_byte.f l = some l := by
  unfold slices_Clone_byte_byte.f
  exact if_pos (by omega)

open Be in
theorem put_loop (n : Int) : ∀ (s : Nat) (acc : List Int), s ≤ 4 → acc.length + s ≤ 4096 →
    Ev (fun k => bit_Put.l0 k n acc ((s : Int) - 1)) (acc ++ be s n, 0) := by
  intro s
  induction s with
  | zero =>
    intro acc _ h
    refine E.step (fun _ => bit_Put.l0.eq_2 ..) (E.neg (by omega) (E.bval (cloneb _ (by omega)) (E.nowEq (by rw [be, List.append_nil]))))
  | succ s ih =>
    intro acc hs h
    have w1 : wrap64 (8 * (((s + 1 : Nat) : Int) - 1)) = ((8 * s : Nat) : Int) := by rw [E.wrap_id (by omega) (by omega)]; omega
    have w2 : wrap64 ((((s + 1 : Nat) : Int) - 1) - 1) = (s : Int) - 1 := by rw [E.wrap_id (by omega) (by omega)]; omega
    have es : shr .i64 n ((8 * s : Nat) : Int) = n / ((256 ^ s : Nat) : Int) := by
      unfold shr
      rw [Int.toNat_natCast, Nat.min_eq_left (show 8 * s ≤ IntKind.i64.bits from by show 8 * s ≤ 64; omega), show ((256 ^ s : Nat) : Int) = (2 : Int) ^ (8 * s) from by rw [show (256 : Nat) = 2 ^ 8 from rfl, ← Nat.pow_mul]; exact Int.natCast_pow 2 (8 * s)]
    refine E.step (fun _ => bit_Put.l0.eq_2 ..) (E.pos (by omega) ?_)
    rw [w1, w2, es]
    refine E.pos (by omega) (E.pos (by omega) ?_)
    refine E.eqv ?_ (ih (acc ++ [n / ((256 ^ s : Nat) : Int) % 256]) (by omega) (by rw [List.length_append, List.length_singleton]; omega))
    rw [be, List.append_assoc]
    rfl
open Be in
theorem put_ev (l : List Int) (n : Int) (s : Nat) (h1 : 1 ≤ s) (h4 : s ≤ 4) (hl : l.length + s ≤ 4096) (h0 : 0 ≤ n) (hn : n < ((256 ^ s : Nat) : Int)) :
    Ev (fun k => bit_Put.f k l n (s : Int)) (l ++ be s n, 0) := by
  have w1 : wrap64 (8 * (s : Int)) = ((8 * s : Nat) : Int) := by rw [E.wrap_id (by omega) (by omega)]; omega
  have es : shl .i64 1 ((8 * s : Nat) : Int) = ((256 ^ s : Nat) : Int) := by
    obtain rfl | rfl | rfl | rfl : s = 1 ∨ s = 2 ∨ s = 3 ∨ s = 4 := by omega
    all_goals decide +kernel
  have w2 : wrap64 (4096 - (s : Int)) = 4096 - (s : Int) := E.wrap_id (by omega) (by omega)
  have w3 : wrap64 ((s : Int) - 1) = (s : Int) - 1 := E.wrap_id (by omega) (by omega)
  unfold bit_Put.f
  refine E.neg (by omega) (E.neg (by omega) (E.neg (by omega) ?_))
  rw [w1, es, decide_eq_false (by omega)]
  refine E.pos (by omega) (E.step (fun _ => bit_Put.j0.eq_2 ..) (E.neg (by decide) ?_))
  rw [w2, w3]
  refine E.neg (by omega) (E.bval (cloneb l (by omega)) (put_loop n s l h4 hl))
open Be in
/-- What is no number of that size is put nowhere. -/
theorem put_bad (l : List Int) (n : Int) (s : Nat) (h1 : 1 ≤ s) (h4 : s ≤ 4) (hn : n < 0 ∨ ((256 ^ s : Nat) : Int) ≤ n) :
    Ev (fun k => bit_Put.f k l n (s : Int)) ([], 1) := by
  have w1 : wrap64 (8 * (s : Int)) = ((8 * s : Nat) : Int) := by rw [E.wrap_id (by omega) (by omega)]; omega
  have es : shl .i64 1 ((8 * s : Nat) : Int) = ((256 ^ s : Nat) : Int) := by
    obtain rfl | rfl | rfl | rfl : s = 1 ∨ s = 2 ∨ s = 3 ∨ s = 4 := by omega
    all_goals decide +kernel
  unfold bit_Put.f
  refine E.neg (by omega) (E.neg (by omega) ?_)
  by_cases h0 : n < 0
  · exact E.pos h0 (E.step (fun _ => bit_Put.j0.eq_2 ..) (E.pos rfl E.now))
  · rw [w1, es, decide_eq_true (by omega)]
    exact E.neg h0 (E.pos (by omega) (E.step (fun _ => bit_Put.j0.eq_2 ..) (E.pos rfl E.now)))

open Be Crc in
theorem get_loop (l : List Int) (hl : l.length ≤ 4) : ∀ (rest pre : List Int), l = pre ++ rest → (∀ c ∈ l, isByte c) →
    Ev (fun k => bit_Get.l0 k (num pre) l (l.length : Int) (pre.length : Int)) (num l, 0) := by
  intro rest
  induction rest with
  | nil =>
    intro pre h _
    rw [List.append_nil] at h
    subst h
    exact E.step (fun _ => bit_Get.l0.eq_2 ..) (E.neg (by omega) E.now)
  | cons x rest ih =>
    intro pre h hb
    have h1 : l.length = pre.length + (rest.length + 1) := by rw [h]; simp
    have e1 : rd l (pre.length : Int) = x := by rw [h]; exact E.rd_at pre rest x
    have hx : isByte x := hb x (by rw [h]; simp)
    have hp := num_bound pre (fun c hc => hb c (by rw [h]; simp [hc]))
    have hq : ((256 ^ pre.length : Nat) : Int) ≤ 16777216 := by
      have : 256 ^ pre.length ≤ 256 ^ 3 := Nat.pow_le_pow_right (by decide) (by omega)
      omega
    unfold isByte at hx
    generalize ((256 ^ pre.length : Nat) : Int) = q at hp hq
    refine E.step (fun _ => bit_Get.l0.eq_2 ..) (E.pos (by omega) (E.pos (by omega) (E.pos (by omega) ?_)))
    rw [e1, E.wrap_snoc pre x (by omega)]
    have e2 : Go.bits .or .i64 (wrap64 (num pre * 256)) (wrap64 x) = num (pre ++ [x]) := by
      have ea : num (pre ++ [x]) = num pre * 256 + x := by unfold num; rw [List.foldl_append]; rfl
      rw [E.wrap_id (by omega) (by omega), E.wrap_id (by omega) (by omega), ea]
      obtain ⟨a, ha⟩ := Int.eq_ofNat_of_zero_le hp.1
      obtain ⟨b, hb'⟩ := Int.eq_ofNat_of_zero_le hx.1
      rw [ha] at hp ⊢
      subst hb'
      have := orN (a * 256) b (by omega) (by omega)
      rw [Int.natCast_mul] at this
      exact this.trans (by rw [or_byte a b (by omega)]; omega)
    rw [e2]
    exact ih (pre ++ [x]) (by rw [h]; simp) hb
open Be Crc in
theorem get_ev (l : List Int) (at_ s : Nat) (h1 : 1 ≤ s) (h4 : s ≤ 4) (hl : at_ + s ≤ l.length) (hm : l.length ≤ 5000) (hb : ∀ c ∈ l, isByte c) :
    Ev (fun k => bit_Get.f k l (at_ : Int) (s : Int)) (num ((l.take (at_ + s)).drop at_), 0) := by
  have w1 : wrap64 ((l.length : Int) - (at_ : Int)) = (l.length : Int) - (at_ : Int) := E.wrap_id (by omega) (by omega)
  have w2 : wrap64 ((at_ : Int) + (s : Int)) = ((at_ + s : Nat) : Int) := E.wrap_add _ _ (by omega)
  unfold bit_Get.f
  refine E.neg (by omega) (E.neg (by omega) (E.neg (by omega) ?_))
  rw [decide_eq_false (by omega)]
  refine E.step (fun _ => bit_Get.j0.eq_2 ..) (E.neg (by decide) ?_)
  rw [w1, w2, Int.toNat_natCast, Int.toNat_natCast]
  refine E.neg (by omega) (E.pos (by omega) (E.pos (by omega) (E.pos (by omega) ?_)))
  have hlen : ((l.take (at_ + s)).drop at_).length = s := by rw [List.length_drop, List.length_take]; omega
  exact get_loop _ (by omega) _ [] rfl (fun c hc => hb c (List.mem_of_mem_take (List.mem_of_mem_drop hc)))

open Bv Crc in
theorem t32_inner (x1 : List Int) (i : Int) (X : List Int) (hx : x1.length < 1000) : ∀ (d j : Nat) (v : BitVec 32), j + d = 8 →
    Ev (fun k => crc_Table32.l0 k (x1 ++ [u (E.many L d v)]) (wrap64 (i + 1))) X → Ev (fun k => crc_Table32.l1 k x1 (u v) i (j : Int)) X := by
  intro d
  induction d with
  | zero =>
    intro j v hj R
    exact E.step (fun _ => crc_Table32.l1.eq_2 ..) (E.neg (by omega) (E.pos (by omega) R))
  | succ d ih =>
    intro j v hj R
    rw [E.many_in] at R
    have e : Go.bits .and .i64 (u v) 1 = ((v.toNat % 2 : Nat) : Int) := and1 v.toNat (lt63 (by decide) v)
    have w : wrap64 ((j : Int) + 1) = ((j + 1 : Nat) : Int) := by rw [E.wrap_id (by omega) (by omega)]; omega
    refine E.step (fun _ => crc_Table32.l1.eq_2 ..) (E.pos (by omega) ?_)
    rw [e, w]
    by_cases h : v.toNat % 2 = 1
    · refine E.pos (by omega) ?_
      have e2 : Go.bits .xor .i64 (u v / (2 : Int)) 3988292384 = u (L v) := by
        rw [shr1, L_odd h]
        exact xor_u (by decide) (v >>> 1) 3988292384#32
      rw [e2]
      exact ih (j + 1) (L v) (by omega) R
    · refine E.neg (by omega) ?_
      have e2 : u v / (2 : Int) = u (L v) := by rw [shr1, L_even h]
      rw [e2]
      exact ih (j + 1) (L v) (by omega) R
open Bv Crc in
def tbl32 (n : Nat) : List Int := (List.range n).map (fun i : Nat => u (tab32 i))
open Bv Crc in
theorem tbl32_at (n i : Nat) (h : i < n) : rd (tbl32 n) (i : Int) = u (tab32 i) := by
  unfold rd tbl32
  rw [Int.toNat_natCast, List.getD_eq_getElem?_getD, List.getElem?_map, List.getElem?_range h]
  rfl
theorem tbl32_length (n : Nat) : (tbl32 n).length = n := by simp [tbl32]
open Bv Crc in
theorem t32_outer : ∀ (d i : Nat), i + d = 256 → Ev (fun k => crc_Table32.l0 k (tbl32 i) (i : Int)) (tbl32 256) := by
  intro d
  induction d with
  | zero =>
    intro i hi
    obtain rfl : i = 256 := by omega
    exact E.step (fun _ => crc_Table32.l0.eq_2 ..) (E.neg (by omega) E.now)
  | succ d ih =>
    intro i hi
    refine E.step (fun _ => crc_Table32.l0.eq_2 ..) (E.pos (by omega) ?_)
    have e : (i : Int) = u (BitVec.ofNat 32 i) := by unfold u; rw [BitVec.toNat_ofNat, Nat.mod_eq_of_lt (by omega)]
    have R := ih (i + 1) (by omega)
    have e3 : tbl32 (i + 1) = tbl32 i ++ [u (E.many L 8 (BitVec.ofNat 32 i))] := by unfold tbl32; rw [List.range_succ, List.map_append]; rfl
    have w : wrap64 ((i : Int) + 1) = ((i + 1 : Nat) : Int) := by rw [E.wrap_id (by omega) (by omega)]; omega
    rw [e3, ← w] at R
    have := t32_inner (tbl32 i) (i : Int) (tbl32 256) (by rw [tbl32_length]; omega) 8 0 (BitVec.ofNat 32 i) rfl R
    rw [← e] at this
    exact this
theorem table32_ev : Ev (fun k => crc_Table32.f k) (tbl32 256) := by
  unfold crc_Table32.f
  exact t32_outer 256 0 rfl
open Bv Crc in
theorem sum32_loop (l : List Int) (hl : l.length ≤ 4096) : ∀ (rest pre : List Int) (r : BitVec 32), l = pre ++ rest → (∀ c ∈ rest, isByte c) →
    Ev (fun k => crc_Sum32.l0 k (tbl32 256) (u r) l (l.length : Int) (pre.length : Int)) (u (reg32 r rest ^^^ ones32), 0) := by
  intro rest
  induction rest with
  | nil =>
    intro pre r h _
    have hlen : l.length = pre.length := by rw [h]; simp
    refine E.step (fun _ => crc_Sum32.l0.eq_2 ..) (E.neg (by omega) (E.nowEq ?_))
    have := xor_u (by decide) r ones32
    rw [reg_nil, ← this]
    rfl
  | cons c rest ih =>
    intro pre r h hb
    have hlen : l.length = pre.length + (rest.length + 1) := by rw [h]; simp
    have hp : rd l (pre.length : Int) = c := by rw [h]; exact E.rd_at pre rest c
    obtain ⟨h0, h1⟩ := hb c (by simp)
    have ec : c = ((c.toNat : Nat) : Int) := by omega
    have hr := r.isLt
    have hix : (r.toNat % 256) ^^^ c.toNat < 2 ^ 8 := Nat.xor_lt_two_pow (by omega) (by omega)
    have ei : Go.bits .xor .i64 (Go.bits .and .i64 (u r) 255) (wrap64 c) = (((r.toNat % 256) ^^^ c.toNat : Nat) : Int) := by
      have e1 : Go.bits .and .i64 (u r) 255 = ((r.toNat % 256 : Nat) : Int) := and255i r.toNat (by omega)
      rw [e1, E.wrap_id (by omega) (by omega), ec, xorN _ _ (by omega) (by omega), Int.toNat_natCast]
    have es : Go.bits .xor .i64 (u r / (256 : Int)) (u (tab32 ((r.toNat % 256) ^^^ c.toNat))) = u (step32 r c) := by
      rw [shr8, xor_u (by decide), step_tab r c ⟨h0, h1⟩]
    refine E.step (fun _ => crc_Sum32.l0.eq_2 ..) (E.pos (by omega) (E.pos (by omega) (E.pos (by omega) ?_)))
    rw [hp, ei, tbl32_length]
    refine E.pos (by omega) (E.pos (by omega) ?_)
    rw [tbl32_at _ _ (by omega), es, E.wrap_snoc pre c (by omega)]
    exact ih (pre ++ [c]) (step32 r c) (by rw [h]; simp) (fun y hy => hb y (by simp [hy]))
open Bv Crc in
theorem sum32_ev (l : List Int) (hl : l.length ≤ 4096) (hb : ∀ c ∈ l, isByte c) : Ev (fun k => crc_Sum32.f k l) (u (sum32 l), 0) := by
  unfold crc_Sum32.f
  refine E.neg (by omega) (E.bind table32_ev ?_)
  have := sum32_loop l hl l [] ones32 rfl hb
  exact this
theorem sum32_long (l : List Int) (hl : ¬ l.length ≤ 4096) : Ev (fun k => crc_Sum32.f k l) (0, 2) := by
  unfold crc_Sum32.f
  exact E.pos (by omega) E.now
theorem bytes_wf (l : List Int) (h : ∀ x ∈ l, (Lit.int .u8 x).wf = true) : ∀ c ∈ l, Crc.isByte c := fun c hc => Bv.wf_u8 (h c hc)

open Bv Crc in
theorem shr8u (s : BitVec 32) (j : Nat) : u (s >>> j) / (256 : Int) = u (s >>> (j + 8)) := by rw [shr8, ← BitVec.shiftRight_add]
open Bv Crc in
theorem seal_ev (l : List Int) (hl : l.length ≤ 4092) (hb : ∀ c ∈ l, isByte c) : Ev (fun k => crc_Seal.f k l) (l ++ seal4 (sum32 l), 0) := by
  unfold crc_Seal.f
  refine E.neg (by omega) (E.bind (sum32_ev l (by omega) hb) (E.pos rfl (E.bval (cloneb l (by omega)) ?_)))
  generalize sum32 l = s
  show Ev (fun k => crc_Seal.l0 k (u s) l 0) (l ++ seal4 s, 0)
  have w0 : wrap64 ((0 : Int) + 1) = 1 := E.wrap_id (by omega) (by omega)
  have w1 : wrap64 ((1 : Int) + 1) = 2 := E.wrap_id (by omega) (by omega)
  have w2 : wrap64 ((2 : Int) + 1) = 3 := E.wrap_id (by omega) (by omega)
  have w3 : wrap64 ((3 : Int) + 1) = 4 := E.wrap_id (by omega) (by omega)
  have e0 : u s / (256 : Int) = u (s >>> 8) := shr8 s
  have e1 := shr8u s 8
  have e2 := shr8u s 16
  refine E.step (fun _ => crc_Seal.l0.eq_2 ..) (E.pos (by omega) (E.pos (by omega) ?_))
  rw [w0, e0]
  refine E.step (fun _ => crc_Seal.l0.eq_2 ..) (E.pos (by omega) (E.pos (by rw [List.length_append, List.length_singleton]; omega) ?_))
  rw [w1, e1]
  refine E.step (fun _ => crc_Seal.l0.eq_2 ..) (E.pos (by omega) (E.pos (by rw [List.length_append, List.length_append, List.length_singleton, List.length_singleton]; omega) ?_))
  rw [w2, e2]
  refine E.step (fun _ => crc_Seal.l0.eq_2 ..) (E.pos (by omega) (E.pos (by rw [List.length_append, List.length_append, List.length_append, List.length_singleton, List.length_singleton, List.length_singleton]; omega) ?_))
  rw [w3]
  have ef : l ++ [u s % 256] ++ [u (s >>> 8) % 256] ++ [u (s >>> (8 + 8)) % 256] ++ [u (s >>> (16 + 8)) % 256] = l ++ seal4 s := by
    unfold seal4
    simp only [List.append_assoc, List.cons_append, List.nil_append]
  rw [ef]
  exact E.step (fun _ => crc_Seal.l0.eq_2 ..) (E.neg (by omega) (E.bval (cloneb _ (by rw [List.length_append, seal4_length]; omega)) E.now))
theorem seal_long (l : List Int) (hl : ¬ l.length ≤ 4092) : Ev (fun k => crc_Seal.f k l) ([], 2) := by
  unfold crc_Seal.f
  exact E.pos (by omega) E.now

theorem eqb_loop (a b : List Int) (hl : a.length < 4611686018427387904) (he : a.length = b.length) : ∀ (ra rb pa pb : List Int), a = pa ++ ra → b = pb ++ rb → pa.length = pb.length →
    Ev (fun k => slices_Equal_byte_byte.l0 k a b (a.length : Int) (pa.length : Int)) (decide (ra = rb)) := by
  intro ra
  induction ra with
  | nil =>
    intro rb pa pb ha hb hp
    have h1 : a.length = pa.length := by rw [ha]; simp
    have h2 : b.length = pb.length + rb.length := by rw [hb]; simp
    obtain rfl : rb = [] := List.eq_nil_of_length_eq_zero (by omega)
    exact E.step (fun _ => slices_Equal_byte_byte.l0.eq_2 ..) (E.neg (by omega) (E.nowEq (by simp)))
  | cons x ra ih =>
    intro rb pa pb ha hb hp
    have h1 : a.length = pa.length + (ra.length + 1) := by rw [ha]; simp
    have h2 : b.length = pb.length + rb.length := by rw [hb]; simp
    cases rb with
    | nil => simp only [List.length_nil] at h2; omega
    | cons y rb =>
      have e1 : rd a (pa.length : Int) = x := by rw [ha]; exact E.rd_at pa ra x
      have e2 : rd b (pa.length : Int) = y := by rw [hb]; exact E.rd_at' pb rb y pa.length hp.symm
      simp only [List.length_cons] at h2
      refine E.step (fun _ => slices_Equal_byte_byte.l0.eq_2 ..) (E.pos (by omega) (E.pos (by omega) (E.pos (by omega) (E.pos (by omega) ?_))))
      rw [e1, e2]
      by_cases hxy : x = y
      · subst hxy
        refine E.pos rfl ?_
        rw [E.wrap_snoc pa x (by omega)]
        have := ih rb (pa ++ [x]) (pb ++ [x]) (by rw [ha]; simp) (by rw [hb]; simp) (by simp [hp])
        exact E.eqv (by simp) this
      · exact E.neg hxy (E.nowEq (by simp [hxy]))
theorem eqb_ev (a b : List Int) (hl : a.length < 4611686018427387904) : Ev (fun k => slices_Equal_byte_byte.f k a b) (decide (a = b)) := by
  unfold slices_Equal_byte_byte.f
  by_cases he : a.length = b.length
  · refine E.pos (by omega) ?_
    have := eqb_loop a b hl he a b [] [] rfl rfl rfl
    simpa using this
  · exact E.neg (by omega) (E.nowEq (by
      have : ¬ a = b := fun h => he (by rw [h])
      simp [this]))

open Bv Crc in
/-- Are a text's last four bytes the sum of those ahead? -/
def isSealed (l : List Int) : Bool := decide (4 ≤ l.length) && decide (l.take (l.length - 4) ++ seal4 (sum32 (l.take (l.length - 4))) = l)
open Bv Crc in
theorem sealed_ev (l : List Int) (hl : l.length ≤ 4096) (hb : ∀ c ∈ l, isByte c) : Ev (fun k => crc_Sealed.f k l) (isSealed l, 0) := by
  unfold crc_Sealed.f isSealed
  refine E.neg (by omega) ?_
  by_cases h : l.length < 4
  · exact E.pos (by omega) (E.nowEq (by rw [decide_eq_false (show ¬ 4 ≤ l.length by omega), Bool.false_and]))
  · have w : wrap64 ((l.length : Int) - 4) = ((l.length - 4 : Nat) : Int) := by rw [E.wrap_id (by omega) (by omega)]; omega
    refine E.neg (by omega) ?_
    rw [w, Int.toNat_natCast, decide_eq_true (show 4 ≤ l.length by omega), Bool.true_and]
    have ht : (l.take (l.length - 4)).length = l.length - 4 := by rw [List.length_take]; omega
    refine E.pos (by omega) (E.pos (by omega) (E.bind (seal_ev _ (by omega) (fun c hc => hb c (List.mem_of_mem_take hc))) (E.pos rfl ?_)))
    exact E.bind (eqb_ev _ l (by rw [List.length_append, seal4_length, ht]; omega)) E.now
theorem sealed_long (l : List Int) (hl : ¬ l.length ≤ 4096) : Ev (fun k => crc_Sealed.f k l) (false, 2) := by
  unfold crc_Sealed.f
  exact E.pos (by omega) E.now

open Be Crc in
/-- What stands in an ack's packet, ahead of its sum. -/
def ackB (n b : Int) : List Int := [65] ++ be 4 n ++ be 4 b
open Be Crc in
def ackP (n b : Int) : List Int := ackB n b ++ seal4 (sum32 (ackB n b))
open Be Crc in
theorem ackB_length (n b : Int) : (ackB n b).length = 9 := by unfold ackB; simp [be_length]
open Be Crc in
theorem ackB_bytes (n b : Int) : ∀ c ∈ ackB n b, isByte c := by
  intro c hc
  unfold ackB at hc
  rcases List.mem_append.1 hc with hc | hc
  · rcases List.mem_append.1 hc with hc | hc
    · rw [List.mem_singleton.1 hc]; unfold isByte; omega
    · exact be_bytes _ _ c hc
  · exact be_bytes _ _ c hc
open Be Crc in
theorem ackP_length (n b : Int) : (ackP n b).length = 13 := by unfold ackP; rw [List.length_append, ackB_length, seal4_length]
open Be Crc in
theorem ackP_bytes (n b : Int) : ∀ c ∈ ackP n b, isByte c := by
  intro c hc
  unfold ackP at hc
  rcases List.mem_append.1 hc with hc | hc
  · exact ackB_bytes n b c hc
  · exact seal4_bytes _ c hc
open Be Crc in
theorem ackmake_ev (n b : Int) (h0 : 0 ≤ n) (h1 : n ≤ 1073741824) (b0 : 0 ≤ b) (b1 : b < 4294967296) : Ev (fun k => ack_Make.f k n b) (ackP n b, 0) := by
  have e4 : ((256 ^ 4 : Nat) : Int) = 4294967296 := rfl
  unfold ack_Make.f
  refine E.neg (by omega) ?_
  rw [decide_eq_false (by omega)]
  refine E.step (fun _ => ack_Make.j0.eq_2 ..) (E.neg (by decide) ?_)
  refine E.bind (put_ev [65] n 4 (by omega) (by omega) (by simp) h0 (by rw [e4]; omega)) ?_
  rw [E.wrap_id (by omega) (by omega)]
  refine E.bind (put_ev ([65] ++ be 4 n) b 4 (by omega) (by omega) (by simp [be_length]) b0 (by rw [e4]; omega)) ?_
  exact E.bind (seal_ev (ackB n b) (by rw [ackB_length]; omega) (ackB_bytes n b)) E.now
theorem ackmake_bad (n b : Int) (h : n < 0 ∨ 1073741824 < n) : Ev (fun k => ack_Make.f k n b) ([], 1) := by
  unfold ack_Make.f
  by_cases h0 : n < 0
  · exact E.pos h0 (E.step (fun _ => ack_Make.j0.eq_2 ..) (E.pos rfl E.now))
  · rw [decide_eq_true (by omega)]
    exact E.neg h0 (E.step (fun _ => ack_Make.j0.eq_2 ..) (E.pos rfl E.now))
open Be in
/-- What an ack's packet says. -/
def ackR (l : List Int) : Int × Int × Int :=
  if l.length = 13 then (if rd l 0 = 65 then (if isSealed l = true then (if num ((l.take 5).drop 1) > 1073741824 then (0, 0, 1) else (num ((l.take 5).drop 1), num ((l.take 9).drop 5), 0)) else (0, 0, 4)) else (0, 0, 12)) else (0, 0, 2)
open Be Crc in
theorem cut_bytes (l : List Int) (hb : ∀ c ∈ l, isByte c) (a b : Nat) : ∀ c ∈ (l.take b).drop a, isByte c := fun c hc => hb c (List.mem_of_mem_take (List.mem_of_mem_drop hc))
open Be Crc in
theorem ackread_ev (l : List Int) (hb : ∀ c ∈ l, isByte c) : Ev (fun k => ack_Read.f k l) (ackR l) := by
  unfold ack_Read.f ackR
  by_cases hl : l.length = 13
  · rw [if_pos hl]
    refine E.pos (by omega) (E.pos (by omega) ?_)
    by_cases h0 : rd l 0 = 65
    · rw [if_pos h0]
      refine E.pos h0 (E.bind (sealed_ev l (by omega) hb) (E.pos rfl ?_))
      by_cases hs : isSealed l = true
      · rw [if_pos hs, hs]
        refine E.step (fun _ => ack_Read.j0.eq_2 ..) (E.neg (by decide) ?_)
        refine E.bind (get_ev l 1 4 (by omega) (by omega) (by omega) (by omega) hb) (E.bind (get_ev l 5 4 (by omega) (by omega) (by omega) (by omega) hb) ?_)
        show Ev (fun _ => if num ((l.take 5).drop 1) > 1073741824 then some (0, 0, 1) else some (num ((l.take 5).drop 1), num ((l.take 9).drop 5) % 4294967296, 0)) _
        have h9 : ((l.take 9).drop 5).length = 4 := by rw [List.length_drop, List.length_take]; omega
        have hn := num_bound ((l.take 9).drop 5) (cut_bytes l hb 5 9)
        rw [h9, show ((256 ^ 4 : Nat) : Int) = 4294967296 from rfl] at hn
        by_cases hm : num ((l.take 5).drop 1) > 1073741824
        · exact E.pos hm (E.nowEq (if_pos hm).symm)
        · exact E.neg hm (E.nowEq (by rw [Int.emod_eq_of_lt hn.1 hn.2]; exact (if_neg hm).symm))
      · rw [if_neg hs, Bool.eq_false_iff.2 hs]
        exact E.step (fun _ => ack_Read.j0.eq_2 ..) (E.pos rfl E.now)
    · rw [if_neg h0]
      exact E.neg h0 E.now
  · rw [if_neg hl]
    exact E.neg (by omega) E.now
open Be Crc in
theorem isSealed_seal (l : List Int) : isSealed (l ++ seal4 (sum32 l)) = true := by
  unfold isSealed
  have e : (l ++ seal4 (sum32 l)).length = l.length + 4 := by rw [List.length_append, seal4_length]
  rw [e, Nat.add_sub_cancel, List.take_left, decide_eq_true (by omega), decide_eq_true rfl]
  rfl
open Be Crc in
theorem ackR_ackP (n b : Int) (h0 : 0 ≤ n) (h1 : n ≤ 1073741824) (b0 : 0 ≤ b) (b1 : b < 4294967296) : ackR (ackP n b) = (n, b, 0) := by
  have e4 : ((256 ^ 4 : Nat) : Int) = 4294967296 := rfl
  unfold ackR
  rw [if_pos (ackP_length n b)]
  have ef : ackP n b = 65 :: (be 4 n ++ (be 4 b ++ seal4 (sum32 (ackB n b)))) := by
    unfold ackP
    generalize seal4 (sum32 (ackB n b)) = x
    unfold ackB
    simp
  have c1 : ((ackP n b).take 5).drop 1 = be 4 n := by
    rw [ef, List.take_succ_cons, List.drop_succ_cons, List.drop_zero]
    exact List.take_left' (be_length 4 n)
  have c2 : ((ackP n b).take 9).drop 5 = be 4 b := by
    rw [ef, List.take_succ_cons, List.drop_succ_cons, show (8 : Nat) = (be 4 n).length + 4 from by rw [be_length], List.take_length_add_append, List.drop_left' (be_length 4 n)]
    exact List.take_left' (be_length 4 b)
  have c0 : rd (ackP n b) 0 = 65 := by rw [ef]; rfl
  rw [c1, c2, if_pos c0, num_be' 4 n h0 (by rw [e4]; omega), num_be' 4 b b0 (by rw [e4]; omega)]
  have hs : isSealed (ackP n b) = true := isSealed_seal (ackB n b)
  rw [if_pos hs, if_neg (by omega)]

theorem wakes15 : Ev (fun k => volutelaw15_wakes.f k) true := by
  unfold volutelaw15_wakes.f
  refine E.bind (ackmake_ev 5 2 (by omega) (by omega) (by omega) (by omega)) ?_
  refine E.bind (ackread_ev _ (ackP_bytes 5 2)) ?_
  rw [ackR_ackP 5 2 (by omega) (by omega) (by omega) (by omega)]
  refine E.pos rfl (E.pos rfl (E.pos (by rw [ackP_length]; rfl) ?_))
  refine E.bval (a := true) (by decide +kernel) (E.pos rfl (E.bval (a := false) (by decide +kernel) (E.neg (by decide) (E.bval (a := true) (by decide +kernel) E.now))))

open Bv Crc in
theorem shift32_f (r : BitVec 32) (b : Nat) (hb : b < 2) : voluteref01_Shift32.f (u r) (b : Int) = some (u (L (r ^^^ BitVec.ofNat 32 b))) := by
  unfold voluteref01_Shift32.f
  have e1 : Go.bits .and .i64 (u r) 1 = ((r.toNat % 2 : Nat) : Int) := and1 r.toNat (lt63 (by decide) r)
  have hx : (r ^^^ BitVec.ofNat 32 b).toNat = r.toNat ^^^ b := by rw [BitVec.toNat_xor, BitVec.toNat_ofNat, Nat.mod_eq_of_lt (by omega)]
  have hp : (r.toNat ^^^ b) % 2 = (r.toNat % 2 + b % 2) % 2 := by
    have h := Nat.xor_mod_two_eq_one (a := r.toNat) (b := b)
    omega
  have hs : (r ^^^ BitVec.ofNat 32 b) >>> 1 = r >>> 1 := by
    apply BitVec.eq_of_toNat_eq
    rw [BitVec.toNat_ushiftRight, hx, BitVec.toNat_ushiftRight, Nat.shiftRight_xor_distrib]
    have : b >>> 1 = 0 := by rw [Nat.shiftRight_eq_div_pow]; omega
    rw [this, Nat.xor_zero]
  rw [e1]
  by_cases h : r.toNat % 2 = b
  · rw [if_pos (by omega), L_even (by rw [hx, hp]; omega), hs, shr1]
  · rw [if_neg (by omega), L_odd (by rw [hx, hp]; omega), hs, shr1]
    have := xor_u (by decide) (r >>> 1) 3988292384#32
    rw [← this]
    rfl
theorem shr_u8 (x j : Nat) (hj : j < 8) : wrap64 (shr .u8 (x : Int) (IntKind.u64.wrap (j : Int))) = wrap64 ((x / 2 ^ j : Nat) : Int) := by
  have e : IntKind.u64.wrap (j : Int) = (j : Int) := by rw [IntKind.wrap_u64]; omega
  rw [e]
  unfold shr
  rw [Int.toNat_natCast, Nat.min_eq_left (by simp [IntKind.bits]; omega)]
  exact_mod_cast rfl

open Bv Crc in
theorem ref32_inner (l : List Int) (i c : Nat) (hc : c < 256) (hi : i < l.length) (hr : rd l (i : Int) = (c : Int)) (X : Int) : ∀ (d j : Nat) (r : BitVec 32), j + d = 8 →
    Ev (fun k => voluteref01_Sum32.l0 k l (u (fd32 r ((List.range' j d).map (fun j => BitVec.ofNat 32 (c / 2 ^ j % 2))))) (wrap64 ((i : Int) + 1))) X →
    Ev (fun k => voluteref01_Sum32.l1 k l (u r) (i : Int) (j : Int)) X := by
  intro d
  induction d with
  | zero =>
    intro j r hj R
    exact E.step (fun _ => voluteref01_Sum32.l1.eq_2 ..) (E.neg (by omega) R)
  | succ d ih =>
    intro j r hj R
    have w : wrap64 ((j : Int) + 1) = ((j + 1 : Nat) : Int) := by rw [E.wrap_id (by omega) (by omega)]; omega
    have hu : 0 ≤ IntKind.u64.wrap (j : Int) := by rw [IntKind.wrap_u64]; omega
    have hd : c / 2 ^ j ≤ c := Nat.div_le_self _ _
    refine E.step (fun _ => voluteref01_Sum32.l1.eq_2 ..) (E.pos (by omega) (E.pos (by omega) (E.pos (by omega) (E.pos hu ?_))))
    rw [hr, shr_u8 c j (by omega), E.wrap_nat (by omega), and1 _ (by omega), w]
    refine E.bval (shift32_f r (c / 2 ^ j % 2) (by omega)) ?_
    rw [List.range'_succ, List.map_cons] at R
    exact ih (j + 1) _ (by omega) R
open Bv Crc in
theorem ref32_loop (l : List Int) (hl : l.length ≤ 4096) : ∀ (rest pre : List Int) (r : BitVec 32), l = pre ++ rest → (∀ c ∈ rest, isByte c) →
    Ev (fun k => voluteref01_Sum32.l0 k l (u r) (pre.length : Int)) (u (reg32 r rest ^^^ ones32)) := by
  intro rest
  induction rest with
  | nil =>
    intro pre r h _
    have hlen : l.length = pre.length := by rw [h]; simp
    refine E.step (fun _ => voluteref01_Sum32.l0.eq_2 ..) (E.neg (by omega) (E.nowEq ?_))
    have := xor_u (by decide) r ones32
    rw [reg_nil, ← this]
    rfl
  | cons c rest ih =>
    intro pre r h hb
    have hlen : l.length = pre.length + (rest.length + 1) := by rw [h]; simp
    have hcb := hb c (by simp)
    have h0 := hcb.1
    have h1 := hcb.2
    have hp : rd l (pre.length : Int) = ((c.toNat : Nat) : Int) := by rw [h, E.rd_at pre rest c]; omega
    refine E.step (fun _ => voluteref01_Sum32.l0.eq_2 ..) (E.pos (by omega) ?_)
    refine ref32_inner l pre.length c.toNat (by omega) (by omega) hp _ 8 0 r rfl ?_
    have := fd32_byte r c hcb
    unfold bits32 at this
    rw [this, E.wrap_snoc pre c (by omega)]
    exact ih (pre ++ [c]) (step32 r c) (by rw [h]; simp) (fun y hy => hb y (by simp [hy]))
open Bv Crc in
theorem ref32_ev (l : List Int) (hl : l.length ≤ 4096) (hb : ∀ c ∈ l, isByte c) : Ev (fun k => voluteref01_Sum32.f k l) (u (sum32 l)) := by
  unfold voluteref01_Sum32.f
  exact ref32_loop l hl l [] ones32 rfl hb

theorem twin_eq (l : List Int) (h : l.length ≤ 100000) : volutekeep_Twin.f l = some l := by
  unfold volutekeep_Twin.f
  rw [if_pos (by simp only [List.length_nil]; omega), List.nil_append]

theorem Bytes_loop (a b : List Int) (hl : a.length < 4611686018427387904) (he : a.length = b.length) : ∀ (ra rb pa pb : List Int), a = pa ++ ra → b = pb ++ rb → pa.length = pb.length →
    Ev (fun k => volutekeep_Bytes.l0 k a b (pa.length : Int)) (decide (ra = rb)) := by
  intro ra
  induction ra with
  | nil =>
    intro rb pa pb ha hb hp
    have h1 : a.length = pa.length := by rw [ha]; simp
    have h2 : b.length = pb.length + rb.length := by rw [hb]; simp
    obtain rfl : rb = [] := List.eq_nil_of_length_eq_zero (by omega)
    exact E.step (fun _ => volutekeep_Bytes.l0.eq_2 ..) (E.neg (by omega) (E.nowEq (by simp)))
  | cons x ra ih =>
    intro rb pa pb ha hb hp
    have h1 : a.length = pa.length + (ra.length + 1) := by rw [ha]; simp
    have h2 : b.length = pb.length + rb.length := by rw [hb]; simp
    cases rb with
    | nil => simp only [List.length_nil] at h2; omega
    | cons y rb =>
      have e1 : rd a (pa.length : Int) = x := by rw [ha]; exact E.rd_at pa ra x
      have e2 : rd b (pa.length : Int) = y := by rw [hb]; exact E.rd_at' pb rb y pa.length hp.symm
      simp only [List.length_cons] at h2
      refine E.step (fun _ => volutekeep_Bytes.l0.eq_2 ..) (E.pos (by omega) (E.pos (by omega) (E.pos (by omega) ?_)))
      rw [e1, e2]
      by_cases hxy : x = y
      · subst hxy
        refine E.pos rfl ?_
        rw [E.wrap_snoc pa x (by omega)]
        have := ih rb (pa ++ [x]) (pb ++ [x]) (by rw [ha]; simp) (by rw [hb]; simp) (by simp [hp])
        exact E.eqv (by simp) this
      · exact E.neg hxy (E.nowEq (by simp [hxy]))
theorem Bytes_ev (a b : List Int) (hl : a.length < 4611686018427387904) : Ev (fun k => volutekeep_Bytes.f k a b) (decide (a = b)) := by
  unfold volutekeep_Bytes.f
  by_cases he : a.length = b.length
  · refine E.pos (by omega) ?_
    have := Bytes_loop a b hl he a b [] [] rfl rfl rfl
    simpa using this
  · exact E.neg (by omega) (E.nowEq (by
      have : ¬ a = b := fun h => he (by rw [h])
      simp [this]))

open Bv Crc in
theorem refseal_ev (l : List Int) (hl : l.length ≤ 4096) (hb : ∀ c ∈ l, isByte c) : Ev (fun k => voluteref01_Seal.f k l) (l ++ seal4 (sum32 l)) := by
  unfold voluteref01_Seal.f
  refine E.bind (ref32_ev l hl hb) (E.bval (twin_eq l (by omega)) ?_)
  generalize sum32 l = s
  have e : ([(u s) % 256, (u s / 256) % 256, (u s / 65536) % 256, (u s / 16777216) % 256] : List Int) = seal4 s := by
    unfold seal4
    rw [shr8 s, show u s / (65536 : Int) = u (s >>> 16) from shr16 s, show u s / (16777216 : Int) = u (s >>> 24) from shr_pow s 24]
  rw [e]
  refine E.bval (x := some (seal4 s)) rfl ?_
  refine E.pos ?_ E.now
  rw [seal4_length]
  omega
open Bv Crc in
theorem refsealed_ev (l : List Int) (hl : l.length ≤ 4096) (hb : ∀ c ∈ l, isByte c) : Ev (fun k => voluteref01_Sealed.f k l) (isSealed l) := by
  unfold voluteref01_Sealed.f isSealed
  by_cases h : 4 ≤ l.length
  · have w : wrap64 ((l.length : Int) - 4) = ((l.length - 4 : Nat) : Int) := by rw [E.wrap_id (by omega) (by omega)]; omega
    rw [w, Int.toNat_natCast, decide_eq_true h, Bool.true_and]
    have ht : (l.take (l.length - 4)).length = l.length - 4 := by rw [List.length_take]; omega
    refine E.pos (by omega) (E.pos (by omega) (E.pos (by omega) (E.bind (refseal_ev _ (by omega) (fun c hc => hb c (List.mem_of_mem_take hc))) ?_)))
    exact E.bind (Bytes_ev _ l (by rw [List.length_append, seal4_length, ht]; omega)) E.now
  · exact E.neg (by omega) (E.nowEq (by rw [decide_eq_false h, Bool.false_and]))

open Be Crc in
theorem num13_loop (l : List Int) (hl : l.length ≤ 4) : ∀ (rest pre : List Int), l = pre ++ rest → (∀ c ∈ l, isByte c) →
    Ev (fun k => voluteref13_num.l0 k l (num pre) (pre.length : Int)) (num l) := by
  intro rest
  induction rest with
  | nil =>
    intro pre h _
    rw [List.append_nil] at h
    subst h
    exact E.step (fun _ => voluteref13_num.l0.eq_2 ..) (E.neg (by omega) E.now)
  | cons x rest ih =>
    intro pre h hb
    have h1 : l.length = pre.length + (rest.length + 1) := by rw [h]; simp
    have e1 : rd l (pre.length : Int) = x := by rw [h]; exact E.rd_at pre rest x
    have hx : isByte x := hb x (by rw [h]; simp)
    have hp := num_bound pre (fun c hc => hb c (by rw [h]; simp [hc]))
    have hq : ((256 ^ pre.length : Nat) : Int) ≤ 16777216 := by
      have : 256 ^ pre.length ≤ 256 ^ 3 := Nat.pow_le_pow_right (by decide) (by omega)
      omega
    unfold isByte at hx
    generalize ((256 ^ pre.length : Nat) : Int) = q at hp hq
    refine E.step (fun _ => voluteref13_num.l0.eq_2 ..) (E.pos (by omega) (E.pos (by omega) ?_))
    rw [e1, E.wrap_snoc pre x (by omega)]
    have e2 : Go.bits .or .i64 (wrap64 (num pre * 256)) (wrap64 x) = num (pre ++ [x]) := by
      have ea : num (pre ++ [x]) = num pre * 256 + x := by unfold num; rw [List.foldl_append]; rfl
      rw [E.wrap_id (by omega) (by omega), E.wrap_id (by omega) (by omega), ea]
      obtain ⟨a, ha⟩ := Int.eq_ofNat_of_zero_le hp.1
      obtain ⟨b, hb'⟩ := Int.eq_ofNat_of_zero_le hx.1
      rw [ha] at hp ⊢
      subst hb'
      have := orN (a * 256) b (by omega) (by omega)
      rw [Int.natCast_mul] at this
      exact this.trans (by rw [or_byte a b (by omega)]; omega)
    rw [e2]
    exact ih (pre ++ [x]) (by rw [h]; simp) hb
open Be Crc in
theorem num13_ev (l : List Int) (hl : l.length ≤ 4) (hb : ∀ c ∈ l, isByte c) : Ev (fun k => voluteref13_num.f k l) (num l) := num13_loop l hl l [] rfl hb

open Be Crc in
theorem refack_ev (l : List Int) (hb : ∀ c ∈ l, isByte c) : Ev (fun k => voluteref13_ReadAck.f k l) (ackR l) := by
  unfold voluteref13_ReadAck.f ackR
  by_cases hl : l.length = 13
  · rw [if_pos hl]
    refine E.pos (by omega) (E.pos (by omega) ?_)
    by_cases h0 : rd l 0 = 65
    · rw [if_pos h0]
      refine E.pos h0 (E.bind (refsealed_ev l (by omega) hb) ?_)
      by_cases hs : isSealed l = true
      · rw [if_pos hs]
        have h5 : ((l.take 5).drop 1).length = 4 := by rw [List.length_drop, List.length_take]; omega
        have h9 : ((l.take 9).drop 5).length = 4 := by rw [List.length_drop, List.length_take]; omega
        have hn := num_bound ((l.take 9).drop 5) (cut_bytes l hb 5 9)
        rw [h9, show ((256 ^ 4 : Nat) : Int) = 4294967296 from rfl] at hn
        have e5 := num13_ev ((l.take 5).drop 1) (by omega) (cut_bytes l hb 1 5)
        have e9 := num13_ev ((l.take 9).drop 5) (by omega) (cut_bytes l hb 5 9)
        refine E.pos hs (E.pos (by omega) (E.pos (by omega) (E.bind e5 ?_)))
        by_cases hm : num ((l.take 5).drop 1) > 1073741824
        · exact E.pos hm (E.nowEq (if_pos hm).symm)
        · exact E.neg hm (E.bind e5 (E.pos (by omega) (E.pos (by omega) (E.bind e9 (E.nowEq (by rw [Int.emod_eq_of_lt hn.1 hn.2]; exact (if_neg hm).symm))))))
      · rw [if_neg hs]
        exact E.neg hs E.now
    · rw [if_neg h0]
      exact E.neg h0 E.now
  · rw [if_neg hl]
    exact E.neg (by omega) E.now
open Be Crc in
/-- What is read is made again. -/
theorem ackR_made (l : List Int) (hb : ∀ c ∈ l, isByte c) (n b : Int) (h : ackR l = (n, b, 0)) : 0 ≤ n ∧ n ≤ 1073741824 ∧ 0 ≤ b ∧ b < 4294967296 ∧ ackP n b = l := by
  unfold ackR at h
  by_cases hl : l.length = 13
  · rw [if_pos hl] at h
    by_cases h0 : rd l 0 = 65
    · rw [if_pos h0] at h
      by_cases hs : isSealed l = true
      · rw [if_pos hs] at h
        have h5 : ((l.take 5).drop 1).length = 4 := by rw [List.length_drop, List.length_take]; omega
        have h9 : ((l.take 9).drop 5).length = 4 := by rw [List.length_drop, List.length_take]; omega
        have hn5 := num_bound ((l.take 5).drop 1) (cut_bytes l hb 1 5)
        have hn := num_bound ((l.take 9).drop 5) (cut_bytes l hb 5 9)
        rw [h9, show ((256 ^ 4 : Nat) : Int) = 4294967296 from rfl] at hn
        by_cases hm : num ((l.take 5).drop 1) > 1073741824
        · rw [if_pos hm] at h
          simp at h
        · rw [if_neg hm] at h
          obtain ⟨k1, k2⟩ := Prod.mk.inj h
          obtain ⟨k3, _⟩ := Prod.mk.inj k2
          clear k2 h
          subst k1
          subst k3
          refine ⟨hn5.1, by omega, hn.1, hn.2, ?_⟩
          have e9 : l.take 9 = ackB (num ((l.take 5).drop 1)) (num ((l.take 9).drop 5)) := by
            unfold ackB
            rw [be_num' 4 _ h5 (cut_bytes l hb 1 5), be_num' 4 _ h9 (cut_bytes l hb 5 9)]
            match l, hl, h0 with
            | [a0, a1, a2, a3, a4, a5, a6, a7, a8, a9, a10, a11, a12], _, h0 =>
              have : a0 = 65 := h0
              subst this
              rfl
          unfold isSealed at hs
          rw [hl, Bool.and_eq_true, decide_eq_true_eq, decide_eq_true_eq, e9] at hs
          exact hs.2
      · rw [if_neg hs] at h
        simp at h
    · rw [if_neg h0] at h
      simp at h
  · rw [if_neg hl] at h
    simp at h

theorem AckReads : volutelaw15_AckReads.Pure := by
  intro l _ _ hwf
  have hb := bytes_wf l hwf
  refine Ev.rounds ?_
  unfold volutelaw15_AckReads.f
  by_cases hl : l.length ≤ 100
  · refine E.neg (by omega) (E.bval (twin_eq l (by omega)) (E.bind (ackread_ev l hb) (E.bind (refack_ev l hb) (E.bind (Bytes_ev l l (by omega)) (E.pos (by simp) (E.pos rfl ?_))))))
    have hr : ∀ x : Int × Int × Int, ackR l = x → Ev (fun k => (volutekeep_Ack.f x.1 x.2.1 x.1 x.2.1).bind fun t221 => volutelaw15_AckReads.j0 k l x.2.2 (!t221) x.1 x.2.1) true := by
      rintro ⟨n, b, e⟩ hx
      refine E.bval (a := true) (by show volutekeep_Ack.f n b n b = some true; unfold volutekeep_Ack.f; rw [if_pos rfl]; simp) ?_
      refine E.step (fun _ => volutelaw15_AckReads.j0.eq_2 ..) (E.neg (by decide) ?_)
      by_cases he : e = 0
      · subst he
        obtain ⟨h0, h1, h2, h3, h4⟩ := ackR_made l hb n b hx
        refine E.pos rfl (E.bind (ackmake_ev n b h0 h1 h2 h3) (E.pos rfl ?_))
        rw [h4]
        exact E.bind (Bytes_ev l l (by omega)) (E.pos (by simp) (E.bind wakes15 E.now))
      · exact E.neg he (E.bind wakes15 E.now)
    exact hr (ackR l) rfl
  · exact E.pos (by omega) E.now

end Go.Proofs.Ytmioimcpiddgfaa.Pure
