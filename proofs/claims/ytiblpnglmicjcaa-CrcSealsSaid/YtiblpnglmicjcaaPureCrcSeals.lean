/- A sealed text, and whether a text is one, are the page's; what is sealed is one. No condition but the law's own. -/
import Derived.Test.YtiblpnglmicjcaaPCrcSealsx3
import Derived.Test.YtiblpnglmicjcaaBv
import Derived.Test.YtiblpnglmicjcaaEv
import Derived.Test.YtiblpnglmicjcaaCrc
namespace Go.Proofs.Ytiblpnglmicjcaa.Pure
open Go.RowKit Go.Proofs.Ytiblpnglmicjcaa.PCrcSeals Go.Proofs.YtiblpnglmicjcaaW.PrintWords Go.Proofs.YtiblpnglmicjcaaW.PrintLast
open Bv Crc in
theorem t32_inner (x1 : List Int) (i : Int) (X : List Int) (hx : x1.length < 1000) : ∀ (d j : Nat) (v : BitVec 32), j + d = 8 →
    Ev (fun k => crc_Table32.l0 k (x1 ++ [u (E.many L d v)]) (wrap64 (i + 1))) X → Ev (fun k => crc_Table32.l1 k x1 (u v) i (j : Int)) X := by
  intro d
  induction d with
  | zero =>
    intro j v hj R
    exact E.step (fun _ => crc_Table32.l1.eq_2 ..) (E.neg (by omega) (E.pos (by omega) R))
  | succ d ih =>
    intro j v hj R
    rw [E.many_in] at R
    have e : Go.bits .and .i64 (u v) 1 = ((v.toNat % 2 : Nat) : Int) := and1 v.toNat (lt63 (by decide) v)
    have w : wrap64 ((j : Int) + 1) = ((j + 1 : Nat) : Int) := by rw [E.wrap_id (by omega) (by omega)]; omega
    refine E.step (fun _ => crc_Table32.l1.eq_2 ..) (E.pos (by omega) ?_)
    rw [e, w]
    by_cases h : v.toNat % 2 = 1
    · refine E.pos (by omega) ?_
      have e2 : Go.bits .xor .i64 (u v / (2 : Int)) 3988292384 = u (L v) := by
        rw [shr1, L_odd h]
        exact xor_u (by decide) (v >>> 1) 3988292384#32
      rw [e2]
      exact ih (j + 1) (L v) (by omega) R
    · refine E.neg (by omega) ?_
      have e2 : u v / (2 : Int) = u (L v) := by rw [shr1, L_even h]
      rw [e2]
      exact ih (j + 1) (L v) (by omega) R
open Bv Crc in
def tbl32 (n : Nat) : List Int := (List.range n).map (fun i : Nat => u (tab32 i))
open Bv Crc in
theorem tbl32_at (n i : Nat) (h : i < n) : rd (tbl32 n) (i : Int) = u (tab32 i) := by
  unfold rd tbl32
  rw [Int.toNat_natCast, List.getD_eq_getElem?_getD, List.getElem?_map, List.getElem?_range h]
  rfl
theorem tbl32_length (n : Nat) : (tbl32 n).length = n := by simp [tbl32]
open Bv Crc in
theorem t32_outer : ∀ (d i : Nat), i + d = 256 → Ev (fun k => crc_Table32.l0 k (tbl32 i) (i : Int)) (tbl32 256) := by
  intro d
  induction d with
  | zero =>
    intro i hi
    obtain rfl : i = 256 := by omega
    exact E.step (fun _ => crc_Table32.l0.eq_2 ..) (E.neg (by omega) E.now)
  | succ d ih =>
    intro i hi
    refine E.step (fun _ => crc_Table32.l0.eq_2 ..) (E.pos (by omega) ?_)
    have e : (i : Int) = u (BitVec.ofNat 32 i) := by unfold u; rw [BitVec.toNat_ofNat, Nat.mod_eq_of_lt (by omega)]
    have R := ih (i + 1) (by omega)
    have e3 : tbl32 (i + 1) = tbl32 i ++ [u (E.many L 8 (BitVec.ofNat 32 i))] := by unfold tbl32; rw [List.range_succ, List.map_append]; rfl
    have w : wrap64 ((i : Int) + 1) = ((i + 1 : Nat) : Int) := by rw [E.wrap_id (by omega) (by omega)]; omega
    rw [e3, ← w] at R
    have := t32_inner (tbl32 i) (i : Int) (tbl32 256) (by rw [tbl32_length]; omega) 8 0 (BitVec.ofNat 32 i) rfl R
    rw [← e] at this
    exact this
theorem table32_ev : Ev (fun k => crc_Table32.f k) (tbl32 256) := by
  unfold crc_Table32.f
  exact t32_outer 256 0 rfl
open Bv Crc in
theorem sum32_loop (l : List Int) (hl : l.length ≤ 4096) : ∀ (rest pre : List Int) (r : BitVec 32), l = pre ++ rest → (∀ c ∈ rest, isByte c) →
    Ev (fun k => crc_Sum32.l0 k (tbl32 256) (u r) l (l.length : Int) (pre.length : Int)) (u (reg32 r rest ^^^ ones32), 0) := by
  intro rest
  induction rest with
  | nil =>
    intro pre r h _
    have hlen : l.length = pre.length := by rw [h]; simp
    refine E.step (fun _ => crc_Sum32.l0.eq_2 ..) (E.neg (by omega) (E.nowEq ?_))
    have := xor_u (by decide) r ones32
    rw [reg_nil, ← this]
    rfl
  | cons c rest ih =>
    intro pre r h hb
    have hlen : l.length = pre.length + (rest.length + 1) := by rw [h]; simp
    have hp : rd l (pre.length : Int) = c := by rw [h]; exact E.rd_at pre rest c
    obtain ⟨h0, h1⟩ := hb c (by simp)
    have ec : c = ((c.toNat : Nat) : Int) := by omega
    have hr := r.isLt
    have hix : (r.toNat % 256) ^^^ c.toNat < 2 ^ 8 := Nat.xor_lt_two_pow (by omega) (by omega)
    have ei : Go.bits .xor .i64 (Go.bits .and .i64 (u r) 255) (wrap64 c) = (((r.toNat % 256) ^^^ c.toNat : Nat) : Int) := by
      have e1 : Go.bits .and .i64 (u r) 255 = ((r.toNat % 256 : Nat) : Int) := and255i r.toNat (by omega)
      rw [e1, E.wrap_id (by omega) (by omega), ec, xorN _ _ (by omega) (by omega), Int.toNat_natCast]
    have es : Go.bits .xor .i64 (u r / (256 : Int)) (u (tab32 ((r.toNat % 256) ^^^ c.toNat))) = u (step32 r c) := by
      rw [shr8, xor_u (by decide), step_tab r c ⟨h0, h1⟩]
    refine E.step (fun _ => crc_Sum32.l0.eq_2 ..) (E.pos (by omega) (E.pos (by omega) (E.pos (by omega) ?_)))
    rw [hp, ei, tbl32_length]
    refine E.pos (by omega) (E.pos (by omega) ?_)
    rw [tbl32_at _ _ (by omega), es, E.wrap_snoc pre c (by omega)]
    exact ih (pre ++ [c]) (step32 r c) (by rw [h]; simp) (fun y hy => hb y (by simp [hy]))
open Bv Crc in
theorem sum32_ev (l : List Int) (hl : l.length ≤ 4096) (hb : ∀ c ∈ l, isByte c) : Ev (fun k => crc_Sum32.f k l) (u (sum32 l), 0) := by
  unfold crc_Sum32.f
  refine E.neg (by omega) (E.bind table32_ev ?_)
  have := sum32_loop l hl l [] ones32 rfl hb
  exact this
theorem sum32_long (l : List Int) (hl : ¬ l.length ≤ 4096) : Ev (fun k => crc_Sum32.f k l) (0, 2) := by
  unfold crc_Sum32.f
  exact E.pos (by omega) E.now
theorem bytes_wf (l : List Int) (h : ∀ x ∈ l, (Lit.int .u8 x).wf = true) : ∀ c ∈ l, Crc.isByte c := fun c hc => Bv.wf_u8 (h c hc)

open Bv Crc in
theorem shl1_u (v : BitVec 16) : wrap64 (u v * 2) = ((v.toNat * 2 : Nat) : Int) := by
  have hv := v.isLt
  unfold u
  rw [E.wrap_id (by omega) (by omega)]
  omega
open Bv Crc in
theorem t16_inner (x1 : List Int) (i : Int) (X : List Int) (hx : x1.length < 1000) : ∀ (d j : Nat) (v : BitVec 16), j + d = 8 →
    Ev (fun k => crc_Table16.l0 k (x1 ++ [u (E.many M d v)]) (wrap64 (i + 1))) X → Ev (fun k => crc_Table16.l1 k x1 (u v) i (j : Int)) X := by
  intro d
  induction d with
  | zero =>
    intro j v hj R
    exact E.step (fun _ => crc_Table16.l1.eq_2 ..) (E.neg (by omega) (E.pos (by omega) R))
  | succ d ih =>
    intro j v hj R
    rw [E.many_in] at R
    have hv := v.isLt
    have w : wrap64 ((j : Int) + 1) = ((j + 1 : Nat) : Int) := by rw [E.wrap_id (by omega) (by omega)]; omega
    have es : u (v <<< 1) = ((v.toNat * 2 % 65536 : Nat) : Int) := by
      unfold u
      rw [BitVec.toNat_shiftLeft, Nat.shiftLeft_eq]
    refine E.step (fun _ => crc_Table16.l1.eq_2 ..) (E.pos (by omega) ?_)
    rw [shl1_u, w]
    by_cases h : 32768 ≤ v.toNat
    · refine E.pos (by omega) ?_
      have e2 : Go.bits .xor .i64 (Go.bits .and .i64 ((v.toNat * 2 : Nat) : Int) 65535) 4129 = u (M v) := by
        rw [and65535i _ (by omega), M_top h, ← es]
        exact xor_u (by decide) (v <<< 1) 4129#16
      rw [e2]
      exact ih (j + 1) (M v) (by omega) R
    · refine E.neg (by omega) ?_
      have e2 : ((v.toNat * 2 : Nat) : Int) = u (M v) := by rw [M_not h, es]; omega
      rw [e2]
      exact ih (j + 1) (M v) (by omega) R
open Bv Crc in
def tbl16 (n : Nat) : List Int := (List.range n).map (fun i : Nat => u (tab16 i))
open Bv Crc in
theorem tbl16_at (n i : Nat) (h : i < n) : rd (tbl16 n) (i : Int) = u (tab16 i) := by
  unfold rd tbl16
  rw [Int.toNat_natCast, List.getD_eq_getElem?_getD, List.getElem?_map, List.getElem?_range h]
  rfl
theorem tbl16_length (n : Nat) : (tbl16 n).length = n := by simp [tbl16]
open Bv Crc in
theorem t16_outer : ∀ (d i : Nat), i + d = 256 → Ev (fun k => crc_Table16.l0 k (tbl16 i) (i : Int)) (tbl16 256) := by
  intro d
  induction d with
  | zero =>
    intro i hi
    obtain rfl : i = 256 := by omega
    exact E.step (fun _ => crc_Table16.l0.eq_2 ..) (E.neg (by omega) E.now)
  | succ d ih =>
    intro i hi
    refine E.step (fun _ => crc_Table16.l0.eq_2 ..) (E.pos (by omega) ?_)
    have e : wrap64 ((i : Int) * 256) = u (BitVec.ofNat 16 (i * 256)) := by
      unfold u
      rw [BitVec.toNat_ofNat, Nat.mod_eq_of_lt (by omega), E.wrap_id (by omega) (by omega)]
      omega
    have R := ih (i + 1) (by omega)
    have e3 : tbl16 (i + 1) = tbl16 i ++ [u (E.many M 8 (BitVec.ofNat 16 (i * 256)))] := by unfold tbl16; rw [List.range_succ, List.map_append]; rfl
    have w : wrap64 ((i : Int) + 1) = ((i + 1 : Nat) : Int) := by rw [E.wrap_id (by omega) (by omega)]; omega
    rw [e3, ← w] at R
    rw [e]
    exact t16_inner (tbl16 i) (i : Int) (tbl16 256) (by rw [tbl16_length]; omega) 8 0 (BitVec.ofNat 16 (i * 256)) rfl R
theorem table16_ev : Ev (fun k => crc_Table16.f k) (tbl16 256) := by
  unfold crc_Table16.f
  exact t16_outer 256 0 rfl
open Bv Crc in
theorem sum16_loop (l : List Int) (hl : l.length ≤ 4096) : ∀ (rest pre : List Int) (r : BitVec 16), l = pre ++ rest → (∀ c ∈ rest, isByte c) →
    Ev (fun k => crc_Sum16.l0 k (tbl16 256) (u r) l (l.length : Int) (pre.length : Int)) (u (reg16 r rest), 0) := by
  intro rest
  induction rest with
  | nil =>
    intro pre r h _
    have hlen : l.length = pre.length := by rw [h]; simp
    exact E.step (fun _ => crc_Sum16.l0.eq_2 ..) (E.neg (by omega) (E.nowEq (by rw [reg16_nil])))
  | cons c rest ih =>
    intro pre r h hb
    have hlen : l.length = pre.length + (rest.length + 1) := by rw [h]; simp
    have hp : rd l (pre.length : Int) = c := by rw [h]; exact E.rd_at pre rest c
    obtain ⟨h0, h1⟩ := hb c (by simp)
    have ec : c = ((c.toNat : Nat) : Int) := by omega
    have hr := r.isLt
    have hix : (r.toNat / 256) ^^^ c.toNat < 2 ^ 8 := Nat.xor_lt_two_pow (by omega) (by omega)
    have ei : Go.bits .xor .i64 (u r / (256 : Int)) (wrap64 c) = (((r.toNat / 256) ^^^ c.toNat : Nat) : Int) := by
      have e1 : u r / (256 : Int) = ((r.toNat / 256 : Nat) : Int) := by unfold u; omega
      rw [e1, E.wrap_id (by omega) (by omega), ec, xorN _ _ (by omega) (by omega), Int.toNat_natCast]
    have es : Go.bits .xor .i64 (Go.bits .and .i64 (wrap64 (u r * 256)) 65535) (u (tab16 ((r.toNat / 256) ^^^ c.toNat))) = u (step16 r c) := by
      have e1 : wrap64 (u r * 256) = ((r.toNat * 256 : Nat) : Int) := by
        unfold u
        rw [E.wrap_id (by omega) (by omega)]
        omega
      have e2 : ((r.toNat * 256 % 65536 : Nat) : Int) = u (r <<< 8) := by
        unfold u
        rw [BitVec.toNat_shiftLeft, Nat.shiftLeft_eq]
      rw [e1, and65535i _ (by omega), e2, xor_u (by decide), step_tab16 r c ⟨h0, h1⟩]
    refine E.step (fun _ => crc_Sum16.l0.eq_2 ..) (E.pos (by omega) (E.pos (by omega) (E.pos (by omega) ?_)))
    rw [hp, ei, tbl16_length]
    refine E.pos (by omega) (E.pos (by omega) ?_)
    rw [tbl16_at _ _ (by omega), es, E.wrap_snoc pre c (by omega)]
    exact ih (pre ++ [c]) (step16 r c) (by rw [h]; simp) (fun y hy => hb y (by simp [hy]))
open Bv Crc in
theorem sum16_ev (l : List Int) (hl : l.length ≤ 4096) (hb : ∀ c ∈ l, isByte c) : Ev (fun k => crc_Sum16.f k l) (u (sum16 l), 0) := by
  unfold crc_Sum16.f
  refine E.neg (by omega) (E.bind table16_ev ?_)
  have := sum16_loop l hl l [] ones16 rfl hb
  exact this
theorem sum16_long (l : List Int) (hl : ¬ l.length ≤ 4096) : Ev (fun k => crc_Sum16.f k l) (0, 2) := by
  unfold crc_Sum16.f
  exact E.pos (by omega) E.now

theorem l9_bytes : ∀ c ∈ volutelaw03_wakes.l9, Crc.isByte c := by
  intro c hc
  simp [volutelaw03_wakes.l9] at hc
  unfold Crc.isByte
  omega
open Bv Crc in
theorem l9_sum16 : u (sum16 volutelaw03_wakes.l9) = (10673 : Int) := by decide +kernel
open Bv Crc in
theorem l9_sum32 : u (sum32 volutelaw03_wakes.l9) = (3421780262 : Int) := by decide +kernel
theorem wakes03 : Ev (fun k => volutelaw03_wakes.f k) true := by
  have hl : volutelaw03_wakes.l9.length ≤ 4096 := by decide
  obtain ⟨K, hK⟩ := sum16_ev volutelaw03_wakes.l9 hl l9_bytes
  obtain ⟨K', hK'⟩ := sum32_ev volutelaw03_wakes.l9 hl l9_bytes
  rw [l9_sum16] at hK
  rw [l9_sum32] at hK'
  refine ⟨max K K', fun k hk => ?_⟩
  show volutelaw03_wakes.f k = some true
  unfold volutelaw03_wakes.f
  exact if_pos ⟨hK k (by omega), hK' k (by omega)⟩

theorem cloneb (l : List Int) (h : l.length ≤ 5000) : slices_Clone_byte_byte.f l = some l := by
  unfold slices_Clone_byte_byte.f
  exact if_pos (by omega)

open Bv Crc in
theorem shr8u (s : BitVec 32) (j : Nat) : u (s >>> j) / (256 : Int) = u (s >>> (j + 8)) := by rw [shr8, ← BitVec.shiftRight_add]
open Bv Crc in
theorem seal_ev (l : List Int) (hl : l.length ≤ 4092) (hb : ∀ c ∈ l, isByte c) : Ev (fun k => crc_Seal.f k l) (l ++ seal4 (sum32 l), 0) := by
  unfold crc_Seal.f
  refine E.neg (by omega) (E.bind (sum32_ev l (by omega) hb) (E.pos rfl (E.bval (cloneb l (by omega)) ?_)))
  generalize sum32 l = s
  show Ev (fun k => crc_Seal.l0 k (u s) l 0) (l ++ seal4 s, 0)
  have w0 : wrap64 ((0 : Int) + 1) = 1 := E.wrap_id (by omega) (by omega)
  have w1 : wrap64 ((1 : Int) + 1) = 2 := E.wrap_id (by omega) (by omega)
  have w2 : wrap64 ((2 : Int) + 1) = 3 := E.wrap_id (by omega) (by omega)
  have w3 : wrap64 ((3 : Int) + 1) = 4 := E.wrap_id (by omega) (by omega)
  have e0 : u s / (256 : Int) = u (s >>> 8) := shr8 s
  have e1 := shr8u s 8
  have e2 := shr8u s 16
  refine E.step (fun _ => crc_Seal.l0.eq_2 ..) (E.pos (by omega) (E.pos (by omega) ?_))
  rw [w0, e0]
  refine E.step (fun _ => crc_Seal.l0.eq_2 ..) (E.pos (by omega) (E.pos (by rw [List.length_append, List.length_singleton]; omega) ?_))
  rw [w1, e1]
  refine E.step (fun _ => crc_Seal.l0.eq_2 ..) (E.pos (by omega) (E.pos (by rw [List.length_append, List.length_append, List.length_singleton, List.length_singleton]; omega) ?_))
  rw [w2, e2]
  refine E.step (fun _ => crc_Seal.l0.eq_2 ..) (E.pos (by omega) (E.pos (by rw [List.length_append, List.length_append, List.length_append, List.length_singleton, List.length_singleton, List.length_singleton]; omega) ?_))
  rw [w3]
  have ef : l ++ [u s % 256] ++ [u (s >>> 8) % 256] ++ [u (s >>> (8 + 8)) % 256] ++ [u (s >>> (16 + 8)) % 256] = l ++ seal4 s := by
    unfold seal4
    simp only [List.append_assoc, List.cons_append, List.nil_append]
  rw [ef]
  exact E.step (fun _ => crc_Seal.l0.eq_2 ..) (E.neg (by omega) (E.bval (cloneb _ (by rw [List.length_append, seal4_length]; omega)) E.now))
theorem seal_long (l : List Int) (hl : ¬ l.length ≤ 4092) : Ev (fun k => crc_Seal.f k l) ([], 2) := by
  unfold crc_Seal.f
  exact E.pos (by omega) E.now

theorem eqb_loop (a b : List Int) (hl : a.length < 4611686018427387904) (he : a.length = b.length) : ∀ (ra rb pa pb : List Int), a = pa ++ ra → b = pb ++ rb → pa.length = pb.length →
    Ev (fun k => slices_Equal_byte_byte.l0 k a b (a.length : Int) (pa.length : Int)) (decide (ra = rb)) := by
  intro ra
  induction ra with
  | nil =>
    intro rb pa pb ha hb hp
    have h1 : a.length = pa.length := by rw [ha]; simp
    have h2 : b.length = pb.length + rb.length := by rw [hb]; simp
    obtain rfl : rb = [] := List.eq_nil_of_length_eq_zero (by omega)
    exact E.step (fun _ => slices_Equal_byte_byte.l0.eq_2 ..) (E.neg (by omega) (E.nowEq (by simp)))
  | cons x ra ih =>
    intro rb pa pb ha hb hp
    have h1 : a.length = pa.length + (ra.length + 1) := by rw [ha]; simp
    have h2 : b.length = pb.length + rb.length := by rw [hb]; simp
    cases rb with
    | nil => simp only [List.length_nil] at h2; omega
    | cons y rb =>
      have e1 : rd a (pa.length : Int) = x := by rw [ha]; exact E.rd_at pa ra x
      have e2 : rd b (pa.length : Int) = y := by rw [hb]; exact E.rd_at' pb rb y pa.length hp.symm
      simp only [List.length_cons] at h2
      refine E.step (fun _ => slices_Equal_byte_byte.l0.eq_2 ..) (E.pos (by omega) (E.pos (by omega) (E.pos (by omega) (E.pos (by omega) ?_))))
      rw [e1, e2]
      by_cases hxy : x = y
      · subst hxy
        refine E.pos rfl ?_
        rw [E.wrap_snoc pa x (by omega)]
        have := ih rb (pa ++ [x]) (pb ++ [x]) (by rw [ha]; simp) (by rw [hb]; simp) (by simp [hp])
        exact E.eqv (by simp) this
      · exact E.neg hxy (E.nowEq (by simp [hxy]))
theorem eqb_ev (a b : List Int) (hl : a.length < 4611686018427387904) : Ev (fun k => slices_Equal_byte_byte.f k a b) (decide (a = b)) := by
  unfold slices_Equal_byte_byte.f
  by_cases he : a.length = b.length
  · refine E.pos (by omega) ?_
    have := eqb_loop a b hl he a b [] [] rfl rfl rfl
    simpa using this
  · exact E.neg (by omega) (E.nowEq (by
      have : ¬ a = b := fun h => he (by rw [h])
      simp [this]))

open Bv Crc in
/-- Are a text's last four bytes the sum of those ahead? -/
def isSealed (l : List Int) : Bool := decide (4 ≤ l.length) && decide (l.take (l.length - 4) ++ seal4 (sum32 (l.take (l.length - 4))) = l)
open Bv Crc in
theorem sealed_ev (l : List Int) (hl : l.length ≤ 4096) (hb : ∀ c ∈ l, isByte c) : Ev (fun k => crc_Sealed.f k l) (isSealed l, 0) := by
  unfold crc_Sealed.f isSealed
  refine E.neg (by omega) ?_
  by_cases h : l.length < 4
  · exact E.pos (by omega) (E.nowEq (by rw [decide_eq_false (show ¬ 4 ≤ l.length by omega), Bool.false_and]))
  · have w : wrap64 ((l.length : Int) - 4) = ((l.length - 4 : Nat) : Int) := by rw [E.wrap_id (by omega) (by omega)]; omega
    refine E.neg (by omega) ?_
    rw [w, Int.toNat_natCast, decide_eq_true (show 4 ≤ l.length by omega), Bool.true_and]
    have ht : (l.take (l.length - 4)).length = l.length - 4 := by rw [List.length_take]; omega
    refine E.pos (by omega) (E.pos (by omega) (E.bind (seal_ev _ (by omega) (fun c hc => hb c (List.mem_of_mem_take hc))) (E.pos rfl ?_)))
    exact E.bind (eqb_ev _ l (by rw [List.length_append, seal4_length, ht]; omega)) E.now
theorem sealed_long (l : List Int) (hl : ¬ l.length ≤ 4096) : Ev (fun k => crc_Sealed.f k l) (false, 2) := by
  unfold crc_Sealed.f
  exact E.pos (by omega) E.now

open Bv Crc in
theorem shift32_f (r : BitVec 32) (b : Nat) (hb : b < 2) : voluteref01_Shift32.f (u r) (b : Int) = some (u (L (r ^^^ BitVec.ofNat 32 b))) := by
  unfold voluteref01_Shift32.f
  have e1 : Go.bits .and .i64 (u r) 1 = ((r.toNat % 2 : Nat) : Int) := and1 r.toNat (lt63 (by decide) r)
  have hx : (r ^^^ BitVec.ofNat 32 b).toNat = r.toNat ^^^ b := by rw [BitVec.toNat_xor, BitVec.toNat_ofNat, Nat.mod_eq_of_lt (by omega)]
  have hp : (r.toNat ^^^ b) % 2 = (r.toNat % 2 + b % 2) % 2 := by
    have h := Nat.xor_mod_two_eq_one (a := r.toNat) (b := b)
    omega
  have hs : (r ^^^ BitVec.ofNat 32 b) >>> 1 = r >>> 1 := by
    apply BitVec.eq_of_toNat_eq
    rw [BitVec.toNat_ushiftRight, hx, BitVec.toNat_ushiftRight, Nat.shiftRight_xor_distrib]
    have : b >>> 1 = 0 := by rw [Nat.shiftRight_eq_div_pow]; omega
    rw [this, Nat.xor_zero]
  rw [e1]
  by_cases h : r.toNat % 2 = b
  · rw [if_pos (by omega), L_even (by rw [hx, hp]; omega), hs, shr1]
  · rw [if_neg (by omega), L_odd (by rw [hx, hp]; omega), hs, shr1]
    have := xor_u (by decide) (r >>> 1) 3988292384#32
    rw [← this]
    rfl
theorem shr_u8 (x j : Nat) (hj : j < 8) : wrap64 (shr .u8 (x : Int) (IntKind.u64.wrap (j : Int))) = wrap64 ((x / 2 ^ j : Nat) : Int) := by
  have e : IntKind.u64.wrap (j : Int) = (j : Int) := by rw [IntKind.wrap_u64]; omega
  rw [e]
  unfold shr
  rw [Int.toNat_natCast, Nat.min_eq_left (by simp [IntKind.bits]; omega)]
  exact_mod_cast rfl

open Bv Crc in
theorem ref32_inner (l : List Int) (i c : Nat) (hc : c < 256) (hi : i < l.length) (hr : rd l (i : Int) = (c : Int)) (X : Int) : ∀ (d j : Nat) (r : BitVec 32), j + d = 8 →
    Ev (fun k => voluteref01_Sum32.l0 k l (u (fd32 r ((List.range' j d).map (fun j => BitVec.ofNat 32 (c / 2 ^ j % 2))))) (wrap64 ((i : Int) + 1))) X →
    Ev (fun k => voluteref01_Sum32.l1 k l (u r) (i : Int) (j : Int)) X := by
  intro d
  induction d with
  | zero =>
    intro j r hj R
    exact E.step (fun _ => voluteref01_Sum32.l1.eq_2 ..) (E.neg (by omega) R)
  | succ d ih =>
    intro j r hj R
    have w : wrap64 ((j : Int) + 1) = ((j + 1 : Nat) : Int) := by rw [E.wrap_id (by omega) (by omega)]; omega
    have hu : 0 ≤ IntKind.u64.wrap (j : Int) := by rw [IntKind.wrap_u64]; omega
    have hd : c / 2 ^ j ≤ c := Nat.div_le_self _ _
    refine E.step (fun _ => voluteref01_Sum32.l1.eq_2 ..) (E.pos (by omega) (E.pos (by omega) (E.pos (by omega) (E.pos hu ?_))))
    rw [hr, shr_u8 c j (by omega), E.wrap_nat (by omega), and1 _ (by omega), w]
    refine E.bval (shift32_f r (c / 2 ^ j % 2) (by omega)) ?_
    rw [List.range'_succ, List.map_cons] at R
    exact ih (j + 1) _ (by omega) R
open Bv Crc in
theorem ref32_loop (l : List Int) (hl : l.length ≤ 4096) : ∀ (rest pre : List Int) (r : BitVec 32), l = pre ++ rest → (∀ c ∈ rest, isByte c) →
    Ev (fun k => voluteref01_Sum32.l0 k l (u r) (pre.length : Int)) (u (reg32 r rest ^^^ ones32)) := by
  intro rest
  induction rest with
  | nil =>
    intro pre r h _
    have hlen : l.length = pre.length := by rw [h]; simp
    refine E.step (fun _ => voluteref01_Sum32.l0.eq_2 ..) (E.neg (by omega) (E.nowEq ?_))
    have := xor_u (by decide) r ones32
    rw [reg_nil, ← this]
    rfl
  | cons c rest ih =>
    intro pre r h hb
    have hlen : l.length = pre.length + (rest.length + 1) := by rw [h]; simp
    have hcb := hb c (by simp)
    have h0 := hcb.1
    have h1 := hcb.2
    have hp : rd l (pre.length : Int) = ((c.toNat : Nat) : Int) := by rw [h, E.rd_at pre rest c]; omega
    refine E.step (fun _ => voluteref01_Sum32.l0.eq_2 ..) (E.pos (by omega) ?_)
    refine ref32_inner l pre.length c.toNat (by omega) (by omega) hp _ 8 0 r rfl ?_
    have := fd32_byte r c hcb
    unfold bits32 at this
    rw [this, E.wrap_snoc pre c (by omega)]
    exact ih (pre ++ [c]) (step32 r c) (by rw [h]; simp) (fun y hy => hb y (by simp [hy]))
open Bv Crc in
theorem ref32_ev (l : List Int) (hl : l.length ≤ 4096) (hb : ∀ c ∈ l, isByte c) : Ev (fun k => voluteref01_Sum32.f k l) (u (sum32 l)) := by
  unfold voluteref01_Sum32.f
  exact ref32_loop l hl l [] ones32 rfl hb

theorem twin_eq (l : List Int) (h : l.length ≤ 100000) : volutekeep_Twin.f l = some l := by
  unfold volutekeep_Twin.f
  rw [if_pos (by simp only [List.length_nil]; omega), List.nil_append]

theorem Bytes_loop (a b : List Int) (hl : a.length < 4611686018427387904) (he : a.length = b.length) : ∀ (ra rb pa pb : List Int), a = pa ++ ra → b = pb ++ rb → pa.length = pb.length →
    Ev (fun k => volutekeep_Bytes.l0 k a b (pa.length : Int)) (decide (ra = rb)) := by
  intro ra
  induction ra with
  | nil =>
    intro rb pa pb ha hb hp
    have h1 : a.length = pa.length := by rw [ha]; simp
    have h2 : b.length = pb.length + rb.length := by rw [hb]; simp
    obtain rfl : rb = [] := List.eq_nil_of_length_eq_zero (by omega)
    exact E.step (fun _ => volutekeep_Bytes.l0.eq_2 ..) (E.neg (by omega) (E.nowEq (by simp)))
  | cons x ra ih =>
    intro rb pa pb ha hb hp
    have h1 : a.length = pa.length + (ra.length + 1) := by rw [ha]; simp
    have h2 : b.length = pb.length + rb.length := by rw [hb]; simp
    cases rb with
    | nil => simp only [List.length_nil] at h2; omega
    | cons y rb =>
      have e1 : rd a (pa.length : Int) = x := by rw [ha]; exact E.rd_at pa ra x
      have e2 : rd b (pa.length : Int) = y := by rw [hb]; exact E.rd_at' pb rb y pa.length hp.symm
      simp only [List.length_cons] at h2
      refine E.step (fun _ => volutekeep_Bytes.l0.eq_2 ..) (E.pos (by omega) (E.pos (by omega) (E.pos (by omega) ?_)))
      rw [e1, e2]
      by_cases hxy : x = y
      · subst hxy
        refine E.pos rfl ?_
        rw [E.wrap_snoc pa x (by omega)]
        have := ih rb (pa ++ [x]) (pb ++ [x]) (by rw [ha]; simp) (by rw [hb]; simp) (by simp [hp])
        exact E.eqv (by simp) this
      · exact E.neg hxy (E.nowEq (by simp [hxy]))
theorem Bytes_ev (a b : List Int) (hl : a.length < 4611686018427387904) : Ev (fun k => volutekeep_Bytes.f k a b) (decide (a = b)) := by
  unfold volutekeep_Bytes.f
  by_cases he : a.length = b.length
  · refine E.pos (by omega) ?_
    have := Bytes_loop a b hl he a b [] [] rfl rfl rfl
    simpa using this
  · exact E.neg (by omega) (E.nowEq (by
      have : ¬ a = b := fun h => he (by rw [h])
      simp [this]))

open Bv Crc in
theorem refseal_ev (l : List Int) (hl : l.length ≤ 4096) (hb : ∀ c ∈ l, isByte c) : Ev (fun k => voluteref01_Seal.f k l) (l ++ seal4 (sum32 l)) := by
  unfold voluteref01_Seal.f
  refine E.bind (ref32_ev l hl hb) (E.bval (twin_eq l (by omega)) ?_)
  generalize sum32 l = s
  have e : ([(u s) % 256, (u s / 256) % 256, (u s / 65536) % 256, (u s / 16777216) % 256] : List Int) = seal4 s := by
    unfold seal4
    rw [shr8 s, show u s / (65536 : Int) = u (s >>> 16) from shr16 s, show u s / (16777216 : Int) = u (s >>> 24) from shr_pow s 24]
  rw [e]
  refine E.bval (x := some (seal4 s)) rfl ?_
  refine E.pos ?_ E.now
  rw [seal4_length]
  omega
open Bv Crc in
theorem refsealed_ev (l : List Int) (hl : l.length ≤ 4096) (hb : ∀ c ∈ l, isByte c) : Ev (fun k => voluteref01_Sealed.f k l) (isSealed l) := by
  unfold voluteref01_Sealed.f isSealed
  by_cases h : 4 ≤ l.length
  · have w : wrap64 ((l.length : Int) - 4) = ((l.length - 4 : Nat) : Int) := by rw [E.wrap_id (by omega) (by omega)]; omega
    rw [w, Int.toNat_natCast, decide_eq_true h, Bool.true_and]
    have ht : (l.take (l.length - 4)).length = l.length - 4 := by rw [List.length_take]; omega
    refine E.pos (by omega) (E.pos (by omega) (E.pos (by omega) (E.bind (refseal_ev _ (by omega) (fun c hc => hb c (List.mem_of_mem_take hc))) ?_)))
    exact E.bind (Bytes_ev _ l (by rw [List.length_append, seal4_length, ht]; omega)) E.now
  · exact E.neg (by omega) (E.nowEq (by rw [decide_eq_false h, Bool.false_and]))

open Bv Crc in
theorem isSealed_seal (l : List Int) : isSealed (l ++ seal4 (sum32 l)) = true := by
  unfold isSealed
  have e : (l ++ seal4 (sum32 l)).length = l.length + 4 := by rw [List.length_append, seal4_length]
  rw [e, Nat.add_sub_cancel, List.take_left, decide_eq_true (by omega), decide_eq_true rfl]
  rfl
open Bv Crc in
theorem CrcSeals : volutelaw03_CrcSeals.Pure := by
  intro l _ _ hwf
  have hb := bytes_wf l hwf
  refine Ev.rounds ?_
  unfold volutelaw03_CrcSeals.f
  by_cases hl : l.length ≤ 300
  · have hs : (l ++ seal4 (sum32 l)).length = l.length + 4 := by rw [List.length_append, seal4_length]
    have hb2 : ∀ c ∈ l ++ seal4 (sum32 l), isByte c := fun c hc => by
      rcases List.mem_append.1 hc with h | h
      · exact hb c h
      · exact seal4_bytes _ c h
    have hk := isSealed_seal l
    refine E.neg (by omega) (E.bval (twin_eq l (by omega)) (E.bind (seal_ev l (by omega) hb) (E.bind (sealed_ev l (by omega) hb) (E.pos rfl (E.pos rfl (E.bind (refseal_ev l (by omega) hb) ?_))))))
    generalize l ++ seal4 (sum32 l) = x at hs hb2 hk ⊢
    refine E.bind (Bytes_ev x x (by omega)) (E.pos (by simp) (E.bind (refsealed_ev l (by omega) hb) (E.neg (by simp) (E.bind (Bytes_ev l l (by omega)) ?_))))
    have w4 : wrap64 ((l.length : Int) + 4) = (x.length : Int) := by rw [E.wrap_id (by omega) (by omega)]; omega
    have w1 : wrap64 ((x.length : Int) - 1) = ((x.length - 1 : Nat) : Int) := by rw [E.wrap_id (by omega) (by omega)]; omega
    refine E.step (fun _ => volutelaw03_CrcSeals.j0.eq_2 ..) (E.neg (by simp) ?_)
    refine E.bind (sealed_ev x (by omega) hb2) (E.pos rfl (E.pos hk ?_))
    rw [w4]
    refine E.step (fun _ => volutelaw03_CrcSeals.j1.eq_2 ..) (E.neg (by simp) ?_)
    rw [w1, Int.toNat_natCast]
    have hb3 : ∀ c ∈ x.take (x.length - 1), isByte c := fun c hc => hb2 c (List.mem_of_mem_take hc)
    have ht : (x.take (x.length - 1)).length ≤ 4096 := by rw [List.length_take]; omega
    refine E.pos (by omega) (E.pos (by show ((x.length - 1 : Nat) : Int) ≤ (x.length : Int); omega) (E.bind (sealed_ev _ ht hb3) (E.pos rfl (E.bind (refsealed_ev _ ht hb3) (E.pos (by simp) (E.bind wakes03 E.now))))))
  · exact E.pos (by omega) E.now

end Go.Proofs.Ytiblpnglmicjcaa.Pure
