/- The tables are the registers behind each byte, as the reference shifts them; byte by byte they make the sums, for every text of at most 300 bytes. No condition but the law's own. -/
import Derived.Test.YtiblpnglmicjcaaPCrcTablesx2
import Derived.Test.YtiblpnglmicjcaaBv
import Derived.Test.YtiblpnglmicjcaaEv
import Derived.Test.YtiblpnglmicjcaaCrc
namespace Go.Proofs.Ytiblpnglmicjcaa.Pure
open Go.RowKit Go.Proofs.Ytiblpnglmicjcaa.PCrcTables Go.Proofs.YtiblpnglmicjcaaW.PrintWords Go.Proofs.YtiblpnglmicjcaaW.PrintLast
open Bv Crc in
theorem t32_inner (x1 : List Int) (i : Int) (X : List Int) (hx : x1.length < 1000) : ∀ (d j : Nat) (v : BitVec 32), j + d = 8 →
    Ev (fun k => crc_Table32.l0 k (x1 ++ [u (E.many L d v)]) (wrap64 (i + 1))) X → Ev (fun k => crc_Table32.l1 k x1 (u v) i (j : Int)) X := by
  intro d
  induction d with
  | zero =>
    intro j v hj R
    exact E.step (fun _ => crc_Table32.l1.eq_2 ..) (E.neg (by omega) (E.pos (by omega) R))
  | succ d ih =>
    intro j v hj R
    rw [E.many_in] at R
    have e : Go.bits .and .i64 (u v) 1 = ((v.toNat % 2 : Nat) : Int) := and1 v.toNat (lt63 (by decide) v)
    have w : wrap64 ((j : Int) + 1) = ((j + 1 : Nat) : Int) := by rw [E.wrap_id (by omega) (by omega)]; omega
    refine E.step (fun _ => crc_Table32.l1.eq_2 ..) (E.pos (by omega) ?_)
    rw [e, w]
    by_cases h : v.toNat % 2 = 1
    · refine E.pos (by omega) ?_
      have e2 : Go.bits .xor .i64 (u v / (2 : Int)) 3988292384 = u (L v) := by
        rw [shr1, L_odd h]
        exact xor_u (by decide) (v >>> 1) 3988292384#32
      rw [e2]
      exact ih (j + 1) (L v) (by omega) R
    · refine E.neg (by omega) ?_
      have e2 : u v / (2 : Int) = u (L v) := by rw [shr1, L_even h]
      rw [e2]
      exact ih (j + 1) (L v) (by omega) R
open Bv Crc in
def tbl32 (n : Nat) : List Int := (List.range n).map (fun i : Nat => u (tab32 i))
open Bv Crc in
theorem tbl32_at (n i : Nat) (h : i < n) : rd (tbl32 n) (i : Int) = u (tab32 i) := by
  unfold rd tbl32
  rw [Int.toNat_natCast, List.getD_eq_getElem?_getD, List.getElem?_map, List.getElem?_range h]
  rfl
theorem tbl32_length (n : Nat) : (tbl32 n).length = n := by simp [tbl32]
open Bv Crc in
theorem t32_outer : ∀ (d i : Nat), i + d = 256 → Ev (fun k => crc_Table32.l0 k (tbl32 i) (i : Int)) (tbl32 256) := by
  intro d
  induction d with
  | zero =>
    intro i hi
    obtain rfl : i = 256 := by omega
    exact E.step (fun _ => crc_Table32.l0.eq_2 ..) (E.neg (by omega) E.now)
  | succ d ih =>
    intro i hi
    refine E.step (fun _ => crc_Table32.l0.eq_2 ..) (E.pos (by omega) ?_)
    have e : (i : Int) = u (BitVec.ofNat 32 i) := by unfold u; rw [BitVec.toNat_ofNat, Nat.mod_eq_of_lt (by omega)]
    have R := ih (i + 1) (by omega)
    have e3 : tbl32 (i + 1) = tbl32 i ++ [u (E.many L 8 (BitVec.ofNat 32 i))] := by unfold tbl32; rw [List.range_succ, List.map_append]; rfl
    have w : wrap64 ((i : Int) + 1) = ((i + 1 : Nat) : Int) := by rw [E.wrap_id (by omega) (by omega)]; omega
    rw [e3, ← w] at R
    have := t32_inner (tbl32 i) (i : Int) (tbl32 256) (by rw [tbl32_length]; omega) 8 0 (BitVec.ofNat 32 i) rfl R
    rw [← e] at this
    exact this
theorem table32_ev : Ev (fun k => crc_Table32.f k) (tbl32 256) := by
  unfold crc_Table32.f
  exact t32_outer 256 0 rfl
open Bv Crc in
theorem sum32_loop (l : List Int) (hl : l.length ≤ 4096) : ∀ (rest pre : List Int) (r : BitVec 32), l = pre ++ rest → (∀ c ∈ rest, isByte c) →
    Ev (fun k => crc_Sum32.l0 k (tbl32 256) (u r) l (l.length : Int) (pre.length : Int)) (u (reg32 r rest ^^^ ones32), 0) := by
  intro rest
  induction rest with
  | nil =>
    intro pre r h _
    have hlen : l.length = pre.length := by rw [h]; simp
    refine E.step (fun _ => crc_Sum32.l0.eq_2 ..) (E.neg (by omega) (E.nowEq ?_))
    have := xor_u (by decide) r ones32
    rw [reg_nil, ← this]
    rfl
  | cons c rest ih =>
    intro pre r h hb
    have hlen : l.length = pre.length + (rest.length + 1) := by rw [h]; simp
    have hp : rd l (pre.length : Int) = c := by rw [h]; exact E.rd_at pre rest c
    obtain ⟨h0, h1⟩ := hb c (by simp)
    have ec : c = ((c.toNat : Nat) : Int) := by omega
    have hr := r.isLt
    have hix : (r.toNat % 256) ^^^ c.toNat < 2 ^ 8 := Nat.xor_lt_two_pow (by omega) (by omega)
    have ei : Go.bits .xor .i64 (Go.bits .and .i64 (u r) 255) (wrap64 c) = (((r.toNat % 256) ^^^ c.toNat : Nat) : Int) := by
      have e1 : Go.bits .and .i64 (u r) 255 = ((r.toNat % 256 : Nat) : Int) := and255i r.toNat (by omega)
      rw [e1, E.wrap_id (by omega) (by omega), ec, xorN _ _ (by omega) (by omega), Int.toNat_natCast]
    have es : Go.bits .xor .i64 (u r / (256 : Int)) (u (tab32 ((r.toNat % 256) ^^^ c.toNat))) = u (step32 r c) := by
      rw [shr8, xor_u (by decide), step_tab r c ⟨h0, h1⟩]
    refine E.step (fun _ => crc_Sum32.l0.eq_2 ..) (E.pos (by omega) (E.pos (by omega) (E.pos (by omega) ?_)))
    rw [hp, ei, tbl32_length]
    refine E.pos (by omega) (E.pos (by omega) ?_)
    rw [tbl32_at _ _ (by omega), es, E.wrap_snoc pre c (by omega)]
    exact ih (pre ++ [c]) (step32 r c) (by rw [h]; simp) (fun y hy => hb y (by simp [hy]))
open Bv Crc in
theorem sum32_ev (l : List Int) (hl : l.length ≤ 4096) (hb : ∀ c ∈ l, isByte c) : Ev (fun k => crc_Sum32.f k l) (u (sum32 l), 0) := by
  unfold crc_Sum32.f
  refine E.neg (by omega) (E.bind table32_ev ?_)
  have := sum32_loop l hl l [] ones32 rfl hb
  exact this
theorem sum32_long (l : List Int) (hl : ¬ l.length ≤ 4096) : Ev (fun k => crc_Sum32.f k l) (0, 2) := by
  unfold crc_Sum32.f
  exact E.pos (by omega) E.now
theorem bytes_wf (l : List Int) (h : ∀ x ∈ l, (Lit.int .u8 x).wf = true) : ∀ c ∈ l, Crc.isByte c := fun c hc => Bv.wf_u8 (h c hc)

open Bv Crc in
theorem shl1_u (v : BitVec 16) : wrap64 (u v * 2) = ((v.toNat * 2 : Nat) : Int) := by
  have hv := v.isLt
  unfold u
  rw [E.wrap_id (by omega) (by omega)]
  omega
open Bv Crc in
theorem t16_inner (x1 : List Int) (i : Int) (X : List Int) (hx : x1.length < 1000) : ∀ (d j : Nat) (v : BitVec 16), j + d = 8 →
    Ev (fun k => crc_Table16.l0 k (x1 ++ [u (E.many M d v)]) (wrap64 (i + 1))) X → Ev (fun k => crc_Table16.l1 k x1 (u v) i (j : Int)) X := by
  intro d
  induction d with
  | zero =>
    intro j v hj R
    exact E.step (fun _ => crc_Table16.l1.eq_2 ..) (E.neg (by omega) (E.pos (by omega) R))
  | succ d ih =>
    intro j v hj R
    rw [E.many_in] at R
    have hv := v.isLt
    have w : wrap64 ((j : Int) + 1) = ((j + 1 : Nat) : Int) := by rw [E.wrap_id (by omega) (by omega)]; omega
    have es : u (v <<< 1) = ((v.toNat * 2 % 65536 : Nat) : Int) := by
      unfold u
      rw [BitVec.toNat_shiftLeft, Nat.shiftLeft_eq]
    refine E.step (fun _ => crc_Table16.l1.eq_2 ..) (E.pos (by omega) ?_)
    rw [shl1_u, w]
    by_cases h : 32768 ≤ v.toNat
    · refine E.pos (by omega) ?_
      have e2 : Go.bits .xor .i64 (Go.bits .and .i64 ((v.toNat * 2 : Nat) : Int) 65535) 4129 = u (M v) := by
        rw [and65535i _ (by omega), M_top h, ← es]
        exact xor_u (by decide) (v <<< 1) 4129#16
      rw [e2]
      exact ih (j + 1) (M v) (by omega) R
    · refine E.neg (by omega) ?_
      have e2 : ((v.toNat * 2 : Nat) : Int) = u (M v) := by rw [M_not h, es]; omega
      rw [e2]
      exact ih (j + 1) (M v) (by omega) R
open Bv Crc in
def tbl16 (n : Nat) : List Int := (List.range n).map (fun i : Nat => u (tab16 i))
open Bv Crc in
theorem tbl16_at (n i : Nat) (h : i < n) : rd (tbl16 n) (i : Int) = u (tab16 i) := by
  unfold rd tbl16
  rw [Int.toNat_natCast, List.getD_eq_getElem?_getD, List.getElem?_map, List.getElem?_range h]
  rfl
theorem tbl16_length (n : Nat) : (tbl16 n).length = n := by simp [tbl16]
open Bv Crc in
theorem t16_outer : ∀ (d i : Nat), i + d = 256 → Ev (fun k => crc_Table16.l0 k (tbl16 i) (i : Int)) (tbl16 256) := by
  intro d
  induction d with
  | zero =>
    intro i hi
    obtain rfl : i = 256 := by omega
    exact E.step (fun _ => crc_Table16.l0.eq_2 ..) (E.neg (by omega) E.now)
  | succ d ih =>
    intro i hi
    refine E.step (fun _ => crc_Table16.l0.eq_2 ..) (E.pos (by omega) ?_)
    have e : wrap64 ((i : Int) * 256) = u (BitVec.ofNat 16 (i * 256)) := by
      unfold u
      rw [BitVec.toNat_ofNat, Nat.mod_eq_of_lt (by omega), E.wrap_id (by omega) (by omega)]
      omega
    have R := ih (i + 1) (by omega)
    have e3 : tbl16 (i + 1) = tbl16 i ++ [u (E.many M 8 (BitVec.ofNat 16 (i * 256)))] := by unfold tbl16; rw [List.range_succ, List.map_append]; rfl
    have w : wrap64 ((i : Int) + 1) = ((i + 1 : Nat) : Int) := by rw [E.wrap_id (by omega) (by omega)]; omega
    rw [e3, ← w] at R
    rw [e]
    exact t16_inner (tbl16 i) (i : Int) (tbl16 256) (by rw [tbl16_length]; omega) 8 0 (BitVec.ofNat 16 (i * 256)) rfl R
theorem table16_ev : Ev (fun k => crc_Table16.f k) (tbl16 256) := by
  unfold crc_Table16.f
  exact t16_outer 256 0 rfl
open Bv Crc in
theorem sum16_loop (l : List Int) (hl : l.length ≤ 4096) : ∀ (rest pre : List Int) (r : BitVec 16), l = pre ++ rest → (∀ c ∈ rest, isByte c) →
    Ev (fun k => crc_Sum16.l0 k (tbl16 256) (u r) l (l.length : Int) (pre.length : Int)) (u (reg16 r rest), 0) := by
  intro rest
  induction rest with
  | nil =>
    intro pre r h _
    have hlen : l.length = pre.length := by rw [h]; simp
    exact E.step (fun _ => crc_Sum16.l0.eq_2 ..) (E.neg (by omega) (E.nowEq (by rw [reg16_nil])))
  | cons c rest ih =>
    intro pre r h hb
    have hlen : l.length = pre.length + (rest.length + 1) := by rw [h]; simp
    have hp : rd l (pre.length : Int) = c := by rw [h]; exact E.rd_at pre rest c
    obtain ⟨h0, h1⟩ := hb c (by simp)
    have ec : c = ((c.toNat : Nat) : Int) := by omega
    have hr := r.isLt
    have hix : (r.toNat / 256) ^^^ c.toNat < 2 ^ 8 := Nat.xor_lt_two_pow (by omega) (by omega)
    have ei : Go.bits .xor .i64 (u r / (256 : Int)) (wrap64 c) = (((r.toNat / 256) ^^^ c.toNat : Nat) : Int) := by
      have e1 : u r / (256 : Int) = ((r.toNat / 256 : Nat) : Int) := by unfold u; omega
      rw [e1, E.wrap_id (by omega) (by omega), ec, xorN _ _ (by omega) (by omega), Int.toNat_natCast]
    have es : Go.bits .xor .i64 (Go.bits .and .i64 (wrap64 (u r * 256)) 65535) (u (tab16 ((r.toNat / 256) ^^^ c.toNat))) = u (step16 r c) := by
      have e1 : wrap64 (u r * 256) = ((r.toNat * 256 : Nat) : Int) := by
        unfold u
        rw [E.wrap_id (by omega) (by omega)]
        omega
      have e2 : ((r.toNat * 256 % 65536 : Nat) : Int) = u (r <<< 8) := by
        unfold u
        rw [BitVec.toNat_shiftLeft, Nat.shiftLeft_eq]
      rw [e1, and65535i _ (by omega), e2, xor_u (by decide), step_tab16 r c ⟨h0, h1⟩]
    refine E.step (fun _ => crc_Sum16.l0.eq_2 ..) (E.pos (by omega) (E.pos (by omega) (E.pos (by omega) ?_)))
    rw [hp, ei, tbl16_length]
    refine E.pos (by omega) (E.pos (by omega) ?_)
    rw [tbl16_at _ _ (by omega), es, E.wrap_snoc pre c (by omega)]
    exact ih (pre ++ [c]) (step16 r c) (by rw [h]; simp) (fun y hy => hb y (by simp [hy]))
open Bv Crc in
theorem sum16_ev (l : List Int) (hl : l.length ≤ 4096) (hb : ∀ c ∈ l, isByte c) : Ev (fun k => crc_Sum16.f k l) (u (sum16 l), 0) := by
  unfold crc_Sum16.f
  refine E.neg (by omega) (E.bind table16_ev ?_)
  have := sum16_loop l hl l [] ones16 rfl hb
  exact this
theorem sum16_long (l : List Int) (hl : ¬ l.length ≤ 4096) : Ev (fun k => crc_Sum16.f k l) (0, 2) := by
  unfold crc_Sum16.f
  exact E.pos (by omega) E.now

theorem l9_bytes : ∀ c ∈ volutelaw03_wakes.l9, Crc.isByte c := by
  intro c hc
  simp [volutelaw03_wakes.l9] at hc
  unfold Crc.isByte
  omega
open Bv Crc in
theorem l9_sum16 : u (sum16 volutelaw03_wakes.l9) = (10673 : Int) := by decide +kernel
open Bv Crc in
theorem l9_sum32 : u (sum32 volutelaw03_wakes.l9) = (3421780262 : Int) := by decide +kernel
theorem wakes03 : Ev (fun k => volutelaw03_wakes.f k) true := by
  have hl : volutelaw03_wakes.l9.length ≤ 4096 := by decide
  obtain ⟨K, hK⟩ := sum16_ev volutelaw03_wakes.l9 hl l9_bytes
  obtain ⟨K', hK'⟩ := sum32_ev volutelaw03_wakes.l9 hl l9_bytes
  rw [l9_sum16] at hK
  rw [l9_sum32] at hK'
  refine ⟨max K K', fun k hk => ?_⟩
  show volutelaw03_wakes.f k = some true
  unfold volutelaw03_wakes.f
  exact if_pos ⟨hK k (by omega), hK' k (by omega)⟩

open Bv Crc in
theorem shift32_f (r : BitVec 32) (b : Nat) (hb : b < 2) : voluteref01_Shift32.f (u r) (b : Int) = some (u (L (r ^^^ BitVec.ofNat 32 b))) := by
  unfold voluteref01_Shift32.f
  have e1 : Go.bits .and .i64 (u r) 1 = ((r.toNat % 2 : Nat) : Int) := and1 r.toNat (lt63 (by decide) r)
  have hx : (r ^^^ BitVec.ofNat 32 b).toNat = r.toNat ^^^ b := by rw [BitVec.toNat_xor, BitVec.toNat_ofNat, Nat.mod_eq_of_lt (by omega)]
  have hp : (r.toNat ^^^ b) % 2 = (r.toNat % 2 + b % 2) % 2 := by
    have h := Nat.xor_mod_two_eq_one (a := r.toNat) (b := b)
    omega
  have hs : (r ^^^ BitVec.ofNat 32 b) >>> 1 = r >>> 1 := by
    apply BitVec.eq_of_toNat_eq
    rw [BitVec.toNat_ushiftRight, hx, BitVec.toNat_ushiftRight, Nat.shiftRight_xor_distrib]
    have : b >>> 1 = 0 := by rw [Nat.shiftRight_eq_div_pow]; omega
    rw [this, Nat.xor_zero]
  rw [e1]
  by_cases h : r.toNat % 2 = b
  · rw [if_pos (by omega), L_even (by rw [hx, hp]; omega), hs, shr1]
  · rw [if_neg (by omega), L_odd (by rw [hx, hp]; omega), hs, shr1]
    have := xor_u (by decide) (r >>> 1) 3988292384#32
    rw [← this]
    rfl
theorem shr_u8 (x j : Nat) (hj : j < 8) : wrap64 (shr .u8 (x : Int) (IntKind.u64.wrap (j : Int))) = wrap64 ((x / 2 ^ j : Nat) : Int) := by
  have e : IntKind.u64.wrap (j : Int) = (j : Int) := by rw [IntKind.wrap_u64]; omega
  rw [e]
  unfold shr
  rw [Int.toNat_natCast, Nat.min_eq_left (by simp [IntKind.bits]; omega)]
  exact_mod_cast rfl

open Bv Crc in
theorem shift16_f (r : BitVec 16) (b : Nat) (hb : b < 2) : voluteref01_Shift16.f (u r) (b : Int) = some (u (M (r ^^^ top16 b))) := by
  unfold voluteref01_Shift16.f
  have hr := r.isLt
  have e1 : u r / (32768 : Int) = ((r.toNat / 32768 : Nat) : Int) := by unfold u; omega
  have e2 : wrap64 (u r * 2) = ((r.toNat * 2 : Nat) : Int) := by
    unfold u
    rw [E.wrap_id (by omega) (by omega)]
    omega
  have e3 : ((r.toNat * 2 % 65536 : Nat) : Int) = u (r <<< 1) := by
    unfold u
    rw [BitVec.toNat_shiftLeft, Nat.shiftLeft_eq]
  have hx : (r ^^^ top16 b).toNat = r.toNat ^^^ (b * 32768) := by unfold top16; rw [BitVec.toNat_xor, BitVec.toNat_ofNat, Nat.mod_eq_of_lt (by omega)]
  have hd : (r.toNat ^^^ (b * 32768)) / 32768 = (r.toNat / 32768) ^^^ b := by
    have h := Nat.shiftRight_xor_distrib (a := r.toNat) (b := b * 32768) (i := 15)
    rw [Nat.shiftRight_eq_div_pow, Nat.shiftRight_eq_div_pow, Nat.shiftRight_eq_div_pow] at h
    have h2 : b * 32768 / 2 ^ 15 = b := by omega
    rw [h2] at h
    exact h
  have hlt : r.toNat ^^^ (b * 32768) < 2 ^ 16 := Nat.xor_lt_two_pow (by omega) (by omega)
  have hs : (r ^^^ top16 b) <<< 1 = r <<< 1 := by
    apply BitVec.eq_of_getLsbD_eq
    intro i hi
    rw [BitVec.getLsbD_shiftLeft, BitVec.getLsbD_shiftLeft, BitVec.getLsbD_xor]
    have ht : (top16 b).getLsbD (i - 1) = false := by
      unfold top16
      rw [BitVec.getLsbD_ofNat, show (32768 : Nat) = 2 ^ 15 from rfl, Nat.testBit_mul_two_pow]
      simp
      omega
    rw [ht, Bool.xor_false]
  rw [e1, e2, and65535i _ (by omega), e3]
  have hq : r.toNat / 32768 < 2 := by omega
  by_cases h : r.toNat / 32768 = b
  · have hz : (r.toNat ^^^ (b * 32768)) / 32768 = 0 := by rw [hd, h, Nat.xor_self]
    rw [if_pos (by omega), M_not (by rw [hx]; omega), hs]
  · have hz : (r.toNat ^^^ (b * 32768)) / 32768 = 1 := by
      rw [hd]
      have hb2 : b = 0 ∨ b = 1 := by omega
      have hq2 : r.toNat / 32768 = 0 ∨ r.toNat / 32768 = 1 := by omega
      rcases hb2 with hb2 | hb2 <;> rcases hq2 with hq2 | hq2 <;> rw [hb2, hq2] <;> first | rfl | (exfalso; omega)
    rw [if_neg (by omega), M_top (by rw [hx]; omega), hs]
    have := xor_u (by decide) (r <<< 1) 4129#16
    rw [← this]
    rfl

theorem sub7 (j d : Nat) (h : j + (d + 1) = 8) : 7 - j = d := by omega
theorem shr_i64 (x s : Nat) (hs : s ≤ 8) : shr .i64 (x : Int) (s : Int) = ((x / 2 ^ s : Nat) : Int) := by
  unfold shr
  rw [Int.toNat_natCast, Nat.min_eq_left (by simp [IntKind.bits]; omega)]
  exact_mod_cast rfl
open Bv Crc in
set_option maxHeartbeats 2000000 in
theorem tab_inner (l x3 x4 : List Int) (i : Nat) (hi : i < 256) (h3 : x3.length = 256) (h4 : x4.length = 256) (X : Bool)
    (R : Ev (fun k => volutelaw03_CrcTables.l0 k l x3 x4 (wrap64 ((i : Int) + 1))) X) : ∀ (d j : Nat) (r : BitVec 16) (q : BitVec 32), j + d = 8 →
    rd x3 (i : Int) = u (fd16 r (((List.range' j d).map (fun j => i / 2 ^ (7 - j) % 2)).map top16)) → rd x4 (i : Int) = u (fd32 q ((List.range' j d).map (fun j => BitVec.ofNat 32 (i / 2 ^ j % 2)))) →
    Ev (fun k => volutelaw03_CrcTables.l1 k l x3 x4 (i : Int) (u r) (u q) ((d : Int) - 1)) X := by
  intro d
  induction d with
  | zero =>
    intro j r q hj e3 e4
    refine E.step (fun _ => volutelaw03_CrcTables.l1.eq_2 ..) (E.neg (by omega) (E.pos (by omega) (E.pos (by omega) (E.pos e3 (E.pos (by omega) (E.pos e4 R))))))
  | succ d ih =>
    intro j r q hj e3 e4
    have h7 := sub7 j d hj
    rw [List.range'_succ, List.map_cons, List.map_cons, h7] at e3
    rw [List.range'_succ, List.map_cons] at e4
    have ed : ((d + 1 : Nat) : Int) - 1 = (d : Int) := by omega
    have wd : wrap64 ((d : Int) - 1) = (d : Int) - 1 := E.wrap_id (by omega) (by omega)
    have wj : wrap64 (7 - (d : Int)) = (j : Int) := by rw [E.wrap_id (by omega) (by omega)]; omega
    have q1 : i / 2 ^ d ≤ i := Nat.div_le_self _ _
    have q2 : i / 2 ^ j ≤ i := Nat.div_le_self _ _
    rw [ed]
    refine E.step (fun _ => volutelaw03_CrcTables.l1.eq_2 ..) ?_
    rw [wj, u64_nat d (by omega), u64_nat j (by omega), shr_i64 i d (by omega), shr_i64 i j (by omega), and1 (i / 2 ^ d) (by omega), and1 (i / 2 ^ j) (by omega), wd]
    refine E.pos (by omega) (E.pos (by omega) (E.bval (shift16_f r (i / 2 ^ d % 2) (by omega)) (E.pos (by omega) (E.bval (shift32_f q (i / 2 ^ j % 2) (by omega)) ?_))))
    exact ih (j + 1) _ _ (by omega) e3 e4
open Bv Crc in
theorem walk_loop (l : List Int) (hl : l.length ≤ 300) (hall : ∀ c ∈ l, isByte c) : ∀ (rest pre : List Int) (r : BitVec 16) (q : BitVec 32), l = pre ++ rest → (∀ c ∈ rest, isByte c) → reg16 r rest = sum16 l → reg32 q rest ^^^ ones32 = sum32 l →
    Ev (fun k => volutelaw03_CrcTables.l2 k l (tbl16 256) (tbl32 256) (u r) (u q) (pre.length : Int)) true := by
  intro rest
  induction rest with
  | nil =>
    intro pre r q h _ e1 e2
    have hlen : l.length = pre.length := by rw [h]; simp
    refine E.step (fun _ => volutelaw03_CrcTables.l2.eq_2 ..) (E.neg (by omega) (E.bind (sum16_ev l (by omega) hall) (E.bind (sum32_ev l (by omega) hall) (E.pos rfl (E.pos rfl (E.pos ?_ (E.pos ?_ (E.bind wakes03 E.now))))))))
    · rw [← e1, reg16_nil]
    · have := xor_u (by decide) q ones32
      rw [← e2, reg_nil, ← this]
      rfl
  | cons c rest ih =>
    intro pre r q h hb e1 e2
    have hlen : l.length = pre.length + (rest.length + 1) := by rw [h]; simp
    have hp : rd l (pre.length : Int) = c := by rw [h]; exact E.rd_at pre rest c
    have hcb := hb c (by simp)
    have h0 := hcb.1
    have h1 := hcb.2
    have ec : c = ((c.toNat : Nat) : Int) := by omega
    have hr := r.isLt
    have hq := q.isLt
    have hi16 : (r.toNat / 256) ^^^ c.toNat < 2 ^ 8 := Nat.xor_lt_two_pow (by omega) (by omega)
    have hi32 : (q.toNat % 256) ^^^ c.toNat < 2 ^ 8 := Nat.xor_lt_two_pow (by omega) (by omega)
    have hxq : q.toNat ^^^ c.toNat < 2 ^ 32 := Nat.xor_lt_two_pow (by omega) (by omega)
    have wc : wrap64 c = ((c.toNat : Nat) : Int) := by rw [E.wrap_id (by omega) (by omega)]; omega
    have i16 : Go.bits .and .i64 (Go.bits .xor .i64 (u r / (256 : Int)) (wrap64 c)) 255 = (((r.toNat / 256) ^^^ c.toNat : Nat) : Int) := by
      have e1 : u r / (256 : Int) = ((r.toNat / 256 : Nat) : Int) := by unfold u; omega
      rw [e1, wc, xorN _ _ (by omega) (by omega), and255i _ (by omega), Nat.mod_eq_of_lt hi16]
    have i32 : Go.bits .and .i64 (Go.bits .xor .i64 (u q) (wrap64 c)) 255 = (((q.toNat % 256) ^^^ c.toNat : Nat) : Int) := by
      have e1 : u q = ((q.toNat : Nat) : Int) := rfl
      have e2 : (q.toNat ^^^ c.toNat) % 256 = (q.toNat % 256) ^^^ c.toNat := by
        rw [show (256 : Nat) = 2 ^ 8 from rfl, Nat.xor_mod_two_pow, Nat.mod_eq_of_lt (show c.toNat < 2 ^ 8 by omega)]
      rw [e1, wc, xorN _ _ (by omega) (by omega), and255i _ (by omega), e2]
    have s16 : Go.bits .xor .i64 (Go.bits .and .i64 (wrap64 (u r * 256)) 65535) (u (tab16 ((r.toNat / 256) ^^^ c.toNat))) = u (step16 r c) := by
      have e1 : wrap64 (u r * 256) = ((r.toNat * 256 : Nat) : Int) := by
        unfold u
        rw [E.wrap_id (by omega) (by omega)]
        omega
      have e2 : ((r.toNat * 256 % 65536 : Nat) : Int) = u (r <<< 8) := by
        unfold u
        rw [BitVec.toNat_shiftLeft, Nat.shiftLeft_eq]
      rw [e1, and65535i _ (by omega), e2, xor_u (by decide), step_tab16 r c hcb]
    have s32 : Go.bits .xor .i64 (u q / (256 : Int)) (u (tab32 ((q.toNat % 256) ^^^ c.toNat))) = u (step32 q c) := by
      rw [shr8, xor_u (by decide), step_tab q c hcb]
    refine E.step (fun _ => volutelaw03_CrcTables.l2.eq_2 ..) (E.pos (by omega) (E.pos (by omega) ?_))
    rw [hp, i16, i32, tbl16_length, tbl32_length]
    refine E.pos (by omega) (E.pos (by omega) (E.pos (by omega) (E.pos (by omega) ?_)))
    rw [tbl16_at _ _ (by omega), tbl32_at _ _ (by omega), s16, s32, E.wrap_snoc pre c (by omega)]
    exact ih (pre ++ [c]) (step16 r c) (step32 q c) (by rw [h]; simp) (fun y hy => hb y (by simp [hy])) e1 e2
open Bv Crc in
theorem tab_outer (l : List Int) (R : Ev (fun k => volutelaw03_CrcTables.l2 k l (tbl16 256) (tbl32 256) 65535 4294967295 0) true) : ∀ (d i : Nat), i + d = 256 →
    Ev (fun k => volutelaw03_CrcTables.l0 k l (tbl16 256) (tbl32 256) (i : Int)) true := by
  intro d
  induction d with
  | zero =>
    intro i hi
    exact E.step (fun _ => volutelaw03_CrcTables.l0.eq_2 ..) (E.neg (by omega) R)
  | succ d ih =>
    intro i hi
    refine E.step (fun _ => volutelaw03_CrcTables.l0.eq_2 ..) (E.pos (by omega) ?_)
    have w : wrap64 ((i : Int) + 1) = ((i + 1 : Nat) : Int) := by rw [E.wrap_id (by omega) (by omega)]; omega
    have N := ih (i + 1) (by omega)
    rw [← w] at N
    have e3 : rd (tbl16 256) (i : Int) = u (fd16 0#16 (((List.range' 0 8).map (fun j => i / 2 ^ (7 - j) % 2)).map top16)) := by
      rw [tbl16_at _ _ (by omega)]
      have := fd16_table i (by omega)
      unfold bitsOf at this
      rw [this]
      rfl
    have e4 : rd (tbl32 256) (i : Int) = u (fd32 0#32 ((List.range' 0 8).map (fun j => BitVec.ofNat 32 (i / 2 ^ j % 2)))) := by
      rw [tbl32_at _ _ (by omega)]
      have := fd32_table i (by omega)
      unfold bits32 at this
      rw [this]
      rfl
    exact tab_inner l (tbl16 256) (tbl32 256) i (by omega) (tbl16_length 256) (tbl32_length 256) true N 8 0 0#16 0#32 rfl e3 e4
open Bv Crc in
theorem CrcTables : volutelaw03_CrcTables.Pure := by
  intro l _ hsz hwf
  have hb := bytes_wf l hwf
  refine Ev.rounds ?_
  unfold volutelaw03_CrcTables.f
  by_cases hl : l.length ≤ 300
  · have W := walk_loop l hl hb l [] ones16 ones32 rfl hb rfl rfl
    refine E.neg (by omega) (E.bind table16_ev (E.bind table32_ev (E.pos (by rw [tbl16_length]; rfl) ?_)))
    refine E.step (fun _ => volutelaw03_CrcTables.j0.eq_2 ..) (E.neg (by rw [tbl32_length]; decide) ?_)
    exact tab_outer l W 256 0 rfl
  · exact E.pos (by omega) E.now

end Go.Proofs.Ytiblpnglmicjcaa.Pure
