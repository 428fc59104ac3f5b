/- Of three texts of one length, at most 300 bytes, held against one another bit by bit, the sum is the three sums held so, for both sums. No condition but the law's own. -/
import Derived.Test.YtiblpnglmicjcaaPCrcLinearx2
import Derived.Test.YtiblpnglmicjcaaBv
import Derived.Test.YtiblpnglmicjcaaEv
import Derived.Test.YtiblpnglmicjcaaCrc
namespace Go.Proofs.Ytiblpnglmicjcaa.Pure
open Go.RowKit Go.Proofs.Ytiblpnglmicjcaa.PCrcLinear Go.Proofs.YtiblpnglmicjcaaW.PrintWords Go.Proofs.YtiblpnglmicjcaaW.PrintLast
open Bv Crc in
theorem t32_inner (x1 : List Int) (i : Int) (X : List Int) (hx : x1.length < 1000) : ∀ (d j : Nat) (v : BitVec 32), j + d = 8 →
    Ev (fun k => crc_Table32.l0 k (x1 ++ [u (E.many L d v)]) (wrap64 (i + 1))) X → Ev (fun k => crc_Table32.l1 k x1 (u v) i (j : Int)) X := by
  intro d
  induction d with
  | zero =>
    intro j v hj R
    exact E.step (fun _ => crc_Table32.l1.eq_2 ..) (E.neg (by omega) (E.pos (by omega) R))
  | succ d ih =>
    intro j v hj R
    rw [E.many_in] at R
    have e : Go.bits .and .i64 (u v) 1 = ((v.toNat % 2 : Nat) : Int) := and1 v.toNat (lt63 (by decide) v)
    have w : wrap64 ((j : Int) + 1) = ((j + 1 : Nat) : Int) := by rw [E.wrap_id (by omega) (by omega)]; omega
    refine E.step (fun _ => crc_Table32.l1.eq_2 ..) (E.pos (by omega) ?_)
    rw [e, w]
    by_cases h : v.toNat % 2 = 1
    · refine E.pos (by omega) ?_
      have e2 : Go.bits .xor .i64 (u v / (2 : Int)) 3988292384 = u (L v) := by
        rw [shr1, L_odd h]
        exact xor_u (by decide) (v >>> 1) 3988292384#32
      rw [e2]
      exact ih (j + 1) (L v) (by omega) R
    · refine E.neg (by omega) ?_
      have e2 : u v / (2 : Int) = u (L v) := by rw [shr1, L_even h]
      rw [e2]
      exact ih (j + 1) (L v) (by omega) R
open Bv Crc in
def tbl32 (n : Nat) : List Int := (List.range n).map (fun i : Nat => u (tab32 i))
open Bv Crc in
theorem tbl32_at (n i : Nat) (h : i < n) : rd (tbl32 n) (i : Int) = u (tab32 i) := by
  unfold rd tbl32
  rw [Int.toNat_natCast, List.getD_eq_getElem?_getD, List.getElem?_map, List.getElem?_range h]
  rfl
theorem tbl32_length (n : Nat) : (tbl32 n).length = n := by simp [tbl32]
open Bv Crc in
theorem t32_outer : ∀ (d i : Nat), i + d = 256 → Ev (fun k => crc_Table32.l0 k (tbl32 i) (i : Int)) (tbl32 256) := by
  intro d
  induction d with
  | zero =>
    intro i hi
    obtain rfl : i = 256 := by omega
    exact E.step (fun _ => crc_Table32.l0.eq_2 ..) (E.neg (by omega) E.now)
  | succ d ih =>
    intro i hi
    refine E.step (fun _ => crc_Table32.l0.eq_2 ..) (E.pos (by omega) ?_)
    have e : (i : Int) = u (BitVec.ofNat 32 i) := by unfold u; rw [BitVec.toNat_ofNat, Nat.mod_eq_of_lt (by omega)]
    have R := ih (i + 1) (by omega)
    have e3 : tbl32 (i + 1) = tbl32 i ++ [u (E.many L 8 (BitVec.ofNat 32 i))] := by unfold tbl32; rw [List.range_succ, List.map_append]; rfl
    have w : wrap64 ((i : Int) + 1) = ((i + 1 : Nat) : Int) := by rw [E.wrap_id (by omega) (by omega)]; omega
    rw [e3, ← w] at R
    have := t32_inner (tbl32 i) (i : Int) (tbl32 256) (by rw [tbl32_length]; omega) 8 0 (BitVec.ofNat 32 i) rfl R
    rw [← e] at this
    exact this
theorem table32_ev : Ev (fun k => crc_Table32.f k) (tbl32 256) := by
  unfold crc_Table32.f
  exact t32_outer 256 0 rfl
open Bv Crc in
theorem sum32_loop (l : List Int) (hl : l.length ≤ 4096) : ∀ (rest pre : List Int) (r : BitVec 32), l = pre ++ rest → (∀ c ∈ rest, isByte c) →
    Ev (fun k => crc_Sum32.l0 k (tbl32 256) (u r) l (l.length : Int) (pre.length : Int)) (u (reg32 r rest ^^^ ones32), 0) := by
  intro rest
  induction rest with
  | nil =>
    intro pre r h _
    have hlen : l.length = pre.length := by rw [h]; simp
    refine E.step (fun _ => crc_Sum32.l0.eq_2 ..) (E.neg (by omega) (E.nowEq ?_))
    have := xor_u (by decide) r ones32
    rw [reg_nil, ← this]
    rfl
  | cons c rest ih =>
    intro pre r h hb
    have hlen : l.length = pre.length + (rest.length + 1) := by rw [h]; simp
    have hp : rd l (pre.length : Int) = c := by rw [h]; exact E.rd_at pre rest c
    obtain ⟨h0, h1⟩ := hb c (by simp)
    have ec : c = ((c.toNat : Nat) : Int) := by omega
    have hr := r.isLt
    have hix : (r.toNat % 256) ^^^ c.toNat < 2 ^ 8 := Nat.xor_lt_two_pow (by omega) (by omega)
    have ei : Go.bits .xor .i64 (Go.bits .and .i64 (u r) 255) (wrap64 c) = (((r.toNat % 256) ^^^ c.toNat : Nat) : Int) := by
      have e1 : Go.bits .and .i64 (u r) 255 = ((r.toNat % 256 : Nat) : Int) := and255i r.toNat (by omega)
      rw [e1, E.wrap_id (by omega) (by omega), ec, xorN _ _ (by omega) (by omega), Int.toNat_natCast]
    have es : Go.bits .xor .i64 (u r / (256 : Int)) (u (tab32 ((r.toNat % 256) ^^^ c.toNat))) = u (step32 r c) := by
      rw [shr8, xor_u (by decide), step_tab r c ⟨h0, h1⟩]
    refine E.step (fun _ => crc_Sum32.l0.eq_2 ..) (E.pos (by omega) (E.pos (by omega) (E.pos (by omega) ?_)))
    rw [hp, ei, tbl32_length]
    refine E.pos (by omega) (E.pos (by omega) ?_)
    rw [tbl32_at _ _ (by omega), es, E.wrap_snoc pre c (by omega)]
    exact ih (pre ++ [c]) (step32 r c) (by rw [h]; simp) (fun y hy => hb y (by simp [hy]))
open Bv Crc in
theorem sum32_ev (l : List Int) (hl : l.length ≤ 4096) (hb : ∀ c ∈ l, isByte c) : Ev (fun k => crc_Sum32.f k l) (u (sum32 l), 0) := by
  unfold crc_Sum32.f
  refine E.neg (by omega) (E.bind table32_ev ?_)
  have := sum32_loop l hl l [] ones32 rfl hb
  exact this
theorem sum32_long (l : List Int) (hl : ¬ l.length ≤ 4096) : Ev (fun k => crc_Sum32.f k l) (0, 2) := by
  unfold crc_Sum32.f
  exact E.pos (by omega) E.now
theorem bytes_wf (l : List Int) (h : ∀ x ∈ l, (Lit.int .u8 x).wf = true) : ∀ c ∈ l, Crc.isByte c := fun c hc => Bv.wf_u8 (h c hc)

open Bv Crc in
theorem shl1_u (v : BitVec 16) : wrap64 (u v * 2) = ((v.toNat * 2 : Nat) : Int) := by
  have hv := v.isLt
  unfold u
  rw [E.wrap_id (by omega) (by omega)]
  omega
open Bv Crc in
theorem t16_inner (x1 : List Int) (i : Int) (X : List Int) (hx : x1.length < 1000) : ∀ (d j : Nat) (v : BitVec 16), j + d = 8 →
    Ev (fun k => crc_Table16.l0 k (x1 ++ [u (E.many M d v)]) (wrap64 (i + 1))) X → Ev (fun k => crc_Table16.l1 k x1 (u v) i (j : Int)) X := by
  intro d
  induction d with
  | zero =>
    intro j v hj R
    exact E.step (fun _ => crc_Table16.l1.eq_2 ..) (E.neg (by omega) (E.pos (by omega) R))
  | succ d ih =>
    intro j v hj R
    rw [E.many_in] at R
    have hv := v.isLt
    have w : wrap64 ((j : Int) + 1) = ((j + 1 : Nat) : Int) := by rw [E.wrap_id (by omega) (by omega)]; omega
    have es : u (v <<< 1) = ((v.toNat * 2 % 65536 : Nat) : Int) := by
      unfold u
      rw [BitVec.toNat_shiftLeft, Nat.shiftLeft_eq]
    refine E.step (fun _ => crc_Table16.l1.eq_2 ..) (E.pos (by omega) ?_)
    rw [shl1_u, w]
    by_cases h : 32768 ≤ v.toNat
    · refine E.pos (by omega) ?_
      have e2 : Go.bits .xor .i64 (Go.bits .and .i64 ((v.toNat * 2 : Nat) : Int) 65535) 4129 = u (M v) := by
        rw [and65535i _ (by omega), M_top h, ← es]
        exact xor_u (by decide) (v <<< 1) 4129#16
      rw [e2]
      exact ih (j + 1) (M v) (by omega) R
    · refine E.neg (by omega) ?_
      have e2 : ((v.toNat * 2 : Nat) : Int) = u (M v) := by rw [M_not h, es]; omega
      rw [e2]
      exact ih (j + 1) (M v) (by omega) R
open Bv Crc in
def tbl16 (n : Nat) : List Int := (List.range n).map (fun i : Nat => u (tab16 i))
open Bv Crc in
theorem tbl16_at (n i : Nat) (h : i < n) : rd (tbl16 n) (i : Int) = u (tab16 i) := by
  unfold rd tbl16
  rw [Int.toNat_natCast, List.getD_eq_getElem?_getD, List.getElem?_map, List.getElem?_range h]
  rfl
theorem tbl16_length (n : Nat) : (tbl16 n).length = n := by simp [tbl16]
open Bv Crc in
theorem t16_outer : ∀ (d i : Nat), i + d = 256 → Ev (fun k => crc_Table16.l0 k (tbl16 i) (i : Int)) (tbl16 256) := by
  intro d
  induction d with
  | zero =>
    intro i hi
    obtain rfl : i = 256 := by omega
    exact E.step (fun _ => crc_Table16.l0.eq_2 ..) (E.neg (by omega) E.now)
  | succ d ih =>
    intro i hi
    refine E.step (fun _ => crc_Table16.l0.eq_2 ..) (E.pos (by omega) ?_)
    have e : wrap64 ((i : Int) * 256) = u (BitVec.ofNat 16 (i * 256)) := by
      unfold u
      rw [BitVec.toNat_ofNat, Nat.mod_eq_of_lt (by omega), E.wrap_id (by omega) (by omega)]
      omega
    have R := ih (i + 1) (by omega)
    have e3 : tbl16 (i + 1) = tbl16 i ++ [u (E.many M 8 (BitVec.ofNat 16 (i * 256)))] := by unfold tbl16; rw [List.range_succ, List.map_append]; rfl
    have w : wrap64 ((i : Int) + 1) = ((i + 1 : Nat) : Int) := by rw [E.wrap_id (by omega) (by omega)]; omega
    rw [e3, ← w] at R
    rw [e]
    exact t16_inner (tbl16 i) (i : Int) (tbl16 256) (by rw [tbl16_length]; omega) 8 0 (BitVec.ofNat 16 (i * 256)) rfl R
theorem table16_ev : Ev (fun k => crc_Table16.f k) (tbl16 256) := by
  unfold crc_Table16.f
  exact t16_outer 256 0 rfl
open Bv Crc in
theorem sum16_loop (l : List Int) (hl : l.length ≤ 4096) : ∀ (rest pre : List Int) (r : BitVec 16), l = pre ++ rest → (∀ c ∈ rest, isByte c) →
    Ev (fun k => crc_Sum16.l0 k (tbl16 256) (u r) l (l.length : Int) (pre.length : Int)) (u (reg16 r rest), 0) := by
  intro rest
  induction rest with
  | nil =>
    intro pre r h _
    have hlen : l.length = pre.length := by rw [h]; simp
    exact E.step (fun _ => crc_Sum16.l0.eq_2 ..) (E.neg (by omega) (E.nowEq (by rw [reg16_nil])))
  | cons c rest ih =>
    intro pre r h hb
    have hlen : l.length = pre.length + (rest.length + 1) := by rw [h]; simp
    have hp : rd l (pre.length : Int) = c := by rw [h]; exact E.rd_at pre rest c
    obtain ⟨h0, h1⟩ := hb c (by simp)
    have ec : c = ((c.toNat : Nat) : Int) := by omega
    have hr := r.isLt
    have hix : (r.toNat / 256) ^^^ c.toNat < 2 ^ 8 := Nat.xor_lt_two_pow (by omega) (by omega)
    have ei : Go.bits .xor .i64 (u r / (256 : Int)) (wrap64 c) = (((r.toNat / 256) ^^^ c.toNat : Nat) : Int) := by
      have e1 : u r / (256 : Int) = ((r.toNat / 256 : Nat) : Int) := by unfold u; omega
      rw [e1, E.wrap_id (by omega) (by omega), ec, xorN _ _ (by omega) (by omega), Int.toNat_natCast]
    have es : Go.bits .xor .i64 (Go.bits .and .i64 (wrap64 (u r * 256)) 65535) (u (tab16 ((r.toNat / 256) ^^^ c.toNat))) = u (step16 r c) := by
      have e1 : wrap64 (u r * 256) = ((r.toNat * 256 : Nat) : Int) := by
        unfold u
        rw [E.wrap_id (by omega) (by omega)]
        omega
      have e2 : ((r.toNat * 256 % 65536 : Nat) : Int) = u (r <<< 8) := by
        unfold u
        rw [BitVec.toNat_shiftLeft, Nat.shiftLeft_eq]
      rw [e1, and65535i _ (by omega), e2, xor_u (by decide), step_tab16 r c ⟨h0, h1⟩]
    refine E.step (fun _ => crc_Sum16.l0.eq_2 ..) (E.pos (by omega) (E.pos (by omega) (E.pos (by omega) ?_)))
    rw [hp, ei, tbl16_length]
    refine E.pos (by omega) (E.pos (by omega) ?_)
    rw [tbl16_at _ _ (by omega), es, E.wrap_snoc pre c (by omega)]
    exact ih (pre ++ [c]) (step16 r c) (by rw [h]; simp) (fun y hy => hb y (by simp [hy]))
open Bv Crc in
theorem sum16_ev (l : List Int) (hl : l.length ≤ 4096) (hb : ∀ c ∈ l, isByte c) : Ev (fun k => crc_Sum16.f k l) (u (sum16 l), 0) := by
  unfold crc_Sum16.f
  refine E.neg (by omega) (E.bind table16_ev ?_)
  have := sum16_loop l hl l [] ones16 rfl hb
  exact this
theorem sum16_long (l : List Int) (hl : ¬ l.length ≤ 4096) : Ev (fun k => crc_Sum16.f k l) (0, 2) := by
  unfold crc_Sum16.f
  exact E.pos (by omega) E.now

theorem l9_bytes : ∀ c ∈ volutelaw03_wakes.l9, Crc.isByte c := by
  intro c hc
  simp [volutelaw03_wakes.l9] at hc
  unfold Crc.isByte
  omega
open Bv Crc in
theorem l9_sum16 : u (sum16 volutelaw03_wakes.l9) = (10673 : Int) := by decide +kernel
open Bv Crc in
theorem l9_sum32 : u (sum32 volutelaw03_wakes.l9) = (3421780262 : Int) := by decide +kernel
theorem wakes03 : Ev (fun k => volutelaw03_wakes.f k) true := by
  have hl : volutelaw03_wakes.l9.length ≤ 4096 := by decide
  obtain ⟨K, hK⟩ := sum16_ev volutelaw03_wakes.l9 hl l9_bytes
  obtain ⟨K', hK'⟩ := sum32_ev volutelaw03_wakes.l9 hl l9_bytes
  rw [l9_sum16] at hK
  rw [l9_sum32] at hK'
  refine ⟨max K K', fun k hk => ?_⟩
  show volutelaw03_wakes.f k = some true
  unfold volutelaw03_wakes.f
  exact if_pos ⟨hK k (by omega), hK' k (by omega)⟩

/-- Three bytes held against one another. -/
def x3 (a b c : Int) : Int := ((a.toNat ^^^ b.toNat ^^^ c.toNat : Nat) : Int)
def zip3 : List Int → List Int → List Int → List Int
  | a :: A, b :: B, c :: C => x3 a b c :: zip3 A B C
  | _, _, _ => []
theorem zip3_length : ∀ (A B C : List Int), A.length = B.length → B.length = C.length → (zip3 A B C).length = A.length
  | [], B, C, _, _ => by simp [zip3]
  | a :: A, b :: B, c :: C, h1, h2 => by
    simp only [List.length_cons] at h1 h2
    simp only [zip3, List.length_cons]
    rw [zip3_length A B C (by omega) (by omega)]
  | a :: A, [], C, h1, h2 => by simp at h1
  | a :: A, b :: B, [], h1, h2 => by simp at h2
theorem zip3_get : ∀ (A B C : List Int) (i : Nat), A.length = B.length → B.length = C.length → i < A.length → (zip3 A B C)[i]? = some (x3 (A.getD i 0) (B.getD i 0) (C.getD i 0))
  | [], B, C, i, _, _, h => by simp at h
  | a :: A, b :: B, c :: C, i, h1, h2, h => by
    simp only [List.length_cons] at h1 h2 h
    cases i with
    | zero => simp [zip3]
    | succ i =>
      simp only [zip3, List.getElem?_cons_succ, List.getD_cons_succ]
      exact zip3_get A B C i (by omega) (by omega) (by omega)
  | a :: A, [], C, i, h1, h2, _ => by simp at h1
  | a :: A, b :: B, [], i, h1, h2, _ => by simp at h2
theorem x3_byte {a b c : Int} (ha : Crc.isByte a) (hb : Crc.isByte b) (hc : Crc.isByte c) : Crc.isByte (x3 a b c) := by
  obtain ⟨a0, a1⟩ := ha
  obtain ⟨b0, b1⟩ := hb
  obtain ⟨c0, c1⟩ := hc
  have h1 : a.toNat ^^^ b.toNat < 2 ^ 8 := Nat.xor_lt_two_pow (by omega) (by omega)
  have h2 : a.toNat ^^^ b.toNat ^^^ c.toNat < 2 ^ 8 := Nat.xor_lt_two_pow h1 (by omega)
  unfold Crc.isByte x3
  omega
theorem zip3_bytes : ∀ (A B C : List Int), (∀ x ∈ A, Crc.isByte x) → (∀ x ∈ B, Crc.isByte x) → (∀ x ∈ C, Crc.isByte x) → ∀ x ∈ zip3 A B C, Crc.isByte x
  | [], B, C, _, _, _, x, hx => by simp [zip3] at hx
  | a :: A, [], C, _, _, _, x, hx => by simp [zip3] at hx
  | a :: A, b :: B, [], _, _, _, x, hx => by simp [zip3] at hx
  | a :: A, b :: B, c :: C, hA, hB, hC, x, hx => by
    simp only [zip3] at hx
    rcases List.mem_cons.1 hx with rfl | hx
    · exact x3_byte (hA a (by simp)) (hB b (by simp)) (hC c (by simp))
    · exact zip3_bytes A B C (fun y hy => hA y (by simp [hy])) (fun y hy => hB y (by simp [hy])) (fun y hy => hC y (by simp [hy])) x hx
theorem xor6 {n : Nat} (a b c d e f : BitVec n) : (a ^^^ b ^^^ c) ^^^ (d ^^^ e ^^^ f) = (a ^^^ d) ^^^ (b ^^^ e) ^^^ (c ^^^ f) := by
  apply BitVec.eq_of_getLsbD_eq
  intro i _
  simp only [BitVec.getLsbD_xor]
  cases a.getLsbD i <;> cases b.getLsbD i <;> cases c.getLsbD i <;> cases d.getLsbD i <;> cases e.getLsbD i <;> cases f.getLsbD i <;> rfl
open Bv Crc in
theorem by32_x3 {a b c : Int} (ha : isByte a) (hb : isByte b) (hc : isByte c) : by32 (x3 a b c) = by32 a ^^^ by32 b ^^^ by32 c := by
  obtain ⟨a0, a1⟩ := ha
  obtain ⟨b0, b1⟩ := hb
  obtain ⟨c0, c1⟩ := hc
  have h1 : a.toNat ^^^ b.toNat < 2 ^ 8 := Nat.xor_lt_two_pow (by omega) (by omega)
  have h2 : a.toNat ^^^ b.toNat ^^^ c.toNat < 2 ^ 8 := Nat.xor_lt_two_pow h1 (by omega)
  apply BitVec.eq_of_toNat_eq
  unfold by32 x3
  rw [BitVec.toNat_xor, BitVec.toNat_xor, BitVec.toNat_ofNat, BitVec.toNat_ofNat, BitVec.toNat_ofNat, BitVec.toNat_ofNat, Int.toNat_natCast]
  rw [Nat.mod_eq_of_lt (by omega), Nat.mod_eq_of_lt (by omega), Nat.mod_eq_of_lt (by omega), Nat.mod_eq_of_lt (by omega)]
open Bv Crc in
theorem by16_x3 {a b c : Int} (ha : isByte a) (hb : isByte b) (hc : isByte c) : by16 (x3 a b c) = by16 a ^^^ by16 b ^^^ by16 c := by
  obtain ⟨a0, a1⟩ := ha
  obtain ⟨b0, b1⟩ := hb
  obtain ⟨c0, c1⟩ := hc
  have h1 : a.toNat ^^^ b.toNat < 2 ^ 8 := Nat.xor_lt_two_pow (by omega) (by omega)
  have h2 : a.toNat ^^^ b.toNat ^^^ c.toNat < 2 ^ 8 := Nat.xor_lt_two_pow h1 (by omega)
  have hm : ∀ x y : Nat, (x ^^^ y) * 256 = (x * 256) ^^^ (y * 256) := fun x y => by
    rw [show (256 : Nat) = 2 ^ 8 from rfl, ← Nat.shiftLeft_eq, ← Nat.shiftLeft_eq, ← Nat.shiftLeft_eq, Nat.shiftLeft_xor_distrib]
  apply BitVec.eq_of_toNat_eq
  unfold by16 x3
  rw [BitVec.toNat_xor, BitVec.toNat_xor, BitVec.toNat_ofNat, BitVec.toNat_ofNat, BitVec.toNat_ofNat, BitVec.toNat_ofNat, Int.toNat_natCast]
  rw [Nat.mod_eq_of_lt (by omega), Nat.mod_eq_of_lt (by omega), Nat.mod_eq_of_lt (by omega), Nat.mod_eq_of_lt (by omega), hm, hm]
open Bv Crc in
theorem reg32_zip3 : ∀ (A B C : List Int) (r s t : BitVec 32), A.length = B.length → B.length = C.length → (∀ x ∈ A, isByte x) → (∀ x ∈ B, isByte x) → (∀ x ∈ C, isByte x) →
    reg32 (r ^^^ s ^^^ t) (zip3 A B C) = reg32 r A ^^^ reg32 s B ^^^ reg32 t C
  | [], [], [], r, s, t, _, _, _, _, _ => by simp only [zip3, reg_nil]
  | [], [], c :: C, r, s, t, _, h2, _, _, _ => by simp at h2
  | [], b :: B, C, r, s, t, h1, _, _, _, _ => by simp at h1
  | a :: A, [], C, r, s, t, h1, _, _, _, _ => by simp at h1
  | a :: A, b :: B, [], r, s, t, _, h2, _, _, _ => by simp at h2
  | a :: A, b :: B, c :: C, r, s, t, h1, h2, hA, hB, hC => by
    simp only [List.length_cons] at h1 h2
    simp only [zip3, reg_cons]
    have e : step32 (r ^^^ s ^^^ t) (x3 a b c) = step32 r a ^^^ step32 s b ^^^ step32 t c := by
      unfold step32
      rw [by32_x3 (hA a (by simp)) (hB b (by simp)) (hC c (by simp)), xor6, many_xor L_xor, many_xor L_xor]
    rw [e]
    exact reg32_zip3 A B C _ _ _ (by omega) (by omega) (fun y hy => hA y (by simp [hy])) (fun y hy => hB y (by simp [hy])) (fun y hy => hC y (by simp [hy]))
open Bv Crc in
theorem reg16_zip3 : ∀ (A B C : List Int) (r s t : BitVec 16), A.length = B.length → B.length = C.length → (∀ x ∈ A, isByte x) → (∀ x ∈ B, isByte x) → (∀ x ∈ C, isByte x) →
    reg16 (r ^^^ s ^^^ t) (zip3 A B C) = reg16 r A ^^^ reg16 s B ^^^ reg16 t C
  | [], [], [], r, s, t, _, _, _, _, _ => by simp only [zip3, reg16_nil]
  | [], [], c :: C, r, s, t, _, h2, _, _, _ => by simp at h2
  | [], b :: B, C, r, s, t, h1, _, _, _, _ => by simp at h1
  | a :: A, [], C, r, s, t, h1, _, _, _, _ => by simp at h1
  | a :: A, b :: B, [], r, s, t, _, h2, _, _, _ => by simp at h2
  | a :: A, b :: B, c :: C, r, s, t, h1, h2, hA, hB, hC => by
    simp only [List.length_cons] at h1 h2
    simp only [zip3, reg16_cons]
    have e : step16 (r ^^^ s ^^^ t) (x3 a b c) = step16 r a ^^^ step16 s b ^^^ step16 t c := by
      unfold step16
      rw [by16_x3 (hA a (by simp)) (hB b (by simp)) (hC c (by simp)), xor6, many_xor M_xor, many_xor M_xor]
    rw [e]
    exact reg16_zip3 A B C _ _ _ (by omega) (by omega) (fun y hy => hA y (by simp [hy])) (fun y hy => hB y (by simp [hy])) (fun y hy => hC y (by simp [hy]))
theorem xor_three {n : Nat} (o : BitVec n) : o ^^^ o ^^^ o = o := by rw [BitVec.xor_self, BitVec.zero_xor]
open Bv Crc in
theorem sum32_zip3 (A B C : List Int) (h1 : A.length = B.length) (h2 : B.length = C.length) (hA : ∀ x ∈ A, isByte x) (hB : ∀ x ∈ B, isByte x) (hC : ∀ x ∈ C, isByte x) :
    sum32 (zip3 A B C) = sum32 A ^^^ sum32 B ^^^ sum32 C := by
  have h := reg32_zip3 A B C ones32 ones32 ones32 h1 h2 hA hB hC
  rw [xor_three] at h
  unfold sum32
  rw [h, ← xor6, xor_three]
open Bv Crc in
theorem sum16_zip3 (A B C : List Int) (h1 : A.length = B.length) (h2 : B.length = C.length) (hA : ∀ x ∈ A, isByte x) (hB : ∀ x ∈ B, isByte x) (hC : ∀ x ∈ C, isByte x) :
    sum16 (zip3 A B C) = sum16 A ^^^ sum16 B ^^^ sum16 C := by
  have h := reg16_zip3 A B C ones16 ones16 ones16 h1 h2 hA hB hC
  rw [xor_three] at h
  exact h
theorem set_mid (P R : List Int) (x z : Int) : (P ++ x :: R).set P.length z = P ++ z :: R := by simp
theorem mn_nat (a b : Nat) : mn (a : Int) (b : Int) = ((min a b : Nat) : Int) := by
  unfold mn
  split <;> omega
open Bv Crc in
set_option maxHeartbeats 1000000 in
theorem lin_end (a b c : List Int) (n : Nat) (ha : n ≤ a.length) (hb : n ≤ b.length) (hc : n ≤ c.length) (hn : n ≤ 300) (wa : ∀ x ∈ a, isByte x) (wb : ∀ x ∈ b, isByte x) (wc : ∀ x ∈ c, isByte x) :
    Ev (fun k => volutelaw03_CrcLinear.l0 k a b c (n : Int) (zip3 (a.take n) (b.take n) (c.take n)) (n : Int)) true := by
  have la : (a.take n).length = n := by rw [List.length_take]; omega
  have lb : (b.take n).length = n := by rw [List.length_take]; omega
  have lc : (c.take n).length = n := by rw [List.length_take]; omega
  have lz := zip3_length (a.take n) (b.take n) (c.take n) (by omega) (by omega)
  have ta : ∀ x ∈ a.take n, isByte x := fun x hx => wa x (List.mem_of_mem_take hx)
  have tb : ∀ x ∈ b.take n, isByte x := fun x hx => wb x (List.mem_of_mem_take hx)
  have tc : ∀ x ∈ c.take n, isByte x := fun x hx => wc x (List.mem_of_mem_take hx)
  have tz := zip3_bytes _ _ _ ta tb tc
  have e16 : Go.bits .xor .i64 (Go.bits .xor .i64 (u (sum16 (a.take n))) (u (sum16 (b.take n)))) (u (sum16 (c.take n))) = u (sum16 (zip3 (a.take n) (b.take n) (c.take n))) := by
    rw [xor_u (by decide), xor_u (by decide), sum16_zip3 _ _ _ (by omega) (by omega) ta tb tc]
  have e32 : Go.bits .xor .i64 (Go.bits .xor .i64 (u (sum32 (a.take n))) (u (sum32 (b.take n)))) (u (sum32 (c.take n))) = u (sum32 (zip3 (a.take n) (b.take n) (c.take n))) := by
    rw [xor_u (by decide), xor_u (by decide), sum32_zip3 _ _ _ (by omega) (by omega) ta tb tc]
  refine E.step (fun _ => volutelaw03_CrcLinear.l0.eq_2 ..) (E.neg (by omega) (E.pos (by omega) ?_))
  rw [Int.toNat_natCast]
  refine E.pos (by omega) (E.bind (sum16_ev (a.take n) (by omega) ta) (E.pos (by omega) (E.bind (sum16_ev (b.take n) (by omega) tb) (E.pos (by omega) (E.bind (sum16_ev (c.take n) (by omega) tc) (E.bind (sum16_ev (zip3 (a.take n) (b.take n) (c.take n)) (by omega) tz) ?_))))))
  refine E.pos rfl (E.pos rfl (E.pos rfl (E.pos rfl ?_)))
  rw [e16]
  refine E.step (fun _ => volutelaw03_CrcLinear.j2.eq_2 ..) (E.neg (by simp) (E.pos (by omega) ?_))
  rw [Int.toNat_natCast]
  refine E.pos (by omega) (E.bind (sum32_ev (a.take n) (by omega) ta) (E.pos (by omega) (E.bind (sum32_ev (b.take n) (by omega) tb) (E.pos (by omega) (E.bind (sum32_ev (c.take n) (by omega) tc) (E.bind (sum32_ev (zip3 (a.take n) (b.take n) (c.take n)) (by omega) tz) ?_))))))
  refine E.pos rfl (E.pos rfl (E.pos rfl (E.pos rfl (E.pos e32.symm (E.bind wakes03 E.now)))))
theorem getD_take (l : List Int) (n i : Nat) (h : i < n) : (l.take n).getD i 0 = l.getD i 0 := by
  rw [List.getD_eq_getElem?_getD, List.getD_eq_getElem?_getD, List.getElem?_take_of_lt h]
open Bv Crc in
theorem lin_loop (a b c : List Int) (n : Nat) (ha : n ≤ a.length) (hb : n ≤ b.length) (hc : n ≤ c.length) (hn : n ≤ 300) (wa : ∀ x ∈ a, isByte x) (wb : ∀ x ∈ b, isByte x) (wc : ∀ x ∈ c, isByte x) : ∀ (R P : List Int), zip3 (a.take n) (b.take n) (c.take n) = P ++ R →
    Ev (fun k => volutelaw03_CrcLinear.l0 k a b c (n : Int) (P ++ List.replicate R.length 0) (P.length : Int)) true := by
  have la : (a.take n).length = n := by rw [List.length_take]; omega
  have lb : (b.take n).length = n := by rw [List.length_take]; omega
  have lc : (c.take n).length = n := by rw [List.length_take]; omega
  have lz := zip3_length (a.take n) (b.take n) (c.take n) (by omega) (by omega)
  intro R
  induction R with
  | nil =>
    intro P h
    have e := lin_end a b c n ha hb hc hn wa wb wc
    have hP : P.length = n := by rw [← la, ← lz, h]; simp
    rw [h] at e
    simp only [List.length_nil, List.replicate_zero]
    rw [hP]
    exact e
  | cons z R ih =>
    intro P h
    have hlen : n = P.length + (R.length + 1) := by rw [← la, ← lz, h]; simp
    have hz : z = x3 (rd a (P.length : Int)) (rd b (P.length : Int)) (rd c (P.length : Int)) := by
      have g := zip3_get (a.take n) (b.take n) (c.take n) P.length (by omega) (by omega) (by omega)
      rw [h, getD_take _ _ _ (by omega), getD_take _ _ _ (by omega), getD_take _ _ _ (by omega)] at g
      have : (P ++ z :: R)[P.length]? = some z := by simp
      rw [this] at g
      have := Option.some.inj g
      unfold rd
      rw [Int.toNat_natCast]
      exact this
    have mem : ∀ (l : List Int), P.length < l.length → rd l (P.length : Int) ∈ l := fun l hl => by
      unfold rd
      rw [Int.toNat_natCast, List.getD_eq_getElem?_getD, List.getElem?_eq_getElem hl]
      exact List.getElem_mem hl
    have ba := wa _ (mem a (by omega))
    have bb := wb _ (mem b (by omega))
    have bc := wc _ (mem c (by omega))
    have ex : Go.bits .xor .u8 (Go.bits .xor .u8 (rd a (P.length : Int)) (rd b (P.length : Int))) (rd c (P.length : Int)) = z := by
      rw [hz]
      generalize rd a (P.length : Int) = p at *
      generalize rd b (P.length : Int) = q at *
      generalize rd c (P.length : Int) = r at *
      obtain ⟨p0, p1⟩ := ba
      obtain ⟨q0, q1⟩ := bb
      obtain ⟨r0, r1⟩ := bc
      have h1 : p.toNat ^^^ q.toNat < 2 ^ 8 := Nat.xor_lt_two_pow (by omega) (by omega)
      rw [u8_xor p q p0 (by omega) q0 (by omega), u8_xor _ r (by omega) (by omega) r0 (by omega), Int.toNat_natCast]
      rfl
    refine E.step (fun _ => volutelaw03_CrcLinear.l0.eq_2 ..) (E.pos (by omega) (E.pos (by omega) (E.pos (by omega) (E.pos (by omega) (E.pos (by omega) (E.pos (by rw [List.length_append, List.length_replicate, List.length_cons]; omega) ?_))))))
    rw [ex, Int.toNat_natCast, List.length_cons, List.replicate_succ, set_mid, E.wrap_snoc P z (by omega)]
    have := ih (P ++ [z]) (by rw [h]; simp)
    rw [List.append_assoc] at this
    exact this
open Bv Crc in
theorem CrcLinear : volutelaw03_CrcLinear.Pure := by
  intro a b c _ _ ha _ _ hb _ _ hc
  have wa := bytes_wf a ha
  have wb := bytes_wf b hb
  have wc := bytes_wf c hc
  refine Ev.rounds ?_
  unfold volutelaw03_CrcLinear.f
  rw [mn_nat, mn_nat]
  have T : Ev (fun k => volutelaw03_CrcLinear.j0 k a b c ((min a.length (min b.length c.length) : Nat) : Int) true) true := E.step (fun _ => volutelaw03_CrcLinear.j0.eq_2 ..) (E.pos rfl E.now)
  by_cases h1 : a.length ≤ 300
  · refine E.neg (by omega) ?_
    by_cases h2 : b.length ≤ 300
    · refine E.neg (by omega) ?_
      by_cases h3 : c.length ≤ 300
      · rw [decide_eq_false (show ¬ (c.length : Int) > 300 by omega)]
        obtain ⟨n, hn⟩ : ∃ n, min a.length (min b.length c.length) = n := ⟨_, rfl⟩
        rw [hn]
        have la : (a.take n).length = n := by rw [List.length_take]; omega
        have lz := zip3_length (a.take n) (b.take n) (c.take n) (by rw [List.length_take, List.length_take]; omega) (by rw [List.length_take, List.length_take]; omega)
        refine E.step (fun _ => volutelaw03_CrcLinear.j0.eq_2 ..) (E.neg (by simp) (E.pos (by omega) (E.pos (by omega) ?_)))
        have := lin_loop a b c n (by omega) (by omega) (by omega) (by omega) wa wb wc (zip3 (a.take n) (b.take n) (c.take n)) [] rfl
        rw [lz, la] at this
        rw [Int.toNat_natCast]
        exact this
      · rw [decide_eq_true (show (c.length : Int) > 300 by omega)]
        exact T
    · exact E.pos (by omega) T
  · exact E.pos (by omega) T

end Go.Proofs.Ytiblpnglmicjcaa.Pure
