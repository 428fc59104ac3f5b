/- A packet cut short, made longer, with a symbol turned about: plain laws. -/
import Derived.Test.YtnhghopkbbdebaaPL
import Derived.Test.YtnhghopkbbdebaaMDataCuts
set_option linter.unusedVariables false
namespace Go.Proofs.Ytnhghopkbbdebaa.Mini
open Go Go.RowKit Go.Proofs

theorem take_getD (l m : List Int) (h : l.take 11 = m.take 11) (t : Nat) (ht : t < 11) : l.getD t 0 = m.getD t 0 := by
  have h1 := congrArg (fun z => z.getD t 0) h
  simp only [List.getD_eq_getElem?_getD, List.getElem?_take, if_pos ht] at h1
  rw [List.getD_eq_getElem?_getD, List.getD_eq_getElem?_getD]
  exact h1
theorem take_take' (l m : List Int) (h : l.take 11 = m.take 11) (t : Nat) (ht : t ≤ 11) : l.take t = m.take t := by
  have h1 := congrArg (fun z => z.take t) h
  simp only [List.take_take, Nat.min_eq_left ht] at h1
  exact h1

open Crc Bv Be in
/-- Of another length it is none. -/
theorem read_other (s r f : Int) (y : List Int) (h : datBad s r f y.length = 0) (l : List Int) (h12 : 12 ≤ l.length → l.take 11 = (datPack s r f y).take 11) (hl : l.length ≠ 11 + y.length) : datRead l = ((0, 0, 0, []), 2) := by
  unfold datRead
  by_cases hc : l.length < 12 ∨ 75 < l.length
  · rw [if_pos hc]
  have h11 := h12 (by omega)
  obtain ⟨e1, e2, e3, e4, e5, e6, e7, e8⟩ := datPack_parts s r f y
  have hlt := (sum16 (datHead s r f y.length)).isLt
  unfold datBad at h
  split at h
  · cases h
  rename_i k1
  split at h
  · cases h
  rename_i k2
  rw [if_neg hc, take_getD l _ h11 0 (by decide), e6, if_neg (by simp), take_take' l _ h11 9 (by decide), e1, h11, e2, num_be' 2 _ (u_nonneg _) (by unfold u; omega), if_neg (by simp), take_take' l _ h11 5 (by decide), e3, num_be' 4 s (by omega) (by omega), if_neg (by omega), take_getD l _ h11 8 (by decide), e8, if_pos (by omega)]

open Crc Bv Be in
theorem pack_set (s r f : Int) (y : List Int) (k : Nat) (v : Int) : (datPack s r f y).set (11 + k) v = datPack s r f (y.set k v) := by
  unfold datPack
  rw [List.length_set, ← List.append_assoc, ← List.append_assoc]
  have l11 : (datHead s r f y.length ++ be 2 (u (sum16 (datHead s r f y.length)))).length = 11 := by rw [List.length_append, datHead_length, be_length]
  rw [List.set_append_right _ _ (by rw [l11]; exact Nat.le_add_right ..), l11, Nat.add_sub_cancel_left]
open Crc Bv Be in
theorem pack_get (s r f : Int) (y : List Int) (k : Nat) : (datPack s r f y).getD (11 + k) 0 = y.getD k 0 := by
  have h := (datPack_parts s r f y).2.2.2.2.1
  have h1 := congrArg (fun z => z.getD k 0) h
  simp only [List.getD_eq_getElem?_getD, List.getElem?_drop] at h1
  rw [List.getD_eq_getElem?_getD, List.getD_eq_getElem?_getD]
  exact h1

theorem syms_loop (k : Nat) (hk : 6000 ≤ k) (turn : Int) (q : Nat) (s r f s' r' f' : Int) (y : List Int) (hy : y.length ≤ 64) : ∀ (d i m : Nat), i + d = y.length → d < m →
    m5F43 k m turn (q : Int) (i : Int) s r f y s' r' f' (y.set q (Go.bits .xor .u8 (y.getD q 0) turn)) = some true := by
  have hw := wakes14 k (by omega)
  intro d
  induction d with
  | zero =>
    intro i m hi hm
    obtain ⟨m, rfl⟩ : ∃ z, m = z + 1 := ⟨m - 1, by omega⟩
    rw [m5F43, m5X43, if_neg (by rw [ltI_neg (by rw [List.length_set]; omega)]; simp), hw]
    rfl
  | succ d ih =>
    intro i m hi hm
    obtain ⟨m, rfl⟩ : ∃ z, m = z + 1 := ⟨m - 1, by omega⟩
    have c1 : (i : Int) < ((y.set q (Go.bits .xor .u8 (y.getD q 0) turn)).length : Int) := by rw [List.length_set]; omega
    have c2 : (i : Int) < (y.length : Int) := by omega
    have c3 := Int.natCast_nonneg i
    have ws := w64s (show i < 9223372036854775807 by omega)
    have R := ih (i + 1) m (by omega) (by omega)
    rw [m5F43, m5X43, if_pos (ltI_pos c1), if_pos (leI_pos c3), if_pos (ltI_pos c2), Int.toNat_natCast]
    by_cases hq : i = q
    · subst hq
      have g : (y.set i (Go.bits .xor .u8 (y.getD i 0) turn)).getD i 0 = Go.bits .xor .u8 (y.getD i 0) turn := by
        rw [List.getD_eq_getElem?_getD, List.getElem?_set_self (by omega)]
        rfl
      rw [if_pos (eqI_pos rfl)]
      simp only [m5F52, m5X52, ws, Int.toNat_natCast]
      rw [if_pos (leI_pos c3), if_pos (ltI_pos c1), g, if_neg (by rw [eqI_pos rfl]; simp)]
      exact R
    · have g : (y.set q (Go.bits .xor .u8 (y.getD q 0) turn)).getD i 0 = y.getD i 0 := by
        rw [List.getD_eq_getElem?_getD, List.getElem?_set_ne (fun e => hq e.symm)]
        rfl
      rw [if_neg (by rw [eqI_neg (by omega)]; simp)]
      simp only [m5F52, m5X52, ws, Int.toNat_natCast]
      rw [if_pos (leI_pos c3), if_pos (ltI_pos c1), g, if_neg (by rw [eqI_pos rfl]; simp)]
      exact R

open Crc in
theorem dataCuts (p : Int × (Int × (Int × List Int))) (cut : Int) (more : List Int) (at_ turn : Int) (wp : WfK (.pair (.int .i64) (.pair (.int .i64) (.pair (.int .i64) (.row (.int .u8))))) p) (wc : (Lit.int .i64 cut).wf = true) (wm : WfK (.row (.int .u8)) more)
    (wa : (Lit.int .i64 at_).wf = true) (wt : (Lit.int .u8 turn).wf = true) : ∃ k, m5F k p cut more at_ turn = some true := by
  refine ⟨6000, ?_⟩
  obtain ⟨s, r, f, y⟩ := p
  have hy := bytes_wf wp.2.2.2
  have hm := bytes_wf wm
  obtain ⟨t0, t1⟩ := Bv.wf_u8 wt
  have hw := wakes14 6000 (by decide)
  simp only [m5F, m5X]
  by_cases l1 : (200 : Int) < (y.length : Int)
  · rw [if_pos (ltI_pos l1)]
  by_cases l2 : (100 : Int) < (more.length : Int)
  · rw [if_neg (by rw [ltI_neg l1]; simp), if_pos (ltI_pos l2)]
  rw [if_neg (by rw [ltI_neg l1]; simp), if_neg (by rw [ltI_neg l2]; simp)]
  by_cases h : datBad s r f y.length = 0
  · have hlen := datPack_length s r f y
    have hpb := datPack_bytes s r f y hy
    have hn : 1 ≤ y.length ∧ y.length ≤ 64 := by
      have h' := h
      unfold datBad at h'
      split at h'
      · cases h'
      split at h'
      · cases h'
      omega
    have z0 : (!eqI (0 : Int) 0) = false := by rw [eqI_pos rfl]; rfl
    have z2 : (!eqI (2 : Int) 2) = false := by rw [eqI_pos rfl]; rfl
    have zl : (!eqI ((datPack s r f y).length : Int) (wr .i64 (11 + (y.length : Int)))) = false := by
      rw [w64 (by omega) (by omega), eqI_pos (by omega)]
      rfl
    have rest : m5F30 6000 at_ turn s r f y (datPack s r f y) 0 0 0 [] = some true := by
      have wy : wr .u64 (y.length : Int) = (y.length : Int) := wu64 (by omega) (by omega)
      obtain ⟨q, hq, eq⟩ := umod0 at_ y.length (by omega)
      have wq : wr .i64 (q : Int) = (q : Int) := w64n (by omega)
      have wq11 : wr .i64 (11 + (q : Int)) = ((11 + q : Nat) : Int) := by rw [w64 (by omega) (by omega)]; omega
      have hb : Crc.isByte (Go.bits .xor .u8 (y.getD q 0) turn) := by
        have := getD_byte y hy q hq
        have e := u8_xor_nat (y.getD q 0).toNat turn.toNat (by have := this.2; omega) (by omega)
        have h1 : (((y.getD q 0).toNat : Nat) : Int) = y.getD q 0 := by have := this.1; omega
        have h2 : ((turn.toNat : Nat) : Int) = turn := by omega
        rw [h1, h2] at e
        rw [e]
        have hx : (y.getD q 0).toNat ^^^ turn.toNat < 2 ^ 8 := Nat.xor_lt_two_pow (by have := this.2; omega) (by omega)
        exact ⟨Int.natCast_nonneg _, by generalize (y.getD q 0).toNat ^^^ turn.toNat = z at hx ⊢; omega⟩
      have hset : datBad s r f (y.set q (Go.bits .xor .u8 (y.getD q 0) turn)).length = 0 := by rw [List.length_set]; exact h
      have hr := datRead_eq 6000 (by decide) (datPack s r f (y.set q (Go.bits .xor .u8 (y.getD q 0) turn))) (by rw [datPack_length, List.length_set]; omega) (datPack_bytes s r f _ (fun c hc => by
        rcases List.mem_or_eq_of_mem_set hc with hc | rfl
        · exact hy c hc
        · exact hb))
      rw [datRead_pack s r f _ hset] at hr
      have n0 : (!eqI (y.length : Int) 0) = true := by rw [eqI_neg (by omega)]; rfl
      have c0 : leI 0 ((11 + q : Nat) : Int) = true := leI_pos (Int.natCast_nonneg _)
      have c1 : ltI ((11 + q : Nat) : Int) ((datPack s r f y).length : Int) = true := ltI_pos (by omega)
      simp only [m5F30, m5X30, wy, eq, wq, wq11, Int.toNat_natCast, n0, c0, c1, if_true, pack_get, pack_set, hr, Option.bind_some, List.length_set]
      have q0 : ∀ z : Int, (!eqI z z) = false := fun z => by rw [eqI_pos rfl]; rfl
      simp only [q0, Bool.false_eq_true, if_false]
      exact syms_loop 6000 (by decide) turn q s r f s r f y hn.2 y.length 0 6000 (by omega) (by omega)
    have wl : wr .u64 ((datPack s r f y).length : Int) = ((datPack s r f y).length : Int) := wu64 (by omega) (by omega)
    obtain ⟨c, hc, ec⟩ := umod0 cut (datPack s r f y).length (by omega)
    have wc64 : wr .i64 (c : Int) = (c : Int) := w64n (by omega)
    have r1 := datRead_eq 6000 (by decide) ((datPack s r f y).take c) (by rw [List.length_take]; omega) (fun x hx => hpb x (List.mem_of_mem_take hx))
    rw [read_other s r f y h ((datPack s r f y).take c) (fun h12 => by
      rw [List.length_take] at h12
      rw [List.take_take, Nat.min_eq_left (by omega)]) (by rw [List.length_take]; omega)] at r1
    have hq := datEq_eq 6000 (show 5001 ≤ 6000 by decide) 0 0 0 0 0 0 [] [] (by simp)
    have nl : (!eqI ((datPack s r f y).length : Int) 0) = true := by rw [eqI_neg (by omega)]; rfl
    have cl : leI (c : Int) ((datPack s r f y).length : Int) = true := leI_pos (by omega)
    have c0 : leI 0 (c : Int) = true := leI_pos (Int.natCast_nonneg _)
    rw [datMake_eq 6000 (by decide) s r f y h, Option.bind_some]
    simp only [z0, zl, Bool.false_eq_true, if_false, wl, ec, wc64, nl, c0, cl, if_true, Int.toNat_natCast, List.drop_zero, r1, Option.bind_some, z2, hq, decide_true, Bool.not_true]
    by_cases hm0 : 0 < more.length
    · have r2 := datRead_eq 6000 (by decide) (datPack s r f y ++ more) (by rw [List.length_append]; omega) (fun x hx => by
        rcases List.mem_append.1 hx with hx | hx
        · exact hpb x hx
        · exact hm x hx)
      rw [read_other s r f y h (datPack s r f y ++ more) (fun _ => List.take_append_of_le_length (by omega)) (by rw [List.length_append]; omega)] at r2
      rw [if_pos (ltI_pos (by omega)), twin_eq 6000 _ (by omega), Option.bind_some, if_pos (leI_pos (by omega)), r2, Option.bind_some]
      simp only [z2, Bool.false_eq_true, if_false]
      exact rest
    · rw [if_neg (by rw [ltI_neg (by omega)]; simp)]
      exact rest
  · rw [datMake_bad 6000 s r f y h, Option.bind_some]
    simp [eqI_eq, h, hw]

end Go.Proofs.Ytnhghopkbbdebaa.Mini
