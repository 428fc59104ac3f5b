/- Unlike data have unlike packets: a plain law. -/
import Derived.Test.YtnhghopkbbdebaaPL
import Derived.Test.YtnhghopkbbdebaaMDataUnlike
set_option linter.unusedVariables false
namespace Go.Proofs.Ytnhghopkbbdebaa.Mini
open Go Go.RowKit Go.Proofs

theorem datPack_inj (s r f : Int) (x : List Int) (s' r' f' : Int) (x' : List Int) (h : datBad s r f x.length = 0) (h' : datBad s' r' f' x'.length = 0) (e : datPack s r f x = datPack s' r' f' x') : (s, r, f, x) = (s', r', f', x') := by
  have h1 := datRead_pack s r f x h
  rw [e, datRead_pack s' r' f' x' h'] at h1
  exact (Prod.mk.inj h1).1.symm

open Crc Be Bv in
theorem datPack_sum (s r f : Int) (x : List Int) : Go.bits .or .i64 (wr .i64 (wr .i64 ((datPack s r f x).getD 9 0) * 256)) (wr .i64 ((datPack s r f x).getD 10 0)) = u (sum16 (datHead s r f x.length)) := by
  have hlt := (sum16 (datHead s r f x.length)).isLt
  have h0 := u_nonneg (sum16 (datHead s r f x.length))
  have h1 : u (sum16 (datHead s r f x.length)) < 65536 := by unfold u; omega
  have e9 : (datPack s r f x).getD 9 0 = u (sum16 (datHead s r f x.length)) / ((256 ^ 1 : Nat) : Int) % 256 := rfl
  have e10 : (datPack s r f x).getD 10 0 = u (sum16 (datHead s r f x.length)) / ((256 ^ 0 : Nat) : Int) % 256 := rfl
  rw [e9, e10]
  generalize u (sum16 (datHead s r f x.length)) = z at h0 h1
  have p := num_or [z / 256 % 256] (z % 256) (by simp) (fun c hc => by
    rw [List.mem_singleton] at hc
    subst hc
    exact ⟨by omega, by omega⟩) ⟨by omega, by omega⟩
  have q : num ([z / 256 % 256] ++ [z % 256]) = z := by
    rw [num_snoc]
    show (0 * 256 + z / 256 % 256) * 256 + z % 256 = z
    omega
  rw [q] at p
  have e : num [z / 256 % 256] = z / 256 % 256 := by
    show 0 * 256 + z / 256 % 256 = _
    omega
  rw [e] at p
  have a1 : z / ((256 ^ 1 : Nat) : Int) = z / 256 := rfl
  have a0 : z / ((256 ^ 0 : Nat) : Int) = z := Int.ediv_one z
  rw [a1, a0, w64 (n := z / 256 % 256) (by omega) (by omega)]
  exact p

theorem facts (s r f : Int) (x : List Int) (n : Nat) (hn : n = 11 + x.length) (h : datBad s r f x.length = 0) : (!eqI (n : Int) (wr .i64 (11 + (x.length : Int)))) = false ∧ leI 9 (n : Int) = true ∧ leI 11 (n : Int) = true ∧ ltI 9 (n : Int) = true ∧ ltI 10 (n : Int) = true ∧ ltI 0 (n : Int) = true ∧ ltI 5 (n : Int) = true ∧ ltI 8 (n : Int) = true ∧
    r % 256 = r ∧ (x.length : Int) % 256 = (x.length : Int) ∧ wr .i64 r = r ∧ wr .i64 (x.length : Int) = (x.length : Int) ∧ n ≤ 5000 ∧ x.length ≤ 5000 ∧ 11 + x.length - 11 = x.length := by
  unfold datBad at h
  split at h
  · cases h
  rename_i k1
  split at h
  · cases h
  rename_i k2
  generalize x.length = m at *
  refine ⟨?_, leI_pos (by omega), leI_pos (by omega), ltI_pos (by omega), ltI_pos (by omega), ltI_pos (by omega), ltI_pos (by omega), ltI_pos (by omega), by omega, by omega, w64 (by omega) (by omega), w64n (by omega), by omega, by omega, by omega⟩
  rw [w64 (by omega) (by omega), eqI_pos (by omega)]
  rfl

open Crc Be Bv in
theorem dataUnlike (p q : Int × (Int × (Int × List Int))) (wp : WfK (.pair (.int .i64) (.pair (.int .i64) (.pair (.int .i64) (.row (.int .u8))))) p) (wq : WfK (.pair (.int .i64) (.pair (.int .i64) (.pair (.int .i64) (.row (.int .u8))))) q) : ∃ k, m7F k p q = some true := by
  refine ⟨6000, ?_⟩
  obtain ⟨s, r, f, x⟩ := p
  obtain ⟨s', r', f', x'⟩ := q
  have hx := bytes_wf wp.2.2.2
  have hx' := bytes_wf wq.2.2.2
  have hw := wakes14 6000 (by omega)
  simp only [m7F, m7X]
  by_cases l1 : (200 : Int) < (x.length : Int)
  · rw [if_pos (ltI_pos l1)]
  by_cases l2 : (200 : Int) < (x'.length : Int)
  · rw [if_neg (by rw [ltI_neg l1]; simp), if_pos (ltI_pos l2)]
  rw [if_neg (by rw [ltI_neg l1]; simp), if_neg (by rw [ltI_neg l2]; simp)]
  by_cases h : datBad s r f x.length = 0
  · rw [datMake_eq 6000 (by omega) s r f x h, Option.bind_some]
    by_cases h' : datBad s' r' f' x'.length = 0
    · rw [datMake_eq 6000 (by omega) s' r' f' x' h', Option.bind_some]
      have hlen := datPack_length s r f x
      obtain ⟨hl11, le9, le11, lt9, lt10, lt0, lt5, lt8, r1, x1, wr5, wx8, ln1, ln2, t11⟩ := facts s r f x (datPack s r f x).length hlen h
      have hb := bytes_eq' 6000 (by decide) (datPack s r f x) (datPack s' r' f' x') ln1
      have hd := datEq_eq 6000 (by decide) s r f s' r' f' x x' ln2
      have hbx := bytes_eq' 6000 (by decide) x x ln2
      have z9 : leI 0 9 = true := leI_pos (by decide)
      have z8 : leI 0 8 = true := leI_pos (by decide)
      have z10 : leI 0 10 = true := leI_pos (by decide)
      have z0 : leI 0 0 = true := leI_pos (by decide)
      have z5 : leI 0 5 = true := leI_pos (by decide)
      have z11 : leI 0 11 = true := leI_pos (by decide)
      have q0 : ∀ z : Int, eqI z z = true := fun z => eqI_pos rfl
      have hs := sum16_eq 6000 (by decide) (datHead s r f x.length) (by rw [datHead_length]; decide) (datHead_bytes _ _ _ _)
      obtain ⟨e1, e2, e3, e4, e5, e6, e7, e8⟩ := datPack_parts s r f x
      have hiff : decide (datPack s r f x = datPack s' r' f' x') = decide ((s, r, f, x) = (s', r', f', x')) := by
        rw [Bool.eq_iff_iff, decide_eq_true_eq, decide_eq_true_eq]
        constructor
        · exact datPack_inj s r f x s' r' f' x' h h'
        · intro e
          cases e
          rfl
      have hsum := datPack_sum s r f x
      have hz : (!eqI (0 : Int) 0) = false := by rw [q0]; rfl
      have tk : List.take ((datPack s r f x).length - 11) (List.drop 11 (datPack s r f x)) = x := by
        rw [e5, hlen, t11, List.take_length]
      rw [r1] at e7
      simp only [hz, hl11, Bool.false_eq_true, if_false, hb, hd, hiff, Option.bind_some, List.drop_zero, e1, hs, e6, e7, e8, x1, hsum, tk, hbx, wr5, wx8, hw, decide_true, if_true, le9, le11, lt9, lt10, lt0, lt5, lt8, z9, z8, z10, z0, z5, z11, q0, beq_self_eq_true, Bool.not_true]
      try simp
    · rw [datMake_bad 6000 s' r' f' x' h', Option.bind_some]
      simp [eqI_eq, h', hw]
  · rw [datMake_bad 6000 s r f x h, Option.bind_some]
    by_cases h' : datBad s' r' f' x'.length = 0
    · rw [datMake_eq 6000 (by omega) s' r' f' x' h', Option.bind_some]
      simp [eqI_eq, h, hw]
    · rw [datMake_bad 6000 s' r' f' x' h', Option.bind_some]
      simp [eqI_eq, h, h', hw]

end Go.Proofs.Ytnhghopkbbdebaa.Mini
