/- What was taken apart is put together again; numbers that are put are got: a plain law. -/
import Derived.Test.YtmjbjlhjpdebjaaPL
import Derived.Test.YtmjbjlhjpdebjaaMBitBack
set_option linter.unusedVariables false
set_option linter.unusedSimpArgs false
namespace Go.Proofs.Ytmjbjlhjpdebjaa.Mini
open Go Go.RowKit Go.Proofs

theorem and_low (x : Int) (m : Nat) (hm : m < 4294967296) : ∃ n : Nat, n ≤ m ∧ bits .and .i64 x (m : Int) = (n : Int) := by
  have h2 := Bv.ofInt64 m (by omega)
  have hlt : (BitVec.ofInt 64 x &&& BitVec.ofInt 64 (m : Int)).toNat ≤ m := by
    rw [BitVec.toNat_and, h2]
    exact Nat.and_le_right
  refine ⟨(BitVec.ofInt 64 x &&& BitVec.ofInt 64 (m : Int)).toNat, hlt, ?_⟩
  show IntKind.i64.wrap ((BitVec.ofInt 64 x &&& BitVec.ofInt 64 (m : Int)).toNat : Int) = _
  generalize (BitVec.ofInt 64 x &&& BitVec.ofInt 64 (m : Int)).toNat = n at hlt
  rw [IntKind.wrap_i64]
  omega
theorem back_size (p2 : Int) : ∃ s : Nat, 1 ≤ s ∧ s ≤ 4 ∧ wr .i64 (1 + wr .i64 (Int.tmod (wr .u64 p2) 4)) = (s : Int) := by
  obtain ⟨a, ha, e⟩ := umod0 p2 4 (by decide)
  rw [show ((4 : Nat) : Int) = 4 from rfl] at e
  refine ⟨a + 1, by omega, by omega, ?_⟩
  rw [e, w64n (show a < 9223372036854775808 by omega), w64 (by omega) (by omega)]
  omega
theorem back_mask (s : Nat) (h1 : 1 ≤ s) (h4 : s ≤ 4) : ∃ m : Nat, m + 1 = 256 ^ s ∧ m < 4294967296 ∧ leI 0 (wr .u64 (wr .i64 (8 * (s : Int)))) = true ∧ wr .i64 (wr .i64 (1 * Mini.p2 (min (Int.toNat (wr .u64 (wr .i64 (8 * (s : Int))))) 64)) - 1) = (m : Int) := by
  obtain rfl | rfl | rfl | rfl : s = 1 ∨ s = 2 ∨ s = 3 ∨ s = 4 := by omega
  · exact ⟨255, rfl, by decide, leI_pos (by decide +kernel), by decide +kernel⟩
  · exact ⟨65535, rfl, by decide, leI_pos (by decide +kernel), by decide +kernel⟩
  · exact ⟨16777215, rfl, by decide, leI_pos (by decide +kernel), by decide +kernel⟩
  · exact ⟨4294967295, rfl, by decide, leI_pos (by decide +kernel), by decide +kernel⟩
theorem back_ar (n s : Nat) (hn : n ≤ 300) (h4 : s ≤ 4) : wr .i64 (8 * (n : Int)) = ((8 * n : Nat) : Int) ∧ wr .i64 (2 * (n : Int)) = ((2 * n : Nat) : Int) ∧ wr .i64 ((n : Int) + (s : Int)) = ((n + s : Nat) : Int) ∧ leI 0 (n : Int) = true ∧ leI (n : Int) ((n + s : Nat) : Int) = true :=
  ⟨by rw [w64 (by omega) (by omega)]; omega, by rw [w64 (by omega) (by omega)]; omega, by rw [w64 (by omega) (by omega)]; omega, leI_pos (by omega), leI_pos (by omega)⟩
open Be in
theorem bitBack (b : List Int) (n size : Int) (wb : WfK (.row (.int .u8)) b) (_ : WfK (.int .i64) n) (_ : WfK (.int .i64) size) : ∃ k, m9F k b n size = some true := by
  refine ⟨6000, ?_⟩
  have hb := bytes_wf wb
  have hz : ∀ z : Int, (!eqI z z) = false := fun z => by rw [eqI_pos rfl]; rfl
  have he : ∀ z : Int, eqI z z = true := fun z => eqI_pos rfl
  simp only [m9F, m9X]
  by_cases hl : b.length ≤ 300
  · rw [if_neg (show ¬ (ltI 300 (b.length : Int) = true) by rw [ltI_neg (by omega)]; simp)]
    have h1 := bits_eq 6000 b (by omega) (by decide) (by omega) hb
    have h2 := nibbles_eq 6000 b (by omega) (by decide) (by omega) hb
    have h3 := pack_bits 6000 b (by omega) (by decide) (by omega) hb
    have h4 := join_nibs 6000 b (by omega) (by decide) (by omega) hb
    have h5 := bytes_eq' 6000 (by decide) b b (by omega)
    rw [decide_eq_true rfl] at h5
    obtain ⟨s, s1, s4, es⟩ := back_size size
    obtain ⟨m, m1, m2, m3, m4⟩ := back_mask s s1 s4
    obtain ⟨a1, a2, a3, a4, a5⟩ := back_ar b.length s hl s4
    obtain ⟨v, v1, v2⟩ := and_low n m m2
    have hv : (v : Int) < ((256 ^ s : Nat) : Int) := by rw [← m1]; omega
    have h6 := put_eq 6000 (by decide) b (v : Int) s s1 s4 (by omega) (by omega) hv
    have hlen : (b ++ be s (v : Int)).length = b.length + s := by rw [List.length_append, be_length]
    have hbb : ∀ c ∈ b ++ be s (v : Int), Crc.isByte c := fun c hc => (List.mem_append.1 hc).elim (hb c) (be_bytes s _ c)
    have h7 := get_eq 6000 (by decide) (b ++ be s (v : Int)) b.length s s1 s4 (by omega) (by omega) hbb
    have e7 : ((b ++ be s (v : Int)).take (b.length + s)).drop b.length = be s (v : Int) := by
      rw [List.take_of_length_le (by omega), List.drop_left]
    rw [e7, num_be' s (v : Int) (by omega) hv] at h7
    have h8 : List.take (Int.toNat (b.length : Int)) (List.drop 0 (b ++ be s (v : Int))) = b := by
      rw [Int.toNat_natCast, List.drop_zero, List.take_left]
    have e8 : (!eqI 4 0) = true := by rw [eqI_neg (by decide)]; rfl
    have hw := wakes01 6000 (by decide)
    simp only [h1, h2, h3, h4, Option.bind_some, hz, he, Bool.false_eq_true, if_false, if_true, bitsB_length, nibB_len, a1, a2, a3, a4, a5, h5, Bool.not_true, e8, es, m3, m4, v2, h6, h7, hlen, h8, hw]
  · rw [if_pos (ltI_pos (by omega))]

end Go.Proofs.Ytmjbjlhjpdebjaa.Mini
