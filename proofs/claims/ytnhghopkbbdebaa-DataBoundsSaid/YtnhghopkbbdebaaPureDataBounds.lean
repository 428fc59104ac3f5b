/- The greatest numbers that may be are taken; one more is refused: a plain law. -/
import Derived.Test.YtnhghopkbbdebaaPL
import Derived.Test.YtnhghopkbbdebaaMDataBounds
set_option linter.unusedVariables false
namespace Go.Proofs.Ytnhghopkbbdebaa.Mini
open Go Go.RowKit Go.Proofs

theorem bounds_end (k : Nat) (hk : 6000 ≤ k) (t s r f : Int) (x : List Int) (hx : ∀ c ∈ x, Crc.isByte c) (hl : x.length ≤ 100) (ht : datBad s r f x.length = t) : m8F40 k t s r f x = some true := by
  have hw := wakes14 k (by omega)
  simp only [m8F40, m8X40]
  by_cases h0 : t = 0
  · subst h0
    rw [datMake_eq k (by omega) s r f x ht, Option.bind_some]
    have e1 := datRead_eq k (by omega) (datPack s r f x) (by rw [datPack_length]; omega) (datPack_bytes s r f x hx)
    rw [datRead_pack s r f x ht] at e1
    simp [e1, eqI_eq, datEq_eq k (show 5001 ≤ k by omega) s r f s r f x x (by omega), hw]
  · rw [datMake_bad k s r f x (by omega), Option.bind_some, ht]
    simp [eqI_eq, h0, hw]

theorem dataBounds (p q : Int) (wp : (Lit.int .i64 p).wf = true) (wq : (Lit.int .i64 q).wf = true) : ∃ k, m8F k p q = some true := by
  refine ⟨6000, ?_⟩
  obtain ⟨a, ha, ea⟩ := umod0 p 4 (by omega)
  obtain ⟨b, hb, eb⟩ := umod0 q 2 (by omega)
  have ea' : Int.tmod (wr .u64 p) 4 = (a : Int) := ea
  have eb' : wr .i64 (Int.tmod (wr .u64 q) 2) = (b : Int) := by
    have : Int.tmod (wr .u64 q) 2 = (b : Int) := eb
    rw [this, w64 (by omega) (by omega)]
  have one : ∀ c ∈ [(1 : Int)], Crc.isByte c := fun c hc => by
    rw [List.mem_singleton] at hc
    subst hc
    exact ⟨by omega, by omega⟩
  have noughts : ∀ (n : Nat), ∀ c ∈ List.replicate n (0 : Int), Crc.isByte c := fun n c hc => by
    rw [List.eq_of_mem_replicate hc]
    exact ⟨by omega, by omega⟩
  have e0 : (!eqI 2 0) = true := by rw [eqI_neg (by decide)]; rfl
  have e1 : (!eqI 4 0) = true := by rw [eqI_neg (by decide)]; rfl
  simp only [m8F, m8X, ea', eb', one_set]
  rw [if_pos e0, if_pos e1]
  obtain rfl | rfl : b = 0 ∨ b = 1 := by omega
  · obtain rfl | rfl | rfl | rfl : a = 0 ∨ a = 1 ∨ a = 2 ∨ a = 3 := by omega
    · rw [if_pos (eqI_pos (by omega)), if_neg (by rw [ltI_neg (by omega)]; simp), w64 (by omega) (by omega)]
      exact bounds_end 6000 (by omega) 0 _ 1 1 [1] one (by simp) rfl
    · rw [if_neg (by rw [eqI_neg (by omega)]; simp), if_pos (eqI_pos (by omega)), if_neg (by rw [ltI_neg (by omega)]; simp), w64 (by omega) (by omega)]
      exact bounds_end 6000 (by omega) 0 1 _ 1 [1] one (by simp) rfl
    · rw [if_neg (by rw [eqI_neg (by omega)]; simp), if_neg (by rw [eqI_neg (by omega)]; simp), if_pos (eqI_pos (by omega)), if_neg (by rw [ltI_neg (by omega)]; simp), w64 (by omega) (by omega)]
      exact bounds_end 6000 (by omega) 0 1 1 _ [1] one (by simp) rfl
    · have w : wr .i64 (64 + ((0 : Nat) : Int)) = 64 := w64 (by omega) (by omega)
      rw [w, if_neg (by rw [eqI_neg (by omega)]; simp), if_neg (by rw [eqI_neg (by omega)]; simp), if_neg (by rw [eqI_neg (by omega)]; simp), if_pos (leI_pos (by omega)), if_pos (leI_pos (by omega)), if_pos (leI_pos (by omega)), if_pos (leI_pos (by omega)), if_neg (by rw [ltI_neg (by omega)]; simp)]
      exact bounds_end 6000 (by omega) 0 1 1 1 _ (noughts _) (by rw [List.length_replicate]; omega) (by rw [List.length_replicate]; rfl)
  · obtain rfl | rfl | rfl | rfl : a = 0 ∨ a = 1 ∨ a = 2 ∨ a = 3 := by omega
    · rw [if_pos (eqI_pos (by omega)), if_pos (ltI_pos (by omega)), w64 (by omega) (by omega)]
      exact bounds_end 6000 (by omega) 1 _ 1 1 [1] one (by simp) rfl
    · rw [if_neg (by rw [eqI_neg (by omega)]; simp), if_pos (eqI_pos (by omega)), if_pos (ltI_pos (by omega)), w64 (by omega) (by omega)]
      exact bounds_end 6000 (by omega) 1 1 _ 1 [1] one (by simp) rfl
    · rw [if_neg (by rw [eqI_neg (by omega)]; simp), if_neg (by rw [eqI_neg (by omega)]; simp), if_pos (eqI_pos (by omega)), if_pos (ltI_pos (by omega)), w64 (by omega) (by omega)]
      exact bounds_end 6000 (by omega) 1 1 1 _ [1] one (by simp) rfl
    · have w : wr .i64 (64 + ((1 : Nat) : Int)) = 65 := w64 (by omega) (by omega)
      rw [w, if_neg (by rw [eqI_neg (by omega)]; simp), if_neg (by rw [eqI_neg (by omega)]; simp), if_neg (by rw [eqI_neg (by omega)]; simp), if_pos (leI_pos (by omega)), if_pos (leI_pos (by omega)), if_pos (leI_pos (by omega)), if_pos (leI_pos (by omega)), if_pos (ltI_pos (by omega))]
      exact bounds_end 6000 (by omega) 2 1 1 1 _ (noughts _) (by rw [List.length_replicate]; omega) (by rw [List.length_replicate]; rfl)

end Go.Proofs.Ytnhghopkbbdebaa.Mini
