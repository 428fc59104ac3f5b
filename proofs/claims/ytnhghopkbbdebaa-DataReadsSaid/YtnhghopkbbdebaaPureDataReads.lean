/- What any bytes are read as, or why they are none, is the page's; what is read is made again: a plain law. -/
import Derived.Test.YtnhghopkbbdebaaPL
import Derived.Test.YtnhghopkbbdebaaMDataReads
set_option linter.unusedVariables false
set_option linter.unusedSimpArgs false
namespace Go.Proofs.Ytnhghopkbbdebaa.Mini
open Go Go.RowKit Go.Proofs

open Crc Be Bv in
theorem eleven (l : List Int) (h : 12 ≤ l.length) : ∃ a b0 b1 b2 b3 c d0 d1 e f0 f1 rest, l = a :: b0 :: b1 :: b2 :: b3 :: c :: d0 :: d1 :: e :: f0 :: f1 :: rest := by
  match l, h with
  | a :: b0 :: b1 :: b2 :: b3 :: c :: d0 :: d1 :: e :: f0 :: f1 :: rest, _ => exact ⟨a, b0, b1, b2, b3, c, d0, d1, e, f0, f1, rest, rfl⟩
open Crc Be Bv in
theorem pieces (b0 b1 b2 b3 c d0 d1 e f0 f1 : Int) (rest : List Int) (hall : ∀ x ∈ [b0, b1, b2, b3, c, d0, d1, e, f0, f1], isByte x) (hr : (rest.length : Int) = e) (h64 : 1 ≤ rest.length ∧ rest.length ≤ 64) (h4 : num [b0, b1, b2, b3] < 1073741824) (hs : u (sum16 [68, b0, b1, b2, b3, c, d0, d1, e]) = num [f0, f1]) :
    datBad (num [b0, b1, b2, b3]) c (num [d0, d1]) rest.length = 0 ∧ datPack (num [b0, b1, b2, b3]) c (num [d0, d1]) rest = 68 :: b0 :: b1 :: b2 :: b3 :: c :: d0 :: d1 :: e :: f0 :: f1 :: rest := by
  have m : ∀ x, x = b0 ∨ x = b1 ∨ x = b2 ∨ x = b3 ∨ x = c ∨ x = d0 ∨ x = d1 ∨ x = e ∨ x = f0 ∨ x = f1 → isByte x := fun x hx => hall x (by simpa using hx)
  have e1 := be_num' 4 [b0, b1, b2, b3] rfl (fun x hx => m x (by simp only [List.mem_cons, List.not_mem_nil, or_false] at hx; rcases hx with h | h | h | h <;> simp [h]))
  have e2 := be_num' 2 [d0, d1] rfl (fun x hx => m x (by simp only [List.mem_cons, List.not_mem_nil, or_false] at hx; rcases hx with h | h <;> simp [h]))
  have e3 := be_num' 2 [f0, f1] rfl (fun x hx => m x (by simp only [List.mem_cons, List.not_mem_nil, or_false] at hx; rcases hx with h | h <;> simp [h]))
  have n1 := num_bound [b0, b1, b2, b3] (fun x hx => m x (by simp only [List.mem_cons, List.not_mem_nil, or_false] at hx; rcases hx with h | h | h | h <;> simp [h]))
  have n2 := num_bound [d0, d1] (fun x hx => m x (by simp only [List.mem_cons, List.not_mem_nil, or_false] at hx; rcases hx with h | h <;> simp [h]))
  have hc := m c (by simp)
  have heb := m e (by simp)
  have p2' : ((256 ^ [d0, d1].length : Nat) : Int) = 65536 := by simp
  rw [p2'] at n2
  replace n1 := n1.1
  generalize num [b0, b1, b2, b3] = s at *
  generalize num [d0, d1] = f at *
  refine ⟨?_, ?_⟩
  · unfold datBad
    have := hc.1
    have := hc.2
    clear hs e1 e2 e3
    rw [if_neg (by omega), if_neg (by omega)]
  · have hh : datHead s c f rest.length = [68, b0, b1, b2, b3, c, d0, d1, e] := by
      unfold datHead
      rw [e1, e2, be_one c ⟨hc.1, Int.lt_of_le_of_lt hc.2 (by decide)⟩, hr, be_one e ⟨heb.1, Int.lt_of_le_of_lt heb.2 (by decide)⟩]
      rfl
    unfold datPack
    rw [hh, hs, e3]
    rfl
open Crc Be Bv in
theorem datRead_cases (l : List Int) (hb : ∀ x ∈ l, isByte x) : (∃ s r f x, datRead l = ((s, r, f, x), 0) ∧ datBad s r f x.length = 0 ∧ datPack s r f x = l) ∨ ∃ e, e ≠ 0 ∧ datRead l = ((0, 0, 0, []), e) := by
  by_cases h1 : l.length < 12 ∨ 75 < l.length
  · exact .inr ⟨2, by decide, if_pos h1⟩
  by_cases h2 : l.getD 0 0 ≠ 68
  · exact .inr ⟨12, by decide, (if_neg h1).trans (if_pos h2)⟩
  by_cases h3 : u (sum16 (l.take 9)) ≠ num ((l.take 11).drop 9)
  · exact .inr ⟨4, by decide, (if_neg h1).trans ((if_neg h2).trans (if_pos h3))⟩
  by_cases h4 : 1073741824 ≤ num ((l.take 5).drop 1)
  · exact .inr ⟨1, by decide, (if_neg h1).trans ((if_neg h2).trans ((if_neg h3).trans (if_pos h4)))⟩
  by_cases h5 : l.getD 8 0 ≠ (l.length : Int) - 11
  · exact .inr ⟨2, by decide, (if_neg h1).trans ((if_neg h2).trans ((if_neg h3).trans ((if_neg h4).trans (if_pos h5))))⟩
  refine .inl ⟨_, _, _, _, (if_neg h1).trans ((if_neg h2).trans ((if_neg h3).trans ((if_neg h4).trans (if_neg h5)))), ?_⟩
  obtain ⟨a, b0, b1, b2, b3, c, d0, d1, e, f0, f1, rest, rfl⟩ := eleven l (Nat.not_lt.1 fun h => h1 (.inl h))
  have hlen : (a :: b0 :: b1 :: b2 :: b3 :: c :: d0 :: d1 :: e :: f0 :: f1 :: rest).length = rest.length + 11 := rfl
  have he : e = (rest.length : Int) := by
    have := Decidable.not_not.1 h5
    rw [hlen] at this
    have h : e = ((rest.length + 11 : Nat) : Int) - 11 := this
    omega
  rw [hlen] at h1
  obtain rfl : a = 68 := Decidable.not_not.1 h2
  exact pieces b0 b1 b2 b3 c d0 d1 e f0 f1 rest (fun x hx => hb x (by simp only [List.mem_cons, List.not_mem_nil, or_false] at hx ⊢; rcases hx with h | h | h | h | h | h | h | h | h | h <;> simp [h])) he.symm (by clear h2 h3 h4 h5; omega) (Int.not_le.1 h4) (Decidable.not_not.1 h3)
theorem dataReads (l : List Int) (wl : WfK (.row (.int .u8)) l) : ∃ k, m4F k l = some true := by
  refine ⟨6000, ?_⟩
  have hb := bytes_wf wl
  have hw := wakes14 6000 (by decide)
  have hz : ∀ z : Int, (!eqI z z) = false := fun z => by rw [eqI_pos rfl]; rfl
  have e0 : ∀ z : Int, eqI z z = true := fun z => eqI_pos rfl
  simp only [m4F, m4X]
  by_cases hn : l.length ≤ 200
  · rw [if_neg (show ¬ (ltI 200 (l.length : Int) = true) by rw [ltI_neg (by omega)]; simp)]
    have h1 := datRead_eq 6000 (by decide) l (by omega) hb
    have h2 := refReadData_eq 6000 (by decide) l (by omega) hb
    have h4 : m14F 6000 l l = some true := by
      rw [bytes_eq' 6000 (by decide) _ _ (by omega), decide_eq_true rfl]
    rcases datRead_cases l hb with ⟨s, r, f, x, h, he, hp⟩ | ⟨e, he, h⟩
    · rw [h] at h1 h2
      have hlx : x.length ≤ 5000 := by
        have := datPack_length s r f x
        rw [hp] at this
        omega
      have kd : m12F 6000 (s, r, f, x) (s, r, f, x) = some true := by
        rw [datEq_eq 6000 (by decide) s r f s r f x x hlx, decide_eq_true rfl]
      have h5 := datMake_eq 6000 (by decide) s r f x he
      rw [hp] at h5
      obtain ⟨z, h6⟩ := spoil_eq 6000 0 x.length (by omega) (by omega) x
      simp only [twin_eq 6000 l (by omega), Option.bind_some, h1, h2, h4, kd, h5, h6, hz, e0, Bool.false_eq_true, if_false, Bool.not_true, if_true, hw]
    · rw [h] at h1 h2
      have kd : m12F 6000 (0, 0, 0, []) (0, 0, 0, []) = some true := by
        rw [datEq_eq 6000 (by decide) 0 0 0 0 0 0 [] [] (by decide), decide_eq_true rfl]
      have hne : (!eqI e 0) = true := by rw [eqI_neg he]; rfl
      simp only [twin_eq 6000 l (by omega), Option.bind_some, h1, h2, h4, kd, hz, hne, Bool.false_eq_true, if_false, Bool.not_true, if_true, hw]
  · rw [if_pos (ltI_pos (by omega))]

end Go.Proofs.Ytnhghopkbbdebaa.Mini
