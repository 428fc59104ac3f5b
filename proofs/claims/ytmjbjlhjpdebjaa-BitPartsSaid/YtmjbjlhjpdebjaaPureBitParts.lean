/- Bits, and nibbles, of two texts side by side are those of both, side by side; eight bits are two nibbles: a plain law. -/
import Derived.Test.YtmjbjlhjpdebjaaPL
import Derived.Test.YtmjbjlhjpdebjaaMBitParts
set_option linter.unusedVariables false
namespace Go.Proofs.Ytmjbjlhjpdebjaa.Mini
open Go Go.RowKit Go.Proofs

/-- A text's parts. -/
noncomputable def partsL (size : Nat) (l : List Int) : List Int := Try.all size l l.length
theorem parts_cons (size : Nat) (c : Int) (l : List Int) : partsL size (c :: l) = Try.dn size c (8 / size) ++ partsL size l := by
  unfold partsL Try.all
  rw [List.take_length, List.take_length, List.flatMap_cons]
theorem parts_append (size : Nat) (a b : List Int) : partsL size (a ++ b) = partsL size a ++ partsL size b := by
  unfold partsL Try.all
  rw [List.take_length, List.take_length, List.take_length, List.flatMap_append]
theorem parts_len (size : Nat) (l : List Int) : (partsL size l).length = l.length * (8 / size) := Try.all_len size l l.length (Nat.le_refl _)
theorem byte_parts : ∀ c : Fin 256, (∀ m : Fin 8, 0 ≤ Try.pt 1 (c.val : Int) (m.val + 1) ∧ Try.pt 1 (c.val : Int) (m.val + 1) ≤ 1) ∧
    Try.pt 4 (c.val : Int) 2 = 8 * Try.pt 1 (c.val : Int) 8 + 4 * Try.pt 1 (c.val : Int) 7 + 2 * Try.pt 1 (c.val : Int) 6 + Try.pt 1 (c.val : Int) 5 ∧
    Try.pt 4 (c.val : Int) 1 = 8 * Try.pt 1 (c.val : Int) 4 + 4 * Try.pt 1 (c.val : Int) 3 + 2 * Try.pt 1 (c.val : Int) 2 + Try.pt 1 (c.val : Int) 1 := by
  decide +kernel
def nibOk (x a b c d : Int) : Prop := (0 ≤ a ∧ a ≤ 1) ∧ (0 ≤ b ∧ b ≤ 1) ∧ (0 ≤ c ∧ c ≤ 1) ∧ (0 ≤ d ∧ d ≤ 1) ∧ x = 8 * a + 4 * b + 2 * c + d
theorem nib_at : ∀ (l : List Int), (∀ c ∈ l, Crc.isByte c) → ∀ i, i < 2 * l.length → nibOk ((partsL 4 l).getD i 0) ((partsL 1 l).getD (4 * i) 0) ((partsL 1 l).getD (4 * i + 1) 0) ((partsL 1 l).getD (4 * i + 2) 0) ((partsL 1 l).getD (4 * i + 3) 0) := by
  intro l
  induction l with
  | nil => intro _ i h; simp at h
  | cons c l ih =>
    intro hb i hi
    have hc := hb c (List.mem_cons_self ..)
    have ih := ih (fun x hx => hb x (List.mem_cons_of_mem _ hx))
    unfold Crc.isByte at hc
    obtain ⟨n, rfl⟩ := Int.eq_ofNat_of_zero_le hc.1
    have hn : n < 256 := by omega
    obtain ⟨h1, h2, h3⟩ := byte_parts ⟨n, hn⟩
    dsimp only at h1 h2 h3
    rw [parts_cons, parts_cons]
    have e4 : Try.dn 4 (n : Int) (8 / 4) = [Try.pt 4 (n : Int) 2, Try.pt 4 (n : Int) 1] := rfl
    have e1 : Try.dn 1 (n : Int) (8 / 1) = [Try.pt 1 (n : Int) 8, Try.pt 1 (n : Int) 7, Try.pt 1 (n : Int) 6, Try.pt 1 (n : Int) 5, Try.pt 1 (n : Int) 4, Try.pt 1 (n : Int) 3, Try.pt 1 (n : Int) 2, Try.pt 1 (n : Int) 1] := rfl
    rw [e4, e1]
    match i, hi with
    | 0, _ => exact ⟨h1 7, h1 6, h1 5, h1 4, h2⟩
    | 1, _ => exact ⟨h1 3, h1 2, h1 1, h1 0, h3⟩
    | i + 2, hi =>
      have := ih i (by rw [List.length_cons] at hi; omega)
      have g4 : ∀ r : List Int, ([Try.pt 4 (n : Int) 2, Try.pt 4 (n : Int) 1] ++ r).getD (i + 2) 0 = r.getD i 0 := fun r => rfl
      have g1 : ∀ (r : List Int) (j : Nat), ([Try.pt 1 (n : Int) 8, Try.pt 1 (n : Int) 7, Try.pt 1 (n : Int) 6, Try.pt 1 (n : Int) 5, Try.pt 1 (n : Int) 4, Try.pt 1 (n : Int) 3, Try.pt 1 (n : Int) 2, Try.pt 1 (n : Int) 1] ++ r).getD (j + 8) 0 = r.getD j 0 := fun r j => rfl
      rw [g4, show 4 * (i + 2) = 4 * i + 8 by omega, g1, show 4 * i + 8 + 1 = (4 * i + 1) + 8 by omega, g1, show 4 * i + 8 + 2 = (4 * i + 2) + 8 by omega, g1, show 4 * i + 8 + 3 = (4 * i + 3) + 8 by omega, g1]
      exact this
theorem nib_wr {x a b c d : Int} (h : nibOk x a b c d) : wr .i64 (wr .i64 (wr .i64 (wr .i64 (8 * a) + wr .i64 (4 * b)) + wr .i64 (2 * c)) + d) = x := by
  obtain ⟨⟨a0, a1⟩, ⟨b0, b1⟩, ⟨c0, c1⟩, ⟨d0, d1⟩, hx⟩ := h
  rw [w64 (n := 8 * a) (by omega) (by omega), w64 (n := 4 * b) (by omega) (by omega), w64 (n := 2 * c) (by omega) (by omega), w64 (n := 8 * a + 4 * b) (by omega) (by omega), w64 (n := 8 * a + 4 * b + 2 * c) (by omega) (by omega), w64 (by omega) (by omega)]
  exact hx.symm
theorem parts_ar (i n : Nat) (hi : i < 2 * n) (hn : n ≤ 600) : ltI (i : Int) ((n * 2 : Nat) : Int) = true ∧ leI 0 (i : Int) = true ∧ wr .i64 (4 * (i : Int)) = ((4 * i : Nat) : Int) ∧ wr .i64 (((4 * i : Nat) : Int) + 1) = ((4 * i + 1 : Nat) : Int) ∧ wr .i64 (((4 * i : Nat) : Int) + 2) = ((4 * i + 2 : Nat) : Int) ∧ wr .i64 (((4 * i : Nat) : Int) + 3) = ((4 * i + 3 : Nat) : Int) ∧
    (∀ j : Nat, j < 4 → ltI ((4 * i + j : Nat) : Int) ((n * 8 : Nat) : Int) = true ∧ leI 0 ((4 * i + j : Nat) : Int) = true) ∧ wr .i64 ((i : Int) + 1) = ((i + 1 : Nat) : Int) :=
  ⟨ltI_pos (by omega), leI_pos (by omega), by rw [w64 (by omega) (by omega)]; omega, by rw [w64 (by omega) (by omega)]; omega, by rw [w64 (by omega) (by omega)]; omega, by rw [w64 (by omega) (by omega)]; omega, fun j hj => ⟨ltI_pos (by omega), leI_pos (by omega)⟩, w64s (by omega)⟩
theorem parts_loop (k : Nat) (hk : 5001 ≤ k) (l : List Int) (hl : l.length ≤ 600) (hb : ∀ c ∈ l, Crc.isByte c) : ∀ (n j i : Nat), i + n = 2 * l.length → n < j →
    m4F23 k j (i : Int) (partsL 1 l) (partsL 4 l) = some true := by
  have l1 : (partsL 1 l).length = l.length * 8 := parts_len 1 l
  have l4 : (partsL 4 l).length = l.length * 2 := parts_len 4 l
  intro n
  induction n with
  | zero =>
    intro j i h hj
    obtain ⟨j, rfl⟩ : ∃ m, j = m + 1 := ⟨j - 1, by omega⟩
    simp only [m4F23, m4X23]
    rw [if_neg (by rw [ltI_neg (by omega)]; simp)]
    simp only [wakes01 k hk, Option.bind_some]
  | succ n ih =>
    intro j i h hj
    obtain ⟨j, rfl⟩ : ∃ m, j = m + 1 := ⟨j - 1, by omega⟩
    have h2 := ih j (i + 1) (by omega) (by omega)
    have hn := nib_at l hb i (by omega)
    have hz : ∀ z : Int, (!eqI z z) = false := fun z => by rw [eqI_pos rfl]; rfl
    obtain ⟨c1, c2, m1, m2, m3, m4, c3, m5⟩ := parts_ar i l.length (by omega) hl
    obtain ⟨q1, p1⟩ := c3 0 (by decide)
    obtain ⟨q2, p2⟩ := c3 1 (by decide)
    obtain ⟨q3, p3⟩ := c3 2 (by decide)
    obtain ⟨q4, p4⟩ := c3 3 (by decide)
    rw [Nat.add_zero] at q1 p1
    have hw := nib_wr hn
    simp only [m4F23, m4X23, l1, l4, c1, c2, m1, m2, m3, m4, q1, q2, q3, q4, p1, p2, p3, p4, if_true, Int.toNat_natCast, hw, hz, Bool.false_eq_true, if_false, m5]
    exact h2
theorem bitParts (a b : List Int) (wa : WfK (.row (.int .u8)) a) (wb : WfK (.row (.int .u8)) b) : ∃ k, m4F k a b = some true := by
  refine ⟨6000, ?_⟩
  have ha := bytes_wf wa
  have hb := bytes_wf wb
  have hz : ∀ z : Int, (!eqI z z) = false := fun z => by rw [eqI_pos rfl]; rfl
  simp only [m4F, m4X]
  by_cases la : a.length ≤ 300
  · rw [if_neg (show ¬ (ltI 300 (a.length : Int) = true) by rw [ltI_neg (by omega)]; simp)]
    by_cases lb : b.length ≤ 300
    · rw [if_neg (show ¬ (ltI 300 (b.length : Int) = true) by rw [ltI_neg (by omega)]; simp)]
      have hab : ∀ c ∈ a ++ b, Crc.isByte c := fun c hc => (List.mem_append.1 hc).elim (ha c) (hb c)
      have hl : (a ++ b).length ≤ 600 := by rw [List.length_append]; omega
      have h1 := twin_eq 6000 a (by omega)
      have h2 : m14F 6000 a = some (partsL 1 a, 0) := bits_eq 6000 a (by omega)
      have h3 : m14F 6000 b = some (partsL 1 b, 0) := bits_eq 6000 b (by omega)
      have h4 : m14F 6000 (a ++ b) = some (partsL 1 (a ++ b), 0) := bits_eq 6000 (a ++ b) (by omega)
      have h5 : m15F 6000 (a ++ b) = some (partsL 4 (a ++ b), 0) := nibbles_eq 6000 (a ++ b) (by omega)
      have l1 : (partsL 1 a).length = a.length * 8 := parts_len 1 a
      have l2 : (partsL 1 b).length = b.length * 8 := parts_len 1 b
      have l3 : (partsL 1 (a ++ b)).length = (a ++ b).length * 8 := parts_len 1 (a ++ b)
      have l4 : (partsL 4 (a ++ b)).length = (a ++ b).length * 2 := parts_len 4 (a ++ b)
      have h6 := twinInts_eq' 6000 (partsL 1 a) (by omega)
      have h7 := ints_eq' 6000 (by decide) (partsL 1 a ++ partsL 1 b) (partsL 1 (a ++ b)) (by rw [List.length_append]; omega)
      rw [decide_eq_true (parts_append 1 a b).symm] at h7
      have lp := parts_loop 6000 (by decide) (a ++ b) hl hab (2 * (a ++ b).length) 6000 0 (by omega) (by omega)
      have ar : leI (((a.length + b.length) * 1 : Nat) : Int) 140737488355328 = true ∧ leI ((((partsL 1 a).length + (partsL 1 b).length) * 8 : Nat) : Int) 140737488355328 = true ∧ wr .i64 (8 * ((a ++ b).length : Int)) = (((a ++ b).length * 8 : Nat) : Int) ∧ wr .i64 (2 * ((a ++ b).length : Int)) = (((a ++ b).length * 2 : Nat) : Int) :=
        ⟨leI_pos (by omega), leI_pos (by omega), by rw [w64 (by omega) (by omega)]; omega, by rw [w64 (by omega) (by omega)]; omega⟩
      obtain ⟨c1, c2, c3, c4⟩ := ar
      simp only [h1, Option.bind_some, c1, if_true, h2, h3, h4, h5, hz, Bool.false_eq_true, if_false, h6, c2, h7, Bool.not_true, l3, l4, c3, c4]
      exact lp
    · rw [if_pos (ltI_pos (by omega))]
  · rw [if_pos (ltI_pos (by omega))]

end Go.Proofs.Ytmjbjlhjpdebjaa.Mini
