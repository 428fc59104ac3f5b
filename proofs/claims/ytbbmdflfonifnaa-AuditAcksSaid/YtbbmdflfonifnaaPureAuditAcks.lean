/- The first ack that was taken, and never replied, is the page's: a plain law. -/
import Derived.Test.YtbbmdflfonifnaaPL
import Derived.Test.YtbbmdflfonifnaaMAuditAcks
set_option linter.unusedVariables false
set_option linter.unusedSimpArgs false
namespace Go.Proofs.Ytbbmdflfonifnaa.Mini
open Go Go.RowKit Go.Proofs

def GoodT (l : List (Bool × List Int)) : Prop := ∀ x ∈ l, IsB x.2 ∧ x.2.length ≤ 4096
def GoodR (l : List (List Int)) : Prop := ∀ x ∈ l, IsB x ∧ x.length ≤ 4096
theorem acks_end (k : Nat) (hk : 5001 ≤ k) (t : List (List Int)) (b : List (Bool × List Int)) (h1 : GoodR t) (h2 : GoodT b) (l1 : t.length ≤ 1000) (l2 : b.length ≤ 1000) : m3F32 k t b = some true := by
  have a1 := auditAck_eq k hk t l1 (fun x hx => (h1 x hx).1) b l2 h2
  have a2 := refAck26_eq k hk t l1 (fun x hx => Nat.le_trans (h1 x hx).2 (by decide)) b l2 h2
  have e0 : ∀ z : Int, eqI z z = true := fun z => eqI_pos rfl
  simp only [m3F32, m3X32, a1, a2, Option.bind_some, e0, if_true, wakes26 k hk]
theorem taken_set (x : Bool × List Int) : List.set (List.replicate 1 (false, ([] : List Int))) 0 x = [x] := (congrArg (fun z : Bool × List Int => [z]) (Eq.refl x) : [x] = [x])
theorem row_set (x : List Int) : List.set (List.replicate 1 ([] : List Int)) 0 x = [x] := (congrArg (fun z : List Int => [z]) (Eq.refl x) : [x] = [x])
theorem acks_ar (n m : Nat) (h : n ≤ 900) (h2 : m ≤ 900) : leI (((n + 1) * 32 : Nat) : Int) 140737488355328 = true ∧ leI (((m + 1) * 24 : Nat) : Int) 140737488355328 = true := ⟨leI_pos (by omega), leI_pos (by omega)⟩
theorem acks_loop (k : Nat) (hk : 5001 ≤ k) (own : List Int) (hl : own.length ≤ 30) : ∀ (rest pre : List Int) (j : Nat) (t : List (List Int)) (b : List (Bool × List Int)), own = pre ++ rest → rest.length < j → GoodR t → GoodT b → t.length ≤ 30 + pre.length → b.length ≤ 30 + pre.length →
    m3F21 k j t own (pre.length : Int) b = some true := by
  intro rest
  induction rest with
  | nil =>
    intro pre j t b e hj h1 h2 l1 l2
    obtain ⟨j, rfl⟩ : ∃ n, j = n + 1 := ⟨j - 1, by omega⟩
    have hlen : own.length = pre.length := by rw [e]; simp
    rw [m3F21, m3X21, if_neg (by rw [ltI_neg (by omega)]; simp)]
    exact acks_end k hk t b h1 h2 (by omega) (by omega)
  | cons x rest ih =>
    intro pre j t b e hj h1 h2 l1 l2
    obtain ⟨j, rfl⟩ : ∃ n, j = n + 1 := ⟨j - 1, by omega⟩
    have hlen : own.length = pre.length + (rest.length + 1) := by rw [e]; simp
    have hx : own.getD (Int.toNat (pre.length : Int)) 0 = x := by rw [e]; exact gd_at pre rest x 0
    have hj2 : rest.length < j := by simp only [List.length_cons] at hj; omega
    obtain ⟨a, ha, ea⟩ := umod0 x 50 (by decide)
    rw [show ((50 : Nat) : Int) = 50 from rfl] at ea
    have wa : wr .i64 (a : Int) = (a : Int) := w64n (by omega)
    have u0 : 0 ≤ wr .u32 x ∧ wr .u32 x < 4294967296 := by rw [wu32]; omega
    have hp := refack_eq k hk (a : Int) (wr .u32 x) u0.1 u0.2
    have hpb : IsB (ackPack (a : Int) (wr .u32 x)) := ackPack_bytes _ _
    have hpl := ackPack_length (a : Int) (wr .u32 x)
    generalize ackPack (a : Int) (wr .u32 x) = p at hp hpb hpl
    have tw := twinRows_eq k t (by omega) hk (fun y hy => Nat.le_trans (h1 y hy).2 (by decide))
    have n50 : (!eqI 50 0) = true := by rw [eqI_neg (by decide)]; rfl
    have n3 : (!eqI 3 0) = true := by rw [eqI_neg (by decide)]; rfl
    have n2 : (!eqI 2 0) = true := by rw [eqI_neg (by decide)]; rfl
    have g2 : ∀ f : Bool, GoodT (b ++ [(f, p)]) := fun f y hy => by
      rcases List.mem_append.1 hy with hy | hy
      · exact h2 y hy
      · rw [List.mem_singleton.1 hy]
        exact ⟨hpb, by show p.length ≤ 4096; omega⟩
    have g1 : GoodR (t ++ [p]) := fun y hy => by
      rcases List.mem_append.1 hy with hy | hy
      · exact h1 y hy
      · rw [List.mem_singleton.1 hy]
        exact ⟨hpb, by omega⟩
    have hi1 := fun f : Bool => ih (pre ++ [x]) j (t ++ [p]) (b ++ [(f, p)]) (by rw [e]; simp) hj2 g1 (g2 f) (by simp only [List.length_append, List.length_singleton]; omega) (by simp only [List.length_append, List.length_singleton]; omega)
    have hi2 := fun f : Bool => ih (pre ++ [x]) j t (b ++ [(f, p)]) (by rw [e]; simp) hj2 h1 (g2 f) (by simp only [List.length_append, List.length_singleton]; omega) (by simp only [List.length_append, List.length_singleton]; omega)
    rw [List.length_append, List.length_singleton] at hi1 hi2
    obtain ⟨b1, b2⟩ := acks_ar b.length t.length (by omega) (by omega)
    obtain ⟨c1, c2, c3⟩ := idx_ar pre.length own.length (by omega) (by omega)
    rw [m3F21, m3X21]
    simp only [c1, c2, if_true, hx, n50, ea, wa, hp, Option.bind_some, n3, n2, taken_set, row_set, List.length_singleton, b1, tw, b2, m3F22, m3X22, c3, hi1, hi2]
    split <;> rfl
theorem acks_sizes (k : Nat) (t : List (List Int)) (own : List Int) (l : List (Bool × List Int)) (hl : l.length ≤ 30) (X : (∀ x ∈ l, x.2.length ≤ 250) → m3F16 k l t own = some true) : ∀ (rest pre : List (Bool × List Int)) (j : Nat), l = pre ++ rest → rest.length < j → (∀ x ∈ pre, x.2.length ≤ 250) →
    m3F9 k j l t own (pre.length : Int) = some true := by
  intro rest
  induction rest with
  | nil =>
    intro pre j e hj h
    obtain ⟨j, rfl⟩ : ∃ n, j = n + 1 := ⟨j - 1, by omega⟩
    have hlen : l.length = pre.length := by rw [e]; simp
    rw [List.append_nil] at e
    rw [m3F9, m3X9, if_neg (by rw [ltI_neg (by omega)]; simp)]
    exact X (e ▸ h)
  | cons x rest ih =>
    intro pre j e hj h
    obtain ⟨j, rfl⟩ : ∃ n, j = n + 1 := ⟨j - 1, by omega⟩
    have hlen : l.length = pre.length + (rest.length + 1) := by rw [e]; simp
    have hx : l.getD (Int.toNat (pre.length : Int)) (false, []) = x := by rw [e]; exact gd_at pre rest x (false, [])
    obtain ⟨c1, c2, c3⟩ := idx_ar pre.length l.length (by omega) (by omega)
    rw [m3F9, m3X9]
    simp only [c1, c2, if_true, hx, c3]
    by_cases h250 : x.2.length ≤ 250
    · rw [if_neg (by rw [ltI_neg (by clear c1 c2 c3; omega)]; simp)]
      have := ih (pre ++ [x]) j (by rw [e]; simp) (by simp only [List.length_cons] at hj; omega) (fun y hy => by
        rcases List.mem_append.1 hy with hy | hy
        · exact h y hy
        · rw [List.mem_singleton.1 hy]
          exact h250)
      rw [List.length_append, List.length_singleton] at this
      exact this
    · rw [if_pos (ltI_pos (by clear c1 c2 c3; omega))]
theorem auditAcks (l : List (Bool × List Int)) (t : List (List Int)) (own : List Int) (wl : WfK (.row (.pair .bool (.row (.int .u8)))) l) (wt : WfK (.row (.row (.int .u8))) t) (wo : WfK (.row (.int .i64)) own) : ∃ k, m3F k l t own = some true := by
  refine ⟨6000, ?_⟩
  have hk : 5001 ≤ 6000 := by decide
  simp only [m3F, m3X]
  by_cases h1 : l.length ≤ 30
  · rw [if_neg (by rw [ltI_neg (by omega)]; simp)]
    obtain ⟨hv, e1, e2⟩ := heavy26 6000 hk t
    rw [e1, Option.bind_some]
    cases hv with
    | true => rw [if_pos rfl]
    | false =>
      rw [if_neg (by simp)]
      obtain ⟨t1, t2⟩ := e2 rfl
      by_cases h3 : own.length ≤ 30
      · rw [if_neg (by rw [ltI_neg (by omega)]; simp)]
        refine acks_sizes 6000 t own l h1 (fun h => ?_) l [] 6000 rfl (by omega) (fun x hx => by cases hx)
        have c : leI (((0 + l.length) * 32 : Nat) : Int) 140737488355328 = true := leI_pos (by omega)
        simp only [m3F16, m3X16, c, if_true, List.replicate_zero, List.nil_append]
        refine acks_loop 6000 hk own h3 own [] 6000 t l rfl (by omega) (fun x hx => ⟨bytes_wf (wt.2 x hx), by have := t2 x hx; omega⟩) (fun x hx => ⟨bytes_wf (wl.2 x hx).2, by have := h x hx; omega⟩) (by simp only [List.length_nil]; omega) (by simp only [List.length_nil]; omega)
      · rw [if_pos (ltI_pos (by omega))]
  · rw [if_pos (ltI_pos (by omega))]

end Go.Proofs.Ytbbmdflfonifnaa.Mini
