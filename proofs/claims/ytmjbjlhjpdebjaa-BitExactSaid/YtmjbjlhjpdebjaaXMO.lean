/- A small machine over plain data: from a contract to a statement's row. -/
import Derived.Test.YtmjbjlhjpdebjaaXMN
import Derived.Below
namespace Go.Proofs.Ytmjbjlhjpdebjaa.Mini
open Go Go.RowKit Go.ChangeShapes Go.WideShapes

/-- Is it the shape of the type's values? -/
def shOk (P : Program) (t : TypeId) : Sh → Bool
  | .leaf (.val k) => decide (kd P t = some k) && match P.underlying t with
    | some (.int _) | some .bool | some .string | some (.slice _) => true
    | _ => false
  | .st k => decide (kd P t = some k) && match P.underlying t with
    | some (.struct _) | some (.array _ _) => true
    | _ => false
  | _ => false

def WfS : (s : Sh) → ElS s → Prop
  | .leaf (.val k), x => WfK k x
  | .leaf (.own _ _), _ => True
  | .st k, x => WfK k x
  | .agg _, _ => True
  | .ptr _, _ => True
  | .fn _ _, _ => True

section
variable {H : Type} {enc : TypeId × Value → H} {P : Program} {W : World}

theorem kd_spec {t : TypeId} {k : Kd} (h : kd P t = some k) : kdOf P 8 t = some k ∧ P.cellsOf t = k.sz := by
  unfold kd at h
  split at h
  · rename_i k' hk
    cases hb : Nat.beq (P.cellsOf t) k'.sz with
    | false => rw [hb] at h; cases h
    | true =>
      rw [hb] at h
      cases h
      exact ⟨hk, Nat.eq_of_beq_eq_true hb⟩
  · cases h

theorem arg_rel {t : TypeId} {v : Value} {d : DataW H} {ps : List MemPlace} {base : Nat} (s : Sh) (hs : shOk P t s = true) (hv : Value.okWide P W .any base t v) (h : DataW.Trod enc P W 0 (fun _ => true) true t v d ps) :
    ∃ y : ElS s, Rel (zeroCtx W all 0) v (argS s y) ∧ WfS s y := by
  have hz : ∀ b, all b → (zeroCtx W all 0).ok b := fun b hb => ⟨hb, fun _ _ _ h => by cases h⟩
  obtain ⟨fuel, hf⟩ := h
  cases s with
  | leaf l =>
    cases l with
    | own k T => cases hs
    | val k =>
      simp only [shOk, Bool.and_eq_true, decide_eq_true_eq] at hs
      obtain ⟨hk, hu⟩ := hs
      obtain ⟨hk, hc⟩ := kd_spec hk
      have hone : v.cells.toList = [v] ∧ k.sz = 1 := by
        unfold kdOf at hk
        split at hu
        · rename_i q hq
          rw [hq] at hk
          cases hk
          obtain ⟨n, rfl⟩ := okWide_int hq hv
          exact ⟨rfl, rfl⟩
        · rename_i hq
          rw [hq] at hk
          cases hk
          obtain ⟨n, rfl⟩ := okWide_bool hq hv
          exact ⟨rfl, rfl⟩
        · rename_i hq
          rw [hq] at hk
          cases hk
          obtain ⟨n, rfl⟩ := okWide_string hq hv
          exact ⟨rfl, rfl⟩
        · rename_i e hq
          rw [hq] at hk
          simp only [] at hk
          obtain ⟨a, n, c, rfl⟩ := okWide_slice hq hv
          split at hk
          · rename_i k' _
            cases hb : (Nat.beq (P.cellsOf e) k'.sz && Nat.blt 0 k'.sz) with
            | false => rw [hb] at hk; cases hk
            | true =>
              rw [hb] at hk
              cases hk
              exact ⟨rfl, rfl⟩
          · cases hk
        · cases hu
      obtain ⟨y, h1, h2⟩ := trod_rep 8 t k hk fuel _ _ hf (by rw [hone.1, hone.2]; rfl)
      rw [hone.1] at h1
      have h3 := h1.ext (w' := W) (ok' := (zeroCtx W all 0).ok) ⟨fun _ _ _ _ h _ => h, fun b _ ho => hz b ho⟩
      exact ⟨y, headD_rel (RepC.leaves (C := zeroCtx W all 0) h3), h2⟩
  | st k =>
    simp only [shOk, Bool.and_eq_true, decide_eq_true_eq] at hs
    obtain ⟨hk, hu⟩ := hs
    obtain ⟨hk, hc⟩ := kd_spec hk
    have hagg : ∃ cs, v = .agg cs ∧ cs.size = P.cellsOf t := by
      unfold Value.okWide at hv
      split at hu
      · rename_i hq
        rw [hq] at hv
        obtain ⟨cs, h1, h2, _⟩ := hv
        exact ⟨cs, h1, h2⟩
      · rename_i hq
        rw [hq] at hv
        obtain ⟨cs, h1, h2, _⟩ := hv
        exact ⟨cs, h1, h2⟩
      · cases hu
    obtain ⟨cs, rfl, hsz⟩ := hagg
    obtain ⟨y, h1, h2⟩ := trod_rep 8 t k hk fuel _ _ hf (by
      show cs.toList.length = k.sz
      rw [Array.length_toList, hsz, hc])
    have h3 := h1.ext (w' := W) (ok' := (zeroCtx W all 0).ok) ⟨fun _ _ _ _ h _ => h, fun b _ ho => hz b ho⟩
    exact ⟨y, .agg (RepC.leaves (C := zeroCtx W all 0) h3), h2⟩
  | agg ls => cases hs
  | ptr k => cases hs
  | fn f ks => cases hs

/-- A law that tells true. -/
theorem walk_of {g : FuncId} {ps : List Sh} {f : Nat → ElSs ps → Option Bool} (hcon : ∀ k, Contract P k g ⟨ps, [.leaf (.val .bool)], f⟩) {a : ElSs ps} (h : ∃ k, f k a = some true) {vs : Array Value} (hr : RelL (zeroCtx W all 0) vs.toList (argSs ps a)) :
    Calls P g vs W fun e w' => e = .returned (.bool true) ∧ Below W.heap.size W w' := by
  obtain ⟨k, hk⟩ := h
  refine (hcon k a true hk W all 0 vs 0 (fun _ _ => trivial) hr).mono ?_
  rintro e w' ⟨v, C', rfl, rfl, _, _, t, hv⟩
  have hv' : v = .bool true := rel_bool hv
  subst hv'
  exact ⟨rfl, t.fr.os, t.fr.tape, t.fr.output, t.fr.size, fun b hb => t.fr.blk b hb fun h => h⟩

end
end Go.Proofs.Ytmjbjlhjpdebjaa.Mini
