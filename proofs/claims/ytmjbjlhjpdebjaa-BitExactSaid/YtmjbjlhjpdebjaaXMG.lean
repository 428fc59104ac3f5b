/- A small machine over plain data: the regions, in whatever order. -/
import Derived.Test.YtmjbjlhjpdebjaaXMF
namespace Go.Proofs.Ytmjbjlhjpdebjaa.Mini
open Go Go.RowKit

/-! ### An operation's answer hangs on its operands alone -/
theorem map_congr' {α β : Type} {f g : α → β} : ∀ {l : List α}, (∀ x ∈ l, f x = g x) → l.map f = l.map g
  | [], _ => rfl
  | x :: l, h => by
    simp only [List.map_cons]
    rw [h x (by simp), map_congr' fun y hy => h y (by simp [hy])]

theorem aop_congr {E : Env} {op : Op} {r r' : Operand → AV} {tab : Tab} {fresh : Nat} (h : ∀ x ∈ op.operands.toList, r x = r' x) : aop E op r tab fresh = aop E op r' tab fresh := by
  cases op with
  | move x => simp only [aop, h x (by simp [Op.operands])]
  | assign x => simp only [aop, h x (by simp [Op.operands])]
  | pick c a b => simp only [aop, h c (by simp [Op.operands]), h a (by simp [Op.operands]), h b (by simp [Op.operands])]
  | alloc t => rfl
  | box t x => simp only [aop, h x (by simp [Op.operands])]
  | build t ps =>
    simp only [aop]
    rw [map_congr' (f := fun p : Nat × Operand => (p.1, r p.2)) (g := fun p => (p.1, r' p.2)) fun p hp => by
      rw [h p.2 (by simp only [Op.operands]; exact List.mem_map_of_mem hp)]]
  | buildSlice t n ps =>
    simp only [aop]
    rw [map_congr' (f := fun p : Nat × Operand => (p.1, r p.2)) (g := fun p => (p.1, r' p.2)) fun p hp => by
      rw [h p.2 (by simp only [Op.operands]; exact List.mem_map_of_mem hp)]]
  | load t x => simp only [aop, h x (by simp [Op.operands])]
  | store t x v => simp only [aop, h x (by simp [Op.operands]), h v (by simp [Op.operands])]
  | nilCheck x => simp only [aop, h x (by simp [Op.operands])]
  | binOp op t x y u => simp only [aop, h x (by simp [Op.operands]), h y (by simp [Op.operands])]
  | unOp op t x => simp only [aop, h x (by simp [Op.operands])]
  | convert s d x => simp only [aop, h x (by simp [Op.operands])]
  | makeFunc f first caps =>
    simp only [aop]
    rw [map_congr' (f := r) (g := r') (l := caps.toList) fun x hx => h x (by simp only [Op.operands, Array.toList_append]; exact List.mem_append.2 (.inr hx))]
  | makeSlice t l c => simp only [aop, h l (by simp [Op.operands]), h c (by simp [Op.operands])]
  | slice t x lo hi m =>
    cases m with
    | some m =>
      cases lo with
      | none => rfl
      | some lo =>
        cases hi with
        | none => rfl
        | some hi => simp only [aop, h x (by simp [Op.operands]), h lo (by simp [Op.operands]), h hi (by simp [Op.operands]), h m (by simp [Op.operands])]
    | none =>
      have h1 : lo.map r = lo.map r' := by
        cases lo with
        | none => rfl
        | some y => rw [Option.map_some, Option.map_some, h y (by simp [Op.operands])]
      have h2 : hi.map r = hi.map r' := by
        cases hi with
        | none => rfl
        | some y => rw [Option.map_some, Option.map_some, h y (by simp [Op.operands])]
      simp only [aop, h x (by simp [Op.operands]), h1, h2]
  | fieldAddr t x f => simp only [aop, h x (by simp [Op.operands])]
  | field t x f => simp only [aop, h x (by simp [Op.operands])]
  | indexAddr t x i => simp only [aop, h x (by simp [Op.operands]), h i (by simp [Op.operands])]
  | index t x i => simp only [aop, h x (by simp [Op.operands]), h i (by simp [Op.operands])]
  | extract x i => simp only [aop, h x (by simp [Op.operands])]
  | call c =>
    obtain ⟨callee, args, argTypes⟩ := c
    have ha : ∀ x ∈ args.toList, r x = r' x := fun x hx => h x (by
      simp only [Op.operands, Call.operands, Array.toList_append]
      exact List.mem_append.2 (.inr hx))
    cases callee with
    | builtin b =>
      simp only [aop]
      split
      · rename_i x t he _
        rw [ha x (by rw [he]; simp)]
      · rename_i x y t u he _
        rw [ha x (by rw [he]; simp), ha y (by rw [he]; simp)]
      · rename_i x y t u he _
        rw [ha x (by rw [he]; simp), ha y (by rw [he]; simp)]
      · rename_i x l he
        rw [ha x (by rw [he]; simp), map_congr' (f := r) (g := r') (l := l) fun y hy => ha y (by rw [he]; simp [hy])]
      · rename_i x l he
        rw [ha x (by rw [he]; simp), map_congr' (f := r) (g := r') (l := l) fun y hy => ha y (by rw [he]; simp [hy])]
      · rfl
    | invoke x m => rfl
    | value f =>
      have hf : r f = r' f := h f (by simp [Op.operands, Call.operands])
      simp only [aop, hf, map_congr' ha]
  | _ => rfl

theorem changes_touches {E : Env} {op : Op} (h : changes E op = true) : touches E op = true := by
  cases op with
  | call c =>
    obtain ⟨callee, args, argTypes⟩ := c
    cases callee with
    | builtin b => cases b <;> first | rfl | cases h
    | invoke x m => rfl
    | value f =>
      cases f with
      | func g =>
        simp only [changes] at h
        simp only [touches]
        split
        · rename_i s hs
          rw [hs] at h
          have h' : s.alias = true := h
          rw [h', Bool.or_true]
        · rfl
      | _ => rfl
  | convert s d x => exact h
  | buildSlice t n ps => exact h
  | _ => first | rfl | cases h

/-! ### The order -/
theorem fold_bit (acc : List Nat) (j : Nat) : ∀ (l : List Edge) (s : Nat), (l.foldl (fun s e => bif Region.binds .any e then s ||| 2 ^ e.on ||| acc.getD e.on 0 else s) s).testBit j = true →
    s.testBit j = true ∨ ∃ e ∈ l, Region.binds .any e = true ∧ (e.on = j ∨ (acc.getD e.on 0).testBit j = true)
  | [], s, h => .inl h
  | e :: l, s, h => by
    rw [List.foldl_cons] at h
    rcases fold_bit acc j l _ h with h | ⟨e', he', h1, h2⟩
    · cases hb : Region.binds .any e with
      | false =>
        rw [hb] at h
        exact .inl h
      | true =>
        rw [hb] at h
        simp only [cond_true, Nat.testBit_or, Bool.or_eq_true] at h
        rcases h with (h | h) | h
        · exact .inl h
        · refine .inr ⟨e, by simp, hb, .inl ?_⟩
          rw [Nat.testBit_two_pow] at h
          simpa using h
        · exact .inr ⟨e, by simp, hb, .inr h⟩
    · exact .inr ⟨e', by simp [he'], h1, h2⟩

theorem masks_spec : ∀ (l : List Oper) (acc : List Nat) (done : List Oper), done.length = acc.length →
    (∀ i j, (acc.getD i 0).testBit j = true → ∃ o, done[i]? = some o ∧ ∃ e ∈ o.after.toList, Region.binds .any e = true ∧ (e.on = j ∨ (acc.getD e.on 0).testBit j = true)) →
    ∀ i j, ((masks l acc).getD i 0).testBit j = true → ∃ o, (done ++ l)[i]? = some o ∧ ∃ e ∈ o.after.toList, Region.binds .any e = true ∧ (e.on = j ∨ ((masks l acc).getD e.on 0).testBit j = true)
  | [], acc, done, _, h => by simpa [masks] using h
  | o :: l, acc, done, hl, h => by
    have h' := masks_spec l (acc ++ [maskOf acc o]) (done ++ [o]) (by simp [hl]) (fun i j hij => ?_)
    · simpa [masks, List.append_assoc] using h'
    · have hget : ∀ d b, (acc.getD d 0).testBit b = true → ((acc ++ [maskOf acc o]).getD d 0).testBit b = true := fun d b hb => by
        by_cases hd : d < acc.length
        · rw [List.getD_eq_getElem?_getD, List.getElem?_append_left hd, ← List.getD_eq_getElem?_getD]
          exact hb
        · rw [List.getD_eq_getElem?_getD, List.getElem?_eq_none (by omega)] at hb
          simp at hb
      by_cases hi : i < acc.length
      · rw [List.getD_eq_getElem?_getD, List.getElem?_append_left hi, ← List.getD_eq_getElem?_getD] at hij
        obtain ⟨o', h1, e, h2, h3, h4⟩ := h i j hij
        exact ⟨o', by rw [List.getElem?_append_left (by omega)]; exact h1, e, h2, h3, h4.imp id (hget _ _)⟩
      · by_cases hi2 : i = acc.length
        · subst hi2
          rw [List.getD_eq_getElem?_getD, List.getElem?_append_right (Nat.le_refl _), Nat.sub_self] at hij
          simp only [List.getElem?_cons_zero, Option.getD_some] at hij
          rcases fold_bit acc j _ _ hij with h0 | ⟨e, h2, h3, h4⟩
          · simp at h0
          · exact ⟨o, by rw [← hl]; simp, e, h2, h3, h4.imp id (hget _ _)⟩
        · rw [List.getD_eq_getElem?_getD, List.getElem?_eq_none (by simp; omega)] at hij
          simp at hij

theorem mask_spec {ops : Array Oper} {i j : Nat} (h : (mask ops i).testBit j = true) : ∃ o, ops[i]? = some o ∧ ∃ e ∈ o.after.toList, Region.binds .any e = true ∧ (e.on = j ∨ (mask ops e.on).testBit j = true) := by
  obtain ⟨o, h1, h2⟩ := masks_spec ops.toList [] [] rfl (fun i j h => by simp at h) i j h
  exact ⟨o, by simpa using h1, h2⟩

structure DrawOk (E : Env) (ops : Array Oper) : Prop where
  lower : ∀ (j : Nat) o, ops[j]? = some o → ∀ e ∈ o.after.toList, Region.binds .any e = true → e.on < j
  apart : ∀ (i j : Nat) x y, i < j → ops[i]? = some x → ops[j]? = some y → (mask ops j).testBit i = true ∨ apartB E ops i j x y = true

theorem drawOk_of {E : Env} {ops : Array Oper} (h : drawB E ops = true) : DrawOk E ops := by
  unfold drawB at h
  rw [List.all_eq_true] at h
  have key : ∀ (j : Nat) y, ops[j]? = some y → (y.after.all (fun e => !Region.binds .any e || Nat.blt e.on j) && (List.range j).all fun i => ((masks ops.toList []).getD j 0).testBit i || match ops[i]? with
      | some x => apartB E ops i j x y
      | none => false) = true := fun j y hy => by
    have hj : j < ops.size := (Array.getElem?_eq_some_iff.1 hy).1
    have := h j (List.mem_range.2 hj)
    rw [hy] at this
    exact this
  refine ⟨fun j o ho e he hb => ?_, fun i j x y hij hx hy => ?_⟩
  · have := key j o ho
    rw [Bool.and_eq_true] at this
    have h1 := this.1
    rw [Array.all_eq_true'] at h1
    have h2 := h1 e (by simpa using he)
    rw [hb] at h2
    simpa [Nat.blt_eq] using h2
  · have := key j y hy
    rw [Bool.and_eq_true] at this
    have h1 := this.2
    rw [List.all_eq_true] at h1
    have h2 := h1 i (List.mem_range.2 hij)
    rw [hx, Bool.or_eq_true] at h2
    exact h2

theorem mask_lt {E : Env} {ops : Array Oper} (h : DrawOk E ops) : ∀ (i : Nat) {j : Nat}, (mask ops i).testBit j = true → j < i := by
  intro i
  induction i using Nat.strongRecOn with
  | _ i ih =>
    intro j hj
    obtain ⟨o, h1, e, h2, h3, h4⟩ := mask_spec hj
    have hlt := h.lower i o h1 e h2 h3
    rcases h4 with rfl | h4
    · exact hlt
    · exact Nat.lt_trans (ih _ hlt h4) hlt

end Go.Proofs.Ytmjbjlhjpdebjaa.Mini
