/- A small machine over plain data: each operation of the machine does what it is told to do. First part: numbers, fields, loads. -/
import Derived.Test.YtmjbjlhjpdebjaaXM4
namespace Go.Proofs.Ytmjbjlhjpdebjaa.Mini
open Go Go.RowKit

def Gives (P : Program) (s : Sem Value) (w0 : Start) (M0 av : Nat → Prop) (fresh : Nat) (C : Ctx) (out : Out) : Prop :=
  ∃ v C', s.run P C.w = .ok v C'.w ∧ C'.tab = chg C.tab out.ch ∧ Ext C C' ∧ TabOk w0 M0 (fun i => av i ∧ ¬ (fresh ≤ i ∧ i < fresh + room)) C' ∧ Rel C' v out.v

def Sub (a b : Tab) : Prop := ∀ id x, a id = some x → b id = some x

section
variable {P : Program} {s : Sem Value} {w0 : Start} {M0 av : Nat → Prop} {fresh : Nat} {C : Ctx} {out : Out}

theorem gives_pure {v : Value} {x : AV} (t : TabOk w0 M0 av C) (hs : s.run P C.w = .ok v C.w) (hr : Rel C v x) : Gives P s w0 M0 av fresh C ⟨x, []⟩ :=
  ⟨v, C, hs, rfl, Ext.refl C, t.weak fun _ h => h.1, hr⟩

theorem ok_res {x : AV} {e : Eff} (h : ok x = some e) (k : e.Res out) : out = ⟨x, []⟩ := by
  unfold ok at h
  cases h
  cases k
  rfl

theorem out_res {o : Out} {e : Eff} (h : some (Eff.out o) = some e) (k : e.Res out) : out = o := by
  cases h
  cases k
  rfl

theorem wh_res {c : Prop} {d : Gd c} {e : Eff} (k : (wh c e).Res out) : c ∧ e.Res out := by
  unfold wh at k
  cases k with
  | guard h k => exact ⟨d.ok.1 h, k⟩

/-! ### Numbers -/
theorem wr_eq (k : IntKind) (n : Int) : wr k n = k.wrap n := by
  cases k <;> simp [wr, IntKind.wrap, IntKind.bits, IntKind.signed, wrap64, wrap32] <;> split <;> omega

theorem p2_eq (n : Nat) : p2 n = (2 : Int) ^ n := by
  unfold p2
  rw [Int.ofNat_eq_natCast]
  exact Int.natCast_pow 2 n

theorem p2_pos (n : Nat) : 0 < p2 n := by
  unfold p2
  have := Nat.pow_pos (n := n) (show 0 < 2 by decide)
  rw [Int.ofNat_eq_natCast]
  omega

theorem eqGuard_int (op : BinOp) (t : TypeId) (x y : Operand) (k k' : IntKind) (a b : Int) (w : World) : (eqGuard op t x y (.int k a) (.int k' b)).run P w = .ok () w := by
  unfold eqGuard
  cases op <;> rfl

theorem binI_gives (t : TabOk w0 M0 av C) {op : BinOp} {k k' : IntKind} {x y : Int} {e : Eff} (h : binI op k x k' y = some e) (hr : e.Res out) (ty : TypeId) (p q : Operand) :
    Gives P (do eqGuard op ty p q (.int k x) (.int k' y); binOp op ty (.int k x) (.int k' y)) w0 M0 av fresh C out := by
  have hg : ∀ {s : Sem Value} {v : Value}, s.run P C.w = .ok v C.w → (do eqGuard op ty p q (.int k x) (.int k' y); s : Sem Value).run P C.w = .ok v C.w := by
    intro s v hs
    rw [Sem.run_bind, eqGuard_int]
    exact hs
  cases op
  case shl =>
    cases h
    obtain ⟨h0, hr⟩ := wh_res hr
    cases hr
    refine gives_pure t (hg ?_) .int
    simp only [binOp, Op.shift]
    rw [if_neg (by omega)]
    simp [wr_eq, p2_eq]
  case shr =>
    cases h
    obtain ⟨h0, hr⟩ := wh_res hr
    cases hr
    refine gives_pure t (hg ?_) .int
    simp only [binOp, Op.shift]
    rw [if_neg (by omega)]
    simp only [Sem.run_pure]
    rw [Int.fdiv_eq_ediv_of_nonneg _ (by rw [← p2_eq]; exact Int.le_of_lt (p2_pos _)), p2_eq]
  all_goals
    simp only [binI, leI_eq, ltI_eq, eqI_eq] at h
    split at h
    · rename_i hk
      subst hk
      have hk' : ¬ (k ≠ k) := fun h => h rfl
      first
        | (obtain rfl := ok_res h hr
           refine gives_pure t (hg ?_) (by constructor)
           simp only [binOp, if_neg hk', Op.intArith, Op.intBits, Op.intCmp, bits, wr_eq, Sem.run_pure]
           try rfl)
        | (cases h
           obtain ⟨h0, hr⟩ := wh_res hr
           cases hr
           refine gives_pure t (hg ?_) .int
           simp only [binOp, if_neg hk', Op.intDiv, if_neg h0, wr_eq, Sem.run_pure])
    · cases h

theorem info_of {t : TypeId} {d : TypeDesc} (h : P.underlying t = some d) : ∃ i, P.info? t = some i := by
  unfold Program.underlying at h
  cases e : P.info? t with
  | none => rw [e] at h; cases h
  | some i => exact ⟨i, rfl⟩

theorem cellsOf_eq {t : TypeId} {i : TypeInfo} (h : P.info? t = some i) : P.cellsOf t = i.size := by
  unfold Program.cellsOf
  rw [h]
  rfl

theorem run_sizeOf {t : TypeId} {i : TypeInfo} (h : P.info? t = some i) (w : World) : (sizeOf t).run P w = .ok i.size w := by
  unfold sizeOf typeInfo
  simp [h]

theorem run_isAgg {t : TypeId} {a : Bool} {n : Nat} (h : shapeOf P t = some (a, n)) (w : World) : (isAgg t).run P w = .ok a w := by
  unfold shapeOf at h
  unfold isAgg
  split at h
  all_goals
    first
      | (rename_i hu hi
         cases h
         rw [Sem.run_bind, run_underlying hu]
         simp)
      | (rename_i d i hu hi h1 h2
         cases h
         rw [Sem.run_bind, run_underlying h1]
         cases d <;> simp_all)
      | cases h

theorem shape_info {t : TypeId} {a : Bool} {n : Nat} (h : shapeOf P t = some (a, n)) : ∃ i, P.info? t = some i ∧ i.size = n := by
  unfold shapeOf at h
  split at h
  all_goals
    first
      | (rename_i hi
         cases h
         exact ⟨_, hi, rfl⟩)
      | cases h

theorem run_equal {ty : TypeId} {v u : Value} {w : World} {b : Bool} (h : (Op.equalIn (9999 + 1) ty v u).run P w = .ok b w) : (Op.equal ty v u).run P w = .ok b w := h

theorem equal_bool {ty : TypeId} (hu : P.underlying ty = some .bool) (a b : Bool) (w : World) : (Op.equal ty (.bool a) (.bool b)).run P w = .ok (a == b) w := by
  refine run_equal ?_
  rw [Op.equalIn, Sem.run_bind, run_underlying hu]
  rfl

theorem equal_nil {ty e : TypeId} (hu : P.underlying ty = some (.pointer e)) (w : World) : (Op.equal ty (.pointer none) (.pointer none)).run P w = .ok true w := by
  refine run_equal ?_
  rw [Op.equalIn, Sem.run_bind, run_underlying hu]
  rfl

theorem equal_some {ty e : TypeId} (hu : P.underlying ty = some (.pointer e)) (a : Addr) (w : World) : (Op.equal ty (.pointer (some a)) (.pointer none)).run P w = .ok false w := by
  refine run_equal ?_
  rw [Op.equalIn, Sem.run_bind, run_underlying hu]
  rfl

theorem binV_gives (t : TabOk w0 M0 av C) {op : BinOp} {x y : AV} {v u : Value} {e : Eff} {ty : TypeId} (h : binV P ty op x y = some e) (hr : e.Res out) (hx : Rel C v x) (hy : Rel C u y)
    (p q : Operand) : Gives P (do eqGuard op ty p q v u; binOp op ty v u) w0 M0 av fresh C out := by
  unfold binV at h
  split at h
  · cases hx
    cases hy
    exact binI_gives t h hr ty p q
  · cases hx
    cases hy
    split at h
    · rename_i hu
      split at h
      · obtain rfl := ok_res h hr
        refine gives_pure t ?_ .bool
        simp [eqGuard, binOp, equal_bool hu]
      · obtain rfl := ok_res h hr
        refine gives_pure t ?_ .bool
        simp [eqGuard, binOp, equal_bool hu]
      · cases h
    · cases h
  · cases hx
    cases hy
    split at h
    · obtain rfl := ok_res h hr
      refine gives_pure t ?_ .bool
      simp [eqGuard, binOp, Op.stringOp]
    · obtain rfl := ok_res h hr
      refine gives_pure t ?_ .bool
      simp [eqGuard, binOp, Op.stringOp]
    · cases h
  · cases hx
    cases hy
    split at h
    · rename_i hu
      split at h
      · obtain rfl := ok_res h hr
        refine gives_pure t ?_ .bool
        simp [eqGuard, binOp, equal_nil hu]
      · obtain rfl := ok_res h hr
        refine gives_pure t ?_ .bool
        simp [eqGuard, binOp, equal_nil hu]
      · cases h
    · cases h
  · cases hx with
    | ptr hx =>
      obtain ⟨_, a, rfl, _⟩ := hx
      cases hy
      split at h
      · rename_i hu
        split at h
        · obtain rfl := ok_res h hr
          refine gives_pure t ?_ .bool
          simp [eqGuard, binOp, equal_some hu]
        · obtain rfl := ok_res h hr
          refine gives_pure t ?_ .bool
          simp [eqGuard, binOp, equal_some hu]
        · cases h
      · cases h
  · cases h

theorem unV_gives (t : TabOk w0 M0 av C) {op : UnOp} {x : AV} {v : Value} {e : Eff} (h : unV op x = some e) (hr : e.Res out) (hx : Rel C v x) :
    Gives P (Op.unary op v) w0 M0 av fresh C out := by
  unfold unV at h
  split at h
  · cases hx
    obtain rfl := ok_res h hr
    exact gives_pure t (by simp [Op.unary, Op.intArith, wr_eq]) .int
  · cases hx
    obtain rfl := ok_res h hr
    exact gives_pure t (by simp [Op.unary, Op.intBits, bits]) .int
  · cases hx
    obtain rfl := ok_res h hr
    exact gives_pure t (by simp [Op.unary]) .bool
  · cases h

/-! ### Parts -/
theorem take_rel {a : Bool} {n : Nat} {l : List AV} {x : AV} (h : takeV a n l = some x) {cs : List Value} (hc : RelL C cs l) :
    ∃ v, (a = true → n ≤ cs.length ∧ v = .agg (cs.take n).toArray) ∧ (a = false → cs[0]? = some v) ∧ Rel C v x := by
  unfold takeV at h
  cases a with
  | true =>
    simp only [cond_true] at h
    cases hn : Nat.ble n l.length with
    | false => rw [hn] at h; cases h
    | true =>
      rw [hn] at h
      cases h
      refine ⟨.agg (cs.take n).toArray, fun _ => ⟨by rw [hc.length]; exact Nat.le_of_ble_eq_true hn, rfl⟩, fun h => (by cases h), .agg ?_⟩
      simpa using hc.take n
  | false =>
    simp only [cond_false] at h
    cases hc with
    | nil => cases h
    | cons hv _ =>
      cases h
      exact ⟨_, fun h => (by cases h), fun _ => rfl, hv⟩

theorem fieldOf_eq {t f off ft : Nat} (h : fieldOf P t f = some (off, ft)) : ∃ fs x, P.underlying t = some (.struct fs) ∧ fs[f]? = some x ∧ x.offset = off ∧ x.type = ft := by
  unfold fieldOf at h
  split at h
  · rename_i fs hu
    split at h
    · rename_i x hx
      cases h
      exact ⟨fs, x, hu, hx, rfl, rfl⟩
    · cases h
  · cases h

theorem run_part {ty : TypeId} {a : Bool} {n off : Nat} {cs : Array Value} {v : Value} (hs : shapeOf P ty = some (a, n)) (w : World)
    (h1 : a = true → n ≤ (cs.toList.drop off).length ∧ v = .agg ((cs.toList.drop off).take n).toArray) (h2 : a = false → (cs.toList.drop off)[0]? = some v) : (part ty cs off).run P w = .ok v w := by
  obtain ⟨i, hi, rfl⟩ := shape_info hs
  unfold part
  rw [Sem.run_bind, run_isAgg hs]
  cases a with
  | true =>
    obtain ⟨_, rfl⟩ := h1 rfl
    simp only [Result.andThen_ok, if_true, Sem.run_bind, run_sizeOf hi, Sem.run_pure]
    congr 2
    apply Array.ext'
    simp [Nat.add_sub_cancel_left]
  | false =>
    have := h2 rfl
    rw [List.getElem?_drop, Nat.add_zero, Array.getElem?_toList] at this
    simp [this]

theorem fieldV_gives (t : TabOk w0 M0 av C) {ty f : Nat} {x : AV} {v : Value} {e : Eff} (h : fieldV P ty x f = some e) (hr : e.Res out) (hx : Rel C v x) :
    Gives P (Instr.field ty v f) w0 M0 av fresh C out := by
  unfold fieldV at h
  split at h
  · rename_i off ft l hf
    obtain ⟨fs, fx, hu, hfx, rfl, rfl⟩ := fieldOf_eq hf
    unfold takeT at h
    cases hs : shapeOf P fx.type with
    | none => rw [hs] at h; cases h
    | some an =>
      obtain ⟨a, n⟩ := an
      rw [hs] at h
      simp only at h
      cases hx with
      | agg hx =>
        split at h
        · rename_i y hy
          obtain ⟨u, h1, h2, h3⟩ := take_rel hy (hx.drop fx.offset)
          obtain rfl := ok_res h hr
          refine gives_pure t ?_ h3
          simp [Instr.field, run_underlying hu, hfx, asAgg, run_part hs C.w h1 h2]
        · cases h
  · cases h

end
end Go.Proofs.Ytmjbjlhjpdebjaa.Mini
