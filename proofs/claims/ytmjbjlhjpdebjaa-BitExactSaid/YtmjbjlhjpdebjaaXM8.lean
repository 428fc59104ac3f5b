/- A small machine over plain data: each operation of the machine does what it is told to do. Fourth part: cuts, literals, rows that are made. -/
import Derived.Test.YtmjbjlhjpdebjaaXM7
namespace Go.Proofs.Ytmjbjlhjpdebjaa.Mini
open Go Go.RowKit
section
variable {P : Program} {s : Sem Value} {w0 : Start} {M0 av : Nat → Prop} {fresh : Nat} {C : Ctx} {out : Out}

theorem run_fieldAt {ty f : Nat} {fs : Array Field} {x : Field} {i : TypeInfo} {a : Addr} (hu : P.underlying ty = some (.struct fs)) (hf : fs[f]? = some x) (hi : P.info? x.type = some i) (h0 : 0 < i.size) (w : World) :
    (Instr.fieldAt ty (.pointer (some a)) f).run P w = .ok (.pointer (some (a.add x.offset))) w := by
  have : i.size ≠ 0 := by omega
  simp [Instr.fieldAt, run_underlying hu, hf, Instr.sureAddr, fieldPlace, run_sizeOf hi, this]

theorem fieldAddrV_gives (t : TabOk w0 M0 av C) {ty f : Nat} {x : AV} {v : Value} {e : Eff} (h : fieldAddrV P ty x f = some e) (hr : e.Res out) (hx : Rel C v x) :
    Gives P (Instr.fieldAt ty v f) w0 M0 av fresh C out := by
  unfold fieldAddrV at h
  split at h
  · rename_i off ft hf
    obtain ⟨fs, fx, hu, hfx, rfl, rfl⟩ := fieldOf_eq hf
    cases hb : Nat.blt 0 (P.cellsOf fx.type) with
    | false => rw [hb] at h; cases h
    | true =>
      rw [hb] at h
      have h0 : 0 < P.cellsOf fx.type := by simpa [Nat.blt_eq] using hb
      obtain ⟨i, hi⟩ : ∃ i, P.info? fx.type = some i := by
        cases hq : P.info? fx.type with
        | none => rw [show P.cellsOf fx.type = 0 by simp [Program.cellsOf, hq]] at h0; omega
        | some i => exact ⟨i, rfl⟩
      rw [cellsOf_eq hi] at h0
      simp only [cond_true] at h
      split at h
      · rename_i id o
        obtain rfl := ok_res h hr
        cases hx with
        | ptr hx =>
          obtain ⟨hn, a, rfl, hbl⟩ := hx
          refine gives_pure t (run_fieldAt hu hfx hi h0 C.w) (.ptr ⟨hn, _, rfl, fun blk e => ?_⟩)
          obtain ⟨T, l, p, h1, h2, h3, rfl⟩ := hbl blk e
          exact ⟨T, l, p, h1, h2, h3, add_off _ _ _⟩
      · rename_i id j o
        obtain rfl := ok_res h hr
        cases hx with
        | eptr hx =>
          obtain ⟨hn, a, rfl, hbl⟩ := hx
          refine gives_pure t (run_fieldAt hu hfx hi h0 C.w) (.eptr ⟨hn, _, rfl, fun blk e => ?_⟩)
          obtain ⟨k, T, xs, p, h1, h2, h3, rfl⟩ := hbl blk e
          exact ⟨k, T, xs, p, h1, h2, h3, by rw [add_off, Nat.add_assoc (p.o + j * k.sz)]⟩
      · rename_i l
        obtain rfl := ok_res h hr
        cases hx with
        | iptr hs ho hh hl =>
          rename_i a cs T fr
          refine gives_pure t (run_fieldAt hu hfx hi h0 C.w) ?_
          have ha : a.add fx.offset = ⟨a.block, a.off + fx.offset, none⟩ := by rw [addr_eq hs, add_off]
          rw [ha]
          refine .iptr rfl ho hh ?_
          have := hl.drop fx.offset
          rw [drop_take_drop, ← List.length_drop] at this
          exact this
      · cases h
  · cases h

theorem lenV_gives (t : TabOk w0 M0 av C) {vw : Tab} (hsub : Sub vw C.tab) {ty r : TypeId} {x : AV} {v : Value} {e : Eff} (h : lenV P vw ty x = some e) (hr : e.Res out) (hx : Rel C v x) :
    Gives P (Builtin.len_ #[ty] r #[v]) w0 M0 av fresh C out := by
  have run : ∀ {e' : TypeId} {A : Option Addr} {n c : Nat}, P.underlying ty = some (.slice e') → (Builtin.len_ #[ty] r #[.slice A n c]).run P C.w = .ok (.int .i64 (n : Int)) C.w := by
    intro e' A n c hu
    simp [Builtin.len_, run_underlying hu, goInt]
  unfold lenV at h
  split at h
  · rename_i e' hu
    split at h
    · obtain rfl := ok_res h hr
      cases hx with
      | row hx =>
        obtain ⟨A, c, hv, _⟩ := hx
        cases hv
        exact gives_pure t (run hu) .int
    · cases hx with
      | own hx =>
        obtain ⟨_, A, n, c, rfl, hb⟩ := hx
        split at h
        · rename_i k T xs hv
          obtain rfl := ok_res h hr
          obtain ⟨k', T', ys, hrl, hn, _⟩ := hb _ (hsub _ _ hv)
          obtain ⟨rfl, rfl, hq⟩ := RowLike.uniq (.inl ⟨_, rfl⟩) hrl
          obtain rfl := eq_of_heq hq
          obtain rfl : n = xs.length := hn
          exact gives_pure t (run hu) .int
        · rename_i k T xs hv
          obtain rfl := ok_res h hr
          obtain ⟨k', T', ys, hrl, hn, _⟩ := hb _ (hsub _ _ hv)
          obtain ⟨rfl, rfl, hq⟩ := RowLike.uniq (.inr rfl) hrl
          obtain rfl := eq_of_heq hq
          obtain rfl : n = xs.length := hn
          exact gives_pure t (run hu) .int
        · cases h
    · cases hx with
      | sl hx =>
        obtain ⟨_, A, n, c, rfl, hb⟩ := hx
        split at h
        · rename_i blk hv
          cases h2 : blk.isRow with
          | false => rw [h2] at h; cases h
          | true =>
            rw [h2] at h
            obtain rfl := ok_res h hr
            obtain ⟨k', T', ys, hrl, hn, _⟩ := hb _ (hsub _ _ hv)
            obtain rfl := hn
            exact gives_pure t (run hu) .int
        · cases h
    · obtain rfl := ok_res h hr
      cases hx
      exact gives_pure t (run hu) .int
    · cases h
  · rename_i hu
    split at h
    · obtain rfl := ok_res h hr
      cases hx
      exact gives_pure t (by simp [Builtin.len_, run_underlying hu, goInt]) .int
    · cases h
  · cases h

/-! ### Cuts -/
theorem asI_eq {lo : Option AV} {n : Option Int} (h : asI lo = some n) : (lo = none ∧ n = none) ∨ ∃ k m, lo = some (.int k m) ∧ n = some m := by
  unfold asI at h
  split at h
  · cases h
    exact .inl ⟨rfl, rfl⟩
  · cases h
    exact .inr ⟨_, _, rfl, rfl⟩
  · cases h

/-- A bound that was told, and the bound that stands in the program. -/
inductive BndRel : Option Value → Option Int → Prop where
  | none : BndRel none none
  | some {k : IntKind} {n : Int} : BndRel (some (.int k n)) (some n)

theorem bnd_rel {lo : Option AV} {n : Option Int} (h : asI lo = some n) {u : Option Value} (hu : (lo = none ∧ u = none) ∨ ∃ x v, lo = some x ∧ u = some v ∧ Rel C v x) : BndRel u n := by
  rcases asI_eq h with ⟨rfl, rfl⟩ | ⟨k, m, rfl, rfl⟩
  · rcases hu with ⟨_, rfl⟩ | ⟨x, v, h1, _⟩
    · exact .none
    · cases h1
  · rcases hu with ⟨h1, _⟩ | ⟨x, v, h1, rfl, hr⟩
    · cases h1
    · cases h1
      cases hr
      exact .some

theorem run_bound {k : IntKind} {n : Int} {y : Nat} {code : BoundsCode} (h0 : 0 ≤ n) (h1 : n ≤ y) (w : World) : (Instr.sliceBound (.int k n) y code).run P w = .ok n.toNat w := by
  have hc : 0 ≤ n ∧ n ≤ (y : Int) := ⟨h0, h1⟩
  simp [Instr.sliceBound, asIntOf, hc]

/-- The cut's bounds: low, high, capacity. -/
theorem run_bounds {lo hi : Option Value} {l h : Option Int} (hl : BndRel lo l) (hh : BndRel hi h) {isS : Bool} {n c : Nat} (hnc : n ≤ c) {e : Eff} (hr : (bounds n l h e).Res out) (w : World) :
    (Instr.sliceBounds isS n c lo hi none).run P w = .ok ((loOf l).toNat, (loOf l).toNat + cutLen n l h, c) w ∧ (loOf l).toNat + cutLen n l h ≤ n ∧ e.Res out := by
  cases hl with
  | none =>
    cases hh with
    | none =>
      refine ⟨by simp [Instr.sliceBounds, loOf, cutLen], by simp [loOf, cutLen], hr⟩
    | some =>
      rename_i k m
      obtain ⟨h0, hr⟩ := wh_res hr
      obtain ⟨h1, hr⟩ := wh_res hr
      refine ⟨?_, by simp [loOf, cutLen]; omega, hr⟩
      simp [Instr.sliceBounds, loOf, cutLen, run_bound h0 (show m ≤ (c : Int) by omega)]
  | some =>
    rename_i k m
    cases hh with
    | none =>
      obtain ⟨h0, hr⟩ := wh_res hr
      obtain ⟨h1, hr⟩ := wh_res hr
      refine ⟨?_, by simp [loOf, cutLen]; omega, hr⟩
      simp [Instr.sliceBounds, loOf, cutLen, run_bound h0 h1]
      omega
    | some =>
      rename_i k' m'
      obtain ⟨h0, hr⟩ := wh_res hr
      obtain ⟨h1, hr⟩ := wh_res hr
      obtain ⟨h2, hr⟩ := wh_res hr
      obtain ⟨h3, hr⟩ := wh_res hr
      refine ⟨?_, by simp [loOf, cutLen]; omega, hr⟩
      simp [Instr.sliceBounds, loOf, cutLen, run_bound h0 (show m' ≤ (c : Int) by omega), run_bound h2 (show m ≤ (m'.toNat : Int) by omega)]
      omega

theorem cut_eq {α : Type} (xs : List α) {l h : Option Int} {n : Nat} (hn : n = xs.length) (hle : (loOf l).toNat + cutLen n l h ≤ n) : cut xs l h = (xs.drop (loOf l).toNat).take (cutLen n l h) := by
  subst hn
  cases l with
  | none =>
    cases h with
    | none => simp [cut, loOf, cutLen]
    | some h => simp [cut, loOf, cutLen]
  | some l =>
    cases h with
    | none =>
      simp only [cut, loOf, cutLen]
      rw [List.take_of_length_le (by rw [List.length_drop]; exact Nat.le_refl _)]
    | some h =>
      simp only [cut, loOf, cutLen, List.drop_take]

theorem run_slice {ty e' : TypeId} (hu : P.underlying ty = some (.slice e')) {i : TypeInfo} (hi : P.info? e' = some i) {A : Option Addr} {n c : Nat} {lo hi' : Option Value} {a b : Nat} {w : World}
    (hb : (Instr.sliceBounds true n c lo hi' none).run P w = .ok (a, b, c) w) :
    (Instr.sliceAt ty (.slice A n c) lo hi' none).run P w = .ok (.slice (if c = a then A else A.map (·.add (a * i.size))) (b - a) (c - a)) w := by
  simp [Instr.sliceAt, Instr.slice, run_underlying hu, hb, run_sizeOf hi]

theorem SlAt.cut {id sz off : Nat} {A : Option Addr} {c a : Nat} (h : SlAt C id sz off A c) (ha : a ≤ c) : SlAt C id sz (a + off) (if c = a then A else A.map (·.add (a * sz))) (c - a) := by
  rcases h with ⟨h1, h2⟩ | ⟨p, hp, hA, cs, T, fr, hh, hs⟩
  · exact .inl ⟨h1, by omega⟩
  · refine .inr ⟨p, hp, fun h0 => ?_, cs, T, fr, hh, ?_⟩
    · rw [if_neg (by omega), hA (by omega)]
      simp only [Option.map_some, add_off]
      rw [Nat.add_mul]
      congr 2
      omega
    · rw [show a + off + (c - a) = off + c by omega]
      exact hs

theorem slice3V_gives (t : TabOk w0 M0 av C) {ty : TypeId} {x lo hi m : AV} {v ul uh um : Value} {e : Eff} (h : slice3V P ty x lo hi m = some e) (hr : e.Res out) (hx : Rel C v x) (hlo : Rel C ul lo) (hhi : Rel C uh hi) (hm : Rel C um m) :
    Gives P (Instr.sliceAt ty v (some ul) (some uh) (some um)) w0 M0 av fresh C out := by
  unfold slice3V at h
  split at h
  · rename_i e' kl l kh hh km mm hu
    cases hlo
    cases hhi
    cases hm
    split at h
    · rename_i ke k xs hk
      obtain ⟨inf, hi, hsz⟩ := kd_info hk
      split at h
      · rename_i hke
        subst hke
        cases h
        obtain ⟨g0, hr⟩ := wh_res hr
        obtain ⟨g1, hr⟩ := wh_res hr
        obtain ⟨g2, hr⟩ := wh_res hr
        obtain ⟨g3, hr⟩ := wh_res hr
        obtain ⟨g4, hr⟩ := wh_res hr
        obtain ⟨g5, hr⟩ := wh_res hr
        cases hr
        cases hx with
        | row hx =>
          obtain ⟨A, c, hv, hlc, hR⟩ := hx
          cases hv
          have hb : (Instr.sliceBounds true xs.length c (some (.int kl l)) (some (.int kh hh)) (some (.int km mm))).run P C.w = .ok (l.toNat, hh.toNat, mm.toNat) C.w := by
            simp [Instr.sliceBounds, run_bound g0 (show mm ≤ (c : Int) by omega), run_bound g2 (show hh ≤ (mm.toNat : Int) by omega), run_bound g4 (show l ≤ (hh.toNat : Int) by omega)]
          have hrun : (Instr.sliceAt ty (.slice A xs.length c) (some (.int kl l)) (some (.int kh hh)) (some (.int km mm))).run P C.w = .ok (.slice (if mm.toNat = l.toNat then A else A.map (·.add (l.toNat * inf.size))) (hh.toNat - l.toNat) (mm.toNat - l.toNat)) C.w := by
            simp [Instr.sliceAt, Instr.slice, run_underlying hu, hb, run_sizeOf hi]
          refine gives_pure t hrun (.row ?_)
          have hlen : ((xs.take hh.toNat).drop l.toNat).length = hh.toNat - l.toNat := by rw [List.length_drop, List.length_take]; omega
          show RepC C.w C.ok (.row ke) ((xs.take hh.toNat).drop l.toNat) _
          refine ⟨_, mm.toNat - l.toNat, by rw [hlen], by rw [hlen]; omega, fun h0 => ?_⟩
          rw [hlen] at h0
          obtain ⟨ad, rfl, hsp, hok, cs, T, fr, hh', hseg⟩ := hR (by omega)
          refine ⟨ad.add (l.toNat * inf.size), by rw [if_neg (by omega)]; rfl, ?_, ?_, cs, T, fr, ?_, fun j x hj => ?_⟩
          · rw [addr_eq hsp, add_off]
          · rw [addr_eq hsp, add_off]
            exact hok
          · rw [addr_eq hsp, add_off]
            exact hh'
          · rw [addr_eq hsp, add_off, hsz]
            have hjl : j < hh.toNat - l.toNat := by
              have := (List.getElem?_eq_some_iff.1 hj).1
              rwa [hlen] at this
            rw [List.getElem?_drop, List.getElem?_take, if_pos (by omega)] at hj
            obtain ⟨k1, k2⟩ := hseg _ _ hj
            have e1 : ad.off + l.toNat * ke.sz + j * ke.sz = ad.off + (l.toNat + j) * ke.sz := by rw [Nat.add_mul]; omega
            show ad.off + l.toNat * ke.sz + j * ke.sz + ke.sz ≤ _ ∧ _
            rw [e1]
            exact ⟨k1, k2⟩
      · cases h
    · cases h
  · cases h

theorem sliceV_gives (t : TabOk w0 M0 av C) {vw : Tab} (hsub : Sub vw C.tab) {ty : TypeId} {x : AV} {v : Value} {lo hi : Option AV} {ul uh : Option Value} {e : Eff} (h : sliceV P vw ty x lo hi = some e) (hr : e.Res out) (hx : Rel C v x)
    (hlo : (lo = none ∧ ul = none) ∨ ∃ x v, lo = some x ∧ ul = some v ∧ Rel C v x) (hhi : (hi = none ∧ uh = none) ∨ ∃ x v, hi = some x ∧ uh = some v ∧ Rel C v x) :
    Gives P (Instr.sliceAt ty v ul uh none) w0 M0 av fresh C out := by
  unfold sliceV at h
  split at h
  · rename_i e' l m hu h1 h2
    have bl := bnd_rel h1 hlo
    have bh := bnd_rel h2 hhi
    split at h
    · cases h
    rename_i ke hk
    obtain ⟨inf, hi, hsz⟩ := kd_info hk
    have key : ∀ {k : Kd} {T : TypeId} {xs : List (El k)} {id off : Nat} {len : Option Nat} {blk : Blk}, ke = k → C.tab id = some blk → RowLike blk k T xs → SlRel C v id off len →
        (bounds (len.getD xs.length) l m (.out ⟨.sl id ((loOf l).toNat + off) (cutLen (len.getD xs.length) l m), []⟩)).Res out → Gives P (Instr.sliceAt ty v ul uh none) w0 M0 av fresh C out := by
      intro k T xs id off len blk hke e1 hrl hs hr
      subst hke
      obtain ⟨hn0, A, n, c, rfl, hb⟩ := hs
      obtain ⟨k', T', ys, hr', hn, ho, hnc, hat⟩ := hb blk e1
      obtain ⟨rfl, rfl, hq⟩ := hrl.uniq hr'
      obtain rfl := eq_of_heq hq
      rw [← hn] at hr
      obtain ⟨hrun, hle, hr⟩ := run_bounds (P := P) (isS := true) bl bh hnc hr C.w
      cases hr
      refine gives_pure t (run_slice hu hi hrun) (.sl ⟨hn0, _, _, _, rfl, fun blk' e' => ?_⟩)
      rw [e1] at e'
      cases e'
      refine ⟨ke, T, xs, hrl, by simp, by omega, by omega, ?_⟩
      rw [hsz]
      exact hat.cut (by omega)
    split at h
    · rename_i k xs
      split at h
      · rename_i hke
        subst hke
        cases h
        cases hx with
        | row hx =>
          obtain ⟨A, c, hv, hlc, hR⟩ := hx
          cases hv
          obtain ⟨hrun, hle, hr⟩ := run_bounds (P := P) (isS := true) bl bh hlc hr C.w
          cases hr
          refine gives_pure t (run_slice hu hi hrun) (.row ?_)
          have hcut := cut_eq xs rfl hle
          rw [hcut]
          have hlen : ((xs.drop (loOf l).toNat).take (cutLen xs.length l m)).length = cutLen xs.length l m := by rw [List.length_take, List.length_drop]; omega
          refine ⟨_, c - (loOf l).toNat, by rw [hlen, Nat.add_sub_cancel_left], by rw [hlen]; omega, fun h0 => ?_⟩
          rw [hlen] at h0
          obtain ⟨ad, rfl, hsp, hok, cs, T, fr, hh, hseg⟩ := hR (by omega)
          refine ⟨ad.add ((loOf l).toNat * inf.size), by rw [if_neg (by omega)]; rfl, ?_, ?_, cs, T, fr, ?_, fun j x hj => ?_⟩
          · rw [addr_eq hsp, add_off]
          · rw [addr_eq hsp, add_off]
            exact hok
          · rw [addr_eq hsp, add_off]
            exact hh
          · rw [addr_eq hsp, add_off, hsz]
            have hjl : j < cutLen xs.length l m := by
              have := (List.getElem?_eq_some_iff.1 hj).1
              rwa [hlen] at this
            rw [List.getElem?_take, if_pos hjl, List.getElem?_drop] at hj
            obtain ⟨g1, g2⟩ := hseg _ _ hj
            have e1 : ad.off + (loOf l).toNat * ke.sz + j * ke.sz = ad.off + ((loOf l).toNat + j) * ke.sz := by rw [Nat.add_mul]; omega
            show ad.off + (loOf l).toNat * ke.sz + j * ke.sz + ke.sz ≤ _ ∧ _
            rw [e1]
            exact ⟨g1, g2⟩
      · cases h
    · rename_i id
      cases hx with
      | own hx =>
        split at h
        · rename_i hv
          split at h
          · rename_i hke
            exact key hke (hsub _ _ hv) (.inl ⟨_, rfl⟩) hx (by cases h; exact hr)
          · cases h
        · rename_i hv
          split at h
          · rename_i hke
            exact key hke (hsub _ _ hv) (.inr rfl) hx (by cases h; exact hr)
          · cases h
        · cases h
    · rename_i id off len
      cases hx with
      | sl hx =>
        split at h
        · rename_i hv
          split at h
          · rename_i hke
            exact key hke (hsub _ _ hv) (.inl ⟨_, rfl⟩) hx (by cases h; exact hr)
          · cases h
        · rename_i hv
          split at h
          · rename_i hke
            exact key hke (hsub _ _ hv) (.inr rfl) hx (by cases h; exact hr)
          · cases h
        · cases h
    · cases h
      cases hx
      obtain ⟨hrun, hle, hr⟩ := run_bounds (P := P) (isS := true) bl bh (Nat.le_refl 0) hr C.w
      cases hr
      refine gives_pure t (run_slice hu hi hrun) ?_
      rw [show (loOf l).toNat = 0 by omega, show cutLen 0 l m = 0 by omega]
      exact .nils
    · cases h
  · rename_i l m hu h1 h2
    have bl := bnd_rel h1 hlo
    have bh := bnd_rel h2 hhi
    split at h
    · cases h
      cases hx
      obtain ⟨hrun, hle, hr⟩ := run_bounds (P := P) (isS := false) bl bh (Nat.le_refl _) hr C.w
      cases hr
      refine gives_pure t ?_ .str
      simp [Instr.sliceAt, Instr.slice, run_underlying hu, hrun]
    · cases h
  · cases h

end
end Go.Proofs.Ytmjbjlhjpdebjaa.Mini
