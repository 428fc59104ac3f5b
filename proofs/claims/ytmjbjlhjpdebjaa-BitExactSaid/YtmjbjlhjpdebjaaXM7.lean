/- A small machine over plain data: each operation of the machine does what it is told to do. Third part: stores, new blocks, places, cuts. -/
import Derived.Test.YtmjbjlhjpdebjaaXM6
namespace Go.Proofs.Ytmjbjlhjpdebjaa.Mini
open Go Go.RowKit

theorem any_ne {c : Chg} {id : Nat} (h : c.any (fun p => Nat.beq p.1 id) = false) : ∀ p ∈ c, p.1 ≠ id := fun p hp e => by
  rw [List.any_eq_false] at h
  exact h p hp (by rw [e]; exact Nat.beq_refl id)

section
variable {P : Program} {s : Sem Value} {w0 : Start} {M0 av : Nat → Prop} {fresh : Nat} {C : Ctx} {out : Out}

theorem run_storeAt {ty : TypeId} {b off : Nat} {v : Value} {cs : Array Value} {T : TypeId} {w : World} {i : TypeInfo} (hi : P.info? ty = some i) (hs : v.cells.size = i.size) (hh : w.heap[b]? = some (.cells cs T (0, 0)))
    (hl : off + v.cells.toList.length ≤ cs.size) (h1 : ∀ x ∈ v.cells.toList, x.oneCell' = true) :
    (Instr.storeAt ty (.pointer (some ⟨b, off, none⟩)) v).run P w = .ok () (w.setRow b (cs.toList.take off ++ v.cells.toList ++ cs.toList.drop (off + v.cells.toList.length)).toArray) := by
  have hst := run_storeCells_at P b off T v.cells.toList 0 cs w hh (by simpa using hl) h1
  simp only [Nat.add_zero] at hst
  unfold Instr.storeAt Instr.sureAddr storeVar
  simp only [Sem.run_bind, Sem.run_pure, Result.andThen_ok, run_sizeOf hi]
  rw [if_neg (by rw [hs]; exact fun h => h rfl)]
  simpa using hst

def GivesU (P : Program) (s : Sem Unit) (w0 : Start) (M0 av : Nat → Prop) (fresh : Nat) (C : Ctx) (out : Out) : Prop :=
  ∃ C', s.run P C.w = .ok () C'.w ∧ C'.tab = chg C.tab out.ch ∧ Ext C C' ∧ TabOk w0 M0 (fun i => av i ∧ ¬ (fresh ≤ i ∧ i < fresh + room)) C' ∧ out.v = .tup []

theorem storeV_gives (t : TabOk w0 M0 av C) {vw : Tab} (hsub : Sub vw C.tab) {ty : TypeId} {x y : AV} {v u : Value} {e : Eff} (h : storeV P vw ty x y = some e) (hr : e.Res out) (hx : Rel C v x) (hy : Rel C u y) :
    GivesU P (Instr.storeAt ty v u) w0 M0 av fresh C out := by
  unfold storeV at h
  cases hb : (Nat.beq y.leaves.length (P.cellsOf ty) && (P.info? ty).isSome && y.leaves.all leafB) with
  | false => rw [hb] at h; cases h
  | true =>
    rw [hb] at h
    simp only [Bool.and_eq_true, cond_true] at hb h
    obtain ⟨⟨hb1, hb2⟩, hb3⟩ := hb
    obtain ⟨i, hi⟩ := Option.isSome_iff_exists.1 hb2
    have hn := Nat.eq_of_beq_eq_true hb1
    rw [cellsOf_eq hi] at hn
    have hcr := cells_rel hy hb3
    have h1 := cells_one hcr hb3
    have hsz : u.cells.size = i.size := by rw [← Array.length_toList, hcr.length, hn]
    split at h
    · rename_i id off
      cases hx with
      | ptr hx =>
        obtain ⟨_, a, rfl, hbl⟩ := hx
        split at h
        · rename_i T l hv
          have e1 := hsub _ _ hv
          obtain ⟨T', l', p, hc, hp, ho, rfl⟩ := hbl _ e1
          cases hc
          obtain ⟨p', hp', hbr⟩ := t.bl id _ e1
          rw [hp] at hp'
          cases hp'
          obtain ⟨q, hq, _, cs, hh, hl⟩ := hbr
          cases hq
          split at h
          · rename_i l2 hpl
            obtain ⟨k1, rfl⟩ := putL_eq hpl
            obtain rfl := out_res h hr
            have hll := hl.length
            rw [Array.length_toList] at hll
            have hcl := hcr.length
            have hcs : cs.toList.length = cs.size := Array.length_toList
            have hsp := splice_len cs.toList u.cells.toList off (by rw [hcl, hcs, hll]; exact k1)
            have hsl := splice_len l y.leaves off k1
            have hcomp : Compat (.cells T l) (.cells T (l.take off ++ y.leaves ++ l.drop (off + y.leaves.length))) := ⟨l, rfl, hsl.symm⟩
            have hsize : (cs.toList.take off ++ u.cells.toList ++ cs.toList.drop (off + u.cells.toList.length)).toArray.size = cs.size := by rw [List.size_toArray, hsp, hcs]
            have he := Ext.put t e1 hp rfl hcomp hh _ hsize
            refine ⟨C.put id p.b (cs.toList.take off ++ u.cells.toList ++ cs.toList.drop (off + u.cells.toList.length)).toArray (.cells T (l.take off ++ y.leaves ++ l.drop (off + y.leaves.length))),
              run_storeAt hi hsz hh (by rw [hcl, hll]; exact k1) h1, rfl, he, ?_, rfl⟩
            refine (TabOk.put t e1 hp rfl hcomp hh _ hsize ?_).weak fun _ h => h.1
            exact ⟨p, rfl, ho, _, setRow_heap _ _ _ _ _ _ hh, by simpa using ((hl.splice hcr off).ext he)⟩
          · cases h
        · cases h
    · rename_i id j off
      cases hx with
      | eptr hx =>
        obtain ⟨_, a, rfl, hbl⟩ := hx
        split at h
        · rename_i o k T xs hv
          have e1 := hsub _ _ hv
          obtain ⟨k', T', ys, p, hrl, hp, hj, rfl⟩ := hbl _ e1
          obtain ⟨rfl, rfl, hq⟩ := RowLike.uniq (.inl ⟨o, rfl⟩) hrl
          obtain rfl := eq_of_heq hq
          split at h
          · rename_i c l2 hfz hpl
            obtain ⟨k1, rfl⟩ := putL_eq hpl
            rw [List.length_map] at k1
            split at h
            · rename_i x1 hx1
              cases hbe : c.any (fun p => Nat.beq p.1 id) with
              | true => rw [hbe] at h; cases h
              | false =>
                rw [hbe] at h
                obtain rfl := out_res h hr
                have hne := any_ne hbe
                have hfo := (frz_of hfz).sub hsub
                have hfade : Fade C.tab (chg C.tab c) := hfo.fade (Fade.refl _) fun _ _ => .inl rfl
                have t1 := t.fade hfade
                have x1e := hfade.ext
                have e2 : (C.setT (chg C.tab c)).tab id = some (.row o k T xs) := (chg_other hne).trans e1
                obtain ⟨p', hp', hbr⟩ := t1.bl id _ e2
                change C.io id = _ at hp'
                rw [hp] at hp'
                cases hp'
                rcases hbr with ⟨h', _⟩ | ⟨q, h', cs, hh, hseg⟩
                · cases h'
                cases h'
                obtain ⟨g1, g2⟩ := hseg j _ (getD_at (d := dflt k) hj)
                have hsn := snaps_rel t hsub t1 x1e hcr fun z hz => by
                  obtain ⟨d, d1, d2⟩ := frz_parts hfz z hz
                  exact ⟨d, d1, fun p hp => chg_get_of hfo (d2 p hp)⟩
                have hcl := hcr.length
                have hs1 := g2.leaves
                have hs2 := hs1.splice hsn off
                rw [List.length_map] at hs2
                rw [List.length_map] at hx1
                have hrep := toElAll_rep hx1 hs2
                have hsegl : (leavesOf k (xs.getD j (dflt k))).length = k.sz := by rw [← hs1.length, List.length_take, List.length_drop, Array.length_toList]; omega
                rw [hsegl] at k1
                have hcs : cs.toList.length = cs.size := Array.length_toList
                have hfit : p.o + j * k.sz + off + u.cells.toList.length ≤ cs.toList.length := by omega
                have hsp := splice_len cs.toList u.cells.toList (p.o + j * k.sz + off) hfit
                have hcomp : Compat (.row o k T xs) (.row o k T (xs.set j x1)) := ⟨xs, rfl, by simp⟩
                have hsize : (cs.toList.take (p.o + j * k.sz + off) ++ u.cells.toList ++ cs.toList.drop (p.o + j * k.sz + off + u.cells.toList.length)).toArray.size = cs.size := by rw [List.size_toArray, hsp, hcs]
                have hput := Ext.put t1 e2 hp rfl hcomp hh _ hsize
                refine ⟨(C.setT (chg C.tab c)).put id p.b (cs.toList.take (p.o + j * k.sz + off) ++ u.cells.toList ++ cs.toList.drop (p.o + j * k.sz + off + u.cells.toList.length)).toArray (.row o k T (xs.set j x1)), ?_, ?_, x1e.trans hput, ?_, rfl⟩
                · exact run_storeAt hi hsz hh (by omega) h1
                · show upd (chg C.tab c) id _ = _
                  rw [chg_app]
                  rfl
                · refine (TabOk.put t1 e2 hp rfl hcomp hh _ hsize ?_).weak fun _ h => h.1
                  refine .inr ⟨p, rfl, _, setRow_heap _ _ _ _ _ _ hh, fun j' x' hj' => ?_⟩
                  rw [hsize, List.toList_toArray]
                  rw [List.getElem?_set] at hj'
                  by_cases hjj : j = j'
                  · subst hjj
                    rw [if_pos rfl, if_pos hj] at hj'
                    cases hj'
                    refine ⟨g1, ?_⟩
                    rw [splice_seg _ _ _ _ _ (by omega) (by omega)]
                    exact hrep.ext hput.reads
                  · rw [if_neg hjj] at hj'
                    obtain ⟨g3, g4⟩ := hseg j' x' hj'
                    refine ⟨g3, ?_⟩
                    rw [splice_other _ _ _ _ _ _ (by omega) (by omega) ?_]
                    · exact g4.ext hput.reads
                    · rcases Nat.lt_or_gt_of_ne hjj with hlt | hgt
                      · right
                        have : (j + 1) * k.sz ≤ j' * k.sz := Nat.mul_le_mul_right _ hlt
                        rw [Nat.add_mul] at this
                        omega
                      · left
                        have : (j' + 1) * k.sz ≤ j * k.sz := Nat.mul_le_mul_right _ hgt
                        rw [Nat.add_mul] at this
                        omega
            · cases h
          · cases h
        · cases h
    · cases h

/-! ### New blocks -/
theorem ofLeaf_rel (v : Value) : Rel C v (ofLeaf v) := by
  cases v with
  | int k n => exact .int
  | bool b => exact .bool
  | string s => exact .str
  | slice a n c =>
    show Rel C _ (bif a.isNone && Nat.beq n 0 && Nat.beq c 0 then .nils else .undef)
    cases h : a.isNone && Nat.beq n 0 && Nat.beq c 0 with
    | false => exact .undef
    | true =>
      simp only [Bool.and_eq_true] at h
      obtain rfl := Nat.eq_of_beq_eq_true h.1.2
      obtain rfl := Nat.eq_of_beq_eq_true h.2
      exact .nils
  | pointer a =>
    cases a with
    | none => exact .nilp
    | some a => exact .undef
  | func f a b =>
    cases f <;> try exact .undef
    rename_i f
    show Rel C _ (bif Nat.beq a.size 0 && Nat.beq b.size 0 then .fn (.func f) [] else .undef)
    cases h : Nat.beq a.size 0 && Nat.beq b.size 0 with
    | false => exact .undef
    | true =>
      simp only [Bool.and_eq_true] at h
      obtain rfl := Array.eq_empty_of_size_eq_zero (Nat.eq_of_beq_eq_true h.1)
      obtain rfl := Array.eq_empty_of_size_eq_zero (Nat.eq_of_beq_eq_true h.2)
      exact .fn .nil
  | tuple a =>
    show Rel C _ (bif Nat.beq a.size 0 then .tup [] else .undef)
    cases h : Nat.beq a.size 0 with
    | false => exact .undef
    | true =>
      obtain rfl := Array.eq_empty_of_size_eq_zero (Nat.eq_of_beq_eq_true h)
      exact .tup .nil
  | _ => exact .undef

theorem ofLeafs_rel : ∀ (vs : List Value), RelL C vs (vs.map ofLeaf)
  | [] => .nil
  | v :: vs => .cons (ofLeaf_rel v) (ofLeafs_rel vs)

theorem ofValue_rel (v : Value) : Rel C v (ofValue v) := by
  unfold ofValue
  split
  · exact .agg (ofLeafs_rel _)
  · exact ofLeaf_rel v

theorem zero_eq {ty : TypeId} {l : List AV} (h : zeroLeaves P ty = some l) : ∃ i z, P.info? ty = some i ∧ i.zero = some z ∧ z.cells.size = i.size ∧ l = z.cells.toList.map ofLeaf := by
  unfold zeroLeaves at h
  split at h
  · rename_i i hi
    split at h
    · rename_i z hz
      cases hb : Nat.beq z.cells.size i.size with
      | false => rw [hb] at h; cases h
      | true =>
        rw [hb] at h
        cases h
        exact ⟨i, z, hi, hz, Nat.eq_of_beq_eq_true hb, rfl⟩
    · cases h
  · cases h

theorem run_zeroValue {ty : TypeId} {i : TypeInfo} {z : Value} (hi : P.info? ty = some i) (hz : i.zero = some z) (w : World) : (zeroValue ty).run P w = .ok z w := by
  simp [zeroValue, typeInfo, hi, hz]

theorem gives_new (t : TabOk w0 M0 av C) (hav : ∀ c, c < room → av (fresh + c)) {cs : Array Value} {T : TypeId} {blk : Blk} {v : Value} {x : AV} (hs : s.run P C.w = .ok v (C.w.alloc (.cells cs T)))
    (hb : BlkRel (C.new fresh cs T blk) (some ⟨C.w.heap.size, 0⟩) blk) (hx : Rel (C.new fresh cs T blk) v x) : Gives P s w0 M0 av fresh C ⟨x, [(fresh, some blk)]⟩ := by
  have hi : C.io fresh = none := t.av _ (hav 0 (by decide))
  exact ⟨v, C.new fresh cs T blk, hs, rfl, Ext.new hi cs T blk, (t.new hi cs T blk hb).weak fun i h => ⟨h.1, fun e => h.2 ⟨by omega, by rw [e]; exact Nat.lt_add_of_pos_right (by decide)⟩⟩, hx⟩

theorem ptr_new (C : Ctx) (id : Nat) (cs : Array Value) (T : TypeId) (l : List AV) : Rel (C.new id cs T (.cells T l)) (.pointer (some ⟨C.w.heap.size, 0, none⟩)) (.ptr id 0) := by
  refine .ptr ⟨?_, _, rfl, fun blk e => ?_⟩
  · show upd C.io id _ id ≠ none
    rw [upd_same]
    simp
  · change upd C.tab id _ id = _ at e
    rw [upd_same] at e
    cases e
    exact ⟨T, l, ⟨C.w.heap.size, 0⟩, rfl, upd_same .., rfl, rfl⟩

theorem alloc_gives (t : TabOk w0 M0 av C) (hav : ∀ c, c < room → av (fresh + c)) {ty : TypeId} {l : List AV} (h : zeroLeaves P ty = some l) :
    Gives P (Instr.alloc ty true (.tuple #[])) w0 M0 av fresh C ⟨.ptr fresh 0, [(fresh, some (.cells ty l))]⟩ := by
  obtain ⟨i, z, hi, hz, hsz, rfl⟩ := zero_eq h
  refine gives_new t hav (cs := z.cells) (v := .pointer (some ⟨C.w.heap.size, 0, none⟩)) ?_ ?_ (ptr_new ..)
  · simp [Instr.alloc, run_zeroValue hi hz, newVar, newRow]
  · exact ⟨_, rfl, rfl, z.cells, alloc_new _ _, ofLeafs_rel _⟩

theorem box_gives (t : TabOk w0 M0 av C) (hav : ∀ c, c < room → av (fresh + c)) {ty : TypeId} {x : AV} {v : Value} (hl : x.leaves.all leafB = true) (hx : Rel C v x) :
    Gives P (Instr.box ty v) w0 M0 av fresh C ⟨.ptr fresh 0, [(fresh, some (.cells ty x.leaves))]⟩ := by
  have hi : C.io fresh = none := t.av _ (hav 0 (by decide))
  refine gives_new t hav (cs := v.cells) (v := .pointer (some ⟨C.w.heap.size, 0, none⟩)) ?_ ?_ (ptr_new ..)
  · simp [Instr.box, newVar, newRow]
  · exact ⟨_, rfl, rfl, v.cells, alloc_new _ _, (cells_rel hx hl).ext (Ext.new hi _ _ _)⟩

/-! ### Places -/
theorem SlRel.ptr_at {v : Value} {id off : Nat} {len : Option Nat} (h : SlRel C v id off len) {blk : Blk} (e : C.tab id = some blk) {k : Kd} {T : TypeId} {xs : List (El k)} (hr : RowLike blk k T xs)
    {i : Nat} (hi : i < len.getD xs.length) : ∃ b o n c, v = .slice (some ⟨b, o, none⟩) n c ∧ n = len.getD xs.length ∧ EptrRel C (.pointer (some ⟨b, o + i * k.sz, none⟩)) id (i + off) 0 := by
  obtain ⟨h0, A, n, c, rfl, hb⟩ := h
  obtain ⟨k', T', ys, hr', hn, ho, hnc, hs⟩ := hb blk e
  obtain ⟨rfl, rfl, hq⟩ := hr.uniq hr'
  obtain rfl := eq_of_heq hq
  rcases hs with ⟨_, hc⟩ | ⟨p, hp, hA, cs, T', fr, hh, hsz⟩
  · omega
  · obtain rfl := hA (by omega)
    refine ⟨p.b, p.o + off * k.sz, n, c, rfl, hn, h0, _, rfl, fun blk' e' => ?_⟩
    rw [e] at e'
    cases e'
    refine ⟨k, T, xs, p, hr, hp, by omega, ?_⟩
    rw [Nat.add_zero, Nat.add_mul]
    congr 1
    omega

theorem kd_eq {ty : TypeId} {k : Kd} (h : kd P ty = some k) : P.cellsOf ty = k.sz ∧ kdOf P 8 ty = some k := by
  unfold kd at h
  split at h
  · rename_i k' hk
    cases hb : Nat.beq (P.cellsOf ty) k'.sz with
    | false => rw [hb] at h; cases h
    | true =>
      rw [hb] at h
      cases h
      exact ⟨Nat.eq_of_beq_eq_true hb, hk⟩
  · cases h

theorem kd_info {ty : TypeId} {k : Kd} (h : kd P ty = some k) : ∃ i, P.info? ty = some i ∧ i.size = k.sz := by
  obtain ⟨h1, h2⟩ := kd_eq h
  have : ∃ d, P.underlying ty = some d := by
    unfold kdOf at h2
    cases e : P.underlying ty with
    | none => rw [e] at h2; cases h2
    | some d => exact ⟨d, rfl⟩
  obtain ⟨d, hd⟩ := this
  obtain ⟨i, hi⟩ := info_of hd
  exact ⟨i, hi, by rw [← h1, cellsOf_eq hi]⟩

theorem run_indexAt_slice {ty e : TypeId} {b o n c : Nat} {ki : IntKind} {i : Int} (hu : P.underlying ty = some (.slice e)) {inf : TypeInfo} (hi : P.info? e = some inf) (h0 : 0 ≤ i) (h1 : i < n) (w : World) :
    (Instr.indexAt ty (.slice (some ⟨b, o, none⟩) n c) (.int ki i)).run P w = .ok (.pointer (some ⟨b, o + i.toNat * inf.size, none⟩)) w := by
  have hc : 0 ≤ i ∧ i < (n : Int) := ⟨h0, h1⟩
  unfold Instr.indexAt asIntOf
  simp [run_underlying hu, hc, run_sizeOf hi, add_off]

theorem run_indexAt_any {ty e : TypeId} {a : Addr} {n c : Nat} {ki : IntKind} {i : Int} (hu : P.underlying ty = some (.slice e)) {inf : TypeInfo} (hi : P.info? e = some inf) (h0 : 0 ≤ i) (h1 : i < n) (w : World) :
    (Instr.indexAt ty (.slice (some a) n c) (.int ki i)).run P w = .ok (.pointer (some (a.add (i.toNat * inf.size)))) w := by
  have hc : 0 ≤ i ∧ i < (n : Int) := ⟨h0, h1⟩
  unfold Instr.indexAt asIntOf
  simp [run_underlying hu, hc, run_sizeOf hi]

theorem indexAddrV_gives (t : TabOk w0 M0 av C) {vw : Tab} (hsub : Sub vw C.tab) {ty : TypeId} {x y : AV} {v u : Value} {e : Eff} (h : indexAddrV P vw ty x y = some e) (hr : e.Res out) (hx : Rel C v x) (hy : Rel C u y) :
    Gives P (Instr.indexAt ty v u) w0 M0 av fresh C out := by
  have key : ∀ {e' : TypeId} {ke k : Kd} {T : TypeId} {xs : List (El k)} {id off : Nat} {len : Option Nat} {blk : Blk} {ki : IntKind} {i : Int}, P.underlying ty = some (.slice e') → kd P e' = some ke → ke = k → C.tab id = some blk → RowLike blk k T xs →
      SlRel C v id off len → u = .int ki i → (wh (0 ≤ i) (wh (i < ((len.getD xs.length : Nat) : Int)) (.out ⟨.eptr id (i.toNat + off) 0, []⟩))).Res out → Gives P (Instr.indexAt ty v u) w0 M0 av fresh C out := by
    intro e' ke k T xs id off len blk ki i hu hk hke e1 hrl hs hui hr
    subst hke
    subst hui
    obtain ⟨h0, hr⟩ := wh_res hr
    obtain ⟨h1, hr⟩ := wh_res hr
    cases hr
    obtain ⟨inf, hi, hsz⟩ := kd_info hk
    obtain ⟨b, o, n, c, rfl, hn, hp⟩ := hs.ptr_at e1 hrl (i := i.toNat) (by omega)
    refine gives_pure t (run_indexAt_slice hu hi h0 (by omega) C.w) ?_
    rw [hsz]
    exact .eptr hp
  unfold indexAddrV at h
  split at h
  · rename_i e' ki i hu
    cases hy
    split at h
    · cases h
    rename_i ke hk
    split at h
    · rename_i k xs
      split at h
      · rename_i hke
        subst hke
        cases h
        obtain ⟨h0, hr⟩ := wh_res hr
        obtain ⟨h1, hr⟩ := wh_res hr
        cases hr
        cases hx with
        | row hx =>
          obtain ⟨A, c, hv, hlc, hR⟩ := hx
          cases hv
          obtain ⟨inf, hi, hsz⟩ := kd_info hk
          obtain ⟨ad, rfl, hsp, hok, cs, T, fr, hh, hseg⟩ := hR (by omega)
          obtain ⟨g1, g2⟩ := hseg i.toNat _ (getD_at (d := dflt ke) (by omega))
          refine gives_pure t (run_indexAt_any hu hi h0 h1 C.w) ?_
          have hll := g2.leaves.length
          rw [List.length_take, List.length_drop, Array.length_toList] at hll
          rw [hsz]
          have hadd : ad.add (i.toNat * ke.sz) = ⟨ad.block, ad.off + i.toNat * ke.sz, none⟩ := by
            rw [addr_eq hsp, add_off]
          rw [hadd]
          refine .iptr rfl hok hh ?_
          have hl2 := g2.leaves
          rwa [show (leavesOf ke (xs.getD i.toNat (dflt ke))).length = ke.sz by omega]
      · cases h
    · rename_i id
      cases hx with
      | own hx =>
        split at h
        · rename_i hv
          split at h
          · rename_i hke
            exact key hu hk hke (hsub _ _ hv) (.inl ⟨_, rfl⟩) hx rfl (by cases h; exact hr)
          · cases h
        · rename_i hv
          split at h
          · rename_i hke
            exact key hu hk hke (hsub _ _ hv) (.inr rfl) hx rfl (by cases h; exact hr)
          · cases h
        · cases h
    · rename_i id off len
      cases hx with
      | sl hx =>
        split at h
        · rename_i hv
          split at h
          · rename_i hke
            exact key hu hk hke (hsub _ _ hv) (.inl ⟨_, rfl⟩) hx rfl (by cases h; exact hr)
          · cases h
        · rename_i hv
          split at h
          · rename_i hke
            exact key hu hk hke (hsub _ _ hv) (.inr rfl) hx rfl (by cases h; exact hr)
          · cases h
        · cases h
    · cases h
  · rename_i n e' ki i hu
    cases hy
    split at h
    · rename_i id o
      cases hx with
      | ptr hx =>
        obtain ⟨hn0, a, rfl, hb⟩ := hx
        split at h
        · rename_i T l hv
          cases hbb : (P.info? e').isSome with
          | false => rw [hbb] at h; cases h
          | true =>
            rw [hbb] at h
            cases h
            obtain ⟨h0, hr⟩ := wh_res hr
            obtain ⟨h1, hr⟩ := wh_res hr
            cases hr
            obtain ⟨inf, hi⟩ := Option.isSome_iff_exists.1 hbb
            have e1 := hsub _ _ hv
            obtain ⟨T', l', p, hc, hp, ho, rfl⟩ := hb _ e1
            cases hc
            have hc : 0 ≤ i ∧ i < (n : Int) := ⟨h0, h1⟩
            refine gives_pure t (v := .pointer (some ⟨p.b, o + i.toNat * P.cellsOf e', none⟩)) ?_ (.ptr ⟨hn0, _, rfl, fun blk e => ?_⟩)
            · unfold Instr.indexAt asIntOf Instr.sureAddr
              simp [run_underlying hu, hc, run_sizeOf hi, add_off, cellsOf_eq hi]
            · rw [e1] at e
              cases e
              exact ⟨T, l, p, rfl, hp, ho, rfl⟩
        · cases h
    · cases h
  · cases h

end
end Go.Proofs.Ytmjbjlhjpdebjaa.Mini
