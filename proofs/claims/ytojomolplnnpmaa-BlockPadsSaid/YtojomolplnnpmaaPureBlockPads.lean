/- A sealed text of the right length that says another length than it has room for, a mark that is none, a number too great, or has something behind its text, is no block: a plain law. -/
import Derived.Test.YtojomolplnnpmaaPL
import Derived.Test.YtojomolplnnpmaaMBlockPads
set_option linter.unusedVariables false
namespace Go.Proofs.Ytojomolplnnpmaa.Mini
open Go Go.RowKit Go.Proofs

theorem take_same {α : Type} (l : List α) (x : α) (j q : Nat) (h : j ≤ q) : (l.set q x).take j = l.take j := by
  apply List.ext_getElem?
  intro i
  rw [List.getElem?_take, List.getElem?_take]
  split
  · rw [List.getElem?_set_ne (by omega)]
  · rfl
open Be Crc in
/-- Sealed bytes that are no block's. -/
theorem pads_read (c : Int) (hc : 1 ≤ c ∧ c ≤ 16) (l : List Int) (hl : l.length = 6 + c.toNat) (hb : ∀ x ∈ l, isByte x)
    (hbad : c < l.getD 5 0 ∨ (0 ≤ l.getD 5 0 ∧ l.getD 5 0 ≤ c ∧ (blkErr c (num (l.take 4)) (l.getD 4 0) (l.getD 5 0).toNat ≠ 0 ∨ blkBody c (num (l.take 4)) (l.getD 4 0) ((l.take (6 + (l.getD 5 0).toNat)).drop 6) ≠ l))) : blkRead c (l ++ seal4 (sum32 l)) = ((0, 0, []), 3) := by
  have hlen : (l ++ seal4 (sum32 l)).length = 10 + c.toNat := by rw [List.length_append, seal4_length]; omega
  have hg : ∀ i, i < 6 → (l ++ seal4 (sum32 l)).getD i 0 = l.getD i 0 := fun i hi => by
    rw [List.getD_eq_getElem?_getD, List.getElem?_append_left (by omega), List.getD_eq_getElem?_getD]
  have ht : ∀ i, i ≤ 6 + c.toNat → (l ++ seal4 (sum32 l)).take i = l.take i := fun i hi => List.take_append_of_le_length (by omega)
  unfold blkRead
  rw [isSealed_seal, hg 5 (by decide), hg 4 (by decide), ht 4 (by omega), if_neg (show ¬ (c < 1 ∨ 16 < c) by omega), if_neg (show ¬ (((l ++ seal4 (sum32 l)).length : Int) ≠ c + 10) by omega), if_neg (show ¬ (true = false) by simp)]
  rcases hbad with h | ⟨h0, h1, h⟩
  · rw [if_pos h]
  · rw [if_neg (show ¬ c < l.getD 5 0 by omega), ht (6 + (l.getD 5 0).toNat) (by omega)]
    have hn : ((l.take (6 + (l.getD 5 0).toNat)).drop 6).length = (l.getD 5 0).toNat := by
      rw [List.length_drop, List.length_take]
      omega
    rw [hn]
    by_cases he : blkErr c (num (l.take 4)) (l.getD 4 0) (l.getD 5 0).toNat = 0
    · rw [if_neg (not_not_intro he), if_neg fun hp => ?_]
      rcases h with h | h
      · exact h he
      · unfold blkPack at hp
        have hbl := blkBody_length c (num (l.take 4)) (l.getD 4 0) ((l.take (6 + (l.getD 5 0).toNat)).drop 6) (by rw [hn]; omega)
        exact h (List.append_inj_left hp (by rw [hbl, hl]))
    · rw [if_pos he]
open Be Crc in
theorem pads_end (k : Nat) (hk : 5001 ≤ k) (c : Int) (hc : 1 ≤ c ∧ c ≤ 16) (l : List Int) (hl : l.length = 6 + c.toNat) (hb : ∀ x ∈ l, isByte x)
    (hbad : c < l.getD 5 0 ∨ (0 ≤ l.getD 5 0 ∧ l.getD 5 0 ≤ c ∧ (blkErr c (num (l.take 4)) (l.getD 4 0) (l.getD 5 0).toNat ≠ 0 ∨ blkBody c (num (l.take 4)) (l.getD 4 0) ((l.take (6 + (l.getD 5 0).toNat)).drop 6) ≠ l))) : m7F34 k c l = some true := by
  have h1 := seal_eq k (by omega) l (by omega) hb
  have hlen : (l ++ seal4 (sum32 l)).length = 10 + c.toNat := by rw [List.length_append, seal4_length]; omega
  have hby : ∀ x ∈ l ++ seal4 (sum32 l), isByte x := fun x hx => by
    rcases List.mem_append.1 hx with hx | hx
    · exact hb x hx
    · exact seal4_bytes _ x hx
  have h2 := blkRead_eq k hk c (l ++ seal4 (sum32 l)) (by omega) (.inl (by omega)) hby
  rw [pads_read c hc l hl hb hbad] at h2
  have e0 : ∀ z : Int, eqI z z = true := fun z => eqI_pos rfl
  have kb : m12F k (0, 0, []) (0, 0, []) = some true := by
    rw [keepBlock_eq k hk (0, 0, []) (0, 0, []) (by decide), decide_eq_true rfl]
  simp only [m7F34, m7X34, h1, Option.bind_some, h2, e0, if_true, kb, wakes13 k hk]
open Be Crc in
theorem blkBody_cons (c s m : Int) (t : List Int) : blkBody c s m t = (s / 16777216 % 256) :: (s / 65536 % 256) :: (s / 256 % 256) :: (s / 1 % 256) :: m :: (t.length : Int) :: (t ++ List.replicate (c.toNat - t.length) 0) := by
  have hb : be 4 s = [s / 16777216 % 256, s / 65536 % 256, s / 256 % 256, s / 1 % 256] := rfl
  unfold blkBody
  rw [hb]
  simp only [List.append_assoc, List.cons_append, List.nil_append]
theorem nat_byte (x : Int) (h : Crc.isByte x) : ∃ n : Nat, x = (n : Int) ∧ n < 256 := ⟨x.toNat, by have := h.1; have := h.2; omega, by have := h.1; have := h.2; omega⟩
theorem v4 (T : Nat) (hT : T < 256) : ∃ v : Nat, wr .u8 (4 + bits .and .u8 (T : Int) 127) = (v : Int) ∧ 3 < v ∧ v < 256 := by
  have h := u8_and_nat T 127 hT (by decide)
  have hle : T &&& 127 ≤ 127 := Nat.and_le_right
  refine ⟨4 + (T &&& 127), ?_, by omega, by omega⟩
  rw [wu8]
  have h' : bits .and .u8 (T : Int) 127 = ((T &&& 127 : Nat) : Int) := h
  rw [h']
  omega
theorem v5 (c : Int) (hc : 1 ≤ c ∧ c ≤ 16) (T : Nat) (hT : T < 256) : ∃ v : Nat, wr .u8 (wr .u8 (wr .u8 c + 1) + bits .and .u8 (T : Int) 63) = (v : Int) ∧ c < (v : Int) ∧ v < 256 := by
  have h' : bits .and .u8 (T : Int) 63 = ((T &&& 63 : Nat) : Int) := u8_and_nat T 63 hT (by decide)
  have hle : T &&& 63 ≤ 63 := Nat.and_le_right
  refine ⟨c.toNat + 1 + (T &&& 63), ?_, by omega, by omega⟩
  rw [h', wu8, wu8, wu8]
  omega
theorem v0 (a T : Nat) (ha : a < 256) (hT : T < 256) : ∃ v : Nat, bits .or .u8 (a : Int) (wr .u8 (64 + bits .and .u8 (T : Int) 64)) = (v : Int) ∧ 64 ≤ v ∧ v < 256 := by
  have h' : bits .and .u8 (T : Int) 64 = ((T &&& 64 : Nat) : Int) := u8_and_nat T 64 hT (by decide)
  have hle : T &&& 64 ≤ 64 := Nat.and_le_right
  have hw : wr .u8 (64 + ((T &&& 64 : Nat) : Int)) = ((64 + (T &&& 64) : Nat) : Int) := by
    rw [wu8]
    omega
  refine ⟨a ||| (64 + (T &&& 64)), ?_, Nat.le_trans (Nat.le_add_right 64 _) Nat.right_le_or, ?_⟩
  · rw [h', hw, u8_or_nat _ _ ha (by omega)]
  · exact Nat.or_lt_two_pow (n := 8) (by omega) (by omega)
open Be Crc in
theorem pads_4 (k : Nat) (hk : 5001 ≤ k) (c s m : Int) (t : List Int) (hc : 1 ≤ c ∧ c ≤ 16) (hm : 0 ≤ m ∧ m ≤ 3) (hn : (t.length : Int) ≤ c) (ht : ∀ x ∈ t, isByte x) (T : Nat) (hT : T < 256) : m7F34 k c ((blkBody c s m t).set 4 (wr .u8 (4 + bits .and .u8 (T : Int) 127))) = some true := by
  obtain ⟨v, hv, hv1, hv2⟩ := v4 T hT
  rw [hv]
  have hg : ((blkBody c s m t).set 4 (v : Int)).getD 4 0 = (v : Int) := by rw [blkBody_cons]; rfl
  have hg5 : ((blkBody c s m t).set 4 (v : Int)).getD 5 0 = (t.length : Int) := by rw [blkBody_cons]; rfl
  refine pads_end k hk c hc _ (by rw [List.length_set, blkBody_length c s m t hn]) (fun x hx => ?_) (.inr ⟨by rw [hg5]; omega, by rw [hg5]; exact hn, .inl ?_⟩)
  · rcases List.mem_or_eq_of_mem_set hx with hx | rfl
    · exact blkBody_bytes c s m t hm (by omega) ht x hx
    · exact ⟨by omega, by omega⟩
  · rw [hg]
    unfold blkErr
    rw [if_pos (by omega)]
    decide
open Be Crc in
theorem pads_5 (k : Nat) (hk : 5001 ≤ k) (c s m : Int) (t : List Int) (hc : 1 ≤ c ∧ c ≤ 16) (hm : 0 ≤ m ∧ m ≤ 3) (hn : (t.length : Int) ≤ c) (ht : ∀ x ∈ t, isByte x) (T : Nat) (hT : T < 256) : m7F34 k c ((blkBody c s m t).set 5 (wr .u8 (wr .u8 (wr .u8 c + 1) + bits .and .u8 (T : Int) 63))) = some true := by
  obtain ⟨v, hv, hv1, hv2⟩ := v5 c hc T hT
  rw [hv]
  have hg5 : ((blkBody c s m t).set 5 (v : Int)).getD 5 0 = (v : Int) := by rw [blkBody_cons]; rfl
  refine pads_end k hk c hc _ (by rw [List.length_set, blkBody_length c s m t hn]) (fun x hx => ?_) (.inl (by rw [hg5]; exact hv1))
  rcases List.mem_or_eq_of_mem_set hx with hx | rfl
  · exact blkBody_bytes c s m t hm (by omega) ht x hx
  · exact ⟨by omega, by omega⟩
open Be Crc in
theorem pads_0 (k : Nat) (hk : 5001 ≤ k) (c s m : Int) (t : List Int) (hc : 1 ≤ c ∧ c ≤ 16) (hm : 0 ≤ m ∧ m ≤ 3) (hn : (t.length : Int) ≤ c) (ht : ∀ x ∈ t, isByte x) (T : Nat) (hT : T < 256) : m7F34 k c ((blkBody c s m t).set 0 (bits .or .u8 ((blkBody c s m t).getD 0 0) (wr .u8 (64 + bits .and .u8 (T : Int) 64)))) = some true := by
  have h0 : (blkBody c s m t).getD 0 0 = s / 16777216 % 256 := by rw [blkBody_cons]; rfl
  obtain ⟨a, ha, ha2⟩ : ∃ a : Nat, (blkBody c s m t).getD 0 0 = (a : Int) ∧ a < 256 := ⟨(s / 16777216 % 256).toNat, by rw [h0]; omega, by omega⟩
  obtain ⟨v, hv, hv1, hv2⟩ := v0 a T ha2 hT
  rw [ha, hv]
  have hg5 : ((blkBody c s m t).set 0 (v : Int)).getD 5 0 = (t.length : Int) := by rw [blkBody_cons]; rfl
  have hg4 : ((blkBody c s m t).set 0 (v : Int)).take 4 = [(v : Int), s / 65536 % 256, s / 256 % 256, s / 1 % 256] := by rw [blkBody_cons]; rfl
  refine pads_end k hk c hc _ (by rw [List.length_set, blkBody_length c s m t hn]) (fun x hx => ?_) (.inr ⟨by rw [hg5]; omega, by rw [hg5]; exact hn, .inl ?_⟩)
  · rcases List.mem_or_eq_of_mem_set hx with hx | rfl
    · exact blkBody_bytes c s m t hm (by omega) ht x hx
    · exact ⟨by omega, by omega⟩
  · rw [hg4]
    have hnum : 1073741824 ≤ num [(v : Int), s / 65536 % 256, s / 256 % 256, s / 1 % 256] := by
      show 1073741824 ≤ (((0 * 256 + (v : Int)) * 256 + s / 65536 % 256) * 256 + s / 256 % 256) * 256 + s / 1 % 256
      omega
    unfold blkErr
    rw [if_pos (.inr (.inr (.inr (.inl hnum))))]
    decide
open Be Crc in
theorem pads_q (k : Nat) (hk : 5001 ≤ k) (c s m : Int) (t : List Int) (h : blkErr c s m t.length = 0) (ht : ∀ x ∈ t, isByte x) (T : Nat) (hT : T < 256) (hT0 : T ≠ 0) (q : Nat) (hq : 6 + t.length ≤ q) (hq2 : q < 6 + c.toNat) :
    m7F34 k c ((blkBody c s m t).set q (bits .xor .u8 ((blkBody c s m t).getD q 0) (T : Int))) = some true := by
  obtain ⟨hc, hs, hm, hn, _⟩ := blkErr_zero h
  have hlen := blkBody_length c s m t hn
  have h0 : (blkBody c s m t).getD q 0 = ((0 : Nat) : Int) := by
    rw [blkBody_cons, List.getD_eq_getElem?_getD]
    obtain ⟨r, rfl⟩ : ∃ r, q = r + 6 := ⟨q - 6, by omega⟩
    simp only [List.getElem?_cons_succ]
    rw [List.getElem?_append_right (by omega), List.getElem?_replicate]
    split <;> rfl
  rw [h0, u8_xor_nat 0 T (by decide) hT, Nat.zero_xor]
  have hg4 : ((blkBody c s m t).set q (T : Int)).getD 4 0 = m := by
    rw [List.getD_eq_getElem?_getD, List.getElem?_set_ne (by omega), blkBody_cons]
    rfl
  have hg5 : ((blkBody c s m t).set q (T : Int)).getD 5 0 = (t.length : Int) := by
    rw [List.getD_eq_getElem?_getD, List.getElem?_set_ne (by omega), blkBody_cons]
    rfl
  have ht4 : ((blkBody c s m t).set q (T : Int)).take 4 = be 4 s := by
    rw [take_same _ _ _ _ (by omega), blkBody_cons]
    rfl
  have htt : (((blkBody c s m t).set q (T : Int)).take (6 + t.length)).drop 6 = t := by
    rw [take_same _ _ _ _ hq]
    have := drop_take_mid (be 4 s ++ [m, (t.length : Int)]) t (List.replicate (c.toNat - t.length) 0)
    rw [List.length_append, be_length] at this
    exact this
  refine pads_end k hk c hc _ (by rw [List.length_set, hlen]) (fun x hx => ?_) (.inr ⟨by rw [hg5]; omega, by rw [hg5]; exact hn, .inr ?_⟩)
  · rcases List.mem_or_eq_of_mem_set hx with hx | rfl
    · exact blkBody_bytes c s m t hm (by omega) ht x hx
    · exact ⟨by omega, by omega⟩
  · rw [ht4, hg4, hg5, Int.toNat_natCast, htt, num_be' 4 s hs.1 (by omega)]
    intro he
    have h1 : (blkBody c s m t).getD q 0 = (T : Int) := by
      conv => lhs; rw [he]
      rw [List.getD_eq_getElem?_getD, List.getElem?_set_self (by omega)]
      rfl
    rw [h0] at h1
    exact hT0 (by omega)
theorem pads_ar (c : Int) (n len : Nat) (hc : 1 ≤ c ∧ c ≤ 16) (hn : (n : Int) ≤ c) : wr .i64 (c + 10) = c + 10 ∧ wr .i64 (c + 6) = ((6 + c.toNat : Nat) : Int) ∧ leI 0 ((6 + c.toNat : Nat) : Int) = true ∧ leI ((6 + c.toNat : Nat) : Int) ((10 + c.toNat : Nat) : Int) = true ∧ wr .i64 (6 + (n : Int)) = ((6 + n : Nat) : Int) ∧
    (!eqI ((10 + c.toNat : Nat) : Int) (c + 10)) = false ∧ wr .i64 (((6 + c.toNat : Nat) : Int) - ((6 + n : Nat) : Int)) = ((c.toNat - n : Nat) : Int) ∧ wr .u64 ((c.toNat - n : Nat) : Int) = ((c.toNat - n : Nat) : Int) ∧ ltI 4 ((6 + c.toNat : Nat) : Int) = true ∧ ltI 5 ((6 + c.toNat : Nat) : Int) = true ∧ ltI 0 ((6 + c.toNat : Nat) : Int) = true :=
  ⟨w64 (by omega) (by omega), by rw [w64 (by omega) (by omega)]; omega, leI_pos (by omega), leI_pos (by omega), by rw [w64 (by omega) (by omega)]; omega, by rw [eqI_pos (by omega)]; rfl, by rw [w64 (by omega) (by omega)]; omega, wu64 (by omega) (by omega), ltI_pos (by omega), ltI_pos (by omega), ltI_pos (by omega)⟩
theorem pads_ar2 (c : Int) (n a : Nat) (hc : 1 ≤ c ∧ c ≤ 16) (hn : (n : Int) < c) (ha : a < c.toNat - n) : wr .i64 (((6 + n : Nat) : Int) + (a : Int)) = ((6 + n + a : Nat) : Int) ∧ leI 0 ((6 + n + a : Nat) : Int) = true ∧ ltI ((6 + n + a : Nat) : Int) ((6 + c.toNat : Nat) : Int) = true ∧ (!eqI ((c.toNat - n : Nat) : Int) 0) = true ∧ 6 + n + a < 6 + c.toNat :=
  ⟨by rw [w64 (by omega) (by omega)]; omega, leI_pos (by omega), ltI_pos (by omega), by rw [eqI_neg (by omega)]; rfl, by omega⟩
open Be Crc in
theorem blockPads (c : Int) (b : Int × (Int × List Int)) (at_ turn : Int) (wc : (Lit.int .i64 c).wf = true) (wb : WfK (.pair (.int .i64) (.pair (.int .i64) (.row (.int .u8)))) b) (wa : (Lit.int .i64 at_).wf = true) (wt : (Lit.int .u8 turn).wf = true) : ∃ k, m7F k c b at_ turn = some true := by
  refine ⟨6000, ?_⟩
  obtain ⟨s, m, t⟩ := b
  have hb := bytes_wf wb.2.2
  have hw := wakes13 6000 (by decide)
  have hz : ∀ z : Int, (!eqI z z) = false := fun z => by rw [eqI_pos rfl]; rfl
  simp only [m7F, m7X]
  by_cases hn : t.length ≤ 100
  · rw [if_neg (show ¬ (ltI 100 (t.length : Int) = true) by rw [ltI_neg (by omega)]; simp)]
    by_cases h3 : turn = 0
    · rw [if_pos (eqI_pos h3)]
    · rw [if_neg (show ¬ (eqI turn 0 = true) by rw [eqI_neg h3]; simp)]
      obtain ⟨T, rfl, hT⟩ := nat_byte turn (Bv.wf_u8 wt)
      have hT0 : T ≠ 0 := by omega
      by_cases h : blkErr c s m t.length = 0
      · obtain ⟨hc, hs, hm, hnc, _⟩ := blkErr_zero h
        have hl := blkPack_length c s m t hnc
        have hbl := blkBody_length c s m t hnc
        have htk : (blkPack c s m t).take (6 + c.toNat) = blkBody c s m t := by
          unfold blkPack
          exact List.take_left' hbl
        obtain ⟨a1, a2, a3, a4, a5, a6, a7, a8, a9, aa, ab⟩ := pads_ar c t.length (blkPack c s m t).length hc hnc
        have g0 : leI 0 0 = true := leI_pos (by decide)
        have g4 : leI 0 4 = true := leI_pos (by decide)
        have g5 : leI 0 5 = true := leI_pos (by decide)
        have n2 : (!eqI 2 0) = true := by rw [eqI_neg (by decide)]; rfl
        have n3 : (!eqI 3 0) = true := by rw [eqI_neg (by decide)]; rfl
        simp only [blkMake_eq 6000 (by decide) c s m t h hb, Option.bind_some, hz, Bool.false_eq_true, if_false, hl, a1, a2, a3, a4, a6, if_true, Int.toNat_natCast, List.drop_zero, htk, twin_eq 6000 (blkBody c s m t) (by clear a1 a2 a5 a7 a8; omega), hbl, a5, n2, n3, g0, g4, g5, a9, aa, ab]
        have p4 := pads_4 6000 (by decide) c s m t hc hm hnc hb T hT
        have p5 := pads_5 6000 (by decide) c s m t hc hm hnc hb T hT
        have p0 := pads_0 6000 (by decide) c s m t hc hm hnc hb T hT
        simp only [p4, p5, p0, ite_self]
        by_cases hlt : (t.length : Int) < c
        · rw [if_pos (ltI_pos (show ((6 + t.length : Nat) : Int) < ((6 + c.toNat : Nat) : Int) by clear a1 a2 a5 a7 a8; omega))]
          obtain ⟨a, ha, ea⟩ := umod at_ (c.toNat - t.length) (by clear a1 a2 a5 a7 a8; omega) (by clear a1 a2 a5 a7 a8; omega)
          obtain ⟨b1, b2, b3, b4, b5⟩ := pads_ar2 c t.length a hc hlt ha
          have pq := pads_q 6000 (by decide) c s m t h hb T hT hT0 (6 + t.length + a) (Nat.le_add_right _ _) b5
          simp only [a7, a8, b4, if_true, ea, b1, b2, b3, Int.toNat_natCast, pq, ite_self]
        · rw [if_neg (show ¬ (ltI ((6 + t.length : Nat) : Int) ((6 + c.toNat : Nat) : Int) = true) by clear a1 a2 a5 a7 a8; rw [ltI_neg (by omega)]; simp)]
      · have h1 := blkMake_bad 6000 c s m t h
        have hne : (!eqI (blkErr c s m t.length) 0) = true := by rw [eqI_neg h]; rfl
        have hl0 : eqI (([] : List Int).length : Int) 0 = true := eqI_pos rfl
        simp only [h1, Option.bind_some, hne, if_true, hl0, hw]
  · rw [if_pos (ltI_pos (by omega))]

end Go.Proofs.Ytojomolplnnpmaa.Mini
