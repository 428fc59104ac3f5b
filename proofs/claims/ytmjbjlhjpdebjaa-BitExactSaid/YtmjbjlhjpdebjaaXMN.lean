/- A small machine over plain data: how a statement's arguments are read. -/
import Derived.Test.YtmjbjlhjpdebjaaXMM
import Derived.OpenShut
import Derived.ChangeSlices
namespace Go.Proofs.Ytmjbjlhjpdebjaa.Mini
open Go Go.RowKit Go.ChangeShapes

/-- What is known of any data that is read. -/
def WfK : (k : Kd) → El k → Prop
  | .int k, n => (Lit.int k n).wf = true
  | .bool, _ => True
  | .str, s => s.size ≤ maxLen
  | .unit, _ => True
  | .pair a b, x => WfK a x.1 ∧ WfK b x.2
  | .row a, xs => xs.length ≤ maxLen ∧ ∀ x ∈ xs, WfK a x

def all : Nat → Prop := fun _ => True

section
variable {H : Type} {enc : TypeId × Value → H} {P : Program} {w : World} {spare : Nat → Bool} {held : Bool}

theorem addr_block (a : Addr) (n : Nat) : (a.add n).block = a.block := by unfold Addr.add; split <;> rfl
theorem addr_off (a : Addr) (n : Nat) : (a.add n).off = a.off + n := by
  unfold Addr.add
  split
  · omega
  · rfl
theorem addr_spot (a : Addr) (n : Nat) (h : a.spot = none) : (a.add n).spot = none := by
  unfold Addr.add
  split
  · exact h
  · rfl

theorem cells_take {base n : Nat} {a : Addr} {l : List Value} (h : w.cells? base a n = some l) (hn : 0 < n) :
    a.spot = none ∧ ∃ cs T fr, w.heap[a.block]? = some (.cells cs T fr) ∧ a.off + n ≤ cs.size ∧ (cs.toList.drop a.off).take n = l := by
  obtain ⟨_, hl, hc⟩ := World.cells?_some h
  have h0 := hc 0 hn
  have hsome : ∀ i, i < n → ∃ v, w.cell? (a.add i) = some v := fun i hi => ⟨l[i]'(by omega), by rw [hc i hi, List.getElem?_eq_getElem (by omega)]⟩
  have hblk : ∃ cs T fr, w.heap[a.block]? = some (.cells cs T fr) ∧ a.spot = none := by
    obtain ⟨v, hv⟩ := hsome 0 hn
    unfold World.cell? at hv
    split at hv
    · rename_i cs T fr hb
      refine ⟨cs, T, fr, hb, ?_⟩
      split at hv
      · cases hv
      · rename_i hs
        cases hsp : a.spot with
        | none => rfl
        | some s =>
          exfalso
          apply hs
          show a.spot.isSome = true
          rw [hsp]
          rfl
    · cases hv
  obtain ⟨cs, T, fr, hb, hsp⟩ := hblk
  have hcell : ∀ i, i < n → cs[a.off + i]? = l[i]? := fun i hi => by
    rw [← hc i hi]
    unfold World.cell?
    have hb' : w.heap[(a.add i).block]? = some (.cells cs T fr) := by rw [addr_block]; exact hb
    rw [hb', addr_spot a i hsp, addr_off]
    rfl
  refine ⟨hsp, cs, T, fr, hb, ?_, ?_⟩
  · have := hcell (n - 1) (by omega)
    rw [List.getElem?_eq_getElem (by omega)] at this
    have := (Array.getElem?_eq_some_iff.1 this).1
    omega
  · refine List.ext_getElem? fun i => ?_
    rw [List.getElem?_take, List.getElem?_drop]
    by_cases hi : i < n
    · rw [if_pos hi, Array.getElem?_toList]
      exact hcell i hi
    · rw [if_neg hi, List.getElem?_eq_none (by omega)]

theorem choose_list {α : Type} {Q : Nat → α → Prop} : ∀ (n : Nat), (∀ i, i < n → ∃ y, Q i y) → ∃ l : List α, l.length = n ∧ ∀ i y, l[i]? = some y → Q i y
  | 0, _ => ⟨[], rfl, fun i y h => by simp at h⟩
  | n + 1, h => by
    obtain ⟨l, hl, hq⟩ := choose_list n fun i hi => h i (by omega)
    obtain ⟨y, hy⟩ := h n (by omega)
    refine ⟨l ++ [y], by simp [hl], fun i z hz => ?_⟩
    by_cases hi : i < n
    · rw [List.getElem?_append_left (by omega)] at hz
      exact hq i z hz
    · rw [List.getElem?_append_right (by omega)] at hz
      have : i - l.length = 0 := by
        have := (List.getElem?_eq_some_iff.1 hz).1
        simp at this
        omega
      rw [this] at hz
      simp at hz
      subst hz
      have : i = n := by omega
      subst this
      exact hy

def Seqd (w : World) (cs : List Value) : Nat → List Kd → Prop
  | _, [] => True
  | n, k :: ks => (∃ y : El k, RepC w all k y ((cs.drop n).take k.sz) ∧ WfK k y) ∧ Seqd w cs (n + k.sz) ks

theorem kdList_sz : ∀ (ks : List Kd), (kdList ks).sz = (ks.map Kd.sz).sum
  | [] => rfl
  | [k] => by simp [kdList]
  | k :: l :: ks => by
    show k.sz + (kdList (l :: ks)).sz = _
    rw [kdList_sz (l :: ks)]
    simp

theorem seq_rep {cs : List Value} : ∀ {ks : List Kd} {n : Nat}, Seqd w cs n ks → n + (ks.map Kd.sz).sum ≤ cs.length → ∃ y : El (kdList ks), RepC w all (kdList ks) y ((cs.drop n).take (kdList ks).sz) ∧ WfK (kdList ks) y
  | [], n, _, _ => ⟨(), by simp [kdList, RepC, Kd.sz], trivial⟩
  | [k], n, h, _ => h.1
  | k :: l :: ks, n, h, hl => by
    obtain ⟨⟨y, h1, h2⟩, h3⟩ := h
    obtain ⟨z, h4, h5⟩ := seq_rep h3 (by simp at hl ⊢; omega)
    refine ⟨(y, z), ⟨_, _, ?_, h1, h4⟩, h2, h5⟩
    show (cs.drop n).take (k.sz + (kdList (l :: ks)).sz) = _
    rw [List.take_add, List.drop_drop]

theorem fields_seq {cs : List Value} {d m : Nat} (ih : ∀ t k, kdOf P d t = some k → ∀ fuel cs x, DataW.trod enc P w 0 spare held fuel t cs = some x → cs.length = k.sz → ∃ y : El k, RepC w all k y cs ∧ WfK k y) :
    ∀ (l : List (Field × Kd)) (n : Nat), offsOk P n l = true → (∀ p ∈ l, kdOf P d p.1.type = some p.2 ∧ ∃ x, DataW.trod enc P w 0 spare held m p.1.type ((cs.drop p.1.offset).take (P.cellsOf p.1.type)) = some x) → n + ((l.map (·.2)).map Kd.sz).sum ≤ cs.length →
      Seqd w cs n (l.map (·.2))
  | [], n, _, _, _ => trivial
  | (f, k) :: l, n, ho, hp, hl => by
    unfold offsOk at ho
    simp only [Bool.and_eq_true] at ho
    obtain ⟨⟨h1, h2⟩, h3⟩ := ho
    have h1 := Nat.eq_of_beq_eq_true h1
    have h2 := Nat.eq_of_beq_eq_true h2
    obtain ⟨h4, x, h5⟩ := hp (f, k) (by simp)
    simp only [List.map_cons, List.sum_cons] at hl
    change DataW.trod enc P w 0 spare held m f.type ((cs.drop f.offset).take (P.cellsOf f.type)) = some x at h5
    rw [h1, h2] at h5
    refine ⟨ih _ _ h4 _ _ _ h5 (by simp; omega), fields_seq ih l (n + k.sz) h3 (fun p hp' => hp p (by simp [hp'])) (by omega)⟩

theorem same_seq {cs : List Value} {k : Kd} {n : Nat} (h : ∀ i, i < n → ∃ y : El k, RepC w all k y ((cs.drop (i * k.sz)).take k.sz) ∧ WfK k y) : ∀ (j : Nat), j ≤ n → Seqd w cs ((n - j) * k.sz) (List.replicate j k)
  | 0, _ => trivial
  | j + 1, hj => by
    refine ⟨h (n - (j + 1)) (by omega), ?_⟩
    have := same_seq h j (by omega)
    have e : (n - (j + 1)) * k.sz + k.sz = (n - j) * k.sz := by
      rw [← Nat.succ_mul]
      congr 1
      omega
    rw [e]
    exact this

theorem mapM_parts {α β : Type} {f : α → Option β} : ∀ {l : List α} {r : List β}, l.mapM f = some r → r = (l.zip r).map (·.2) ∧ ∀ p ∈ l.zip r, f p.1 = some p.2
  | [], r, h => by
    simp at h
    subst h
    exact ⟨rfl, fun p hp => by cases hp⟩
  | a :: l, r, h => by
    rw [List.mapM_cons] at h
    cases ha : f a with
    | none => simp [ha] at h
    | some b =>
      cases hl : l.mapM f with
      | none => simp [ha, hl] at h
      | some bs =>
        simp [ha, hl] at h
        subst h
        obtain ⟨h1, h2⟩ := mapM_parts hl
        refine ⟨by rw [List.zip_cons_cons, List.map_cons, ← h1], fun p hp => ?_⟩
        rw [List.zip_cons_cons] at hp
        rcases List.mem_cons.1 hp with rfl | hp
        · exact ha
        · exact h2 p hp

theorem trod_rep : ∀ (d : Nat) (t : TypeId) (k : Kd), kdOf P d t = some k → ∀ (fuel : Nat) (cs : List Value) (x : DataW H × List MemPlace), DataW.trod enc P w 0 spare held fuel t cs = some x → cs.length = k.sz → ∃ y : El k, RepC w all k y cs ∧ WfK k y
  | 0, t, k, hk, _, _, _, _, _ => by cases hk
  | d + 1, t, k, hk, fuel, cs, x, hx, hl => by
    unfold kdOf at hk
    split at hk
    · rename_i k' hu
      cases hk
      obtain ⟨n, rfl, _, hw⟩ := DataW.trod_int hu hx
      exact ⟨n, rfl, hw⟩
    · rename_i hu
      cases hk
      obtain ⟨b, rfl, _⟩ := DataW.trod_bool hu hx
      exact ⟨b, rfl, trivial⟩
    · rename_i hu
      cases hk
      obtain ⟨s, rfl, _, hw⟩ := DataW.trod_string hu hx
      exact ⟨s, rfl, hw⟩
    · rename_i e hu
      split at hk
      · rename_i k' hk'
        cases hb : (Nat.beq (P.cellsOf e) k'.sz && Nat.blt 0 k'.sz) with
        | false => rw [hb] at hk; cases hk
        | true =>
          rw [hb] at hk
          cases hk
          rw [Bool.and_eq_true] at hb
          have hc := Nat.eq_of_beq_eq_true hb.1
          have hpos : 0 < k'.sz := by simpa [Nat.blt_eq] using hb.2
          rcases DataW.trod_slice hu hx with ⟨rfl, _⟩ | ⟨a, len, cap, elems, rest, n, _, rfl, _, _, hle, hm, hlen, hel, _, _⟩
          · refine ⟨[], ⟨none, 0, rfl, Nat.le_refl _, fun h => by cases h⟩, ?_, fun x hx => by cases hx⟩
            show 0 ≤ maxLen
            omega
          · have each : ∀ i, i < len → ∃ y : El k', ((i = 0 → a.spot = none) ∧ ∃ cs T fr, w.heap[a.block]? = some (.cells cs T fr) ∧ a.off + i * k'.sz + k'.sz ≤ cs.size ∧ RepC w all k' y ((cs.toList.drop (a.off + i * k'.sz)).take k'.sz)) ∧ WfK k' y := fun i hi => by
              have h1 := hel i hi
              rw [List.getElem?_eq_getElem (by omega), Option.bind_eq_some_iff] at h1
              obtain ⟨l, h2, h3⟩ := h1
              rw [hc] at h2
              obtain ⟨h4, cs, T, fr, h5, h6, h7⟩ := cells_take h2 hpos
              obtain ⟨y, h8, h9⟩ := trod_rep d e k' hk' n l _ h3 (by rw [← h7]; simp; omega)
              rw [← h7] at h8
              rw [addr_block] at h5
              rw [addr_off] at h6 h8
              refine ⟨y, ⟨fun h0 => ?_, cs, T, fr, h5, h6, h8⟩, h9⟩
              subst h0
              rw [Nat.zero_mul] at h4
              exact h4
            obtain ⟨ys, hys, hq⟩ := choose_list len each
            refine ⟨ys, ⟨some a, cap, by rw [hys], by omega, fun hp => ?_⟩, by omega, fun y hy => ?_⟩
            · obtain ⟨h4, cs, T, fr, h5, _, _⟩ := (hq 0 (ys[0]'hp) (by simp)).1
              refine ⟨a, rfl, h4 rfl, trivial, cs, T, fr, h5, fun j y hy => ?_⟩
              obtain ⟨_, cs', T', fr', h6, h7, h8⟩ := (hq j y hy).1
              rw [h5] at h6
              cases h6
              exact ⟨h7, h8⟩
            · obtain ⟨i, hi⟩ := List.getElem?_of_mem hy
              exact (hq i y hi).2
      · cases hk
    · rename_i fs hu
      split at hk
      · rename_i ks hks
        cases ho : offsOk P 0 (fs.toList.zip ks) with
        | false => rw [ho] at hk; cases hk
        | true =>
          rw [ho] at hk
          cases hk
          obtain ⟨xs, m, _, _, _, hxs, hf⟩ := DataW.trod_struct hu hx
          obtain ⟨h1, h2⟩ := mapM_parts hks
          have hsz := kdList_sz ks
          have hseq := fields_seq (cs := cs) (m := m) (fun t k hk fuel cs x hx hl => trod_rep d t k hk fuel cs x hx hl) (fs.toList.zip ks) 0 ho (fun p hp => ⟨h2 p hp, ?_⟩) (by rw [← h1, ← hsz]; omega)
          · rw [← h1] at hseq
            obtain ⟨y, h3, h4⟩ := seq_rep hseq (by rw [← hsz]; omega)
            rw [List.drop_zero, List.take_of_length_le (by omega)] at h3
            exact ⟨y, h3, h4⟩
          · have hmem : p.1 ∈ fs.toList := (List.of_mem_zip hp).1
            obtain ⟨i, hi⟩ := List.getElem?_of_mem hmem
            rw [Array.getElem?_toList] at hi
            have hlt : i < fs.size := (Array.getElem?_eq_some_iff.1 hi).1
            exact ⟨xs[i]'(by omega), by rw [hf i p.1 hi, List.getElem?_eq_getElem (by omega)]⟩
      · cases hk
    · rename_i n e hu
      split at hk
      · rename_i k' hk'
        cases hb : Nat.beq (P.cellsOf e) k'.sz with
        | false => rw [hb] at hk; cases hk
        | true =>
          rw [hb] at hk
          cases hk
          have hc := Nat.eq_of_beq_eq_true hb
          obtain ⟨xs, m, _, _, _, hxs, hf⟩ := DataW.trod_array hu hx
          have hsz := kdList_sz (List.replicate n k')
          have hrep : ((List.replicate n k').map Kd.sz).sum = n * k'.sz := by simp
          have hseq := same_seq (w := w) (cs := cs) (k := k') (n := n) (fun i hi => ?_) n (Nat.le_refl _)
          · rw [Nat.sub_self, Nat.zero_mul] at hseq
            obtain ⟨y, h3, h4⟩ := seq_rep hseq (by rw [← hsz]; omega)
            rw [List.drop_zero, List.take_of_length_le (by omega)] at h3
            exact ⟨y, h3, h4⟩
          · have h1 := hf i hi
            rw [List.getElem?_eq_getElem (by omega), hc] at h1
            refine trod_rep d e k' hk' m _ _ h1 ?_
            have : i * k'.sz + k'.sz ≤ n * k'.sz := by
              rw [← Nat.succ_mul]
              exact Nat.mul_le_mul_right _ hi
            simp
            omega
      · cases hk
    · cases hk

end
end Go.Proofs.Ytmjbjlhjpdebjaa.Mini
