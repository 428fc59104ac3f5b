/- What a state costs is from 0 to eight for each symbol; costs of parts add up: a plain law. -/
import Derived.Test.YtdhpehihkppomaaPL
import Derived.Test.YtdhpehihkppomaaMCostBounds
set_option linter.unusedVariables false
namespace Go.Proofs.Ytdhpehihkppomaa.Mini
open Go Go.RowKit Go.Proofs

theorem sym00 : symV 0 0 = 0 := by
  unfold symV
  rw [if_pos (by decide)]
  decide +kernel
theorem wakes10 (k : Nat) (hk : 5001 ≤ k) : m26F k = some true := by
  simp only [m26F, m26X]
  have e : List.set (List.replicate 1 ((0 : Int), (0 : Int))) 0 (0, 255) = [(0, 255)] := rfl
  have c : costL 0 [(0, 255)] = 8 := by
    simp only [costL, cost1, sym00]
    decide +kernel
  rw [e, of_eq k hk 0 (by omega) (by omega) [(0, 255)] (by intro p hp; rw [List.mem_singleton] at hp; subst hp; exact ⟨⟨by decide, by decide⟩, by decide, by decide⟩) (by decide), Option.bind_some, c]
  rw [if_pos (eqI_pos rfl)]
  have e8 : eqI ((8 : Nat) : Int) 8 = true := eqI_pos rfl
  exact congrArg some e8
theorem turn_loop (k : Nat) (L : Int → List Int → List Int → Int → Int → Bool → Int → List (Int × Int) → Option Bool) (s : Int) (ps ts : List Int) (cut : Int) (own : Bool) (i at_ v : Int) (t : Nat) (ht : t < 256) (b0 : List (Int × Int)) :
    ∀ (n : Nat) (j : Nat) (w : Nat), n ≤ 8 → n < j → w + n ≤ 1000 → m11F33 k L j s ps ts cut (w : Int) own i at_ v (t : Int) ((8 - n : Nat) : Int) b0 = m11F38 k L s ps ts cut ((w + Pop.pop n (t / 2 ^ (8 - n)) : Nat) : Int) own i at_ v (t : Int) b0 := by
  intro n
  induction n with
  | zero =>
    intro j w _ hj _
    obtain ⟨j, rfl⟩ : ∃ m, j = m + 1 := ⟨j - 1, by omega⟩
    simp only [m11F33, m11X33]
    rw [if_neg (by rw [ltI_neg (by omega)]; simp)]
    have e0 : Pop.pop 0 (t / 2 ^ (8 - 0)) = 0 := by simp only [Pop.pop]
    rw [e0, Nat.add_zero]
  | succ n ih =>
    intro j w hn hj hw
    obtain ⟨j, rfl⟩ : ∃ m, j = m + 1 := ⟨j - 1, by omega⟩
    simp only [m11F33, m11X33]
    have hu : wr .u64 ((8 - (n + 1) : Nat) : Int) = ((8 - (n + 1) : Nat) : Int) := wu64 (by omega) (by omega)
    have hm : min (Int.toNat ((8 - (n + 1) : Nat) : Int)) 64 = 8 - (n + 1) := by omega
    have e8 : ((8 - (n + 1) : Nat) : Int) + 1 = ((8 - n : Nat) : Int) := by omega
    have hd : t / 2 ^ (8 - (n + 1)) < 256 := Nat.lt_of_le_of_lt (Nat.div_le_self _ _) ht
    have hb : bits .and .i64 ((t : Int) / p2 (8 - (n + 1))) 1 = ((t / 2 ^ (8 - (n + 1)) % 2 : Nat) : Int) := by
      have e : (t : Int) / p2 (8 - (n + 1)) = ((t / 2 ^ (8 - (n + 1)) : Nat) : Int) := rfl
      rw [e, Bv.and1 _ (by omega)]
    have hp : Pop.pop (n + 1) (t / 2 ^ (8 - (n + 1))) = t / 2 ^ (8 - (n + 1)) % 2 + Pop.pop n (t / 2 ^ (8 - n)) := by
      have e : t / 2 ^ (8 - n) = t / 2 ^ (8 - (n + 1)) / 2 := by
        rw [Nat.div_div_eq_div_mul, ← Nat.pow_succ]
        congr 2
        omega
      rw [e]
      exact Pop.pop_succ n _
    have h2 : t / 2 ^ (8 - (n + 1)) % 2 < 2 := Nat.mod_lt _ (by omega)
    rw [hu, if_pos (ltI_pos (by omega)), if_pos (leI_pos (by omega)), hm, hb, hp]
    have := ih j (w + t / 2 ^ (8 - (n + 1)) % 2) (by omega) (by omega)
    clear hb hp hd hm hu
    generalize t / 2 ^ (8 - (n + 1)) % 2 = z at h2 this ⊢
    rw [w64 (by omega) (by omega), w64 (by omega) (by omega), e8, ← Nat.add_assoc]
    exact this (by omega)
theorem xor_back (a b : Int) (ha : 0 ≤ a) (ha' : a < 256) (hb : 0 ≤ b) (hb' : b < 256) : bits .and .i64 (bits .xor .i64 a b) 255 = bits .xor .i64 a b ∧ bits .xor .i64 a (bits .xor .i64 a b) = b := by
  obtain ⟨m, rfl⟩ := Int.eq_ofNat_of_zero_le ha
  obtain ⟨n, rfl⟩ := Int.eq_ofNat_of_zero_le hb
  have hx : m ^^^ n < 2 ^ 8 := Nat.xor_lt_two_pow (by omega) (by omega)
  rw [Bv.xorN m n (by omega) (by omega), Bv.and255i _ (by omega), Bv.xorN m _ (by omega) (by omega), ← Nat.xor_assoc, Nat.xor_self, Nat.zero_xor, Nat.mod_eq_of_lt (by omega)]
  exact ⟨rfl, rfl⟩
theorem pair_set (d x : Int × Int) : List.set (List.replicate 1 d) 0 x = [x] := (congrArg (fun y : Int × Int => [y]) (Eq.refl x) : [x] = [x])
theorem cost_ar (n c x y z : Nat) (hn : n ≤ 16) (hc : c < n + 1) (hz : z ≤ 8 * n) (hs : x + y = z) : wr .i64 ((n : Int) + 1) = ((n + 1 : Nat) : Int) ∧ wr .u64 ((n + 1 : Nat) : Int) = ((n + 1 : Nat) : Int) ∧ wr .i64 (c : Int) = (c : Int) ∧ wr .i64 (8 * (n : Int)) = 8 * (n : Int) ∧
    (!eqI ((n + 1 : Nat) : Int) 0) = true ∧ leI 0 (c : Int) = true ∧ leI (c : Int) (n : Int) = true ∧ wr .i64 ((x : Int) + (y : Int)) = (z : Int) ∧ leI (z : Int) (8 * (n : Int)) = true :=
  ⟨w64s (by omega), wu64 (by omega) (by omega), w64n (by omega), w64 (by omega) (by omega), by rw [eqI_neg (by omega)]; rfl, leI_pos (by omega), leI_pos (by omega), by rw [w64 (by omega) (by omega)]; omega, leI_pos (by omega)⟩
theorem cost_fin (k : Nat) (hk : 5001 ≤ k) (s : Int) (hs : 0 ≤ s) (hs' : s < 4294967296) (cut : Int) (b0 : List (Int × Int)) (hb : ∀ p ∈ b0, okSym p) (hn : b0.length ≤ 16) :
    m11F42 k s cut (costL s b0 : Int) (eqI (costL s b0 : Int) 0) b0 = some true := by
  have h1 := of_eq k hk s hs hs' b0 hb hn
  obtain ⟨c, hc, ec⟩ := umod0 cut (b0.length + 1) (Nat.succ_pos _)
  have h2 := of_eq k hk s hs hs' (b0.take c) (fun p hp => hb p (List.mem_of_mem_take hp)) (Nat.le_trans (List.length_take_le _ _) (Nat.le_of_lt_succ (Nat.lt_of_lt_of_le hc (Nat.succ_le_succ hn))))
  have h3 := of_eq k hk s hs hs' (b0.drop c) (fun p hp => hb p (List.mem_of_mem_drop hp)) (Nat.le_trans (by rw [List.length_drop]; exact Nat.sub_le _ _) hn)
  have h4 : (b0.drop c).take (b0.length - c) = b0.drop c := List.take_of_length_le (by rw [List.length_drop]; exact Nat.le_refl _)
  have hsum : costL s (b0.take c) + costL s (b0.drop c) = costL s b0 := by rw [← costL_append, List.take_append_drop]
  obtain ⟨wl, wl2, wc, w8, n0, c0, c1, wsum, e2⟩ := cost_ar b0.length c _ _ _ hn hc (costL_le s b0) hsum
  have e0 : eqI (0 : Int) 0 = true := eqI_pos rfl
  have e1 : eqI (costL s b0 : Int) (costL s b0 : Int) = true := eqI_pos rfl
  simp only [m11F42, m11X42, h1, Option.bind_some, wl, wl2, ec, wc, n0, c0, c1, if_true, Int.toNat_natCast, List.drop_zero, h2, h4, h3, e0, e1, w8, e2, wsum, beq_self_eq_true, wakes10 k hk]
theorem cost_ar2 (n c t : Nat) (hn : n ≤ 16) : wr .i64 ((n : Int) + 1) = (n : Int) + 1 ∧ leI (((n + 1) * 16 : Nat) : Int) 140737488355328 = true ∧
    (c = 0 → eqI (c : Int) 0 = true ∧ ((t = 0 ↔ Pop.pop 8 t = 0) → eqI ((c + Pop.pop 8 t : Nat) : Int) 0 = eqI (t : Int) 0)) ∧ (c ≠ 0 → eqI (c : Int) 0 = false ∧ eqI ((c + Pop.pop 8 t : Nat) : Int) 0 = false) := by
  refine ⟨w64 (by omega) (by omega), leI_pos (by omega), fun h => ⟨eqI_pos (by omega), fun hz => ?_⟩, fun h => ⟨eqI_neg (by omega), eqI_neg (by omega)⟩⟩
  by_cases ht : t = 0
  · rw [eqI_pos (by have := hz.1 ht; omega), eqI_pos (by omega)]
  · rw [eqI_neg (fun h2 => ht (hz.2 (by omega))), eqI_neg (by omega)]
theorem cost_outer (k : Nat) (hk : 5001 ≤ k) (s : Int) (hs : 0 ≤ s) (hs' : s < 4294967296) (ps ts : List Int) (cut : Int) (hts : ∀ c ∈ ts, Crc.isByte c) (hn : ps.length ≤ 16) :
    ∀ (n j : Nat) (b0 : List (Int × Int)), b0.length + n = ps.length → n < j → (∀ p ∈ b0, okSym p) → m11F13 k j s ps ts cut (costL s b0 : Int) (eqI (costL s b0 : Int) 0) (b0.length : Int) b0 = some true := by
  intro n
  induction n with
  | zero =>
    intro j b0 hl hj hb
    obtain ⟨j, rfl⟩ : ∃ m, j = m + 1 := ⟨j - 1, by omega⟩
    simp only [m11F13, m11X13]
    rw [if_neg (by rw [ltI_neg (by omega)]; simp)]
    exact cost_fin k hk s hs hs' cut b0 hb (by omega)
  | succ n ih =>
    intro j b0 hl hj hb
    obtain ⟨j, rfl⟩ : ∃ m, j = m + 1 := ⟨j - 1, by omega⟩
    obtain ⟨a, ha, ea⟩ := umod0 (ps.getD b0.length 0) 256 (by decide)
    have e256 : ((256 : Nat) : Int) = 256 := rfl
    rw [e256] at ea
    have wa : wr .i64 (a : Int) = (a : Int) := w64n (by omega)
    have hv := symV_byte s a hs hs'
    have hle := costL_le s b0
    have key : ∀ t : Nat, t < 256 → m11F30 k (m11F13 k j) s ps ts cut (costL s b0 : Int) (eqI (costL s b0 : Int) 0) (b0.length : Int) (a : Int) (symV s a) (t : Int) b0 = some true := by
      intro t ht
      have h1 := turn_loop k (m11F13 k j) s ps ts cut (eqI (costL s b0 : Int) 0) (b0.length : Int) (a : Int) (symV s a) t ht b0 8 k (costL s b0) (by omega) (by omega) (by omega)
      have e0 : ((8 - 8 : Nat) : Int) = 0 := rfl
      have et : t / 2 ^ (8 - 8) = t := by simp
      rw [e0, et] at h1
      simp only [m11F30, m11X30, h1]
      obtain ⟨x1, x2⟩ := xor_back (symV s a) t hv.1 hv.2 (by omega) (by omega)
      obtain ⟨y1, y2⟩ := byte_xor hv.1 hv.2 (show (0 : Int) ≤ t by omega) (show (t : Int) < 256 by omega)
      have hp : okSym ((a : Int), bits .xor .i64 (symV s a) t) := ⟨⟨Int.natCast_nonneg _, Int.le_of_lt_add_one (Int.ofNat_lt.2 ha)⟩, y1, Int.le_of_lt_add_one y2⟩
      have hc : costL s (b0 ++ [((a : Int), bits .xor .i64 (symV s a) t)]) = costL s b0 + Pop.pop 8 t := by
        rw [costL_append]
        simp only [costL, cost1, x2, Int.toNat_natCast, Nat.add_zero]
      have hz : Pop.pop 8 t = 0 ↔ t = 0 := Pop.pop_eq_zero 8 t (by omega)
      have h2 := ih j (b0 ++ [((a : Int), bits .xor .i64 (symV s a) t)]) (by simp; omega) (by omega) (fun p hp' => by
        rcases List.mem_append.1 hp' with h | h
        · exact hb p h
        · rw [List.mem_singleton] at h
          rw [h]
          exact hp)
      have hlen : ((b0 ++ [((a : Int), bits .xor .i64 (symV s a) t)]).length : Int) = (b0.length : Int) + 1 := by simp
      rw [hc, hlen] at h2
      obtain ⟨w1, c0, k1, k2⟩ := cost_ar2 b0.length (costL s b0) t (by omega)
      simp only [m11F38, m11X38, m11F14, m11X14, pair_set, x1, List.length_singleton, c0, if_true, w1]
      by_cases h0 : costL s b0 = 0
      · obtain ⟨k3, k4⟩ := k1 h0
        rw [k4 hz.symm] at h2
        rw [if_pos k3]
        exact h2
      · obtain ⟨k3, k4⟩ := k2 h0
        rw [k4] at h2
        rw [if_neg (by rw [k3]; simp)]
        exact h2
    have q0 : (!eqI (0 : Int) 0) = false := by rw [eqI_pos rfl]; rfl
    have q1 : (!eqI (256 : Int) 0) = true := by rw [eqI_neg (by decide)]; rfl
    have c0 : leI 0 (b0.length : Int) = true := leI_pos (by omega)
    have c1 : ltI (b0.length : Int) (ps.length : Int) = true := ltI_pos (by omega)
    simp only [m11F13, m11X13, c0, c1, q1, if_true, Int.toNat_natCast, ea, wa, sym_eq k s a hs hs' (by omega) (by omega), Option.bind_some, q0, Bool.false_eq_true, if_false]
    by_cases hlt : b0.length < ts.length
    · rw [if_pos (ltI_pos (by omega)), if_pos (ltI_pos (by omega))]
      have hm : ts.getD b0.length 0 ∈ ts := by
        rw [List.getD_eq_getElem?_getD, List.getElem?_eq_getElem hlt]
        exact List.getElem_mem hlt
      obtain ⟨t, ht, et⟩ : ∃ t : Nat, t < 256 ∧ ts.getD b0.length 0 = (t : Int) := by
        obtain ⟨h1, h2⟩ := hts _ hm
        exact ⟨(ts.getD b0.length 0).toNat, by omega, by omega⟩
      rw [et, w64n (by omega)]
      exact key t ht
    · rw [if_neg (by rw [ltI_neg (by omega)]; simp)]
      exact key 0 (by omega)
theorem costBounds (s : Int) (places turns : List Int) (cut : Int) (ws : (Lit.int .u32 s).wf = true) (wp : WfK (.row (.int .i64)) places) (wt : WfK (.row (.int .u8)) turns) (wc : (Lit.int .i64 cut).wf = true) : ∃ k, m11F k s places turns cut = some true := by
  refine ⟨6000, ?_⟩
  obtain ⟨hs, hs'⟩ := Bv.wf_u32 ws
  simp only [m11F, m11X]
  by_cases hn : places.length ≤ 16
  · rw [if_neg (by rw [ltI_neg (by omega)]; simp)]
    have := cost_outer 6000 (by decide) s hs hs' places turns cut (bytes_wf wt) hn places.length 6000 [] (by simp) (by omega) (fun p hp => by cases hp)
    have e : eqI ((costL s [] : Nat) : Int) 0 = true := eqI_pos rfl
    rw [e] at this
    exact this
  · rw [if_pos (ltI_pos (by omega))]

end Go.Proofs.Ytdhpehihkppomaa.Mini
