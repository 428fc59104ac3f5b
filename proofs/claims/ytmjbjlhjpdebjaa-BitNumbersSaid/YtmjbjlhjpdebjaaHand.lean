/- bit.apart, by hand: a range over a function: its parts, one by one; and that this is what the program does. -/
import Derived.RangeFuncBox
import Derived.RangeFuncNested
import Derived.RangeFuncBound
import Derived.RangeFuncCalls
import Derived.Shelf.RegionOpen
import Derived.RangeFuncLeaves
import Derived.Shelf.Abstract
import Derived.WalkKit
import Derived.OwnWalkIn
import Derived.TacticsInMore
import Derived.LoopNIn
import Derived.LoopIn
import Derived.Maps.AppendAt
import Derived.Test.YtmjbjlhjpdebjaaXMO
import Derived.Test.YtmjbjlhjpdebjaaProg
namespace Go.Proofs
open Go.RowKit Go.Shelf
attribute [local go_sem] Oper.semAt_some

/-- A byte's part, as the program reckons it. -/
def Try.pt (size : Nat) (c : Int) (m : Nat) : Int := bits .and .i64 (IntKind.i64.wrap c / 2 ^ min (((m : Int) * size).toNat - size) 64) (IntKind.i64.wrap (IntKind.i64.wrap (2 ^ size) - 1))
/-- The parts of a byte from a place on. -/
def Try.dn (size : Nat) (c : Int) : Nat → List Int
  | 0 => []
  | m + 1 => Try.pt size c (m + 1) :: Try.dn size c m
/-- The parts of the first k bytes. -/
def Try.all (size : Nat) (zs : List Int) (k : Nat) : List Int := (zs.take k).flatMap fun c => Try.dn size c (8 / size)

theorem Try.wrap_id {n : Int} (h0 : -9223372036854775808 ≤ n) (h1 : n < 9223372036854775808) : wrap64 n = n := by
  unfold wrap64
  omega
theorem Try.dn_len (size : Nat) (c : Int) : ∀ m, (Try.dn size c m).length = m
  | 0 => rfl
  | m + 1 => by rw [Try.dn, List.length_cons, Try.dn_len]
theorem Try.all_len (size : Nat) (zs : List Int) (k : Nat) (h : k ≤ zs.length) : (Try.all size zs k).length = k * (8 / size) := by
  unfold Try.all
  rw [List.length_flatMap]
  have : (List.map (fun c => (Try.dn size c (8 / size)).length) (zs.take k)) = List.replicate k (8 / size) := by
    apply List.ext_getElem
    · simp [h]
    · intro i h1 h2
      simp [Try.dn_len]
  rw [this]
  simp
theorem Try.all_succ (size : Nat) (zs : List Int) (k : Nat) (h : k < zs.length) : Try.all size zs (k + 1) = Try.all size zs k ++ Try.dn size (zs[k]?.getD 0) (8 / size) := by
  unfold Try.all
  rw [List.take_add_one, List.flatMap_append, List.getElem?_eq_getElem h]
  simp
theorem Try.two_ways {e : Ending} {A B : Prop} (h : (e = .returned (.bool true) ∧ A) ∨ (e = .returned (.bool false) ∧ B)) : ∃ bv : Bool, e = .returned (.bool bv) ∧ (bv = true → A) ∧ (bv = false → B) := by
  rcases h with ⟨rfl, h⟩ | ⟨rfl, h⟩
  · exact ⟨true, rfl, fun _ => h, fun h => (by cases h)⟩
  · exact ⟨false, rfl, fun h => (by cases h), fun _ => h⟩
set_option maxRecDepth 100000 in
set_option maxHeartbeats 1000000 in
theorem Try.parts1_in (n : Nat) (hn : 1 ≤ n) (l Bb Bs n₀ b off len cap size : Nat) (zs : List Int) (hlz : zs.length = len) (hreach : len ≤ 4096) (hb : b < n₀) (hsz : size = 1 ∨ size = 4)
    (J Jx : List Int → World → Prop) (W : World) (hJ : AbidesFrom W.heap.size J)
    (hY : ∀ pre x W, J pre W → pre.length < 8 * len → YieldAt Fence.wide (n - 1) Try.prog l #[.int .i64 x] W fun e W' =>
      (e = .returned (.bool true) ∧ J (pre ++ [x]) W' ∧ (Below n₀ W W' ∧ (Boxed W Bs 3 (.int .i64 size) → Boxed W' Bs 3 (.int .i64 size)))) ∨ (e = .returned (.bool false) ∧ Jx (pre ++ [x]) W'))
    (hBb : W.cell? ⟨Bb, 0, none⟩ = some (.slice (some ⟨b, off, none⟩) len cap)) (hBs : Boxed W Bs 3 (.int .i64 size)) (hc : ∀ j, j < len → W.cell? ⟨b, off + j, none⟩ = some (.int .u8 (zs[j]?.getD 0))) (h0 : J [] W) :
    CallsIn Fence.wide n Try.prog 42 #[.func (.yield l) #[] #[], .pointer (some ⟨Bb, 0, none⟩), .pointer (some ⟨Bs, 0, none⟩)] W fun e W' => (∃ v, e = .returned v) ∧
      ((∃ ys, ys = Try.all size zs len ∧ J ys W') ∨ (∃ pre, True ∧ Jx pre W')) := by
  refine callsIn_of_wp Try.func42 rfl trivial ?_ rfl
  simp only [Try.ntmps42, List.size_toArray, List.length_cons, List.length_nil, Nat.reduceAdd, Nat.reduceSub, Array.replicate_succ, Array.replicate_zero, List.push_toArray, List.append_toArray, List.nil_append, List.cons_append]
  have hcs := hBs.cell
  gi_wp2
  gi_loopw [9] (fun i wr => ∃ k : Nat, k ≤ len ∧ i = .int .i64 k ∧ J (Try.all size zs k) wr ∧ Below n₀ W wr ∧ Boxed wr Bs 3 (.int .i64 size))
    (fun i _ => len - (intOf i).toNat)
  case atStart => exact ⟨0, Nat.zero_le _, rfl, h0, Below.refl _ _, hBs⟩
  case round =>
    obtain ⟨k, hk, rfl, hJs, hnx, hBw⟩ := hrel
    have hcx : k < len → wr.cell? ⟨b, off + k, none⟩ = some (.int .u8 (zs[k]?.getD 0)) := fun h => (hnx.cell (p := ⟨b, off + k, none⟩) hb).trans (hc k h)
    have hcw := hBw.cell
    by_cases hlt : k < len
    · have hcx' := hcx hlt
      gi_wp2
      gi_loopw [6] (fun i wr2 => ∃ (m : Nat) (pre : List Int), m ≤ 8 / size ∧ i = .int .i64 ((m : Int) * size - size) ∧ pre ++ Try.dn size (zs[k]?.getD 0) m = Try.dn size (zs[k]?.getD 0) (8 / size) ∧ J (Try.all size zs k ++ pre) wr2 ∧ Below n₀ W wr2 ∧ Boxed wr2 Bs 3 (.int .i64 size))
        (fun i _ => (intOf i + size).toNat)
      case atStart => exact ⟨8 / size, [], Nat.le_refl _, by rcases hsz with rfl | rfl <;> rfl, rfl, by rw [List.append_nil]; exact hJs, hnx, hBw⟩
      case round =>
        obtain ⟨m, pre, hm, rfl, hpre, hJ2, hn2, hB2⟩ := hrel
        have hc2 := hB2.cell
        have hmx : Try.prog.follows .mixedOrders = true := by kernel_rfl
        by_cases hm0 : 0 ≤ (m : Int) * size - size
        · have hJd : J (Try.all size zs k ++ pre) wr.drew := hJ _ _ _ none hJ2 ⟨rfl, rfl, rfl, Nat.le_refl _, fun _ _ _ => rfl⟩ (fun r e => by cases e)
          have hlen : (Try.all size zs k ++ pre).length < 8 * len := by
            have h1 := congrArg List.length hpre
            rw [List.length_append, Try.dn_len, Try.dn_len] at h1
            rw [List.length_append, Try.all_len size zs k (by omega)]
            rcases hsz with rfl | rfl
            · have : 8 / 1 = 8 := rfl
              rw [this] at *
              omega
            · have : 8 / 4 = 2 := rfl
              rw [this] at *
              omega
          obtain ⟨fn, tmps, assign, body, hy, hR⟩ := hY (Try.all size zs k ++ pre) (Try.pt size (zs[k]'(by omega)) m) wr.drew hJd hlen
          unfold Try.pt at hy
          gi_wp2
          gi_region_with_o (refine hR.mono ?_; clear hR hy hY; rintro e W3 hW3; obtain ⟨bv, rfl, hy1, hy2⟩ := Try.two_ways hW3; clear hW3; dsimp only)
          cases bv with
          | true =>
            obtain ⟨hJ3, hb3, hB3⟩ := hy1 rfl
            have hB4 := hB3 hB2
            have hc4 := hB4.cell
            gi_wp2
            go_roundw
            case rel =>
              have hms : (size : Int) ≤ (m : Int) * size := by omega
              obtain ⟨m', hm'⟩ : ∃ m', m = m' + 1 := by
                cases m with
                | zero => rcases hsz with rfl | rfl <;> simp at hms
                | succ m' => exact ⟨m', rfl⟩
              have hm8 : m' + 1 ≤ 8 := by
                rcases hsz with rfl | rfl
                · have : 8 / 1 = 8 := rfl
                  omega
                · have : 8 / 4 = 2 := rfl
                  omega
              have e1 : wrap64 ((m : Int) * size - size - size) = ((m' : Int) * size - size) := by
                subst hm'
                rcases hsz with rfl | rfl <;> (rw [Try.wrap_id (by omega) (by omega)]; omega)
              have hx : zs[k]?.getD 0 = zs[k]'(by omega) := by rw [List.getElem?_eq_getElem (by omega)]; rfl
              have e2 : Try.dn size (zs[k]?.getD 0) m = Try.pt size (zs[k]'(by omega)) m :: Try.dn size (zs[k]?.getD 0) m' := by
                rw [hm', hx]
                rfl
              refine ⟨m', pre ++ [Try.pt size (zs[k]'(by omega)) m], by omega, by rw [e1], ?_, ?_, hn2.trans (((⟨rfl, rfl, rfl, Nat.le_refl _, fun _ _ => rfl⟩ : Below n₀ wr wr.drew)).trans hb3), hB4⟩
              · rw [← hpre, e2]
                simp
              · rw [← List.append_assoc]
                exact hJ3
            case measure =>
              have hms : (size : Int) ≤ (m : Int) * size := by omega
              have hs0 : (0 : Int) < size := by rcases hsz with rfl | rfl <;> decide
              have hm8 : (m : Int) * size ≤ 32 := by
                rcases hsz with rfl | rfl
                · have : 8 / 1 = 8 := rfl
                  omega
                · have : 8 / 4 = 2 := rfl
                  omega
              have hs4 : (size : Int) ≤ 4 := by rcases hsz with rfl | rfl <;> decide
              show (wrap64 ((m : Int) * size - size - size) + size).toNat < ((m : Int) * size - size + size).toNat
              rw [Try.wrap_id (by omega) (by omega)]
              omega
          | false =>
            gi_wp2
            refine bodyPost_ret (results_none rfl _ _ _) rfl ?_
            exact ⟨⟨_, rfl⟩, .inr ⟨_, by first | exact hy2 rfl | exact hy2 trivial⟩⟩
        · gi_wp2
          have hm0' : m = 0 := by
            rcases hsz with rfl | rfl <;> omega
          subst hm0'
          rw [Try.dn, List.append_nil] at hpre
          refine ⟨⟨k + 1, by omega, by simp, ?_, hn2, hB2⟩, by simp [intOf]; omega⟩
          rw [Try.all_succ size zs k (by omega), ← hpre]
          exact hJ2
    · obtain rfl : k = len := by omega
      gi_wp2
      go_end0
      exact ⟨⟨_, rfl⟩, .inl ⟨_, rfl, hJs⟩⟩
set_option maxRecDepth 100000 in
set_option maxHeartbeats 1000000 in
theorem Try.parts1_nil_in (n : Nat) (l Bb Bs : Nat) (A : Option Addr) (cap : Nat) (J : List Int → World → Prop) (W : World) (hBb : W.cell? ⟨Bb, 0, none⟩ = some (.slice A 0 cap)) (h0 : J [] W) :
    CallsIn Fence.wide n Try.prog 42 #[.func (.yield l) #[] #[], .pointer (some ⟨Bb, 0, none⟩), .pointer (some ⟨Bs, 0, none⟩)] W fun e W' => (∃ v, e = .returned v) ∧ J [] W' := by
  refine callsIn_of_wp Try.func42 rfl trivial ?_ rfl
  simp only [Try.ntmps42, List.size_toArray, List.length_cons, List.length_nil, Nat.reduceAdd, Nat.reduceSub, Array.replicate_succ, Array.replicate_zero, List.push_toArray, List.append_toArray, List.nil_append, List.cons_append]
  gi_wp2
  gi_loopw [9] (fun i wr => i = .int .i64 0 ∧ J [] wr) (fun _ _ => 0)
  case atStart => exact ⟨rfl, h0⟩
  case round =>
    obtain ⟨rfl, hJs⟩ := hrel
    gi_wp2
    go_end0
    exact ⟨⟨_, rfl⟩, hJs⟩
set_option maxHeartbeats 1000000 in
theorem Try.parts_in (n : Nat) (v0 : Value) (size : Int) (w : World) (hv : ∃ A len cap, v0 = .slice A len cap) :
    CallsIn Fence.wide n Try.prog 38 #[v0, .int .i64 size] w fun e w' => e = .returned (.func (.func 42) #[] #[.pointer (some ⟨w.heap.size, 0, none⟩), .pointer (some ⟨w.heap.size + 1, 0, none⟩)]) ∧ w' = (w.alloc (.cells #[v0] 26)).alloc (.cells #[.int .i64 size] 3) := by
  obtain ⟨A, len, cap, rfl⟩ := hv
  refine callsIn_of_wp Try.func38 rfl trivial ?_ rfl
  simp only [Try.ntmps38, List.size_toArray, List.length_cons, List.length_nil, Nat.reduceAdd, Nat.reduceSub, Array.replicate_succ, Array.replicate_zero, List.push_toArray, List.append_toArray, List.nil_append, List.cons_append]
  gi_wp2
  go_ret
  exact ⟨rfl, rfl⟩
def Try.Kp (n₀ Bs size : Nat) (W W' : World) : Prop := Below n₀ W W' ∧ (Boxed W Bs 3 (.int .i64 size) → Boxed W' Bs 3 (.int .i64 size))
theorem Try.Kp_t {n₀ Bs size : Nat} {A B C : World} (h : Try.Kp n₀ Bs size A B) (k : Try.Kp n₀ Bs size B C) : Try.Kp n₀ Bs size A C := ⟨h.1.trans k.1, fun x => k.2 (h.2 x)⟩
theorem Try.Kp_b {n₀ Bs size : Nat} {w : World} (hn : n₀ ≤ w.heap.size) (hb : Bs < w.heap.size) (W : World) (l : Nat) (o o' : Obj) (hl : w.heap.size ≤ l) (h : W.heap[l]? = some o) (h1 : o.isCells = false) (h2 : o.isWalk = false) : Try.Kp n₀ Bs size W (W.putObj l o') :=
  ⟨belowK_b hn W l o o' hl h h1 h2, fun hx => hx.kept (grownBy_putObj' W l o') (by simp; omega)⟩
/-- A slice's bytes in memory. -/
def Try.Sl (W : World) (n₀ : Nat) (v : Value) (zs : List Int) : Prop := ∃ A cap, v = .slice A zs.length cap ∧ (zs = [] ∨ ∃ b off, A = some ⟨b, off, none⟩ ∧ b < n₀ ∧ ∀ j, j < zs.length → W.cell? ⟨b, off + j, none⟩ = some (.int .u8 (zs[j]?.getD 0)))
theorem Try.parts_stops (n : Nat) (hn : 1 ≤ n) (Bb n₀ size : Nat) (v0 : Value) (zs : List Int) (hreach : zs.length ≤ 4096) (hsz : size = 1 ∨ size = 4) (w : World) (hB : Bb + 1 < w.heap.size) (hn₀ : n₀ ≤ w.heap.size) (hb : w.cell? ⟨Bb, 0, none⟩ = some v0) (hs : Boxed w (Bb + 1) 3 (.int .i64 size)) (hsl : Try.Sl w n₀ v0 zs) :
    SeqStopsK Fence.wide n Try.prog 42 #[.pointer (some ⟨Bb, 0, none⟩), .pointer (some ⟨Bb + 1, 0, none⟩)] (fun x : Int => #[Value.int .i64 x]) (Try.Kp n₀ (Bb + 1) size) (fun ys => ys = Try.all size zs zs.length) (fun _ => True) (8 * zs.length) w := fun l J Jx W hW hJ hJx hY h0 => by
  have hbW : W.cell? ⟨Bb, 0, none⟩ = some v0 := (hW.cell (p := ⟨Bb, 0, none⟩) (show Bb < w.heap.size by omega)).trans hb
  have hsW : Boxed W (Bb + 1) 3 (.int .i64 size) := (hW.block (Bb + 1) hB).trans hs
  obtain ⟨A, cap, rfl, h⟩ := hsl
  rcases h with rfl | ⟨b, off, rfl, hb0, hc⟩
  · refine (Try.parts1_nil_in n l Bb (Bb + 1) A cap J W hbW h0).mono ?_
    rintro e W' ⟨he, hj⟩
    exact ⟨he, .inl ⟨_, rfl, hj⟩⟩
  · refine (Try.parts1_in n hn l Bb (Bb + 1) n₀ b off zs.length cap size zs rfl hreach hb0 hsz J Jx W hJ hY hbW hsW (fun j hj => (hW.cell (p := ⟨b, off + j, none⟩) (show b < w.heap.size by omega)).trans (hc j hj)) h0).mono ?_
    rintro e W' ⟨he, hj⟩
    exact ⟨he, hj⟩
theorem Try.row_le {w : World} {base base' size n : Nat} {e : TypeId} {v : Value} {xs : List Value} (h : w.ownsRow base e size v n xs) (hb : base' ≤ base) : w.ownsRow base' e size v n xs :=
  ⟨h.1, h.2.elim .inl fun ⟨g, cap, cur, hv, hg, r⟩ => .inr ⟨g, cap, cur, hv, Nat.le_trans hb hg, r⟩⟩
theorem Try.row_ne {w : World} {base size n B : Nat} {e : TypeId} {v : Value} {xs : List Value} (h : w.ownsRow base e size v n xs) (hb : B < base) : some B ≠ v.ownBlock := by
  rcases h.2 with ⟨rfl, _⟩ | ⟨g, cap, cur, rfl, hg, _⟩
  · simp [Value.ownBlock]
  · simp [Value.ownBlock]
    omega
theorem Try.info3 : (Try.prog.info? 3).map (fun i => (i.zero, i.size, i.bytes)) = some (some (.int .i64 0), 1, 8) := by kernel_rfl
set_option maxRecDepth 100000 in
set_option maxHeartbeats 2000000 in
theorem Try.apart_in (n : Nat) (hn : 3 ≤ n) (v0 : Value) (size : Nat) (zs : List Int) (hreach : zs.length ≤ 4096) (hsz : size = 1 ∨ size = 4) (w : World) (hsl : Try.Sl w w.heap.size v0 zs) :
    CallsIn Fence.wide n Try.prog 34 #[v0, .int .i64 size] w fun e W' => ∃ v, e = .returned (.tuple #[v, .int .i64 0]) ∧ W'.ownsRow w.heap.size 3 1 v (Try.all size zs zs.length).length ((Try.all size zs zs.length).map (Value.int .i64)) ∧ Below w.heap.size w W' := by
  have h1 : 1 ≤ n := by omega
  obtain ⟨i0, hi, hz0, hz1, hz2⟩ := info_parts Try.info3
  obtain ⟨A, cap, rfl, hsl'⟩ := hsl
  refine callsIn_of_wp_marks Try.func34 rfl trivial ?_ rfl
  simp only [Try.ntmps34, List.size_toArray, List.length_cons, List.length_nil, Nat.reduceAdd, Nat.reduceSub, Array.replicate_succ, Array.replicate_zero, List.push_toArray, List.append_toArray, List.nil_append, List.cons_append]
  gi_wp2_with (refine ⟨trivial, ?_⟩; gi_at_call 38; refine (Try.parts_in (n - 1) _ _ _ ⟨_, _, _, rfl⟩).mono ?_; rintro e w' ⟨rfl, rfl⟩)
  have bO := Boxed.new w 28 (.slice none 0 0)
  have bB := Boxed.new (w.alloc (.cells #[.slice none 0 0] 28)) 26 (.slice A zs.length cap)
  have bS := Boxed.new ((w.alloc (.cells #[.slice none 0 0] 28)).alloc (.cells #[.slice A zs.length cap] 26)) 3 (.int .i64 size)
  rw [World.size_alloc] at bB
  rw [World.size_alloc, World.size_alloc] at bS
  have hB0 : Below w.heap.size w (((w.alloc (.cells #[.slice none 0 0] 28)).alloc (.cells #[.slice A zs.length cap] 26)).alloc (.cells #[.int .i64 size] 3)) := (((Below.refl _ w).alloc (Nat.le_refl _) _).alloc (by simp) _).alloc (by simp; omega) _
  obtain ⟨w3, hw3⟩ : ∃ w3, ((w.alloc (.cells #[.slice none 0 0] 28)).alloc (.cells #[.slice A zs.length cap] 26)).alloc (.cells #[.int .i64 size] 3) = w3 := ⟨_, rfl⟩
  have hsz3 : w3.heap.size = w.heap.size + 3 := by rw [← hw3]; simp
  have bO3 : Boxed w3 w.heap.size 28 (.slice none 0 0) := by rw [← hw3]; exact (bO.alloc _).alloc _
  have bB3 : Boxed w3 (w.heap.size + 1) 26 (.slice A zs.length cap) := by rw [← hw3]; exact bB.alloc _
  have bS3 : Boxed w3 (w.heap.size + 1 + 1) 3 (.int .i64 size) := by rw [← hw3]; exact bS
  have hsl3 : Try.Sl w3 w.heap.size (.slice A zs.length cap) zs := by
    refine ⟨A, cap, rfl, hsl'.imp id ?_⟩
    rintro ⟨b, off, rfl, hb, hc⟩
    refine ⟨b, off, rfl, hb, fun j hj => ?_⟩
    rw [← hw3]
    exact (hB0.cell (p := ⟨b, off + j, none⟩) hb).trans (hc j hj)
  rw [hw3] at hB0 ⊢
  refine wpIn_rangeFunc_ownG rfl h1 (gf := 42) (lb := #[.pointer (some ⟨w.heap.size + 1, 0, none⟩), .pointer (some ⟨w.heap.size + 1 + 1, 0, none⟩)]) rfl trivial (enters_of Try.func42 (by kernel_rfl) rfl)
    (Try.parts_stops (n - 1) (by omega) (w.heap.size + 1) w.heap.size size _ zs hreach hsz w3 (by omega) (by omega) bB3.cell bS3 hsl3) Try.Kp_t (Try.Kp_b (by omega) (by omega)) (Below.refl _ _) (fun _ => rfl)
    (fun (pre : List Int) W => (∃ v, Boxed W w.heap.size 28 v ∧ W.ownsRow (w.heap.size + 3) 3 1 v pre.length (pre.map (Value.int .i64)) ∧ True) ∧ Below w.heap.size w3 W)
    (fun _ _ _ => False)
    (OwnFrom.and (Own.from (holdsRow_own (w.heap.size + 3) w.heap.size 28 3 1 (fun pre : List Int => pre.length) (fun pre : List Int => pre.map (Value.int .i64)) (fun _ _ => True)) _) (ownFrom_below (by omega) (by omega)))
    (fun _ _ _ _ _ hs _ _ => hs)
    ⟨⟨_, bO3, World.ownsRow_nil _ _ _ _, trivial⟩, Below.refl _ _⟩
    (fun x => { tmps := #[.slice A zs.length cap, .int .i64 size, undef, undef, .slice none 0 0, .int .i64 0, .pointer (some ⟨w.heap.size, 0, none⟩), .int .i64 x, .slice A zs.length cap, .int .i64 zs.length, .bool (decide ((4096 : Int) < (zs.length : Int))), .slice A zs.length cap, .int .i64 size, .func (.func 42) #[] #[.pointer (some ⟨w.heap.size + 1, 0, none⟩), .pointer (some ⟨w.heap.size + 1 + 1, 0, none⟩)], .int .i64 x, undef, undef, undef, undef, undef], defers := [] }) ?assign ?body ?done ?stop
  case assign =>
    intro l x W K hK
    gi_wp2
    exact hK
  case body =>
    rintro l pre x W ⟨⟨v, hv, hrow, _⟩, hB⟩ hlt
    have hc := hv.cell
    have hsW : w.heap.size + 3 ≤ W.heap.size := by have := hB.size; omega
    have hm1 : pre.length + 1 ≤ maxLen := by unfold maxLen; omega
    have hm2 : (pre.length + 1) * 8 ≤ 140737488355328 := by omega
    gi_wp2_with (gi_at_builtin; refine wpListIn_append_own _ rfl _ _ 28 rfl (w.heap.size + 3) 3 i0 (.int .i64 0) 1 8 Try.underlying28 hi hz0 hz1 hz2 rfl (by decide) _ _ _ rfl (hrow.alloc _) ⟨W.heap.size, 0, none⟩ 1 1 [.int .i64 x] rfl rfl (cell_one_new _ _ _) (by simp [Value.oneCell']) (by omega) (by omega) (by simp; omega) ?_; intro v' w1 hown' hgrow _; obtain ⟨g', cap', rfl⟩ := ownsRow_succ hown'; obtain ⟨hv1, hv2, hr2, hk2, hb2⟩ := hv.appended (by decide) (Try.row_le hrow (show w.heap.size ≤ w.heap.size + 3 by omega)) (show w.heap.size ≤ W.heap.size by omega) (Nat.le_refl _) (Try.row_le hown' (show w.heap.size ≤ w.heap.size + 3 by omega)) hgrow; have hc1 := hv1.cell; have hf1 := hv1.frozen)
    have hrow2 := hown'.kept (grownBy_setCell' w1 w.heap.size (.slice (some ⟨g', 0, none⟩) (pre.length + 1) cap')) (.inr (hv1.not_row (by decide) hown').symm)
    refine ⟨hk2.from _, ⟨hb2, fun hbs => ?_⟩, ⟨_, hv2, by simpa using hrow2, trivial⟩, hB.trans hb2⟩
    have hb5 : Boxed w1 (w.heap.size + 1 + 1) 3 (.int .i64 size) := (hbs.alloc _).kept hgrow (Try.row_ne hrow (by omega))
    exact hb5.kept (grownBy_setCell' w1 w.heap.size _) (by simp; omega)
  case done =>
    rintro D ys W hD rfl ⟨⟨v, hv, hrow, _⟩, hB⟩ hK
    have hc := hv.cell
    gi_wp2
    refine ⟨by simp, .inl ⟨_, _, rfl, run_takeDeferred hK, ?_⟩⟩
    exact ⟨_, results_tmp2 rfl _ _ _, v, rfl, ownsRow_putObj (Try.row_le hrow (by omega)) _ hK rfl, hB0.trans (hB.trans (belowK_b (w := w) (Nat.le_refl _) W D _ _ (by omega) hK rfl rfl))⟩
  case stop =>
    rintro D c pre W _ _ h _
    exact h.elim

set_option maxHeartbeats 1000000 in
theorem Try.apart_long_in (n : Nat) (v0 : Value) (size : Int) (len : Nat) (hlen : 4096 < len) (w : World) (hsl : ∃ A cap, v0 = .slice A len cap) :
    CallsIn Fence.wide n Try.prog 34 #[v0, .int .i64 size] w fun e W' => e = .returned (.tuple #[.slice none 0 0, .int .i64 2]) ∧ W' = w := by
  obtain ⟨A, cap, rfl⟩ := hsl
  refine callsIn_of_wp Try.func34 rfl trivial ?_ rfl
  simp only [Try.ntmps34, List.size_toArray, List.length_cons, List.length_nil, Nat.reduceAdd, Nat.reduceSub, Array.replicate_succ, Array.replicate_zero, List.push_toArray, List.append_toArray, List.nil_append, List.cons_append]
  gi_wp2
  refine bodyPost_ret (results_tmp2 rfl _ _ _) rfl ?_
  exact ⟨rfl, rfl⟩
end Go.Proofs

namespace Go.Proofs.Ytmjbjlhjpdebjaa.Mini
open Go Go.RowKit Go.Proofs

/-- A row of numbers that a call has made, as the machine has it. -/
theorem own_result {w : World} {B : Nat → Prop} (hB : ∀ b, w.heap.size ≤ b → B b) (fresh : Nat) {W' : World} {k : IntKind} {T : TypeId} {v : Value} {L : List Int} (hrow : W'.ownsRow w.heap.size T 1 v L.length (L.map (Value.int k))) (hb : Below w.heap.size w W') :
    ∃ C' : Ctx, C'.w = W' ∧ C'.tab = upd (fun _ => none) fresh (some (.row true (.int k) T L)) ∧ TabOk ⟨w, B⟩ none' (fun i => ¬ (fresh ≤ i ∧ i < fresh + room)) C' ∧ Rel C' v (.own fresh) := by
  have hfr : Frame0 w W' none' := ⟨hb.os, hb.tape, hb.output, hb.size, fun i hi _ => hb.block i hi⟩
  have htab : ∀ {i : Nat} {blk : Blk}, upd (fun _ => none) fresh (some (Blk.row true (.int k) T L)) i = some blk → i = fresh ∧ blk = .row true (.int k) T L := fun {i blk} h => by
    by_cases hi : i = fresh
    · subst hi
      rw [upd_same] at h
      cases h
      exact ⟨rfl, rfl⟩
    · rw [upd_ne _ _ hi] at h
      cases h
  have hroom : 0 < room := by decide
  have mkio : ∀ x : Option Pl, ∃ io : Nat → Option (Option Pl), io fresh = some x ∧ ∀ i, i ≠ fresh → io i = none := fun x => ⟨upd (fun _ => none) fresh (some x), upd_same .., fun i h => upd_ne _ _ h⟩
  rcases hrow.2 with ⟨rfl, hn⟩ | ⟨g, cap, cur, rfl, hg, hh, hnc, _, hcs, htk⟩
  · obtain rfl : L = [] := List.eq_nil_of_length_eq_zero hn
    obtain ⟨io, h1, h2⟩ := mkio none
    refine ⟨⟨W', io, upd (fun _ => none) fresh (some (.row true (.int k) T [])), B⟩, rfl, rfl, ⟨fun i blk h => ?_, fun i i' p p' b b' e e' _ _ _ => (htab e).1.trans (htab e').1.symm, fun i p blk e h hm => ?_, fun i hi => h2 i fun h => hi ⟨by omega, by omega⟩, hfr, fun i p blk e h hm => ?_, hB, rfl⟩, .own ?_⟩
    · obtain ⟨rfl, rfl⟩ := htab h
      exact ⟨_, h1, .inl ⟨rfl, rfl⟩⟩
    · obtain ⟨rfl, rfl⟩ := htab e
      exact absurd (h1.symm.trans h) (by simp)
    · obtain ⟨rfl, rfl⟩ := htab e
      exact absurd (h1.symm.trans h) (by simp)
    · refine ⟨fun h => (by have h' : io fresh = none := h; rw [h1] at h'; cases h'), none, 0, 0, rfl, fun blk h => ?_⟩
      obtain ⟨_, rfl⟩ := htab h
      exact ⟨_, _, _, .inl ⟨_, rfl⟩, rfl, Nat.le_refl _, Nat.le_refl _, .inl ⟨h1, rfl⟩⟩
  · have hseg : ∀ j x, L[j]? = some x → 0 + j * 1 + 1 ≤ cur.size ∧ (cur.toList.drop (0 + j * 1)).take 1 = [Value.int k x] := fun j x hj => by
      have hjl : j < L.length := (List.getElem?_eq_some_iff.1 hj).1
      have h1 : (cur.toList.take (L.length * 1))[j]? = some (.int k x) := by rw [htk, List.getElem?_map, hj]; rfl
      rw [List.getElem?_take, if_pos (by omega)] at h1
      refine ⟨by omega, ?_⟩
      have h2 : (cur.toList.drop (0 + j * 1))[0]? = some (.int k x) := by
        rw [List.getElem?_drop, Nat.add_zero, Nat.zero_add, Nat.mul_one]
        exact h1
      generalize cur.toList.drop (0 + j * 1) = l at h2
      cases l with
      | nil => cases h2
      | cons y l =>
        simp at h2
        subst h2
        rfl
    obtain ⟨io, h1, h2⟩ := mkio (some ⟨g, 0⟩)
    refine ⟨⟨W', io, upd (fun _ => none) fresh (some (.row true (.int k) T L)), B⟩, rfl, rfl, ⟨fun i blk h => ?_, fun i i' p p' b b' e e' _ _ _ => (htab e).1.trans (htab e').1.symm, fun i p blk e h hm => ?_, fun i hi => h2 i fun h => hi ⟨by omega, by omega⟩, hfr, fun i p blk e h hm => ?_, hB, rfl⟩, .own ?_⟩
    · obtain ⟨rfl, rfl⟩ := htab h
      exact ⟨_, h1, .inr ⟨⟨g, 0⟩, rfl, cur, hh, fun j x hj => hseg j x hj⟩⟩
    · obtain ⟨rfl, rfl⟩ := htab e
      have := h1.symm.trans h
      cases this
      exact .inl hg
    · obtain ⟨rfl, rfl⟩ := htab e
      have := h1.symm.trans h
      cases this
      exact hB g hg
    · refine ⟨fun h => (by have h' : io fresh = none := h; rw [h1] at h'; cases h'), _, _, _, rfl, fun blk h => ?_⟩
      obtain ⟨_, rfl⟩ := htab h
      refine ⟨_, _, _, .inl ⟨_, rfl⟩, rfl, by omega, hnc, .inr ⟨⟨g, 0⟩, h1, fun _ => rfl, cur, _, _, hh, ?_⟩⟩
      show 0 + (0 + cap) * 1 ≤ cur.size
      omega

/-- bit.apart. -/
noncomputable def m34F (_k : Nat) (p0 : List Int) (p1 : Int) : Option (List Int × Int) := if p1 = 1 ∨ p1 = 4 then (if 4096 < p0.length then some ([], 2) else some (Try.all p1.toNat p0 p0.length, 0)) else none
noncomputable def m34sp : Spec := { ps := [.leaf (.val (.row (.int .u8))), .leaf (.val (.int .i64))], rs := [.leaf (.own (.int .i64) 3), .leaf (.val (.int .i64))], f := fun k a => m34F k a.1 a.2 }
theorem m34con' (k : Nat) (zs : List Int) (p1 : Int) (r : List Int × Int) (hf' : m34F k zs p1 = some r) (w : World) (B : Nat → Prop) (vs : Array Value) (fresh : Nat) (hB : ∀ b, w.heap.size ≤ b → B b) (hargs : RelL (zeroCtx w B) vs.toList [.row (.int .u8) zs, .int .i64 p1]) :
    Calls Try.prog 34 vs w fun e w' => ∃ v C', e = .returned v ∧ C'.w = w' ∧ C'.tab = upd (fun _ => none) fresh (some (.row true (.int .i64) 3 r.1)) ∧ TabOk ⟨w, B⟩ none' (fun i => ¬ (fresh ≤ i ∧ i < fresh + room)) C' ∧ Rel C' v (.tup [.own fresh, .int .i64 r.2]) := by
  obtain ⟨vs⟩ := vs
  have hargs' : RelL (zeroCtx w B) vs [.row (.int .u8) zs, .int .i64 p1] := hargs
  cases hargs' with
  | cons hv0 ht =>
    cases ht with
    | cons hv1 ht =>
      cases ht
      cases hv1
      rename_i v0
      cases hv0 with
      | row hrep =>
        obtain ⟨A, cap, hv, hlc, hR⟩ := hrep
        cases hv
        unfold m34F at hf'
        split at hf'
        · rename_i hp
          split at hf'
          · rename_i hlen
            cases hf'
            refine (callsIn_wide.1 (Try.apart_long_in 3 _ p1 zs.length hlen w ⟨A, cap, rfl⟩)).mono ?_
            rintro e W' ⟨rfl, rfl⟩
            obtain ⟨C', h1, h2, h3, h4⟩ := own_result (k := .i64) (T := 3) (L := []) hB fresh (World.ownsRow_nil W' W'.heap.size 3 1) (Below.refl _ _)
            exact ⟨_, C', rfl, h1, h2, h3, .tup (.cons h4 (.cons .int .nil))⟩
          · rename_i hlen
            cases hf'
            have hsl : Try.Sl w w.heap.size (.slice A zs.length cap) zs := by
              refine ⟨A, cap, rfl, ?_⟩
              rcases Nat.eq_zero_or_pos zs.length with h0 | h0
              · exact .inl (List.eq_nil_of_length_eq_zero h0)
              · obtain ⟨ad, rfl, hsp, _, cs, T, fr, hh, hx⟩ := hR h0
                obtain ⟨ab, ao, asp⟩ := ad
                cases hsp
                refine .inr ⟨ab, ao, rfl, heap_lt hh, fun j hj => ?_⟩
                obtain ⟨k1, k2⟩ := hx j (zs[j]?.getD 0) (by rw [List.getElem?_eq_getElem hj]; rfl)
                have k1' : ao + j * 1 + 1 ≤ cs.size := k1
                have k2' : (cs.toList.drop (ao + j * 1)).take 1 = [.int .u8 (zs[j]?.getD 0)] := k2
                rw [Nat.mul_one] at k2'
                have hc : cs[ao + j]? = some (.int .u8 (zs[j]?.getD 0)) := by
                  have h0 : ((cs.toList.drop (ao + j)).take 1)[0]? = some (.int .u8 (zs[j]?.getD 0)) := by rw [k2']; rfl
                  rw [List.getElem?_take, if_pos (by decide), List.getElem?_drop] at h0
                  simpa using h0
                have hh' : w.heap[ab]? = some (Obj.cells cs T fr) := hh
                simp [World.cell?, hh', hc]
            have hsz : p1.toNat = 1 ∨ p1.toNat = 4 := by omega
            have hp1 : p1 = ((p1.toNat : Nat) : Int) := by omega
            have hc := callsIn_wide.1 (Try.apart_in 3 (by decide) _ p1.toNat zs (by omega) hsz w hsl)
            rw [← hp1] at hc
            refine hc.mono ?_
            rintro e W' ⟨v, rfl, hrow, hb⟩
            obtain ⟨C', h1, h2, h3, h4⟩ := own_result (k := .i64) (T := 3) hB fresh hrow hb
            exact ⟨_, C', rfl, h1, h2, h3, .tup (.cons h4 (.cons .int .nil))⟩
        · cases hf'
theorem m34con (k : Nat) : Contract Try.prog k 34 m34sp := fun a r hf w B vs fresh hB hargs => m34con' k a.1 a.2 r hf w B vs fresh hB hargs
end Go.Proofs.Ytmjbjlhjpdebjaa.Mini
