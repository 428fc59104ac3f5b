/- Printed by a program of this session's (MPrint, over wip/mini): plain functions of the program's, and that they are what it does. Lean checks it. -/
import Derived.Test.YtdhpehihkppomaaMF
set_option linter.unusedVariables false
namespace Go.Proofs.Ytdhpehihkppomaa.Mini
open Go Go.RowKit Go.Proofs

noncomputable def m9A : Anns := tabA [(7, { keep := [0, 1, 2, 7, 8] }), (20, { keep := [0, 1, 2, 7] })]
noncomputable def m9E (k : Nat) : Env := { P := Try.prog, k := k, G := tabG [(13, m13sp), (17, m17sp), (18, m18sp)] }
noncomputable def m9c (p : List Bool) : Code := sub p (bodyOf Try.f9)
noncomputable def m9I (k : Nat) : Inl Bool := inlOf (m9E k) (only 9 m9A) 3
noncomputable def m9K0 (M : Cut Bool) (k : Nat) : Exit → St → Option Bool := seqK (normAt 0 m9A false (m9c [true])) (cutK M m9A (m9c [true]) fun s => evC (m9E k) M (m9I k) 0 m9A (m9c [true]) s (retK Try.prog Try.f9 [.leaf (.val .bool)])) (retK Try.prog Try.f9 [.leaf (.val .bool)])
noncomputable def m9K1 (M : Cut Bool) (k : Nat) : Exit → St → Option Bool := seqK (normAt 0 m9A false (m9c [true, true])) (cutK M m9A (m9c [true, true]) fun s => evC (m9E k) M (m9I k) 0 m9A (m9c [true, true]) s (retK Try.prog Try.f9 [.leaf (.val .bool)])) (retK Try.prog Try.f9 [.leaf (.val .bool)])
noncomputable def m9K2 (M : Cut Bool) (k : Nat) : Exit → St → Option Bool := seqK (normAt 0 m9A false (m9c [true, true, true])) (cutK M m9A (m9c [true, true, true]) fun s => evC (m9E k) M (m9I k) 0 m9A (m9c [true, true, true]) s (retK Try.prog Try.f9 [.leaf (.val .bool)])) (retK Try.prog Try.f9 [.leaf (.val .bool)])
noncomputable def m9K3 (M : Cut Bool) (k : Nat) : Exit → St → Option Bool := seqK (normAt 0 m9A false (m9c [true, true, false, true])) (cutK M m9A (m9c [true, true, false, true]) fun s => evC (m9E k) M (m9I k) 0 m9A (m9c [true, true, false, true]) s (m9K2 M k)) (m9K2 M k)
noncomputable def m9K4 (M : Cut Bool) (k : Nat) : Exit → St → Option Bool := blockK 0 (m9K2 M k)
noncomputable def m9K5 (M : Cut Bool) (k : Nat) (L7 : St → Option Bool) : Exit → St → Option Bool := seqK (normAt 0 m9A true (m9c [true, true, false, true, true, true])) L7 (m9K4 M k)
noncomputable def m9K6 (M : Cut Bool) (k : Nat) (L7 : St → Option Bool) : Exit → St → Option Bool := seqK (normAt 0 m9A false (m9c [true, true, false, true, true, true, true])) (cutK M m9A (m9c [true, true, false, true, true, true, true]) fun s => evC (m9E k) M (m9I k) 0 m9A (m9c [true, true, false, true, true, true, true]) s (m9K5 M k L7)) (m9K5 M k L7)
noncomputable def m9K7 (M : Cut Bool) (k : Nat) (L7 : St → Option Bool) : Exit → St → Option Bool := seqK (normAt 0 m9A false (m9c [true, true, false, true, true, true, false, true])) (cutK M m9A (m9c [true, true, false, true, true, true, false, true]) fun s => evC (m9E k) M (m9I k) 0 m9A (m9c [true, true, false, true, true, true, false, true]) s (m9K6 M k L7)) (m9K6 M k L7)
noncomputable def m9K8 (M : Cut Bool) (k : Nat) (L7 : St → Option Bool) : Exit → St → Option Bool := seqK (normAt 0 m9A false (m9c [true, true, false, true, true, true, true, true])) (cutK M m9A (m9c [true, true, false, true, true, true, true, true]) fun s => evC (m9E k) M (m9I k) 0 m9A (m9c [true, true, false, true, true, true, true, true]) s (m9K5 M k L7)) (m9K5 M k L7)
noncomputable def m9K9 (M : Cut Bool) (k : Nat) (L7 : St → Option Bool) : Exit → St → Option Bool := blockK 1 (m9K8 M k L7)
noncomputable def m9K10 (M : Cut Bool) (k : Nat) (L7 : St → Option Bool) : Exit → St → Option Bool := seqK (normAt 0 m9A false (m9c [true, true, false, true, true, true, true, false, true, true])) (cutK M m9A (m9c [true, true, false, true, true, true, true, false, true, true]) fun s => evC (m9E k) M (m9I k) 0 m9A (m9c [true, true, false, true, true, true, true, false, true, true]) s (m9K9 M k L7)) (m9K9 M k L7)
noncomputable def m9K11 (M : Cut Bool) (k : Nat) (L7 : St → Option Bool) : Exit → St → Option Bool := seqK (normAt 0 m9A false (m9c [true, true, false, true, true, true, true, false, true, true, true])) (cutK M m9A (m9c [true, true, false, true, true, true, true, false, true, true, true]) fun s => evC (m9E k) M (m9I k) 0 m9A (m9c [true, true, false, true, true, true, true, false, true, true, true]) s (m9K9 M k L7)) (m9K9 M k L7)
noncomputable def m9K12 (M : Cut Bool) (k : Nat) (L7 : St → Option Bool) : Exit → St → Option Bool := seqK (normAt 0 m9A false (m9c [true, true, false, true, true, true, true, false, true, true, true, true])) (cutK M m9A (m9c [true, true, false, true, true, true, true, false, true, true, true, true]) fun s => evC (m9E k) M (m9I k) 0 m9A (m9c [true, true, false, true, true, true, true, false, true, true, true, true]) s (m9K9 M k L7)) (m9K9 M k L7)
noncomputable def m9K13 (M : Cut Bool) (k : Nat) (L7 : St → Option Bool) : Exit → St → Option Bool := seqK (normAt 0 m9A false (m9c [true, true, false, true, true, true, true, false, true, true, true, false, true])) (cutK M m9A (m9c [true, true, false, true, true, true, true, false, true, true, true, false, true]) fun s => evC (m9E k) M (m9I k) 0 m9A (m9c [true, true, false, true, true, true, true, false, true, true, true, false, true]) s (m9K12 M k L7)) (m9K12 M k L7)
noncomputable def m9K14 (M : Cut Bool) (k : Nat) (L7 : St → Option Bool) : Exit → St → Option Bool := seqK (normAt 0 m9A false (m9c [true, true, false, true, true, true, true, false, true, true, true, false, true, false, true])) (cutK M m9A (m9c [true, true, false, true, true, true, true, false, true, true, true, false, true, false, true]) fun s => evC (m9E k) M (m9I k) 0 m9A (m9c [true, true, false, true, true, true, true, false, true, true, true, false, true, false, true]) s (m9K12 M k L7)) (m9K12 M k L7)
noncomputable def m9K15 (M : Cut Bool) (k : Nat) : Exit → St → Option Bool := seqK (normAt 0 m9A false (m9c [true, true, true, true])) (cutK M m9A (m9c [true, true, true, true]) fun s => evC (m9E k) M (m9I k) 0 m9A (m9c [true, true, true, true]) s (retK Try.prog Try.f9 [.leaf (.val .bool)])) (retK Try.prog Try.f9 [.leaf (.val .bool)])
noncomputable def m9K16 (M : Cut Bool) (k : Nat) : Exit → St → Option Bool := seqK (normAt 0 m9A false (m9c [true, true, true, false, true])) (cutK M m9A (m9c [true, true, true, false, true]) fun s => evC (m9E k) M (m9I k) 0 m9A (m9c [true, true, true, false, true]) s (m9K15 M k)) (m9K15 M k)
noncomputable def m9K17 (M : Cut Bool) (k : Nat) : Exit → St → Option Bool := seqK (normAt 0 m9A false (m9c [true, true, true, false, true, false, true])) (cutK M m9A (m9c [true, true, true, false, true, false, true]) fun s => evC (m9E k) M (m9I k) 0 m9A (m9c [true, true, true, false, true, false, true]) s (m9K15 M k)) (m9K15 M k)
noncomputable def m9K18 (M : Cut Bool) (k : Nat) : Exit → St → Option Bool := seqK (normAt 0 m9A false (m9c [true, true, true, true, true])) (cutK M m9A (m9c [true, true, true, true, true]) fun s => evC (m9E k) M (m9I k) 0 m9A (m9c [true, true, true, true, true]) s (retK Try.prog Try.f9 [.leaf (.val .bool)])) (retK Try.prog Try.f9 [.leaf (.val .bool)])
noncomputable def m9K19 (M : Cut Bool) (k : Nat) : Exit → St → Option Bool := seqK (normAt 0 m9A false (m9c [true, true, true, true, true, true])) (cutK M m9A (m9c [true, true, true, true, true, true]) fun s => evC (m9E k) M (m9I k) 0 m9A (m9c [true, true, true, true, true, true]) s (retK Try.prog Try.f9 [.leaf (.val .bool)])) (retK Try.prog Try.f9 [.leaf (.val .bool)])
noncomputable def m9K20 (M : Cut Bool) (k : Nat) : Exit → St → Option Bool := seqK (normAt 0 m9A false (m9c [true, true, true, true, true, true, true])) (cutK M m9A (m9c [true, true, true, true, true, true, true]) fun s => evC (m9E k) M (m9I k) 0 m9A (m9c [true, true, true, true, true, true, true]) s (retK Try.prog Try.f9 [.leaf (.val .bool)])) (retK Try.prog Try.f9 [.leaf (.val .bool)])
noncomputable def m9S7 (t0 : Int) (t1 : Int) (t2 : Int) (t7 : Bool) (t8 : Int) : St := { n := 76, tm := slots [(0, .int .u32 t0), (1, .int .u32 t1), (2, .int .i64 t2), (7, .bool t7), (8, .int .i64 t8)], tab := blks [], nx := 0 }
noncomputable def m9S20 (t0 : Int) (t1 : Int) (t2 : Int) (t7 : Bool) : St := { n := 76, tm := slots [(0, .int .u32 t0), (1, .int .u32 t1), (2, .int .i64 t2), (7, .bool t7)], tab := blks [], nx := 0 }

noncomputable def m9X (X7 : Int → Int → Int → Bool → Int → Option Bool) (k : Nat) (p0 : Int) (p1 : Int) (p2 : Int) : Option Bool := X7 p0 p1 p2 (true) (0)

theorem m9x (M : Cut Bool) (k : Nat) (p0 : Int) (p1 : Int) (p2 : Int) : evC (m9E k) M (m9I k) 0 m9A (m9c []) (stAt Try.f9 (argSs [.leaf (.val (.int .u32)), .leaf (.val (.int .u32)), .leaf (.val (.int .i64))] (p0, p1, p2)) (fun _ => none) 0) (retK Try.prog Try.f9 [.leaf (.val .bool)]) = m9X (fun t0' t1' t2' t7' t8' => loopN (normAt 0 m9A true (m9c [true, true, false, true, true, true])) (fun K s => evC (m9E k) M (m9I k) 0 m9A (m9c [true, true, false, true, true, true]) s K) (m9K4 M k) k (m9S7 t0' t1' t2' t7' t8')) k p0 p1 p2 := by kernel_rfl

noncomputable def m9X7 (X20 : Int → Int → Int → Bool → Option Bool) (L7 : Int → Int → Int → Bool → Int → Option Bool) (k : Nat) (t0 : Int) (t1 : Int) (t2 : Int) (t7 : Bool) (t8 : Int) : Option Bool := (if ltI t8 4 = true then (Option.bind (m17F k t0 t8) fun (c8 : (Int × Int)) => (Option.bind (m17F k t1 t8) fun (c9 : (Int × Int)) => (if (!eqI (Prod.snd c8) 0) = true then some (false) else (if (!eqI (Prod.snd c9) 0) = true then some (false) else (if t7 = true then L7 t0 t1 t2 (eqI (Prod.fst c8) (Prod.fst c9)) (wr IntKind.i64 (t8 + 1)) else L7 t0 t1 t2 (false) (wr IntKind.i64 (t8 + 1))))))) else X20 t0 t1 t2 t7)

theorem m9x7 (M : Cut Bool) (k : Nat) (L7 : St → Option Bool) (t0 : Int) (t1 : Int) (t2 : Int) (t7 : Bool) (t8 : Int) : evC (m9E k) M (m9I k) 0 m9A (m9c [true, true, false, true, true, true]) (m9S7 t0 t1 t2 t7 t8) (seqK (normAt 0 m9A true (m9c [true, true, false, true, true, true])) L7 (m9K4 M k)) = m9X7 (fun t0' t1' t2' t7' => M 20 (fun s => evC (m9E k) M (m9I k) 0 m9A (m9c [true, true, true]) s (retK Try.prog Try.f9 [.leaf (.val .bool)])) (m9S20 t0' t1' t2' t7')) (fun t0' t1' t2' t7' t8' => L7 (m9S7 t0' t1' t2' t7' t8')) k t0 t1 t2 t7 t8 := by kernel_rfl

noncomputable def m9X20 (k : Nat) (t0 : Int) (t1 : Int) (t2 : Int) (t7 : Bool) : Option Bool := (if (!t7 == eqI t0 t1) = true then some (false) else (if (!eqI 252 0) = true then (Option.bind (m17F k t0 (wr IntKind.i64 (4 + wr IntKind.i64 (Int.tmod (wr IntKind.u64 t2) 252)))) fun (c6 : (Int × Int)) => (if eqI (Prod.snd c6) 0 = true then (Option.bind (m13F k
  (wr IntKind.u32
    (t0 +
      wr IntKind.u32
        (wr IntKind.u32 (wr IntKind.i64 (4 + wr IntKind.i64 (Int.tmod (wr IntKind.u64 t2) 252))) * 2654435769)))) fun (c7 : Int) => (if eqI (Prod.fst c6) (wr IntKind.i64 (bits BinOp.and IntKind.u32 c7 255)) = true then (Option.bind (m18F k) fun (c8 : Bool) => some c8) else some (false))) else some (false))) else none))

theorem m9x20 (M : Cut Bool) (k : Nat) (t0 : Int) (t1 : Int) (t2 : Int) (t7 : Bool) : evC (m9E k) M (m9I k) 0 m9A (m9c [true, true, true]) (m9S20 t0 t1 t2 t7) (retK Try.prog Try.f9 [.leaf (.val .bool)]) = m9X20 k t0 t1 t2 t7 := by kernel_rfl

noncomputable def m9F20 (k : Nat) (t0 : Int) (t1 : Int) (t2 : Int) (t7 : Bool) : Option Bool := m9X20 k t0 t1 t2 t7

theorem m9q20 (k : Nat) (t0 : Int) (t1 : Int) (t2 : Int) (t7 : Bool) : evC (m9E k) (fun _ f => f) (m9I k) 0 m9A (m9c [true, true, true]) (m9S20 t0 t1 t2 t7) (retK Try.prog Try.f9 [.leaf (.val .bool)]) = m9F20 k t0 t1 t2 t7 := by
    show _ = m9X20 k t0 t1 t2 t7
    exact m9x20 (fun _ f => f) k t0 t1 t2 t7

noncomputable def m9F7 (k : Nat) : Nat → Int → Int → Int → Bool → Int → Option Bool
  | 0, _, _, _, _, _ => none
  | j + 1, t0, t1, t2, t7, t8 => m9X7 (m9F20 k) (m9F7 k j) k t0 t1 t2 t7 t8

theorem m9q7 (k : Nat) : ∀ (j : Nat) (t0 : Int) (t1 : Int) (t2 : Int) (t7 : Bool) (t8 : Int), loopN (normAt 0 m9A true (m9c [true, true, false, true, true, true])) (fun K s => evC (m9E k) (fun _ f => f) (m9I k) 0 m9A (m9c [true, true, false, true, true, true]) s K) (m9K4 (fun _ f => f) k) j (m9S7 t0 t1 t2 t7 t8) = m9F7 k j t0 t1 t2 t7 t8
  | 0, _, _, _, _, _ => rfl
  | j + 1, t0, t1, t2, t7, t8 => by
    have e0 : m9F7 k j = (fun t0' t1' t2' t7' t8' => loopN (normAt 0 m9A true (m9c [true, true, false, true, true, true])) (fun K s => evC (m9E k) (fun _ f => f) (m9I k) 0 m9A (m9c [true, true, false, true, true, true]) s K) (m9K4 (fun _ f => f) k) j (m9S7 t0' t1' t2' t7' t8')) := funext fun t0' => funext fun t1' => funext fun t2' => funext fun t7' => funext fun t8' => (m9q7 k j t0' t1' t2' t7' t8').symm
    have e20 : m9F20 k = (fun t0' t1' t2' t7' => evC (m9E k) (fun _ f => f) (m9I k) 0 m9A (m9c [true, true, true]) (m9S20 t0' t1' t2' t7') (retK Try.prog Try.f9 [.leaf (.val .bool)])) := funext fun t0' => funext fun t1' => funext fun t2' => funext fun t7' => (m9q20 k t0' t1' t2' t7').symm
    show _ = m9X7 (m9F20 k) (m9F7 k j) k t0 t1 t2 t7 t8
    rw [e0, e20]
    exact m9x7 (fun _ f => f) k (loopN (normAt 0 m9A true (m9c [true, true, false, true, true, true])) (fun K s => evC (m9E k) (fun _ f => f) (m9I k) 0 m9A (m9c [true, true, false, true, true, true]) s K) (m9K4 (fun _ f => f) k) j) t0 t1 t2 t7 t8

noncomputable def m9F (k : Nat) (p0 : Int) (p1 : Int) (p2 : Int) : Option Bool := m9X (m9F7 k k) k p0 p1 p2

theorem m9q (k : Nat) (p0 : Int) (p1 : Int) (p2 : Int) : evC (m9E k) (fun _ f => f) (m9I k) 0 m9A (m9c []) (stAt Try.f9 (argSs [.leaf (.val (.int .u32)), .leaf (.val (.int .u32)), .leaf (.val (.int .i64))] (p0, p1, p2)) (fun _ => none) 0) (retK Try.prog Try.f9 [.leaf (.val .bool)]) = m9F k p0 p1 p2 := by
    have e7 : m9F7 k k = (fun t0' t1' t2' t7' t8' => loopN (normAt 0 m9A true (m9c [true, true, false, true, true, true])) (fun K s => evC (m9E k) (fun _ f => f) (m9I k) 0 m9A (m9c [true, true, false, true, true, true]) s K) (m9K4 (fun _ f => f) k) k (m9S7 t0' t1' t2' t7' t8')) := funext fun t0' => funext fun t1' => funext fun t2' => funext fun t7' => funext fun t8' => (m9q7 k k t0' t1' t2' t7' t8').symm
    show _ = m9X (m9F7 k k) k p0 p1 p2
    rw [e7]
    exact m9x (fun _ f => f) k p0 p1 p2

noncomputable def m9sp : Spec := { ps := [.leaf (.val (.int .u32)), .leaf (.val (.int .u32)), .leaf (.val (.int .i64))], rs := [.leaf (.val .bool)], f := fun k a => m9F k a.1 a.2.1 a.2.2 }

theorem m9ok (k : Nat) : EnvOk (m9E k) := envOk_of (l := [(13, m13sp), (17, m17sp), (18, m18sp)]) progNames progMixed rfl (.cons ⟨m13con k, Try.f13, by kernel_rfl, by kernel_rfl⟩ (.cons ⟨m17con k, Try.f17, by kernel_rfl, by kernel_rfl⟩ (.cons ⟨m18con k, Try.f18, by kernel_rfl, by kernel_rfl⟩ (.nil))))

theorem m9con (k : Nat) : Contract Try.prog k 9 m9sp := contract_of (E := m9E k) (m9ok k) (A := only 9 m9A) (d := 3) (c := m9c []) (by kernel_rfl) (by kernel_rfl) fun a _ h => (m9q k a.1 a.2.1 a.2.2).trans h

end Go.Proofs.Ytdhpehihkppomaa.Mini
