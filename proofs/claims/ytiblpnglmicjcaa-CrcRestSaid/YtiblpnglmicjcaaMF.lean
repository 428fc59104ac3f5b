/- Printed by a program of this session's (MPrint, over wip/mini): plain functions of the program's, and that they are what it does. Lean checks it. -/
import Derived.Test.YtiblpnglmicjcaaXMO
import Derived.Test.YtiblpnglmicjcaaProg
import Derived.KernelRfl
set_option linter.unusedVariables false
namespace Go.Proofs.Ytiblpnglmicjcaa.Mini
open Go Go.RowKit Go.Proofs
theorem progNames : (Try.prog.funcs.all fun f => !(f.name == "runtime.NumGoroutine")) = true := by kernel_rfl
theorem progMixed : Try.prog.follows .mixedOrders = true := by kernel_rfl

noncomputable def m12A : Anns := tabA []
noncomputable def m12E (k : Nat) : Env := { P := Try.prog, k := k, G := tabG [], GB := tabGB [] }
noncomputable def m12c (p : List Bool) : Code := sub p (bodyOf Try.f12)
noncomputable def m12I (k : Nat) : Inl (List Int) := inlOf (m12E k) (only 12 m12A) 3
noncomputable def m12K0 (M : Cut (List Int)) (k : Nat) : Exit → St → Option (List Int) := seqK (normAt 0 m12A false (m12c [true])) (cutK M m12A (m12c [true]) fun s => evC (m12E k) M (m12I k) 0 m12A (m12c [true]) s (retK Try.prog Try.f12 [.leaf (.own (.int .u8) 5)])) (retK Try.prog Try.f12 [.leaf (.own (.int .u8) 5)])
noncomputable def m12K1 (M : Cut (List Int)) (k : Nat) : Exit → St → Option (List Int) := seqK (normAt 0 m12A false (m12c [true, true])) (cutK M m12A (m12c [true, true]) fun s => evC (m12E k) M (m12I k) 0 m12A (m12c [true, true]) s (retK Try.prog Try.f12 [.leaf (.own (.int .u8) 5)])) (retK Try.prog Try.f12 [.leaf (.own (.int .u8) 5)])
noncomputable def m12K2 (M : Cut (List Int)) (k : Nat) : Exit → St → Option (List Int) := seqK (normAt 0 m12A false (m12c [true, true, true])) (cutK M m12A (m12c [true, true, true]) fun s => evC (m12E k) M (m12I k) 0 m12A (m12c [true, true, true]) s (retK Try.prog Try.f12 [.leaf (.own (.int .u8) 5)])) (retK Try.prog Try.f12 [.leaf (.own (.int .u8) 5)])

noncomputable def m12X (k : Nat) (p0 : (List Int)) : Option (List Int) := (if leI (↑(List.length p0 * 1) : Int) 140737488355328 = true then some p0 else none)

theorem m12x (M : Cut (List Int)) (k : Nat) (p0 : (List Int)) : evC (m12E k) M (m12I k) 0 m12A (m12c []) (stAt Try.f12 (argSs [.leaf (.val (.row (.int .u8)))] p0) (fun _ => none) 0) (retK Try.prog Try.f12 [.leaf (.own (.int .u8) 5)]) = m12X k p0 := by kernel_rfl

noncomputable def m12F (k : Nat) (p0 : (List Int)) : Option (List Int) := m12X k p0

theorem m12q (k : Nat) (p0 : (List Int)) : evC (m12E k) (fun _ f => f) (m12I k) 0 m12A (m12c []) (stAt Try.f12 (argSs [.leaf (.val (.row (.int .u8)))] p0) (fun _ => none) 0) (retK Try.prog Try.f12 [.leaf (.own (.int .u8) 5)]) = m12F k p0 := by
    show _ = m12X k p0
    exact m12x (fun _ f => f) k p0

noncomputable def m12sp : Spec := { ps := [.leaf (.val (.row (.int .u8)))], rs := [.leaf (.own (.int .u8) 5)], f := fun k a => m12F k a }

theorem m12ok (k : Nat) : EnvOk (m12E k) := envOk_of (l := []) (lB := []) progNames progMixed rfl rfl (.nil) (.nil)

theorem m12con (k : Nat) : Contract Try.prog k 12 m12sp := contract_of (E := m12E k) (m12ok k) (A := only 12 m12A) (d := 3) (c := m12c []) (by kernel_rfl) (by kernel_rfl) fun a _ h => (m12q k a).trans h

noncomputable def m19A : Anns := tabA [(7, { keep := [1, 4], mat := [(1, (.int .i64), 3)] }), (15, { keep := [1, 3, 4, 9] }), (24, { keep := [1, 3, 4] })]
noncomputable def m19E (k : Nat) : Env := { P := Try.prog, k := k, G := tabG [], GB := tabGB [] }
noncomputable def m19c (p : List Bool) : Code := sub p (bodyOf Try.f19)
noncomputable def m19I (k : Nat) : Inl (List Int) := inlOf (m19E k) (only 19 m19A) 3
noncomputable def m19K0 (M : Cut (List Int)) (k : Nat) : Exit → St → Option (List Int) := seqK (normAt 0 m19A false (m19c [true])) (cutK M m19A (m19c [true]) fun s => evC (m19E k) M (m19I k) 0 m19A (m19c [true]) s (retK Try.prog Try.f19 [.leaf (.own (.int .i64) 3)])) (retK Try.prog Try.f19 [.leaf (.own (.int .i64) 3)])
noncomputable def m19K1 (M : Cut (List Int)) (k : Nat) : Exit → St → Option (List Int) := seqK (normAt 0 m19A false (m19c [true, true])) (cutK M m19A (m19c [true, true]) fun s => evC (m19E k) M (m19I k) 0 m19A (m19c [true, true]) s (retK Try.prog Try.f19 [.leaf (.own (.int .i64) 3)])) (retK Try.prog Try.f19 [.leaf (.own (.int .i64) 3)])
noncomputable def m19K2 (M : Cut (List Int)) (k : Nat) : Exit → St → Option (List Int) := seqK (normAt 0 m19A false (m19c [true, true, true])) (cutK M m19A (m19c [true, true, true]) fun s => evC (m19E k) M (m19I k) 0 m19A (m19c [true, true, true]) s (retK Try.prog Try.f19 [.leaf (.own (.int .i64) 3)])) (retK Try.prog Try.f19 [.leaf (.own (.int .i64) 3)])
noncomputable def m19K3 (M : Cut (List Int)) (k : Nat) : Exit → St → Option (List Int) := seqK (normAt 0 m19A false (m19c [true, true, false, true])) (cutK M m19A (m19c [true, true, false, true]) fun s => evC (m19E k) M (m19I k) 0 m19A (m19c [true, true, false, true]) s (m19K2 M k)) (m19K2 M k)
noncomputable def m19K4 (M : Cut (List Int)) (k : Nat) : Exit → St → Option (List Int) := blockK 0 (m19K2 M k)
noncomputable def m19K5 (M : Cut (List Int)) (k : Nat) (L7 : St → Option (List Int)) : Exit → St → Option (List Int) := seqK (normAt 0 m19A true (m19c [true, true, false, true, true, true])) L7 (m19K4 M k)
noncomputable def m19K6 (M : Cut (List Int)) (k : Nat) (L7 : St → Option (List Int)) : Exit → St → Option (List Int) := seqK (normAt 0 m19A false (m19c [true, true, false, true, true, true, true])) (cutK M m19A (m19c [true, true, false, true, true, true, true]) fun s => evC (m19E k) M (m19I k) 0 m19A (m19c [true, true, false, true, true, true, true]) s (m19K5 M k L7)) (m19K5 M k L7)
noncomputable def m19K7 (M : Cut (List Int)) (k : Nat) (L7 : St → Option (List Int)) : Exit → St → Option (List Int) := seqK (normAt 0 m19A false (m19c [true, true, false, true, true, true, true, true])) (cutK M m19A (m19c [true, true, false, true, true, true, true, true]) fun s => evC (m19E k) M (m19I k) 0 m19A (m19c [true, true, false, true, true, true, true, true]) s (m19K5 M k L7)) (m19K5 M k L7)
noncomputable def m19K8 (M : Cut (List Int)) (k : Nat) (L7 : St → Option (List Int)) : Exit → St → Option (List Int) := seqK (normAt 0 m19A false (m19c [true, true, false, true, true, true, true, true, true])) (cutK M m19A (m19c [true, true, false, true, true, true, true, true, true]) fun s => evC (m19E k) M (m19I k) 0 m19A (m19c [true, true, false, true, true, true, true, true, true]) s (m19K5 M k L7)) (m19K5 M k L7)
noncomputable def m19K9 (M : Cut (List Int)) (k : Nat) (L7 : St → Option (List Int)) : Exit → St → Option (List Int) := blockK 1 (m19K8 M k L7)
noncomputable def m19K10 (M : Cut (List Int)) (k : Nat) (L7 : St → Option (List Int)) : Exit → St → Option (List Int) := seqK (normAt 0 m19A false (m19c [true, true, false, true, true, true, true, true, false, true, true])) (cutK M m19A (m19c [true, true, false, true, true, true, true, true, false, true, true]) fun s => evC (m19E k) M (m19I k) 0 m19A (m19c [true, true, false, true, true, true, true, true, false, true, true]) s (m19K9 M k L7)) (m19K9 M k L7)
noncomputable def m19K11 (M : Cut (List Int)) (k : Nat) (L7 : St → Option (List Int)) : Exit → St → Option (List Int) := seqK (normAt 0 m19A false (m19c [true, true, false, true, true, true, true, true, false, true, true, true])) (cutK M m19A (m19c [true, true, false, true, true, true, true, true, false, true, true, true]) fun s => evC (m19E k) M (m19I k) 0 m19A (m19c [true, true, false, true, true, true, true, true, false, true, true, true]) s (m19K9 M k L7)) (m19K9 M k L7)
noncomputable def m19K12 (M : Cut (List Int)) (k : Nat) (L7 : St → Option (List Int)) : Exit → St → Option (List Int) := seqK (normAt 0 m19A false (m19c [true, true, false, true, true, true, true, true, false, true, true, true, true])) (cutK M m19A (m19c [true, true, false, true, true, true, true, true, false, true, true, true, true]) fun s => evC (m19E k) M (m19I k) 0 m19A (m19c [true, true, false, true, true, true, true, true, false, true, true, true, true]) s (m19K9 M k L7)) (m19K9 M k L7)
noncomputable def m19K13 (M : Cut (List Int)) (k : Nat) (L7 : St → Option (List Int)) : Exit → St → Option (List Int) := seqK (normAt 0 m19A false (m19c [true, true, false, true, true, true, true, true, false, true, true, true, false, true])) (cutK M m19A (m19c [true, true, false, true, true, true, true, true, false, true, true, true, false, true]) fun s => evC (m19E k) M (m19I k) 0 m19A (m19c [true, true, false, true, true, true, true, true, false, true, true, true, false, true]) s (m19K12 M k L7)) (m19K12 M k L7)
noncomputable def m19K14 (M : Cut (List Int)) (k : Nat) (L7 : St → Option (List Int)) : Exit → St → Option (List Int) := blockK 2 (m19K12 M k L7)
noncomputable def m19K15 (M : Cut (List Int)) (k : Nat) (L7 : St → Option (List Int)) (L15 : St → Option (List Int)) : Exit → St → Option (List Int) := seqK (normAt 0 m19A true (m19c [true, true, false, true, true, true, true, true, false, true, true, true, false, true, true, true])) L15 (m19K14 M k L7)
noncomputable def m19K16 (M : Cut (List Int)) (k : Nat) (L7 : St → Option (List Int)) (L15 : St → Option (List Int)) : Exit → St → Option (List Int) := seqK (normAt 0 m19A false (m19c [true, true, false, true, true, true, true, true, false, true, true, true, false, true, true, true, true])) (cutK M m19A (m19c [true, true, false, true, true, true, true, true, false, true, true, true, false, true, true, true, true]) fun s => evC (m19E k) M (m19I k) 0 m19A (m19c [true, true, false, true, true, true, true, true, false, true, true, true, false, true, true, true, true]) s (m19K15 M k L7 L15)) (m19K15 M k L7 L15)
noncomputable def m19K17 (M : Cut (List Int)) (k : Nat) (L7 : St → Option (List Int)) (L15 : St → Option (List Int)) : Exit → St → Option (List Int) := seqK (normAt 0 m19A false (m19c [true, true, false, true, true, true, true, true, false, true, true, true, false, true, true, true, true, true])) (cutK M m19A (m19c [true, true, false, true, true, true, true, true, false, true, true, true, false, true, true, true, true, true]) fun s => evC (m19E k) M (m19I k) 0 m19A (m19c [true, true, false, true, true, true, true, true, false, true, true, true, false, true, true, true, true, true]) s (m19K15 M k L7 L15)) (m19K15 M k L7 L15)
noncomputable def m19K18 (M : Cut (List Int)) (k : Nat) (L7 : St → Option (List Int)) (L15 : St → Option (List Int)) : Exit → St → Option (List Int) := seqK (normAt 0 m19A false (m19c [true, true, false, true, true, true, true, true, false, true, true, true, false, true, true, true, true, true, true])) (cutK M m19A (m19c [true, true, false, true, true, true, true, true, false, true, true, true, false, true, true, true, true, true, true]) fun s => evC (m19E k) M (m19I k) 0 m19A (m19c [true, true, false, true, true, true, true, true, false, true, true, true, false, true, true, true, true, true, true]) s (m19K15 M k L7 L15)) (m19K15 M k L7 L15)
noncomputable def m19K19 (M : Cut (List Int)) (k : Nat) (L7 : St → Option (List Int)) (L15 : St → Option (List Int)) : Exit → St → Option (List Int) := blockK 3 (m19K18 M k L7 L15)
noncomputable def m19K20 (M : Cut (List Int)) (k : Nat) (L7 : St → Option (List Int)) (L15 : St → Option (List Int)) : Exit → St → Option (List Int) := seqK (normAt 0 m19A false (m19c [true, true, false, true, true, true, true, true, false, true, true, true, false, true, true, true, true, true, false, true, true])) (cutK M m19A (m19c [true, true, false, true, true, true, true, true, false, true, true, true, false, true, true, true, true, true, false, true, true]) fun s => evC (m19E k) M (m19I k) 0 m19A (m19c [true, true, false, true, true, true, true, true, false, true, true, true, false, true, true, true, true, true, false, true, true]) s (m19K19 M k L7 L15)) (m19K19 M k L7 L15)
noncomputable def m19K21 (M : Cut (List Int)) (k : Nat) (L7 : St → Option (List Int)) (L15 : St → Option (List Int)) : Exit → St → Option (List Int) := seqK (normAt 0 m19A false (m19c [true, true, false, true, true, true, true, true, false, true, true, true, false, true, true, true, true, true, false, true, true, true])) (cutK M m19A (m19c [true, true, false, true, true, true, true, true, false, true, true, true, false, true, true, true, true, true, false, true, true, true]) fun s => evC (m19E k) M (m19I k) 0 m19A (m19c [true, true, false, true, true, true, true, true, false, true, true, true, false, true, true, true, true, true, false, true, true, true]) s (m19K19 M k L7 L15)) (m19K19 M k L7 L15)
noncomputable def m19K22 (M : Cut (List Int)) (k : Nat) : Exit → St → Option (List Int) := seqK (normAt 0 m19A false (m19c [true, true, true, true])) (cutK M m19A (m19c [true, true, true, true]) fun s => evC (m19E k) M (m19I k) 0 m19A (m19c [true, true, true, true]) s (retK Try.prog Try.f19 [.leaf (.own (.int .i64) 3)])) (retK Try.prog Try.f19 [.leaf (.own (.int .i64) 3)])
noncomputable def m19S7 (t4 : Int) (b0 : List Int) : St := { n := 25, tm := slots [(1, .own 0), (4, .int .i64 t4)], tab := blks [some (.row true (.int .i64) 3 b0)], nx := 1 }
noncomputable def m19S15 (t3 : Int) (t4 : Int) (t9 : Int) (b0 : List Int) : St := { n := 25, tm := slots [(1, .own 0), (3, .int .i64 t3), (4, .int .i64 t4), (9, .int .i64 t9)], tab := blks [some (.row true (.int .i64) 3 b0)], nx := 1 }
noncomputable def m19S24 (t3 : Int) (t4 : Int) (b0 : List Int) : St := { n := 25, tm := slots [(1, .own 0), (3, .int .i64 t3), (4, .int .i64 t4)], tab := blks [some (.row true (.int .i64) 3 b0)], nx := 1 }

noncomputable def m19X (X7 : Int → List Int → Option (List Int)) (k : Nat) : Option (List Int) := X7 (0) ([])

theorem m19x (M : Cut (List Int)) (k : Nat) : evC (m19E k) M (m19I k) 0 m19A (m19c []) (stAt Try.f19 (argSs [] ()) (fun _ => none) 0) (retK Try.prog Try.f19 [.leaf (.own (.int .i64) 3)]) = m19X (fun t4' b0' => loopN (normAt 0 m19A true (m19c [true, true, false, true, true, true])) (fun K s => evC (m19E k) M (m19I k) 0 m19A (m19c [true, true, false, true, true, true]) s K) (m19K4 M k) k (m19S7 t4' b0')) k := by kernel_rfl

noncomputable def m19X7 (X15 : Int → Int → Int → List Int → Option (List Int)) (k : Nat) (t4 : Int) (b0 : List Int) : Option (List Int) := (if ltI t4 256 = true then (if leI 0 8 = true then X15 (wr IntKind.i64 (t4 * 256)) t4 (0) b0 else none) else some b0)

theorem m19x7 (M : Cut (List Int)) (k : Nat) (L7 : St → Option (List Int)) (t4 : Int) (b0 : List Int) : evC (m19E k) M (m19I k) 0 m19A (m19c [true, true, false, true, true, true]) (m19S7 t4 b0) (seqK (normAt 0 m19A true (m19c [true, true, false, true, true, true])) L7 (m19K4 M k)) = m19X7 (fun t3' t4' t9' b0' => loopN (normAt 0 m19A true (m19c [true, true, false, true, true, true, true, true, false, true, true, true, false, true, true, true])) (fun K s => evC (m19E k) M (m19I k) 0 m19A (m19c [true, true, false, true, true, true, true, true, false, true, true, true, false, true, true, true]) s K) (m19K14 M k L7) k (m19S15 t3' t4' t9' b0')) k t4 b0 := by kernel_rfl

noncomputable def m19X15 (X24 : Int → Int → List Int → Option (List Int)) (L15 : Int → Int → Int → List Int → Option (List Int)) (k : Nat) (t3 : Int) (t4 : Int) (t9 : Int) (b0 : List Int) : Option (List Int) := (if ltI t9 8 = true then (if leI 0 1 = true then (if ltI 65535 (wr IntKind.i64 (t3 * 2)) = true then L15 (bits BinOp.xor IntKind.i64 (bits BinOp.and IntKind.i64 (wr IntKind.i64 (t3 * 2)) 65535) 4129) t4 (wr IntKind.i64 (t9 + 1)) b0 else L15 (wr IntKind.i64 (t3 * 2)) t4 (wr IntKind.i64 (t9 + 1)) b0) else none) else X24 t3 t4 b0)

theorem m19x15 (M : Cut (List Int)) (k : Nat) (L7 : St → Option (List Int)) (L15 : St → Option (List Int)) (t3 : Int) (t4 : Int) (t9 : Int) (b0 : List Int) : evC (m19E k) M (m19I k) 0 m19A (m19c [true, true, false, true, true, true, true, true, false, true, true, true, false, true, true, true]) (m19S15 t3 t4 t9 b0) (seqK (normAt 0 m19A true (m19c [true, true, false, true, true, true, true, true, false, true, true, true, false, true, true, true])) L15 (m19K14 M k L7)) = m19X15 (fun t3' t4' b0' => M 24 (fun s => evC (m19E k) M (m19I k) 0 m19A (m19c [true, true, false, true, true, true, true, true, false, true, true, true, true]) s (m19K9 M k L7)) (m19S24 t3' t4' b0')) (fun t3' t4' t9' b0' => L15 (m19S15 t3' t4' t9' b0')) k t3 t4 t9 b0 := by kernel_rfl

noncomputable def m19X24 (L7 : Int → List Int → Option (List Int)) (k : Nat) (t3 : Int) (t4 : Int) (b0 : List Int) : Option (List Int) := (if leI (↑((List.length b0 + List.length (List.set (List.replicate 1 0) 0 t3)) * 8) : Int) 140737488355328 = true then L7 (wr IntKind.i64 (t4 + 1)) (b0 ++ List.set (List.replicate 1 0) 0 t3) else none)

theorem m19x24 (M : Cut (List Int)) (k : Nat) (L7 : St → Option (List Int)) (t3 : Int) (t4 : Int) (b0 : List Int) : evC (m19E k) M (m19I k) 0 m19A (m19c [true, true, false, true, true, true, true, true, false, true, true, true, true]) (m19S24 t3 t4 b0) (m19K9 M k L7) = m19X24 (fun t4' b0' => L7 (m19S7 t4' b0')) k t3 t4 b0 := by kernel_rfl

noncomputable def m19F24 (k : Nat) (L7 : Int → List Int → Option (List Int)) (t3 : Int) (t4 : Int) (b0 : List Int) : Option (List Int) := m19X24 L7 k t3 t4 b0

theorem m19q24 (k : Nat) (L7 : St → Option (List Int)) (t3 : Int) (t4 : Int) (b0 : List Int) : evC (m19E k) (fun _ f => f) (m19I k) 0 m19A (m19c [true, true, false, true, true, true, true, true, false, true, true, true, true]) (m19S24 t3 t4 b0) (m19K9 (fun _ f => f) k L7) = m19F24 k (fun t4' b0' => L7 (m19S7 t4' b0')) t3 t4 b0 := by
    show _ = m19X24 (fun t4' b0' => L7 (m19S7 t4' b0')) k t3 t4 b0
    exact m19x24 (fun _ f => f) k L7 t3 t4 b0

noncomputable def m19F15 (k : Nat) (L7 : Int → List Int → Option (List Int)) : Nat → Int → Int → Int → List Int → Option (List Int)
  | 0, _, _, _, _ => none
  | j + 1, t3, t4, t9, b0 => m19X15 (m19F24 k L7) (m19F15 k L7 j) k t3 t4 t9 b0

theorem m19q15 (k : Nat) (L7 : St → Option (List Int)) : ∀ (j : Nat) (t3 : Int) (t4 : Int) (t9 : Int) (b0 : List Int), loopN (normAt 0 m19A true (m19c [true, true, false, true, true, true, true, true, false, true, true, true, false, true, true, true])) (fun K s => evC (m19E k) (fun _ f => f) (m19I k) 0 m19A (m19c [true, true, false, true, true, true, true, true, false, true, true, true, false, true, true, true]) s K) (m19K14 (fun _ f => f) k L7) j (m19S15 t3 t4 t9 b0) = m19F15 k (fun t4' b0' => L7 (m19S7 t4' b0')) j t3 t4 t9 b0
  | 0, _, _, _, _ => rfl
  | j + 1, t3, t4, t9, b0 => by
    have e0 : m19F15 k (fun t4' b0' => L7 (m19S7 t4' b0')) j = (fun t3' t4' t9' b0' => loopN (normAt 0 m19A true (m19c [true, true, false, true, true, true, true, true, false, true, true, true, false, true, true, true])) (fun K s => evC (m19E k) (fun _ f => f) (m19I k) 0 m19A (m19c [true, true, false, true, true, true, true, true, false, true, true, true, false, true, true, true]) s K) (m19K14 (fun _ f => f) k L7) j (m19S15 t3' t4' t9' b0')) := funext fun t3' => funext fun t4' => funext fun t9' => funext fun b0' => (m19q15 k L7 j t3' t4' t9' b0').symm
    have e24 : m19F24 k (fun t4' b0' => L7 (m19S7 t4' b0')) = (fun t3' t4' b0' => evC (m19E k) (fun _ f => f) (m19I k) 0 m19A (m19c [true, true, false, true, true, true, true, true, false, true, true, true, true]) (m19S24 t3' t4' b0') (m19K9 (fun _ f => f) k L7)) := funext fun t3' => funext fun t4' => funext fun b0' => (m19q24 k L7 t3' t4' b0').symm
    show _ = m19X15 (m19F24 k (fun t4' b0' => L7 (m19S7 t4' b0'))) (m19F15 k (fun t4' b0' => L7 (m19S7 t4' b0')) j) k t3 t4 t9 b0
    rw [e0, e24]
    exact m19x15 (fun _ f => f) k L7 (loopN (normAt 0 m19A true (m19c [true, true, false, true, true, true, true, true, false, true, true, true, false, true, true, true])) (fun K s => evC (m19E k) (fun _ f => f) (m19I k) 0 m19A (m19c [true, true, false, true, true, true, true, true, false, true, true, true, false, true, true, true]) s K) (m19K14 (fun _ f => f) k L7) j) t3 t4 t9 b0

noncomputable def m19F7 (k : Nat) : Nat → Int → List Int → Option (List Int)
  | 0, _, _ => none
  | j + 1, t4, b0 => m19X7 (m19F15 k (m19F7 k j) k) k t4 b0

theorem m19q7 (k : Nat) : ∀ (j : Nat) (t4 : Int) (b0 : List Int), loopN (normAt 0 m19A true (m19c [true, true, false, true, true, true])) (fun K s => evC (m19E k) (fun _ f => f) (m19I k) 0 m19A (m19c [true, true, false, true, true, true]) s K) (m19K4 (fun _ f => f) k) j (m19S7 t4 b0) = m19F7 k j t4 b0
  | 0, _, _ => rfl
  | j + 1, t4, b0 => by
    have e0 : m19F7 k j = (fun t4' b0' => loopN (normAt 0 m19A true (m19c [true, true, false, true, true, true])) (fun K s => evC (m19E k) (fun _ f => f) (m19I k) 0 m19A (m19c [true, true, false, true, true, true]) s K) (m19K4 (fun _ f => f) k) j (m19S7 t4' b0')) := funext fun t4' => funext fun b0' => (m19q7 k j t4' b0').symm
    have e15 : m19F15 k (fun t4' b0' => loopN (normAt 0 m19A true (m19c [true, true, false, true, true, true])) (fun K s => evC (m19E k) (fun _ f => f) (m19I k) 0 m19A (m19c [true, true, false, true, true, true]) s K) (m19K4 (fun _ f => f) k) j (m19S7 t4' b0')) k = (fun t3' t4' t9' b0' => loopN (normAt 0 m19A true (m19c [true, true, false, true, true, true, true, true, false, true, true, true, false, true, true, true])) (fun K s => evC (m19E k) (fun _ f => f) (m19I k) 0 m19A (m19c [true, true, false, true, true, true, true, true, false, true, true, true, false, true, true, true]) s K) (m19K14 (fun _ f => f) k (loopN (normAt 0 m19A true (m19c [true, true, false, true, true, true])) (fun K s => evC (m19E k) (fun _ f => f) (m19I k) 0 m19A (m19c [true, true, false, true, true, true]) s K) (m19K4 (fun _ f => f) k) j)) k (m19S15 t3' t4' t9' b0')) := funext fun t3' => funext fun t4' => funext fun t9' => funext fun b0' => (m19q15 k (loopN (normAt 0 m19A true (m19c [true, true, false, true, true, true])) (fun K s => evC (m19E k) (fun _ f => f) (m19I k) 0 m19A (m19c [true, true, false, true, true, true]) s K) (m19K4 (fun _ f => f) k) j) k t3' t4' t9' b0').symm
    show _ = m19X7 (m19F15 k (m19F7 k j) k) k t4 b0
    rw [e0, e15]
    exact m19x7 (fun _ f => f) k (loopN (normAt 0 m19A true (m19c [true, true, false, true, true, true])) (fun K s => evC (m19E k) (fun _ f => f) (m19I k) 0 m19A (m19c [true, true, false, true, true, true]) s K) (m19K4 (fun _ f => f) k) j) t4 b0

noncomputable def m19F (k : Nat) : Option (List Int) := m19X (m19F7 k k) k

theorem m19q (k : Nat) : evC (m19E k) (fun _ f => f) (m19I k) 0 m19A (m19c []) (stAt Try.f19 (argSs [] ()) (fun _ => none) 0) (retK Try.prog Try.f19 [.leaf (.own (.int .i64) 3)]) = m19F k := by
    have e7 : m19F7 k k = (fun t4' b0' => loopN (normAt 0 m19A true (m19c [true, true, false, true, true, true])) (fun K s => evC (m19E k) (fun _ f => f) (m19I k) 0 m19A (m19c [true, true, false, true, true, true]) s K) (m19K4 (fun _ f => f) k) k (m19S7 t4' b0')) := funext fun t4' => funext fun b0' => (m19q7 k k t4' b0').symm
    show _ = m19X (m19F7 k k) k
    rw [e7]
    exact m19x (fun _ f => f) k

noncomputable def m19sp : Spec := { ps := [], rs := [.leaf (.own (.int .i64) 3)], f := fun k a => m19F k }

theorem m19ok (k : Nat) : EnvOk (m19E k) := envOk_of (l := []) (lB := []) progNames progMixed rfl rfl (.nil) (.nil)

theorem m19con (k : Nat) : Contract Try.prog k 19 m19sp := contract_of (E := m19E k) (m19ok k) (A := only 19 m19A) (d := 3) (c := m19c []) (by kernel_rfl) (by kernel_rfl) fun a _ h => (m19q k).trans h

noncomputable def m13A : Anns := tabA [(11, { keep := [4, 5, 12, 13, 14] }), (18, { keep := [5] })]
noncomputable def m13E (k : Nat) : Env := { P := Try.prog, k := k, G := tabG [(19, m19sp)], GB := tabGB [] }
noncomputable def m13c (p : List Bool) : Code := sub p (bodyOf Try.f13)
noncomputable def m13I (k : Nat) : Inl (Int × Int) := inlOf (m13E k) (only 13 m13A) 3
noncomputable def m13K0 (M : Cut (Int × Int)) (k : Nat) : Exit → St → Option (Int × Int) := seqK (normAt 0 m13A false (m13c [true])) (cutK M m13A (m13c [true]) fun s => evC (m13E k) M (m13I k) 0 m13A (m13c [true]) s (retK Try.prog Try.f13 [.leaf (.val (.int .i64)), .leaf (.val (.int .i64))])) (retK Try.prog Try.f13 [.leaf (.val (.int .i64)), .leaf (.val (.int .i64))])
noncomputable def m13K1 (M : Cut (Int × Int)) (k : Nat) : Exit → St → Option (Int × Int) := seqK (normAt 0 m13A false (m13c [true, true])) (cutK M m13A (m13c [true, true]) fun s => evC (m13E k) M (m13I k) 0 m13A (m13c [true, true]) s (retK Try.prog Try.f13 [.leaf (.val (.int .i64)), .leaf (.val (.int .i64))])) (retK Try.prog Try.f13 [.leaf (.val (.int .i64)), .leaf (.val (.int .i64))])
noncomputable def m13K2 (M : Cut (Int × Int)) (k : Nat) : Exit → St → Option (Int × Int) := seqK (normAt 0 m13A false (m13c [true, false, true])) (cutK M m13A (m13c [true, false, true]) fun s => evC (m13E k) M (m13I k) 0 m13A (m13c [true, false, true]) s (m13K1 M k)) (m13K1 M k)
noncomputable def m13K3 (M : Cut (Int × Int)) (k : Nat) : Exit → St → Option (Int × Int) := seqK (normAt 0 m13A false (m13c [true, false, true, false, true])) (cutK M m13A (m13c [true, false, true, false, true]) fun s => evC (m13E k) M (m13I k) 0 m13A (m13c [true, false, true, false, true]) s (m13K1 M k)) (m13K1 M k)
noncomputable def m13K4 (M : Cut (Int × Int)) (k : Nat) : Exit → St → Option (Int × Int) := seqK (normAt 0 m13A false (m13c [true, true, true])) (cutK M m13A (m13c [true, true, true]) fun s => evC (m13E k) M (m13I k) 0 m13A (m13c [true, true, true]) s (retK Try.prog Try.f13 [.leaf (.val (.int .i64)), .leaf (.val (.int .i64))])) (retK Try.prog Try.f13 [.leaf (.val (.int .i64)), .leaf (.val (.int .i64))])
noncomputable def m13K5 (M : Cut (Int × Int)) (k : Nat) : Exit → St → Option (Int × Int) := seqK (normAt 0 m13A false (m13c [true, true, true, true])) (cutK M m13A (m13c [true, true, true, true]) fun s => evC (m13E k) M (m13I k) 0 m13A (m13c [true, true, true, true]) s (retK Try.prog Try.f13 [.leaf (.val (.int .i64)), .leaf (.val (.int .i64))])) (retK Try.prog Try.f13 [.leaf (.val (.int .i64)), .leaf (.val (.int .i64))])
noncomputable def m13K6 (M : Cut (Int × Int)) (k : Nat) : Exit → St → Option (Int × Int) := seqK (normAt 0 m13A false (m13c [true, true, true, false, true])) (cutK M m13A (m13c [true, true, true, false, true]) fun s => evC (m13E k) M (m13I k) 0 m13A (m13c [true, true, true, false, true]) s (m13K5 M k)) (m13K5 M k)
noncomputable def m13K7 (M : Cut (Int × Int)) (k : Nat) : Exit → St → Option (Int × Int) := blockK 0 (m13K5 M k)
noncomputable def m13K8 (M : Cut (Int × Int)) (k : Nat) (L11 : St → Option (Int × Int)) : Exit → St → Option (Int × Int) := seqK (normAt 0 m13A true (m13c [true, true, true, false, true, true, true])) L11 (m13K7 M k)
noncomputable def m13K9 (M : Cut (Int × Int)) (k : Nat) (L11 : St → Option (Int × Int)) : Exit → St → Option (Int × Int) := seqK (normAt 0 m13A false (m13c [true, true, true, false, true, true, true, true])) (cutK M m13A (m13c [true, true, true, false, true, true, true, true]) fun s => evC (m13E k) M (m13I k) 0 m13A (m13c [true, true, true, false, true, true, true, true]) s (m13K8 M k L11)) (m13K8 M k L11)
noncomputable def m13K10 (M : Cut (Int × Int)) (k : Nat) (L11 : St → Option (Int × Int)) : Exit → St → Option (Int × Int) := seqK (normAt 0 m13A false (m13c [true, true, true, false, true, true, true, true, true])) (cutK M m13A (m13c [true, true, true, false, true, true, true, true, true]) fun s => evC (m13E k) M (m13I k) 0 m13A (m13c [true, true, true, false, true, true, true, true, true]) s (m13K8 M k L11)) (m13K8 M k L11)
noncomputable def m13K11 (M : Cut (Int × Int)) (k : Nat) (L11 : St → Option (Int × Int)) : Exit → St → Option (Int × Int) := seqK (normAt 0 m13A false (m13c [true, true, true, false, true, true, true, true, true, true])) (cutK M m13A (m13c [true, true, true, false, true, true, true, true, true, true]) fun s => evC (m13E k) M (m13I k) 0 m13A (m13c [true, true, true, false, true, true, true, true, true, true]) s (m13K8 M k L11)) (m13K8 M k L11)
noncomputable def m13K12 (M : Cut (Int × Int)) (k : Nat) (L11 : St → Option (Int × Int)) : Exit → St → Option (Int × Int) := blockK 1 (m13K11 M k L11)
noncomputable def m13K13 (M : Cut (Int × Int)) (k : Nat) (L11 : St → Option (Int × Int)) : Exit → St → Option (Int × Int) := seqK (normAt 0 m13A false (m13c [true, true, true, false, true, true, true, true, true, false, true, true])) (cutK M m13A (m13c [true, true, true, false, true, true, true, true, true, false, true, true]) fun s => evC (m13E k) M (m13I k) 0 m13A (m13c [true, true, true, false, true, true, true, true, true, false, true, true]) s (m13K12 M k L11)) (m13K12 M k L11)
noncomputable def m13K14 (M : Cut (Int × Int)) (k : Nat) : Exit → St → Option (Int × Int) := seqK (normAt 0 m13A false (m13c [true, true, true, true, true])) (cutK M m13A (m13c [true, true, true, true, true]) fun s => evC (m13E k) M (m13I k) 0 m13A (m13c [true, true, true, true, true]) s (retK Try.prog Try.f13 [.leaf (.val (.int .i64)), .leaf (.val (.int .i64))])) (retK Try.prog Try.f13 [.leaf (.val (.int .i64)), .leaf (.val (.int .i64))])
noncomputable def m13S11 (t5 : Int) (t12 : List Int) (t13 : Int) (t14 : Int) (b0 : List Int) : St := { n := 32, tm := slots [(4, .own 0), (5, .int .i64 t5), (12, .row (.int .u8) t12), (13, .int .i64 t13), (14, .int .i64 t14)], tab := blks [some (.row true (.int .i64) 3 b0)], nx := 1 }
noncomputable def m13S18 (t5 : Int) : St := { n := 32, tm := slots [(5, .int .i64 t5)], tab := blks [], nx := 0 }

noncomputable def m13X (X11 : Int → List Int → Int → Int → List Int → Option (Int × Int)) (k : Nat) (p0 : (List Int)) : Option (Int × Int) := (if ltI 4096 (↑(List.length p0) : Int) = true then some ((0, 2)) else (Option.bind (m19F k) fun (c3 : (List Int)) => X11 (65535) p0 ((↑(List.length p0) : Int)) (0) c3))

theorem m13x (M : Cut (Int × Int)) (k : Nat) (p0 : (List Int)) : evC (m13E k) M (m13I k) 0 m13A (m13c []) (stAt Try.f13 (argSs [.leaf (.val (.row (.int .u8)))] p0) (fun _ => none) 0) (retK Try.prog Try.f13 [.leaf (.val (.int .i64)), .leaf (.val (.int .i64))]) = m13X (fun t5' t12' t13' t14' b0' => loopN (normAt 0 m13A true (m13c [true, true, true, false, true, true, true])) (fun K s => evC (m13E k) M (m13I k) 0 m13A (m13c [true, true, true, false, true, true, true]) s K) (m13K7 M k) k (m13S11 t5' t12' t13' t14' b0')) k p0 := by kernel_rfl

noncomputable def m13X11 (X18 : Int → Option (Int × Int)) (L11 : Int → List Int → Int → Int → List Int → Option (Int × Int)) (k : Nat) (t5 : Int) (t12 : List Int) (t13 : Int) (t14 : Int) (b0 : List Int) : Option (Int × Int) := (if ltI t14 t13 = true then (if leI 0 t14 = true then (if ltI t14 (↑(List.length t12) : Int) = true then (if leI 0 8 = true then (if leI 0 8 = true then (if leI 0 (bits BinOp.xor IntKind.i64 (t5 / 256) (wr IntKind.i64 (List.getD t12 (Int.toNat t14) 0))) = true then (if ltI (bits BinOp.xor IntKind.i64 (t5 / 256) (wr IntKind.i64 (List.getD t12 (Int.toNat t14) 0)))
    (↑(List.length b0) : Int) =
  true then L11 (bits BinOp.xor IntKind.i64 (bits BinOp.and IntKind.i64 (wr IntKind.i64 (t5 * 256)) 65535)
  (List.getD b0 (Int.toNat (bits BinOp.xor IntKind.i64 (t5 / 256) (wr IntKind.i64 (List.getD t12 (Int.toNat t14) 0))))
    0)) t12 t13 (wr IntKind.i64 (t14 + 1)) b0 else none) else none) else none) else none) else none) else none) else X18 t5)

theorem m13x11 (M : Cut (Int × Int)) (k : Nat) (L11 : St → Option (Int × Int)) (t5 : Int) (t12 : List Int) (t13 : Int) (t14 : Int) (b0 : List Int) : evC (m13E k) M (m13I k) 0 m13A (m13c [true, true, true, false, true, true, true]) (m13S11 t5 t12 t13 t14 b0) (seqK (normAt 0 m13A true (m13c [true, true, true, false, true, true, true])) L11 (m13K7 M k)) = m13X11 (fun t5' => M 18 (fun s => evC (m13E k) M (m13I k) 0 m13A (m13c [true, true, true, true]) s (retK Try.prog Try.f13 [.leaf (.val (.int .i64)), .leaf (.val (.int .i64))])) (m13S18 t5')) (fun t5' t12' t13' t14' b0' => L11 (m13S11 t5' t12' t13' t14' b0')) k t5 t12 t13 t14 b0 := by kernel_rfl

noncomputable def m13X18 (k : Nat) (t5 : Int) : Option (Int × Int) := some ((t5, 0))

theorem m13x18 (M : Cut (Int × Int)) (k : Nat) (t5 : Int) : evC (m13E k) M (m13I k) 0 m13A (m13c [true, true, true, true]) (m13S18 t5) (retK Try.prog Try.f13 [.leaf (.val (.int .i64)), .leaf (.val (.int .i64))]) = m13X18 k t5 := by kernel_rfl

noncomputable def m13F18 (k : Nat) (t5 : Int) : Option (Int × Int) := m13X18 k t5

theorem m13q18 (k : Nat) (t5 : Int) : evC (m13E k) (fun _ f => f) (m13I k) 0 m13A (m13c [true, true, true, true]) (m13S18 t5) (retK Try.prog Try.f13 [.leaf (.val (.int .i64)), .leaf (.val (.int .i64))]) = m13F18 k t5 := by
    show _ = m13X18 k t5
    exact m13x18 (fun _ f => f) k t5

noncomputable def m13F11 (k : Nat) : Nat → Int → List Int → Int → Int → List Int → Option (Int × Int)
  | 0, _, _, _, _, _ => none
  | j + 1, t5, t12, t13, t14, b0 => m13X11 (m13F18 k) (m13F11 k j) k t5 t12 t13 t14 b0

theorem m13q11 (k : Nat) : ∀ (j : Nat) (t5 : Int) (t12 : List Int) (t13 : Int) (t14 : Int) (b0 : List Int), loopN (normAt 0 m13A true (m13c [true, true, true, false, true, true, true])) (fun K s => evC (m13E k) (fun _ f => f) (m13I k) 0 m13A (m13c [true, true, true, false, true, true, true]) s K) (m13K7 (fun _ f => f) k) j (m13S11 t5 t12 t13 t14 b0) = m13F11 k j t5 t12 t13 t14 b0
  | 0, _, _, _, _, _ => rfl
  | j + 1, t5, t12, t13, t14, b0 => by
    have e0 : m13F11 k j = (fun t5' t12' t13' t14' b0' => loopN (normAt 0 m13A true (m13c [true, true, true, false, true, true, true])) (fun K s => evC (m13E k) (fun _ f => f) (m13I k) 0 m13A (m13c [true, true, true, false, true, true, true]) s K) (m13K7 (fun _ f => f) k) j (m13S11 t5' t12' t13' t14' b0')) := funext fun t5' => funext fun t12' => funext fun t13' => funext fun t14' => funext fun b0' => (m13q11 k j t5' t12' t13' t14' b0').symm
    have e18 : m13F18 k = (fun t5' => evC (m13E k) (fun _ f => f) (m13I k) 0 m13A (m13c [true, true, true, true]) (m13S18 t5') (retK Try.prog Try.f13 [.leaf (.val (.int .i64)), .leaf (.val (.int .i64))])) := funext fun t5' => (m13q18 k t5').symm
    show _ = m13X11 (m13F18 k) (m13F11 k j) k t5 t12 t13 t14 b0
    rw [e0, e18]
    exact m13x11 (fun _ f => f) k (loopN (normAt 0 m13A true (m13c [true, true, true, false, true, true, true])) (fun K s => evC (m13E k) (fun _ f => f) (m13I k) 0 m13A (m13c [true, true, true, false, true, true, true]) s K) (m13K7 (fun _ f => f) k) j) t5 t12 t13 t14 b0

noncomputable def m13F (k : Nat) (p0 : (List Int)) : Option (Int × Int) := m13X (m13F11 k k) k p0

theorem m13q (k : Nat) (p0 : (List Int)) : evC (m13E k) (fun _ f => f) (m13I k) 0 m13A (m13c []) (stAt Try.f13 (argSs [.leaf (.val (.row (.int .u8)))] p0) (fun _ => none) 0) (retK Try.prog Try.f13 [.leaf (.val (.int .i64)), .leaf (.val (.int .i64))]) = m13F k p0 := by
    have e11 : m13F11 k k = (fun t5' t12' t13' t14' b0' => loopN (normAt 0 m13A true (m13c [true, true, true, false, true, true, true])) (fun K s => evC (m13E k) (fun _ f => f) (m13I k) 0 m13A (m13c [true, true, true, false, true, true, true]) s K) (m13K7 (fun _ f => f) k) k (m13S11 t5' t12' t13' t14' b0')) := funext fun t5' => funext fun t12' => funext fun t13' => funext fun t14' => funext fun b0' => (m13q11 k k t5' t12' t13' t14' b0').symm
    show _ = m13X (m13F11 k k) k p0
    rw [e11]
    exact m13x (fun _ f => f) k p0

noncomputable def m13sp : Spec := { ps := [.leaf (.val (.row (.int .u8)))], rs := [.leaf (.val (.int .i64)), .leaf (.val (.int .i64))], f := fun k a => m13F k a }

theorem m13ok (k : Nat) : EnvOk (m13E k) := envOk_of (l := [(19, m19sp)]) (lB := []) progNames progMixed rfl rfl (.cons ⟨m19con k, Try.f19, by kernel_rfl, by kernel_rfl⟩ (.nil)) (.nil)

theorem m13con (k : Nat) : Contract Try.prog k 13 m13sp := contract_of (E := m13E k) (m13ok k) (A := only 13 m13A) (d := 3) (c := m13c []) (by kernel_rfl) (by kernel_rfl) fun a _ h => (m13q k a).trans h

noncomputable def m20A : Anns := tabA [(7, { keep := [1, 5], mat := [(1, (.int .i64), 3)] }), (15, { keep := [1, 3, 5, 9] }), (26, { keep := [1, 3, 5] })]
noncomputable def m20E (k : Nat) : Env := { P := Try.prog, k := k, G := tabG [], GB := tabGB [] }
noncomputable def m20c (p : List Bool) : Code := sub p (bodyOf Try.f20)
noncomputable def m20I (k : Nat) : Inl (List Int) := inlOf (m20E k) (only 20 m20A) 3
noncomputable def m20K0 (M : Cut (List Int)) (k : Nat) : Exit → St → Option (List Int) := seqK (normAt 0 m20A false (m20c [true])) (cutK M m20A (m20c [true]) fun s => evC (m20E k) M (m20I k) 0 m20A (m20c [true]) s (retK Try.prog Try.f20 [.leaf (.own (.int .i64) 3)])) (retK Try.prog Try.f20 [.leaf (.own (.int .i64) 3)])
noncomputable def m20K1 (M : Cut (List Int)) (k : Nat) : Exit → St → Option (List Int) := seqK (normAt 0 m20A false (m20c [true, true])) (cutK M m20A (m20c [true, true]) fun s => evC (m20E k) M (m20I k) 0 m20A (m20c [true, true]) s (retK Try.prog Try.f20 [.leaf (.own (.int .i64) 3)])) (retK Try.prog Try.f20 [.leaf (.own (.int .i64) 3)])
noncomputable def m20K2 (M : Cut (List Int)) (k : Nat) : Exit → St → Option (List Int) := seqK (normAt 0 m20A false (m20c [true, true, true])) (cutK M m20A (m20c [true, true, true]) fun s => evC (m20E k) M (m20I k) 0 m20A (m20c [true, true, true]) s (retK Try.prog Try.f20 [.leaf (.own (.int .i64) 3)])) (retK Try.prog Try.f20 [.leaf (.own (.int .i64) 3)])
noncomputable def m20K3 (M : Cut (List Int)) (k : Nat) : Exit → St → Option (List Int) := seqK (normAt 0 m20A false (m20c [true, true, false, true])) (cutK M m20A (m20c [true, true, false, true]) fun s => evC (m20E k) M (m20I k) 0 m20A (m20c [true, true, false, true]) s (m20K2 M k)) (m20K2 M k)
noncomputable def m20K4 (M : Cut (List Int)) (k : Nat) : Exit → St → Option (List Int) := blockK 0 (m20K2 M k)
noncomputable def m20K5 (M : Cut (List Int)) (k : Nat) (L7 : St → Option (List Int)) : Exit → St → Option (List Int) := seqK (normAt 0 m20A true (m20c [true, true, false, true, true, true])) L7 (m20K4 M k)
noncomputable def m20K6 (M : Cut (List Int)) (k : Nat) (L7 : St → Option (List Int)) : Exit → St → Option (List Int) := seqK (normAt 0 m20A false (m20c [true, true, false, true, true, true, true])) (cutK M m20A (m20c [true, true, false, true, true, true, true]) fun s => evC (m20E k) M (m20I k) 0 m20A (m20c [true, true, false, true, true, true, true]) s (m20K5 M k L7)) (m20K5 M k L7)
noncomputable def m20K7 (M : Cut (List Int)) (k : Nat) (L7 : St → Option (List Int)) : Exit → St → Option (List Int) := seqK (normAt 0 m20A false (m20c [true, true, false, true, true, true, true, true])) (cutK M m20A (m20c [true, true, false, true, true, true, true, true]) fun s => evC (m20E k) M (m20I k) 0 m20A (m20c [true, true, false, true, true, true, true, true]) s (m20K5 M k L7)) (m20K5 M k L7)
noncomputable def m20K8 (M : Cut (List Int)) (k : Nat) (L7 : St → Option (List Int)) : Exit → St → Option (List Int) := seqK (normAt 0 m20A false (m20c [true, true, false, true, true, true, true, true, true])) (cutK M m20A (m20c [true, true, false, true, true, true, true, true, true]) fun s => evC (m20E k) M (m20I k) 0 m20A (m20c [true, true, false, true, true, true, true, true, true]) s (m20K5 M k L7)) (m20K5 M k L7)
noncomputable def m20K9 (M : Cut (List Int)) (k : Nat) (L7 : St → Option (List Int)) : Exit → St → Option (List Int) := blockK 1 (m20K8 M k L7)
noncomputable def m20K10 (M : Cut (List Int)) (k : Nat) (L7 : St → Option (List Int)) : Exit → St → Option (List Int) := seqK (normAt 0 m20A false (m20c [true, true, false, true, true, true, true, true, false, true, true])) (cutK M m20A (m20c [true, true, false, true, true, true, true, true, false, true, true]) fun s => evC (m20E k) M (m20I k) 0 m20A (m20c [true, true, false, true, true, true, true, true, false, true, true]) s (m20K9 M k L7)) (m20K9 M k L7)
noncomputable def m20K11 (M : Cut (List Int)) (k : Nat) (L7 : St → Option (List Int)) : Exit → St → Option (List Int) := seqK (normAt 0 m20A false (m20c [true, true, false, true, true, true, true, true, false, true, true, true])) (cutK M m20A (m20c [true, true, false, true, true, true, true, true, false, true, true, true]) fun s => evC (m20E k) M (m20I k) 0 m20A (m20c [true, true, false, true, true, true, true, true, false, true, true, true]) s (m20K9 M k L7)) (m20K9 M k L7)
noncomputable def m20K12 (M : Cut (List Int)) (k : Nat) (L7 : St → Option (List Int)) : Exit → St → Option (List Int) := seqK (normAt 0 m20A false (m20c [true, true, false, true, true, true, true, true, false, true, true, true, true])) (cutK M m20A (m20c [true, true, false, true, true, true, true, true, false, true, true, true, true]) fun s => evC (m20E k) M (m20I k) 0 m20A (m20c [true, true, false, true, true, true, true, true, false, true, true, true, true]) s (m20K9 M k L7)) (m20K9 M k L7)
noncomputable def m20K13 (M : Cut (List Int)) (k : Nat) (L7 : St → Option (List Int)) : Exit → St → Option (List Int) := seqK (normAt 0 m20A false (m20c [true, true, false, true, true, true, true, true, false, true, true, true, false, true])) (cutK M m20A (m20c [true, true, false, true, true, true, true, true, false, true, true, true, false, true]) fun s => evC (m20E k) M (m20I k) 0 m20A (m20c [true, true, false, true, true, true, true, true, false, true, true, true, false, true]) s (m20K12 M k L7)) (m20K12 M k L7)
noncomputable def m20K14 (M : Cut (List Int)) (k : Nat) (L7 : St → Option (List Int)) : Exit → St → Option (List Int) := blockK 2 (m20K12 M k L7)
noncomputable def m20K15 (M : Cut (List Int)) (k : Nat) (L7 : St → Option (List Int)) (L15 : St → Option (List Int)) : Exit → St → Option (List Int) := seqK (normAt 0 m20A true (m20c [true, true, false, true, true, true, true, true, false, true, true, true, false, true, true, true])) L15 (m20K14 M k L7)
noncomputable def m20K16 (M : Cut (List Int)) (k : Nat) (L7 : St → Option (List Int)) (L15 : St → Option (List Int)) : Exit → St → Option (List Int) := seqK (normAt 0 m20A false (m20c [true, true, false, true, true, true, true, true, false, true, true, true, false, true, true, true, true])) (cutK M m20A (m20c [true, true, false, true, true, true, true, true, false, true, true, true, false, true, true, true, true]) fun s => evC (m20E k) M (m20I k) 0 m20A (m20c [true, true, false, true, true, true, true, true, false, true, true, true, false, true, true, true, true]) s (m20K15 M k L7 L15)) (m20K15 M k L7 L15)
noncomputable def m20K17 (M : Cut (List Int)) (k : Nat) (L7 : St → Option (List Int)) (L15 : St → Option (List Int)) : Exit → St → Option (List Int) := seqK (normAt 0 m20A false (m20c [true, true, false, true, true, true, true, true, false, true, true, true, false, true, true, true, true, true])) (cutK M m20A (m20c [true, true, false, true, true, true, true, true, false, true, true, true, false, true, true, true, true, true]) fun s => evC (m20E k) M (m20I k) 0 m20A (m20c [true, true, false, true, true, true, true, true, false, true, true, true, false, true, true, true, true, true]) s (m20K15 M k L7 L15)) (m20K15 M k L7 L15)
noncomputable def m20K18 (M : Cut (List Int)) (k : Nat) (L7 : St → Option (List Int)) (L15 : St → Option (List Int)) : Exit → St → Option (List Int) := seqK (normAt 0 m20A false (m20c [true, true, false, true, true, true, true, true, false, true, true, true, false, true, true, true, true, true, true])) (cutK M m20A (m20c [true, true, false, true, true, true, true, true, false, true, true, true, false, true, true, true, true, true, true]) fun s => evC (m20E k) M (m20I k) 0 m20A (m20c [true, true, false, true, true, true, true, true, false, true, true, true, false, true, true, true, true, true, true]) s (m20K15 M k L7 L15)) (m20K15 M k L7 L15)
noncomputable def m20K19 (M : Cut (List Int)) (k : Nat) (L7 : St → Option (List Int)) (L15 : St → Option (List Int)) : Exit → St → Option (List Int) := blockK 3 (m20K18 M k L7 L15)
noncomputable def m20K20 (M : Cut (List Int)) (k : Nat) (L7 : St → Option (List Int)) (L15 : St → Option (List Int)) : Exit → St → Option (List Int) := seqK (normAt 0 m20A false (m20c [true, true, false, true, true, true, true, true, false, true, true, true, false, true, true, true, true, true, false, true, true])) (cutK M m20A (m20c [true, true, false, true, true, true, true, true, false, true, true, true, false, true, true, true, true, true, false, true, true]) fun s => evC (m20E k) M (m20I k) 0 m20A (m20c [true, true, false, true, true, true, true, true, false, true, true, true, false, true, true, true, true, true, false, true, true]) s (m20K19 M k L7 L15)) (m20K19 M k L7 L15)
noncomputable def m20K21 (M : Cut (List Int)) (k : Nat) (L7 : St → Option (List Int)) (L15 : St → Option (List Int)) : Exit → St → Option (List Int) := seqK (normAt 0 m20A false (m20c [true, true, false, true, true, true, true, true, false, true, true, true, false, true, true, true, true, true, false, true, true, true])) (cutK M m20A (m20c [true, true, false, true, true, true, true, true, false, true, true, true, false, true, true, true, true, true, false, true, true, true]) fun s => evC (m20E k) M (m20I k) 0 m20A (m20c [true, true, false, true, true, true, true, true, false, true, true, true, false, true, true, true, true, true, false, true, true, true]) s (m20K19 M k L7 L15)) (m20K19 M k L7 L15)
noncomputable def m20K22 (M : Cut (List Int)) (k : Nat) (L7 : St → Option (List Int)) (L15 : St → Option (List Int)) : Exit → St → Option (List Int) := seqK (normAt 0 m20A false (m20c [true, true, false, true, true, true, true, true, false, true, true, true, false, true, true, true, true, true, false, true, true, true, true])) (cutK M m20A (m20c [true, true, false, true, true, true, true, true, false, true, true, true, false, true, true, true, true, true, false, true, true, true, true]) fun s => evC (m20E k) M (m20I k) 0 m20A (m20c [true, true, false, true, true, true, true, true, false, true, true, true, false, true, true, true, true, true, false, true, true, true, true]) s (m20K19 M k L7 L15)) (m20K19 M k L7 L15)
noncomputable def m20K23 (M : Cut (List Int)) (k : Nat) : Exit → St → Option (List Int) := seqK (normAt 0 m20A false (m20c [true, true, true, true])) (cutK M m20A (m20c [true, true, true, true]) fun s => evC (m20E k) M (m20I k) 0 m20A (m20c [true, true, true, true]) s (retK Try.prog Try.f20 [.leaf (.own (.int .i64) 3)])) (retK Try.prog Try.f20 [.leaf (.own (.int .i64) 3)])
noncomputable def m20S7 (t5 : Int) (b0 : List Int) : St := { n := 26, tm := slots [(1, .own 0), (5, .int .i64 t5)], tab := blks [some (.row true (.int .i64) 3 b0)], nx := 1 }
noncomputable def m20S15 (t3 : Int) (t5 : Int) (t9 : Int) (b0 : List Int) : St := { n := 26, tm := slots [(1, .own 0), (3, .int .i64 t3), (5, .int .i64 t5), (9, .int .i64 t9)], tab := blks [some (.row true (.int .i64) 3 b0)], nx := 1 }
noncomputable def m20S26 (t3 : Int) (t5 : Int) (b0 : List Int) : St := { n := 26, tm := slots [(1, .own 0), (3, .int .i64 t3), (5, .int .i64 t5)], tab := blks [some (.row true (.int .i64) 3 b0)], nx := 1 }

noncomputable def m20X (X7 : Int → List Int → Option (List Int)) (k : Nat) : Option (List Int) := X7 (0) ([])

theorem m20x (M : Cut (List Int)) (k : Nat) : evC (m20E k) M (m20I k) 0 m20A (m20c []) (stAt Try.f20 (argSs [] ()) (fun _ => none) 0) (retK Try.prog Try.f20 [.leaf (.own (.int .i64) 3)]) = m20X (fun t5' b0' => loopN (normAt 0 m20A true (m20c [true, true, false, true, true, true])) (fun K s => evC (m20E k) M (m20I k) 0 m20A (m20c [true, true, false, true, true, true]) s K) (m20K4 M k) k (m20S7 t5' b0')) k := by kernel_rfl

noncomputable def m20X7 (X15 : Int → Int → Int → List Int → Option (List Int)) (k : Nat) (t5 : Int) (b0 : List Int) : Option (List Int) := (if ltI t5 256 = true then X15 t5 t5 (0) b0 else some b0)

theorem m20x7 (M : Cut (List Int)) (k : Nat) (L7 : St → Option (List Int)) (t5 : Int) (b0 : List Int) : evC (m20E k) M (m20I k) 0 m20A (m20c [true, true, false, true, true, true]) (m20S7 t5 b0) (seqK (normAt 0 m20A true (m20c [true, true, false, true, true, true])) L7 (m20K4 M k)) = m20X7 (fun t3' t5' t9' b0' => loopN (normAt 0 m20A true (m20c [true, true, false, true, true, true, true, true, false, true, true, true, false, true, true, true])) (fun K s => evC (m20E k) M (m20I k) 0 m20A (m20c [true, true, false, true, true, true, true, true, false, true, true, true, false, true, true, true]) s K) (m20K14 M k L7) k (m20S15 t3' t5' t9' b0')) k t5 b0 := by kernel_rfl

noncomputable def m20X15 (X26 : Int → Int → List Int → Option (List Int)) (L15 : Int → Int → Int → List Int → Option (List Int)) (k : Nat) (t3 : Int) (t5 : Int) (t9 : Int) (b0 : List Int) : Option (List Int) := (if ltI t9 8 = true then (if leI 0 1 = true then (if eqI (bits BinOp.and IntKind.i64 t3 1) 1 = true then L15 (bits BinOp.xor IntKind.i64 (t3 / 2) 3988292384) t5 (wr IntKind.i64 (t9 + 1)) b0 else L15 (t3 / 2) t5 (wr IntKind.i64 (t9 + 1)) b0) else none) else X26 t3 t5 b0)

theorem m20x15 (M : Cut (List Int)) (k : Nat) (L7 : St → Option (List Int)) (L15 : St → Option (List Int)) (t3 : Int) (t5 : Int) (t9 : Int) (b0 : List Int) : evC (m20E k) M (m20I k) 0 m20A (m20c [true, true, false, true, true, true, true, true, false, true, true, true, false, true, true, true]) (m20S15 t3 t5 t9 b0) (seqK (normAt 0 m20A true (m20c [true, true, false, true, true, true, true, true, false, true, true, true, false, true, true, true])) L15 (m20K14 M k L7)) = m20X15 (fun t3' t5' b0' => M 26 (fun s => evC (m20E k) M (m20I k) 0 m20A (m20c [true, true, false, true, true, true, true, true, false, true, true, true, true]) s (m20K9 M k L7)) (m20S26 t3' t5' b0')) (fun t3' t5' t9' b0' => L15 (m20S15 t3' t5' t9' b0')) k t3 t5 t9 b0 := by kernel_rfl

noncomputable def m20X26 (L7 : Int → List Int → Option (List Int)) (k : Nat) (t3 : Int) (t5 : Int) (b0 : List Int) : Option (List Int) := (if leI (↑((List.length b0 + List.length (List.set (List.replicate 1 0) 0 t3)) * 8) : Int) 140737488355328 = true then L7 (wr IntKind.i64 (t5 + 1)) (b0 ++ List.set (List.replicate 1 0) 0 t3) else none)

theorem m20x26 (M : Cut (List Int)) (k : Nat) (L7 : St → Option (List Int)) (t3 : Int) (t5 : Int) (b0 : List Int) : evC (m20E k) M (m20I k) 0 m20A (m20c [true, true, false, true, true, true, true, true, false, true, true, true, true]) (m20S26 t3 t5 b0) (m20K9 M k L7) = m20X26 (fun t5' b0' => L7 (m20S7 t5' b0')) k t3 t5 b0 := by kernel_rfl

noncomputable def m20F26 (k : Nat) (L7 : Int → List Int → Option (List Int)) (t3 : Int) (t5 : Int) (b0 : List Int) : Option (List Int) := m20X26 L7 k t3 t5 b0

theorem m20q26 (k : Nat) (L7 : St → Option (List Int)) (t3 : Int) (t5 : Int) (b0 : List Int) : evC (m20E k) (fun _ f => f) (m20I k) 0 m20A (m20c [true, true, false, true, true, true, true, true, false, true, true, true, true]) (m20S26 t3 t5 b0) (m20K9 (fun _ f => f) k L7) = m20F26 k (fun t5' b0' => L7 (m20S7 t5' b0')) t3 t5 b0 := by
    show _ = m20X26 (fun t5' b0' => L7 (m20S7 t5' b0')) k t3 t5 b0
    exact m20x26 (fun _ f => f) k L7 t3 t5 b0

noncomputable def m20F15 (k : Nat) (L7 : Int → List Int → Option (List Int)) : Nat → Int → Int → Int → List Int → Option (List Int)
  | 0, _, _, _, _ => none
  | j + 1, t3, t5, t9, b0 => m20X15 (m20F26 k L7) (m20F15 k L7 j) k t3 t5 t9 b0

theorem m20q15 (k : Nat) (L7 : St → Option (List Int)) : ∀ (j : Nat) (t3 : Int) (t5 : Int) (t9 : Int) (b0 : List Int), loopN (normAt 0 m20A true (m20c [true, true, false, true, true, true, true, true, false, true, true, true, false, true, true, true])) (fun K s => evC (m20E k) (fun _ f => f) (m20I k) 0 m20A (m20c [true, true, false, true, true, true, true, true, false, true, true, true, false, true, true, true]) s K) (m20K14 (fun _ f => f) k L7) j (m20S15 t3 t5 t9 b0) = m20F15 k (fun t5' b0' => L7 (m20S7 t5' b0')) j t3 t5 t9 b0
  | 0, _, _, _, _ => rfl
  | j + 1, t3, t5, t9, b0 => by
    have e0 : m20F15 k (fun t5' b0' => L7 (m20S7 t5' b0')) j = (fun t3' t5' t9' b0' => loopN (normAt 0 m20A true (m20c [true, true, false, true, true, true, true, true, false, true, true, true, false, true, true, true])) (fun K s => evC (m20E k) (fun _ f => f) (m20I k) 0 m20A (m20c [true, true, false, true, true, true, true, true, false, true, true, true, false, true, true, true]) s K) (m20K14 (fun _ f => f) k L7) j (m20S15 t3' t5' t9' b0')) := funext fun t3' => funext fun t5' => funext fun t9' => funext fun b0' => (m20q15 k L7 j t3' t5' t9' b0').symm
    have e26 : m20F26 k (fun t5' b0' => L7 (m20S7 t5' b0')) = (fun t3' t5' b0' => evC (m20E k) (fun _ f => f) (m20I k) 0 m20A (m20c [true, true, false, true, true, true, true, true, false, true, true, true, true]) (m20S26 t3' t5' b0') (m20K9 (fun _ f => f) k L7)) := funext fun t3' => funext fun t5' => funext fun b0' => (m20q26 k L7 t3' t5' b0').symm
    show _ = m20X15 (m20F26 k (fun t5' b0' => L7 (m20S7 t5' b0'))) (m20F15 k (fun t5' b0' => L7 (m20S7 t5' b0')) j) k t3 t5 t9 b0
    rw [e0, e26]
    exact m20x15 (fun _ f => f) k L7 (loopN (normAt 0 m20A true (m20c [true, true, false, true, true, true, true, true, false, true, true, true, false, true, true, true])) (fun K s => evC (m20E k) (fun _ f => f) (m20I k) 0 m20A (m20c [true, true, false, true, true, true, true, true, false, true, true, true, false, true, true, true]) s K) (m20K14 (fun _ f => f) k L7) j) t3 t5 t9 b0

noncomputable def m20F7 (k : Nat) : Nat → Int → List Int → Option (List Int)
  | 0, _, _ => none
  | j + 1, t5, b0 => m20X7 (m20F15 k (m20F7 k j) k) k t5 b0

theorem m20q7 (k : Nat) : ∀ (j : Nat) (t5 : Int) (b0 : List Int), loopN (normAt 0 m20A true (m20c [true, true, false, true, true, true])) (fun K s => evC (m20E k) (fun _ f => f) (m20I k) 0 m20A (m20c [true, true, false, true, true, true]) s K) (m20K4 (fun _ f => f) k) j (m20S7 t5 b0) = m20F7 k j t5 b0
  | 0, _, _ => rfl
  | j + 1, t5, b0 => by
    have e0 : m20F7 k j = (fun t5' b0' => loopN (normAt 0 m20A true (m20c [true, true, false, true, true, true])) (fun K s => evC (m20E k) (fun _ f => f) (m20I k) 0 m20A (m20c [true, true, false, true, true, true]) s K) (m20K4 (fun _ f => f) k) j (m20S7 t5' b0')) := funext fun t5' => funext fun b0' => (m20q7 k j t5' b0').symm
    have e15 : m20F15 k (fun t5' b0' => loopN (normAt 0 m20A true (m20c [true, true, false, true, true, true])) (fun K s => evC (m20E k) (fun _ f => f) (m20I k) 0 m20A (m20c [true, true, false, true, true, true]) s K) (m20K4 (fun _ f => f) k) j (m20S7 t5' b0')) k = (fun t3' t5' t9' b0' => loopN (normAt 0 m20A true (m20c [true, true, false, true, true, true, true, true, false, true, true, true, false, true, true, true])) (fun K s => evC (m20E k) (fun _ f => f) (m20I k) 0 m20A (m20c [true, true, false, true, true, true, true, true, false, true, true, true, false, true, true, true]) s K) (m20K14 (fun _ f => f) k (loopN (normAt 0 m20A true (m20c [true, true, false, true, true, true])) (fun K s => evC (m20E k) (fun _ f => f) (m20I k) 0 m20A (m20c [true, true, false, true, true, true]) s K) (m20K4 (fun _ f => f) k) j)) k (m20S15 t3' t5' t9' b0')) := funext fun t3' => funext fun t5' => funext fun t9' => funext fun b0' => (m20q15 k (loopN (normAt 0 m20A true (m20c [true, true, false, true, true, true])) (fun K s => evC (m20E k) (fun _ f => f) (m20I k) 0 m20A (m20c [true, true, false, true, true, true]) s K) (m20K4 (fun _ f => f) k) j) k t3' t5' t9' b0').symm
    show _ = m20X7 (m20F15 k (m20F7 k j) k) k t5 b0
    rw [e0, e15]
    exact m20x7 (fun _ f => f) k (loopN (normAt 0 m20A true (m20c [true, true, false, true, true, true])) (fun K s => evC (m20E k) (fun _ f => f) (m20I k) 0 m20A (m20c [true, true, false, true, true, true]) s K) (m20K4 (fun _ f => f) k) j) t5 b0

noncomputable def m20F (k : Nat) : Option (List Int) := m20X (m20F7 k k) k

theorem m20q (k : Nat) : evC (m20E k) (fun _ f => f) (m20I k) 0 m20A (m20c []) (stAt Try.f20 (argSs [] ()) (fun _ => none) 0) (retK Try.prog Try.f20 [.leaf (.own (.int .i64) 3)]) = m20F k := by
    have e7 : m20F7 k k = (fun t5' b0' => loopN (normAt 0 m20A true (m20c [true, true, false, true, true, true])) (fun K s => evC (m20E k) (fun _ f => f) (m20I k) 0 m20A (m20c [true, true, false, true, true, true]) s K) (m20K4 (fun _ f => f) k) k (m20S7 t5' b0')) := funext fun t5' => funext fun b0' => (m20q7 k k t5' b0').symm
    show _ = m20X (m20F7 k k) k
    rw [e7]
    exact m20x (fun _ f => f) k

noncomputable def m20sp : Spec := { ps := [], rs := [.leaf (.own (.int .i64) 3)], f := fun k a => m20F k }

theorem m20ok (k : Nat) : EnvOk (m20E k) := envOk_of (l := []) (lB := []) progNames progMixed rfl rfl (.nil) (.nil)

theorem m20con (k : Nat) : Contract Try.prog k 20 m20sp := contract_of (E := m20E k) (m20ok k) (A := only 20 m20A) (d := 3) (c := m20c []) (by kernel_rfl) (by kernel_rfl) fun a _ h => (m20q k).trans h

noncomputable def m14A : Anns := tabA [(11, { keep := [4, 5, 12, 13, 14] }), (18, { keep := [5] })]
noncomputable def m14E (k : Nat) : Env := { P := Try.prog, k := k, G := tabG [(20, m20sp)], GB := tabGB [] }
noncomputable def m14c (p : List Bool) : Code := sub p (bodyOf Try.f14)
noncomputable def m14I (k : Nat) : Inl (Int × Int) := inlOf (m14E k) (only 14 m14A) 3
noncomputable def m14K0 (M : Cut (Int × Int)) (k : Nat) : Exit → St → Option (Int × Int) := seqK (normAt 0 m14A false (m14c [true])) (cutK M m14A (m14c [true]) fun s => evC (m14E k) M (m14I k) 0 m14A (m14c [true]) s (retK Try.prog Try.f14 [.leaf (.val (.int .i64)), .leaf (.val (.int .i64))])) (retK Try.prog Try.f14 [.leaf (.val (.int .i64)), .leaf (.val (.int .i64))])
noncomputable def m14K1 (M : Cut (Int × Int)) (k : Nat) : Exit → St → Option (Int × Int) := seqK (normAt 0 m14A false (m14c [true, true])) (cutK M m14A (m14c [true, true]) fun s => evC (m14E k) M (m14I k) 0 m14A (m14c [true, true]) s (retK Try.prog Try.f14 [.leaf (.val (.int .i64)), .leaf (.val (.int .i64))])) (retK Try.prog Try.f14 [.leaf (.val (.int .i64)), .leaf (.val (.int .i64))])
noncomputable def m14K2 (M : Cut (Int × Int)) (k : Nat) : Exit → St → Option (Int × Int) := seqK (normAt 0 m14A false (m14c [true, false, true])) (cutK M m14A (m14c [true, false, true]) fun s => evC (m14E k) M (m14I k) 0 m14A (m14c [true, false, true]) s (m14K1 M k)) (m14K1 M k)
noncomputable def m14K3 (M : Cut (Int × Int)) (k : Nat) : Exit → St → Option (Int × Int) := seqK (normAt 0 m14A false (m14c [true, false, true, false, true])) (cutK M m14A (m14c [true, false, true, false, true]) fun s => evC (m14E k) M (m14I k) 0 m14A (m14c [true, false, true, false, true]) s (m14K1 M k)) (m14K1 M k)
noncomputable def m14K4 (M : Cut (Int × Int)) (k : Nat) : Exit → St → Option (Int × Int) := seqK (normAt 0 m14A false (m14c [true, true, true])) (cutK M m14A (m14c [true, true, true]) fun s => evC (m14E k) M (m14I k) 0 m14A (m14c [true, true, true]) s (retK Try.prog Try.f14 [.leaf (.val (.int .i64)), .leaf (.val (.int .i64))])) (retK Try.prog Try.f14 [.leaf (.val (.int .i64)), .leaf (.val (.int .i64))])
noncomputable def m14K5 (M : Cut (Int × Int)) (k : Nat) : Exit → St → Option (Int × Int) := seqK (normAt 0 m14A false (m14c [true, true, true, true])) (cutK M m14A (m14c [true, true, true, true]) fun s => evC (m14E k) M (m14I k) 0 m14A (m14c [true, true, true, true]) s (retK Try.prog Try.f14 [.leaf (.val (.int .i64)), .leaf (.val (.int .i64))])) (retK Try.prog Try.f14 [.leaf (.val (.int .i64)), .leaf (.val (.int .i64))])
noncomputable def m14K6 (M : Cut (Int × Int)) (k : Nat) : Exit → St → Option (Int × Int) := seqK (normAt 0 m14A false (m14c [true, true, true, false, true])) (cutK M m14A (m14c [true, true, true, false, true]) fun s => evC (m14E k) M (m14I k) 0 m14A (m14c [true, true, true, false, true]) s (m14K5 M k)) (m14K5 M k)
noncomputable def m14K7 (M : Cut (Int × Int)) (k : Nat) : Exit → St → Option (Int × Int) := blockK 0 (m14K5 M k)
noncomputable def m14K8 (M : Cut (Int × Int)) (k : Nat) (L11 : St → Option (Int × Int)) : Exit → St → Option (Int × Int) := seqK (normAt 0 m14A true (m14c [true, true, true, false, true, true, true])) L11 (m14K7 M k)
noncomputable def m14K9 (M : Cut (Int × Int)) (k : Nat) (L11 : St → Option (Int × Int)) : Exit → St → Option (Int × Int) := seqK (normAt 0 m14A false (m14c [true, true, true, false, true, true, true, true])) (cutK M m14A (m14c [true, true, true, false, true, true, true, true]) fun s => evC (m14E k) M (m14I k) 0 m14A (m14c [true, true, true, false, true, true, true, true]) s (m14K8 M k L11)) (m14K8 M k L11)
noncomputable def m14K10 (M : Cut (Int × Int)) (k : Nat) (L11 : St → Option (Int × Int)) : Exit → St → Option (Int × Int) := seqK (normAt 0 m14A false (m14c [true, true, true, false, true, true, true, true, true])) (cutK M m14A (m14c [true, true, true, false, true, true, true, true, true]) fun s => evC (m14E k) M (m14I k) 0 m14A (m14c [true, true, true, false, true, true, true, true, true]) s (m14K8 M k L11)) (m14K8 M k L11)
noncomputable def m14K11 (M : Cut (Int × Int)) (k : Nat) (L11 : St → Option (Int × Int)) : Exit → St → Option (Int × Int) := seqK (normAt 0 m14A false (m14c [true, true, true, false, true, true, true, true, true, true])) (cutK M m14A (m14c [true, true, true, false, true, true, true, true, true, true]) fun s => evC (m14E k) M (m14I k) 0 m14A (m14c [true, true, true, false, true, true, true, true, true, true]) s (m14K8 M k L11)) (m14K8 M k L11)
noncomputable def m14K12 (M : Cut (Int × Int)) (k : Nat) (L11 : St → Option (Int × Int)) : Exit → St → Option (Int × Int) := blockK 1 (m14K11 M k L11)
noncomputable def m14K13 (M : Cut (Int × Int)) (k : Nat) (L11 : St → Option (Int × Int)) : Exit → St → Option (Int × Int) := seqK (normAt 0 m14A false (m14c [true, true, true, false, true, true, true, true, true, false, true, true])) (cutK M m14A (m14c [true, true, true, false, true, true, true, true, true, false, true, true]) fun s => evC (m14E k) M (m14I k) 0 m14A (m14c [true, true, true, false, true, true, true, true, true, false, true, true]) s (m14K12 M k L11)) (m14K12 M k L11)
noncomputable def m14K14 (M : Cut (Int × Int)) (k : Nat) : Exit → St → Option (Int × Int) := seqK (normAt 0 m14A false (m14c [true, true, true, true, true])) (cutK M m14A (m14c [true, true, true, true, true]) fun s => evC (m14E k) M (m14I k) 0 m14A (m14c [true, true, true, true, true]) s (retK Try.prog Try.f14 [.leaf (.val (.int .i64)), .leaf (.val (.int .i64))])) (retK Try.prog Try.f14 [.leaf (.val (.int .i64)), .leaf (.val (.int .i64))])
noncomputable def m14S11 (t5 : Int) (t12 : List Int) (t13 : Int) (t14 : Int) (b0 : List Int) : St := { n := 32, tm := slots [(4, .own 0), (5, .int .i64 t5), (12, .row (.int .u8) t12), (13, .int .i64 t13), (14, .int .i64 t14)], tab := blks [some (.row true (.int .i64) 3 b0)], nx := 1 }
noncomputable def m14S18 (t5 : Int) : St := { n := 32, tm := slots [(5, .int .i64 t5)], tab := blks [], nx := 0 }

noncomputable def m14X (X11 : Int → List Int → Int → Int → List Int → Option (Int × Int)) (k : Nat) (p0 : (List Int)) : Option (Int × Int) := (if ltI 4096 (↑(List.length p0) : Int) = true then some ((0, 2)) else (Option.bind (m20F k) fun (c3 : (List Int)) => X11 (4294967295) p0 ((↑(List.length p0) : Int)) (0) c3))

theorem m14x (M : Cut (Int × Int)) (k : Nat) (p0 : (List Int)) : evC (m14E k) M (m14I k) 0 m14A (m14c []) (stAt Try.f14 (argSs [.leaf (.val (.row (.int .u8)))] p0) (fun _ => none) 0) (retK Try.prog Try.f14 [.leaf (.val (.int .i64)), .leaf (.val (.int .i64))]) = m14X (fun t5' t12' t13' t14' b0' => loopN (normAt 0 m14A true (m14c [true, true, true, false, true, true, true])) (fun K s => evC (m14E k) M (m14I k) 0 m14A (m14c [true, true, true, false, true, true, true]) s K) (m14K7 M k) k (m14S11 t5' t12' t13' t14' b0')) k p0 := by kernel_rfl

noncomputable def m14X11 (X18 : Int → Option (Int × Int)) (L11 : Int → List Int → Int → Int → List Int → Option (Int × Int)) (k : Nat) (t5 : Int) (t12 : List Int) (t13 : Int) (t14 : Int) (b0 : List Int) : Option (Int × Int) := (if ltI t14 t13 = true then (if leI 0 t14 = true then (if ltI t14 (↑(List.length t12) : Int) = true then (if leI 0 8 = true then (if leI 0
    (bits BinOp.xor IntKind.i64 (bits BinOp.and IntKind.i64 t5 255)
      (wr IntKind.i64 (List.getD t12 (Int.toNat t14) 0))) =
  true then (if ltI (bits BinOp.xor IntKind.i64 (bits BinOp.and IntKind.i64 t5 255) (wr IntKind.i64 (List.getD t12 (Int.toNat t14) 0)))
    (↑(List.length b0) : Int) =
  true then L11 (bits BinOp.xor IntKind.i64 (t5 / 256)
  (List.getD b0
    (Int.toNat
      (bits BinOp.xor IntKind.i64 (bits BinOp.and IntKind.i64 t5 255)
        (wr IntKind.i64 (List.getD t12 (Int.toNat t14) 0))))
    0)) t12 t13 (wr IntKind.i64 (t14 + 1)) b0 else none) else none) else none) else none) else none) else X18 t5)

theorem m14x11 (M : Cut (Int × Int)) (k : Nat) (L11 : St → Option (Int × Int)) (t5 : Int) (t12 : List Int) (t13 : Int) (t14 : Int) (b0 : List Int) : evC (m14E k) M (m14I k) 0 m14A (m14c [true, true, true, false, true, true, true]) (m14S11 t5 t12 t13 t14 b0) (seqK (normAt 0 m14A true (m14c [true, true, true, false, true, true, true])) L11 (m14K7 M k)) = m14X11 (fun t5' => M 18 (fun s => evC (m14E k) M (m14I k) 0 m14A (m14c [true, true, true, true]) s (retK Try.prog Try.f14 [.leaf (.val (.int .i64)), .leaf (.val (.int .i64))])) (m14S18 t5')) (fun t5' t12' t13' t14' b0' => L11 (m14S11 t5' t12' t13' t14' b0')) k t5 t12 t13 t14 b0 := by kernel_rfl

noncomputable def m14X18 (k : Nat) (t5 : Int) : Option (Int × Int) := some ((bits BinOp.xor IntKind.i64 t5 4294967295, 0))

theorem m14x18 (M : Cut (Int × Int)) (k : Nat) (t5 : Int) : evC (m14E k) M (m14I k) 0 m14A (m14c [true, true, true, true]) (m14S18 t5) (retK Try.prog Try.f14 [.leaf (.val (.int .i64)), .leaf (.val (.int .i64))]) = m14X18 k t5 := by kernel_rfl

noncomputable def m14F18 (k : Nat) (t5 : Int) : Option (Int × Int) := m14X18 k t5

theorem m14q18 (k : Nat) (t5 : Int) : evC (m14E k) (fun _ f => f) (m14I k) 0 m14A (m14c [true, true, true, true]) (m14S18 t5) (retK Try.prog Try.f14 [.leaf (.val (.int .i64)), .leaf (.val (.int .i64))]) = m14F18 k t5 := by
    show _ = m14X18 k t5
    exact m14x18 (fun _ f => f) k t5

noncomputable def m14F11 (k : Nat) : Nat → Int → List Int → Int → Int → List Int → Option (Int × Int)
  | 0, _, _, _, _, _ => none
  | j + 1, t5, t12, t13, t14, b0 => m14X11 (m14F18 k) (m14F11 k j) k t5 t12 t13 t14 b0

theorem m14q11 (k : Nat) : ∀ (j : Nat) (t5 : Int) (t12 : List Int) (t13 : Int) (t14 : Int) (b0 : List Int), loopN (normAt 0 m14A true (m14c [true, true, true, false, true, true, true])) (fun K s => evC (m14E k) (fun _ f => f) (m14I k) 0 m14A (m14c [true, true, true, false, true, true, true]) s K) (m14K7 (fun _ f => f) k) j (m14S11 t5 t12 t13 t14 b0) = m14F11 k j t5 t12 t13 t14 b0
  | 0, _, _, _, _, _ => rfl
  | j + 1, t5, t12, t13, t14, b0 => by
    have e0 : m14F11 k j = (fun t5' t12' t13' t14' b0' => loopN (normAt 0 m14A true (m14c [true, true, true, false, true, true, true])) (fun K s => evC (m14E k) (fun _ f => f) (m14I k) 0 m14A (m14c [true, true, true, false, true, true, true]) s K) (m14K7 (fun _ f => f) k) j (m14S11 t5' t12' t13' t14' b0')) := funext fun t5' => funext fun t12' => funext fun t13' => funext fun t14' => funext fun b0' => (m14q11 k j t5' t12' t13' t14' b0').symm
    have e18 : m14F18 k = (fun t5' => evC (m14E k) (fun _ f => f) (m14I k) 0 m14A (m14c [true, true, true, true]) (m14S18 t5') (retK Try.prog Try.f14 [.leaf (.val (.int .i64)), .leaf (.val (.int .i64))])) := funext fun t5' => (m14q18 k t5').symm
    show _ = m14X11 (m14F18 k) (m14F11 k j) k t5 t12 t13 t14 b0
    rw [e0, e18]
    exact m14x11 (fun _ f => f) k (loopN (normAt 0 m14A true (m14c [true, true, true, false, true, true, true])) (fun K s => evC (m14E k) (fun _ f => f) (m14I k) 0 m14A (m14c [true, true, true, false, true, true, true]) s K) (m14K7 (fun _ f => f) k) j) t5 t12 t13 t14 b0

noncomputable def m14F (k : Nat) (p0 : (List Int)) : Option (Int × Int) := m14X (m14F11 k k) k p0

theorem m14q (k : Nat) (p0 : (List Int)) : evC (m14E k) (fun _ f => f) (m14I k) 0 m14A (m14c []) (stAt Try.f14 (argSs [.leaf (.val (.row (.int .u8)))] p0) (fun _ => none) 0) (retK Try.prog Try.f14 [.leaf (.val (.int .i64)), .leaf (.val (.int .i64))]) = m14F k p0 := by
    have e11 : m14F11 k k = (fun t5' t12' t13' t14' b0' => loopN (normAt 0 m14A true (m14c [true, true, true, false, true, true, true])) (fun K s => evC (m14E k) (fun _ f => f) (m14I k) 0 m14A (m14c [true, true, true, false, true, true, true]) s K) (m14K7 (fun _ f => f) k) k (m14S11 t5' t12' t13' t14' b0')) := funext fun t5' => funext fun t12' => funext fun t13' => funext fun t14' => funext fun b0' => (m14q11 k k t5' t12' t13' t14' b0').symm
    show _ = m14X (m14F11 k k) k p0
    rw [e11]
    exact m14x (fun _ f => f) k p0

noncomputable def m14sp : Spec := { ps := [.leaf (.val (.row (.int .u8)))], rs := [.leaf (.val (.int .i64)), .leaf (.val (.int .i64))], f := fun k a => m14F k a }

theorem m14ok (k : Nat) : EnvOk (m14E k) := envOk_of (l := [(20, m20sp)]) (lB := []) progNames progMixed rfl rfl (.cons ⟨m20con k, Try.f20, by kernel_rfl, by kernel_rfl⟩ (.nil)) (.nil)

theorem m14con (k : Nat) : Contract Try.prog k 14 m14sp := contract_of (E := m14E k) (m14ok k) (A := only 14 m14A) (d := 3) (c := m14c []) (by kernel_rfl) (by kernel_rfl) fun a _ h => (m14q k a).trans h

noncomputable def m17A : Anns := tabA [(9, { keep := [0, 1, 5] })]
noncomputable def m17E (k : Nat) : Env := { P := Try.prog, k := k, G := tabG [], GB := tabGB [] }
noncomputable def m17c (p : List Bool) : Code := sub p (bodyOf Try.f17)
noncomputable def m17I (k : Nat) : Inl Bool := inlOf (m17E k) (only 17 m17A) 3
noncomputable def m17K0 (M : Cut Bool) (k : Nat) : Exit → St → Option Bool := seqK (normAt 0 m17A false (m17c [true])) (cutK M m17A (m17c [true]) fun s => evC (m17E k) M (m17I k) 0 m17A (m17c [true]) s (retK Try.prog Try.f17 [.leaf (.val .bool)])) (retK Try.prog Try.f17 [.leaf (.val .bool)])
noncomputable def m17K1 (M : Cut Bool) (k : Nat) : Exit → St → Option Bool := seqK (normAt 0 m17A false (m17c [true, true])) (cutK M m17A (m17c [true, true]) fun s => evC (m17E k) M (m17I k) 0 m17A (m17c [true, true]) s (retK Try.prog Try.f17 [.leaf (.val .bool)])) (retK Try.prog Try.f17 [.leaf (.val .bool)])
noncomputable def m17K2 (M : Cut Bool) (k : Nat) : Exit → St → Option Bool := seqK (normAt 0 m17A false (m17c [true, false, true])) (cutK M m17A (m17c [true, false, true]) fun s => evC (m17E k) M (m17I k) 0 m17A (m17c [true, false, true]) s (m17K1 M k)) (m17K1 M k)
noncomputable def m17K3 (M : Cut Bool) (k : Nat) : Exit → St → Option Bool := seqK (normAt 0 m17A false (m17c [true, false, true, false, true])) (cutK M m17A (m17c [true, false, true, false, true]) fun s => evC (m17E k) M (m17I k) 0 m17A (m17c [true, false, true, false, true]) s (m17K1 M k)) (m17K1 M k)
noncomputable def m17K4 (M : Cut Bool) (k : Nat) : Exit → St → Option Bool := seqK (normAt 0 m17A false (m17c [true, true, true])) (cutK M m17A (m17c [true, true, true]) fun s => evC (m17E k) M (m17I k) 0 m17A (m17c [true, true, true]) s (retK Try.prog Try.f17 [.leaf (.val .bool)])) (retK Try.prog Try.f17 [.leaf (.val .bool)])
noncomputable def m17K5 (M : Cut Bool) (k : Nat) : Exit → St → Option Bool := seqK (normAt 0 m17A false (m17c [true, true, false, true])) (cutK M m17A (m17c [true, true, false, true]) fun s => evC (m17E k) M (m17I k) 0 m17A (m17c [true, true, false, true]) s (m17K4 M k)) (m17K4 M k)
noncomputable def m17K6 (M : Cut Bool) (k : Nat) : Exit → St → Option Bool := blockK 0 (m17K4 M k)
noncomputable def m17K7 (M : Cut Bool) (k : Nat) (L9 : St → Option Bool) : Exit → St → Option Bool := seqK (normAt 0 m17A true (m17c [true, true, false, true, true, true])) L9 (m17K6 M k)
noncomputable def m17K8 (M : Cut Bool) (k : Nat) (L9 : St → Option Bool) : Exit → St → Option Bool := seqK (normAt 0 m17A false (m17c [true, true, false, true, true, true, true])) (cutK M m17A (m17c [true, true, false, true, true, true, true]) fun s => evC (m17E k) M (m17I k) 0 m17A (m17c [true, true, false, true, true, true, true]) s (m17K7 M k L9)) (m17K7 M k L9)
noncomputable def m17K9 (M : Cut Bool) (k : Nat) (L9 : St → Option Bool) : Exit → St → Option Bool := seqK (normAt 0 m17A false (m17c [true, true, false, true, true, true, false, true])) (cutK M m17A (m17c [true, true, false, true, true, true, false, true]) fun s => evC (m17E k) M (m17I k) 0 m17A (m17c [true, true, false, true, true, true, false, true]) s (m17K8 M k L9)) (m17K8 M k L9)
noncomputable def m17K10 (M : Cut Bool) (k : Nat) (L9 : St → Option Bool) : Exit → St → Option Bool := seqK (normAt 0 m17A false (m17c [true, true, false, true, true, true, true, true])) (cutK M m17A (m17c [true, true, false, true, true, true, true, true]) fun s => evC (m17E k) M (m17I k) 0 m17A (m17c [true, true, false, true, true, true, true, true]) s (m17K7 M k L9)) (m17K7 M k L9)
noncomputable def m17K11 (M : Cut Bool) (k : Nat) (L9 : St → Option Bool) : Exit → St → Option Bool := blockK 1 (m17K10 M k L9)
noncomputable def m17K12 (M : Cut Bool) (k : Nat) (L9 : St → Option Bool) : Exit → St → Option Bool := seqK (normAt 0 m17A false (m17c [true, true, false, true, true, true, true, false, true, true])) (cutK M m17A (m17c [true, true, false, true, true, true, true, false, true, true]) fun s => evC (m17E k) M (m17I k) 0 m17A (m17c [true, true, false, true, true, true, true, false, true, true]) s (m17K11 M k L9)) (m17K11 M k L9)
noncomputable def m17K13 (M : Cut Bool) (k : Nat) (L9 : St → Option Bool) : Exit → St → Option Bool := seqK (normAt 0 m17A false (m17c [true, true, false, true, true, true, true, false, true, true, false, true])) (cutK M m17A (m17c [true, true, false, true, true, true, true, false, true, true, false, true]) fun s => evC (m17E k) M (m17I k) 0 m17A (m17c [true, true, false, true, true, true, true, false, true, true, false, true]) s (m17K11 M k L9)) (m17K11 M k L9)
noncomputable def m17K14 (M : Cut Bool) (k : Nat) : Exit → St → Option Bool := seqK (normAt 0 m17A false (m17c [true, true, true, true])) (cutK M m17A (m17c [true, true, true, true]) fun s => evC (m17E k) M (m17I k) 0 m17A (m17c [true, true, true, true]) s (retK Try.prog Try.f17 [.leaf (.val .bool)])) (retK Try.prog Try.f17 [.leaf (.val .bool)])
noncomputable def m17S9 (t0 : List Int) (t1 : List Int) (t5 : Int) : St := { n := 26, tm := slots [(0, .row (.int .u8) t0), (1, .row (.int .u8) t1), (5, .int .i64 t5)], tab := blks [], nx := 0 }

noncomputable def m17X (X9 : List Int → List Int → Int → Option Bool) (k : Nat) (p0 : (List Int)) (p1 : (List Int)) : Option Bool := (if (!eqI (↑(List.length p0) : Int) (↑(List.length p1) : Int)) = true then some (false) else X9 p0 p1 (0))

theorem m17x (M : Cut Bool) (k : Nat) (p0 : (List Int)) (p1 : (List Int)) : evC (m17E k) M (m17I k) 0 m17A (m17c []) (stAt Try.f17 (argSs [.leaf (.val (.row (.int .u8))), .leaf (.val (.row (.int .u8)))] (p0, p1)) (fun _ => none) 0) (retK Try.prog Try.f17 [.leaf (.val .bool)]) = m17X (fun t0' t1' t5' => loopN (normAt 0 m17A true (m17c [true, true, false, true, true, true])) (fun K s => evC (m17E k) M (m17I k) 0 m17A (m17c [true, true, false, true, true, true]) s K) (m17K6 M k) k (m17S9 t0' t1' t5')) k p0 p1 := by kernel_rfl

noncomputable def m17X9 (L9 : List Int → List Int → Int → Option Bool) (k : Nat) (t0 : List Int) (t1 : List Int) (t5 : Int) : Option Bool := (if ltI t5 (↑(List.length t0) : Int) = true then (if leI 0 t5 = true then (if ltI t5 (↑(List.length t0) : Int) = true then (if leI 0 t5 = true then (if ltI t5 (↑(List.length t1) : Int) = true then (if (!eqI (List.getD t0 (Int.toNat t5) 0) (List.getD t1 (Int.toNat t5) 0)) = true then some (false) else L9 t0 t1 (wr IntKind.i64 (t5 + 1))) else none) else none) else none) else none) else some (true))

theorem m17x9 (M : Cut Bool) (k : Nat) (L9 : St → Option Bool) (t0 : List Int) (t1 : List Int) (t5 : Int) : evC (m17E k) M (m17I k) 0 m17A (m17c [true, true, false, true, true, true]) (m17S9 t0 t1 t5) (seqK (normAt 0 m17A true (m17c [true, true, false, true, true, true])) L9 (m17K6 M k)) = m17X9 (fun t0' t1' t5' => L9 (m17S9 t0' t1' t5')) k t0 t1 t5 := by kernel_rfl

noncomputable def m17F9 (k : Nat) : Nat → List Int → List Int → Int → Option Bool
  | 0, _, _, _ => none
  | j + 1, t0, t1, t5 => m17X9 (m17F9 k j) k t0 t1 t5

theorem m17q9 (k : Nat) : ∀ (j : Nat) (t0 : List Int) (t1 : List Int) (t5 : Int), loopN (normAt 0 m17A true (m17c [true, true, false, true, true, true])) (fun K s => evC (m17E k) (fun _ f => f) (m17I k) 0 m17A (m17c [true, true, false, true, true, true]) s K) (m17K6 (fun _ f => f) k) j (m17S9 t0 t1 t5) = m17F9 k j t0 t1 t5
  | 0, _, _, _ => rfl
  | j + 1, t0, t1, t5 => by
    have e0 : m17F9 k j = (fun t0' t1' t5' => loopN (normAt 0 m17A true (m17c [true, true, false, true, true, true])) (fun K s => evC (m17E k) (fun _ f => f) (m17I k) 0 m17A (m17c [true, true, false, true, true, true]) s K) (m17K6 (fun _ f => f) k) j (m17S9 t0' t1' t5')) := funext fun t0' => funext fun t1' => funext fun t5' => (m17q9 k j t0' t1' t5').symm
    show _ = m17X9 (m17F9 k j) k t0 t1 t5
    rw [e0]
    exact m17x9 (fun _ f => f) k (loopN (normAt 0 m17A true (m17c [true, true, false, true, true, true])) (fun K s => evC (m17E k) (fun _ f => f) (m17I k) 0 m17A (m17c [true, true, false, true, true, true]) s K) (m17K6 (fun _ f => f) k) j) t0 t1 t5

noncomputable def m17F (k : Nat) (p0 : (List Int)) (p1 : (List Int)) : Option Bool := m17X (m17F9 k k) k p0 p1

theorem m17q (k : Nat) (p0 : (List Int)) (p1 : (List Int)) : evC (m17E k) (fun _ f => f) (m17I k) 0 m17A (m17c []) (stAt Try.f17 (argSs [.leaf (.val (.row (.int .u8))), .leaf (.val (.row (.int .u8)))] (p0, p1)) (fun _ => none) 0) (retK Try.prog Try.f17 [.leaf (.val .bool)]) = m17F k p0 p1 := by
    have e9 : m17F9 k k = (fun t0' t1' t5' => loopN (normAt 0 m17A true (m17c [true, true, false, true, true, true])) (fun K s => evC (m17E k) (fun _ f => f) (m17I k) 0 m17A (m17c [true, true, false, true, true, true]) s K) (m17K6 (fun _ f => f) k) k (m17S9 t0' t1' t5')) := funext fun t0' => funext fun t1' => funext fun t5' => (m17q9 k k t0' t1' t5').symm
    show _ = m17X (m17F9 k k) k p0 p1
    rw [e9]
    exact m17x (fun _ f => f) k p0 p1

noncomputable def m17sp : Spec := { ps := [.leaf (.val (.row (.int .u8))), .leaf (.val (.row (.int .u8)))], rs := [.leaf (.val .bool)], f := fun k a => m17F k a.1 a.2 }

theorem m17ok (k : Nat) : EnvOk (m17E k) := envOk_of (l := []) (lB := []) progNames progMixed rfl rfl (.nil) (.nil)

theorem m17con (k : Nat) : Contract Try.prog k 17 m17sp := contract_of (E := m17E k) (m17ok k) (A := only 17 m17A) (d := 3) (c := m17c []) (by kernel_rfl) (by kernel_rfl) fun a _ h => (m17q k a.1 a.2).trans h

noncomputable def m18A : Anns := tabA []
noncomputable def m18E (k : Nat) : Env := { P := Try.prog, k := k, G := tabG [(13, m13sp), (14, m14sp)], GB := tabGB [] }
noncomputable def m18c (p : List Bool) : Code := sub p (bodyOf Try.f18)
noncomputable def m18I (k : Nat) : Inl Bool := inlOf (m18E k) (only 18 m18A) 3
noncomputable def m18K0 (M : Cut Bool) (k : Nat) : Exit → St → Option Bool := seqK (normAt 0 m18A false (m18c [true])) (cutK M m18A (m18c [true]) fun s => evC (m18E k) M (m18I k) 0 m18A (m18c [true]) s (retK Try.prog Try.f18 [.leaf (.val .bool)])) (retK Try.prog Try.f18 [.leaf (.val .bool)])
noncomputable def m18K1 (M : Cut Bool) (k : Nat) : Exit → St → Option Bool := seqK (normAt 0 m18A false (m18c [true, true])) (cutK M m18A (m18c [true, true]) fun s => evC (m18E k) M (m18I k) 0 m18A (m18c [true, true]) s (retK Try.prog Try.f18 [.leaf (.val .bool)])) (retK Try.prog Try.f18 [.leaf (.val .bool)])
noncomputable def m18K2 (M : Cut Bool) (k : Nat) : Exit → St → Option Bool := seqK (normAt 0 m18A false (m18c [true, true, true])) (cutK M m18A (m18c [true, true, true]) fun s => evC (m18E k) M (m18I k) 0 m18A (m18c [true, true, true]) s (retK Try.prog Try.f18 [.leaf (.val .bool)])) (retK Try.prog Try.f18 [.leaf (.val .bool)])
noncomputable def m18K3 (M : Cut Bool) (k : Nat) : Exit → St → Option Bool := seqK (normAt 0 m18A false (m18c [true, true, true, true])) (cutK M m18A (m18c [true, true, true, true]) fun s => evC (m18E k) M (m18I k) 0 m18A (m18c [true, true, true, true]) s (retK Try.prog Try.f18 [.leaf (.val .bool)])) (retK Try.prog Try.f18 [.leaf (.val .bool)])

noncomputable def m18X (k : Nat) : Option Bool := (Option.bind (m13F k
  (List.set
    (List.set
      (List.set
        (List.set (List.set (List.set (List.set (List.set (List.set (List.replicate 9 0) 0 49) 1 50) 2 51) 3 52) 4 53) 5
          54)
        6 55)
      7 56)
    8 57)) fun (c2 : (Int × Int)) => (Option.bind (m14F k
  (List.set
    (List.set
      (List.set
        (List.set (List.set (List.set (List.set (List.set (List.set (List.replicate 9 0) 0 49) 1 50) 2 51) 3 52) 4 53) 5
          54)
        6 55)
      7 56)
    8 57)) fun (c3 : (Int × Int)) => (if eqI (Prod.snd c2) 0 = true then (if eqI (Prod.snd c3) 0 = true then (if eqI (Prod.fst c2) 10673 = true then some (eqI (Prod.fst c3) 3421780262) else some (false)) else some (false)) else some (false))))

theorem m18x (M : Cut Bool) (k : Nat) : evC (m18E k) M (m18I k) 0 m18A (m18c []) (stAt Try.f18 (argSs [] ()) (fun _ => none) 0) (retK Try.prog Try.f18 [.leaf (.val .bool)]) = m18X k := by kernel_rfl

noncomputable def m18F (k : Nat) : Option Bool := m18X k

theorem m18q (k : Nat) : evC (m18E k) (fun _ f => f) (m18I k) 0 m18A (m18c []) (stAt Try.f18 (argSs [] ()) (fun _ => none) 0) (retK Try.prog Try.f18 [.leaf (.val .bool)]) = m18F k := by
    show _ = m18X k
    exact m18x (fun _ f => f) k

noncomputable def m18sp : Spec := { ps := [], rs := [.leaf (.val .bool)], f := fun k a => m18F k }

theorem m18ok (k : Nat) : EnvOk (m18E k) := envOk_of (l := [(13, m13sp), (14, m14sp)]) (lB := []) progNames progMixed rfl rfl (.cons ⟨m13con k, Try.f13, by kernel_rfl, by kernel_rfl⟩ (.cons ⟨m14con k, Try.f14, by kernel_rfl, by kernel_rfl⟩ (.nil))) (.nil)

theorem m18con (k : Nat) : Contract Try.prog k 18 m18sp := contract_of (E := m18E k) (m18ok k) (A := only 18 m18A) (d := 3) (c := m18c []) (by kernel_rfl) (by kernel_rfl) fun a _ h => (m18q k).trans h

noncomputable def m31A : Anns := tabA []
noncomputable def m31E (k : Nat) : Env := { P := Try.prog, k := k, G := tabG [], GB := tabGB [] }
noncomputable def m31c (p : List Bool) : Code := sub p (bodyOf Try.f31)
noncomputable def m31I (k : Nat) : Inl (List Int) := inlOf (m31E k) (only 31 m31A) 3
noncomputable def m31K0 (M : Cut (List Int)) (k : Nat) : Exit → St → Option (List Int) := seqK (normAt 0 m31A false (m31c [true])) (cutK M m31A (m31c [true]) fun s => evC (m31E k) M (m31I k) 0 m31A (m31c [true]) s (retK Try.prog Try.f31 [.leaf (.own (.int .u8) 5)])) (retK Try.prog Try.f31 [.leaf (.own (.int .u8) 5)])
noncomputable def m31K1 (M : Cut (List Int)) (k : Nat) : Exit → St → Option (List Int) := seqK (normAt 0 m31A false (m31c [true, true])) (cutK M m31A (m31c [true, true]) fun s => evC (m31E k) M (m31I k) 0 m31A (m31c [true, true]) s (retK Try.prog Try.f31 [.leaf (.own (.int .u8) 5)])) (retK Try.prog Try.f31 [.leaf (.own (.int .u8) 5)])
noncomputable def m31K2 (M : Cut (List Int)) (k : Nat) : Exit → St → Option (List Int) := seqK (normAt 0 m31A false (m31c [true, false, true])) (cutK M m31A (m31c [true, false, true]) fun s => evC (m31E k) M (m31I k) 0 m31A (m31c [true, false, true]) s (m31K1 M k)) (m31K1 M k)
noncomputable def m31K3 (M : Cut (List Int)) (k : Nat) : Exit → St → Option (List Int) := seqK (normAt 0 m31A false (m31c [true, false, true, false, true])) (cutK M m31A (m31c [true, false, true, false, true]) fun s => evC (m31E k) M (m31I k) 0 m31A (m31c [true, false, true, false, true]) s (m31K1 M k)) (m31K1 M k)
noncomputable def m31K4 (M : Cut (List Int)) (k : Nat) : Exit → St → Option (List Int) := seqK (normAt 0 m31A false (m31c [true, true, true])) (cutK M m31A (m31c [true, true, true]) fun s => evC (m31E k) M (m31I k) 0 m31A (m31c [true, true, true]) s (retK Try.prog Try.f31 [.leaf (.own (.int .u8) 5)])) (retK Try.prog Try.f31 [.leaf (.own (.int .u8) 5)])

noncomputable def m31X (k : Nat) (p0 : (List Int)) : Option (List Int) := (nilK (List.isEmpty p0) (some ([])) ((if leI (↑((0 + List.length p0) * 1) : Int) 140737488355328 = true then some (List.replicate 0 0 ++ p0) else none)))

theorem m31x (M : Cut (List Int)) (k : Nat) (p0 : (List Int)) : evC (m31E k) M (m31I k) 0 m31A (m31c []) (stAt Try.f31 (argSs [.leaf (.val (.row (.int .u8)))] p0) (fun _ => none) 0) (retK Try.prog Try.f31 [.leaf (.own (.int .u8) 5)]) = m31X k p0 := by kernel_rfl

noncomputable def m31F (k : Nat) (p0 : (List Int)) : Option (List Int) := m31X k p0

theorem m31q (k : Nat) (p0 : (List Int)) : evC (m31E k) (fun _ f => f) (m31I k) 0 m31A (m31c []) (stAt Try.f31 (argSs [.leaf (.val (.row (.int .u8)))] p0) (fun _ => none) 0) (retK Try.prog Try.f31 [.leaf (.own (.int .u8) 5)]) = m31F k p0 := by
    show _ = m31X k p0
    exact m31x (fun _ f => f) k p0

noncomputable def m31sp : Spec := { ps := [.leaf (.val (.row (.int .u8)))], rs := [.leaf (.own (.int .u8) 5)], f := fun k a => m31F k a }

theorem m31ok (k : Nat) : EnvOk (m31E k) := envOk_of (l := []) (lB := []) progNames progMixed rfl rfl (.nil) (.nil)

theorem m31con (k : Nat) : Contract Try.prog k 31 m31sp := contract_of (E := m31E k) (m31ok k) (A := only 31 m31A) (d := 3) (c := m31c []) (by kernel_rfl) (by kernel_rfl) fun a _ h => (m31q k a).trans h

noncomputable def m23A : Anns := tabA [(17, { keep := [4, 6, 20] }), (24, { keep := [6] })]
noncomputable def m23E (k : Nat) : Env := { P := Try.prog, k := k, G := tabG [(14, m14sp), (31, m31sp)], GB := tabGB [] }
noncomputable def m23c (p : List Bool) : Code := sub p (bodyOf Try.f23)
noncomputable def m23I (k : Nat) : Inl ((List Int) × Int) := inlOf (m23E k) (only 23 m23A) 3
noncomputable def m23K0 (M : Cut ((List Int) × Int)) (k : Nat) : Exit → St → Option ((List Int) × Int) := seqK (normAt 0 m23A false (m23c [true])) (cutK M m23A (m23c [true]) fun s => evC (m23E k) M (m23I k) 0 m23A (m23c [true]) s (retK Try.prog Try.f23 [.leaf (.own (.int .u8) 5), .leaf (.val (.int .i64))])) (retK Try.prog Try.f23 [.leaf (.own (.int .u8) 5), .leaf (.val (.int .i64))])
noncomputable def m23K1 (M : Cut ((List Int) × Int)) (k : Nat) : Exit → St → Option ((List Int) × Int) := seqK (normAt 0 m23A false (m23c [true, true])) (cutK M m23A (m23c [true, true]) fun s => evC (m23E k) M (m23I k) 0 m23A (m23c [true, true]) s (retK Try.prog Try.f23 [.leaf (.own (.int .u8) 5), .leaf (.val (.int .i64))])) (retK Try.prog Try.f23 [.leaf (.own (.int .u8) 5), .leaf (.val (.int .i64))])
noncomputable def m23K2 (M : Cut ((List Int) × Int)) (k : Nat) : Exit → St → Option ((List Int) × Int) := seqK (normAt 0 m23A false (m23c [true, false, true])) (cutK M m23A (m23c [true, false, true]) fun s => evC (m23E k) M (m23I k) 0 m23A (m23c [true, false, true]) s (m23K1 M k)) (m23K1 M k)
noncomputable def m23K3 (M : Cut ((List Int) × Int)) (k : Nat) : Exit → St → Option ((List Int) × Int) := seqK (normAt 0 m23A false (m23c [true, false, true, false, true])) (cutK M m23A (m23c [true, false, true, false, true]) fun s => evC (m23E k) M (m23I k) 0 m23A (m23c [true, false, true, false, true]) s (m23K1 M k)) (m23K1 M k)
noncomputable def m23K4 (M : Cut ((List Int) × Int)) (k : Nat) : Exit → St → Option ((List Int) × Int) := seqK (normAt 0 m23A false (m23c [true, true, true])) (cutK M m23A (m23c [true, true, true]) fun s => evC (m23E k) M (m23I k) 0 m23A (m23c [true, true, true]) s (retK Try.prog Try.f23 [.leaf (.own (.int .u8) 5), .leaf (.val (.int .i64))])) (retK Try.prog Try.f23 [.leaf (.own (.int .u8) 5), .leaf (.val (.int .i64))])
noncomputable def m23K5 (M : Cut ((List Int) × Int)) (k : Nat) : Exit → St → Option ((List Int) × Int) := seqK (normAt 0 m23A false (m23c [true, true, true, true])) (cutK M m23A (m23c [true, true, true, true]) fun s => evC (m23E k) M (m23I k) 0 m23A (m23c [true, true, true, true]) s (retK Try.prog Try.f23 [.leaf (.own (.int .u8) 5), .leaf (.val (.int .i64))])) (retK Try.prog Try.f23 [.leaf (.own (.int .u8) 5), .leaf (.val (.int .i64))])
noncomputable def m23K6 (M : Cut ((List Int) × Int)) (k : Nat) : Exit → St → Option ((List Int) × Int) := seqK (normAt 0 m23A false (m23c [true, true, true, false, true])) (cutK M m23A (m23c [true, true, true, false, true]) fun s => evC (m23E k) M (m23I k) 0 m23A (m23c [true, true, true, false, true]) s (m23K5 M k)) (m23K5 M k)
noncomputable def m23K7 (M : Cut ((List Int) × Int)) (k : Nat) : Exit → St → Option ((List Int) × Int) := seqK (normAt 0 m23A false (m23c [true, true, true, false, true, false, true])) (cutK M m23A (m23c [true, true, true, false, true, false, true]) fun s => evC (m23E k) M (m23I k) 0 m23A (m23c [true, true, true, false, true, false, true]) s (m23K5 M k)) (m23K5 M k)
noncomputable def m23K8 (M : Cut ((List Int) × Int)) (k : Nat) : Exit → St → Option ((List Int) × Int) := seqK (normAt 0 m23A false (m23c [true, true, true, true, true])) (cutK M m23A (m23c [true, true, true, true, true]) fun s => evC (m23E k) M (m23I k) 0 m23A (m23c [true, true, true, true, true]) s (retK Try.prog Try.f23 [.leaf (.own (.int .u8) 5), .leaf (.val (.int .i64))])) (retK Try.prog Try.f23 [.leaf (.own (.int .u8) 5), .leaf (.val (.int .i64))])
noncomputable def m23K9 (M : Cut ((List Int) × Int)) (k : Nat) : Exit → St → Option ((List Int) × Int) := seqK (normAt 0 m23A false (m23c [true, true, true, true, true, true])) (cutK M m23A (m23c [true, true, true, true, true, true]) fun s => evC (m23E k) M (m23I k) 0 m23A (m23c [true, true, true, true, true, true]) s (retK Try.prog Try.f23 [.leaf (.own (.int .u8) 5), .leaf (.val (.int .i64))])) (retK Try.prog Try.f23 [.leaf (.own (.int .u8) 5), .leaf (.val (.int .i64))])
noncomputable def m23K10 (M : Cut ((List Int) × Int)) (k : Nat) : Exit → St → Option ((List Int) × Int) := seqK (normAt 0 m23A false (m23c [true, true, true, true, true, false, true])) (cutK M m23A (m23c [true, true, true, true, true, false, true]) fun s => evC (m23E k) M (m23I k) 0 m23A (m23c [true, true, true, true, true, false, true]) s (m23K9 M k)) (m23K9 M k)
noncomputable def m23K11 (M : Cut ((List Int) × Int)) (k : Nat) : Exit → St → Option ((List Int) × Int) := blockK 0 (m23K9 M k)
noncomputable def m23K12 (M : Cut ((List Int) × Int)) (k : Nat) (L17 : St → Option ((List Int) × Int)) : Exit → St → Option ((List Int) × Int) := seqK (normAt 0 m23A true (m23c [true, true, true, true, true, false, true, true, true])) L17 (m23K11 M k)
noncomputable def m23K13 (M : Cut ((List Int) × Int)) (k : Nat) (L17 : St → Option ((List Int) × Int)) : Exit → St → Option ((List Int) × Int) := seqK (normAt 0 m23A false (m23c [true, true, true, true, true, false, true, true, true, true])) (cutK M m23A (m23c [true, true, true, true, true, false, true, true, true, true]) fun s => evC (m23E k) M (m23I k) 0 m23A (m23c [true, true, true, true, true, false, true, true, true, true]) s (m23K12 M k L17)) (m23K12 M k L17)
noncomputable def m23K14 (M : Cut ((List Int) × Int)) (k : Nat) (L17 : St → Option ((List Int) × Int)) : Exit → St → Option ((List Int) × Int) := seqK (normAt 0 m23A false (m23c [true, true, true, true, true, false, true, true, true, true, true])) (cutK M m23A (m23c [true, true, true, true, true, false, true, true, true, true, true]) fun s => evC (m23E k) M (m23I k) 0 m23A (m23c [true, true, true, true, true, false, true, true, true, true, true]) s (m23K12 M k L17)) (m23K12 M k L17)
noncomputable def m23K15 (M : Cut ((List Int) × Int)) (k : Nat) (L17 : St → Option ((List Int) × Int)) : Exit → St → Option ((List Int) × Int) := seqK (normAt 0 m23A false (m23c [true, true, true, true, true, false, true, true, true, true, true, true])) (cutK M m23A (m23c [true, true, true, true, true, false, true, true, true, true, true, true]) fun s => evC (m23E k) M (m23I k) 0 m23A (m23c [true, true, true, true, true, false, true, true, true, true, true, true]) s (m23K12 M k L17)) (m23K12 M k L17)
noncomputable def m23K16 (M : Cut ((List Int) × Int)) (k : Nat) (L17 : St → Option ((List Int) × Int)) : Exit → St → Option ((List Int) × Int) := blockK 1 (m23K15 M k L17)
noncomputable def m23K17 (M : Cut ((List Int) × Int)) (k : Nat) (L17 : St → Option ((List Int) × Int)) : Exit → St → Option ((List Int) × Int) := seqK (normAt 0 m23A false (m23c [true, true, true, true, true, false, true, true, true, true, true, false, true, true])) (cutK M m23A (m23c [true, true, true, true, true, false, true, true, true, true, true, false, true, true]) fun s => evC (m23E k) M (m23I k) 0 m23A (m23c [true, true, true, true, true, false, true, true, true, true, true, false, true, true]) s (m23K16 M k L17)) (m23K16 M k L17)
noncomputable def m23K18 (M : Cut ((List Int) × Int)) (k : Nat) : Exit → St → Option ((List Int) × Int) := seqK (normAt 0 m23A false (m23c [true, true, true, true, true, true, true])) (cutK M m23A (m23c [true, true, true, true, true, true, true]) fun s => evC (m23E k) M (m23I k) 0 m23A (m23c [true, true, true, true, true, true, true]) s (retK Try.prog Try.f23 [.leaf (.own (.int .u8) 5), .leaf (.val (.int .i64))])) (retK Try.prog Try.f23 [.leaf (.own (.int .u8) 5), .leaf (.val (.int .i64))])
noncomputable def m23S17 (t4 : Int) (t20 : Int) (b0 : List Int) : St := { n := 32, tm := slots [(4, .int .i64 t4), (6, .own 0), (20, .int .i64 t20)], tab := blks [some (.row true (.int .u8) 5 b0)], nx := 1 }
noncomputable def m23S24 (b0 : List Int) : St := { n := 32, tm := slots [(6, .own 0)], tab := blks [some (.row true (.int .u8) 5 b0)], nx := 1 }

noncomputable def m23X (X17 : Int → Int → List Int → Option ((List Int) × Int)) (k : Nat) (p0 : (List Int)) : Option ((List Int) × Int) := (if ltI 4092 (↑(List.length p0) : Int) = true then some (([], 2)) else (Option.bind (m14F k p0) fun (c3 : (Int × Int)) => (if (!eqI (Prod.snd c3) 0) = true then some (([], Prod.snd c3)) else (Option.bind (m31F k p0) fun (c4 : (List Int)) => X17 (Prod.fst c3) (0) c4))))

theorem m23x (M : Cut ((List Int) × Int)) (k : Nat) (p0 : (List Int)) : evC (m23E k) M (m23I k) 0 m23A (m23c []) (stAt Try.f23 (argSs [.leaf (.val (.row (.int .u8)))] p0) (fun _ => none) 0) (retK Try.prog Try.f23 [.leaf (.own (.int .u8) 5), .leaf (.val (.int .i64))]) = m23X (fun t4' t20' b0' => loopN (normAt 0 m23A true (m23c [true, true, true, true, true, false, true, true, true])) (fun K s => evC (m23E k) M (m23I k) 0 m23A (m23c [true, true, true, true, true, false, true, true, true]) s K) (m23K11 M k) k (m23S17 t4' t20' b0')) k p0 := by kernel_rfl

noncomputable def m23X17 (X24 : List Int → Option ((List Int) × Int)) (L17 : Int → Int → List Int → Option ((List Int) × Int)) (k : Nat) (t4 : Int) (t20 : Int) (b0 : List Int) : Option ((List Int) × Int) := (if ltI t20 4 = true then (if leI (↑((List.length b0 + List.length (List.set (List.replicate 1 0) 0 (wr IntKind.u8 t4))) * 1) : Int) 140737488355328 =
  true then (if leI 0 8 = true then L17 (t4 / 256) (wr IntKind.i64 (t20 + 1)) (b0 ++ List.set (List.replicate 1 0) 0 (wr IntKind.u8 t4)) else none) else none) else X24 b0)

theorem m23x17 (M : Cut ((List Int) × Int)) (k : Nat) (L17 : St → Option ((List Int) × Int)) (t4 : Int) (t20 : Int) (b0 : List Int) : evC (m23E k) M (m23I k) 0 m23A (m23c [true, true, true, true, true, false, true, true, true]) (m23S17 t4 t20 b0) (seqK (normAt 0 m23A true (m23c [true, true, true, true, true, false, true, true, true])) L17 (m23K11 M k)) = m23X17 (fun b0' => M 24 (fun s => evC (m23E k) M (m23I k) 0 m23A (m23c [true, true, true, true, true, true]) s (retK Try.prog Try.f23 [.leaf (.own (.int .u8) 5), .leaf (.val (.int .i64))])) (m23S24 b0')) (fun t4' t20' b0' => L17 (m23S17 t4' t20' b0')) k t4 t20 b0 := by kernel_rfl

noncomputable def m23X24 (k : Nat) (b0 : List Int) : Option ((List Int) × Int) := (Option.bind (m31F k b0) fun (c3 : (List Int)) => some ((c3, 0)))

theorem m23x24 (M : Cut ((List Int) × Int)) (k : Nat) (b0 : List Int) : evC (m23E k) M (m23I k) 0 m23A (m23c [true, true, true, true, true, true]) (m23S24 b0) (retK Try.prog Try.f23 [.leaf (.own (.int .u8) 5), .leaf (.val (.int .i64))]) = m23X24 k b0 := by kernel_rfl

noncomputable def m23F24 (k : Nat) (b0 : List Int) : Option ((List Int) × Int) := m23X24 k b0

theorem m23q24 (k : Nat) (b0 : List Int) : evC (m23E k) (fun _ f => f) (m23I k) 0 m23A (m23c [true, true, true, true, true, true]) (m23S24 b0) (retK Try.prog Try.f23 [.leaf (.own (.int .u8) 5), .leaf (.val (.int .i64))]) = m23F24 k b0 := by
    show _ = m23X24 k b0
    exact m23x24 (fun _ f => f) k b0

noncomputable def m23F17 (k : Nat) : Nat → Int → Int → List Int → Option ((List Int) × Int)
  | 0, _, _, _ => none
  | j + 1, t4, t20, b0 => m23X17 (m23F24 k) (m23F17 k j) k t4 t20 b0

theorem m23q17 (k : Nat) : ∀ (j : Nat) (t4 : Int) (t20 : Int) (b0 : List Int), loopN (normAt 0 m23A true (m23c [true, true, true, true, true, false, true, true, true])) (fun K s => evC (m23E k) (fun _ f => f) (m23I k) 0 m23A (m23c [true, true, true, true, true, false, true, true, true]) s K) (m23K11 (fun _ f => f) k) j (m23S17 t4 t20 b0) = m23F17 k j t4 t20 b0
  | 0, _, _, _ => rfl
  | j + 1, t4, t20, b0 => by
    have e0 : m23F17 k j = (fun t4' t20' b0' => loopN (normAt 0 m23A true (m23c [true, true, true, true, true, false, true, true, true])) (fun K s => evC (m23E k) (fun _ f => f) (m23I k) 0 m23A (m23c [true, true, true, true, true, false, true, true, true]) s K) (m23K11 (fun _ f => f) k) j (m23S17 t4' t20' b0')) := funext fun t4' => funext fun t20' => funext fun b0' => (m23q17 k j t4' t20' b0').symm
    have e24 : m23F24 k = (fun b0' => evC (m23E k) (fun _ f => f) (m23I k) 0 m23A (m23c [true, true, true, true, true, true]) (m23S24 b0') (retK Try.prog Try.f23 [.leaf (.own (.int .u8) 5), .leaf (.val (.int .i64))])) := funext fun b0' => (m23q24 k b0').symm
    show _ = m23X17 (m23F24 k) (m23F17 k j) k t4 t20 b0
    rw [e0, e24]
    exact m23x17 (fun _ f => f) k (loopN (normAt 0 m23A true (m23c [true, true, true, true, true, false, true, true, true])) (fun K s => evC (m23E k) (fun _ f => f) (m23I k) 0 m23A (m23c [true, true, true, true, true, false, true, true, true]) s K) (m23K11 (fun _ f => f) k) j) t4 t20 b0

noncomputable def m23F (k : Nat) (p0 : (List Int)) : Option ((List Int) × Int) := m23X (m23F17 k k) k p0

theorem m23q (k : Nat) (p0 : (List Int)) : evC (m23E k) (fun _ f => f) (m23I k) 0 m23A (m23c []) (stAt Try.f23 (argSs [.leaf (.val (.row (.int .u8)))] p0) (fun _ => none) 0) (retK Try.prog Try.f23 [.leaf (.own (.int .u8) 5), .leaf (.val (.int .i64))]) = m23F k p0 := by
    have e17 : m23F17 k k = (fun t4' t20' b0' => loopN (normAt 0 m23A true (m23c [true, true, true, true, true, false, true, true, true])) (fun K s => evC (m23E k) (fun _ f => f) (m23I k) 0 m23A (m23c [true, true, true, true, true, false, true, true, true]) s K) (m23K11 (fun _ f => f) k) k (m23S17 t4' t20' b0')) := funext fun t4' => funext fun t20' => funext fun b0' => (m23q17 k k t4' t20' b0').symm
    show _ = m23X (m23F17 k k) k p0
    rw [e17]
    exact m23x (fun _ f => f) k p0

noncomputable def m23sp : Spec := { ps := [.leaf (.val (.row (.int .u8)))], rs := [.leaf (.own (.int .u8) 5), .leaf (.val (.int .i64))], f := fun k a => m23F k a }

theorem m23ok (k : Nat) : EnvOk (m23E k) := envOk_of (l := [(14, m14sp), (31, m31sp)]) (lB := []) progNames progMixed rfl rfl (.cons ⟨m14con k, Try.f14, by kernel_rfl, by kernel_rfl⟩ (.cons ⟨m31con k, Try.f31, by kernel_rfl, by kernel_rfl⟩ (.nil))) (.nil)

theorem m23con (k : Nat) : Contract Try.prog k 23 m23sp := contract_of (E := m23E k) (m23ok k) (A := only 23 m23A) (d := 3) (c := m23c []) (by kernel_rfl) (by kernel_rfl) fun a _ h => (m23q k a).trans h

noncomputable def m32A : Anns := tabA [(9, { keep := [0, 1, 12, 13] })]
noncomputable def m32E (k : Nat) : Env := { P := Try.prog, k := k, G := tabG [], GB := tabGB [] }
noncomputable def m32c (p : List Bool) : Code := sub p (bodyOf Try.f32)
noncomputable def m32I (k : Nat) : Inl Bool := inlOf (m32E k) (only 32 m32A) 3
noncomputable def m32K0 (M : Cut Bool) (k : Nat) : Exit → St → Option Bool := seqK (normAt 0 m32A false (m32c [true])) (cutK M m32A (m32c [true]) fun s => evC (m32E k) M (m32I k) 0 m32A (m32c [true]) s (retK Try.prog Try.f32 [.leaf (.val .bool)])) (retK Try.prog Try.f32 [.leaf (.val .bool)])
noncomputable def m32K1 (M : Cut Bool) (k : Nat) : Exit → St → Option Bool := seqK (normAt 0 m32A false (m32c [true, true])) (cutK M m32A (m32c [true, true]) fun s => evC (m32E k) M (m32I k) 0 m32A (m32c [true, true]) s (retK Try.prog Try.f32 [.leaf (.val .bool)])) (retK Try.prog Try.f32 [.leaf (.val .bool)])
noncomputable def m32K2 (M : Cut Bool) (k : Nat) : Exit → St → Option Bool := seqK (normAt 0 m32A false (m32c [true, false, true])) (cutK M m32A (m32c [true, false, true]) fun s => evC (m32E k) M (m32I k) 0 m32A (m32c [true, false, true]) s (m32K1 M k)) (m32K1 M k)
noncomputable def m32K3 (M : Cut Bool) (k : Nat) : Exit → St → Option Bool := seqK (normAt 0 m32A false (m32c [true, false, true, false, true])) (cutK M m32A (m32c [true, false, true, false, true]) fun s => evC (m32E k) M (m32I k) 0 m32A (m32c [true, false, true, false, true]) s (m32K1 M k)) (m32K1 M k)
noncomputable def m32K4 (M : Cut Bool) (k : Nat) : Exit → St → Option Bool := seqK (normAt 0 m32A false (m32c [true, true, true])) (cutK M m32A (m32c [true, true, true]) fun s => evC (m32E k) M (m32I k) 0 m32A (m32c [true, true, true]) s (retK Try.prog Try.f32 [.leaf (.val .bool)])) (retK Try.prog Try.f32 [.leaf (.val .bool)])
noncomputable def m32K5 (M : Cut Bool) (k : Nat) : Exit → St → Option Bool := seqK (normAt 0 m32A false (m32c [true, true, false, true])) (cutK M m32A (m32c [true, true, false, true]) fun s => evC (m32E k) M (m32I k) 0 m32A (m32c [true, true, false, true]) s (m32K4 M k)) (m32K4 M k)
noncomputable def m32K6 (M : Cut Bool) (k : Nat) : Exit → St → Option Bool := blockK 0 (m32K4 M k)
noncomputable def m32K7 (M : Cut Bool) (k : Nat) (L9 : St → Option Bool) : Exit → St → Option Bool := seqK (normAt 0 m32A true (m32c [true, true, false, true, true, true])) L9 (m32K6 M k)
noncomputable def m32K8 (M : Cut Bool) (k : Nat) (L9 : St → Option Bool) : Exit → St → Option Bool := seqK (normAt 0 m32A false (m32c [true, true, false, true, true, true, true])) (cutK M m32A (m32c [true, true, false, true, true, true, true]) fun s => evC (m32E k) M (m32I k) 0 m32A (m32c [true, true, false, true, true, true, true]) s (m32K7 M k L9)) (m32K7 M k L9)
noncomputable def m32K9 (M : Cut Bool) (k : Nat) (L9 : St → Option Bool) : Exit → St → Option Bool := seqK (normAt 0 m32A false (m32c [true, true, false, true, true, true, true, true])) (cutK M m32A (m32c [true, true, false, true, true, true, true, true]) fun s => evC (m32E k) M (m32I k) 0 m32A (m32c [true, true, false, true, true, true, true, true]) s (m32K7 M k L9)) (m32K7 M k L9)
noncomputable def m32K10 (M : Cut Bool) (k : Nat) (L9 : St → Option Bool) : Exit → St → Option Bool := seqK (normAt 0 m32A false (m32c [true, true, false, true, true, true, true, true, true])) (cutK M m32A (m32c [true, true, false, true, true, true, true, true, true]) fun s => evC (m32E k) M (m32I k) 0 m32A (m32c [true, true, false, true, true, true, true, true, true]) s (m32K7 M k L9)) (m32K7 M k L9)
noncomputable def m32K11 (M : Cut Bool) (k : Nat) (L9 : St → Option Bool) : Exit → St → Option Bool := blockK 1 (m32K10 M k L9)
noncomputable def m32K12 (M : Cut Bool) (k : Nat) (L9 : St → Option Bool) : Exit → St → Option Bool := seqK (normAt 0 m32A false (m32c [true, true, false, true, true, true, true, true, false, true, true])) (cutK M m32A (m32c [true, true, false, true, true, true, true, true, false, true, true]) fun s => evC (m32E k) M (m32I k) 0 m32A (m32c [true, true, false, true, true, true, true, true, false, true, true]) s (m32K11 M k L9)) (m32K11 M k L9)
noncomputable def m32K13 (M : Cut Bool) (k : Nat) (L9 : St → Option Bool) : Exit → St → Option Bool := seqK (normAt 0 m32A false (m32c [true, true, false, true, true, true, true, true, false, true, true, true])) (cutK M m32A (m32c [true, true, false, true, true, true, true, true, false, true, true, true]) fun s => evC (m32E k) M (m32I k) 0 m32A (m32c [true, true, false, true, true, true, true, true, false, true, true, true]) s (m32K11 M k L9)) (m32K11 M k L9)
noncomputable def m32K14 (M : Cut Bool) (k : Nat) (L9 : St → Option Bool) : Exit → St → Option Bool := seqK (normAt 0 m32A false (m32c [true, true, false, true, true, true, true, true, false, true, true, true, false, true])) (cutK M m32A (m32c [true, true, false, true, true, true, true, true, false, true, true, true, false, true]) fun s => evC (m32E k) M (m32I k) 0 m32A (m32c [true, true, false, true, true, true, true, true, false, true, true, true, false, true]) s (m32K11 M k L9)) (m32K11 M k L9)
noncomputable def m32K15 (M : Cut Bool) (k : Nat) : Exit → St → Option Bool := seqK (normAt 0 m32A false (m32c [true, true, true, true])) (cutK M m32A (m32c [true, true, true, true]) fun s => evC (m32E k) M (m32I k) 0 m32A (m32c [true, true, true, true]) s (retK Try.prog Try.f32 [.leaf (.val .bool)])) (retK Try.prog Try.f32 [.leaf (.val .bool)])
noncomputable def m32S9 (t0 : List Int) (t1 : List Int) (t12 : Int) (t13 : Int) : St := { n := 26, tm := slots [(0, .row (.int .u8) t0), (1, .row (.int .u8) t1), (12, .int .i64 t12), (13, .int .i64 t13)], tab := blks [], nx := 0 }

noncomputable def m32X (X9 : List Int → List Int → Int → Int → Option Bool) (k : Nat) (p0 : (List Int)) (p1 : (List Int)) : Option Bool := (if (!eqI (↑(List.length p0) : Int) (↑(List.length p1) : Int)) = true then some (false) else X9 p0 p1 ((↑(List.length p0) : Int)) (0))

theorem m32x (M : Cut Bool) (k : Nat) (p0 : (List Int)) (p1 : (List Int)) : evC (m32E k) M (m32I k) 0 m32A (m32c []) (stAt Try.f32 (argSs [.leaf (.val (.row (.int .u8))), .leaf (.val (.row (.int .u8)))] (p0, p1)) (fun _ => none) 0) (retK Try.prog Try.f32 [.leaf (.val .bool)]) = m32X (fun t0' t1' t12' t13' => loopN (normAt 0 m32A true (m32c [true, true, false, true, true, true])) (fun K s => evC (m32E k) M (m32I k) 0 m32A (m32c [true, true, false, true, true, true]) s K) (m32K6 M k) k (m32S9 t0' t1' t12' t13')) k p0 p1 := by kernel_rfl

noncomputable def m32X9 (L9 : List Int → List Int → Int → Int → Option Bool) (k : Nat) (t0 : List Int) (t1 : List Int) (t12 : Int) (t13 : Int) : Option Bool := (if ltI t13 t12 = true then (if leI 0 t13 = true then (if ltI t13 (↑(List.length t0) : Int) = true then (if leI 0 t13 = true then (if ltI t13 (↑(List.length t1) : Int) = true then (if (!eqI (List.getD t0 (Int.toNat t13) 0) (List.getD t1 (Int.toNat t13) 0)) = true then some (false) else L9 t0 t1 t12 (wr IntKind.i64 (t13 + 1))) else none) else none) else none) else none) else some (true))

theorem m32x9 (M : Cut Bool) (k : Nat) (L9 : St → Option Bool) (t0 : List Int) (t1 : List Int) (t12 : Int) (t13 : Int) : evC (m32E k) M (m32I k) 0 m32A (m32c [true, true, false, true, true, true]) (m32S9 t0 t1 t12 t13) (seqK (normAt 0 m32A true (m32c [true, true, false, true, true, true])) L9 (m32K6 M k)) = m32X9 (fun t0' t1' t12' t13' => L9 (m32S9 t0' t1' t12' t13')) k t0 t1 t12 t13 := by kernel_rfl

noncomputable def m32F9 (k : Nat) : Nat → List Int → List Int → Int → Int → Option Bool
  | 0, _, _, _, _ => none
  | j + 1, t0, t1, t12, t13 => m32X9 (m32F9 k j) k t0 t1 t12 t13

theorem m32q9 (k : Nat) : ∀ (j : Nat) (t0 : List Int) (t1 : List Int) (t12 : Int) (t13 : Int), loopN (normAt 0 m32A true (m32c [true, true, false, true, true, true])) (fun K s => evC (m32E k) (fun _ f => f) (m32I k) 0 m32A (m32c [true, true, false, true, true, true]) s K) (m32K6 (fun _ f => f) k) j (m32S9 t0 t1 t12 t13) = m32F9 k j t0 t1 t12 t13
  | 0, _, _, _, _ => rfl
  | j + 1, t0, t1, t12, t13 => by
    have e0 : m32F9 k j = (fun t0' t1' t12' t13' => loopN (normAt 0 m32A true (m32c [true, true, false, true, true, true])) (fun K s => evC (m32E k) (fun _ f => f) (m32I k) 0 m32A (m32c [true, true, false, true, true, true]) s K) (m32K6 (fun _ f => f) k) j (m32S9 t0' t1' t12' t13')) := funext fun t0' => funext fun t1' => funext fun t12' => funext fun t13' => (m32q9 k j t0' t1' t12' t13').symm
    show _ = m32X9 (m32F9 k j) k t0 t1 t12 t13
    rw [e0]
    exact m32x9 (fun _ f => f) k (loopN (normAt 0 m32A true (m32c [true, true, false, true, true, true])) (fun K s => evC (m32E k) (fun _ f => f) (m32I k) 0 m32A (m32c [true, true, false, true, true, true]) s K) (m32K6 (fun _ f => f) k) j) t0 t1 t12 t13

noncomputable def m32F (k : Nat) (p0 : (List Int)) (p1 : (List Int)) : Option Bool := m32X (m32F9 k k) k p0 p1

theorem m32q (k : Nat) (p0 : (List Int)) (p1 : (List Int)) : evC (m32E k) (fun _ f => f) (m32I k) 0 m32A (m32c []) (stAt Try.f32 (argSs [.leaf (.val (.row (.int .u8))), .leaf (.val (.row (.int .u8)))] (p0, p1)) (fun _ => none) 0) (retK Try.prog Try.f32 [.leaf (.val .bool)]) = m32F k p0 p1 := by
    have e9 : m32F9 k k = (fun t0' t1' t12' t13' => loopN (normAt 0 m32A true (m32c [true, true, false, true, true, true])) (fun K s => evC (m32E k) (fun _ f => f) (m32I k) 0 m32A (m32c [true, true, false, true, true, true]) s K) (m32K6 (fun _ f => f) k) k (m32S9 t0' t1' t12' t13')) := funext fun t0' => funext fun t1' => funext fun t12' => funext fun t13' => (m32q9 k k t0' t1' t12' t13').symm
    show _ = m32X (m32F9 k k) k p0 p1
    rw [e9]
    exact m32x (fun _ f => f) k p0 p1

noncomputable def m32sp : Spec := { ps := [.leaf (.val (.row (.int .u8))), .leaf (.val (.row (.int .u8)))], rs := [.leaf (.val .bool)], f := fun k a => m32F k a.1 a.2 }

theorem m32ok (k : Nat) : EnvOk (m32E k) := envOk_of (l := []) (lB := []) progNames progMixed rfl rfl (.nil) (.nil)

theorem m32con (k : Nat) : Contract Try.prog k 32 m32sp := contract_of (E := m32E k) (m32ok k) (A := only 32 m32A) (d := 3) (c := m32c []) (by kernel_rfl) (by kernel_rfl) fun a _ h => (m32q k a.1 a.2).trans h

noncomputable def m24A : Anns := tabA []
noncomputable def m24E (k : Nat) : Env := { P := Try.prog, k := k, G := tabG [(23, m23sp), (32, m32sp)], GB := tabGB [] }
noncomputable def m24c (p : List Bool) : Code := sub p (bodyOf Try.f24)
noncomputable def m24I (k : Nat) : Inl (Bool × Int) := inlOf (m24E k) (only 24 m24A) 3
noncomputable def m24K0 (M : Cut (Bool × Int)) (k : Nat) : Exit → St → Option (Bool × Int) := seqK (normAt 0 m24A false (m24c [true])) (cutK M m24A (m24c [true]) fun s => evC (m24E k) M (m24I k) 0 m24A (m24c [true]) s (retK Try.prog Try.f24 [.leaf (.val .bool), .leaf (.val (.int .i64))])) (retK Try.prog Try.f24 [.leaf (.val .bool), .leaf (.val (.int .i64))])
noncomputable def m24K1 (M : Cut (Bool × Int)) (k : Nat) : Exit → St → Option (Bool × Int) := seqK (normAt 0 m24A false (m24c [true, true])) (cutK M m24A (m24c [true, true]) fun s => evC (m24E k) M (m24I k) 0 m24A (m24c [true, true]) s (retK Try.prog Try.f24 [.leaf (.val .bool), .leaf (.val (.int .i64))])) (retK Try.prog Try.f24 [.leaf (.val .bool), .leaf (.val (.int .i64))])
noncomputable def m24K2 (M : Cut (Bool × Int)) (k : Nat) : Exit → St → Option (Bool × Int) := blockK 0 (m24K1 M k)
noncomputable def m24K3 (M : Cut (Bool × Int)) (k : Nat) : Exit → St → Option (Bool × Int) := seqK (normAt 0 m24A false (m24c [true, false, true, true])) (cutK M m24A (m24c [true, false, true, true]) fun s => evC (m24E k) M (m24I k) 0 m24A (m24c [true, false, true, true]) s (m24K2 M k)) (m24K2 M k)
noncomputable def m24K4 (M : Cut (Bool × Int)) (k : Nat) : Exit → St → Option (Bool × Int) := seqK (normAt 0 m24A false (m24c [true, false, true, true, false, true])) (cutK M m24A (m24c [true, false, true, true, false, true]) fun s => evC (m24E k) M (m24I k) 0 m24A (m24c [true, false, true, true, false, true]) s (m24K2 M k)) (m24K2 M k)
noncomputable def m24K5 (M : Cut (Bool × Int)) (k : Nat) : Exit → St → Option (Bool × Int) := seqK (normAt 0 m24A false (m24c [true, false, true, true, true, true])) (cutK M m24A (m24c [true, false, true, true, true, true]) fun s => evC (m24E k) M (m24I k) 0 m24A (m24c [true, false, true, true, true, true]) s (m24K2 M k)) (m24K2 M k)
noncomputable def m24K6 (M : Cut (Bool × Int)) (k : Nat) : Exit → St → Option (Bool × Int) := seqK (normAt 0 m24A false (m24c [true, false, true, true, true, true, false, true])) (cutK M m24A (m24c [true, false, true, true, true, true, false, true]) fun s => evC (m24E k) M (m24I k) 0 m24A (m24c [true, false, true, true, true, true, false, true]) s (m24K2 M k)) (m24K2 M k)
noncomputable def m24K7 (M : Cut (Bool × Int)) (k : Nat) : Exit → St → Option (Bool × Int) := seqK (normAt 0 m24A false (m24c [true, true, true])) (cutK M m24A (m24c [true, true, true]) fun s => evC (m24E k) M (m24I k) 0 m24A (m24c [true, true, true]) s (retK Try.prog Try.f24 [.leaf (.val .bool), .leaf (.val (.int .i64))])) (retK Try.prog Try.f24 [.leaf (.val .bool), .leaf (.val (.int .i64))])
noncomputable def m24K8 (M : Cut (Bool × Int)) (k : Nat) : Exit → St → Option (Bool × Int) := seqK (normAt 0 m24A false (m24c [true, true, true, true])) (cutK M m24A (m24c [true, true, true, true]) fun s => evC (m24E k) M (m24I k) 0 m24A (m24c [true, true, true, true]) s (retK Try.prog Try.f24 [.leaf (.val .bool), .leaf (.val (.int .i64))])) (retK Try.prog Try.f24 [.leaf (.val .bool), .leaf (.val (.int .i64))])

noncomputable def m24X (k : Nat) (p0 : (List Int)) : Option (Bool × Int) := (if ltI 4096 (↑(List.length p0) : Int) = true then some ((false, 2)) else (if ltI (↑(List.length p0) : Int) 4 = true then some ((false, 0)) else (if leI 0 (wr IntKind.i64 ((↑(List.length p0) : Int) - 4)) = true then (if leI (wr IntKind.i64 ((↑(List.length p0) : Int) - 4)) (↑(List.length p0) : Int) = true then (Option.bind (m23F k (List.take (Int.toNat (wr IntKind.i64 ((↑(List.length p0) : Int) - 4))) p0)) fun (c3 : ((List Int) × Int)) => (if eqI (Prod.snd c3) 0 = true then (Option.bind (m32F k (Prod.fst c3) p0) fun (c4 : Bool) => some ((c4, 0))) else some ((false, 0)))) else none) else none)))

theorem m24x (M : Cut (Bool × Int)) (k : Nat) (p0 : (List Int)) : evC (m24E k) M (m24I k) 0 m24A (m24c []) (stAt Try.f24 (argSs [.leaf (.val (.row (.int .u8)))] p0) (fun _ => none) 0) (retK Try.prog Try.f24 [.leaf (.val .bool), .leaf (.val (.int .i64))]) = m24X k p0 := by kernel_rfl

noncomputable def m24F (k : Nat) (p0 : (List Int)) : Option (Bool × Int) := m24X k p0

theorem m24q (k : Nat) (p0 : (List Int)) : evC (m24E k) (fun _ f => f) (m24I k) 0 m24A (m24c []) (stAt Try.f24 (argSs [.leaf (.val (.row (.int .u8)))] p0) (fun _ => none) 0) (retK Try.prog Try.f24 [.leaf (.val .bool), .leaf (.val (.int .i64))]) = m24F k p0 := by
    show _ = m24X k p0
    exact m24x (fun _ f => f) k p0

noncomputable def m24sp : Spec := { ps := [.leaf (.val (.row (.int .u8)))], rs := [.leaf (.val .bool), .leaf (.val (.int .i64))], f := fun k a => m24F k a }

theorem m24ok (k : Nat) : EnvOk (m24E k) := envOk_of (l := [(23, m23sp), (32, m32sp)]) (lB := []) progNames progMixed rfl rfl (.cons ⟨m23con k, Try.f23, by kernel_rfl, by kernel_rfl⟩ (.cons ⟨m32con k, Try.f32, by kernel_rfl, by kernel_rfl⟩ (.nil))) (.nil)

theorem m24con (k : Nat) : Contract Try.prog k 24 m24sp := contract_of (E := m24E k) (m24ok k) (A := only 24 m24A) (d := 3) (c := m24c []) (by kernel_rfl) (by kernel_rfl) fun a _ h => (m24q k a).trans h

noncomputable def m27A : Anns := tabA [(7, { keep := [0, 3, 4], mat := [(3, (.int .i64), 3)] })]
noncomputable def m27E (k : Nat) : Env := { P := Try.prog, k := k, G := tabG [], GB := tabGB [] }
noncomputable def m27c (p : List Bool) : Code := sub p (bodyOf Try.f27)
noncomputable def m27I (k : Nat) : Inl (List Int) := inlOf (m27E k) (only 27 m27A) 3
noncomputable def m27K0 (M : Cut (List Int)) (k : Nat) : Exit → St → Option (List Int) := seqK (normAt 0 m27A false (m27c [true])) (cutK M m27A (m27c [true]) fun s => evC (m27E k) M (m27I k) 0 m27A (m27c [true]) s (retK Try.prog Try.f27 [.leaf (.own (.int .i64) 3)])) (retK Try.prog Try.f27 [.leaf (.own (.int .i64) 3)])
noncomputable def m27K1 (M : Cut (List Int)) (k : Nat) : Exit → St → Option (List Int) := seqK (normAt 0 m27A false (m27c [true, true])) (cutK M m27A (m27c [true, true]) fun s => evC (m27E k) M (m27I k) 0 m27A (m27c [true, true]) s (retK Try.prog Try.f27 [.leaf (.own (.int .i64) 3)])) (retK Try.prog Try.f27 [.leaf (.own (.int .i64) 3)])
noncomputable def m27K2 (M : Cut (List Int)) (k : Nat) : Exit → St → Option (List Int) := seqK (normAt 0 m27A false (m27c [true, true, true])) (cutK M m27A (m27c [true, true, true]) fun s => evC (m27E k) M (m27I k) 0 m27A (m27c [true, true, true]) s (retK Try.prog Try.f27 [.leaf (.own (.int .i64) 3)])) (retK Try.prog Try.f27 [.leaf (.own (.int .i64) 3)])
noncomputable def m27K3 (M : Cut (List Int)) (k : Nat) : Exit → St → Option (List Int) := seqK (normAt 0 m27A false (m27c [true, true, false, true])) (cutK M m27A (m27c [true, true, false, true]) fun s => evC (m27E k) M (m27I k) 0 m27A (m27c [true, true, false, true]) s (m27K2 M k)) (m27K2 M k)
noncomputable def m27K4 (M : Cut (List Int)) (k : Nat) : Exit → St → Option (List Int) := blockK 0 (m27K2 M k)
noncomputable def m27K5 (M : Cut (List Int)) (k : Nat) (L7 : St → Option (List Int)) : Exit → St → Option (List Int) := seqK (normAt 0 m27A true (m27c [true, true, false, true, true, true])) L7 (m27K4 M k)
noncomputable def m27K6 (M : Cut (List Int)) (k : Nat) (L7 : St → Option (List Int)) : Exit → St → Option (List Int) := seqK (normAt 0 m27A false (m27c [true, true, false, true, true, true, true])) (cutK M m27A (m27c [true, true, false, true, true, true, true]) fun s => evC (m27E k) M (m27I k) 0 m27A (m27c [true, true, false, true, true, true, true]) s (m27K5 M k L7)) (m27K5 M k L7)
noncomputable def m27K7 (M : Cut (List Int)) (k : Nat) (L7 : St → Option (List Int)) : Exit → St → Option (List Int) := seqK (normAt 0 m27A false (m27c [true, true, false, true, true, true, false, true])) (cutK M m27A (m27c [true, true, false, true, true, true, false, true]) fun s => evC (m27E k) M (m27I k) 0 m27A (m27c [true, true, false, true, true, true, false, true]) s (m27K6 M k L7)) (m27K6 M k L7)
noncomputable def m27K8 (M : Cut (List Int)) (k : Nat) (L7 : St → Option (List Int)) : Exit → St → Option (List Int) := seqK (normAt 0 m27A false (m27c [true, true, false, true, true, true, true, true])) (cutK M m27A (m27c [true, true, false, true, true, true, true, true]) fun s => evC (m27E k) M (m27I k) 0 m27A (m27c [true, true, false, true, true, true, true, true]) s (m27K5 M k L7)) (m27K5 M k L7)
noncomputable def m27K9 (M : Cut (List Int)) (k : Nat) (L7 : St → Option (List Int)) : Exit → St → Option (List Int) := blockK 1 (m27K8 M k L7)
noncomputable def m27K10 (M : Cut (List Int)) (k : Nat) : Exit → St → Option (List Int) := seqK (normAt 0 m27A false (m27c [true, true, true, true])) (cutK M m27A (m27c [true, true, true, true]) fun s => evC (m27E k) M (m27I k) 0 m27A (m27c [true, true, true, true]) s (retK Try.prog Try.f27 [.leaf (.own (.int .i64) 3)])) (retK Try.prog Try.f27 [.leaf (.own (.int .i64) 3)])
noncomputable def m27S7 (t0 : List Int) (t4 : Int) (b0 : List Int) : St := { n := 28, tm := slots [(0, .row (.int .u8) t0), (3, .own 0), (4, .int .i64 t4)], tab := blks [some (.row true (.int .i64) 3 b0)], nx := 1 }

noncomputable def m27X (X7 : List Int → Int → List Int → Option (List Int)) (k : Nat) (p0 : (List Int)) : Option (List Int) := X7 p0 (0) ([])

theorem m27x (M : Cut (List Int)) (k : Nat) (p0 : (List Int)) : evC (m27E k) M (m27I k) 0 m27A (m27c []) (stAt Try.f27 (argSs [.leaf (.val (.row (.int .u8)))] p0) (fun _ => none) 0) (retK Try.prog Try.f27 [.leaf (.own (.int .i64) 3)]) = m27X (fun t0' t4' b0' => loopN (normAt 0 m27A true (m27c [true, true, false, true, true, true])) (fun K s => evC (m27E k) M (m27I k) 0 m27A (m27c [true, true, false, true, true, true]) s K) (m27K4 M k) k (m27S7 t0' t4' b0')) k p0 := by kernel_rfl

noncomputable def m27X7 (L7 : List Int → Int → List Int → Option (List Int)) (k : Nat) (t0 : List Int) (t4 : Int) (b0 : List Int) : Option (List Int) := (if ltI t4 (wr IntKind.i64 (8 * (↑(List.length t0) : Int))) = true then (if (!eqI 8 0) = true then (if leI 0 (wr IntKind.i64 (Int.tdiv t4 8)) = true then (if ltI (wr IntKind.i64 (Int.tdiv t4 8)) (↑(List.length t0) : Int) = true then (if (!eqI 8 0) = true then (if leI 0 (wr IntKind.u64 (wr IntKind.i64 (7 - Int.tmod t4 8))) = true then (if leI
    (↑((List.length b0 +
            List.length
              (List.set (List.replicate 1 0) 0
                (bits BinOp.and IntKind.i64
                  (wr IntKind.i64
                    (List.getD t0 (Int.toNat (wr IntKind.i64 (Int.tdiv t4 8))) 0 /
                      p2 (min (Int.toNat (wr IntKind.u64 (wr IntKind.i64 (7 - Int.tmod t4 8)))) 8)))
                  1))) *
          8) :
      Int)
    140737488355328 =
  true then L7 t0 (wr IntKind.i64 (t4 + 1)) (b0 ++
  List.set (List.replicate 1 0) 0
    (bits BinOp.and IntKind.i64
      (wr IntKind.i64
        (List.getD t0 (Int.toNat (wr IntKind.i64 (Int.tdiv t4 8))) 0 /
          p2 (min (Int.toNat (wr IntKind.u64 (wr IntKind.i64 (7 - Int.tmod t4 8)))) 8)))
      1)) else none) else none) else none) else none) else none) else none) else some b0)

theorem m27x7 (M : Cut (List Int)) (k : Nat) (L7 : St → Option (List Int)) (t0 : List Int) (t4 : Int) (b0 : List Int) : evC (m27E k) M (m27I k) 0 m27A (m27c [true, true, false, true, true, true]) (m27S7 t0 t4 b0) (seqK (normAt 0 m27A true (m27c [true, true, false, true, true, true])) L7 (m27K4 M k)) = m27X7 (fun t0' t4' b0' => L7 (m27S7 t0' t4' b0')) k t0 t4 b0 := by kernel_rfl

noncomputable def m27F7 (k : Nat) : Nat → List Int → Int → List Int → Option (List Int)
  | 0, _, _, _ => none
  | j + 1, t0, t4, b0 => m27X7 (m27F7 k j) k t0 t4 b0

theorem m27q7 (k : Nat) : ∀ (j : Nat) (t0 : List Int) (t4 : Int) (b0 : List Int), loopN (normAt 0 m27A true (m27c [true, true, false, true, true, true])) (fun K s => evC (m27E k) (fun _ f => f) (m27I k) 0 m27A (m27c [true, true, false, true, true, true]) s K) (m27K4 (fun _ f => f) k) j (m27S7 t0 t4 b0) = m27F7 k j t0 t4 b0
  | 0, _, _, _ => rfl
  | j + 1, t0, t4, b0 => by
    have e0 : m27F7 k j = (fun t0' t4' b0' => loopN (normAt 0 m27A true (m27c [true, true, false, true, true, true])) (fun K s => evC (m27E k) (fun _ f => f) (m27I k) 0 m27A (m27c [true, true, false, true, true, true]) s K) (m27K4 (fun _ f => f) k) j (m27S7 t0' t4' b0')) := funext fun t0' => funext fun t4' => funext fun b0' => (m27q7 k j t0' t4' b0').symm
    show _ = m27X7 (m27F7 k j) k t0 t4 b0
    rw [e0]
    exact m27x7 (fun _ f => f) k (loopN (normAt 0 m27A true (m27c [true, true, false, true, true, true])) (fun K s => evC (m27E k) (fun _ f => f) (m27I k) 0 m27A (m27c [true, true, false, true, true, true]) s K) (m27K4 (fun _ f => f) k) j) t0 t4 b0

noncomputable def m27F (k : Nat) (p0 : (List Int)) : Option (List Int) := m27X (m27F7 k k) k p0

theorem m27q (k : Nat) (p0 : (List Int)) : evC (m27E k) (fun _ f => f) (m27I k) 0 m27A (m27c []) (stAt Try.f27 (argSs [.leaf (.val (.row (.int .u8)))] p0) (fun _ => none) 0) (retK Try.prog Try.f27 [.leaf (.own (.int .i64) 3)]) = m27F k p0 := by
    have e7 : m27F7 k k = (fun t0' t4' b0' => loopN (normAt 0 m27A true (m27c [true, true, false, true, true, true])) (fun K s => evC (m27E k) (fun _ f => f) (m27I k) 0 m27A (m27c [true, true, false, true, true, true]) s K) (m27K4 (fun _ f => f) k) k (m27S7 t0' t4' b0')) := funext fun t0' => funext fun t4' => funext fun b0' => (m27q7 k k t0' t4' b0').symm
    show _ = m27X (m27F7 k k) k p0
    rw [e7]
    exact m27x (fun _ f => f) k p0

noncomputable def m27sp : Spec := { ps := [.leaf (.val (.row (.int .u8)))], rs := [.leaf (.own (.int .i64) 3)], f := fun k a => m27F k a }

theorem m27ok (k : Nat) : EnvOk (m27E k) := envOk_of (l := []) (lB := []) progNames progMixed rfl rfl (.nil) (.nil)

theorem m27con (k : Nat) : Contract Try.prog k 27 m27sp := contract_of (E := m27E k) (m27ok k) (A := only 27 m27A) (d := 3) (c := m27c []) (by kernel_rfl) (by kernel_rfl) fun a _ h => (m27q k a).trans h

noncomputable def m37A : Anns := tabA []
noncomputable def m37E (k : Nat) : Env := { P := Try.prog, k := k, G := tabG [], GB := tabGB [] }
noncomputable def m37c (p : List Bool) : Code := sub p (bodyOf Try.f37)
noncomputable def m37I (k : Nat) : Inl Bool := inlOf (m37E k) (only 37 m37A) 3
noncomputable def m37K0 (M : Cut Bool) (k : Nat) : Exit → St → Option Bool := seqK (normAt 0 m37A false (m37c [true])) (cutK M m37A (m37c [true]) fun s => evC (m37E k) M (m37I k) 0 m37A (m37c [true]) s (retK Try.prog Try.f37 [.leaf (.val .bool)])) (retK Try.prog Try.f37 [.leaf (.val .bool)])
noncomputable def m37K1 (M : Cut Bool) (k : Nat) : Exit → St → Option Bool := seqK (normAt 0 m37A false (m37c [true, true])) (cutK M m37A (m37c [true, true]) fun s => evC (m37E k) M (m37I k) 0 m37A (m37c [true, true]) s (retK Try.prog Try.f37 [.leaf (.val .bool)])) (retK Try.prog Try.f37 [.leaf (.val .bool)])

noncomputable def m37X (k : Nat) (p0 : Int) : Option Bool := (if (!eqI p0 0) = true then some (!eqI p0 1) else some (false))

theorem m37x (M : Cut Bool) (k : Nat) (p0 : Int) : evC (m37E k) M (m37I k) 0 m37A (m37c []) (stAt Try.f37 (argSs [.leaf (.val (.int .i64))] p0) (fun _ => none) 0) (retK Try.prog Try.f37 [.leaf (.val .bool)]) = m37X k p0 := by kernel_rfl

noncomputable def m37F (k : Nat) (p0 : Int) : Option Bool := m37X k p0

theorem m37q (k : Nat) (p0 : Int) : evC (m37E k) (fun _ f => f) (m37I k) 0 m37A (m37c []) (stAt Try.f37 (argSs [.leaf (.val (.int .i64))] p0) (fun _ => none) 0) (retK Try.prog Try.f37 [.leaf (.val .bool)]) = m37F k p0 := by
    show _ = m37X k p0
    exact m37x (fun _ f => f) k p0

noncomputable def m37sp : Spec := { ps := [.leaf (.val (.int .i64))], rs := [.leaf (.val .bool)], f := fun k a => m37F k a }

theorem m37ok (k : Nat) : EnvOk (m37E k) := envOk_of (l := []) (lB := []) progNames progMixed rfl rfl (.nil) (.nil)

theorem m37con (k : Nat) : Contract Try.prog k 37 m37sp := contract_of (E := m37E k) (m37ok k) (A := only 37 m37A) (d := 3) (c := m37c []) (by kernel_rfl) (by kernel_rfl) fun a _ h => (m37q k a).trans h

noncomputable def m40A : Anns := tabA [(5, { keep := [0, 1, 7, 8] })]
noncomputable def m40E (k : Nat) : Env := { P := Try.prog, k := k, G := tabG [(37, m37sp)], GB := tabGB [] }
noncomputable def m40c (p : List Bool) : Code := sub p (bodyOf Try.f40)
noncomputable def m40I (k : Nat) : Inl Int := inlOf (m40E k) (only 40 m40A) 3
noncomputable def m40K0 (M : Cut Int) (k : Nat) : Exit → St → Option Int := seqK (normAt 0 m40A false (m40c [true])) (cutK M m40A (m40c [true]) fun s => evC (m40E k) M (m40I k) 0 m40A (m40c [true]) s (retK Try.prog Try.f40 [.leaf (.val (.int .i64))])) (retK Try.prog Try.f40 [.leaf (.val (.int .i64))])
noncomputable def m40K1 (M : Cut Int) (k : Nat) : Exit → St → Option Int := seqK (normAt 0 m40A false (m40c [true, true])) (cutK M m40A (m40c [true, true]) fun s => evC (m40E k) M (m40I k) 0 m40A (m40c [true, true]) s (retK Try.prog Try.f40 [.leaf (.val (.int .i64))])) (retK Try.prog Try.f40 [.leaf (.val (.int .i64))])
noncomputable def m40K2 (M : Cut Int) (k : Nat) : Exit → St → Option Int := seqK (normAt 0 m40A false (m40c [true, false, true])) (cutK M m40A (m40c [true, false, true]) fun s => evC (m40E k) M (m40I k) 0 m40A (m40c [true, false, true]) s (m40K1 M k)) (m40K1 M k)
noncomputable def m40K3 (M : Cut Int) (k : Nat) : Exit → St → Option Int := blockK 0 (m40K1 M k)
noncomputable def m40K4 (M : Cut Int) (k : Nat) (L5 : St → Option Int) : Exit → St → Option Int := seqK (normAt 0 m40A true (m40c [true, false, true, true, true])) L5 (m40K3 M k)
noncomputable def m40K5 (M : Cut Int) (k : Nat) (L5 : St → Option Int) : Exit → St → Option Int := seqK (normAt 0 m40A false (m40c [true, false, true, true, true, true])) (cutK M m40A (m40c [true, false, true, true, true, true]) fun s => evC (m40E k) M (m40I k) 0 m40A (m40c [true, false, true, true, true, true]) s (m40K4 M k L5)) (m40K4 M k L5)
noncomputable def m40K6 (M : Cut Int) (k : Nat) (L5 : St → Option Int) : Exit → St → Option Int := seqK (normAt 0 m40A false (m40c [true, false, true, true, true, true, true])) (cutK M m40A (m40c [true, false, true, true, true, true, true]) fun s => evC (m40E k) M (m40I k) 0 m40A (m40c [true, false, true, true, true, true, true]) s (m40K4 M k L5)) (m40K4 M k L5)
noncomputable def m40K7 (M : Cut Int) (k : Nat) (L5 : St → Option Int) : Exit → St → Option Int := seqK (normAt 0 m40A false (m40c [true, false, true, true, true, true, true, true])) (cutK M m40A (m40c [true, false, true, true, true, true, true, true]) fun s => evC (m40E k) M (m40I k) 0 m40A (m40c [true, false, true, true, true, true, true, true]) s (m40K4 M k L5)) (m40K4 M k L5)
noncomputable def m40K8 (M : Cut Int) (k : Nat) (L5 : St → Option Int) : Exit → St → Option Int := blockK 1 (m40K7 M k L5)
noncomputable def m40K9 (M : Cut Int) (k : Nat) (L5 : St → Option Int) : Exit → St → Option Int := seqK (normAt 0 m40A false (m40c [true, false, true, true, true, true, true, false, true, true])) (cutK M m40A (m40c [true, false, true, true, true, true, true, false, true, true]) fun s => evC (m40E k) M (m40I k) 0 m40A (m40c [true, false, true, true, true, true, true, false, true, true]) s (m40K8 M k L5)) (m40K8 M k L5)
noncomputable def m40K10 (M : Cut Int) (k : Nat) (L5 : St → Option Int) : Exit → St → Option Int := seqK (normAt 0 m40A false (m40c [true, false, true, true, true, true, true, false, true, true, true])) (cutK M m40A (m40c [true, false, true, true, true, true, true, false, true, true, true]) fun s => evC (m40E k) M (m40I k) 0 m40A (m40c [true, false, true, true, true, true, true, false, true, true, true]) s (m40K8 M k L5)) (m40K8 M k L5)
noncomputable def m40K11 (M : Cut Int) (k : Nat) (L5 : St → Option Int) : Exit → St → Option Int := seqK (normAt 0 m40A false (m40c [true, false, true, true, true, true, true, false, true, true, true, false, true])) (cutK M m40A (m40c [true, false, true, true, true, true, true, false, true, true, true, false, true]) fun s => evC (m40E k) M (m40I k) 0 m40A (m40c [true, false, true, true, true, true, true, false, true, true, true, false, true]) s (m40K8 M k L5)) (m40K8 M k L5)
noncomputable def m40K12 (M : Cut Int) (k : Nat) : Exit → St → Option Int := seqK (normAt 0 m40A false (m40c [true, true, true])) (cutK M m40A (m40c [true, true, true]) fun s => evC (m40E k) M (m40I k) 0 m40A (m40c [true, true, true]) s (retK Try.prog Try.f40 [.leaf (.val (.int .i64))])) (retK Try.prog Try.f40 [.leaf (.val (.int .i64))])
noncomputable def m40S5 (t0 : List Int) (t7 : Int) (t8 : Int) : St := { n := 19, tm := slots [(0, .row (.int .i64) t0), (1, .fn (.func 37) []), (7, .int .i64 t7), (8, .int .i64 t8)], tab := blks [], nx := 0 }

noncomputable def m40X (X5 : List Int → Int → Int → Option Int) (k : Nat) (p0 : (List Int)) (p1 : Unit) : Option Int := X5 p0 ((↑(List.length p0) : Int)) (0)

theorem m40x (M : Cut Int) (k : Nat) (p0 : (List Int)) (p1 : Unit) : evC (m40E k) M (m40I k) 0 m40A (m40c []) (stAt Try.f40 (argSs [.leaf (.val (.row (.int .i64))), .fn 37 []] (p0, p1)) (fun _ => none) 0) (retK Try.prog Try.f40 [.leaf (.val (.int .i64))]) = m40X (fun t0' t7' t8' => loopN (normAt 0 m40A true (m40c [true, false, true, true, true])) (fun K s => evC (m40E k) M (m40I k) 0 m40A (m40c [true, false, true, true, true]) s K) (m40K3 M k) k (m40S5 t0' t7' t8')) k p0 p1 := by kernel_rfl

noncomputable def m40X5 (L5 : List Int → Int → Int → Option Int) (k : Nat) (t0 : List Int) (t7 : Int) (t8 : Int) : Option Int := (if ltI t8 t7 = true then (if leI 0 t8 = true then (if ltI t8 (↑(List.length t0) : Int) = true then (Option.bind (m37F k (List.getD t0 (Int.toNat t8) 0)) fun (c6 : Bool) => (if c6 = true then some t8 else L5 t0 t7 (wr IntKind.i64 (t8 + 1)))) else none) else none) else some (-1))

theorem m40x5 (M : Cut Int) (k : Nat) (L5 : St → Option Int) (t0 : List Int) (t7 : Int) (t8 : Int) : evC (m40E k) M (m40I k) 0 m40A (m40c [true, false, true, true, true]) (m40S5 t0 t7 t8) (seqK (normAt 0 m40A true (m40c [true, false, true, true, true])) L5 (m40K3 M k)) = m40X5 (fun t0' t7' t8' => L5 (m40S5 t0' t7' t8')) k t0 t7 t8 := by kernel_rfl

noncomputable def m40F5 (k : Nat) : Nat → List Int → Int → Int → Option Int
  | 0, _, _, _ => none
  | j + 1, t0, t7, t8 => m40X5 (m40F5 k j) k t0 t7 t8

theorem m40q5 (k : Nat) : ∀ (j : Nat) (t0 : List Int) (t7 : Int) (t8 : Int), loopN (normAt 0 m40A true (m40c [true, false, true, true, true])) (fun K s => evC (m40E k) (fun _ f => f) (m40I k) 0 m40A (m40c [true, false, true, true, true]) s K) (m40K3 (fun _ f => f) k) j (m40S5 t0 t7 t8) = m40F5 k j t0 t7 t8
  | 0, _, _, _ => rfl
  | j + 1, t0, t7, t8 => by
    have e0 : m40F5 k j = (fun t0' t7' t8' => loopN (normAt 0 m40A true (m40c [true, false, true, true, true])) (fun K s => evC (m40E k) (fun _ f => f) (m40I k) 0 m40A (m40c [true, false, true, true, true]) s K) (m40K3 (fun _ f => f) k) j (m40S5 t0' t7' t8')) := funext fun t0' => funext fun t7' => funext fun t8' => (m40q5 k j t0' t7' t8').symm
    show _ = m40X5 (m40F5 k j) k t0 t7 t8
    rw [e0]
    exact m40x5 (fun _ f => f) k (loopN (normAt 0 m40A true (m40c [true, false, true, true, true])) (fun K s => evC (m40E k) (fun _ f => f) (m40I k) 0 m40A (m40c [true, false, true, true, true]) s K) (m40K3 (fun _ f => f) k) j) t0 t7 t8

noncomputable def m40F (k : Nat) (p0 : (List Int)) (p1 : Unit) : Option Int := m40X (m40F5 k k) k p0 p1

theorem m40q (k : Nat) (p0 : (List Int)) (p1 : Unit) : evC (m40E k) (fun _ f => f) (m40I k) 0 m40A (m40c []) (stAt Try.f40 (argSs [.leaf (.val (.row (.int .i64))), .fn 37 []] (p0, p1)) (fun _ => none) 0) (retK Try.prog Try.f40 [.leaf (.val (.int .i64))]) = m40F k p0 p1 := by
    have e5 : m40F5 k k = (fun t0' t7' t8' => loopN (normAt 0 m40A true (m40c [true, false, true, true, true])) (fun K s => evC (m40E k) (fun _ f => f) (m40I k) 0 m40A (m40c [true, false, true, true, true]) s K) (m40K3 (fun _ f => f) k) k (m40S5 t0' t7' t8')) := funext fun t0' => funext fun t7' => funext fun t8' => (m40q5 k k t0' t7' t8').symm
    show _ = m40X (m40F5 k k) k p0 p1
    rw [e5]
    exact m40x (fun _ f => f) k p0 p1

noncomputable def m40sp : Spec := { ps := [.leaf (.val (.row (.int .i64))), .fn 37 []], rs := [.leaf (.val (.int .i64))], f := fun k a => m40F k a.1 a.2 }

theorem m40ok (k : Nat) : EnvOk (m40E k) := envOk_of (l := [(37, m37sp)]) (lB := []) progNames progMixed rfl rfl (.cons ⟨m37con k, Try.f37, by kernel_rfl, by kernel_rfl⟩ (.nil)) (.nil)

theorem m40con (k : Nat) : Contract Try.prog k 40 m40sp := contract_of (E := m40E k) (m40ok k) (A := only 40 m40A) (d := 3) (c := m40c []) (by kernel_rfl) (by kernel_rfl) fun a _ h => (m40q k a.1 a.2).trans h

noncomputable def m36A : Anns := tabA []
noncomputable def m36E (k : Nat) : Env := { P := Try.prog, k := k, G := tabG [(37, m37sp), (40, m40sp)], GB := tabGB [] }
noncomputable def m36c (p : List Bool) : Code := sub p (bodyOf Try.f36)
noncomputable def m36I (k : Nat) : Inl Bool := inlOf (m36E k) (only 36 m36A) 3
noncomputable def m36K0 (M : Cut Bool) (k : Nat) : Exit → St → Option Bool := seqK (normAt 0 m36A false (m36c [true])) (cutK M m36A (m36c [true]) fun s => evC (m36E k) M (m36I k) 0 m36A (m36c [true]) s (retK Try.prog Try.f36 [.leaf (.val .bool)])) (retK Try.prog Try.f36 [.leaf (.val .bool)])
noncomputable def m36K1 (M : Cut Bool) (k : Nat) : Exit → St → Option Bool := seqK (normAt 0 m36A false (m36c [true, true])) (cutK M m36A (m36c [true, true]) fun s => evC (m36E k) M (m36I k) 0 m36A (m36c [true, true]) s (retK Try.prog Try.f36 [.leaf (.val .bool)])) (retK Try.prog Try.f36 [.leaf (.val .bool)])

noncomputable def m36X (k : Nat) (p0 : (List Int)) (p1 : Unit) : Option Bool := (Option.bind (m40F k p0 PUnit.unit) fun (c4 : Int) => some (leI 0 c4))

theorem m36x (M : Cut Bool) (k : Nat) (p0 : (List Int)) (p1 : Unit) : evC (m36E k) M (m36I k) 0 m36A (m36c []) (stAt Try.f36 (argSs [.leaf (.val (.row (.int .i64))), .fn 37 []] (p0, p1)) (fun _ => none) 0) (retK Try.prog Try.f36 [.leaf (.val .bool)]) = m36X k p0 p1 := by kernel_rfl

noncomputable def m36F (k : Nat) (p0 : (List Int)) (p1 : Unit) : Option Bool := m36X k p0 p1

theorem m36q (k : Nat) (p0 : (List Int)) (p1 : Unit) : evC (m36E k) (fun _ f => f) (m36I k) 0 m36A (m36c []) (stAt Try.f36 (argSs [.leaf (.val (.row (.int .i64))), .fn 37 []] (p0, p1)) (fun _ => none) 0) (retK Try.prog Try.f36 [.leaf (.val .bool)]) = m36F k p0 p1 := by
    show _ = m36X k p0 p1
    exact m36x (fun _ f => f) k p0 p1

noncomputable def m36sp : Spec := { ps := [.leaf (.val (.row (.int .i64))), .fn 37 []], rs := [.leaf (.val .bool)], f := fun k a => m36F k a.1 a.2 }

theorem m36ok (k : Nat) : EnvOk (m36E k) := envOk_of (l := [(37, m37sp), (40, m40sp)]) (lB := []) progNames progMixed rfl rfl (.cons ⟨m37con k, Try.f37, by kernel_rfl, by kernel_rfl⟩ (.cons ⟨m40con k, Try.f40, by kernel_rfl, by kernel_rfl⟩ (.nil))) (.nil)

theorem m36con (k : Nat) : Contract Try.prog k 36 m36sp := contract_of (E := m36E k) (m36ok k) (A := only 36 m36A) (d := 3) (c := m36c []) (by kernel_rfl) (by kernel_rfl) fun a _ h => (m36q k a.1 a.2).trans h

noncomputable def m33A : Anns := tabA [(5, { keep := [0, 7, 8, 9] }), (14, { keep := [0] }), (17, { keep := [17, 18, 19] })]
noncomputable def m33E (k : Nat) : Env := { P := Try.prog, k := k, G := tabG [(36, m36sp), (37, m37sp)], GB := tabGB [] }
noncomputable def m33c (p : List Bool) : Code := sub p (bodyOf Try.f33)
noncomputable def m33I (k : Nat) : Inl Int := inlOf (m33E k) (only 33 m33A) 3
noncomputable def m33K0 (M : Cut Int) (k : Nat) : Exit → St → Option Int := seqK (normAt 0 m33A false (m33c [true])) (cutK M m33A (m33c [true]) fun s => evC (m33E k) M (m33I k) 0 m33A (m33c [true]) s (retK Try.prog Try.f33 [.leaf (.val (.int .i64))])) (retK Try.prog Try.f33 [.leaf (.val (.int .i64))])
noncomputable def m33K1 (M : Cut Int) (k : Nat) : Exit → St → Option Int := seqK (normAt 0 m33A false (m33c [true, true])) (cutK M m33A (m33c [true, true]) fun s => evC (m33E k) M (m33I k) 0 m33A (m33c [true, true]) s (retK Try.prog Try.f33 [.leaf (.val (.int .i64))])) (retK Try.prog Try.f33 [.leaf (.val (.int .i64))])
noncomputable def m33K2 (M : Cut Int) (k : Nat) : Exit → St → Option Int := seqK (normAt 0 m33A false (m33c [true, false, true])) (cutK M m33A (m33c [true, false, true]) fun s => evC (m33E k) M (m33I k) 0 m33A (m33c [true, false, true]) s (m33K1 M k)) (m33K1 M k)
noncomputable def m33K3 (M : Cut Int) (k : Nat) : Exit → St → Option Int := blockK 0 (m33K1 M k)
noncomputable def m33K4 (M : Cut Int) (k : Nat) (L5 : St → Option Int) : Exit → St → Option Int := seqK (normAt 0 m33A true (m33c [true, false, true, true, true])) L5 (m33K3 M k)
noncomputable def m33K5 (M : Cut Int) (k : Nat) (L5 : St → Option Int) : Exit → St → Option Int := seqK (normAt 0 m33A false (m33c [true, false, true, true, true, true])) (cutK M m33A (m33c [true, false, true, true, true, true]) fun s => evC (m33E k) M (m33I k) 0 m33A (m33c [true, false, true, true, true, true]) s (m33K4 M k L5)) (m33K4 M k L5)
noncomputable def m33K6 (M : Cut Int) (k : Nat) (L5 : St → Option Int) : Exit → St → Option Int := seqK (normAt 0 m33A false (m33c [true, false, true, true, true, true, true])) (cutK M m33A (m33c [true, false, true, true, true, true, true]) fun s => evC (m33E k) M (m33I k) 0 m33A (m33c [true, false, true, true, true, true, true]) s (m33K4 M k L5)) (m33K4 M k L5)
noncomputable def m33K7 (M : Cut Int) (k : Nat) (L5 : St → Option Int) : Exit → St → Option Int := seqK (normAt 0 m33A false (m33c [true, false, true, true, true, true, true, true])) (cutK M m33A (m33c [true, false, true, true, true, true, true, true]) fun s => evC (m33E k) M (m33I k) 0 m33A (m33c [true, false, true, true, true, true, true, true]) s (m33K4 M k L5)) (m33K4 M k L5)
noncomputable def m33K8 (M : Cut Int) (k : Nat) (L5 : St → Option Int) : Exit → St → Option Int := blockK 1 (m33K7 M k L5)
noncomputable def m33K9 (M : Cut Int) (k : Nat) (L5 : St → Option Int) : Exit → St → Option Int := seqK (normAt 0 m33A false (m33c [true, false, true, true, true, true, true, false, true, true])) (cutK M m33A (m33c [true, false, true, true, true, true, true, false, true, true]) fun s => evC (m33E k) M (m33I k) 0 m33A (m33c [true, false, true, true, true, true, true, false, true, true]) s (m33K8 M k L5)) (m33K8 M k L5)
noncomputable def m33K10 (M : Cut Int) (k : Nat) (L5 : St → Option Int) : Exit → St → Option Int := seqK (normAt 0 m33A false (m33c [true, false, true, true, true, true, true, false, true, true, true])) (cutK M m33A (m33c [true, false, true, true, true, true, true, false, true, true, true]) fun s => evC (m33E k) M (m33I k) 0 m33A (m33c [true, false, true, true, true, true, true, false, true, true, true]) s (m33K8 M k L5)) (m33K8 M k L5)
noncomputable def m33K11 (M : Cut Int) (k : Nat) (L5 : St → Option Int) : Exit → St → Option Int := seqK (normAt 0 m33A false (m33c [true, false, true, true, true, true, true, false, true, true, true, false, true])) (cutK M m33A (m33c [true, false, true, true, true, true, true, false, true, true, true, false, true]) fun s => evC (m33E k) M (m33I k) 0 m33A (m33c [true, false, true, true, true, true, true, false, true, true, true, false, true]) s (m33K8 M k L5)) (m33K8 M k L5)
noncomputable def m33K12 (M : Cut Int) (k : Nat) : Exit → St → Option Int := seqK (normAt 0 m33A false (m33c [true, true, true])) (cutK M m33A (m33c [true, true, true]) fun s => evC (m33E k) M (m33I k) 0 m33A (m33c [true, true, true]) s (retK Try.prog Try.f33 [.leaf (.val (.int .i64))])) (retK Try.prog Try.f33 [.leaf (.val (.int .i64))])
noncomputable def m33K13 (M : Cut Int) (k : Nat) : Exit → St → Option Int := seqK (normAt 0 m33A false (m33c [true, true, false, true])) (cutK M m33A (m33c [true, true, false, true]) fun s => evC (m33E k) M (m33I k) 0 m33A (m33c [true, true, false, true]) s (m33K12 M k)) (m33K12 M k)
noncomputable def m33K14 (M : Cut Int) (k : Nat) : Exit → St → Option Int := blockK 2 (m33K12 M k)
noncomputable def m33K15 (M : Cut Int) (k : Nat) (L17 : St → Option Int) : Exit → St → Option Int := seqK (normAt 0 m33A true (m33c [true, true, false, true, true, true])) L17 (m33K14 M k)
noncomputable def m33K16 (M : Cut Int) (k : Nat) (L17 : St → Option Int) : Exit → St → Option Int := seqK (normAt 0 m33A false (m33c [true, true, false, true, true, true, true])) (cutK M m33A (m33c [true, true, false, true, true, true, true]) fun s => evC (m33E k) M (m33I k) 0 m33A (m33c [true, true, false, true, true, true, true]) s (m33K15 M k L17)) (m33K15 M k L17)
noncomputable def m33K17 (M : Cut Int) (k : Nat) (L17 : St → Option Int) : Exit → St → Option Int := seqK (normAt 0 m33A false (m33c [true, true, false, true, true, true, true, true])) (cutK M m33A (m33c [true, true, false, true, true, true, true, true]) fun s => evC (m33E k) M (m33I k) 0 m33A (m33c [true, true, false, true, true, true, true, true]) s (m33K15 M k L17)) (m33K15 M k L17)
noncomputable def m33K18 (M : Cut Int) (k : Nat) (L17 : St → Option Int) : Exit → St → Option Int := seqK (normAt 0 m33A false (m33c [true, true, false, true, true, true, true, true, true])) (cutK M m33A (m33c [true, true, false, true, true, true, true, true, true]) fun s => evC (m33E k) M (m33I k) 0 m33A (m33c [true, true, false, true, true, true, true, true, true]) s (m33K15 M k L17)) (m33K15 M k L17)
noncomputable def m33K19 (M : Cut Int) (k : Nat) (L17 : St → Option Int) : Exit → St → Option Int := blockK 3 (m33K18 M k L17)
noncomputable def m33K20 (M : Cut Int) (k : Nat) (L17 : St → Option Int) : Exit → St → Option Int := seqK (normAt 0 m33A false (m33c [true, true, false, true, true, true, true, true, false, true, true])) (cutK M m33A (m33c [true, true, false, true, true, true, true, true, false, true, true]) fun s => evC (m33E k) M (m33I k) 0 m33A (m33c [true, true, false, true, true, true, true, true, false, true, true]) s (m33K19 M k L17)) (m33K19 M k L17)
noncomputable def m33K21 (M : Cut Int) (k : Nat) (L17 : St → Option Int) : Exit → St → Option Int := seqK (normAt 0 m33A false (m33c [true, true, false, true, true, true, true, true, false, true, true, true])) (cutK M m33A (m33c [true, true, false, true, true, true, true, true, false, true, true, true]) fun s => evC (m33E k) M (m33I k) 0 m33A (m33c [true, true, false, true, true, true, true, true, false, true, true, true]) s (m33K19 M k L17)) (m33K19 M k L17)
noncomputable def m33K22 (M : Cut Int) (k : Nat) (L17 : St → Option Int) : Exit → St → Option Int := seqK (normAt 0 m33A false (m33c [true, true, false, true, true, true, true, true, false, true, true, true, false, true])) (cutK M m33A (m33c [true, true, false, true, true, true, true, true, false, true, true, true, false, true]) fun s => evC (m33E k) M (m33I k) 0 m33A (m33c [true, true, false, true, true, true, true, true, false, true, true, true, false, true]) s (m33K19 M k L17)) (m33K19 M k L17)
noncomputable def m33K23 (M : Cut Int) (k : Nat) : Exit → St → Option Int := seqK (normAt 0 m33A false (m33c [true, true, true, true])) (cutK M m33A (m33c [true, true, true, true]) fun s => evC (m33E k) M (m33I k) 0 m33A (m33c [true, true, true, true]) s (retK Try.prog Try.f33 [.leaf (.val (.int .i64))])) (retK Try.prog Try.f33 [.leaf (.val (.int .i64))])
noncomputable def m33S5 (t0 : List (List Int)) (t7 : List (List Int)) (t8 : Int) (t9 : Int) : St := { n := 26, tm := slots [(0, .row (.row (.int .i64)) t0), (7, .row (.row (.int .i64)) t7), (8, .int .i64 t8), (9, .int .i64 t9)], tab := blks [], nx := 0 }
noncomputable def m33S14 (t0 : List (List Int)) : St := { n := 26, tm := slots [(0, .row (.row (.int .i64)) t0)], tab := blks [], nx := 0 }
noncomputable def m33S17 (t17 : List (List Int)) (t18 : Int) (t19 : Int) : St := { n := 26, tm := slots [(17, .row (.row (.int .i64)) t17), (18, .int .i64 t18), (19, .int .i64 t19)], tab := blks [], nx := 0 }

noncomputable def m33X (X5 : List (List Int) → List (List Int) → Int → Int → Option Int) (k : Nat) (p0 : (List (List Int))) : Option Int := X5 p0 p0 ((↑(List.length p0) : Int)) (0)

theorem m33x (M : Cut Int) (k : Nat) (p0 : (List (List Int))) : evC (m33E k) M (m33I k) 0 m33A (m33c []) (stAt Try.f33 (argSs [.leaf (.val (.row (.row (.int .i64))))] p0) (fun _ => none) 0) (retK Try.prog Try.f33 [.leaf (.val (.int .i64))]) = m33X (fun t0' t7' t8' t9' => loopN (normAt 0 m33A true (m33c [true, false, true, true, true])) (fun K s => evC (m33E k) M (m33I k) 0 m33A (m33c [true, false, true, true, true]) s K) (m33K3 M k) k (m33S5 t0' t7' t8' t9')) k p0 := by kernel_rfl

noncomputable def m33X5 (X14 : List (List Int) → Option Int) (L5 : List (List Int) → List (List Int) → Int → Int → Option Int) (k : Nat) (t0 : List (List Int)) (t7 : List (List Int)) (t8 : Int) (t9 : Int) : Option Int := (if ltI t9 t8 = true then (if leI 0 t9 = true then (if ltI t9 (↑(List.length t7) : Int) = true then (if ltI 32768 (↑(List.length (List.getD t7 (Int.toNat t9) [])) : Int) = true then some (2) else L5 t0 t7 t8 (wr IntKind.i64 (t9 + 1))) else none) else none) else X14 t0)

theorem m33x5 (M : Cut Int) (k : Nat) (L5 : St → Option Int) (t0 : List (List Int)) (t7 : List (List Int)) (t8 : Int) (t9 : Int) : evC (m33E k) M (m33I k) 0 m33A (m33c [true, false, true, true, true]) (m33S5 t0 t7 t8 t9) (seqK (normAt 0 m33A true (m33c [true, false, true, true, true])) L5 (m33K3 M k)) = m33X5 (fun t0' => M 14 (fun s => evC (m33E k) M (m33I k) 0 m33A (m33c [true, true]) s (retK Try.prog Try.f33 [.leaf (.val (.int .i64))])) (m33S14 t0')) (fun t0' t7' t8' t9' => L5 (m33S5 t0' t7' t8' t9')) k t0 t7 t8 t9 := by kernel_rfl

noncomputable def m33X14 (X17 : List (List Int) → Int → Int → Option Int) (k : Nat) (t0 : List (List Int)) : Option Int := X17 t0 ((↑(List.length t0) : Int)) (0)

theorem m33x14 (M : Cut Int) (k : Nat) (t0 : List (List Int)) : evC (m33E k) M (m33I k) 0 m33A (m33c [true, true]) (m33S14 t0) (retK Try.prog Try.f33 [.leaf (.val (.int .i64))]) = m33X14 (fun t17' t18' t19' => loopN (normAt 0 m33A true (m33c [true, true, false, true, true, true])) (fun K s => evC (m33E k) M (m33I k) 0 m33A (m33c [true, true, false, true, true, true]) s K) (m33K14 M k) k (m33S17 t17' t18' t19')) k t0 := by kernel_rfl

noncomputable def m33X17 (L17 : List (List Int) → Int → Int → Option Int) (k : Nat) (t17 : List (List Int)) (t18 : Int) (t19 : Int) : Option Int := (if ltI t19 t18 = true then (if leI 0 t19 = true then (if ltI t19 (↑(List.length t17) : Int) = true then (Option.bind (m36F k (List.getD t17 (Int.toNat t19) []) PUnit.unit) fun (c6 : Bool) => (if c6 = true then some (1) else L17 t17 t18 (wr IntKind.i64 (t19 + 1)))) else none) else none) else some (0))

theorem m33x17 (M : Cut Int) (k : Nat) (L17 : St → Option Int) (t17 : List (List Int)) (t18 : Int) (t19 : Int) : evC (m33E k) M (m33I k) 0 m33A (m33c [true, true, false, true, true, true]) (m33S17 t17 t18 t19) (seqK (normAt 0 m33A true (m33c [true, true, false, true, true, true])) L17 (m33K14 M k)) = m33X17 (fun t17' t18' t19' => L17 (m33S17 t17' t18' t19')) k t17 t18 t19 := by kernel_rfl

noncomputable def m33F17 (k : Nat) : Nat → List (List Int) → Int → Int → Option Int
  | 0, _, _, _ => none
  | j + 1, t17, t18, t19 => m33X17 (m33F17 k j) k t17 t18 t19

theorem m33q17 (k : Nat) : ∀ (j : Nat) (t17 : List (List Int)) (t18 : Int) (t19 : Int), loopN (normAt 0 m33A true (m33c [true, true, false, true, true, true])) (fun K s => evC (m33E k) (fun _ f => f) (m33I k) 0 m33A (m33c [true, true, false, true, true, true]) s K) (m33K14 (fun _ f => f) k) j (m33S17 t17 t18 t19) = m33F17 k j t17 t18 t19
  | 0, _, _, _ => rfl
  | j + 1, t17, t18, t19 => by
    have e0 : m33F17 k j = (fun t17' t18' t19' => loopN (normAt 0 m33A true (m33c [true, true, false, true, true, true])) (fun K s => evC (m33E k) (fun _ f => f) (m33I k) 0 m33A (m33c [true, true, false, true, true, true]) s K) (m33K14 (fun _ f => f) k) j (m33S17 t17' t18' t19')) := funext fun t17' => funext fun t18' => funext fun t19' => (m33q17 k j t17' t18' t19').symm
    show _ = m33X17 (m33F17 k j) k t17 t18 t19
    rw [e0]
    exact m33x17 (fun _ f => f) k (loopN (normAt 0 m33A true (m33c [true, true, false, true, true, true])) (fun K s => evC (m33E k) (fun _ f => f) (m33I k) 0 m33A (m33c [true, true, false, true, true, true]) s K) (m33K14 (fun _ f => f) k) j) t17 t18 t19

noncomputable def m33F14 (k : Nat) (t0 : List (List Int)) : Option Int := m33X14 (m33F17 k k) k t0

theorem m33q14 (k : Nat) (t0 : List (List Int)) : evC (m33E k) (fun _ f => f) (m33I k) 0 m33A (m33c [true, true]) (m33S14 t0) (retK Try.prog Try.f33 [.leaf (.val (.int .i64))]) = m33F14 k t0 := by
    have e17 : m33F17 k k = (fun t17' t18' t19' => loopN (normAt 0 m33A true (m33c [true, true, false, true, true, true])) (fun K s => evC (m33E k) (fun _ f => f) (m33I k) 0 m33A (m33c [true, true, false, true, true, true]) s K) (m33K14 (fun _ f => f) k) k (m33S17 t17' t18' t19')) := funext fun t17' => funext fun t18' => funext fun t19' => (m33q17 k k t17' t18' t19').symm
    show _ = m33X14 (m33F17 k k) k t0
    rw [e17]
    exact m33x14 (fun _ f => f) k t0

noncomputable def m33F5 (k : Nat) : Nat → List (List Int) → List (List Int) → Int → Int → Option Int
  | 0, _, _, _, _ => none
  | j + 1, t0, t7, t8, t9 => m33X5 (m33F14 k) (m33F5 k j) k t0 t7 t8 t9

theorem m33q5 (k : Nat) : ∀ (j : Nat) (t0 : List (List Int)) (t7 : List (List Int)) (t8 : Int) (t9 : Int), loopN (normAt 0 m33A true (m33c [true, false, true, true, true])) (fun K s => evC (m33E k) (fun _ f => f) (m33I k) 0 m33A (m33c [true, false, true, true, true]) s K) (m33K3 (fun _ f => f) k) j (m33S5 t0 t7 t8 t9) = m33F5 k j t0 t7 t8 t9
  | 0, _, _, _, _ => rfl
  | j + 1, t0, t7, t8, t9 => by
    have e0 : m33F5 k j = (fun t0' t7' t8' t9' => loopN (normAt 0 m33A true (m33c [true, false, true, true, true])) (fun K s => evC (m33E k) (fun _ f => f) (m33I k) 0 m33A (m33c [true, false, true, true, true]) s K) (m33K3 (fun _ f => f) k) j (m33S5 t0' t7' t8' t9')) := funext fun t0' => funext fun t7' => funext fun t8' => funext fun t9' => (m33q5 k j t0' t7' t8' t9').symm
    have e14 : m33F14 k = (fun t0' => evC (m33E k) (fun _ f => f) (m33I k) 0 m33A (m33c [true, true]) (m33S14 t0') (retK Try.prog Try.f33 [.leaf (.val (.int .i64))])) := funext fun t0' => (m33q14 k t0').symm
    show _ = m33X5 (m33F14 k) (m33F5 k j) k t0 t7 t8 t9
    rw [e0, e14]
    exact m33x5 (fun _ f => f) k (loopN (normAt 0 m33A true (m33c [true, false, true, true, true])) (fun K s => evC (m33E k) (fun _ f => f) (m33I k) 0 m33A (m33c [true, false, true, true, true]) s K) (m33K3 (fun _ f => f) k) j) t0 t7 t8 t9

noncomputable def m33F (k : Nat) (p0 : (List (List Int))) : Option Int := m33X (m33F5 k k) k p0

theorem m33q (k : Nat) (p0 : (List (List Int))) : evC (m33E k) (fun _ f => f) (m33I k) 0 m33A (m33c []) (stAt Try.f33 (argSs [.leaf (.val (.row (.row (.int .i64))))] p0) (fun _ => none) 0) (retK Try.prog Try.f33 [.leaf (.val (.int .i64))]) = m33F k p0 := by
    have e5 : m33F5 k k = (fun t0' t7' t8' t9' => loopN (normAt 0 m33A true (m33c [true, false, true, true, true])) (fun K s => evC (m33E k) (fun _ f => f) (m33I k) 0 m33A (m33c [true, false, true, true, true]) s K) (m33K3 (fun _ f => f) k) k (m33S5 t0' t7' t8' t9')) := funext fun t0' => funext fun t7' => funext fun t8' => funext fun t9' => (m33q5 k k t0' t7' t8' t9').symm
    show _ = m33X (m33F5 k k) k p0
    rw [e5]
    exact m33x (fun _ f => f) k p0

noncomputable def m33sp : Spec := { ps := [.leaf (.val (.row (.row (.int .i64))))], rs := [.leaf (.val (.int .i64))], f := fun k a => m33F k a }

theorem m33ok (k : Nat) : EnvOk (m33E k) := envOk_of (l := [(36, m36sp), (37, m37sp)]) (lB := []) progNames progMixed rfl rfl (.cons ⟨m36con k, Try.f36, by kernel_rfl, by kernel_rfl⟩ (.cons ⟨m37con k, Try.f37, by kernel_rfl, by kernel_rfl⟩ (.nil))) (.nil)

theorem m33con (k : Nat) : Contract Try.prog k 33 m33sp := contract_of (E := m33E k) (m33ok k) (A := only 33 m33A) (d := 3) (c := m33c []) (by kernel_rfl) (by kernel_rfl) fun a _ h => (m33q k a).trans h

noncomputable def m38A : Anns := tabA [(5, { keep := [0, 1, 7, 8] })]
noncomputable def m38E (k : Nat) : Env := { P := Try.prog, k := k, G := tabG [], GB := tabGB [] }
noncomputable def m38c (p : List Bool) : Code := sub p (bodyOf Try.f38)
noncomputable def m38I (k : Nat) : Inl Int := inlOf (m38E k) (only 38 m38A) 3
noncomputable def m38K0 (M : Cut Int) (k : Nat) : Exit → St → Option Int := seqK (normAt 0 m38A false (m38c [true])) (cutK M m38A (m38c [true]) fun s => evC (m38E k) M (m38I k) 0 m38A (m38c [true]) s (retK Try.prog Try.f38 [.leaf (.val (.int .i64))])) (retK Try.prog Try.f38 [.leaf (.val (.int .i64))])
noncomputable def m38K1 (M : Cut Int) (k : Nat) : Exit → St → Option Int := seqK (normAt 0 m38A false (m38c [true, true])) (cutK M m38A (m38c [true, true]) fun s => evC (m38E k) M (m38I k) 0 m38A (m38c [true, true]) s (retK Try.prog Try.f38 [.leaf (.val (.int .i64))])) (retK Try.prog Try.f38 [.leaf (.val (.int .i64))])
noncomputable def m38K2 (M : Cut Int) (k : Nat) : Exit → St → Option Int := seqK (normAt 0 m38A false (m38c [true, false, true])) (cutK M m38A (m38c [true, false, true]) fun s => evC (m38E k) M (m38I k) 0 m38A (m38c [true, false, true]) s (m38K1 M k)) (m38K1 M k)
noncomputable def m38K3 (M : Cut Int) (k : Nat) : Exit → St → Option Int := blockK 0 (m38K1 M k)
noncomputable def m38K4 (M : Cut Int) (k : Nat) (L5 : St → Option Int) : Exit → St → Option Int := seqK (normAt 0 m38A true (m38c [true, false, true, true, true])) L5 (m38K3 M k)
noncomputable def m38K5 (M : Cut Int) (k : Nat) (L5 : St → Option Int) : Exit → St → Option Int := seqK (normAt 0 m38A false (m38c [true, false, true, true, true, true])) (cutK M m38A (m38c [true, false, true, true, true, true]) fun s => evC (m38E k) M (m38I k) 0 m38A (m38c [true, false, true, true, true, true]) s (m38K4 M k L5)) (m38K4 M k L5)
noncomputable def m38K6 (M : Cut Int) (k : Nat) (L5 : St → Option Int) : Exit → St → Option Int := seqK (normAt 0 m38A false (m38c [true, false, true, true, true, true, true])) (cutK M m38A (m38c [true, false, true, true, true, true, true]) fun s => evC (m38E k) M (m38I k) 0 m38A (m38c [true, false, true, true, true, true, true]) s (m38K4 M k L5)) (m38K4 M k L5)
noncomputable def m38K7 (M : Cut Int) (k : Nat) (L5 : St → Option Int) : Exit → St → Option Int := seqK (normAt 0 m38A false (m38c [true, false, true, true, true, true, true, true])) (cutK M m38A (m38c [true, false, true, true, true, true, true, true]) fun s => evC (m38E k) M (m38I k) 0 m38A (m38c [true, false, true, true, true, true, true, true]) s (m38K4 M k L5)) (m38K4 M k L5)
noncomputable def m38K8 (M : Cut Int) (k : Nat) (L5 : St → Option Int) : Exit → St → Option Int := blockK 1 (m38K7 M k L5)
noncomputable def m38K9 (M : Cut Int) (k : Nat) (L5 : St → Option Int) : Exit → St → Option Int := seqK (normAt 0 m38A false (m38c [true, false, true, true, true, true, true, false, true, true])) (cutK M m38A (m38c [true, false, true, true, true, true, true, false, true, true]) fun s => evC (m38E k) M (m38I k) 0 m38A (m38c [true, false, true, true, true, true, true, false, true, true]) s (m38K8 M k L5)) (m38K8 M k L5)
noncomputable def m38K10 (M : Cut Int) (k : Nat) (L5 : St → Option Int) : Exit → St → Option Int := seqK (normAt 0 m38A false (m38c [true, false, true, true, true, true, true, false, true, true, true])) (cutK M m38A (m38c [true, false, true, true, true, true, true, false, true, true, true]) fun s => evC (m38E k) M (m38I k) 0 m38A (m38c [true, false, true, true, true, true, true, false, true, true, true]) s (m38K8 M k L5)) (m38K8 M k L5)
noncomputable def m38K11 (M : Cut Int) (k : Nat) (L5 : St → Option Int) : Exit → St → Option Int := seqK (normAt 0 m38A false (m38c [true, false, true, true, true, true, true, false, true, true, true, false, true])) (cutK M m38A (m38c [true, false, true, true, true, true, true, false, true, true, true, false, true]) fun s => evC (m38E k) M (m38I k) 0 m38A (m38c [true, false, true, true, true, true, true, false, true, true, true, false, true]) s (m38K8 M k L5)) (m38K8 M k L5)
noncomputable def m38K12 (M : Cut Int) (k : Nat) : Exit → St → Option Int := seqK (normAt 0 m38A false (m38c [true, true, true])) (cutK M m38A (m38c [true, true, true]) fun s => evC (m38E k) M (m38I k) 0 m38A (m38c [true, true, true]) s (retK Try.prog Try.f38 [.leaf (.val (.int .i64))])) (retK Try.prog Try.f38 [.leaf (.val (.int .i64))])
noncomputable def m38S5 (t0 : List Int) (t1 : Int) (t7 : Int) (t8 : Int) : St := { n := 19, tm := slots [(0, .row (.int .i64) t0), (1, .int .i64 t1), (7, .int .i64 t7), (8, .int .i64 t8)], tab := blks [], nx := 0 }

noncomputable def m38X (X5 : List Int → Int → Int → Int → Option Int) (k : Nat) (p0 : (List Int)) (p1 : Int) : Option Int := X5 p0 p1 ((↑(List.length p0) : Int)) (0)

theorem m38x (M : Cut Int) (k : Nat) (p0 : (List Int)) (p1 : Int) : evC (m38E k) M (m38I k) 0 m38A (m38c []) (stAt Try.f38 (argSs [.leaf (.val (.row (.int .i64))), .leaf (.val (.int .i64))] (p0, p1)) (fun _ => none) 0) (retK Try.prog Try.f38 [.leaf (.val (.int .i64))]) = m38X (fun t0' t1' t7' t8' => loopN (normAt 0 m38A true (m38c [true, false, true, true, true])) (fun K s => evC (m38E k) M (m38I k) 0 m38A (m38c [true, false, true, true, true]) s K) (m38K3 M k) k (m38S5 t0' t1' t7' t8')) k p0 p1 := by kernel_rfl

noncomputable def m38X5 (L5 : List Int → Int → Int → Int → Option Int) (k : Nat) (t0 : List Int) (t1 : Int) (t7 : Int) (t8 : Int) : Option Int := (if ltI t8 t7 = true then (if leI 0 t8 = true then (if ltI t8 (↑(List.length t0) : Int) = true then (if eqI t1 (List.getD t0 (Int.toNat t8) 0) = true then some t8 else L5 t0 t1 t7 (wr IntKind.i64 (t8 + 1))) else none) else none) else some (-1))

theorem m38x5 (M : Cut Int) (k : Nat) (L5 : St → Option Int) (t0 : List Int) (t1 : Int) (t7 : Int) (t8 : Int) : evC (m38E k) M (m38I k) 0 m38A (m38c [true, false, true, true, true]) (m38S5 t0 t1 t7 t8) (seqK (normAt 0 m38A true (m38c [true, false, true, true, true])) L5 (m38K3 M k)) = m38X5 (fun t0' t1' t7' t8' => L5 (m38S5 t0' t1' t7' t8')) k t0 t1 t7 t8 := by kernel_rfl

noncomputable def m38F5 (k : Nat) : Nat → List Int → Int → Int → Int → Option Int
  | 0, _, _, _, _ => none
  | j + 1, t0, t1, t7, t8 => m38X5 (m38F5 k j) k t0 t1 t7 t8

theorem m38q5 (k : Nat) : ∀ (j : Nat) (t0 : List Int) (t1 : Int) (t7 : Int) (t8 : Int), loopN (normAt 0 m38A true (m38c [true, false, true, true, true])) (fun K s => evC (m38E k) (fun _ f => f) (m38I k) 0 m38A (m38c [true, false, true, true, true]) s K) (m38K3 (fun _ f => f) k) j (m38S5 t0 t1 t7 t8) = m38F5 k j t0 t1 t7 t8
  | 0, _, _, _, _ => rfl
  | j + 1, t0, t1, t7, t8 => by
    have e0 : m38F5 k j = (fun t0' t1' t7' t8' => loopN (normAt 0 m38A true (m38c [true, false, true, true, true])) (fun K s => evC (m38E k) (fun _ f => f) (m38I k) 0 m38A (m38c [true, false, true, true, true]) s K) (m38K3 (fun _ f => f) k) j (m38S5 t0' t1' t7' t8')) := funext fun t0' => funext fun t1' => funext fun t7' => funext fun t8' => (m38q5 k j t0' t1' t7' t8').symm
    show _ = m38X5 (m38F5 k j) k t0 t1 t7 t8
    rw [e0]
    exact m38x5 (fun _ f => f) k (loopN (normAt 0 m38A true (m38c [true, false, true, true, true])) (fun K s => evC (m38E k) (fun _ f => f) (m38I k) 0 m38A (m38c [true, false, true, true, true]) s K) (m38K3 (fun _ f => f) k) j) t0 t1 t7 t8

noncomputable def m38F (k : Nat) (p0 : (List Int)) (p1 : Int) : Option Int := m38X (m38F5 k k) k p0 p1

theorem m38q (k : Nat) (p0 : (List Int)) (p1 : Int) : evC (m38E k) (fun _ f => f) (m38I k) 0 m38A (m38c []) (stAt Try.f38 (argSs [.leaf (.val (.row (.int .i64))), .leaf (.val (.int .i64))] (p0, p1)) (fun _ => none) 0) (retK Try.prog Try.f38 [.leaf (.val (.int .i64))]) = m38F k p0 p1 := by
    have e5 : m38F5 k k = (fun t0' t1' t7' t8' => loopN (normAt 0 m38A true (m38c [true, false, true, true, true])) (fun K s => evC (m38E k) (fun _ f => f) (m38I k) 0 m38A (m38c [true, false, true, true, true]) s K) (m38K3 (fun _ f => f) k) k (m38S5 t0' t1' t7' t8')) := funext fun t0' => funext fun t1' => funext fun t7' => funext fun t8' => (m38q5 k k t0' t1' t7' t8').symm
    show _ = m38X (m38F5 k k) k p0 p1
    rw [e5]
    exact m38x (fun _ f => f) k p0 p1

noncomputable def m38sp : Spec := { ps := [.leaf (.val (.row (.int .i64))), .leaf (.val (.int .i64))], rs := [.leaf (.val (.int .i64))], f := fun k a => m38F k a.1 a.2 }

theorem m38ok (k : Nat) : EnvOk (m38E k) := envOk_of (l := []) (lB := []) progNames progMixed rfl rfl (.nil) (.nil)

theorem m38con (k : Nat) : Contract Try.prog k 38 m38sp := contract_of (E := m38E k) (m38ok k) (A := only 38 m38A) (d := 3) (c := m38c []) (by kernel_rfl) (by kernel_rfl) fun a _ h => (m38q k a.1 a.2).trans h

noncomputable def m39A : Anns := tabA []
noncomputable def m39E (k : Nat) : Env := { P := Try.prog, k := k, G := tabG [], GB := tabGB [] }
noncomputable def m39c (p : List Bool) : Code := sub p (bodyOf Try.f39)
noncomputable def m39I (k : Nat) : Inl (List Int) := inlOf (m39E k) (only 39 m39A) 3
noncomputable def m39K0 (M : Cut (List Int)) (k : Nat) : Exit → St → Option (List Int) := seqK (normAt 0 m39A false (m39c [true])) (cutK M m39A (m39c [true]) fun s => evC (m39E k) M (m39I k) 0 m39A (m39c [true]) s (retK Try.prog Try.f39 [.leaf (.own (.int .i64) 3)])) (retK Try.prog Try.f39 [.leaf (.own (.int .i64) 3)])
noncomputable def m39K1 (M : Cut (List Int)) (k : Nat) : Exit → St → Option (List Int) := seqK (normAt 0 m39A false (m39c [true, true])) (cutK M m39A (m39c [true, true]) fun s => evC (m39E k) M (m39I k) 0 m39A (m39c [true, true]) s (retK Try.prog Try.f39 [.leaf (.own (.int .i64) 3)])) (retK Try.prog Try.f39 [.leaf (.own (.int .i64) 3)])
noncomputable def m39K2 (M : Cut (List Int)) (k : Nat) : Exit → St → Option (List Int) := seqK (normAt 0 m39A false (m39c [true, false, true])) (cutK M m39A (m39c [true, false, true]) fun s => evC (m39E k) M (m39I k) 0 m39A (m39c [true, false, true]) s (m39K1 M k)) (m39K1 M k)
noncomputable def m39K3 (M : Cut (List Int)) (k : Nat) : Exit → St → Option (List Int) := seqK (normAt 0 m39A false (m39c [true, false, true, false, true])) (cutK M m39A (m39c [true, false, true, false, true]) fun s => evC (m39E k) M (m39I k) 0 m39A (m39c [true, false, true, false, true]) s (m39K1 M k)) (m39K1 M k)
noncomputable def m39K4 (M : Cut (List Int)) (k : Nat) : Exit → St → Option (List Int) := seqK (normAt 0 m39A false (m39c [true, true, true])) (cutK M m39A (m39c [true, true, true]) fun s => evC (m39E k) M (m39I k) 0 m39A (m39c [true, true, true]) s (retK Try.prog Try.f39 [.leaf (.own (.int .i64) 3)])) (retK Try.prog Try.f39 [.leaf (.own (.int .i64) 3)])

noncomputable def m39X (k : Nat) (p0 : (List Int)) : Option (List Int) := (nilK (List.isEmpty p0) (some ([])) ((if leI (↑((0 + List.length p0) * 8) : Int) 140737488355328 = true then some (List.replicate 0 0 ++ p0) else none)))

theorem m39x (M : Cut (List Int)) (k : Nat) (p0 : (List Int)) : evC (m39E k) M (m39I k) 0 m39A (m39c []) (stAt Try.f39 (argSs [.leaf (.val (.row (.int .i64)))] p0) (fun _ => none) 0) (retK Try.prog Try.f39 [.leaf (.own (.int .i64) 3)]) = m39X k p0 := by kernel_rfl

noncomputable def m39F (k : Nat) (p0 : (List Int)) : Option (List Int) := m39X k p0

theorem m39q (k : Nat) (p0 : (List Int)) : evC (m39E k) (fun _ f => f) (m39I k) 0 m39A (m39c []) (stAt Try.f39 (argSs [.leaf (.val (.row (.int .i64)))] p0) (fun _ => none) 0) (retK Try.prog Try.f39 [.leaf (.own (.int .i64) 3)]) = m39F k p0 := by
    show _ = m39X k p0
    exact m39x (fun _ f => f) k p0

noncomputable def m39sp : Spec := { ps := [.leaf (.val (.row (.int .i64)))], rs := [.leaf (.own (.int .i64) 3)], f := fun k a => m39F k a }

theorem m39ok (k : Nat) : EnvOk (m39E k) := envOk_of (l := []) (lB := []) progNames progMixed rfl rfl (.nil) (.nil)

theorem m39con (k : Nat) : Contract Try.prog k 39 m39sp := contract_of (E := m39E k) (m39ok k) (A := only 39 m39A) (d := 3) (c := m39c []) (by kernel_rfl) (by kernel_rfl) fun a _ h => (m39q k a).trans h

noncomputable def m34A : Anns := tabA []
noncomputable def m34E (k : Nat) : Env := { P := Try.prog, k := k, G := tabG [(38, m38sp), (39, m39sp)], GB := tabGB [] }
noncomputable def m34c (p : List Bool) : Code := sub p (bodyOf Try.f34)
noncomputable def m34I (k : Nat) : Inl (List Int) := inlOf (m34E k) (only 34 m34A) 3
noncomputable def m34K0 (M : Cut (List Int)) (k : Nat) : Exit → St → Option (List Int) := seqK (normAt 0 m34A false (m34c [true])) (cutK M m34A (m34c [true]) fun s => evC (m34E k) M (m34I k) 0 m34A (m34c [true]) s (retK Try.prog Try.f34 [.leaf (.own (.int .i64) 3)])) (retK Try.prog Try.f34 [.leaf (.own (.int .i64) 3)])
noncomputable def m34K1 (M : Cut (List Int)) (k : Nat) : Exit → St → Option (List Int) := seqK (normAt 0 m34A false (m34c [true, true])) (cutK M m34A (m34c [true, true]) fun s => evC (m34E k) M (m34I k) 0 m34A (m34c [true, true]) s (retK Try.prog Try.f34 [.leaf (.own (.int .i64) 3)])) (retK Try.prog Try.f34 [.leaf (.own (.int .i64) 3)])
noncomputable def m34K2 (M : Cut (List Int)) (k : Nat) : Exit → St → Option (List Int) := seqK (normAt 0 m34A false (m34c [true, true, true])) (cutK M m34A (m34c [true, true, true]) fun s => evC (m34E k) M (m34I k) 0 m34A (m34c [true, true, true]) s (retK Try.prog Try.f34 [.leaf (.own (.int .i64) 3)])) (retK Try.prog Try.f34 [.leaf (.own (.int .i64) 3)])
noncomputable def m34K3 (M : Cut (List Int)) (k : Nat) : Exit → St → Option (List Int) := seqK (normAt 0 m34A false (m34c [true, true, false, true])) (cutK M m34A (m34c [true, true, false, true]) fun s => evC (m34E k) M (m34I k) 0 m34A (m34c [true, true, false, true]) s (m34K2 M k)) (m34K2 M k)
noncomputable def m34K4 (M : Cut (List Int)) (k : Nat) : Exit → St → Option (List Int) := seqK (normAt 0 m34A false (m34c [true, true, false, true, false, true])) (cutK M m34A (m34c [true, true, false, true, false, true]) fun s => evC (m34E k) M (m34I k) 0 m34A (m34c [true, true, false, true, false, true]) s (m34K2 M k)) (m34K2 M k)
noncomputable def m34K5 (M : Cut (List Int)) (k : Nat) : Exit → St → Option (List Int) := seqK (normAt 0 m34A false (m34c [true, true, true, true])) (cutK M m34A (m34c [true, true, true, true]) fun s => evC (m34E k) M (m34I k) 0 m34A (m34c [true, true, true, true]) s (retK Try.prog Try.f34 [.leaf (.own (.int .i64) 3)])) (retK Try.prog Try.f34 [.leaf (.own (.int .i64) 3)])

noncomputable def m34X (k : Nat) (p0 : (List Int)) : Option (List Int) := (Option.bind (m38F k p0 1) fun (c3 : Int) => (if ltI c3 0 = true then some ([]) else (if leI 0 c3 = true then (if leI c3 (↑(List.length p0) : Int) = true then (Option.bind (m39F k (List.drop (Int.toNat c3) p0)) fun (c4 : (List Int)) => some c4) else none) else none)))

theorem m34x (M : Cut (List Int)) (k : Nat) (p0 : (List Int)) : evC (m34E k) M (m34I k) 0 m34A (m34c []) (stAt Try.f34 (argSs [.leaf (.val (.row (.int .i64)))] p0) (fun _ => none) 0) (retK Try.prog Try.f34 [.leaf (.own (.int .i64) 3)]) = m34X k p0 := by kernel_rfl

noncomputable def m34F (k : Nat) (p0 : (List Int)) : Option (List Int) := m34X k p0

theorem m34q (k : Nat) (p0 : (List Int)) : evC (m34E k) (fun _ f => f) (m34I k) 0 m34A (m34c []) (stAt Try.f34 (argSs [.leaf (.val (.row (.int .i64)))] p0) (fun _ => none) 0) (retK Try.prog Try.f34 [.leaf (.own (.int .i64) 3)]) = m34F k p0 := by
    show _ = m34X k p0
    exact m34x (fun _ f => f) k p0

noncomputable def m34sp : Spec := { ps := [.leaf (.val (.row (.int .i64)))], rs := [.leaf (.own (.int .i64) 3)], f := fun k a => m34F k a }

theorem m34ok (k : Nat) : EnvOk (m34E k) := envOk_of (l := [(38, m38sp), (39, m39sp)]) (lB := []) progNames progMixed rfl rfl (.cons ⟨m38con k, Try.f38, by kernel_rfl, by kernel_rfl⟩ (.cons ⟨m39con k, Try.f39, by kernel_rfl, by kernel_rfl⟩ (.nil))) (.nil)

theorem m34con (k : Nat) : Contract Try.prog k 34 m34sp := contract_of (E := m34E k) (m34ok k) (A := only 34 m34A) (d := 3) (c := m34c []) (by kernel_rfl) (by kernel_rfl) fun a _ h => (m34q k a).trans h

noncomputable def m35A : Anns := tabA [(5, { keep := [4, 14, 15, 16] })]
noncomputable def m35E (k : Nat) : Env := { P := Try.prog, k := k, G := tabG [], GB := tabGB [] }
noncomputable def m35c (p : List Bool) : Code := sub p (bodyOf Try.f35)
noncomputable def m35I (k : Nat) : Inl (List Int) := inlOf (m35E k) (only 35 m35A) 3
noncomputable def m35K0 (M : Cut (List Int)) (k : Nat) : Exit → St → Option (List Int) := seqK (normAt 1 m35A false (m35c [true])) (cutK M m35A (m35c [true]) fun s => evC (m35E k) M (m35I k) 1 m35A (m35c [true]) s (retB Try.prog Try.f35 (.int .i64) 3)) (retB Try.prog Try.f35 (.int .i64) 3)
noncomputable def m35K1 (M : Cut (List Int)) (k : Nat) : Exit → St → Option (List Int) := seqK (normAt 1 m35A false (m35c [true, true])) (cutK M m35A (m35c [true, true]) fun s => evC (m35E k) M (m35I k) 1 m35A (m35c [true, true]) s (retB Try.prog Try.f35 (.int .i64) 3)) (retB Try.prog Try.f35 (.int .i64) 3)
noncomputable def m35K2 (M : Cut (List Int)) (k : Nat) : Exit → St → Option (List Int) := blockK 0 (retB Try.prog Try.f35 (.int .i64) 3)
noncomputable def m35K3 (M : Cut (List Int)) (k : Nat) (L5 : St → Option (List Int)) : Exit → St → Option (List Int) := seqK (normAt 1 m35A true (m35c [true, true, true, true])) L5 (m35K2 M k)
noncomputable def m35K4 (M : Cut (List Int)) (k : Nat) (L5 : St → Option (List Int)) : Exit → St → Option (List Int) := seqK (normAt 1 m35A false (m35c [true, true, true, true, true])) (cutK M m35A (m35c [true, true, true, true, true]) fun s => evC (m35E k) M (m35I k) 1 m35A (m35c [true, true, true, true, true]) s (m35K3 M k L5)) (m35K3 M k L5)
noncomputable def m35K5 (M : Cut (List Int)) (k : Nat) (L5 : St → Option (List Int)) : Exit → St → Option (List Int) := seqK (normAt 1 m35A false (m35c [true, true, true, true, true, true])) (cutK M m35A (m35c [true, true, true, true, true, true]) fun s => evC (m35E k) M (m35I k) 1 m35A (m35c [true, true, true, true, true, true]) s (m35K3 M k L5)) (m35K3 M k L5)
noncomputable def m35K6 (M : Cut (List Int)) (k : Nat) (L5 : St → Option (List Int)) : Exit → St → Option (List Int) := seqK (normAt 1 m35A false (m35c [true, true, true, true, true, true, true])) (cutK M m35A (m35c [true, true, true, true, true, true, true]) fun s => evC (m35E k) M (m35I k) 1 m35A (m35c [true, true, true, true, true, true, true]) s (m35K3 M k L5)) (m35K3 M k L5)
noncomputable def m35K7 (M : Cut (List Int)) (k : Nat) (L5 : St → Option (List Int)) : Exit → St → Option (List Int) := blockK 1 (m35K6 M k L5)
noncomputable def m35K8 (M : Cut (List Int)) (k : Nat) (L5 : St → Option (List Int)) : Exit → St → Option (List Int) := seqK (normAt 1 m35A false (m35c [true, true, true, true, true, true, false, true, true])) (cutK M m35A (m35c [true, true, true, true, true, true, false, true, true]) fun s => evC (m35E k) M (m35I k) 1 m35A (m35c [true, true, true, true, true, true, false, true, true]) s (m35K7 M k L5)) (m35K7 M k L5)
noncomputable def m35S5 (t4o : Nat) (t4n : Nat) (t14 : List Int) (t15 : Int) (t16 : Int) (b0 : List Int) : St := { n := 29, tm := slots [(4, .sl 0 t4o t4n), (14, .row (.int .i64) t14), (15, .int .i64 t15), (16, .int .i64 t16)], tab := blks [some (.row false (.int .i64) 3 b0)], nx := 1 }

noncomputable def m35X (X5 : Nat → Nat → List Int → Int → Int → List Int → Option (List Int)) (k : Nat) (b0 : (List Int)) (o0 : Nat) (n0 : Nat) (p1 : (List Int)) : Option (List Int) := (if leI 0 (wr IntKind.i64 ((↑n0 : Int) - (↑(List.length p1) : Int))) = true then (if leI (wr IntKind.i64 ((↑n0 : Int) - (↑(List.length p1) : Int))) (↑n0 : Int) = true then X5 (Int.toNat (wr IntKind.i64 ((↑n0 : Int) - (↑(List.length p1) : Int))) + o0) (n0 - Int.toNat (wr IntKind.i64 ((↑n0 : Int) - (↑(List.length p1) : Int)))) p1 ((↑(List.length p1) : Int)) (0) b0 else none) else none)

theorem m35x (M : Cut (List Int)) (k : Nat) (b0 : (List Int)) (o0 : Nat) (n0 : Nat) (p1 : (List Int)) : evC (m35E k) M (m35I k) 1 m35A (m35c []) (stAt Try.f35 (.sl 0 o0 n0 :: argSs [.leaf (.val (.row (.int .i64)))] p1) (tabB (.int .i64) 3 b0) 1) (retB Try.prog Try.f35 (.int .i64) 3) = m35X (fun t4o' t4n' t14' t15' t16' b0' => loopN (normAt 1 m35A true (m35c [true, true, true, true])) (fun K s => evC (m35E k) M (m35I k) 1 m35A (m35c [true, true, true, true]) s K) (m35K2 M k) k (m35S5 t4o' t4n' t14' t15' t16' b0')) k b0 o0 n0 p1 := by kernel_rfl

noncomputable def m35X5 (L5 : Nat → Nat → List Int → Int → Int → List Int → Option (List Int)) (k : Nat) (t4o : Nat) (t4n : Nat) (t14 : List Int) (t15 : Int) (t16 : Int) (b0 : List Int) : Option (List Int) := (if ltI t16 t15 = true then (if leI 0 t16 = true then (if ltI t16 (↑(List.length t14) : Int) = true then (if leI 0 t16 = true then (if ltI t16 (↑t4n : Int) = true then (if leI 0 t16 = true then (if ltI t16 (↑t4n : Int) = true then L5 t4o t4n t14 t15 (wr IntKind.i64 (t16 + 1)) (List.set b0 (Int.toNat t16 + t4o)
  (bits BinOp.xor IntKind.i64 (List.getD b0 (Int.toNat t16 + t4o) 0) (List.getD t14 (Int.toNat t16) 0))) else none) else none) else none) else none) else none) else none) else some b0)

theorem m35x5 (M : Cut (List Int)) (k : Nat) (L5 : St → Option (List Int)) (t4o : Nat) (t4n : Nat) (t14 : List Int) (t15 : Int) (t16 : Int) (b0 : List Int) : evC (m35E k) M (m35I k) 1 m35A (m35c [true, true, true, true]) (m35S5 t4o t4n t14 t15 t16 b0) (seqK (normAt 1 m35A true (m35c [true, true, true, true])) L5 (m35K2 M k)) = m35X5 (fun t4o' t4n' t14' t15' t16' b0' => L5 (m35S5 t4o' t4n' t14' t15' t16' b0')) k t4o t4n t14 t15 t16 b0 := by kernel_rfl

noncomputable def m35F5 (k : Nat) : Nat → Nat → Nat → List Int → Int → Int → List Int → Option (List Int)
  | 0, _, _, _, _, _, _ => none
  | j + 1, t4o, t4n, t14, t15, t16, b0 => m35X5 (m35F5 k j) k t4o t4n t14 t15 t16 b0

theorem m35q5 (k : Nat) : ∀ (j : Nat) (t4o : Nat) (t4n : Nat) (t14 : List Int) (t15 : Int) (t16 : Int) (b0 : List Int), loopN (normAt 1 m35A true (m35c [true, true, true, true])) (fun K s => evC (m35E k) (fun _ f => f) (m35I k) 1 m35A (m35c [true, true, true, true]) s K) (m35K2 (fun _ f => f) k) j (m35S5 t4o t4n t14 t15 t16 b0) = m35F5 k j t4o t4n t14 t15 t16 b0
  | 0, _, _, _, _, _, _ => rfl
  | j + 1, t4o, t4n, t14, t15, t16, b0 => by
    have e0 : m35F5 k j = (fun t4o' t4n' t14' t15' t16' b0' => loopN (normAt 1 m35A true (m35c [true, true, true, true])) (fun K s => evC (m35E k) (fun _ f => f) (m35I k) 1 m35A (m35c [true, true, true, true]) s K) (m35K2 (fun _ f => f) k) j (m35S5 t4o' t4n' t14' t15' t16' b0')) := funext fun t4o' => funext fun t4n' => funext fun t14' => funext fun t15' => funext fun t16' => funext fun b0' => (m35q5 k j t4o' t4n' t14' t15' t16' b0').symm
    show _ = m35X5 (m35F5 k j) k t4o t4n t14 t15 t16 b0
    rw [e0]
    exact m35x5 (fun _ f => f) k (loopN (normAt 1 m35A true (m35c [true, true, true, true])) (fun K s => evC (m35E k) (fun _ f => f) (m35I k) 1 m35A (m35c [true, true, true, true]) s K) (m35K2 (fun _ f => f) k) j) t4o t4n t14 t15 t16 b0

noncomputable def m35F (k : Nat) (b0 : (List Int)) (o0 : Nat) (n0 : Nat) (p1 : (List Int)) : Option (List Int) := m35X (m35F5 k k) k b0 o0 n0 p1

theorem m35q (k : Nat) (b0 : (List Int)) (o0 : Nat) (n0 : Nat) (p1 : (List Int)) : evC (m35E k) (fun _ f => f) (m35I k) 1 m35A (m35c []) (stAt Try.f35 (.sl 0 o0 n0 :: argSs [.leaf (.val (.row (.int .i64)))] p1) (tabB (.int .i64) 3 b0) 1) (retB Try.prog Try.f35 (.int .i64) 3) = m35F k b0 o0 n0 p1 := by
    have e5 : m35F5 k k = (fun t4o' t4n' t14' t15' t16' b0' => loopN (normAt 1 m35A true (m35c [true, true, true, true])) (fun K s => evC (m35E k) (fun _ f => f) (m35I k) 1 m35A (m35c [true, true, true, true]) s K) (m35K2 (fun _ f => f) k) k (m35S5 t4o' t4n' t14' t15' t16' b0')) := funext fun t4o' => funext fun t4n' => funext fun t14' => funext fun t15' => funext fun t16' => funext fun b0' => (m35q5 k k t4o' t4n' t14' t15' t16' b0').symm
    show _ = m35X (m35F5 k k) k b0 o0 n0 p1
    rw [e5]
    exact m35x (fun _ f => f) k b0 o0 n0 p1

noncomputable def m35sp : BSpec := { k := (.int .i64), T := 3, ps := [.leaf (.val (.row (.int .i64)))], f := fun k xs off len a => m35F k xs off len a }

theorem m35ok (k : Nat) : EnvOk (m35E k) := envOk_of (l := []) (lB := []) progNames progMixed rfl rfl (.nil) (.nil)

theorem m35con (k : Nat) : ContractB Try.prog k 35 m35sp := contractB_of (E := m35E k) (m35ok k) (A := only 35 m35A) (d := 3) (c := m35c []) (by kernel_rfl) (by kernel_rfl) fun xs off len a _ h => (m35q k xs off len a).trans h

noncomputable def m28A : Anns := tabA [(19, { keep := [1, 4, 5, 7], mat := [(4, (.int .i64), 3)] }), (20, { keep := [1, 4, 5, 7] }), (28, { keep := [4, 5] })]
noncomputable def m28E (k : Nat) : Env := { P := Try.prog, k := k, G := tabG [(33, m33sp), (34, m34sp)], GB := tabGB [(35, m35sp)] }
noncomputable def m28c (p : List Bool) : Code := sub p (bodyOf Try.f28)
noncomputable def m28I (k : Nat) : Inl ((List Int) × (List Int) × Int) := inlOf (m28E k) (only 28 m28A) 3
noncomputable def m28K0 (M : Cut ((List Int) × (List Int) × Int)) (k : Nat) : Exit → St → Option ((List Int) × (List Int) × Int) := seqK (normAt 0 m28A false (m28c [true])) (cutK M m28A (m28c [true]) fun s => evC (m28E k) M (m28I k) 0 m28A (m28c [true]) s (retK Try.prog Try.f28 [.leaf (.own (.int .i64) 3), .leaf (.own (.int .i64) 3), .leaf (.val (.int .i64))])) (retK Try.prog Try.f28 [.leaf (.own (.int .i64) 3), .leaf (.own (.int .i64) 3), .leaf (.val (.int .i64))])
noncomputable def m28K1 (M : Cut ((List Int) × (List Int) × Int)) (k : Nat) : Exit → St → Option ((List Int) × (List Int) × Int) := seqK (normAt 0 m28A false (m28c [true, true])) (cutK M m28A (m28c [true, true]) fun s => evC (m28E k) M (m28I k) 0 m28A (m28c [true, true]) s (retK Try.prog Try.f28 [.leaf (.own (.int .i64) 3), .leaf (.own (.int .i64) 3), .leaf (.val (.int .i64))])) (retK Try.prog Try.f28 [.leaf (.own (.int .i64) 3), .leaf (.own (.int .i64) 3), .leaf (.val (.int .i64))])
noncomputable def m28K2 (M : Cut ((List Int) × (List Int) × Int)) (k : Nat) : Exit → St → Option ((List Int) × (List Int) × Int) := seqK (normAt 0 m28A false (m28c [true, true, true])) (cutK M m28A (m28c [true, true, true]) fun s => evC (m28E k) M (m28I k) 0 m28A (m28c [true, true, true]) s (retK Try.prog Try.f28 [.leaf (.own (.int .i64) 3), .leaf (.own (.int .i64) 3), .leaf (.val (.int .i64))])) (retK Try.prog Try.f28 [.leaf (.own (.int .i64) 3), .leaf (.own (.int .i64) 3), .leaf (.val (.int .i64))])
noncomputable def m28K3 (M : Cut ((List Int) × (List Int) × Int)) (k : Nat) : Exit → St → Option ((List Int) × (List Int) × Int) := seqK (normAt 0 m28A false (m28c [true, true, false, true])) (cutK M m28A (m28c [true, true, false, true]) fun s => evC (m28E k) M (m28I k) 0 m28A (m28c [true, true, false, true]) s (m28K2 M k)) (m28K2 M k)
noncomputable def m28K4 (M : Cut ((List Int) × (List Int) × Int)) (k : Nat) : Exit → St → Option ((List Int) × (List Int) × Int) := seqK (normAt 0 m28A false (m28c [true, true, false, true, false, true])) (cutK M m28A (m28c [true, true, false, true, false, true]) fun s => evC (m28E k) M (m28I k) 0 m28A (m28c [true, true, false, true, false, true]) s (m28K2 M k)) (m28K2 M k)
noncomputable def m28K5 (M : Cut ((List Int) × (List Int) × Int)) (k : Nat) : Exit → St → Option ((List Int) × (List Int) × Int) := seqK (normAt 0 m28A false (m28c [true, true, true, true])) (cutK M m28A (m28c [true, true, true, true]) fun s => evC (m28E k) M (m28I k) 0 m28A (m28c [true, true, true, true]) s (retK Try.prog Try.f28 [.leaf (.own (.int .i64) 3), .leaf (.own (.int .i64) 3), .leaf (.val (.int .i64))])) (retK Try.prog Try.f28 [.leaf (.own (.int .i64) 3), .leaf (.own (.int .i64) 3), .leaf (.val (.int .i64))])
noncomputable def m28K6 (M : Cut ((List Int) × (List Int) × Int)) (k : Nat) : Exit → St → Option ((List Int) × (List Int) × Int) := seqK (normAt 0 m28A false (m28c [true, true, true, true, true])) (cutK M m28A (m28c [true, true, true, true, true]) fun s => evC (m28E k) M (m28I k) 0 m28A (m28c [true, true, true, true, true]) s (retK Try.prog Try.f28 [.leaf (.own (.int .i64) 3), .leaf (.own (.int .i64) 3), .leaf (.val (.int .i64))])) (retK Try.prog Try.f28 [.leaf (.own (.int .i64) 3), .leaf (.own (.int .i64) 3), .leaf (.val (.int .i64))])
noncomputable def m28K7 (M : Cut ((List Int) × (List Int) × Int)) (k : Nat) : Exit → St → Option ((List Int) × (List Int) × Int) := seqK (normAt 0 m28A false (m28c [true, true, true, true, false, true])) (cutK M m28A (m28c [true, true, true, true, false, true]) fun s => evC (m28E k) M (m28I k) 0 m28A (m28c [true, true, true, true, false, true]) s (m28K6 M k)) (m28K6 M k)
noncomputable def m28K8 (M : Cut ((List Int) × (List Int) × Int)) (k : Nat) : Exit → St → Option ((List Int) × (List Int) × Int) := seqK (normAt 0 m28A false (m28c [true, true, true, true, false, true, false, true])) (cutK M m28A (m28c [true, true, true, true, false, true, false, true]) fun s => evC (m28E k) M (m28I k) 0 m28A (m28c [true, true, true, true, false, true, false, true]) s (m28K6 M k)) (m28K6 M k)
noncomputable def m28K9 (M : Cut ((List Int) × (List Int) × Int)) (k : Nat) : Exit → St → Option ((List Int) × (List Int) × Int) := seqK (normAt 0 m28A false (m28c [true, true, true, true, true, true])) (cutK M m28A (m28c [true, true, true, true, true, true]) fun s => evC (m28E k) M (m28I k) 0 m28A (m28c [true, true, true, true, true, true]) s (retK Try.prog Try.f28 [.leaf (.own (.int .i64) 3), .leaf (.own (.int .i64) 3), .leaf (.val (.int .i64))])) (retK Try.prog Try.f28 [.leaf (.own (.int .i64) 3), .leaf (.own (.int .i64) 3), .leaf (.val (.int .i64))])
noncomputable def m28K10 (M : Cut ((List Int) × (List Int) × Int)) (k : Nat) : Exit → St → Option ((List Int) × (List Int) × Int) := seqK (normAt 0 m28A false (m28c [true, true, true, true, true, true, true])) (cutK M m28A (m28c [true, true, true, true, true, true, true]) fun s => evC (m28E k) M (m28I k) 0 m28A (m28c [true, true, true, true, true, true, true]) s (retK Try.prog Try.f28 [.leaf (.own (.int .i64) 3), .leaf (.own (.int .i64) 3), .leaf (.val (.int .i64))])) (retK Try.prog Try.f28 [.leaf (.own (.int .i64) 3), .leaf (.own (.int .i64) 3), .leaf (.val (.int .i64))])
noncomputable def m28K11 (M : Cut ((List Int) × (List Int) × Int)) (k : Nat) : Exit → St → Option ((List Int) × (List Int) × Int) := seqK (normAt 0 m28A false (m28c [true, true, true, true, true, true, false, true])) (cutK M m28A (m28c [true, true, true, true, true, true, false, true]) fun s => evC (m28E k) M (m28I k) 0 m28A (m28c [true, true, true, true, true, true, false, true]) s (m28K10 M k)) (m28K10 M k)
noncomputable def m28K12 (M : Cut ((List Int) × (List Int) × Int)) (k : Nat) : Exit → St → Option ((List Int) × (List Int) × Int) := blockK 0 (m28K10 M k)
noncomputable def m28K13 (M : Cut ((List Int) × (List Int) × Int)) (k : Nat) (L19 : St → Option ((List Int) × (List Int) × Int)) : Exit → St → Option ((List Int) × (List Int) × Int) := seqK (normAt 0 m28A true (m28c [true, true, true, true, true, true, false, true, true, true])) L19 (m28K12 M k)
noncomputable def m28K14 (M : Cut ((List Int) × (List Int) × Int)) (k : Nat) (L19 : St → Option ((List Int) × (List Int) × Int)) : Exit → St → Option ((List Int) × (List Int) × Int) := seqK (normAt 0 m28A false (m28c [true, true, true, true, true, true, false, true, true, true, true])) (cutK M m28A (m28c [true, true, true, true, true, true, false, true, true, true, true]) fun s => evC (m28E k) M (m28I k) 0 m28A (m28c [true, true, true, true, true, true, false, true, true, true, true]) s (m28K13 M k L19)) (m28K13 M k L19)
noncomputable def m28K15 (M : Cut ((List Int) × (List Int) × Int)) (k : Nat) (L19 : St → Option ((List Int) × (List Int) × Int)) : Exit → St → Option ((List Int) × (List Int) × Int) := seqK (normAt 0 m28A false (m28c [true, true, true, true, true, true, false, true, true, true, false, true])) (cutK M m28A (m28c [true, true, true, true, true, true, false, true, true, true, false, true]) fun s => evC (m28E k) M (m28I k) 0 m28A (m28c [true, true, true, true, true, true, false, true, true, true, false, true]) s (m28K14 M k L19)) (m28K14 M k L19)
noncomputable def m28K16 (M : Cut ((List Int) × (List Int) × Int)) (k : Nat) (L19 : St → Option ((List Int) × (List Int) × Int)) : Exit → St → Option ((List Int) × (List Int) × Int) := seqK (normAt 0 m28A false (m28c [true, true, true, true, true, true, false, true, true, true, true, true])) (cutK M m28A (m28c [true, true, true, true, true, true, false, true, true, true, true, true]) fun s => evC (m28E k) M (m28I k) 0 m28A (m28c [true, true, true, true, true, true, false, true, true, true, true, true]) s (m28K13 M k L19)) (m28K13 M k L19)
noncomputable def m28K17 (M : Cut ((List Int) × (List Int) × Int)) (k : Nat) (L19 : St → Option ((List Int) × (List Int) × Int)) : Exit → St → Option ((List Int) × (List Int) × Int) := blockK 1 (m28K16 M k L19)
noncomputable def m28K18 (M : Cut ((List Int) × (List Int) × Int)) (k : Nat) (L19 : St → Option ((List Int) × (List Int) × Int)) : Exit → St → Option ((List Int) × (List Int) × Int) := seqK (normAt 0 m28A false (m28c [true, true, true, true, true, true, false, true, true, true, true, false, true, true])) (cutK M m28A (m28c [true, true, true, true, true, true, false, true, true, true, true, false, true, true]) fun s => evC (m28E k) M (m28I k) 0 m28A (m28c [true, true, true, true, true, true, false, true, true, true, true, false, true, true]) s (m28K17 M k L19)) (m28K17 M k L19)
noncomputable def m28K19 (M : Cut ((List Int) × (List Int) × Int)) (k : Nat) (L19 : St → Option ((List Int) × (List Int) × Int)) : Exit → St → Option ((List Int) × (List Int) × Int) := seqK (normAt 0 m28A false (m28c [true, true, true, true, true, true, false, true, true, true, true, false, true, true, true])) (cutK M m28A (m28c [true, true, true, true, true, true, false, true, true, true, true, false, true, true, true]) fun s => evC (m28E k) M (m28I k) 0 m28A (m28c [true, true, true, true, true, true, false, true, true, true, true, false, true, true, true]) s (m28K17 M k L19)) (m28K17 M k L19)
noncomputable def m28K20 (M : Cut ((List Int) × (List Int) × Int)) (k : Nat) : Exit → St → Option ((List Int) × (List Int) × Int) := seqK (normAt 0 m28A false (m28c [true, true, true, true, true, true, true, true])) (cutK M m28A (m28c [true, true, true, true, true, true, true, true]) fun s => evC (m28E k) M (m28I k) 0 m28A (m28c [true, true, true, true, true, true, true, true]) s (retK Try.prog Try.f28 [.leaf (.own (.int .i64) 3), .leaf (.own (.int .i64) 3), .leaf (.val (.int .i64))])) (retK Try.prog Try.f28 [.leaf (.own (.int .i64) 3), .leaf (.own (.int .i64) 3), .leaf (.val (.int .i64))])
noncomputable def m28S19 (t7 : Int) (b0 : List Int) (b1 : List Int) (b2 : List Int) : St := { n := 55, tm := slots [(1, .own 0), (4, .own 1), (5, .own 2), (7, .int .i64 t7)], tab := blks [some (.row true (.int .i64) 3 b0), some (.row true (.int .i64) 3 b1), some (.row true (.int .i64) 3 b2)], nx := 3 }
noncomputable def m28S20 (t7 : Int) (b0 : List Int) (b1 : List Int) (b2 : List Int) : St := { n := 55, tm := slots [(1, .own 0), (4, .own 1), (5, .own 2), (7, .int .i64 t7)], tab := blks [some (.row true (.int .i64) 3 b0), some (.row true (.int .i64) 3 b1), some (.row true (.int .i64) 3 b2)], nx := 3 }
noncomputable def m28S28 (b0 : List Int) (b1 : List Int) : St := { n := 55, tm := slots [(4, .own 0), (5, .own 1)], tab := blks [some (.row true (.int .i64) 3 b0), some (.row true (.int .i64) 3 b1)], nx := 2 }

noncomputable def m28X (X19 : Int → List Int → List Int → List Int → Option ((List Int) × (List Int) × Int)) (k : Nat) (p0 : (List Int)) (p1 : (List Int)) : Option ((List Int) × (List Int) × Int) := (Option.bind (m33F k (List.set (List.set (List.replicate 2 []) 0 p0) 1 p1)) fun (c4 : Int) => (if (!eqI c4 0) = true then some (([], [], c4)) else (Option.bind (m34F k p1) fun (c5 : (List Int)) => (if eqI (↑(List.length c5) : Int) 0 = true then some (([], [], 1)) else (Option.bind (m34F k p0) fun (c6 : (List Int)) => X19 (0) c5 ([]) c6)))))

theorem m28x (M : Cut ((List Int) × (List Int) × Int)) (k : Nat) (p0 : (List Int)) (p1 : (List Int)) : evC (m28E k) M (m28I k) 0 m28A (m28c []) (stAt Try.f28 (argSs [.leaf (.val (.row (.int .i64))), .leaf (.val (.row (.int .i64)))] (p0, p1)) (fun _ => none) 0) (retK Try.prog Try.f28 [.leaf (.own (.int .i64) 3), .leaf (.own (.int .i64) 3), .leaf (.val (.int .i64))]) = m28X (fun t7' b0' b1' b2' => loopN (normAt 0 m28A true (m28c [true, true, true, true, true, true, false, true, true, true])) (fun K s => evC (m28E k) M (m28I k) 0 m28A (m28c [true, true, true, true, true, true, false, true, true, true]) s K) (m28K12 M k) k (m28S19 t7' b0' b1' b2')) k p0 p1 := by kernel_rfl

noncomputable def m28X19 (X20 : Int → List Int → List Int → List Int → Option ((List Int) × (List Int) × Int)) (X28 : List Int → List Int → Option ((List Int) × (List Int) × Int)) (k : Nat) (t7 : Int) (b0 : List Int) (b1 : List Int) (b2 : List Int) : Option ((List Int) × (List Int) × Int) := (if leI (wr IntKind.i64 (t7 + (↑(List.length b0) : Int))) (↑(List.length b2) : Int) = true then (if leI 0 t7 = true then (if ltI t7 (↑(List.length b2) : Int) = true then (if leI (↑((List.length b1 + List.length (List.set (List.replicate 1 0) 0 (List.getD b2 (Int.toNat t7) 0))) * 8) : Int)
    140737488355328 =
  true then (if leI 0 t7 = true then (if ltI t7 (↑(List.length b2) : Int) = true then (if eqI (List.getD b2 (Int.toNat t7) 0) 1 = true then (if leI 0 (wr IntKind.i64 (t7 + (↑(List.length b0) : Int))) = true then (if leI (wr IntKind.i64 (t7 + (↑(List.length b0) : Int))) (↑(List.length b2) : Int) = true then (Option.bind (m35F k b2 0 (Int.toNat (wr IntKind.i64 (t7 + (↑(List.length b0) : Int)))) b0) fun (c7 : (List Int)) => X20 t7 b0 (b1 ++ List.set (List.replicate 1 0) 0 (List.getD b2 (Int.toNat t7) 0)) c7) else none) else none) else X20 t7 b0 (b1 ++ List.set (List.replicate 1 0) 0 (List.getD b2 (Int.toNat t7) 0)) b2) else none) else none) else none) else none) else none) else X28 b1 b2)

theorem m28x19 (M : Cut ((List Int) × (List Int) × Int)) (k : Nat) (L19 : St → Option ((List Int) × (List Int) × Int)) (t7 : Int) (b0 : List Int) (b1 : List Int) (b2 : List Int) : evC (m28E k) M (m28I k) 0 m28A (m28c [true, true, true, true, true, true, false, true, true, true]) (m28S19 t7 b0 b1 b2) (seqK (normAt 0 m28A true (m28c [true, true, true, true, true, true, false, true, true, true])) L19 (m28K12 M k)) = m28X19 (fun t7' b0' b1' b2' => M 20 (fun s => evC (m28E k) M (m28I k) 0 m28A (m28c [true, true, true, true, true, true, false, true, true, true, true, true]) s (m28K13 M k L19)) (m28S20 t7' b0' b1' b2')) (fun b0' b1' => M 28 (fun s => evC (m28E k) M (m28I k) 0 m28A (m28c [true, true, true, true, true, true, true]) s (retK Try.prog Try.f28 [.leaf (.own (.int .i64) 3), .leaf (.own (.int .i64) 3), .leaf (.val (.int .i64))])) (m28S28 b0' b1')) k t7 b0 b1 b2 := by kernel_rfl

noncomputable def m28X20 (L19 : Int → List Int → List Int → List Int → Option ((List Int) × (List Int) × Int)) (k : Nat) (t7 : Int) (b0 : List Int) (b1 : List Int) (b2 : List Int) : Option ((List Int) × (List Int) × Int) := L19 (wr IntKind.i64 (t7 + 1)) b0 b1 b2

theorem m28x20 (M : Cut ((List Int) × (List Int) × Int)) (k : Nat) (L19 : St → Option ((List Int) × (List Int) × Int)) (t7 : Int) (b0 : List Int) (b1 : List Int) (b2 : List Int) : evC (m28E k) M (m28I k) 0 m28A (m28c [true, true, true, true, true, true, false, true, true, true, true, true]) (m28S20 t7 b0 b1 b2) (m28K13 M k L19) = m28X20 (fun t7' b0' b1' b2' => L19 (m28S19 t7' b0' b1' b2')) k t7 b0 b1 b2 := by kernel_rfl

noncomputable def m28X28 (k : Nat) (b0 : List Int) (b1 : List Int) : Option ((List Int) × (List Int) × Int) := (Option.bind (m34F k b0) fun (c4 : (List Int)) => (Option.bind (m34F k b1) fun (c5 : (List Int)) => some ((c4, c5, 0))))

theorem m28x28 (M : Cut ((List Int) × (List Int) × Int)) (k : Nat) (b0 : List Int) (b1 : List Int) : evC (m28E k) M (m28I k) 0 m28A (m28c [true, true, true, true, true, true, true]) (m28S28 b0 b1) (retK Try.prog Try.f28 [.leaf (.own (.int .i64) 3), .leaf (.own (.int .i64) 3), .leaf (.val (.int .i64))]) = m28X28 k b0 b1 := by kernel_rfl

noncomputable def m28F20 (k : Nat) (L19 : Int → List Int → List Int → List Int → Option ((List Int) × (List Int) × Int)) (t7 : Int) (b0 : List Int) (b1 : List Int) (b2 : List Int) : Option ((List Int) × (List Int) × Int) := m28X20 L19 k t7 b0 b1 b2

theorem m28q20 (k : Nat) (L19 : St → Option ((List Int) × (List Int) × Int)) (t7 : Int) (b0 : List Int) (b1 : List Int) (b2 : List Int) : evC (m28E k) (fun _ f => f) (m28I k) 0 m28A (m28c [true, true, true, true, true, true, false, true, true, true, true, true]) (m28S20 t7 b0 b1 b2) (m28K13 (fun _ f => f) k L19) = m28F20 k (fun t7' b0' b1' b2' => L19 (m28S19 t7' b0' b1' b2')) t7 b0 b1 b2 := by
    show _ = m28X20 (fun t7' b0' b1' b2' => L19 (m28S19 t7' b0' b1' b2')) k t7 b0 b1 b2
    exact m28x20 (fun _ f => f) k L19 t7 b0 b1 b2

noncomputable def m28F28 (k : Nat) (b0 : List Int) (b1 : List Int) : Option ((List Int) × (List Int) × Int) := m28X28 k b0 b1

theorem m28q28 (k : Nat) (b0 : List Int) (b1 : List Int) : evC (m28E k) (fun _ f => f) (m28I k) 0 m28A (m28c [true, true, true, true, true, true, true]) (m28S28 b0 b1) (retK Try.prog Try.f28 [.leaf (.own (.int .i64) 3), .leaf (.own (.int .i64) 3), .leaf (.val (.int .i64))]) = m28F28 k b0 b1 := by
    show _ = m28X28 k b0 b1
    exact m28x28 (fun _ f => f) k b0 b1

noncomputable def m28F19 (k : Nat) : Nat → Int → List Int → List Int → List Int → Option ((List Int) × (List Int) × Int)
  | 0, _, _, _, _ => none
  | j + 1, t7, b0, b1, b2 => m28X19 (m28F20 k (m28F19 k j)) (m28F28 k) k t7 b0 b1 b2

theorem m28q19 (k : Nat) : ∀ (j : Nat) (t7 : Int) (b0 : List Int) (b1 : List Int) (b2 : List Int), loopN (normAt 0 m28A true (m28c [true, true, true, true, true, true, false, true, true, true])) (fun K s => evC (m28E k) (fun _ f => f) (m28I k) 0 m28A (m28c [true, true, true, true, true, true, false, true, true, true]) s K) (m28K12 (fun _ f => f) k) j (m28S19 t7 b0 b1 b2) = m28F19 k j t7 b0 b1 b2
  | 0, _, _, _, _ => rfl
  | j + 1, t7, b0, b1, b2 => by
    have e0 : m28F19 k j = (fun t7' b0' b1' b2' => loopN (normAt 0 m28A true (m28c [true, true, true, true, true, true, false, true, true, true])) (fun K s => evC (m28E k) (fun _ f => f) (m28I k) 0 m28A (m28c [true, true, true, true, true, true, false, true, true, true]) s K) (m28K12 (fun _ f => f) k) j (m28S19 t7' b0' b1' b2')) := funext fun t7' => funext fun b0' => funext fun b1' => funext fun b2' => (m28q19 k j t7' b0' b1' b2').symm
    have e20 : m28F20 k (fun t7' b0' b1' b2' => loopN (normAt 0 m28A true (m28c [true, true, true, true, true, true, false, true, true, true])) (fun K s => evC (m28E k) (fun _ f => f) (m28I k) 0 m28A (m28c [true, true, true, true, true, true, false, true, true, true]) s K) (m28K12 (fun _ f => f) k) j (m28S19 t7' b0' b1' b2')) = (fun t7' b0' b1' b2' => evC (m28E k) (fun _ f => f) (m28I k) 0 m28A (m28c [true, true, true, true, true, true, false, true, true, true, true, true]) (m28S20 t7' b0' b1' b2') (m28K13 (fun _ f => f) k (loopN (normAt 0 m28A true (m28c [true, true, true, true, true, true, false, true, true, true])) (fun K s => evC (m28E k) (fun _ f => f) (m28I k) 0 m28A (m28c [true, true, true, true, true, true, false, true, true, true]) s K) (m28K12 (fun _ f => f) k) j))) := funext fun t7' => funext fun b0' => funext fun b1' => funext fun b2' => (m28q20 k (loopN (normAt 0 m28A true (m28c [true, true, true, true, true, true, false, true, true, true])) (fun K s => evC (m28E k) (fun _ f => f) (m28I k) 0 m28A (m28c [true, true, true, true, true, true, false, true, true, true]) s K) (m28K12 (fun _ f => f) k) j) t7' b0' b1' b2').symm
    have e28 : m28F28 k = (fun b0' b1' => evC (m28E k) (fun _ f => f) (m28I k) 0 m28A (m28c [true, true, true, true, true, true, true]) (m28S28 b0' b1') (retK Try.prog Try.f28 [.leaf (.own (.int .i64) 3), .leaf (.own (.int .i64) 3), .leaf (.val (.int .i64))])) := funext fun b0' => funext fun b1' => (m28q28 k b0' b1').symm
    show _ = m28X19 (m28F20 k (m28F19 k j)) (m28F28 k) k t7 b0 b1 b2
    rw [e0, e20, e28]
    exact m28x19 (fun _ f => f) k (loopN (normAt 0 m28A true (m28c [true, true, true, true, true, true, false, true, true, true])) (fun K s => evC (m28E k) (fun _ f => f) (m28I k) 0 m28A (m28c [true, true, true, true, true, true, false, true, true, true]) s K) (m28K12 (fun _ f => f) k) j) t7 b0 b1 b2

noncomputable def m28F (k : Nat) (p0 : (List Int)) (p1 : (List Int)) : Option ((List Int) × (List Int) × Int) := m28X (m28F19 k k) k p0 p1

theorem m28q (k : Nat) (p0 : (List Int)) (p1 : (List Int)) : evC (m28E k) (fun _ f => f) (m28I k) 0 m28A (m28c []) (stAt Try.f28 (argSs [.leaf (.val (.row (.int .i64))), .leaf (.val (.row (.int .i64)))] (p0, p1)) (fun _ => none) 0) (retK Try.prog Try.f28 [.leaf (.own (.int .i64) 3), .leaf (.own (.int .i64) 3), .leaf (.val (.int .i64))]) = m28F k p0 p1 := by
    have e19 : m28F19 k k = (fun t7' b0' b1' b2' => loopN (normAt 0 m28A true (m28c [true, true, true, true, true, true, false, true, true, true])) (fun K s => evC (m28E k) (fun _ f => f) (m28I k) 0 m28A (m28c [true, true, true, true, true, true, false, true, true, true]) s K) (m28K12 (fun _ f => f) k) k (m28S19 t7' b0' b1' b2')) := funext fun t7' => funext fun b0' => funext fun b1' => funext fun b2' => (m28q19 k k t7' b0' b1' b2').symm
    show _ = m28X (m28F19 k k) k p0 p1
    rw [e19]
    exact m28x (fun _ f => f) k p0 p1

noncomputable def m28sp : Spec := { ps := [.leaf (.val (.row (.int .i64))), .leaf (.val (.row (.int .i64)))], rs := [.leaf (.own (.int .i64) 3), .leaf (.own (.int .i64) 3), .leaf (.val (.int .i64))], f := fun k a => m28F k a.1 a.2 }

theorem m28ok (k : Nat) : EnvOk (m28E k) := envOk_of (l := [(33, m33sp), (34, m34sp)]) (lB := [(35, m35sp)]) progNames progMixed rfl rfl (.cons ⟨m33con k, Try.f33, by kernel_rfl, by kernel_rfl⟩ (.cons ⟨m34con k, Try.f34, by kernel_rfl, by kernel_rfl⟩ (.nil))) (.cons ⟨m35con k, Try.f35, by kernel_rfl, by kernel_rfl⟩ (.nil))

theorem m28con (k : Nat) : Contract Try.prog k 28 m28sp := contract_of (E := m28E k) (m28ok k) (A := only 28 m28A) (d := 3) (c := m28c []) (by kernel_rfl) (by kernel_rfl) fun a _ h => (m28q k a.1 a.2).trans h

noncomputable def m29A : Anns := tabA [(7, { keep := [0, 3, 4] })]
noncomputable def m29E (k : Nat) : Env := { P := Try.prog, k := k, G := tabG [], GB := tabGB [] }
noncomputable def m29c (p : List Bool) : Code := sub p (bodyOf Try.f29)
noncomputable def m29I (k : Nat) : Inl Int := inlOf (m29E k) (only 29 m29A) 3
noncomputable def m29K0 (M : Cut Int) (k : Nat) : Exit → St → Option Int := seqK (normAt 0 m29A false (m29c [true])) (cutK M m29A (m29c [true]) fun s => evC (m29E k) M (m29I k) 0 m29A (m29c [true]) s (retK Try.prog Try.f29 [.leaf (.val (.int .i64))])) (retK Try.prog Try.f29 [.leaf (.val (.int .i64))])
noncomputable def m29K1 (M : Cut Int) (k : Nat) : Exit → St → Option Int := seqK (normAt 0 m29A false (m29c [true, true])) (cutK M m29A (m29c [true, true]) fun s => evC (m29E k) M (m29I k) 0 m29A (m29c [true, true]) s (retK Try.prog Try.f29 [.leaf (.val (.int .i64))])) (retK Try.prog Try.f29 [.leaf (.val (.int .i64))])
noncomputable def m29K2 (M : Cut Int) (k : Nat) : Exit → St → Option Int := seqK (normAt 0 m29A false (m29c [true, true, true])) (cutK M m29A (m29c [true, true, true]) fun s => evC (m29E k) M (m29I k) 0 m29A (m29c [true, true, true]) s (retK Try.prog Try.f29 [.leaf (.val (.int .i64))])) (retK Try.prog Try.f29 [.leaf (.val (.int .i64))])
noncomputable def m29K3 (M : Cut Int) (k : Nat) : Exit → St → Option Int := seqK (normAt 0 m29A false (m29c [true, true, false, true])) (cutK M m29A (m29c [true, true, false, true]) fun s => evC (m29E k) M (m29I k) 0 m29A (m29c [true, true, false, true]) s (m29K2 M k)) (m29K2 M k)
noncomputable def m29K4 (M : Cut Int) (k : Nat) : Exit → St → Option Int := blockK 0 (m29K2 M k)
noncomputable def m29K5 (M : Cut Int) (k : Nat) (L7 : St → Option Int) : Exit → St → Option Int := seqK (normAt 0 m29A true (m29c [true, true, false, true, true, true])) L7 (m29K4 M k)
noncomputable def m29K6 (M : Cut Int) (k : Nat) (L7 : St → Option Int) : Exit → St → Option Int := seqK (normAt 0 m29A false (m29c [true, true, false, true, true, true, true])) (cutK M m29A (m29c [true, true, false, true, true, true, true]) fun s => evC (m29E k) M (m29I k) 0 m29A (m29c [true, true, false, true, true, true, true]) s (m29K5 M k L7)) (m29K5 M k L7)
noncomputable def m29K7 (M : Cut Int) (k : Nat) (L7 : St → Option Int) : Exit → St → Option Int := seqK (normAt 0 m29A false (m29c [true, true, false, true, true, true, false, true])) (cutK M m29A (m29c [true, true, false, true, true, true, false, true]) fun s => evC (m29E k) M (m29I k) 0 m29A (m29c [true, true, false, true, true, true, false, true]) s (m29K6 M k L7)) (m29K6 M k L7)
noncomputable def m29K8 (M : Cut Int) (k : Nat) (L7 : St → Option Int) : Exit → St → Option Int := seqK (normAt 0 m29A false (m29c [true, true, false, true, true, true, true, true])) (cutK M m29A (m29c [true, true, false, true, true, true, true, true]) fun s => evC (m29E k) M (m29I k) 0 m29A (m29c [true, true, false, true, true, true, true, true]) s (m29K5 M k L7)) (m29K5 M k L7)
noncomputable def m29K9 (M : Cut Int) (k : Nat) (L7 : St → Option Int) : Exit → St → Option Int := blockK 1 (m29K8 M k L7)
noncomputable def m29K10 (M : Cut Int) (k : Nat) : Exit → St → Option Int := seqK (normAt 0 m29A false (m29c [true, true, true, true])) (cutK M m29A (m29c [true, true, true, true]) fun s => evC (m29E k) M (m29I k) 0 m29A (m29c [true, true, true, true]) s (retK Try.prog Try.f29 [.leaf (.val (.int .i64))])) (retK Try.prog Try.f29 [.leaf (.val (.int .i64))])
noncomputable def m29S7 (t0 : List Int) (t3 : Int) (t4 : Int) : St := { n := 20, tm := slots [(0, .row (.int .i64) t0), (3, .int .i64 t3), (4, .int .i64 t4)], tab := blks [], nx := 0 }

noncomputable def m29X (X7 : List Int → Int → Int → Option Int) (k : Nat) (p0 : (List Int)) : Option Int := X7 p0 (0) (0)

theorem m29x (M : Cut Int) (k : Nat) (p0 : (List Int)) : evC (m29E k) M (m29I k) 0 m29A (m29c []) (stAt Try.f29 (argSs [.leaf (.val (.row (.int .i64)))] p0) (fun _ => none) 0) (retK Try.prog Try.f29 [.leaf (.val (.int .i64))]) = m29X (fun t0' t3' t4' => loopN (normAt 0 m29A true (m29c [true, true, false, true, true, true])) (fun K s => evC (m29E k) M (m29I k) 0 m29A (m29c [true, true, false, true, true, true]) s K) (m29K4 M k) k (m29S7 t0' t3' t4')) k p0 := by kernel_rfl

noncomputable def m29X7 (L7 : List Int → Int → Int → Option Int) (k : Nat) (t0 : List Int) (t3 : Int) (t4 : Int) : Option Int := (if ltI t4 (↑(List.length t0) : Int) = true then (if leI 0 1 = true then (if leI 0 t4 = true then (if ltI t4 (↑(List.length t0) : Int) = true then L7 t0 (bits BinOp.or IntKind.i64 (wr IntKind.i64 (t3 * 2)) (bits BinOp.and IntKind.i64 (List.getD t0 (Int.toNat t4) 0) 1)) (wr IntKind.i64 (t4 + 1)) else none) else none) else none) else some t3)

theorem m29x7 (M : Cut Int) (k : Nat) (L7 : St → Option Int) (t0 : List Int) (t3 : Int) (t4 : Int) : evC (m29E k) M (m29I k) 0 m29A (m29c [true, true, false, true, true, true]) (m29S7 t0 t3 t4) (seqK (normAt 0 m29A true (m29c [true, true, false, true, true, true])) L7 (m29K4 M k)) = m29X7 (fun t0' t3' t4' => L7 (m29S7 t0' t3' t4')) k t0 t3 t4 := by kernel_rfl

noncomputable def m29F7 (k : Nat) : Nat → List Int → Int → Int → Option Int
  | 0, _, _, _ => none
  | j + 1, t0, t3, t4 => m29X7 (m29F7 k j) k t0 t3 t4

theorem m29q7 (k : Nat) : ∀ (j : Nat) (t0 : List Int) (t3 : Int) (t4 : Int), loopN (normAt 0 m29A true (m29c [true, true, false, true, true, true])) (fun K s => evC (m29E k) (fun _ f => f) (m29I k) 0 m29A (m29c [true, true, false, true, true, true]) s K) (m29K4 (fun _ f => f) k) j (m29S7 t0 t3 t4) = m29F7 k j t0 t3 t4
  | 0, _, _, _ => rfl
  | j + 1, t0, t3, t4 => by
    have e0 : m29F7 k j = (fun t0' t3' t4' => loopN (normAt 0 m29A true (m29c [true, true, false, true, true, true])) (fun K s => evC (m29E k) (fun _ f => f) (m29I k) 0 m29A (m29c [true, true, false, true, true, true]) s K) (m29K4 (fun _ f => f) k) j (m29S7 t0' t3' t4')) := funext fun t0' => funext fun t3' => funext fun t4' => (m29q7 k j t0' t3' t4').symm
    show _ = m29X7 (m29F7 k j) k t0 t3 t4
    rw [e0]
    exact m29x7 (fun _ f => f) k (loopN (normAt 0 m29A true (m29c [true, true, false, true, true, true])) (fun K s => evC (m29E k) (fun _ f => f) (m29I k) 0 m29A (m29c [true, true, false, true, true, true]) s K) (m29K4 (fun _ f => f) k) j) t0 t3 t4

noncomputable def m29F (k : Nat) (p0 : (List Int)) : Option Int := m29X (m29F7 k k) k p0

theorem m29q (k : Nat) (p0 : (List Int)) : evC (m29E k) (fun _ f => f) (m29I k) 0 m29A (m29c []) (stAt Try.f29 (argSs [.leaf (.val (.row (.int .i64)))] p0) (fun _ => none) 0) (retK Try.prog Try.f29 [.leaf (.val (.int .i64))]) = m29F k p0 := by
    have e7 : m29F7 k k = (fun t0' t3' t4' => loopN (normAt 0 m29A true (m29c [true, true, false, true, true, true])) (fun K s => evC (m29E k) (fun _ f => f) (m29I k) 0 m29A (m29c [true, true, false, true, true, true]) s K) (m29K4 (fun _ f => f) k) k (m29S7 t0' t3' t4')) := funext fun t0' => funext fun t3' => funext fun t4' => (m29q7 k k t0' t3' t4').symm
    show _ = m29X (m29F7 k k) k p0
    rw [e7]
    exact m29x (fun _ f => f) k p0

noncomputable def m29sp : Spec := { ps := [.leaf (.val (.row (.int .i64)))], rs := [.leaf (.val (.int .i64))], f := fun k a => m29F k a }

theorem m29ok (k : Nat) : EnvOk (m29E k) := envOk_of (l := []) (lB := []) progNames progMixed rfl rfl (.nil) (.nil)

theorem m29con (k : Nat) : Contract Try.prog k 29 m29sp := contract_of (E := m29E k) (m29ok k) (A := only 29 m29A) (d := 3) (c := m29c []) (by kernel_rfl) (by kernel_rfl) fun a _ h => (m29q k a).trans h

noncomputable def m30A : Anns := tabA [(15, { keep := [1, 8, 9] }), (20, { keep := [8] })]
noncomputable def m30E (k : Nat) : Env := { P := Try.prog, k := k, G := tabG [(31, m31sp)], GB := tabGB [] }
noncomputable def m30c (p : List Bool) : Code := sub p (bodyOf Try.f30)
noncomputable def m30I (k : Nat) : Inl ((List Int) × Int) := inlOf (m30E k) (only 30 m30A) 3
noncomputable def m30K0 (M : Cut ((List Int) × Int)) (k : Nat) : Exit → St → Option ((List Int) × Int) := seqK (normAt 0 m30A false (m30c [true])) (cutK M m30A (m30c [true]) fun s => evC (m30E k) M (m30I k) 0 m30A (m30c [true]) s (retK Try.prog Try.f30 [.leaf (.own (.int .u8) 5), .leaf (.val (.int .i64))])) (retK Try.prog Try.f30 [.leaf (.own (.int .u8) 5), .leaf (.val (.int .i64))])
noncomputable def m30K1 (M : Cut ((List Int) × Int)) (k : Nat) : Exit → St → Option ((List Int) × Int) := seqK (normAt 0 m30A false (m30c [true, true])) (cutK M m30A (m30c [true, true]) fun s => evC (m30E k) M (m30I k) 0 m30A (m30c [true, true]) s (retK Try.prog Try.f30 [.leaf (.own (.int .u8) 5), .leaf (.val (.int .i64))])) (retK Try.prog Try.f30 [.leaf (.own (.int .u8) 5), .leaf (.val (.int .i64))])
noncomputable def m30K2 (M : Cut ((List Int) × Int)) (k : Nat) : Exit → St → Option ((List Int) × Int) := blockK 0 (m30K1 M k)
noncomputable def m30K3 (M : Cut ((List Int) × Int)) (k : Nat) : Exit → St → Option ((List Int) × Int) := seqK (normAt 0 m30A false (m30c [true, false, true, true])) (cutK M m30A (m30c [true, false, true, true]) fun s => evC (m30E k) M (m30I k) 0 m30A (m30c [true, false, true, true]) s (m30K2 M k)) (m30K2 M k)
noncomputable def m30K4 (M : Cut ((List Int) × Int)) (k : Nat) : Exit → St → Option ((List Int) × Int) := seqK (normAt 0 m30A false (m30c [true, false, true, true, false, true])) (cutK M m30A (m30c [true, false, true, true, false, true]) fun s => evC (m30E k) M (m30I k) 0 m30A (m30c [true, false, true, true, false, true]) s (m30K2 M k)) (m30K2 M k)
noncomputable def m30K5 (M : Cut ((List Int) × Int)) (k : Nat) : Exit → St → Option ((List Int) × Int) := seqK (normAt 0 m30A false (m30c [true, false, true, true, true, true])) (cutK M m30A (m30c [true, false, true, true, true, true]) fun s => evC (m30E k) M (m30I k) 0 m30A (m30c [true, false, true, true, true, true]) s (m30K2 M k)) (m30K2 M k)
noncomputable def m30K6 (M : Cut ((List Int) × Int)) (k : Nat) : Exit → St → Option ((List Int) × Int) := seqK (normAt 0 m30A false (m30c [true, false, true, true, true, true, false, true])) (cutK M m30A (m30c [true, false, true, true, true, true, false, true]) fun s => evC (m30E k) M (m30I k) 0 m30A (m30c [true, false, true, true, true, true, false, true]) s (m30K2 M k)) (m30K2 M k)
noncomputable def m30K7 (M : Cut ((List Int) × Int)) (k : Nat) : Exit → St → Option ((List Int) × Int) := seqK (normAt 0 m30A false (m30c [true, true, true])) (cutK M m30A (m30c [true, true, true]) fun s => evC (m30E k) M (m30I k) 0 m30A (m30c [true, true, true]) s (retK Try.prog Try.f30 [.leaf (.own (.int .u8) 5), .leaf (.val (.int .i64))])) (retK Try.prog Try.f30 [.leaf (.own (.int .u8) 5), .leaf (.val (.int .i64))])
noncomputable def m30K8 (M : Cut ((List Int) × Int)) (k : Nat) : Exit → St → Option ((List Int) × Int) := seqK (normAt 0 m30A false (m30c [true, true, true, true])) (cutK M m30A (m30c [true, true, true, true]) fun s => evC (m30E k) M (m30I k) 0 m30A (m30c [true, true, true, true]) s (retK Try.prog Try.f30 [.leaf (.own (.int .u8) 5), .leaf (.val (.int .i64))])) (retK Try.prog Try.f30 [.leaf (.own (.int .u8) 5), .leaf (.val (.int .i64))])
noncomputable def m30K9 (M : Cut ((List Int) × Int)) (k : Nat) : Exit → St → Option ((List Int) × Int) := seqK (normAt 0 m30A false (m30c [true, true, true, false, true])) (cutK M m30A (m30c [true, true, true, false, true]) fun s => evC (m30E k) M (m30I k) 0 m30A (m30c [true, true, true, false, true]) s (m30K8 M k)) (m30K8 M k)
noncomputable def m30K10 (M : Cut ((List Int) × Int)) (k : Nat) : Exit → St → Option ((List Int) × Int) := blockK 1 (m30K8 M k)
noncomputable def m30K11 (M : Cut ((List Int) × Int)) (k : Nat) (L15 : St → Option ((List Int) × Int)) : Exit → St → Option ((List Int) × Int) := seqK (normAt 0 m30A true (m30c [true, true, true, false, true, true, true])) L15 (m30K10 M k)
noncomputable def m30K12 (M : Cut ((List Int) × Int)) (k : Nat) (L15 : St → Option ((List Int) × Int)) : Exit → St → Option ((List Int) × Int) := seqK (normAt 0 m30A false (m30c [true, true, true, false, true, true, true, true])) (cutK M m30A (m30c [true, true, true, false, true, true, true, true]) fun s => evC (m30E k) M (m30I k) 0 m30A (m30c [true, true, true, false, true, true, true, true]) s (m30K11 M k L15)) (m30K11 M k L15)
noncomputable def m30K13 (M : Cut ((List Int) × Int)) (k : Nat) (L15 : St → Option ((List Int) × Int)) : Exit → St → Option ((List Int) × Int) := seqK (normAt 0 m30A false (m30c [true, true, true, false, true, true, true, false, true])) (cutK M m30A (m30c [true, true, true, false, true, true, true, false, true]) fun s => evC (m30E k) M (m30I k) 0 m30A (m30c [true, true, true, false, true, true, true, false, true]) s (m30K12 M k L15)) (m30K12 M k L15)
noncomputable def m30K14 (M : Cut ((List Int) × Int)) (k : Nat) (L15 : St → Option ((List Int) × Int)) : Exit → St → Option ((List Int) × Int) := seqK (normAt 0 m30A false (m30c [true, true, true, false, true, true, true, true, true])) (cutK M m30A (m30c [true, true, true, false, true, true, true, true, true]) fun s => evC (m30E k) M (m30I k) 0 m30A (m30c [true, true, true, false, true, true, true, true, true]) s (m30K11 M k L15)) (m30K11 M k L15)
noncomputable def m30K15 (M : Cut ((List Int) × Int)) (k : Nat) (L15 : St → Option ((List Int) × Int)) : Exit → St → Option ((List Int) × Int) := blockK 2 (m30K14 M k L15)
noncomputable def m30K16 (M : Cut ((List Int) × Int)) (k : Nat) : Exit → St → Option ((List Int) × Int) := seqK (normAt 0 m30A false (m30c [true, true, true, true, true])) (cutK M m30A (m30c [true, true, true, true, true]) fun s => evC (m30E k) M (m30I k) 0 m30A (m30c [true, true, true, true, true]) s (retK Try.prog Try.f30 [.leaf (.own (.int .u8) 5), .leaf (.val (.int .i64))])) (retK Try.prog Try.f30 [.leaf (.own (.int .u8) 5), .leaf (.val (.int .i64))])
noncomputable def m30S15 (t1 : Int) (t9 : Int) (b0 : List Int) : St := { n := 52, tm := slots [(1, .int .i64 t1), (8, .own 0), (9, .int .i64 t9)], tab := blks [some (.row true (.int .u8) 5 b0)], nx := 1 }
noncomputable def m30S20 (b0 : List Int) : St := { n := 52, tm := slots [(8, .own 0)], tab := blks [some (.row true (.int .u8) 5 b0)], nx := 1 }

noncomputable def m30X (X15 : Int → Int → List Int → Option ((List Int) × Int)) (k : Nat) (p0 : (List Int)) (p1 : Int) (p2 : Int) : Option ((List Int) × Int) := (if ltI p2 1 = true then some (([], 1)) else (if ltI 4 p2 = true then some (([], 1)) else (if ltI p1 0 = true then some (([], 1)) else (if leI 0 (wr IntKind.i64 (8 * p2)) = true then (if leI (wr IntKind.i64 (1 * Mini.p2 (min (Int.toNat (wr IntKind.i64 (8 * p2))) 64))) p1 = true then some (([], 1)) else (if ltI (wr IntKind.i64 (4096 - p2)) (↑(List.length p0) : Int) = true then some (([], 2)) else (Option.bind (m31F k p0) fun (c5 : (List Int)) => X15 p1 (wr IntKind.i64 (p2 - 1)) c5))) else none))))

theorem m30x (M : Cut ((List Int) × Int)) (k : Nat) (p0 : (List Int)) (p1 : Int) (p2 : Int) : evC (m30E k) M (m30I k) 0 m30A (m30c []) (stAt Try.f30 (argSs [.leaf (.val (.row (.int .u8))), .leaf (.val (.int .i64)), .leaf (.val (.int .i64))] (p0, p1, p2)) (fun _ => none) 0) (retK Try.prog Try.f30 [.leaf (.own (.int .u8) 5), .leaf (.val (.int .i64))]) = m30X (fun t1' t9' b0' => loopN (normAt 0 m30A true (m30c [true, true, true, false, true, true, true])) (fun K s => evC (m30E k) M (m30I k) 0 m30A (m30c [true, true, true, false, true, true, true]) s K) (m30K10 M k) k (m30S15 t1' t9' b0')) k p0 p1 p2 := by kernel_rfl

noncomputable def m30X15 (X20 : List Int → Option ((List Int) × Int)) (L15 : Int → Int → List Int → Option ((List Int) × Int)) (k : Nat) (t1 : Int) (t9 : Int) (b0 : List Int) : Option ((List Int) × Int) := (if leI 0 t9 = true then (if leI 0 (wr IntKind.i64 (8 * t9)) = true then (if leI
    (↑((List.length b0 +
            List.length
              (List.set (List.replicate 1 0) 0
                (wr IntKind.u8 (t1 / p2 (min (Int.toNat (wr IntKind.i64 (8 * t9))) 64))))) *
          1) :
      Int)
    140737488355328 =
  true then L15 t1 (wr IntKind.i64 (t9 - 1)) (b0 ++ List.set (List.replicate 1 0) 0 (wr IntKind.u8 (t1 / p2 (min (Int.toNat (wr IntKind.i64 (8 * t9))) 64)))) else none) else none) else X20 b0)

theorem m30x15 (M : Cut ((List Int) × Int)) (k : Nat) (L15 : St → Option ((List Int) × Int)) (t1 : Int) (t9 : Int) (b0 : List Int) : evC (m30E k) M (m30I k) 0 m30A (m30c [true, true, true, false, true, true, true]) (m30S15 t1 t9 b0) (seqK (normAt 0 m30A true (m30c [true, true, true, false, true, true, true])) L15 (m30K10 M k)) = m30X15 (fun b0' => M 20 (fun s => evC (m30E k) M (m30I k) 0 m30A (m30c [true, true, true, true]) s (retK Try.prog Try.f30 [.leaf (.own (.int .u8) 5), .leaf (.val (.int .i64))])) (m30S20 b0')) (fun t1' t9' b0' => L15 (m30S15 t1' t9' b0')) k t1 t9 b0 := by kernel_rfl

noncomputable def m30X20 (k : Nat) (b0 : List Int) : Option ((List Int) × Int) := (Option.bind (m31F k b0) fun (c3 : (List Int)) => some ((c3, 0)))

theorem m30x20 (M : Cut ((List Int) × Int)) (k : Nat) (b0 : List Int) : evC (m30E k) M (m30I k) 0 m30A (m30c [true, true, true, true]) (m30S20 b0) (retK Try.prog Try.f30 [.leaf (.own (.int .u8) 5), .leaf (.val (.int .i64))]) = m30X20 k b0 := by kernel_rfl

noncomputable def m30F20 (k : Nat) (b0 : List Int) : Option ((List Int) × Int) := m30X20 k b0

theorem m30q20 (k : Nat) (b0 : List Int) : evC (m30E k) (fun _ f => f) (m30I k) 0 m30A (m30c [true, true, true, true]) (m30S20 b0) (retK Try.prog Try.f30 [.leaf (.own (.int .u8) 5), .leaf (.val (.int .i64))]) = m30F20 k b0 := by
    show _ = m30X20 k b0
    exact m30x20 (fun _ f => f) k b0

noncomputable def m30F15 (k : Nat) : Nat → Int → Int → List Int → Option ((List Int) × Int)
  | 0, _, _, _ => none
  | j + 1, t1, t9, b0 => m30X15 (m30F20 k) (m30F15 k j) k t1 t9 b0

theorem m30q15 (k : Nat) : ∀ (j : Nat) (t1 : Int) (t9 : Int) (b0 : List Int), loopN (normAt 0 m30A true (m30c [true, true, true, false, true, true, true])) (fun K s => evC (m30E k) (fun _ f => f) (m30I k) 0 m30A (m30c [true, true, true, false, true, true, true]) s K) (m30K10 (fun _ f => f) k) j (m30S15 t1 t9 b0) = m30F15 k j t1 t9 b0
  | 0, _, _, _ => rfl
  | j + 1, t1, t9, b0 => by
    have e0 : m30F15 k j = (fun t1' t9' b0' => loopN (normAt 0 m30A true (m30c [true, true, true, false, true, true, true])) (fun K s => evC (m30E k) (fun _ f => f) (m30I k) 0 m30A (m30c [true, true, true, false, true, true, true]) s K) (m30K10 (fun _ f => f) k) j (m30S15 t1' t9' b0')) := funext fun t1' => funext fun t9' => funext fun b0' => (m30q15 k j t1' t9' b0').symm
    have e20 : m30F20 k = (fun b0' => evC (m30E k) (fun _ f => f) (m30I k) 0 m30A (m30c [true, true, true, true]) (m30S20 b0') (retK Try.prog Try.f30 [.leaf (.own (.int .u8) 5), .leaf (.val (.int .i64))])) := funext fun b0' => (m30q20 k b0').symm
    show _ = m30X15 (m30F20 k) (m30F15 k j) k t1 t9 b0
    rw [e0, e20]
    exact m30x15 (fun _ f => f) k (loopN (normAt 0 m30A true (m30c [true, true, true, false, true, true, true])) (fun K s => evC (m30E k) (fun _ f => f) (m30I k) 0 m30A (m30c [true, true, true, false, true, true, true]) s K) (m30K10 (fun _ f => f) k) j) t1 t9 b0

noncomputable def m30F (k : Nat) (p0 : (List Int)) (p1 : Int) (p2 : Int) : Option ((List Int) × Int) := m30X (m30F15 k k) k p0 p1 p2

theorem m30q (k : Nat) (p0 : (List Int)) (p1 : Int) (p2 : Int) : evC (m30E k) (fun _ f => f) (m30I k) 0 m30A (m30c []) (stAt Try.f30 (argSs [.leaf (.val (.row (.int .u8))), .leaf (.val (.int .i64)), .leaf (.val (.int .i64))] (p0, p1, p2)) (fun _ => none) 0) (retK Try.prog Try.f30 [.leaf (.own (.int .u8) 5), .leaf (.val (.int .i64))]) = m30F k p0 p1 p2 := by
    have e15 : m30F15 k k = (fun t1' t9' b0' => loopN (normAt 0 m30A true (m30c [true, true, true, false, true, true, true])) (fun K s => evC (m30E k) (fun _ f => f) (m30I k) 0 m30A (m30c [true, true, true, false, true, true, true]) s K) (m30K10 (fun _ f => f) k) k (m30S15 t1' t9' b0')) := funext fun t1' => funext fun t9' => funext fun b0' => (m30q15 k k t1' t9' b0').symm
    show _ = m30X (m30F15 k k) k p0 p1 p2
    rw [e15]
    exact m30x (fun _ f => f) k p0 p1 p2

noncomputable def m30sp : Spec := { ps := [.leaf (.val (.row (.int .u8))), .leaf (.val (.int .i64)), .leaf (.val (.int .i64))], rs := [.leaf (.own (.int .u8) 5), .leaf (.val (.int .i64))], f := fun k a => m30F k a.1 a.2.1 a.2.2 }

theorem m30ok (k : Nat) : EnvOk (m30E k) := envOk_of (l := [(31, m31sp)]) (lB := []) progNames progMixed rfl rfl (.cons ⟨m31con k, Try.f31, by kernel_rfl, by kernel_rfl⟩ (.nil)) (.nil)

theorem m30con (k : Nat) : Contract Try.prog k 30 m30sp := contract_of (E := m30E k) (m30ok k) (A := only 30 m30A) (d := 3) (c := m30c []) (by kernel_rfl) (by kernel_rfl) fun a _ h => (m30q k a.1 a.2.1 a.2.2).trans h

end Go.Proofs.Ytiblpnglmicjcaa.Mini
