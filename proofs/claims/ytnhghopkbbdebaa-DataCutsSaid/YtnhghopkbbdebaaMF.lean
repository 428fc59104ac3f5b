/- Printed by a program of this session's (MPrint, over wip/mini): plain functions of the program's, and that they are what it does. Lean checks it. -/
import Derived.Test.YtnhghopkbbdebaaXMO
import Derived.Test.YtnhghopkbbdebaaProg
import Derived.KernelRfl
set_option linter.unusedVariables false
namespace Go.Proofs.Ytnhghopkbbdebaa.Mini
open Go Go.RowKit Go.Proofs
theorem progNames : (Try.prog.funcs.all fun f => !(f.name == "runtime.NumGoroutine")) = true := by kernel_rfl
theorem progMixed : Try.prog.follows .mixedOrders = true := by kernel_rfl

noncomputable def m9A : Anns := tabA []
noncomputable def m9E (k : Nat) : Env := { P := Try.prog, k := k, G := tabG [] }
noncomputable def m9c (p : List Bool) : Code := sub p (bodyOf Try.f9)
noncomputable def m9I (k : Nat) : Inl (List Int) := inlOf (m9E k) (only 9 m9A) 3
noncomputable def m9K0 (M : Cut (List Int)) (k : Nat) : Exit → St → Option (List Int) := seqK (normAt 0 m9A false (m9c [true])) (cutK M m9A (m9c [true]) fun s => evC (m9E k) M (m9I k) 0 m9A (m9c [true]) s (retK Try.prog Try.f9 [.leaf (.own (.int .u8) 5)])) (retK Try.prog Try.f9 [.leaf (.own (.int .u8) 5)])
noncomputable def m9K1 (M : Cut (List Int)) (k : Nat) : Exit → St → Option (List Int) := seqK (normAt 0 m9A false (m9c [true, true])) (cutK M m9A (m9c [true, true]) fun s => evC (m9E k) M (m9I k) 0 m9A (m9c [true, true]) s (retK Try.prog Try.f9 [.leaf (.own (.int .u8) 5)])) (retK Try.prog Try.f9 [.leaf (.own (.int .u8) 5)])
noncomputable def m9K2 (M : Cut (List Int)) (k : Nat) : Exit → St → Option (List Int) := seqK (normAt 0 m9A false (m9c [true, true, true])) (cutK M m9A (m9c [true, true, true]) fun s => evC (m9E k) M (m9I k) 0 m9A (m9c [true, true, true]) s (retK Try.prog Try.f9 [.leaf (.own (.int .u8) 5)])) (retK Try.prog Try.f9 [.leaf (.own (.int .u8) 5)])

noncomputable def m9X (k : Nat) (p0 : (List Int)) : Option (List Int) := (if leI (↑(List.length p0 * 1) : Int) 140737488355328 = true then some p0 else none)

theorem m9x (M : Cut (List Int)) (k : Nat) (p0 : (List Int)) : evC (m9E k) M (m9I k) 0 m9A (m9c []) (stAt Try.f9 (argSs [.leaf (.val (.row (.int .u8)))] p0) (fun _ => none) 0) (retK Try.prog Try.f9 [.leaf (.own (.int .u8) 5)]) = m9X k p0 := by kernel_rfl

noncomputable def m9F (k : Nat) (p0 : (List Int)) : Option (List Int) := m9X k p0

theorem m9q (k : Nat) (p0 : (List Int)) : evC (m9E k) (fun _ f => f) (m9I k) 0 m9A (m9c []) (stAt Try.f9 (argSs [.leaf (.val (.row (.int .u8)))] p0) (fun _ => none) 0) (retK Try.prog Try.f9 [.leaf (.own (.int .u8) 5)]) = m9F k p0 := by
    show _ = m9X k p0
    exact m9x (fun _ f => f) k p0

noncomputable def m9sp : Spec := { ps := [.leaf (.val (.row (.int .u8)))], rs := [.leaf (.own (.int .u8) 5)], f := fun k a => m9F k a }

theorem m9ok (k : Nat) : EnvOk (m9E k) := envOk_of (l := []) progNames progMixed rfl (.nil)

theorem m9con (k : Nat) : Contract Try.prog k 9 m9sp := contract_of (E := m9E k) (m9ok k) (A := only 9 m9A) (d := 3) (c := m9c []) (by kernel_rfl) (by kernel_rfl) fun a _ h => (m9q k a).trans h

noncomputable def m26A : Anns := tabA [(7, { keep := [1, 4], mat := [(1, (.int .i64), 3)] }), (15, { keep := [1, 3, 4, 9] }), (24, { keep := [1, 3, 4] })]
noncomputable def m26E (k : Nat) : Env := { P := Try.prog, k := k, G := tabG [] }
noncomputable def m26c (p : List Bool) : Code := sub p (bodyOf Try.f26)
noncomputable def m26I (k : Nat) : Inl (List Int) := inlOf (m26E k) (only 26 m26A) 3
noncomputable def m26K0 (M : Cut (List Int)) (k : Nat) : Exit → St → Option (List Int) := seqK (normAt 0 m26A false (m26c [true])) (cutK M m26A (m26c [true]) fun s => evC (m26E k) M (m26I k) 0 m26A (m26c [true]) s (retK Try.prog Try.f26 [.leaf (.own (.int .i64) 3)])) (retK Try.prog Try.f26 [.leaf (.own (.int .i64) 3)])
noncomputable def m26K1 (M : Cut (List Int)) (k : Nat) : Exit → St → Option (List Int) := seqK (normAt 0 m26A false (m26c [true, true])) (cutK M m26A (m26c [true, true]) fun s => evC (m26E k) M (m26I k) 0 m26A (m26c [true, true]) s (retK Try.prog Try.f26 [.leaf (.own (.int .i64) 3)])) (retK Try.prog Try.f26 [.leaf (.own (.int .i64) 3)])
noncomputable def m26K2 (M : Cut (List Int)) (k : Nat) : Exit → St → Option (List Int) := seqK (normAt 0 m26A false (m26c [true, true, true])) (cutK M m26A (m26c [true, true, true]) fun s => evC (m26E k) M (m26I k) 0 m26A (m26c [true, true, true]) s (retK Try.prog Try.f26 [.leaf (.own (.int .i64) 3)])) (retK Try.prog Try.f26 [.leaf (.own (.int .i64) 3)])
noncomputable def m26K3 (M : Cut (List Int)) (k : Nat) : Exit → St → Option (List Int) := seqK (normAt 0 m26A false (m26c [true, true, false, true])) (cutK M m26A (m26c [true, true, false, true]) fun s => evC (m26E k) M (m26I k) 0 m26A (m26c [true, true, false, true]) s (m26K2 M k)) (m26K2 M k)
noncomputable def m26K4 (M : Cut (List Int)) (k : Nat) : Exit → St → Option (List Int) := blockK 0 (m26K2 M k)
noncomputable def m26K5 (M : Cut (List Int)) (k : Nat) (L7 : St → Option (List Int)) : Exit → St → Option (List Int) := seqK (normAt 0 m26A true (m26c [true, true, false, true, true, true])) L7 (m26K4 M k)
noncomputable def m26K6 (M : Cut (List Int)) (k : Nat) (L7 : St → Option (List Int)) : Exit → St → Option (List Int) := seqK (normAt 0 m26A false (m26c [true, true, false, true, true, true, true])) (cutK M m26A (m26c [true, true, false, true, true, true, true]) fun s => evC (m26E k) M (m26I k) 0 m26A (m26c [true, true, false, true, true, true, true]) s (m26K5 M k L7)) (m26K5 M k L7)
noncomputable def m26K7 (M : Cut (List Int)) (k : Nat) (L7 : St → Option (List Int)) : Exit → St → Option (List Int) := seqK (normAt 0 m26A false (m26c [true, true, false, true, true, true, true, true])) (cutK M m26A (m26c [true, true, false, true, true, true, true, true]) fun s => evC (m26E k) M (m26I k) 0 m26A (m26c [true, true, false, true, true, true, true, true]) s (m26K5 M k L7)) (m26K5 M k L7)
noncomputable def m26K8 (M : Cut (List Int)) (k : Nat) (L7 : St → Option (List Int)) : Exit → St → Option (List Int) := seqK (normAt 0 m26A false (m26c [true, true, false, true, true, true, true, true, true])) (cutK M m26A (m26c [true, true, false, true, true, true, true, true, true]) fun s => evC (m26E k) M (m26I k) 0 m26A (m26c [true, true, false, true, true, true, true, true, true]) s (m26K5 M k L7)) (m26K5 M k L7)
noncomputable def m26K9 (M : Cut (List Int)) (k : Nat) (L7 : St → Option (List Int)) : Exit → St → Option (List Int) := blockK 1 (m26K8 M k L7)
noncomputable def m26K10 (M : Cut (List Int)) (k : Nat) (L7 : St → Option (List Int)) : Exit → St → Option (List Int) := seqK (normAt 0 m26A false (m26c [true, true, false, true, true, true, true, true, false, true, true])) (cutK M m26A (m26c [true, true, false, true, true, true, true, true, false, true, true]) fun s => evC (m26E k) M (m26I k) 0 m26A (m26c [true, true, false, true, true, true, true, true, false, true, true]) s (m26K9 M k L7)) (m26K9 M k L7)
noncomputable def m26K11 (M : Cut (List Int)) (k : Nat) (L7 : St → Option (List Int)) : Exit → St → Option (List Int) := seqK (normAt 0 m26A false (m26c [true, true, false, true, true, true, true, true, false, true, true, true])) (cutK M m26A (m26c [true, true, false, true, true, true, true, true, false, true, true, true]) fun s => evC (m26E k) M (m26I k) 0 m26A (m26c [true, true, false, true, true, true, true, true, false, true, true, true]) s (m26K9 M k L7)) (m26K9 M k L7)
noncomputable def m26K12 (M : Cut (List Int)) (k : Nat) (L7 : St → Option (List Int)) : Exit → St → Option (List Int) := seqK (normAt 0 m26A false (m26c [true, true, false, true, true, true, true, true, false, true, true, true, true])) (cutK M m26A (m26c [true, true, false, true, true, true, true, true, false, true, true, true, true]) fun s => evC (m26E k) M (m26I k) 0 m26A (m26c [true, true, false, true, true, true, true, true, false, true, true, true, true]) s (m26K9 M k L7)) (m26K9 M k L7)
noncomputable def m26K13 (M : Cut (List Int)) (k : Nat) (L7 : St → Option (List Int)) : Exit → St → Option (List Int) := seqK (normAt 0 m26A false (m26c [true, true, false, true, true, true, true, true, false, true, true, true, false, true])) (cutK M m26A (m26c [true, true, false, true, true, true, true, true, false, true, true, true, false, true]) fun s => evC (m26E k) M (m26I k) 0 m26A (m26c [true, true, false, true, true, true, true, true, false, true, true, true, false, true]) s (m26K12 M k L7)) (m26K12 M k L7)
noncomputable def m26K14 (M : Cut (List Int)) (k : Nat) (L7 : St → Option (List Int)) : Exit → St → Option (List Int) := blockK 2 (m26K12 M k L7)
noncomputable def m26K15 (M : Cut (List Int)) (k : Nat) (L7 : St → Option (List Int)) (L15 : St → Option (List Int)) : Exit → St → Option (List Int) := seqK (normAt 0 m26A true (m26c [true, true, false, true, true, true, true, true, false, true, true, true, false, true, true, true])) L15 (m26K14 M k L7)
noncomputable def m26K16 (M : Cut (List Int)) (k : Nat) (L7 : St → Option (List Int)) (L15 : St → Option (List Int)) : Exit → St → Option (List Int) := seqK (normAt 0 m26A false (m26c [true, true, false, true, true, true, true, true, false, true, true, true, false, true, true, true, true])) (cutK M m26A (m26c [true, true, false, true, true, true, true, true, false, true, true, true, false, true, true, true, true]) fun s => evC (m26E k) M (m26I k) 0 m26A (m26c [true, true, false, true, true, true, true, true, false, true, true, true, false, true, true, true, true]) s (m26K15 M k L7 L15)) (m26K15 M k L7 L15)
noncomputable def m26K17 (M : Cut (List Int)) (k : Nat) (L7 : St → Option (List Int)) (L15 : St → Option (List Int)) : Exit → St → Option (List Int) := seqK (normAt 0 m26A false (m26c [true, true, false, true, true, true, true, true, false, true, true, true, false, true, true, true, true, true])) (cutK M m26A (m26c [true, true, false, true, true, true, true, true, false, true, true, true, false, true, true, true, true, true]) fun s => evC (m26E k) M (m26I k) 0 m26A (m26c [true, true, false, true, true, true, true, true, false, true, true, true, false, true, true, true, true, true]) s (m26K15 M k L7 L15)) (m26K15 M k L7 L15)
noncomputable def m26K18 (M : Cut (List Int)) (k : Nat) (L7 : St → Option (List Int)) (L15 : St → Option (List Int)) : Exit → St → Option (List Int) := seqK (normAt 0 m26A false (m26c [true, true, false, true, true, true, true, true, false, true, true, true, false, true, true, true, true, true, true])) (cutK M m26A (m26c [true, true, false, true, true, true, true, true, false, true, true, true, false, true, true, true, true, true, true]) fun s => evC (m26E k) M (m26I k) 0 m26A (m26c [true, true, false, true, true, true, true, true, false, true, true, true, false, true, true, true, true, true, true]) s (m26K15 M k L7 L15)) (m26K15 M k L7 L15)
noncomputable def m26K19 (M : Cut (List Int)) (k : Nat) (L7 : St → Option (List Int)) (L15 : St → Option (List Int)) : Exit → St → Option (List Int) := blockK 3 (m26K18 M k L7 L15)
noncomputable def m26K20 (M : Cut (List Int)) (k : Nat) (L7 : St → Option (List Int)) (L15 : St → Option (List Int)) : Exit → St → Option (List Int) := seqK (normAt 0 m26A false (m26c [true, true, false, true, true, true, true, true, false, true, true, true, false, true, true, true, true, true, false, true, true])) (cutK M m26A (m26c [true, true, false, true, true, true, true, true, false, true, true, true, false, true, true, true, true, true, false, true, true]) fun s => evC (m26E k) M (m26I k) 0 m26A (m26c [true, true, false, true, true, true, true, true, false, true, true, true, false, true, true, true, true, true, false, true, true]) s (m26K19 M k L7 L15)) (m26K19 M k L7 L15)
noncomputable def m26K21 (M : Cut (List Int)) (k : Nat) (L7 : St → Option (List Int)) (L15 : St → Option (List Int)) : Exit → St → Option (List Int) := seqK (normAt 0 m26A false (m26c [true, true, false, true, true, true, true, true, false, true, true, true, false, true, true, true, true, true, false, true, true, true])) (cutK M m26A (m26c [true, true, false, true, true, true, true, true, false, true, true, true, false, true, true, true, true, true, false, true, true, true]) fun s => evC (m26E k) M (m26I k) 0 m26A (m26c [true, true, false, true, true, true, true, true, false, true, true, true, false, true, true, true, true, true, false, true, true, true]) s (m26K19 M k L7 L15)) (m26K19 M k L7 L15)
noncomputable def m26K22 (M : Cut (List Int)) (k : Nat) : Exit → St → Option (List Int) := seqK (normAt 0 m26A false (m26c [true, true, true, true])) (cutK M m26A (m26c [true, true, true, true]) fun s => evC (m26E k) M (m26I k) 0 m26A (m26c [true, true, true, true]) s (retK Try.prog Try.f26 [.leaf (.own (.int .i64) 3)])) (retK Try.prog Try.f26 [.leaf (.own (.int .i64) 3)])
noncomputable def m26S7 (t4 : Int) (b0 : List Int) : St := { n := 25, tm := slots [(1, .own 0), (4, .int .i64 t4)], tab := blks [some (.row true (.int .i64) 3 b0)], nx := 1 }
noncomputable def m26S15 (t3 : Int) (t4 : Int) (t9 : Int) (b0 : List Int) : St := { n := 25, tm := slots [(1, .own 0), (3, .int .i64 t3), (4, .int .i64 t4), (9, .int .i64 t9)], tab := blks [some (.row true (.int .i64) 3 b0)], nx := 1 }
noncomputable def m26S24 (t3 : Int) (t4 : Int) (b0 : List Int) : St := { n := 25, tm := slots [(1, .own 0), (3, .int .i64 t3), (4, .int .i64 t4)], tab := blks [some (.row true (.int .i64) 3 b0)], nx := 1 }

noncomputable def m26X (X7 : Int → List Int → Option (List Int)) (k : Nat) : Option (List Int) := X7 (0) ([])

theorem m26x (M : Cut (List Int)) (k : Nat) : evC (m26E k) M (m26I k) 0 m26A (m26c []) (stAt Try.f26 (argSs [] ()) (fun _ => none) 0) (retK Try.prog Try.f26 [.leaf (.own (.int .i64) 3)]) = m26X (fun t4' b0' => loopN (normAt 0 m26A true (m26c [true, true, false, true, true, true])) (fun K s => evC (m26E k) M (m26I k) 0 m26A (m26c [true, true, false, true, true, true]) s K) (m26K4 M k) k (m26S7 t4' b0')) k := by kernel_rfl

noncomputable def m26X7 (X15 : Int → Int → Int → List Int → Option (List Int)) (k : Nat) (t4 : Int) (b0 : List Int) : Option (List Int) := (if ltI t4 256 = true then (if leI 0 8 = true then X15 (wr IntKind.i64 (t4 * 256)) t4 (0) b0 else none) else some b0)

theorem m26x7 (M : Cut (List Int)) (k : Nat) (L7 : St → Option (List Int)) (t4 : Int) (b0 : List Int) : evC (m26E k) M (m26I k) 0 m26A (m26c [true, true, false, true, true, true]) (m26S7 t4 b0) (seqK (normAt 0 m26A true (m26c [true, true, false, true, true, true])) L7 (m26K4 M k)) = m26X7 (fun t3' t4' t9' b0' => loopN (normAt 0 m26A true (m26c [true, true, false, true, true, true, true, true, false, true, true, true, false, true, true, true])) (fun K s => evC (m26E k) M (m26I k) 0 m26A (m26c [true, true, false, true, true, true, true, true, false, true, true, true, false, true, true, true]) s K) (m26K14 M k L7) k (m26S15 t3' t4' t9' b0')) k t4 b0 := by kernel_rfl

noncomputable def m26X15 (X24 : Int → Int → List Int → Option (List Int)) (L15 : Int → Int → Int → List Int → Option (List Int)) (k : Nat) (t3 : Int) (t4 : Int) (t9 : Int) (b0 : List Int) : Option (List Int) := (if ltI t9 8 = true then (if leI 0 1 = true then (if ltI 65535 (wr IntKind.i64 (t3 * 2)) = true then L15 (bits BinOp.xor IntKind.i64 (bits BinOp.and IntKind.i64 (wr IntKind.i64 (t3 * 2)) 65535) 4129) t4 (wr IntKind.i64 (t9 + 1)) b0 else L15 (wr IntKind.i64 (t3 * 2)) t4 (wr IntKind.i64 (t9 + 1)) b0) else none) else X24 t3 t4 b0)

theorem m26x15 (M : Cut (List Int)) (k : Nat) (L7 : St → Option (List Int)) (L15 : St → Option (List Int)) (t3 : Int) (t4 : Int) (t9 : Int) (b0 : List Int) : evC (m26E k) M (m26I k) 0 m26A (m26c [true, true, false, true, true, true, true, true, false, true, true, true, false, true, true, true]) (m26S15 t3 t4 t9 b0) (seqK (normAt 0 m26A true (m26c [true, true, false, true, true, true, true, true, false, true, true, true, false, true, true, true])) L15 (m26K14 M k L7)) = m26X15 (fun t3' t4' b0' => M 24 (fun s => evC (m26E k) M (m26I k) 0 m26A (m26c [true, true, false, true, true, true, true, true, false, true, true, true, true]) s (m26K9 M k L7)) (m26S24 t3' t4' b0')) (fun t3' t4' t9' b0' => L15 (m26S15 t3' t4' t9' b0')) k t3 t4 t9 b0 := by kernel_rfl

noncomputable def m26X24 (L7 : Int → List Int → Option (List Int)) (k : Nat) (t3 : Int) (t4 : Int) (b0 : List Int) : Option (List Int) := (if leI (↑((List.length b0 + List.length (List.set (List.replicate 1 0) 0 t3)) * 8) : Int) 140737488355328 = true then L7 (wr IntKind.i64 (t4 + 1)) (b0 ++ List.set (List.replicate 1 0) 0 t3) else none)

theorem m26x24 (M : Cut (List Int)) (k : Nat) (L7 : St → Option (List Int)) (t3 : Int) (t4 : Int) (b0 : List Int) : evC (m26E k) M (m26I k) 0 m26A (m26c [true, true, false, true, true, true, true, true, false, true, true, true, true]) (m26S24 t3 t4 b0) (m26K9 M k L7) = m26X24 (fun t4' b0' => L7 (m26S7 t4' b0')) k t3 t4 b0 := by kernel_rfl

noncomputable def m26F24 (k : Nat) (L7 : Int → List Int → Option (List Int)) (t3 : Int) (t4 : Int) (b0 : List Int) : Option (List Int) := m26X24 L7 k t3 t4 b0

theorem m26q24 (k : Nat) (L7 : St → Option (List Int)) (t3 : Int) (t4 : Int) (b0 : List Int) : evC (m26E k) (fun _ f => f) (m26I k) 0 m26A (m26c [true, true, false, true, true, true, true, true, false, true, true, true, true]) (m26S24 t3 t4 b0) (m26K9 (fun _ f => f) k L7) = m26F24 k (fun t4' b0' => L7 (m26S7 t4' b0')) t3 t4 b0 := by
    show _ = m26X24 (fun t4' b0' => L7 (m26S7 t4' b0')) k t3 t4 b0
    exact m26x24 (fun _ f => f) k L7 t3 t4 b0

noncomputable def m26F15 (k : Nat) (L7 : Int → List Int → Option (List Int)) : Nat → Int → Int → Int → List Int → Option (List Int)
  | 0, _, _, _, _ => none
  | j + 1, t3, t4, t9, b0 => m26X15 (m26F24 k L7) (m26F15 k L7 j) k t3 t4 t9 b0

theorem m26q15 (k : Nat) (L7 : St → Option (List Int)) : ∀ (j : Nat) (t3 : Int) (t4 : Int) (t9 : Int) (b0 : List Int), loopN (normAt 0 m26A true (m26c [true, true, false, true, true, true, true, true, false, true, true, true, false, true, true, true])) (fun K s => evC (m26E k) (fun _ f => f) (m26I k) 0 m26A (m26c [true, true, false, true, true, true, true, true, false, true, true, true, false, true, true, true]) s K) (m26K14 (fun _ f => f) k L7) j (m26S15 t3 t4 t9 b0) = m26F15 k (fun t4' b0' => L7 (m26S7 t4' b0')) j t3 t4 t9 b0
  | 0, _, _, _, _ => rfl
  | j + 1, t3, t4, t9, b0 => by
    have e0 : m26F15 k (fun t4' b0' => L7 (m26S7 t4' b0')) j = (fun t3' t4' t9' b0' => loopN (normAt 0 m26A true (m26c [true, true, false, true, true, true, true, true, false, true, true, true, false, true, true, true])) (fun K s => evC (m26E k) (fun _ f => f) (m26I k) 0 m26A (m26c [true, true, false, true, true, true, true, true, false, true, true, true, false, true, true, true]) s K) (m26K14 (fun _ f => f) k L7) j (m26S15 t3' t4' t9' b0')) := funext fun t3' => funext fun t4' => funext fun t9' => funext fun b0' => (m26q15 k L7 j t3' t4' t9' b0').symm
    have e24 : m26F24 k (fun t4' b0' => L7 (m26S7 t4' b0')) = (fun t3' t4' b0' => evC (m26E k) (fun _ f => f) (m26I k) 0 m26A (m26c [true, true, false, true, true, true, true, true, false, true, true, true, true]) (m26S24 t3' t4' b0') (m26K9 (fun _ f => f) k L7)) := funext fun t3' => funext fun t4' => funext fun b0' => (m26q24 k L7 t3' t4' b0').symm
    show _ = m26X15 (m26F24 k (fun t4' b0' => L7 (m26S7 t4' b0'))) (m26F15 k (fun t4' b0' => L7 (m26S7 t4' b0')) j) k t3 t4 t9 b0
    rw [e0, e24]
    exact m26x15 (fun _ f => f) k L7 (loopN (normAt 0 m26A true (m26c [true, true, false, true, true, true, true, true, false, true, true, true, false, true, true, true])) (fun K s => evC (m26E k) (fun _ f => f) (m26I k) 0 m26A (m26c [true, true, false, true, true, true, true, true, false, true, true, true, false, true, true, true]) s K) (m26K14 (fun _ f => f) k L7) j) t3 t4 t9 b0

noncomputable def m26F7 (k : Nat) : Nat → Int → List Int → Option (List Int)
  | 0, _, _ => none
  | j + 1, t4, b0 => m26X7 (m26F15 k (m26F7 k j) k) k t4 b0

theorem m26q7 (k : Nat) : ∀ (j : Nat) (t4 : Int) (b0 : List Int), loopN (normAt 0 m26A true (m26c [true, true, false, true, true, true])) (fun K s => evC (m26E k) (fun _ f => f) (m26I k) 0 m26A (m26c [true, true, false, true, true, true]) s K) (m26K4 (fun _ f => f) k) j (m26S7 t4 b0) = m26F7 k j t4 b0
  | 0, _, _ => rfl
  | j + 1, t4, b0 => by
    have e0 : m26F7 k j = (fun t4' b0' => loopN (normAt 0 m26A true (m26c [true, true, false, true, true, true])) (fun K s => evC (m26E k) (fun _ f => f) (m26I k) 0 m26A (m26c [true, true, false, true, true, true]) s K) (m26K4 (fun _ f => f) k) j (m26S7 t4' b0')) := funext fun t4' => funext fun b0' => (m26q7 k j t4' b0').symm
    have e15 : m26F15 k (fun t4' b0' => loopN (normAt 0 m26A true (m26c [true, true, false, true, true, true])) (fun K s => evC (m26E k) (fun _ f => f) (m26I k) 0 m26A (m26c [true, true, false, true, true, true]) s K) (m26K4 (fun _ f => f) k) j (m26S7 t4' b0')) k = (fun t3' t4' t9' b0' => loopN (normAt 0 m26A true (m26c [true, true, false, true, true, true, true, true, false, true, true, true, false, true, true, true])) (fun K s => evC (m26E k) (fun _ f => f) (m26I k) 0 m26A (m26c [true, true, false, true, true, true, true, true, false, true, true, true, false, true, true, true]) s K) (m26K14 (fun _ f => f) k (loopN (normAt 0 m26A true (m26c [true, true, false, true, true, true])) (fun K s => evC (m26E k) (fun _ f => f) (m26I k) 0 m26A (m26c [true, true, false, true, true, true]) s K) (m26K4 (fun _ f => f) k) j)) k (m26S15 t3' t4' t9' b0')) := funext fun t3' => funext fun t4' => funext fun t9' => funext fun b0' => (m26q15 k (loopN (normAt 0 m26A true (m26c [true, true, false, true, true, true])) (fun K s => evC (m26E k) (fun _ f => f) (m26I k) 0 m26A (m26c [true, true, false, true, true, true]) s K) (m26K4 (fun _ f => f) k) j) k t3' t4' t9' b0').symm
    show _ = m26X7 (m26F15 k (m26F7 k j) k) k t4 b0
    rw [e0, e15]
    exact m26x7 (fun _ f => f) k (loopN (normAt 0 m26A true (m26c [true, true, false, true, true, true])) (fun K s => evC (m26E k) (fun _ f => f) (m26I k) 0 m26A (m26c [true, true, false, true, true, true]) s K) (m26K4 (fun _ f => f) k) j) t4 b0

noncomputable def m26F (k : Nat) : Option (List Int) := m26X (m26F7 k k) k

theorem m26q (k : Nat) : evC (m26E k) (fun _ f => f) (m26I k) 0 m26A (m26c []) (stAt Try.f26 (argSs [] ()) (fun _ => none) 0) (retK Try.prog Try.f26 [.leaf (.own (.int .i64) 3)]) = m26F k := by
    have e7 : m26F7 k k = (fun t4' b0' => loopN (normAt 0 m26A true (m26c [true, true, false, true, true, true])) (fun K s => evC (m26E k) (fun _ f => f) (m26I k) 0 m26A (m26c [true, true, false, true, true, true]) s K) (m26K4 (fun _ f => f) k) k (m26S7 t4' b0')) := funext fun t4' => funext fun b0' => (m26q7 k k t4' b0').symm
    show _ = m26X (m26F7 k k) k
    rw [e7]
    exact m26x (fun _ f => f) k

noncomputable def m26sp : Spec := { ps := [], rs := [.leaf (.own (.int .i64) 3)], f := fun k a => m26F k }

theorem m26ok (k : Nat) : EnvOk (m26E k) := envOk_of (l := []) progNames progMixed rfl (.nil)

theorem m26con (k : Nat) : Contract Try.prog k 26 m26sp := contract_of (E := m26E k) (m26ok k) (A := only 26 m26A) (d := 3) (c := m26c []) (by kernel_rfl) (by kernel_rfl) fun a _ h => (m26q k).trans h

noncomputable def m19A : Anns := tabA [(11, { keep := [4, 5, 12, 13, 14] }), (18, { keep := [5] })]
noncomputable def m19E (k : Nat) : Env := { P := Try.prog, k := k, G := tabG [(26, m26sp)] }
noncomputable def m19c (p : List Bool) : Code := sub p (bodyOf Try.f19)
noncomputable def m19I (k : Nat) : Inl (Int × Int) := inlOf (m19E k) (only 19 m19A) 3
noncomputable def m19K0 (M : Cut (Int × Int)) (k : Nat) : Exit → St → Option (Int × Int) := seqK (normAt 0 m19A false (m19c [true])) (cutK M m19A (m19c [true]) fun s => evC (m19E k) M (m19I k) 0 m19A (m19c [true]) s (retK Try.prog Try.f19 [.leaf (.val (.int .i64)), .leaf (.val (.int .i64))])) (retK Try.prog Try.f19 [.leaf (.val (.int .i64)), .leaf (.val (.int .i64))])
noncomputable def m19K1 (M : Cut (Int × Int)) (k : Nat) : Exit → St → Option (Int × Int) := seqK (normAt 0 m19A false (m19c [true, true])) (cutK M m19A (m19c [true, true]) fun s => evC (m19E k) M (m19I k) 0 m19A (m19c [true, true]) s (retK Try.prog Try.f19 [.leaf (.val (.int .i64)), .leaf (.val (.int .i64))])) (retK Try.prog Try.f19 [.leaf (.val (.int .i64)), .leaf (.val (.int .i64))])
noncomputable def m19K2 (M : Cut (Int × Int)) (k : Nat) : Exit → St → Option (Int × Int) := seqK (normAt 0 m19A false (m19c [true, false, true])) (cutK M m19A (m19c [true, false, true]) fun s => evC (m19E k) M (m19I k) 0 m19A (m19c [true, false, true]) s (m19K1 M k)) (m19K1 M k)
noncomputable def m19K3 (M : Cut (Int × Int)) (k : Nat) : Exit → St → Option (Int × Int) := seqK (normAt 0 m19A false (m19c [true, false, true, false, true])) (cutK M m19A (m19c [true, false, true, false, true]) fun s => evC (m19E k) M (m19I k) 0 m19A (m19c [true, false, true, false, true]) s (m19K1 M k)) (m19K1 M k)
noncomputable def m19K4 (M : Cut (Int × Int)) (k : Nat) : Exit → St → Option (Int × Int) := seqK (normAt 0 m19A false (m19c [true, true, true])) (cutK M m19A (m19c [true, true, true]) fun s => evC (m19E k) M (m19I k) 0 m19A (m19c [true, true, true]) s (retK Try.prog Try.f19 [.leaf (.val (.int .i64)), .leaf (.val (.int .i64))])) (retK Try.prog Try.f19 [.leaf (.val (.int .i64)), .leaf (.val (.int .i64))])
noncomputable def m19K5 (M : Cut (Int × Int)) (k : Nat) : Exit → St → Option (Int × Int) := seqK (normAt 0 m19A false (m19c [true, true, true, true])) (cutK M m19A (m19c [true, true, true, true]) fun s => evC (m19E k) M (m19I k) 0 m19A (m19c [true, true, true, true]) s (retK Try.prog Try.f19 [.leaf (.val (.int .i64)), .leaf (.val (.int .i64))])) (retK Try.prog Try.f19 [.leaf (.val (.int .i64)), .leaf (.val (.int .i64))])
noncomputable def m19K6 (M : Cut (Int × Int)) (k : Nat) : Exit → St → Option (Int × Int) := seqK (normAt 0 m19A false (m19c [true, true, true, false, true])) (cutK M m19A (m19c [true, true, true, false, true]) fun s => evC (m19E k) M (m19I k) 0 m19A (m19c [true, true, true, false, true]) s (m19K5 M k)) (m19K5 M k)
noncomputable def m19K7 (M : Cut (Int × Int)) (k : Nat) : Exit → St → Option (Int × Int) := blockK 0 (m19K5 M k)
noncomputable def m19K8 (M : Cut (Int × Int)) (k : Nat) (L11 : St → Option (Int × Int)) : Exit → St → Option (Int × Int) := seqK (normAt 0 m19A true (m19c [true, true, true, false, true, true, true])) L11 (m19K7 M k)
noncomputable def m19K9 (M : Cut (Int × Int)) (k : Nat) (L11 : St → Option (Int × Int)) : Exit → St → Option (Int × Int) := seqK (normAt 0 m19A false (m19c [true, true, true, false, true, true, true, true])) (cutK M m19A (m19c [true, true, true, false, true, true, true, true]) fun s => evC (m19E k) M (m19I k) 0 m19A (m19c [true, true, true, false, true, true, true, true]) s (m19K8 M k L11)) (m19K8 M k L11)
noncomputable def m19K10 (M : Cut (Int × Int)) (k : Nat) (L11 : St → Option (Int × Int)) : Exit → St → Option (Int × Int) := seqK (normAt 0 m19A false (m19c [true, true, true, false, true, true, true, true, true])) (cutK M m19A (m19c [true, true, true, false, true, true, true, true, true]) fun s => evC (m19E k) M (m19I k) 0 m19A (m19c [true, true, true, false, true, true, true, true, true]) s (m19K8 M k L11)) (m19K8 M k L11)
noncomputable def m19K11 (M : Cut (Int × Int)) (k : Nat) (L11 : St → Option (Int × Int)) : Exit → St → Option (Int × Int) := seqK (normAt 0 m19A false (m19c [true, true, true, false, true, true, true, true, true, true])) (cutK M m19A (m19c [true, true, true, false, true, true, true, true, true, true]) fun s => evC (m19E k) M (m19I k) 0 m19A (m19c [true, true, true, false, true, true, true, true, true, true]) s (m19K8 M k L11)) (m19K8 M k L11)
noncomputable def m19K12 (M : Cut (Int × Int)) (k : Nat) (L11 : St → Option (Int × Int)) : Exit → St → Option (Int × Int) := blockK 1 (m19K11 M k L11)
noncomputable def m19K13 (M : Cut (Int × Int)) (k : Nat) (L11 : St → Option (Int × Int)) : Exit → St → Option (Int × Int) := seqK (normAt 0 m19A false (m19c [true, true, true, false, true, true, true, true, true, false, true, true])) (cutK M m19A (m19c [true, true, true, false, true, true, true, true, true, false, true, true]) fun s => evC (m19E k) M (m19I k) 0 m19A (m19c [true, true, true, false, true, true, true, true, true, false, true, true]) s (m19K12 M k L11)) (m19K12 M k L11)
noncomputable def m19K14 (M : Cut (Int × Int)) (k : Nat) : Exit → St → Option (Int × Int) := seqK (normAt 0 m19A false (m19c [true, true, true, true, true])) (cutK M m19A (m19c [true, true, true, true, true]) fun s => evC (m19E k) M (m19I k) 0 m19A (m19c [true, true, true, true, true]) s (retK Try.prog Try.f19 [.leaf (.val (.int .i64)), .leaf (.val (.int .i64))])) (retK Try.prog Try.f19 [.leaf (.val (.int .i64)), .leaf (.val (.int .i64))])
noncomputable def m19S11 (t5 : Int) (t12 : List Int) (t13 : Int) (t14 : Int) (b0 : List Int) : St := { n := 32, tm := slots [(4, .own 0), (5, .int .i64 t5), (12, .row (.int .u8) t12), (13, .int .i64 t13), (14, .int .i64 t14)], tab := blks [some (.row true (.int .i64) 3 b0)], nx := 1 }
noncomputable def m19S18 (t5 : Int) : St := { n := 32, tm := slots [(5, .int .i64 t5)], tab := blks [], nx := 0 }

noncomputable def m19X (X11 : Int → List Int → Int → Int → List Int → Option (Int × Int)) (k : Nat) (p0 : (List Int)) : Option (Int × Int) := (if ltI 4096 (↑(List.length p0) : Int) = true then some ((0, 2)) else (Option.bind (m26F k) fun (c3 : (List Int)) => X11 (65535) p0 ((↑(List.length p0) : Int)) (0) c3))

theorem m19x (M : Cut (Int × Int)) (k : Nat) (p0 : (List Int)) : evC (m19E k) M (m19I k) 0 m19A (m19c []) (stAt Try.f19 (argSs [.leaf (.val (.row (.int .u8)))] p0) (fun _ => none) 0) (retK Try.prog Try.f19 [.leaf (.val (.int .i64)), .leaf (.val (.int .i64))]) = m19X (fun t5' t12' t13' t14' b0' => loopN (normAt 0 m19A true (m19c [true, true, true, false, true, true, true])) (fun K s => evC (m19E k) M (m19I k) 0 m19A (m19c [true, true, true, false, true, true, true]) s K) (m19K7 M k) k (m19S11 t5' t12' t13' t14' b0')) k p0 := by kernel_rfl

noncomputable def m19X11 (X18 : Int → Option (Int × Int)) (L11 : Int → List Int → Int → Int → List Int → Option (Int × Int)) (k : Nat) (t5 : Int) (t12 : List Int) (t13 : Int) (t14 : Int) (b0 : List Int) : Option (Int × Int) := (if ltI t14 t13 = true then (if leI 0 t14 = true then (if ltI t14 (↑(List.length t12) : Int) = true then (if leI 0 8 = true then (if leI 0 8 = true then (if leI 0 (bits BinOp.xor IntKind.i64 (t5 / 256) (wr IntKind.i64 (List.getD t12 (Int.toNat t14) 0))) = true then (if ltI (bits BinOp.xor IntKind.i64 (t5 / 256) (wr IntKind.i64 (List.getD t12 (Int.toNat t14) 0)))
    (↑(List.length b0) : Int) =
  true then L11 (bits BinOp.xor IntKind.i64 (bits BinOp.and IntKind.i64 (wr IntKind.i64 (t5 * 256)) 65535)
  (List.getD b0 (Int.toNat (bits BinOp.xor IntKind.i64 (t5 / 256) (wr IntKind.i64 (List.getD t12 (Int.toNat t14) 0))))
    0)) t12 t13 (wr IntKind.i64 (t14 + 1)) b0 else none) else none) else none) else none) else none) else none) else X18 t5)

theorem m19x11 (M : Cut (Int × Int)) (k : Nat) (L11 : St → Option (Int × Int)) (t5 : Int) (t12 : List Int) (t13 : Int) (t14 : Int) (b0 : List Int) : evC (m19E k) M (m19I k) 0 m19A (m19c [true, true, true, false, true, true, true]) (m19S11 t5 t12 t13 t14 b0) (seqK (normAt 0 m19A true (m19c [true, true, true, false, true, true, true])) L11 (m19K7 M k)) = m19X11 (fun t5' => M 18 (fun s => evC (m19E k) M (m19I k) 0 m19A (m19c [true, true, true, true]) s (retK Try.prog Try.f19 [.leaf (.val (.int .i64)), .leaf (.val (.int .i64))])) (m19S18 t5')) (fun t5' t12' t13' t14' b0' => L11 (m19S11 t5' t12' t13' t14' b0')) k t5 t12 t13 t14 b0 := by kernel_rfl

noncomputable def m19X18 (k : Nat) (t5 : Int) : Option (Int × Int) := some ((t5, 0))

theorem m19x18 (M : Cut (Int × Int)) (k : Nat) (t5 : Int) : evC (m19E k) M (m19I k) 0 m19A (m19c [true, true, true, true]) (m19S18 t5) (retK Try.prog Try.f19 [.leaf (.val (.int .i64)), .leaf (.val (.int .i64))]) = m19X18 k t5 := by kernel_rfl

noncomputable def m19F18 (k : Nat) (t5 : Int) : Option (Int × Int) := m19X18 k t5

theorem m19q18 (k : Nat) (t5 : Int) : evC (m19E k) (fun _ f => f) (m19I k) 0 m19A (m19c [true, true, true, true]) (m19S18 t5) (retK Try.prog Try.f19 [.leaf (.val (.int .i64)), .leaf (.val (.int .i64))]) = m19F18 k t5 := by
    show _ = m19X18 k t5
    exact m19x18 (fun _ f => f) k t5

noncomputable def m19F11 (k : Nat) : Nat → Int → List Int → Int → Int → List Int → Option (Int × Int)
  | 0, _, _, _, _, _ => none
  | j + 1, t5, t12, t13, t14, b0 => m19X11 (m19F18 k) (m19F11 k j) k t5 t12 t13 t14 b0

theorem m19q11 (k : Nat) : ∀ (j : Nat) (t5 : Int) (t12 : List Int) (t13 : Int) (t14 : Int) (b0 : List Int), loopN (normAt 0 m19A true (m19c [true, true, true, false, true, true, true])) (fun K s => evC (m19E k) (fun _ f => f) (m19I k) 0 m19A (m19c [true, true, true, false, true, true, true]) s K) (m19K7 (fun _ f => f) k) j (m19S11 t5 t12 t13 t14 b0) = m19F11 k j t5 t12 t13 t14 b0
  | 0, _, _, _, _, _ => rfl
  | j + 1, t5, t12, t13, t14, b0 => by
    have e0 : m19F11 k j = (fun t5' t12' t13' t14' b0' => loopN (normAt 0 m19A true (m19c [true, true, true, false, true, true, true])) (fun K s => evC (m19E k) (fun _ f => f) (m19I k) 0 m19A (m19c [true, true, true, false, true, true, true]) s K) (m19K7 (fun _ f => f) k) j (m19S11 t5' t12' t13' t14' b0')) := funext fun t5' => funext fun t12' => funext fun t13' => funext fun t14' => funext fun b0' => (m19q11 k j t5' t12' t13' t14' b0').symm
    have e18 : m19F18 k = (fun t5' => evC (m19E k) (fun _ f => f) (m19I k) 0 m19A (m19c [true, true, true, true]) (m19S18 t5') (retK Try.prog Try.f19 [.leaf (.val (.int .i64)), .leaf (.val (.int .i64))])) := funext fun t5' => (m19q18 k t5').symm
    show _ = m19X11 (m19F18 k) (m19F11 k j) k t5 t12 t13 t14 b0
    rw [e0, e18]
    exact m19x11 (fun _ f => f) k (loopN (normAt 0 m19A true (m19c [true, true, true, false, true, true, true])) (fun K s => evC (m19E k) (fun _ f => f) (m19I k) 0 m19A (m19c [true, true, true, false, true, true, true]) s K) (m19K7 (fun _ f => f) k) j) t5 t12 t13 t14 b0

noncomputable def m19F (k : Nat) (p0 : (List Int)) : Option (Int × Int) := m19X (m19F11 k k) k p0

theorem m19q (k : Nat) (p0 : (List Int)) : evC (m19E k) (fun _ f => f) (m19I k) 0 m19A (m19c []) (stAt Try.f19 (argSs [.leaf (.val (.row (.int .u8)))] p0) (fun _ => none) 0) (retK Try.prog Try.f19 [.leaf (.val (.int .i64)), .leaf (.val (.int .i64))]) = m19F k p0 := by
    have e11 : m19F11 k k = (fun t5' t12' t13' t14' b0' => loopN (normAt 0 m19A true (m19c [true, true, true, false, true, true, true])) (fun K s => evC (m19E k) (fun _ f => f) (m19I k) 0 m19A (m19c [true, true, true, false, true, true, true]) s K) (m19K7 (fun _ f => f) k) k (m19S11 t5' t12' t13' t14' b0')) := funext fun t5' => funext fun t12' => funext fun t13' => funext fun t14' => funext fun b0' => (m19q11 k k t5' t12' t13' t14' b0').symm
    show _ = m19X (m19F11 k k) k p0
    rw [e11]
    exact m19x (fun _ f => f) k p0

noncomputable def m19sp : Spec := { ps := [.leaf (.val (.row (.int .u8)))], rs := [.leaf (.val (.int .i64)), .leaf (.val (.int .i64))], f := fun k a => m19F k a }

theorem m19ok (k : Nat) : EnvOk (m19E k) := envOk_of (l := [(26, m26sp)]) progNames progMixed rfl (.cons ⟨m26con k, Try.f26, by kernel_rfl, by kernel_rfl⟩ (.nil))

theorem m19con (k : Nat) : Contract Try.prog k 19 m19sp := contract_of (E := m19E k) (m19ok k) (A := only 19 m19A) (d := 3) (c := m19c []) (by kernel_rfl) (by kernel_rfl) fun a _ h => (m19q k a).trans h

noncomputable def m24A : Anns := tabA []
noncomputable def m24E (k : Nat) : Env := { P := Try.prog, k := k, G := tabG [] }
noncomputable def m24c (p : List Bool) : Code := sub p (bodyOf Try.f24)
noncomputable def m24I (k : Nat) : Inl (List Int) := inlOf (m24E k) (only 24 m24A) 3
noncomputable def m24K0 (M : Cut (List Int)) (k : Nat) : Exit → St → Option (List Int) := seqK (normAt 0 m24A false (m24c [true])) (cutK M m24A (m24c [true]) fun s => evC (m24E k) M (m24I k) 0 m24A (m24c [true]) s (retK Try.prog Try.f24 [.leaf (.own (.int .u8) 5)])) (retK Try.prog Try.f24 [.leaf (.own (.int .u8) 5)])
noncomputable def m24K1 (M : Cut (List Int)) (k : Nat) : Exit → St → Option (List Int) := seqK (normAt 0 m24A false (m24c [true, true])) (cutK M m24A (m24c [true, true]) fun s => evC (m24E k) M (m24I k) 0 m24A (m24c [true, true]) s (retK Try.prog Try.f24 [.leaf (.own (.int .u8) 5)])) (retK Try.prog Try.f24 [.leaf (.own (.int .u8) 5)])
noncomputable def m24K2 (M : Cut (List Int)) (k : Nat) : Exit → St → Option (List Int) := seqK (normAt 0 m24A false (m24c [true, false, true])) (cutK M m24A (m24c [true, false, true]) fun s => evC (m24E k) M (m24I k) 0 m24A (m24c [true, false, true]) s (m24K1 M k)) (m24K1 M k)
noncomputable def m24K3 (M : Cut (List Int)) (k : Nat) : Exit → St → Option (List Int) := seqK (normAt 0 m24A false (m24c [true, false, true, false, true])) (cutK M m24A (m24c [true, false, true, false, true]) fun s => evC (m24E k) M (m24I k) 0 m24A (m24c [true, false, true, false, true]) s (m24K1 M k)) (m24K1 M k)
noncomputable def m24K4 (M : Cut (List Int)) (k : Nat) : Exit → St → Option (List Int) := seqK (normAt 0 m24A false (m24c [true, true, true])) (cutK M m24A (m24c [true, true, true]) fun s => evC (m24E k) M (m24I k) 0 m24A (m24c [true, true, true]) s (retK Try.prog Try.f24 [.leaf (.own (.int .u8) 5)])) (retK Try.prog Try.f24 [.leaf (.own (.int .u8) 5)])

noncomputable def m24X (k : Nat) (p0 : (List Int)) : Option (List Int) := (nilK (List.isEmpty p0) (some ([])) ((if leI (↑((0 + List.length p0) * 1) : Int) 140737488355328 = true then some (List.replicate 0 0 ++ p0) else none)))

theorem m24x (M : Cut (List Int)) (k : Nat) (p0 : (List Int)) : evC (m24E k) M (m24I k) 0 m24A (m24c []) (stAt Try.f24 (argSs [.leaf (.val (.row (.int .u8)))] p0) (fun _ => none) 0) (retK Try.prog Try.f24 [.leaf (.own (.int .u8) 5)]) = m24X k p0 := by kernel_rfl

noncomputable def m24F (k : Nat) (p0 : (List Int)) : Option (List Int) := m24X k p0

theorem m24q (k : Nat) (p0 : (List Int)) : evC (m24E k) (fun _ f => f) (m24I k) 0 m24A (m24c []) (stAt Try.f24 (argSs [.leaf (.val (.row (.int .u8)))] p0) (fun _ => none) 0) (retK Try.prog Try.f24 [.leaf (.own (.int .u8) 5)]) = m24F k p0 := by
    show _ = m24X k p0
    exact m24x (fun _ f => f) k p0

noncomputable def m24sp : Spec := { ps := [.leaf (.val (.row (.int .u8)))], rs := [.leaf (.own (.int .u8) 5)], f := fun k a => m24F k a }

theorem m24ok (k : Nat) : EnvOk (m24E k) := envOk_of (l := []) progNames progMixed rfl (.nil)

theorem m24con (k : Nat) : Contract Try.prog k 24 m24sp := contract_of (E := m24E k) (m24ok k) (A := only 24 m24A) (d := 3) (c := m24c []) (by kernel_rfl) (by kernel_rfl) fun a _ h => (m24q k a).trans h

noncomputable def m20A : Anns := tabA [(15, { keep := [1, 8, 9] }), (20, { keep := [8] })]
noncomputable def m20E (k : Nat) : Env := { P := Try.prog, k := k, G := tabG [(24, m24sp)] }
noncomputable def m20c (p : List Bool) : Code := sub p (bodyOf Try.f20)
noncomputable def m20I (k : Nat) : Inl ((List Int) × Int) := inlOf (m20E k) (only 20 m20A) 3
noncomputable def m20K0 (M : Cut ((List Int) × Int)) (k : Nat) : Exit → St → Option ((List Int) × Int) := seqK (normAt 0 m20A false (m20c [true])) (cutK M m20A (m20c [true]) fun s => evC (m20E k) M (m20I k) 0 m20A (m20c [true]) s (retK Try.prog Try.f20 [.leaf (.own (.int .u8) 5), .leaf (.val (.int .i64))])) (retK Try.prog Try.f20 [.leaf (.own (.int .u8) 5), .leaf (.val (.int .i64))])
noncomputable def m20K1 (M : Cut ((List Int) × Int)) (k : Nat) : Exit → St → Option ((List Int) × Int) := seqK (normAt 0 m20A false (m20c [true, true])) (cutK M m20A (m20c [true, true]) fun s => evC (m20E k) M (m20I k) 0 m20A (m20c [true, true]) s (retK Try.prog Try.f20 [.leaf (.own (.int .u8) 5), .leaf (.val (.int .i64))])) (retK Try.prog Try.f20 [.leaf (.own (.int .u8) 5), .leaf (.val (.int .i64))])
noncomputable def m20K2 (M : Cut ((List Int) × Int)) (k : Nat) : Exit → St → Option ((List Int) × Int) := blockK 0 (m20K1 M k)
noncomputable def m20K3 (M : Cut ((List Int) × Int)) (k : Nat) : Exit → St → Option ((List Int) × Int) := seqK (normAt 0 m20A false (m20c [true, false, true, true])) (cutK M m20A (m20c [true, false, true, true]) fun s => evC (m20E k) M (m20I k) 0 m20A (m20c [true, false, true, true]) s (m20K2 M k)) (m20K2 M k)
noncomputable def m20K4 (M : Cut ((List Int) × Int)) (k : Nat) : Exit → St → Option ((List Int) × Int) := seqK (normAt 0 m20A false (m20c [true, false, true, true, false, true])) (cutK M m20A (m20c [true, false, true, true, false, true]) fun s => evC (m20E k) M (m20I k) 0 m20A (m20c [true, false, true, true, false, true]) s (m20K2 M k)) (m20K2 M k)
noncomputable def m20K5 (M : Cut ((List Int) × Int)) (k : Nat) : Exit → St → Option ((List Int) × Int) := seqK (normAt 0 m20A false (m20c [true, false, true, true, true, true])) (cutK M m20A (m20c [true, false, true, true, true, true]) fun s => evC (m20E k) M (m20I k) 0 m20A (m20c [true, false, true, true, true, true]) s (m20K2 M k)) (m20K2 M k)
noncomputable def m20K6 (M : Cut ((List Int) × Int)) (k : Nat) : Exit → St → Option ((List Int) × Int) := seqK (normAt 0 m20A false (m20c [true, false, true, true, true, true, false, true])) (cutK M m20A (m20c [true, false, true, true, true, true, false, true]) fun s => evC (m20E k) M (m20I k) 0 m20A (m20c [true, false, true, true, true, true, false, true]) s (m20K2 M k)) (m20K2 M k)
noncomputable def m20K7 (M : Cut ((List Int) × Int)) (k : Nat) : Exit → St → Option ((List Int) × Int) := seqK (normAt 0 m20A false (m20c [true, true, true])) (cutK M m20A (m20c [true, true, true]) fun s => evC (m20E k) M (m20I k) 0 m20A (m20c [true, true, true]) s (retK Try.prog Try.f20 [.leaf (.own (.int .u8) 5), .leaf (.val (.int .i64))])) (retK Try.prog Try.f20 [.leaf (.own (.int .u8) 5), .leaf (.val (.int .i64))])
noncomputable def m20K8 (M : Cut ((List Int) × Int)) (k : Nat) : Exit → St → Option ((List Int) × Int) := seqK (normAt 0 m20A false (m20c [true, true, true, true])) (cutK M m20A (m20c [true, true, true, true]) fun s => evC (m20E k) M (m20I k) 0 m20A (m20c [true, true, true, true]) s (retK Try.prog Try.f20 [.leaf (.own (.int .u8) 5), .leaf (.val (.int .i64))])) (retK Try.prog Try.f20 [.leaf (.own (.int .u8) 5), .leaf (.val (.int .i64))])
noncomputable def m20K9 (M : Cut ((List Int) × Int)) (k : Nat) : Exit → St → Option ((List Int) × Int) := seqK (normAt 0 m20A false (m20c [true, true, true, false, true])) (cutK M m20A (m20c [true, true, true, false, true]) fun s => evC (m20E k) M (m20I k) 0 m20A (m20c [true, true, true, false, true]) s (m20K8 M k)) (m20K8 M k)
noncomputable def m20K10 (M : Cut ((List Int) × Int)) (k : Nat) : Exit → St → Option ((List Int) × Int) := blockK 1 (m20K8 M k)
noncomputable def m20K11 (M : Cut ((List Int) × Int)) (k : Nat) (L15 : St → Option ((List Int) × Int)) : Exit → St → Option ((List Int) × Int) := seqK (normAt 0 m20A true (m20c [true, true, true, false, true, true, true])) L15 (m20K10 M k)
noncomputable def m20K12 (M : Cut ((List Int) × Int)) (k : Nat) (L15 : St → Option ((List Int) × Int)) : Exit → St → Option ((List Int) × Int) := seqK (normAt 0 m20A false (m20c [true, true, true, false, true, true, true, true])) (cutK M m20A (m20c [true, true, true, false, true, true, true, true]) fun s => evC (m20E k) M (m20I k) 0 m20A (m20c [true, true, true, false, true, true, true, true]) s (m20K11 M k L15)) (m20K11 M k L15)
noncomputable def m20K13 (M : Cut ((List Int) × Int)) (k : Nat) (L15 : St → Option ((List Int) × Int)) : Exit → St → Option ((List Int) × Int) := seqK (normAt 0 m20A false (m20c [true, true, true, false, true, true, true, false, true])) (cutK M m20A (m20c [true, true, true, false, true, true, true, false, true]) fun s => evC (m20E k) M (m20I k) 0 m20A (m20c [true, true, true, false, true, true, true, false, true]) s (m20K12 M k L15)) (m20K12 M k L15)
noncomputable def m20K14 (M : Cut ((List Int) × Int)) (k : Nat) (L15 : St → Option ((List Int) × Int)) : Exit → St → Option ((List Int) × Int) := seqK (normAt 0 m20A false (m20c [true, true, true, false, true, true, true, true, true])) (cutK M m20A (m20c [true, true, true, false, true, true, true, true, true]) fun s => evC (m20E k) M (m20I k) 0 m20A (m20c [true, true, true, false, true, true, true, true, true]) s (m20K11 M k L15)) (m20K11 M k L15)
noncomputable def m20K15 (M : Cut ((List Int) × Int)) (k : Nat) (L15 : St → Option ((List Int) × Int)) : Exit → St → Option ((List Int) × Int) := blockK 2 (m20K14 M k L15)
noncomputable def m20K16 (M : Cut ((List Int) × Int)) (k : Nat) : Exit → St → Option ((List Int) × Int) := seqK (normAt 0 m20A false (m20c [true, true, true, true, true])) (cutK M m20A (m20c [true, true, true, true, true]) fun s => evC (m20E k) M (m20I k) 0 m20A (m20c [true, true, true, true, true]) s (retK Try.prog Try.f20 [.leaf (.own (.int .u8) 5), .leaf (.val (.int .i64))])) (retK Try.prog Try.f20 [.leaf (.own (.int .u8) 5), .leaf (.val (.int .i64))])
noncomputable def m20S15 (t1 : Int) (t9 : Int) (b0 : List Int) : St := { n := 52, tm := slots [(1, .int .i64 t1), (8, .own 0), (9, .int .i64 t9)], tab := blks [some (.row true (.int .u8) 5 b0)], nx := 1 }
noncomputable def m20S20 (b0 : List Int) : St := { n := 52, tm := slots [(8, .own 0)], tab := blks [some (.row true (.int .u8) 5 b0)], nx := 1 }

noncomputable def m20X (X15 : Int → Int → List Int → Option ((List Int) × Int)) (k : Nat) (p0 : (List Int)) (p1 : Int) (p2 : Int) : Option ((List Int) × Int) := (if ltI p2 1 = true then some (([], 1)) else (if ltI 4 p2 = true then some (([], 1)) else (if ltI p1 0 = true then some (([], 1)) else (if leI 0 (wr IntKind.i64 (8 * p2)) = true then (if leI (wr IntKind.i64 (1 * Mini.p2 (min (Int.toNat (wr IntKind.i64 (8 * p2))) 64))) p1 = true then some (([], 1)) else (if ltI (wr IntKind.i64 (4096 - p2)) (↑(List.length p0) : Int) = true then some (([], 2)) else (Option.bind (m24F k p0) fun (c5 : (List Int)) => X15 p1 (wr IntKind.i64 (p2 - 1)) c5))) else none))))

theorem m20x (M : Cut ((List Int) × Int)) (k : Nat) (p0 : (List Int)) (p1 : Int) (p2 : Int) : evC (m20E k) M (m20I k) 0 m20A (m20c []) (stAt Try.f20 (argSs [.leaf (.val (.row (.int .u8))), .leaf (.val (.int .i64)), .leaf (.val (.int .i64))] (p0, p1, p2)) (fun _ => none) 0) (retK Try.prog Try.f20 [.leaf (.own (.int .u8) 5), .leaf (.val (.int .i64))]) = m20X (fun t1' t9' b0' => loopN (normAt 0 m20A true (m20c [true, true, true, false, true, true, true])) (fun K s => evC (m20E k) M (m20I k) 0 m20A (m20c [true, true, true, false, true, true, true]) s K) (m20K10 M k) k (m20S15 t1' t9' b0')) k p0 p1 p2 := by kernel_rfl

noncomputable def m20X15 (X20 : List Int → Option ((List Int) × Int)) (L15 : Int → Int → List Int → Option ((List Int) × Int)) (k : Nat) (t1 : Int) (t9 : Int) (b0 : List Int) : Option ((List Int) × Int) := (if leI 0 t9 = true then (if leI 0 (wr IntKind.i64 (8 * t9)) = true then (if leI
    (↑((List.length b0 +
            List.length
              (List.set (List.replicate 1 0) 0
                (wr IntKind.u8 (t1 / p2 (min (Int.toNat (wr IntKind.i64 (8 * t9))) 64))))) *
          1) :
      Int)
    140737488355328 =
  true then L15 t1 (wr IntKind.i64 (t9 - 1)) (b0 ++ List.set (List.replicate 1 0) 0 (wr IntKind.u8 (t1 / p2 (min (Int.toNat (wr IntKind.i64 (8 * t9))) 64)))) else none) else none) else X20 b0)

theorem m20x15 (M : Cut ((List Int) × Int)) (k : Nat) (L15 : St → Option ((List Int) × Int)) (t1 : Int) (t9 : Int) (b0 : List Int) : evC (m20E k) M (m20I k) 0 m20A (m20c [true, true, true, false, true, true, true]) (m20S15 t1 t9 b0) (seqK (normAt 0 m20A true (m20c [true, true, true, false, true, true, true])) L15 (m20K10 M k)) = m20X15 (fun b0' => M 20 (fun s => evC (m20E k) M (m20I k) 0 m20A (m20c [true, true, true, true]) s (retK Try.prog Try.f20 [.leaf (.own (.int .u8) 5), .leaf (.val (.int .i64))])) (m20S20 b0')) (fun t1' t9' b0' => L15 (m20S15 t1' t9' b0')) k t1 t9 b0 := by kernel_rfl

noncomputable def m20X20 (k : Nat) (b0 : List Int) : Option ((List Int) × Int) := (Option.bind (m24F k b0) fun (c3 : (List Int)) => some ((c3, 0)))

theorem m20x20 (M : Cut ((List Int) × Int)) (k : Nat) (b0 : List Int) : evC (m20E k) M (m20I k) 0 m20A (m20c [true, true, true, true]) (m20S20 b0) (retK Try.prog Try.f20 [.leaf (.own (.int .u8) 5), .leaf (.val (.int .i64))]) = m20X20 k b0 := by kernel_rfl

noncomputable def m20F20 (k : Nat) (b0 : List Int) : Option ((List Int) × Int) := m20X20 k b0

theorem m20q20 (k : Nat) (b0 : List Int) : evC (m20E k) (fun _ f => f) (m20I k) 0 m20A (m20c [true, true, true, true]) (m20S20 b0) (retK Try.prog Try.f20 [.leaf (.own (.int .u8) 5), .leaf (.val (.int .i64))]) = m20F20 k b0 := by
    show _ = m20X20 k b0
    exact m20x20 (fun _ f => f) k b0

noncomputable def m20F15 (k : Nat) : Nat → Int → Int → List Int → Option ((List Int) × Int)
  | 0, _, _, _ => none
  | j + 1, t1, t9, b0 => m20X15 (m20F20 k) (m20F15 k j) k t1 t9 b0

theorem m20q15 (k : Nat) : ∀ (j : Nat) (t1 : Int) (t9 : Int) (b0 : List Int), loopN (normAt 0 m20A true (m20c [true, true, true, false, true, true, true])) (fun K s => evC (m20E k) (fun _ f => f) (m20I k) 0 m20A (m20c [true, true, true, false, true, true, true]) s K) (m20K10 (fun _ f => f) k) j (m20S15 t1 t9 b0) = m20F15 k j t1 t9 b0
  | 0, _, _, _ => rfl
  | j + 1, t1, t9, b0 => by
    have e0 : m20F15 k j = (fun t1' t9' b0' => loopN (normAt 0 m20A true (m20c [true, true, true, false, true, true, true])) (fun K s => evC (m20E k) (fun _ f => f) (m20I k) 0 m20A (m20c [true, true, true, false, true, true, true]) s K) (m20K10 (fun _ f => f) k) j (m20S15 t1' t9' b0')) := funext fun t1' => funext fun t9' => funext fun b0' => (m20q15 k j t1' t9' b0').symm
    have e20 : m20F20 k = (fun b0' => evC (m20E k) (fun _ f => f) (m20I k) 0 m20A (m20c [true, true, true, true]) (m20S20 b0') (retK Try.prog Try.f20 [.leaf (.own (.int .u8) 5), .leaf (.val (.int .i64))])) := funext fun b0' => (m20q20 k b0').symm
    show _ = m20X15 (m20F20 k) (m20F15 k j) k t1 t9 b0
    rw [e0, e20]
    exact m20x15 (fun _ f => f) k (loopN (normAt 0 m20A true (m20c [true, true, true, false, true, true, true])) (fun K s => evC (m20E k) (fun _ f => f) (m20I k) 0 m20A (m20c [true, true, true, false, true, true, true]) s K) (m20K10 (fun _ f => f) k) j) t1 t9 b0

noncomputable def m20F (k : Nat) (p0 : (List Int)) (p1 : Int) (p2 : Int) : Option ((List Int) × Int) := m20X (m20F15 k k) k p0 p1 p2

theorem m20q (k : Nat) (p0 : (List Int)) (p1 : Int) (p2 : Int) : evC (m20E k) (fun _ f => f) (m20I k) 0 m20A (m20c []) (stAt Try.f20 (argSs [.leaf (.val (.row (.int .u8))), .leaf (.val (.int .i64)), .leaf (.val (.int .i64))] (p0, p1, p2)) (fun _ => none) 0) (retK Try.prog Try.f20 [.leaf (.own (.int .u8) 5), .leaf (.val (.int .i64))]) = m20F k p0 p1 p2 := by
    have e15 : m20F15 k k = (fun t1' t9' b0' => loopN (normAt 0 m20A true (m20c [true, true, true, false, true, true, true])) (fun K s => evC (m20E k) (fun _ f => f) (m20I k) 0 m20A (m20c [true, true, true, false, true, true, true]) s K) (m20K10 (fun _ f => f) k) k (m20S15 t1' t9' b0')) := funext fun t1' => funext fun t9' => funext fun b0' => (m20q15 k k t1' t9' b0').symm
    show _ = m20X (m20F15 k k) k p0 p1 p2
    rw [e15]
    exact m20x (fun _ f => f) k p0 p1 p2

noncomputable def m20sp : Spec := { ps := [.leaf (.val (.row (.int .u8))), .leaf (.val (.int .i64)), .leaf (.val (.int .i64))], rs := [.leaf (.own (.int .u8) 5), .leaf (.val (.int .i64))], f := fun k a => m20F k a.1 a.2.1 a.2.2 }

theorem m20ok (k : Nat) : EnvOk (m20E k) := envOk_of (l := [(24, m24sp)]) progNames progMixed rfl (.cons ⟨m24con k, Try.f24, by kernel_rfl, by kernel_rfl⟩ (.nil))

theorem m20con (k : Nat) : Contract Try.prog k 20 m20sp := contract_of (E := m20E k) (m20ok k) (A := only 20 m20A) (d := 3) (c := m20c []) (by kernel_rfl) (by kernel_rfl) fun a _ h => (m20q k a.1 a.2.1 a.2.2).trans h

noncomputable def m10A : Anns := tabA []
noncomputable def m10E (k : Nat) : Env := { P := Try.prog, k := k, G := tabG [(19, m19sp), (20, m20sp)] }
noncomputable def m10c (p : List Bool) : Code := sub p (bodyOf Try.f10)
noncomputable def m10I (k : Nat) : Inl ((List Int) × Int) := inlOf (m10E k) (only 10 m10A) 3
noncomputable def m10K0 (M : Cut ((List Int) × Int)) (k : Nat) : Exit → St → Option ((List Int) × Int) := seqK (normAt 0 m10A false (m10c [true])) (cutK M m10A (m10c [true]) fun s => evC (m10E k) M (m10I k) 0 m10A (m10c [true]) s (retK Try.prog Try.f10 [.leaf (.own (.int .u8) 5), .leaf (.val (.int .i64))])) (retK Try.prog Try.f10 [.leaf (.own (.int .u8) 5), .leaf (.val (.int .i64))])
noncomputable def m10K1 (M : Cut ((List Int) × Int)) (k : Nat) : Exit → St → Option ((List Int) × Int) := seqK (normAt 0 m10A false (m10c [true, true])) (cutK M m10A (m10c [true, true]) fun s => evC (m10E k) M (m10I k) 0 m10A (m10c [true, true]) s (retK Try.prog Try.f10 [.leaf (.own (.int .u8) 5), .leaf (.val (.int .i64))])) (retK Try.prog Try.f10 [.leaf (.own (.int .u8) 5), .leaf (.val (.int .i64))])
noncomputable def m10K2 (M : Cut ((List Int) × Int)) (k : Nat) : Exit → St → Option ((List Int) × Int) := blockK 0 (m10K1 M k)
noncomputable def m10K3 (M : Cut ((List Int) × Int)) (k : Nat) : Exit → St → Option ((List Int) × Int) := seqK (normAt 0 m10A false (m10c [true, false, true, true])) (cutK M m10A (m10c [true, false, true, true]) fun s => evC (m10E k) M (m10I k) 0 m10A (m10c [true, false, true, true]) s (m10K2 M k)) (m10K2 M k)
noncomputable def m10K4 (M : Cut ((List Int) × Int)) (k : Nat) : Exit → St → Option ((List Int) × Int) := seqK (normAt 0 m10A false (m10c [true, false, true, true, false, true])) (cutK M m10A (m10c [true, false, true, true, false, true]) fun s => evC (m10E k) M (m10I k) 0 m10A (m10c [true, false, true, true, false, true]) s (m10K2 M k)) (m10K2 M k)
noncomputable def m10K5 (M : Cut ((List Int) × Int)) (k : Nat) : Exit → St → Option ((List Int) × Int) := seqK (normAt 0 m10A false (m10c [true, false, true, true, true, true])) (cutK M m10A (m10c [true, false, true, true, true, true]) fun s => evC (m10E k) M (m10I k) 0 m10A (m10c [true, false, true, true, true, true]) s (m10K2 M k)) (m10K2 M k)
noncomputable def m10K6 (M : Cut ((List Int) × Int)) (k : Nat) : Exit → St → Option ((List Int) × Int) := seqK (normAt 0 m10A false (m10c [true, false, true, true, true, true, false, true])) (cutK M m10A (m10c [true, false, true, true, true, true, false, true]) fun s => evC (m10E k) M (m10I k) 0 m10A (m10c [true, false, true, true, true, true, false, true]) s (m10K2 M k)) (m10K2 M k)
noncomputable def m10K7 (M : Cut ((List Int) × Int)) (k : Nat) : Exit → St → Option ((List Int) × Int) := seqK (normAt 0 m10A false (m10c [true, true, true])) (cutK M m10A (m10c [true, true, true]) fun s => evC (m10E k) M (m10I k) 0 m10A (m10c [true, true, true]) s (retK Try.prog Try.f10 [.leaf (.own (.int .u8) 5), .leaf (.val (.int .i64))])) (retK Try.prog Try.f10 [.leaf (.own (.int .u8) 5), .leaf (.val (.int .i64))])
noncomputable def m10K8 (M : Cut ((List Int) × Int)) (k : Nat) : Exit → St → Option ((List Int) × Int) := seqK (normAt 0 m10A false (m10c [true, true, true, true])) (cutK M m10A (m10c [true, true, true, true]) fun s => evC (m10E k) M (m10I k) 0 m10A (m10c [true, true, true, true]) s (retK Try.prog Try.f10 [.leaf (.own (.int .u8) 5), .leaf (.val (.int .i64))])) (retK Try.prog Try.f10 [.leaf (.own (.int .u8) 5), .leaf (.val (.int .i64))])
noncomputable def m10K9 (M : Cut ((List Int) × Int)) (k : Nat) : Exit → St → Option ((List Int) × Int) := seqK (normAt 0 m10A false (m10c [true, true, true, true, true])) (cutK M m10A (m10c [true, true, true, true, true]) fun s => evC (m10E k) M (m10I k) 0 m10A (m10c [true, true, true, true, true]) s (retK Try.prog Try.f10 [.leaf (.own (.int .u8) 5), .leaf (.val (.int .i64))])) (retK Try.prog Try.f10 [.leaf (.own (.int .u8) 5), .leaf (.val (.int .i64))])
noncomputable def m10K10 (M : Cut ((List Int) × Int)) (k : Nat) : Exit → St → Option ((List Int) × Int) := seqK (normAt 0 m10A false (m10c [true, true, true, true, true, true])) (cutK M m10A (m10c [true, true, true, true, true, true]) fun s => evC (m10E k) M (m10I k) 0 m10A (m10c [true, true, true, true, true, true]) s (retK Try.prog Try.f10 [.leaf (.own (.int .u8) 5), .leaf (.val (.int .i64))])) (retK Try.prog Try.f10 [.leaf (.own (.int .u8) 5), .leaf (.val (.int .i64))])
noncomputable def m10K11 (M : Cut ((List Int) × Int)) (k : Nat) : Exit → St → Option ((List Int) × Int) := seqK (normAt 0 m10A false (m10c [true, true, true, true, true, true, true])) (cutK M m10A (m10c [true, true, true, true, true, true, true]) fun s => evC (m10E k) M (m10I k) 0 m10A (m10c [true, true, true, true, true, true, true]) s (retK Try.prog Try.f10 [.leaf (.own (.int .u8) 5), .leaf (.val (.int .i64))])) (retK Try.prog Try.f10 [.leaf (.own (.int .u8) 5), .leaf (.val (.int .i64))])
noncomputable def m10K12 (M : Cut ((List Int) × Int)) (k : Nat) : Exit → St → Option ((List Int) × Int) := seqK (normAt 0 m10A false (m10c [true, true, true, true, true, true, true, true])) (cutK M m10A (m10c [true, true, true, true, true, true, true, true]) fun s => evC (m10E k) M (m10I k) 0 m10A (m10c [true, true, true, true, true, true, true, true]) s (retK Try.prog Try.f10 [.leaf (.own (.int .u8) 5), .leaf (.val (.int .i64))])) (retK Try.prog Try.f10 [.leaf (.own (.int .u8) 5), .leaf (.val (.int .i64))])
noncomputable def m10K13 (M : Cut ((List Int) × Int)) (k : Nat) : Exit → St → Option ((List Int) × Int) := seqK (normAt 0 m10A false (m10c [true, true, true, true, true, true, true, true, true])) (cutK M m10A (m10c [true, true, true, true, true, true, true, true, true]) fun s => evC (m10E k) M (m10I k) 0 m10A (m10c [true, true, true, true, true, true, true, true, true]) s (retK Try.prog Try.f10 [.leaf (.own (.int .u8) 5), .leaf (.val (.int .i64))])) (retK Try.prog Try.f10 [.leaf (.own (.int .u8) 5), .leaf (.val (.int .i64))])

noncomputable def m10X (k : Nat) (p0 : (Int × (Int × (Int × (List Int))))) : Option ((List Int) × Int) := (if ltI (Prod.fst p0) 0 = true then some (([], 1)) else (if leI 1073741824 (Prod.fst p0) = true then some (([], 1)) else (if ltI (Prod.fst (Prod.snd p0)) 0 = true then some (([], 1)) else (if ltI 255 (Prod.fst (Prod.snd p0)) = true then some (([], 1)) else (if ltI (Prod.fst (Prod.snd (Prod.snd p0))) 0 = true then some (([], 1)) else (if ltI 65535 (Prod.fst (Prod.snd (Prod.snd p0))) = true then some (([], 1)) else (if ltI (↑(List.length (Prod.snd (Prod.snd (Prod.snd p0)))) : Int) 1 = true then some (([], 2)) else (if ltI 64 (↑(List.length (Prod.snd (Prod.snd (Prod.snd p0)))) : Int) = true then some (([], 2)) else (Option.bind (m20F k (List.set (List.replicate 1 0) 0 68) (Prod.fst p0) 4) fun (c3 : ((List Int) × Int)) => (Option.bind (m20F k (Prod.fst c3) (Prod.fst (Prod.snd p0)) 1) fun (c4 : ((List Int) × Int)) => (Option.bind (m20F k (Prod.fst c4) (Prod.fst (Prod.snd (Prod.snd p0))) 2) fun (c5 : ((List Int) × Int)) => (Option.bind (m20F k (Prod.fst c5) (↑(List.length (Prod.snd (Prod.snd (Prod.snd p0)))) : Int) 1) fun (c6 : ((List Int) × Int)) => (Option.bind (m19F k (Prod.fst c6)) fun (c7 : (Int × Int)) => (Option.bind (m20F k (Prod.fst c6) (Prod.fst c7) 2) fun (c8 : ((List Int) × Int)) => (if leI (↑((List.length (Prod.fst c8) + List.length (Prod.snd (Prod.snd (Prod.snd p0)))) * 1) : Int) 140737488355328 = true then some ((Prod.fst c8 ++ Prod.snd (Prod.snd (Prod.snd p0)), 0)) else none)))))))))))))))

theorem m10x (M : Cut ((List Int) × Int)) (k : Nat) (p0 : (Int × (Int × (Int × (List Int))))) : evC (m10E k) M (m10I k) 0 m10A (m10c []) (stAt Try.f10 (argSs [.st (.pair (.int .i64) (.pair (.int .i64) (.pair (.int .i64) (.row (.int .u8)))))] p0) (fun _ => none) 0) (retK Try.prog Try.f10 [.leaf (.own (.int .u8) 5), .leaf (.val (.int .i64))]) = m10X k p0 := by kernel_rfl

noncomputable def m10F (k : Nat) (p0 : (Int × (Int × (Int × (List Int))))) : Option ((List Int) × Int) := m10X k p0

theorem m10q (k : Nat) (p0 : (Int × (Int × (Int × (List Int))))) : evC (m10E k) (fun _ f => f) (m10I k) 0 m10A (m10c []) (stAt Try.f10 (argSs [.st (.pair (.int .i64) (.pair (.int .i64) (.pair (.int .i64) (.row (.int .u8)))))] p0) (fun _ => none) 0) (retK Try.prog Try.f10 [.leaf (.own (.int .u8) 5), .leaf (.val (.int .i64))]) = m10F k p0 := by
    show _ = m10X k p0
    exact m10x (fun _ f => f) k p0

noncomputable def m10sp : Spec := { ps := [.st (.pair (.int .i64) (.pair (.int .i64) (.pair (.int .i64) (.row (.int .u8)))))], rs := [.leaf (.own (.int .u8) 5), .leaf (.val (.int .i64))], f := fun k a => m10F k a }

theorem m10ok (k : Nat) : EnvOk (m10E k) := envOk_of (l := [(19, m19sp), (20, m20sp)]) progNames progMixed rfl (.cons ⟨m19con k, Try.f19, by kernel_rfl, by kernel_rfl⟩ (.cons ⟨m20con k, Try.f20, by kernel_rfl, by kernel_rfl⟩ (.nil)))

theorem m10con (k : Nat) : Contract Try.prog k 10 m10sp := contract_of (E := m10E k) (m10ok k) (A := only 10 m10A) (d := 3) (c := m10c []) (by kernel_rfl) (by kernel_rfl) fun a _ h => (m10q k a).trans h

noncomputable def m14A : Anns := tabA [(9, { keep := [0, 1, 5] })]
noncomputable def m14E (k : Nat) : Env := { P := Try.prog, k := k, G := tabG [] }
noncomputable def m14c (p : List Bool) : Code := sub p (bodyOf Try.f14)
noncomputable def m14I (k : Nat) : Inl Bool := inlOf (m14E k) (only 14 m14A) 3
noncomputable def m14K0 (M : Cut Bool) (k : Nat) : Exit → St → Option Bool := seqK (normAt 0 m14A false (m14c [true])) (cutK M m14A (m14c [true]) fun s => evC (m14E k) M (m14I k) 0 m14A (m14c [true]) s (retK Try.prog Try.f14 [.leaf (.val .bool)])) (retK Try.prog Try.f14 [.leaf (.val .bool)])
noncomputable def m14K1 (M : Cut Bool) (k : Nat) : Exit → St → Option Bool := seqK (normAt 0 m14A false (m14c [true, true])) (cutK M m14A (m14c [true, true]) fun s => evC (m14E k) M (m14I k) 0 m14A (m14c [true, true]) s (retK Try.prog Try.f14 [.leaf (.val .bool)])) (retK Try.prog Try.f14 [.leaf (.val .bool)])
noncomputable def m14K2 (M : Cut Bool) (k : Nat) : Exit → St → Option Bool := seqK (normAt 0 m14A false (m14c [true, false, true])) (cutK M m14A (m14c [true, false, true]) fun s => evC (m14E k) M (m14I k) 0 m14A (m14c [true, false, true]) s (m14K1 M k)) (m14K1 M k)
noncomputable def m14K3 (M : Cut Bool) (k : Nat) : Exit → St → Option Bool := seqK (normAt 0 m14A false (m14c [true, false, true, false, true])) (cutK M m14A (m14c [true, false, true, false, true]) fun s => evC (m14E k) M (m14I k) 0 m14A (m14c [true, false, true, false, true]) s (m14K1 M k)) (m14K1 M k)
noncomputable def m14K4 (M : Cut Bool) (k : Nat) : Exit → St → Option Bool := seqK (normAt 0 m14A false (m14c [true, true, true])) (cutK M m14A (m14c [true, true, true]) fun s => evC (m14E k) M (m14I k) 0 m14A (m14c [true, true, true]) s (retK Try.prog Try.f14 [.leaf (.val .bool)])) (retK Try.prog Try.f14 [.leaf (.val .bool)])
noncomputable def m14K5 (M : Cut Bool) (k : Nat) : Exit → St → Option Bool := seqK (normAt 0 m14A false (m14c [true, true, false, true])) (cutK M m14A (m14c [true, true, false, true]) fun s => evC (m14E k) M (m14I k) 0 m14A (m14c [true, true, false, true]) s (m14K4 M k)) (m14K4 M k)
noncomputable def m14K6 (M : Cut Bool) (k : Nat) : Exit → St → Option Bool := blockK 0 (m14K4 M k)
noncomputable def m14K7 (M : Cut Bool) (k : Nat) (L9 : St → Option Bool) : Exit → St → Option Bool := seqK (normAt 0 m14A true (m14c [true, true, false, true, true, true])) L9 (m14K6 M k)
noncomputable def m14K8 (M : Cut Bool) (k : Nat) (L9 : St → Option Bool) : Exit → St → Option Bool := seqK (normAt 0 m14A false (m14c [true, true, false, true, true, true, true])) (cutK M m14A (m14c [true, true, false, true, true, true, true]) fun s => evC (m14E k) M (m14I k) 0 m14A (m14c [true, true, false, true, true, true, true]) s (m14K7 M k L9)) (m14K7 M k L9)
noncomputable def m14K9 (M : Cut Bool) (k : Nat) (L9 : St → Option Bool) : Exit → St → Option Bool := seqK (normAt 0 m14A false (m14c [true, true, false, true, true, true, false, true])) (cutK M m14A (m14c [true, true, false, true, true, true, false, true]) fun s => evC (m14E k) M (m14I k) 0 m14A (m14c [true, true, false, true, true, true, false, true]) s (m14K8 M k L9)) (m14K8 M k L9)
noncomputable def m14K10 (M : Cut Bool) (k : Nat) (L9 : St → Option Bool) : Exit → St → Option Bool := seqK (normAt 0 m14A false (m14c [true, true, false, true, true, true, true, true])) (cutK M m14A (m14c [true, true, false, true, true, true, true, true]) fun s => evC (m14E k) M (m14I k) 0 m14A (m14c [true, true, false, true, true, true, true, true]) s (m14K7 M k L9)) (m14K7 M k L9)
noncomputable def m14K11 (M : Cut Bool) (k : Nat) (L9 : St → Option Bool) : Exit → St → Option Bool := blockK 1 (m14K10 M k L9)
noncomputable def m14K12 (M : Cut Bool) (k : Nat) (L9 : St → Option Bool) : Exit → St → Option Bool := seqK (normAt 0 m14A false (m14c [true, true, false, true, true, true, true, false, true, true])) (cutK M m14A (m14c [true, true, false, true, true, true, true, false, true, true]) fun s => evC (m14E k) M (m14I k) 0 m14A (m14c [true, true, false, true, true, true, true, false, true, true]) s (m14K11 M k L9)) (m14K11 M k L9)
noncomputable def m14K13 (M : Cut Bool) (k : Nat) (L9 : St → Option Bool) : Exit → St → Option Bool := seqK (normAt 0 m14A false (m14c [true, true, false, true, true, true, true, false, true, true, false, true])) (cutK M m14A (m14c [true, true, false, true, true, true, true, false, true, true, false, true]) fun s => evC (m14E k) M (m14I k) 0 m14A (m14c [true, true, false, true, true, true, true, false, true, true, false, true]) s (m14K11 M k L9)) (m14K11 M k L9)
noncomputable def m14K14 (M : Cut Bool) (k : Nat) : Exit → St → Option Bool := seqK (normAt 0 m14A false (m14c [true, true, true, true])) (cutK M m14A (m14c [true, true, true, true]) fun s => evC (m14E k) M (m14I k) 0 m14A (m14c [true, true, true, true]) s (retK Try.prog Try.f14 [.leaf (.val .bool)])) (retK Try.prog Try.f14 [.leaf (.val .bool)])
noncomputable def m14S9 (t0 : List Int) (t1 : List Int) (t5 : Int) : St := { n := 26, tm := slots [(0, .row (.int .u8) t0), (1, .row (.int .u8) t1), (5, .int .i64 t5)], tab := blks [], nx := 0 }

noncomputable def m14X (X9 : List Int → List Int → Int → Option Bool) (k : Nat) (p0 : (List Int)) (p1 : (List Int)) : Option Bool := (if (!eqI (↑(List.length p0) : Int) (↑(List.length p1) : Int)) = true then some (false) else X9 p0 p1 (0))

theorem m14x (M : Cut Bool) (k : Nat) (p0 : (List Int)) (p1 : (List Int)) : evC (m14E k) M (m14I k) 0 m14A (m14c []) (stAt Try.f14 (argSs [.leaf (.val (.row (.int .u8))), .leaf (.val (.row (.int .u8)))] (p0, p1)) (fun _ => none) 0) (retK Try.prog Try.f14 [.leaf (.val .bool)]) = m14X (fun t0' t1' t5' => loopN (normAt 0 m14A true (m14c [true, true, false, true, true, true])) (fun K s => evC (m14E k) M (m14I k) 0 m14A (m14c [true, true, false, true, true, true]) s K) (m14K6 M k) k (m14S9 t0' t1' t5')) k p0 p1 := by kernel_rfl

noncomputable def m14X9 (L9 : List Int → List Int → Int → Option Bool) (k : Nat) (t0 : List Int) (t1 : List Int) (t5 : Int) : Option Bool := (if ltI t5 (↑(List.length t0) : Int) = true then (if leI 0 t5 = true then (if ltI t5 (↑(List.length t0) : Int) = true then (if leI 0 t5 = true then (if ltI t5 (↑(List.length t1) : Int) = true then (if (!eqI (List.getD t0 (Int.toNat t5) 0) (List.getD t1 (Int.toNat t5) 0)) = true then some (false) else L9 t0 t1 (wr IntKind.i64 (t5 + 1))) else none) else none) else none) else none) else some (true))

theorem m14x9 (M : Cut Bool) (k : Nat) (L9 : St → Option Bool) (t0 : List Int) (t1 : List Int) (t5 : Int) : evC (m14E k) M (m14I k) 0 m14A (m14c [true, true, false, true, true, true]) (m14S9 t0 t1 t5) (seqK (normAt 0 m14A true (m14c [true, true, false, true, true, true])) L9 (m14K6 M k)) = m14X9 (fun t0' t1' t5' => L9 (m14S9 t0' t1' t5')) k t0 t1 t5 := by kernel_rfl

noncomputable def m14F9 (k : Nat) : Nat → List Int → List Int → Int → Option Bool
  | 0, _, _, _ => none
  | j + 1, t0, t1, t5 => m14X9 (m14F9 k j) k t0 t1 t5

theorem m14q9 (k : Nat) : ∀ (j : Nat) (t0 : List Int) (t1 : List Int) (t5 : Int), loopN (normAt 0 m14A true (m14c [true, true, false, true, true, true])) (fun K s => evC (m14E k) (fun _ f => f) (m14I k) 0 m14A (m14c [true, true, false, true, true, true]) s K) (m14K6 (fun _ f => f) k) j (m14S9 t0 t1 t5) = m14F9 k j t0 t1 t5
  | 0, _, _, _ => rfl
  | j + 1, t0, t1, t5 => by
    have e0 : m14F9 k j = (fun t0' t1' t5' => loopN (normAt 0 m14A true (m14c [true, true, false, true, true, true])) (fun K s => evC (m14E k) (fun _ f => f) (m14I k) 0 m14A (m14c [true, true, false, true, true, true]) s K) (m14K6 (fun _ f => f) k) j (m14S9 t0' t1' t5')) := funext fun t0' => funext fun t1' => funext fun t5' => (m14q9 k j t0' t1' t5').symm
    show _ = m14X9 (m14F9 k j) k t0 t1 t5
    rw [e0]
    exact m14x9 (fun _ f => f) k (loopN (normAt 0 m14A true (m14c [true, true, false, true, true, true])) (fun K s => evC (m14E k) (fun _ f => f) (m14I k) 0 m14A (m14c [true, true, false, true, true, true]) s K) (m14K6 (fun _ f => f) k) j) t0 t1 t5

noncomputable def m14F (k : Nat) (p0 : (List Int)) (p1 : (List Int)) : Option Bool := m14X (m14F9 k k) k p0 p1

theorem m14q (k : Nat) (p0 : (List Int)) (p1 : (List Int)) : evC (m14E k) (fun _ f => f) (m14I k) 0 m14A (m14c []) (stAt Try.f14 (argSs [.leaf (.val (.row (.int .u8))), .leaf (.val (.row (.int .u8)))] (p0, p1)) (fun _ => none) 0) (retK Try.prog Try.f14 [.leaf (.val .bool)]) = m14F k p0 p1 := by
    have e9 : m14F9 k k = (fun t0' t1' t5' => loopN (normAt 0 m14A true (m14c [true, true, false, true, true, true])) (fun K s => evC (m14E k) (fun _ f => f) (m14I k) 0 m14A (m14c [true, true, false, true, true, true]) s K) (m14K6 (fun _ f => f) k) k (m14S9 t0' t1' t5')) := funext fun t0' => funext fun t1' => funext fun t5' => (m14q9 k k t0' t1' t5').symm
    show _ = m14X (m14F9 k k) k p0 p1
    rw [e9]
    exact m14x (fun _ f => f) k p0 p1

noncomputable def m14sp : Spec := { ps := [.leaf (.val (.row (.int .u8))), .leaf (.val (.row (.int .u8)))], rs := [.leaf (.val .bool)], f := fun k a => m14F k a.1 a.2 }

theorem m14ok (k : Nat) : EnvOk (m14E k) := envOk_of (l := []) progNames progMixed rfl (.nil)

theorem m14con (k : Nat) : Contract Try.prog k 14 m14sp := contract_of (E := m14E k) (m14ok k) (A := only 14 m14A) (d := 3) (c := m14c []) (by kernel_rfl) (by kernel_rfl) fun a _ h => (m14q k a.1 a.2).trans h

noncomputable def m12A : Anns := tabA []
noncomputable def m12E (k : Nat) : Env := { P := Try.prog, k := k, G := tabG [(14, m14sp)] }
noncomputable def m12c (p : List Bool) : Code := sub p (bodyOf Try.f12)
noncomputable def m12I (k : Nat) : Inl Bool := inlOf (m12E k) (only 12 m12A) 3
noncomputable def m12K0 (M : Cut Bool) (k : Nat) : Exit → St → Option Bool := seqK (normAt 0 m12A false (m12c [true])) (cutK M m12A (m12c [true]) fun s => evC (m12E k) M (m12I k) 0 m12A (m12c [true]) s (retK Try.prog Try.f12 [.leaf (.val .bool)])) (retK Try.prog Try.f12 [.leaf (.val .bool)])
noncomputable def m12K1 (M : Cut Bool) (k : Nat) : Exit → St → Option Bool := seqK (normAt 0 m12A false (m12c [true, true])) (cutK M m12A (m12c [true, true]) fun s => evC (m12E k) M (m12I k) 0 m12A (m12c [true, true]) s (retK Try.prog Try.f12 [.leaf (.val .bool)])) (retK Try.prog Try.f12 [.leaf (.val .bool)])

noncomputable def m12X (k : Nat) (p0 : (Int × (Int × (Int × (List Int))))) (p1 : (Int × (Int × (Int × (List Int))))) : Option Bool := (if eqI (Prod.fst p0) (Prod.fst p1) = true then (if eqI (Prod.fst (Prod.snd p0)) (Prod.fst (Prod.snd p1)) = true then (if eqI (Prod.fst (Prod.snd (Prod.snd p0))) (Prod.fst (Prod.snd (Prod.snd p1))) = true then (Option.bind (m14F k (Prod.snd (Prod.snd (Prod.snd p0))) (Prod.snd (Prod.snd (Prod.snd p1)))) fun (c4 : Bool) => some c4) else some (false)) else some (false)) else some (false))

theorem m12x (M : Cut Bool) (k : Nat) (p0 : (Int × (Int × (Int × (List Int))))) (p1 : (Int × (Int × (Int × (List Int))))) : evC (m12E k) M (m12I k) 0 m12A (m12c []) (stAt Try.f12 (argSs [.st (.pair (.int .i64) (.pair (.int .i64) (.pair (.int .i64) (.row (.int .u8))))), .st (.pair (.int .i64) (.pair (.int .i64) (.pair (.int .i64) (.row (.int .u8)))))] (p0, p1)) (fun _ => none) 0) (retK Try.prog Try.f12 [.leaf (.val .bool)]) = m12X k p0 p1 := by kernel_rfl

noncomputable def m12F (k : Nat) (p0 : (Int × (Int × (Int × (List Int))))) (p1 : (Int × (Int × (Int × (List Int))))) : Option Bool := m12X k p0 p1

theorem m12q (k : Nat) (p0 : (Int × (Int × (Int × (List Int))))) (p1 : (Int × (Int × (Int × (List Int))))) : evC (m12E k) (fun _ f => f) (m12I k) 0 m12A (m12c []) (stAt Try.f12 (argSs [.st (.pair (.int .i64) (.pair (.int .i64) (.pair (.int .i64) (.row (.int .u8))))), .st (.pair (.int .i64) (.pair (.int .i64) (.pair (.int .i64) (.row (.int .u8)))))] (p0, p1)) (fun _ => none) 0) (retK Try.prog Try.f12 [.leaf (.val .bool)]) = m12F k p0 p1 := by
    show _ = m12X k p0 p1
    exact m12x (fun _ f => f) k p0 p1

noncomputable def m12sp : Spec := { ps := [.st (.pair (.int .i64) (.pair (.int .i64) (.pair (.int .i64) (.row (.int .u8))))), .st (.pair (.int .i64) (.pair (.int .i64) (.pair (.int .i64) (.row (.int .u8)))))], rs := [.leaf (.val .bool)], f := fun k a => m12F k a.1 a.2 }

theorem m12ok (k : Nat) : EnvOk (m12E k) := envOk_of (l := [(14, m14sp)]) progNames progMixed rfl (.cons ⟨m14con k, Try.f14, by kernel_rfl, by kernel_rfl⟩ (.nil))

theorem m12con (k : Nat) : Contract Try.prog k 12 m12sp := contract_of (E := m12E k) (m12ok k) (A := only 12 m12A) (d := 3) (c := m12c []) (by kernel_rfl) (by kernel_rfl) fun a _ h => (m12q k a.1 a.2).trans h

noncomputable def m23A : Anns := tabA [(15, { keep := [8, 40, 41, 42] }), (22, { keep := [8] })]
noncomputable def m23E (k : Nat) : Env := { P := Try.prog, k := k, G := tabG [] }
noncomputable def m23c (p : List Bool) : Code := sub p (bodyOf Try.f23)
noncomputable def m23I (k : Nat) : Inl (Int × Int) := inlOf (m23E k) (only 23 m23A) 3
noncomputable def m23K0 (M : Cut (Int × Int)) (k : Nat) : Exit → St → Option (Int × Int) := seqK (normAt 0 m23A false (m23c [true])) (cutK M m23A (m23c [true]) fun s => evC (m23E k) M (m23I k) 0 m23A (m23c [true]) s (retK Try.prog Try.f23 [.leaf (.val (.int .i64)), .leaf (.val (.int .i64))])) (retK Try.prog Try.f23 [.leaf (.val (.int .i64)), .leaf (.val (.int .i64))])
noncomputable def m23K1 (M : Cut (Int × Int)) (k : Nat) : Exit → St → Option (Int × Int) := seqK (normAt 0 m23A false (m23c [true, true])) (cutK M m23A (m23c [true, true]) fun s => evC (m23E k) M (m23I k) 0 m23A (m23c [true, true]) s (retK Try.prog Try.f23 [.leaf (.val (.int .i64)), .leaf (.val (.int .i64))])) (retK Try.prog Try.f23 [.leaf (.val (.int .i64)), .leaf (.val (.int .i64))])
noncomputable def m23K2 (M : Cut (Int × Int)) (k : Nat) : Exit → St → Option (Int × Int) := blockK 0 (m23K1 M k)
noncomputable def m23K3 (M : Cut (Int × Int)) (k : Nat) : Exit → St → Option (Int × Int) := seqK (normAt 0 m23A false (m23c [true, false, true, true])) (cutK M m23A (m23c [true, false, true, true]) fun s => evC (m23E k) M (m23I k) 0 m23A (m23c [true, false, true, true]) s (m23K2 M k)) (m23K2 M k)
noncomputable def m23K4 (M : Cut (Int × Int)) (k : Nat) : Exit → St → Option (Int × Int) := seqK (normAt 0 m23A false (m23c [true, false, true, true, false, true])) (cutK M m23A (m23c [true, false, true, true, false, true]) fun s => evC (m23E k) M (m23I k) 0 m23A (m23c [true, false, true, true, false, true]) s (m23K2 M k)) (m23K2 M k)
noncomputable def m23K5 (M : Cut (Int × Int)) (k : Nat) : Exit → St → Option (Int × Int) := seqK (normAt 0 m23A false (m23c [true, false, true, true, true, true])) (cutK M m23A (m23c [true, false, true, true, true, true]) fun s => evC (m23E k) M (m23I k) 0 m23A (m23c [true, false, true, true, true, true]) s (m23K2 M k)) (m23K2 M k)
noncomputable def m23K6 (M : Cut (Int × Int)) (k : Nat) : Exit → St → Option (Int × Int) := seqK (normAt 0 m23A false (m23c [true, false, true, true, true, true, false, true])) (cutK M m23A (m23c [true, false, true, true, true, true, false, true]) fun s => evC (m23E k) M (m23I k) 0 m23A (m23c [true, false, true, true, true, true, false, true]) s (m23K2 M k)) (m23K2 M k)
noncomputable def m23K7 (M : Cut (Int × Int)) (k : Nat) : Exit → St → Option (Int × Int) := seqK (normAt 0 m23A false (m23c [true, true, true])) (cutK M m23A (m23c [true, true, true]) fun s => evC (m23E k) M (m23I k) 0 m23A (m23c [true, true, true]) s (retK Try.prog Try.f23 [.leaf (.val (.int .i64)), .leaf (.val (.int .i64))])) (retK Try.prog Try.f23 [.leaf (.val (.int .i64)), .leaf (.val (.int .i64))])
noncomputable def m23K8 (M : Cut (Int × Int)) (k : Nat) : Exit → St → Option (Int × Int) := seqK (normAt 0 m23A false (m23c [true, true, true, true])) (cutK M m23A (m23c [true, true, true, true]) fun s => evC (m23E k) M (m23I k) 0 m23A (m23c [true, true, true, true]) s (retK Try.prog Try.f23 [.leaf (.val (.int .i64)), .leaf (.val (.int .i64))])) (retK Try.prog Try.f23 [.leaf (.val (.int .i64)), .leaf (.val (.int .i64))])
noncomputable def m23K9 (M : Cut (Int × Int)) (k : Nat) : Exit → St → Option (Int × Int) := seqK (normAt 0 m23A false (m23c [true, true, true, false, true])) (cutK M m23A (m23c [true, true, true, false, true]) fun s => evC (m23E k) M (m23I k) 0 m23A (m23c [true, true, true, false, true]) s (m23K8 M k)) (m23K8 M k)
noncomputable def m23K10 (M : Cut (Int × Int)) (k : Nat) : Exit → St → Option (Int × Int) := blockK 1 (m23K8 M k)
noncomputable def m23K11 (M : Cut (Int × Int)) (k : Nat) (L15 : St → Option (Int × Int)) : Exit → St → Option (Int × Int) := seqK (normAt 0 m23A true (m23c [true, true, true, false, true, true, true])) L15 (m23K10 M k)
noncomputable def m23K12 (M : Cut (Int × Int)) (k : Nat) (L15 : St → Option (Int × Int)) : Exit → St → Option (Int × Int) := seqK (normAt 0 m23A false (m23c [true, true, true, false, true, true, true, true])) (cutK M m23A (m23c [true, true, true, false, true, true, true, true]) fun s => evC (m23E k) M (m23I k) 0 m23A (m23c [true, true, true, false, true, true, true, true]) s (m23K11 M k L15)) (m23K11 M k L15)
noncomputable def m23K13 (M : Cut (Int × Int)) (k : Nat) (L15 : St → Option (Int × Int)) : Exit → St → Option (Int × Int) := seqK (normAt 0 m23A false (m23c [true, true, true, false, true, true, true, true, true])) (cutK M m23A (m23c [true, true, true, false, true, true, true, true, true]) fun s => evC (m23E k) M (m23I k) 0 m23A (m23c [true, true, true, false, true, true, true, true, true]) s (m23K11 M k L15)) (m23K11 M k L15)
noncomputable def m23K14 (M : Cut (Int × Int)) (k : Nat) (L15 : St → Option (Int × Int)) : Exit → St → Option (Int × Int) := seqK (normAt 0 m23A false (m23c [true, true, true, false, true, true, true, true, true, true])) (cutK M m23A (m23c [true, true, true, false, true, true, true, true, true, true]) fun s => evC (m23E k) M (m23I k) 0 m23A (m23c [true, true, true, false, true, true, true, true, true, true]) s (m23K11 M k L15)) (m23K11 M k L15)
noncomputable def m23K15 (M : Cut (Int × Int)) (k : Nat) (L15 : St → Option (Int × Int)) : Exit → St → Option (Int × Int) := blockK 2 (m23K14 M k L15)
noncomputable def m23K16 (M : Cut (Int × Int)) (k : Nat) (L15 : St → Option (Int × Int)) : Exit → St → Option (Int × Int) := seqK (normAt 0 m23A false (m23c [true, true, true, false, true, true, true, true, true, false, true, true])) (cutK M m23A (m23c [true, true, true, false, true, true, true, true, true, false, true, true]) fun s => evC (m23E k) M (m23I k) 0 m23A (m23c [true, true, true, false, true, true, true, true, true, false, true, true]) s (m23K15 M k L15)) (m23K15 M k L15)
noncomputable def m23K17 (M : Cut (Int × Int)) (k : Nat) : Exit → St → Option (Int × Int) := seqK (normAt 0 m23A false (m23c [true, true, true, true, true])) (cutK M m23A (m23c [true, true, true, true, true]) fun s => evC (m23E k) M (m23I k) 0 m23A (m23c [true, true, true, true, true]) s (retK Try.prog Try.f23 [.leaf (.val (.int .i64)), .leaf (.val (.int .i64))])) (retK Try.prog Try.f23 [.leaf (.val (.int .i64)), .leaf (.val (.int .i64))])
noncomputable def m23S15 (t8 : Int) (t40 : List Int) (t41 : Int) (t42 : Int) : St := { n := 53, tm := slots [(8, .int .i64 t8), (40, .row (.int .u8) t40), (41, .int .i64 t41), (42, .int .i64 t42)], tab := blks [], nx := 0 }
noncomputable def m23S22 (t8 : Int) : St := { n := 53, tm := slots [(8, .int .i64 t8)], tab := blks [], nx := 0 }

noncomputable def m23X (X15 : Int → List Int → Int → Int → Option (Int × Int)) (k : Nat) (p0 : (List Int)) (p1 : Int) (p2 : Int) : Option (Int × Int) := (if ltI p2 1 = true then some ((0, 1)) else (if ltI 4 p2 = true then some ((0, 1)) else (if ltI p1 0 = true then some ((0, 1)) else (if ltI (↑(List.length p0) : Int) p1 = true then some ((0, 1)) else (if ltI (wr IntKind.i64 ((↑(List.length p0) : Int) - p1)) p2 = true then some ((0, 3)) else (if leI 0 (wr IntKind.i64 (p1 + p2)) = true then (if leI (wr IntKind.i64 (p1 + p2)) (↑(List.length p0) : Int) = true then (if leI 0 p1 = true then (if leI p1 (wr IntKind.i64 (p1 + p2)) = true then X15 (0) (List.drop (Int.toNat p1) (List.take (Int.toNat (wr IntKind.i64 (p1 + p2))) p0)) ((↑(List.length (List.drop (Int.toNat p1) (List.take (Int.toNat (wr IntKind.i64 (p1 + p2))) p0))) : Int)) (0) else none) else none) else none) else none))))))

theorem m23x (M : Cut (Int × Int)) (k : Nat) (p0 : (List Int)) (p1 : Int) (p2 : Int) : evC (m23E k) M (m23I k) 0 m23A (m23c []) (stAt Try.f23 (argSs [.leaf (.val (.row (.int .u8))), .leaf (.val (.int .i64)), .leaf (.val (.int .i64))] (p0, p1, p2)) (fun _ => none) 0) (retK Try.prog Try.f23 [.leaf (.val (.int .i64)), .leaf (.val (.int .i64))]) = m23X (fun t8' t40' t41' t42' => loopN (normAt 0 m23A true (m23c [true, true, true, false, true, true, true])) (fun K s => evC (m23E k) M (m23I k) 0 m23A (m23c [true, true, true, false, true, true, true]) s K) (m23K10 M k) k (m23S15 t8' t40' t41' t42')) k p0 p1 p2 := by kernel_rfl

noncomputable def m23X15 (X22 : Int → Option (Int × Int)) (L15 : Int → List Int → Int → Int → Option (Int × Int)) (k : Nat) (t8 : Int) (t40 : List Int) (t41 : Int) (t42 : Int) : Option (Int × Int) := (if ltI t42 t41 = true then (if leI 0 t42 = true then (if ltI t42 (↑(List.length t40) : Int) = true then (if leI 0 8 = true then L15 (bits BinOp.or IntKind.i64 (wr IntKind.i64 (t8 * 256)) (wr IntKind.i64 (List.getD t40 (Int.toNat t42) 0))) t40 t41 (wr IntKind.i64 (t42 + 1)) else none) else none) else none) else X22 t8)

theorem m23x15 (M : Cut (Int × Int)) (k : Nat) (L15 : St → Option (Int × Int)) (t8 : Int) (t40 : List Int) (t41 : Int) (t42 : Int) : evC (m23E k) M (m23I k) 0 m23A (m23c [true, true, true, false, true, true, true]) (m23S15 t8 t40 t41 t42) (seqK (normAt 0 m23A true (m23c [true, true, true, false, true, true, true])) L15 (m23K10 M k)) = m23X15 (fun t8' => M 22 (fun s => evC (m23E k) M (m23I k) 0 m23A (m23c [true, true, true, true]) s (retK Try.prog Try.f23 [.leaf (.val (.int .i64)), .leaf (.val (.int .i64))])) (m23S22 t8')) (fun t8' t40' t41' t42' => L15 (m23S15 t8' t40' t41' t42')) k t8 t40 t41 t42 := by kernel_rfl

noncomputable def m23X22 (k : Nat) (t8 : Int) : Option (Int × Int) := some ((t8, 0))

theorem m23x22 (M : Cut (Int × Int)) (k : Nat) (t8 : Int) : evC (m23E k) M (m23I k) 0 m23A (m23c [true, true, true, true]) (m23S22 t8) (retK Try.prog Try.f23 [.leaf (.val (.int .i64)), .leaf (.val (.int .i64))]) = m23X22 k t8 := by kernel_rfl

noncomputable def m23F22 (k : Nat) (t8 : Int) : Option (Int × Int) := m23X22 k t8

theorem m23q22 (k : Nat) (t8 : Int) : evC (m23E k) (fun _ f => f) (m23I k) 0 m23A (m23c [true, true, true, true]) (m23S22 t8) (retK Try.prog Try.f23 [.leaf (.val (.int .i64)), .leaf (.val (.int .i64))]) = m23F22 k t8 := by
    show _ = m23X22 k t8
    exact m23x22 (fun _ f => f) k t8

noncomputable def m23F15 (k : Nat) : Nat → Int → List Int → Int → Int → Option (Int × Int)
  | 0, _, _, _, _ => none
  | j + 1, t8, t40, t41, t42 => m23X15 (m23F22 k) (m23F15 k j) k t8 t40 t41 t42

theorem m23q15 (k : Nat) : ∀ (j : Nat) (t8 : Int) (t40 : List Int) (t41 : Int) (t42 : Int), loopN (normAt 0 m23A true (m23c [true, true, true, false, true, true, true])) (fun K s => evC (m23E k) (fun _ f => f) (m23I k) 0 m23A (m23c [true, true, true, false, true, true, true]) s K) (m23K10 (fun _ f => f) k) j (m23S15 t8 t40 t41 t42) = m23F15 k j t8 t40 t41 t42
  | 0, _, _, _, _ => rfl
  | j + 1, t8, t40, t41, t42 => by
    have e0 : m23F15 k j = (fun t8' t40' t41' t42' => loopN (normAt 0 m23A true (m23c [true, true, true, false, true, true, true])) (fun K s => evC (m23E k) (fun _ f => f) (m23I k) 0 m23A (m23c [true, true, true, false, true, true, true]) s K) (m23K10 (fun _ f => f) k) j (m23S15 t8' t40' t41' t42')) := funext fun t8' => funext fun t40' => funext fun t41' => funext fun t42' => (m23q15 k j t8' t40' t41' t42').symm
    have e22 : m23F22 k = (fun t8' => evC (m23E k) (fun _ f => f) (m23I k) 0 m23A (m23c [true, true, true, true]) (m23S22 t8') (retK Try.prog Try.f23 [.leaf (.val (.int .i64)), .leaf (.val (.int .i64))])) := funext fun t8' => (m23q22 k t8').symm
    show _ = m23X15 (m23F22 k) (m23F15 k j) k t8 t40 t41 t42
    rw [e0, e22]
    exact m23x15 (fun _ f => f) k (loopN (normAt 0 m23A true (m23c [true, true, true, false, true, true, true])) (fun K s => evC (m23E k) (fun _ f => f) (m23I k) 0 m23A (m23c [true, true, true, false, true, true, true]) s K) (m23K10 (fun _ f => f) k) j) t8 t40 t41 t42

noncomputable def m23F (k : Nat) (p0 : (List Int)) (p1 : Int) (p2 : Int) : Option (Int × Int) := m23X (m23F15 k k) k p0 p1 p2

theorem m23q (k : Nat) (p0 : (List Int)) (p1 : Int) (p2 : Int) : evC (m23E k) (fun _ f => f) (m23I k) 0 m23A (m23c []) (stAt Try.f23 (argSs [.leaf (.val (.row (.int .u8))), .leaf (.val (.int .i64)), .leaf (.val (.int .i64))] (p0, p1, p2)) (fun _ => none) 0) (retK Try.prog Try.f23 [.leaf (.val (.int .i64)), .leaf (.val (.int .i64))]) = m23F k p0 p1 p2 := by
    have e15 : m23F15 k k = (fun t8' t40' t41' t42' => loopN (normAt 0 m23A true (m23c [true, true, true, false, true, true, true])) (fun K s => evC (m23E k) (fun _ f => f) (m23I k) 0 m23A (m23c [true, true, true, false, true, true, true]) s K) (m23K10 (fun _ f => f) k) k (m23S15 t8' t40' t41' t42')) := funext fun t8' => funext fun t40' => funext fun t41' => funext fun t42' => (m23q15 k k t8' t40' t41' t42').symm
    show _ = m23X (m23F15 k k) k p0 p1 p2
    rw [e15]
    exact m23x (fun _ f => f) k p0 p1 p2

noncomputable def m23sp : Spec := { ps := [.leaf (.val (.row (.int .u8))), .leaf (.val (.int .i64)), .leaf (.val (.int .i64))], rs := [.leaf (.val (.int .i64)), .leaf (.val (.int .i64))], f := fun k a => m23F k a.1 a.2.1 a.2.2 }

theorem m23ok (k : Nat) : EnvOk (m23E k) := envOk_of (l := []) progNames progMixed rfl (.nil)

theorem m23con (k : Nat) : Contract Try.prog k 23 m23sp := contract_of (E := m23E k) (m23ok k) (A := only 23 m23A) (d := 3) (c := m23c []) (by kernel_rfl) (by kernel_rfl) fun a _ h => (m23q k a.1 a.2.1 a.2.2).trans h

noncomputable def m16A : Anns := tabA []
noncomputable def m16E (k : Nat) : Env := { P := Try.prog, k := k, G := tabG [(19, m19sp), (23, m23sp), (24, m24sp)] }
noncomputable def m16c (p : List Bool) : Code := sub p (bodyOf Try.f16)
noncomputable def m16I (k : Nat) : Inl ((Int × (Int × (Int × (List Int)))) × Int) := inlOf (m16E k) (only 16 m16A) 3
noncomputable def m16K0 (M : Cut ((Int × (Int × (Int × (List Int)))) × Int)) (k : Nat) : Exit → St → Option ((Int × (Int × (Int × (List Int)))) × Int) := seqK (normAt 0 m16A false (m16c [true])) (cutK M m16A (m16c [true]) fun s => evC (m16E k) M (m16I k) 0 m16A (m16c [true]) s (retK Try.prog Try.f16 [.agg [.val (.int .i64), .val (.int .i64), .val (.int .i64), .own (.int .u8) 5], .leaf (.val (.int .i64))])) (retK Try.prog Try.f16 [.agg [.val (.int .i64), .val (.int .i64), .val (.int .i64), .own (.int .u8) 5], .leaf (.val (.int .i64))])
noncomputable def m16K1 (M : Cut ((Int × (Int × (Int × (List Int)))) × Int)) (k : Nat) : Exit → St → Option ((Int × (Int × (Int × (List Int)))) × Int) := seqK (normAt 0 m16A false (m16c [true, true])) (cutK M m16A (m16c [true, true]) fun s => evC (m16E k) M (m16I k) 0 m16A (m16c [true, true]) s (retK Try.prog Try.f16 [.agg [.val (.int .i64), .val (.int .i64), .val (.int .i64), .own (.int .u8) 5], .leaf (.val (.int .i64))])) (retK Try.prog Try.f16 [.agg [.val (.int .i64), .val (.int .i64), .val (.int .i64), .own (.int .u8) 5], .leaf (.val (.int .i64))])
noncomputable def m16K2 (M : Cut ((Int × (Int × (Int × (List Int)))) × Int)) (k : Nat) : Exit → St → Option ((Int × (Int × (Int × (List Int)))) × Int) := blockK 0 (m16K1 M k)
noncomputable def m16K3 (M : Cut ((Int × (Int × (Int × (List Int)))) × Int)) (k : Nat) : Exit → St → Option ((Int × (Int × (Int × (List Int)))) × Int) := seqK (normAt 0 m16A false (m16c [true, false, true, true])) (cutK M m16A (m16c [true, false, true, true]) fun s => evC (m16E k) M (m16I k) 0 m16A (m16c [true, false, true, true]) s (m16K2 M k)) (m16K2 M k)
noncomputable def m16K4 (M : Cut ((Int × (Int × (Int × (List Int)))) × Int)) (k : Nat) : Exit → St → Option ((Int × (Int × (Int × (List Int)))) × Int) := seqK (normAt 0 m16A false (m16c [true, false, true, true, false, true])) (cutK M m16A (m16c [true, false, true, true, false, true]) fun s => evC (m16E k) M (m16I k) 0 m16A (m16c [true, false, true, true, false, true]) s (m16K2 M k)) (m16K2 M k)
noncomputable def m16K5 (M : Cut ((Int × (Int × (Int × (List Int)))) × Int)) (k : Nat) : Exit → St → Option ((Int × (Int × (Int × (List Int)))) × Int) := seqK (normAt 0 m16A false (m16c [true, false, true, true, true, true])) (cutK M m16A (m16c [true, false, true, true, true, true]) fun s => evC (m16E k) M (m16I k) 0 m16A (m16c [true, false, true, true, true, true]) s (m16K2 M k)) (m16K2 M k)
noncomputable def m16K6 (M : Cut ((Int × (Int × (Int × (List Int)))) × Int)) (k : Nat) : Exit → St → Option ((Int × (Int × (Int × (List Int)))) × Int) := seqK (normAt 0 m16A false (m16c [true, false, true, true, true, true, false, true])) (cutK M m16A (m16c [true, false, true, true, true, true, false, true]) fun s => evC (m16E k) M (m16I k) 0 m16A (m16c [true, false, true, true, true, true, false, true]) s (m16K2 M k)) (m16K2 M k)
noncomputable def m16K7 (M : Cut ((Int × (Int × (Int × (List Int)))) × Int)) (k : Nat) : Exit → St → Option ((Int × (Int × (Int × (List Int)))) × Int) := seqK (normAt 0 m16A false (m16c [true, true, true])) (cutK M m16A (m16c [true, true, true]) fun s => evC (m16E k) M (m16I k) 0 m16A (m16c [true, true, true]) s (retK Try.prog Try.f16 [.agg [.val (.int .i64), .val (.int .i64), .val (.int .i64), .own (.int .u8) 5], .leaf (.val (.int .i64))])) (retK Try.prog Try.f16 [.agg [.val (.int .i64), .val (.int .i64), .val (.int .i64), .own (.int .u8) 5], .leaf (.val (.int .i64))])
noncomputable def m16K8 (M : Cut ((Int × (Int × (Int × (List Int)))) × Int)) (k : Nat) : Exit → St → Option ((Int × (Int × (Int × (List Int)))) × Int) := seqK (normAt 0 m16A false (m16c [true, true, true, true])) (cutK M m16A (m16c [true, true, true, true]) fun s => evC (m16E k) M (m16I k) 0 m16A (m16c [true, true, true, true]) s (retK Try.prog Try.f16 [.agg [.val (.int .i64), .val (.int .i64), .val (.int .i64), .own (.int .u8) 5], .leaf (.val (.int .i64))])) (retK Try.prog Try.f16 [.agg [.val (.int .i64), .val (.int .i64), .val (.int .i64), .own (.int .u8) 5], .leaf (.val (.int .i64))])
noncomputable def m16K9 (M : Cut ((Int × (Int × (Int × (List Int)))) × Int)) (k : Nat) : Exit → St → Option ((Int × (Int × (Int × (List Int)))) × Int) := seqK (normAt 0 m16A false (m16c [true, true, true, true, true])) (cutK M m16A (m16c [true, true, true, true, true]) fun s => evC (m16E k) M (m16I k) 0 m16A (m16c [true, true, true, true, true]) s (retK Try.prog Try.f16 [.agg [.val (.int .i64), .val (.int .i64), .val (.int .i64), .own (.int .u8) 5], .leaf (.val (.int .i64))])) (retK Try.prog Try.f16 [.agg [.val (.int .i64), .val (.int .i64), .val (.int .i64), .own (.int .u8) 5], .leaf (.val (.int .i64))])
noncomputable def m16K10 (M : Cut ((Int × (Int × (Int × (List Int)))) × Int)) (k : Nat) : Exit → St → Option ((Int × (Int × (Int × (List Int)))) × Int) := seqK (normAt 0 m16A false (m16c [true, true, true, true, true, true])) (cutK M m16A (m16c [true, true, true, true, true, true]) fun s => evC (m16E k) M (m16I k) 0 m16A (m16c [true, true, true, true, true, true]) s (retK Try.prog Try.f16 [.agg [.val (.int .i64), .val (.int .i64), .val (.int .i64), .own (.int .u8) 5], .leaf (.val (.int .i64))])) (retK Try.prog Try.f16 [.agg [.val (.int .i64), .val (.int .i64), .val (.int .i64), .own (.int .u8) 5], .leaf (.val (.int .i64))])
noncomputable def m16K11 (M : Cut ((Int × (Int × (Int × (List Int)))) × Int)) (k : Nat) : Exit → St → Option ((Int × (Int × (Int × (List Int)))) × Int) := seqK (normAt 0 m16A false (m16c [true, true, true, true, true, true, true])) (cutK M m16A (m16c [true, true, true, true, true, true, true]) fun s => evC (m16E k) M (m16I k) 0 m16A (m16c [true, true, true, true, true, true, true]) s (retK Try.prog Try.f16 [.agg [.val (.int .i64), .val (.int .i64), .val (.int .i64), .own (.int .u8) 5], .leaf (.val (.int .i64))])) (retK Try.prog Try.f16 [.agg [.val (.int .i64), .val (.int .i64), .val (.int .i64), .own (.int .u8) 5], .leaf (.val (.int .i64))])
noncomputable def m16K12 (M : Cut ((Int × (Int × (Int × (List Int)))) × Int)) (k : Nat) : Exit → St → Option ((Int × (Int × (Int × (List Int)))) × Int) := blockK 1 (m16K11 M k)
noncomputable def m16K13 (M : Cut ((Int × (Int × (Int × (List Int)))) × Int)) (k : Nat) : Exit → St → Option ((Int × (Int × (Int × (List Int)))) × Int) := seqK (normAt 0 m16A false (m16c [true, true, true, true, true, true, false, true, true])) (cutK M m16A (m16c [true, true, true, true, true, true, false, true, true]) fun s => evC (m16E k) M (m16I k) 0 m16A (m16c [true, true, true, true, true, true, false, true, true]) s (m16K12 M k)) (m16K12 M k)
noncomputable def m16K14 (M : Cut ((Int × (Int × (Int × (List Int)))) × Int)) (k : Nat) : Exit → St → Option ((Int × (Int × (Int × (List Int)))) × Int) := seqK (normAt 0 m16A false (m16c [true, true, true, true, true, true, false, true, true, false, true])) (cutK M m16A (m16c [true, true, true, true, true, true, false, true, true, false, true]) fun s => evC (m16E k) M (m16I k) 0 m16A (m16c [true, true, true, true, true, true, false, true, true, false, true]) s (m16K12 M k)) (m16K12 M k)
noncomputable def m16K15 (M : Cut ((Int × (Int × (Int × (List Int)))) × Int)) (k : Nat) : Exit → St → Option ((Int × (Int × (Int × (List Int)))) × Int) := seqK (normAt 0 m16A false (m16c [true, true, true, true, true, true, false, true, true, true, true])) (cutK M m16A (m16c [true, true, true, true, true, true, false, true, true, true, true]) fun s => evC (m16E k) M (m16I k) 0 m16A (m16c [true, true, true, true, true, true, false, true, true, true, true]) s (m16K12 M k)) (m16K12 M k)
noncomputable def m16K16 (M : Cut ((Int × (Int × (Int × (List Int)))) × Int)) (k : Nat) : Exit → St → Option ((Int × (Int × (Int × (List Int)))) × Int) := seqK (normAt 0 m16A false (m16c [true, true, true, true, true, true, false, true, true, true, true, false, true])) (cutK M m16A (m16c [true, true, true, true, true, true, false, true, true, true, true, false, true]) fun s => evC (m16E k) M (m16I k) 0 m16A (m16c [true, true, true, true, true, true, false, true, true, true, true, false, true]) s (m16K12 M k)) (m16K12 M k)
noncomputable def m16K17 (M : Cut ((Int × (Int × (Int × (List Int)))) × Int)) (k : Nat) : Exit → St → Option ((Int × (Int × (Int × (List Int)))) × Int) := seqK (normAt 0 m16A false (m16c [true, true, true, true, true, true, false, true, true, true, true, true, true])) (cutK M m16A (m16c [true, true, true, true, true, true, false, true, true, true, true, true, true]) fun s => evC (m16E k) M (m16I k) 0 m16A (m16c [true, true, true, true, true, true, false, true, true, true, true, true, true]) s (m16K12 M k)) (m16K12 M k)
noncomputable def m16K18 (M : Cut ((Int × (Int × (Int × (List Int)))) × Int)) (k : Nat) : Exit → St → Option ((Int × (Int × (Int × (List Int)))) × Int) := seqK (normAt 0 m16A false (m16c [true, true, true, true, true, true, false, true, true, true, true, true, true, false, true])) (cutK M m16A (m16c [true, true, true, true, true, true, false, true, true, true, true, true, true, false, true]) fun s => evC (m16E k) M (m16I k) 0 m16A (m16c [true, true, true, true, true, true, false, true, true, true, true, true, true, false, true]) s (m16K12 M k)) (m16K12 M k)
noncomputable def m16K19 (M : Cut ((Int × (Int × (Int × (List Int)))) × Int)) (k : Nat) : Exit → St → Option ((Int × (Int × (Int × (List Int)))) × Int) := seqK (normAt 0 m16A false (m16c [true, true, true, true, true, true, true, true])) (cutK M m16A (m16c [true, true, true, true, true, true, true, true]) fun s => evC (m16E k) M (m16I k) 0 m16A (m16c [true, true, true, true, true, true, true, true]) s (retK Try.prog Try.f16 [.agg [.val (.int .i64), .val (.int .i64), .val (.int .i64), .own (.int .u8) 5], .leaf (.val (.int .i64))])) (retK Try.prog Try.f16 [.agg [.val (.int .i64), .val (.int .i64), .val (.int .i64), .own (.int .u8) 5], .leaf (.val (.int .i64))])

noncomputable def m16X (k : Nat) (p0 : (List Int)) : Option ((Int × (Int × (Int × (List Int)))) × Int) := (if leI (↑(List.length p0) : Int) 11 = true then some (((0, 0, 0, []), 2)) else (if ltI 75 (↑(List.length p0) : Int) = true then some (((0, 0, 0, []), 2)) else (if leI 0 0 = true then (if ltI 0 (↑(List.length p0) : Int) = true then (if (!eqI (List.getD p0 0 0) 68) = true then some (((0, 0, 0, []), 12)) else (if leI 0 9 = true then (if leI 9 (↑(List.length p0) : Int) = true then (Option.bind (m19F k (List.take 9 p0)) fun (c3 : (Int × Int)) => (Option.bind (m23F k p0 9 2) fun (c4 : (Int × Int)) => (Option.bind (m23F k p0 1 4) fun (c5 : (Int × Int)) => (Option.bind (m23F k p0 6 2) fun (c6 : (Int × Int)) => (if (!eqI (Prod.fst c3) (Prod.fst c4)) = true then some (((0, 0, 0, []), 4)) else (if leI 1073741824 (Prod.fst c5) = true then some (((0, 0, 0, []), 1)) else (if leI 0 8 = true then (if ltI 8 (↑(List.length p0) : Int) = true then (if (!eqI (wr IntKind.i64 (List.getD p0 8 0)) (wr IntKind.i64 ((↑(List.length p0) : Int) - 11))) = true then some (((0, 0, 0, []), 2)) else (if leI 0 5 = true then (if ltI 5 (↑(List.length p0) : Int) = true then (if leI 0 11 = true then (if leI 11 (↑(List.length p0) : Int) = true then (Option.bind (m24F k (List.drop 11 p0)) fun (c7 : (List Int)) => some (((Prod.fst c5, wr IntKind.i64 (List.getD p0 5 0), Prod.fst c6, c7), 0))) else none) else none) else none) else none)) else none) else none))))))) else none) else none)) else none) else none)))

theorem m16x (M : Cut ((Int × (Int × (Int × (List Int)))) × Int)) (k : Nat) (p0 : (List Int)) : evC (m16E k) M (m16I k) 0 m16A (m16c []) (stAt Try.f16 (argSs [.leaf (.val (.row (.int .u8)))] p0) (fun _ => none) 0) (retK Try.prog Try.f16 [.agg [.val (.int .i64), .val (.int .i64), .val (.int .i64), .own (.int .u8) 5], .leaf (.val (.int .i64))]) = m16X k p0 := by kernel_rfl

noncomputable def m16F (k : Nat) (p0 : (List Int)) : Option ((Int × (Int × (Int × (List Int)))) × Int) := m16X k p0

theorem m16q (k : Nat) (p0 : (List Int)) : evC (m16E k) (fun _ f => f) (m16I k) 0 m16A (m16c []) (stAt Try.f16 (argSs [.leaf (.val (.row (.int .u8)))] p0) (fun _ => none) 0) (retK Try.prog Try.f16 [.agg [.val (.int .i64), .val (.int .i64), .val (.int .i64), .own (.int .u8) 5], .leaf (.val (.int .i64))]) = m16F k p0 := by
    show _ = m16X k p0
    exact m16x (fun _ f => f) k p0

noncomputable def m16sp : Spec := { ps := [.leaf (.val (.row (.int .u8)))], rs := [.agg [.val (.int .i64), .val (.int .i64), .val (.int .i64), .own (.int .u8) 5], .leaf (.val (.int .i64))], f := fun k a => m16F k a }

theorem m16ok (k : Nat) : EnvOk (m16E k) := envOk_of (l := [(19, m19sp), (23, m23sp), (24, m24sp)]) progNames progMixed rfl (.cons ⟨m19con k, Try.f19, by kernel_rfl, by kernel_rfl⟩ (.cons ⟨m23con k, Try.f23, by kernel_rfl, by kernel_rfl⟩ (.cons ⟨m24con k, Try.f24, by kernel_rfl, by kernel_rfl⟩ (.nil))))

theorem m16con (k : Nat) : Contract Try.prog k 16 m16sp := contract_of (E := m16E k) (m16ok k) (A := only 16 m16A) (d := 3) (c := m16c []) (by kernel_rfl) (by kernel_rfl) fun a _ h => (m16q k a).trans h

noncomputable def m13A : Anns := tabA []
noncomputable def m13E (k : Nat) : Env := { P := Try.prog, k := k, G := tabG [(10, m10sp), (16, m16sp)] }
noncomputable def m13c (p : List Bool) : Code := sub p (bodyOf Try.f13)
noncomputable def m13I (k : Nat) : Inl Bool := inlOf (m13E k) (only 13 m13A) 3
noncomputable def m13K0 (M : Cut Bool) (k : Nat) : Exit → St → Option Bool := seqK (normAt 0 m13A false (m13c [true])) (cutK M m13A (m13c [true]) fun s => evC (m13E k) M (m13I k) 0 m13A (m13c [true]) s (retK Try.prog Try.f13 [.leaf (.val .bool)])) (retK Try.prog Try.f13 [.leaf (.val .bool)])
noncomputable def m13K1 (M : Cut Bool) (k : Nat) : Exit → St → Option Bool := seqK (normAt 0 m13A false (m13c [true, true])) (cutK M m13A (m13c [true, true]) fun s => evC (m13E k) M (m13I k) 0 m13A (m13c [true, true]) s (retK Try.prog Try.f13 [.leaf (.val .bool)])) (retK Try.prog Try.f13 [.leaf (.val .bool)])
noncomputable def m13K2 (M : Cut Bool) (k : Nat) : Exit → St → Option Bool := seqK (normAt 0 m13A false (m13c [true, true, true])) (cutK M m13A (m13c [true, true, true]) fun s => evC (m13E k) M (m13I k) 0 m13A (m13c [true, true, true]) s (retK Try.prog Try.f13 [.leaf (.val .bool)])) (retK Try.prog Try.f13 [.leaf (.val .bool)])
noncomputable def m13K3 (M : Cut Bool) (k : Nat) : Exit → St → Option Bool := seqK (normAt 0 m13A false (m13c [true, true, true, true])) (cutK M m13A (m13c [true, true, true, true]) fun s => evC (m13E k) M (m13I k) 0 m13A (m13c [true, true, true, true]) s (retK Try.prog Try.f13 [.leaf (.val .bool)])) (retK Try.prog Try.f13 [.leaf (.val .bool)])

noncomputable def m13X (k : Nat) : Option Bool := (Option.bind (m10F k (3, 2, 5, List.set (List.replicate 1 0) 0 9)) fun (c2 : ((List Int) × Int)) => (Option.bind (m16F k (Prod.fst c2)) fun (c3 : ((Int × (Int × (Int × (List Int)))) × Int)) => (if eqI (Prod.snd c2) 0 = true then (if eqI (Prod.snd c3) 0 = true then (if eqI (↑(List.length (Prod.fst c2)) : Int) 12 = true then (if eqI (Prod.fst (Prod.fst c3)) 3 = true then (if eqI (Prod.fst (Prod.snd (Prod.fst c3))) 2 = true then (if eqI (Prod.fst (Prod.snd (Prod.snd (Prod.fst c3)))) 5 = true then some (eqI (↑(List.length (Prod.snd (Prod.snd (Prod.snd (Prod.fst c3))))) : Int) 1) else some (false)) else some (false)) else some (false)) else some (false)) else some (false)) else some (false))))

theorem m13x (M : Cut Bool) (k : Nat) : evC (m13E k) M (m13I k) 0 m13A (m13c []) (stAt Try.f13 (argSs [] ()) (fun _ => none) 0) (retK Try.prog Try.f13 [.leaf (.val .bool)]) = m13X k := by kernel_rfl

noncomputable def m13F (k : Nat) : Option Bool := m13X k

theorem m13q (k : Nat) : evC (m13E k) (fun _ f => f) (m13I k) 0 m13A (m13c []) (stAt Try.f13 (argSs [] ()) (fun _ => none) 0) (retK Try.prog Try.f13 [.leaf (.val .bool)]) = m13F k := by
    show _ = m13X k
    exact m13x (fun _ f => f) k

noncomputable def m13sp : Spec := { ps := [], rs := [.leaf (.val .bool)], f := fun k a => m13F k }

theorem m13ok (k : Nat) : EnvOk (m13E k) := envOk_of (l := [(10, m10sp), (16, m16sp)]) progNames progMixed rfl (.cons ⟨m10con k, Try.f10, by kernel_rfl, by kernel_rfl⟩ (.cons ⟨m16con k, Try.f16, by kernel_rfl, by kernel_rfl⟩ (.nil)))

theorem m13con (k : Nat) : Contract Try.prog k 13 m13sp := contract_of (E := m13E k) (m13ok k) (A := only 13 m13A) (d := 3) (c := m13c []) (by kernel_rfl) (by kernel_rfl) fun a _ h => (m13q k).trans h

end Go.Proofs.Ytnhghopkbbdebaa.Mini
