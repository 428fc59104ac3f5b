/- Printed by a program of this session's (MPrint, over wip/mini): plain functions of the program's, and that they are what it does. Lean checks it. -/
import Derived.Test.YtnhghopkbbdebaaXMO
import Derived.Test.YtnhghopkbbdebaaProg
import Derived.KernelRfl
set_option linter.unusedVariables false
namespace Go.Proofs.Ytnhghopkbbdebaa.Mini
open Go Go.RowKit Go.Proofs
theorem progNames : (Try.prog.funcs.all fun f => !(f.name == "runtime.NumGoroutine")) = true := by kernel_rfl
theorem progMixed : Try.prog.follows .mixedOrders = true := by kernel_rfl

noncomputable def m9A : Anns := tabA []
noncomputable def m9E (k : Nat) : Env := { P := Try.prog, k := k, G := tabG [], GB := tabGB [] }
noncomputable def m9c (p : List Bool) : Code := sub p (bodyOf Try.f9)
noncomputable def m9I (k : Nat) : Inl (List Int) := inlOf (m9E k) (only 9 m9A) 3
noncomputable def m9K0 (M : Cut (List Int)) (k : Nat) : Exit → St → Option (List Int) := seqK (normAt 0 m9A false (m9c [true])) (cutK M m9A (m9c [true]) fun s => evC (m9E k) M (m9I k) 0 m9A (m9c [true]) s (retK Try.prog Try.f9 [.leaf (.own (.int .u8) 5)])) (retK Try.prog Try.f9 [.leaf (.own (.int .u8) 5)])
noncomputable def m9K1 (M : Cut (List Int)) (k : Nat) : Exit → St → Option (List Int) := seqK (normAt 0 m9A false (m9c [true, true])) (cutK M m9A (m9c [true, true]) fun s => evC (m9E k) M (m9I k) 0 m9A (m9c [true, true]) s (retK Try.prog Try.f9 [.leaf (.own (.int .u8) 5)])) (retK Try.prog Try.f9 [.leaf (.own (.int .u8) 5)])
noncomputable def m9K2 (M : Cut (List Int)) (k : Nat) : Exit → St → Option (List Int) := seqK (normAt 0 m9A false (m9c [true, true, true])) (cutK M m9A (m9c [true, true, true]) fun s => evC (m9E k) M (m9I k) 0 m9A (m9c [true, true, true]) s (retK Try.prog Try.f9 [.leaf (.own (.int .u8) 5)])) (retK Try.prog Try.f9 [.leaf (.own (.int .u8) 5)])

noncomputable def m9X (k : Nat) (p0 : (List Int)) : Option (List Int) := (if leI (↑(List.length p0 * 1) : Int) 140737488355328 = true then some p0 else none)

theorem m9x (M : Cut (List Int)) (k : Nat) (p0 : (List Int)) : evC (m9E k) M (m9I k) 0 m9A (m9c []) (stAt Try.f9 (argSs [.leaf (.val (.row (.int .u8)))] p0) (fun _ => none) 0) (retK Try.prog Try.f9 [.leaf (.own (.int .u8) 5)]) = m9X k p0 := by kernel_rfl

noncomputable def m9F (k : Nat) (p0 : (List Int)) : Option (List Int) := m9X k p0

theorem m9q (k : Nat) (p0 : (List Int)) : evC (m9E k) (fun _ f => f) (m9I k) 0 m9A (m9c []) (stAt Try.f9 (argSs [.leaf (.val (.row (.int .u8)))] p0) (fun _ => none) 0) (retK Try.prog Try.f9 [.leaf (.own (.int .u8) 5)]) = m9F k p0 := by
    show _ = m9X k p0
    exact m9x (fun _ f => f) k p0

noncomputable def m9sp : Spec := { ps := [.leaf (.val (.row (.int .u8)))], rs := [.leaf (.own (.int .u8) 5)], f := fun k a => m9F k a }

theorem m9ok (k : Nat) : EnvOk (m9E k) := envOk_of (l := []) (lB := []) progNames progMixed rfl rfl (.nil) (.nil)

theorem m9con (k : Nat) : Contract Try.prog k 9 m9sp := contract_of (E := m9E k) (m9ok k) (A := only 9 m9A) (d := 3) (c := m9c []) (by kernel_rfl) (by kernel_rfl) fun a _ h => (m9q k a).trans h

noncomputable def m26A : Anns := tabA [(7, { keep := [1, 4], mat := [(1, (.int .i64), 3)] }), (15, { keep := [1, 3, 4, 9] }), (24, { keep := [1, 3, 4] })]
noncomputable def m26E (k : Nat) : Env := { P := Try.prog, k := k, G := tabG [], GB := tabGB [] }
noncomputable def m26c (p : List Bool) : Code := sub p (bodyOf Try.f26)
noncomputable def m26I (k : Nat) : Inl (List Int) := inlOf (m26E k) (only 26 m26A) 3
noncomputable def m26K0 (M : Cut (List Int)) (k : Nat) : Exit → St → Option (List Int) := seqK (normAt 0 m26A false (m26c [true])) (cutK M m26A (m26c [true]) fun s => evC (m26E k) M (m26I k) 0 m26A (m26c [true]) s (retK Try.prog Try.f26 [.leaf (.own (.int .i64) 3)])) (retK Try.prog Try.f26 [.leaf (.own (.int .i64) 3)])
noncomputable def m26K1 (M : Cut (List Int)) (k : Nat) : Exit → St → Option (List Int) := seqK (normAt 0 m26A false (m26c [true, true])) (cutK M m26A (m26c [true, true]) fun s => evC (m26E k) M (m26I k) 0 m26A (m26c [true, true]) s (retK Try.prog Try.f26 [.leaf (.own (.int .i64) 3)])) (retK Try.prog Try.f26 [.leaf (.own (.int .i64) 3)])
noncomputable def m26K2 (M : Cut (List Int)) (k : Nat) : Exit → St → Option (List Int) := seqK (normAt 0 m26A false (m26c [true, true, true])) (cutK M m26A (m26c [true, true, true]) fun s => evC (m26E k) M (m26I k) 0 m26A (m26c [true, true, true]) s (retK Try.prog Try.f26 [.leaf (.own (.int .i64) 3)])) (retK Try.prog Try.f26 [.leaf (.own (.int .i64) 3)])
noncomputable def m26K3 (M : Cut (List Int)) (k : Nat) : Exit → St → Option (List Int) := seqK (normAt 0 m26A false (m26c [true, true, false, true])) (cutK M m26A (m26c [true, true, false, true]) fun s => evC (m26E k) M (m26I k) 0 m26A (m26c [true, true, false, true]) s (m26K2 M k)) (m26K2 M k)
noncomputable def m26K4 (M : Cut (List Int)) (k : Nat) : Exit → St → Option (List Int) := blockK 0 (m26K2 M k)
noncomputable def m26K5 (M : Cut (List Int)) (k : Nat) (L7 : St → Option (List Int)) : Exit → St → Option (List Int) := seqK (normAt 0 m26A true (m26c [true, true, false, true, true, true])) L7 (m26K4 M k)
noncomputable def m26K6 (M : Cut (List Int)) (k : Nat) (L7 : St → Option (List Int)) : Exit → St → Option (List Int) := seqK (normAt 0 m26A false (m26c [true, true, false, true, true, true, true])) (cutK M m26A (m26c [true, true, false, true, true, true, true]) fun s => evC (m26E k) M (m26I k) 0 m26A (m26c [true, true, false, true, true, true, true]) s (m26K5 M k L7)) (m26K5 M k L7)
noncomputable def m26K7 (M : Cut (List Int)) (k : Nat) (L7 : St → Option (List Int)) : Exit → St → Option (List Int) := seqK (normAt 0 m26A false (m26c [true, true, false, true, true, true, true, true])) (cutK M m26A (m26c [true, true, false, true, true, true, true, true]) fun s => evC (m26E k) M (m26I k) 0 m26A (m26c [true, true, false, true, true, true, true, true]) s (m26K5 M k L7)) (m26K5 M k L7)
noncomputable def m26K8 (M : Cut (List Int)) (k : Nat) (L7 : St → Option (List Int)) : Exit → St → Option (List Int) := seqK (normAt 0 m26A false (m26c [true, true, false, true, true, true, true, true, true])) (cutK M m26A (m26c [true, true, false, true, true, true, true, true, true]) fun s => evC (m26E k) M (m26I k) 0 m26A (m26c [true, true, false, true, true, true, true, true, true]) s (m26K5 M k L7)) (m26K5 M k L7)
noncomputable def m26K9 (M : Cut (List Int)) (k : Nat) (L7 : St → Option (List Int)) : Exit → St → Option (List Int) := blockK 1 (m26K8 M k L7)
noncomputable def m26K10 (M : Cut (List Int)) (k : Nat) (L7 : St → Option (List Int)) : Exit → St → Option (List Int) := seqK (normAt 0 m26A false (m26c [true, true, false, true, true, true, true, true, false, true, true])) (cutK M m26A (m26c [true, true, false, true, true, true, true, true, false, true, true]) fun s => evC (m26E k) M (m26I k) 0 m26A (m26c [true, true, false, true, true, true, true, true, false, true, true]) s (m26K9 M k L7)) (m26K9 M k L7)
noncomputable def m26K11 (M : Cut (List Int)) (k : Nat) (L7 : St → Option (List Int)) : Exit → St → Option (List Int) := seqK (normAt 0 m26A false (m26c [true, true, false, true, true, true, true, true, false, true, true, true])) (cutK M m26A (m26c [true, true, false, true, true, true, true, true, false, true, true, true]) fun s => evC (m26E k) M (m26I k) 0 m26A (m26c [true, true, false, true, true, true, true, true, false, true, true, true]) s (m26K9 M k L7)) (m26K9 M k L7)
noncomputable def m26K12 (M : Cut (List Int)) (k : Nat) (L7 : St → Option (List Int)) : Exit → St → Option (List Int) := seqK (normAt 0 m26A false (m26c [true, true, false, true, true, true, true, true, false, true, true, true, true])) (cutK M m26A (m26c [true, true, false, true, true, true, true, true, false, true, true, true, true]) fun s => evC (m26E k) M (m26I k) 0 m26A (m26c [true, true, false, true, true, true, true, true, false, true, true, true, true]) s (m26K9 M k L7)) (m26K9 M k L7)
noncomputable def m26K13 (M : Cut (List Int)) (k : Nat) (L7 : St → Option (List Int)) : Exit → St → Option (List Int) := seqK (normAt 0 m26A false (m26c [true, true, false, true, true, true, true, true, false, true, true, true, false, true])) (cutK M m26A (m26c [true, true, false, true, true, true, true, true, false, true, true, true, false, true]) fun s => evC (m26E k) M (m26I k) 0 m26A (m26c [true, true, false, true, true, true, true, true, false, true, true, true, false, true]) s (m26K12 M k L7)) (m26K12 M k L7)
noncomputable def m26K14 (M : Cut (List Int)) (k : Nat) (L7 : St → Option (List Int)) : Exit → St → Option (List Int) := blockK 2 (m26K12 M k L7)
noncomputable def m26K15 (M : Cut (List Int)) (k : Nat) (L7 : St → Option (List Int)) (L15 : St → Option (List Int)) : Exit → St → Option (List Int) := seqK (normAt 0 m26A true (m26c [true, true, false, true, true, true, true, true, false, true, true, true, false, true, true, true])) L15 (m26K14 M k L7)
noncomputable def m26K16 (M : Cut (List Int)) (k : Nat) (L7 : St → Option (List Int)) (L15 : St → Option (List Int)) : Exit → St → Option (List Int) := seqK (normAt 0 m26A false (m26c [true, true, false, true, true, true, true, true, false, true, true, true, false, true, true, true, true])) (cutK M m26A (m26c [true, true, false, true, true, true, true, true, false, true, true, true, false, true, true, true, true]) fun s => evC (m26E k) M (m26I k) 0 m26A (m26c [true, true, false, true, true, true, true, true, false, true, true, true, false, true, true, true, true]) s (m26K15 M k L7 L15)) (m26K15 M k L7 L15)
noncomputable def m26K17 (M : Cut (List Int)) (k : Nat) (L7 : St → Option (List Int)) (L15 : St → Option (List Int)) : Exit → St → Option (List Int) := seqK (normAt 0 m26A false (m26c [true, true, false, true, true, true, true, true, false, true, true, true, false, true, true, true, true, true])) (cutK M m26A (m26c [true, true, false, true, true, true, true, true, false, true, true, true, false, true, true, true, true, true]) fun s => evC (m26E k) M (m26I k) 0 m26A (m26c [true, true, false, true, true, true, true, true, false, true, true, true, false, true, true, true, true, true]) s (m26K15 M k L7 L15)) (m26K15 M k L7 L15)
noncomputable def m26K18 (M : Cut (List Int)) (k : Nat) (L7 : St → Option (List Int)) (L15 : St → Option (List Int)) : Exit → St → Option (List Int) := seqK (normAt 0 m26A false (m26c [true, true, false, true, true, true, true, true, false, true, true, true, false, true, true, true, true, true, true])) (cutK M m26A (m26c [true, true, false, true, true, true, true, true, false, true, true, true, false, true, true, true, true, true, true]) fun s => evC (m26E k) M (m26I k) 0 m26A (m26c [true, true, false, true, true, true, true, true, false, true, true, true, false, true, true, true, true, true, true]) s (m26K15 M k L7 L15)) (m26K15 M k L7 L15)
noncomputable def m26K19 (M : Cut (List Int)) (k : Nat) (L7 : St → Option (List Int)) (L15 : St → Option (List Int)) : Exit → St → Option (List Int) := blockK 3 (m26K18 M k L7 L15)
noncomputable def m26K20 (M : Cut (List Int)) (k : Nat) (L7 : St → Option (List Int)) (L15 : St → Option (List Int)) : Exit → St → Option (List Int) := seqK (normAt 0 m26A false (m26c [true, true, false, true, true, true, true, true, false, true, true, true, false, true, true, true, true, true, false, true, true])) (cutK M m26A (m26c [true, true, false, true, true, true, true, true, false, true, true, true, false, true, true, true, true, true, false, true, true]) fun s => evC (m26E k) M (m26I k) 0 m26A (m26c [true, true, false, true, true, true, true, true, false, true, true, true, false, true, true, true, true, true, false, true, true]) s (m26K19 M k L7 L15)) (m26K19 M k L7 L15)
noncomputable def m26K21 (M : Cut (List Int)) (k : Nat) (L7 : St → Option (List Int)) (L15 : St → Option (List Int)) : Exit → St → Option (List Int) := seqK (normAt 0 m26A false (m26c [true, true, false, true, true, true, true, true, false, true, true, true, false, true, true, true, true, true, false, true, true, true])) (cutK M m26A (m26c [true, true, false, true, true, true, true, true, false, true, true, true, false, true, true, true, true, true, false, true, true, true]) fun s => evC (m26E k) M (m26I k) 0 m26A (m26c [true, true, false, true, true, true, true, true, false, true, true, true, false, true, true, true, true, true, false, true, true, true]) s (m26K19 M k L7 L15)) (m26K19 M k L7 L15)
noncomputable def m26K22 (M : Cut (List Int)) (k : Nat) : Exit → St → Option (List Int) := seqK (normAt 0 m26A false (m26c [true, true, true, true])) (cutK M m26A (m26c [true, true, true, true]) fun s => evC (m26E k) M (m26I k) 0 m26A (m26c [true, true, true, true]) s (retK Try.prog Try.f26 [.leaf (.own (.int .i64) 3)])) (retK Try.prog Try.f26 [.leaf (.own (.int .i64) 3)])
noncomputable def m26S7 (t4 : Int) (b0 : List Int) : St := { n := 25, tm := slots [(1, .own 0), (4, .int .i64 t4)], tab := blks [some (.row true (.int .i64) 3 b0)], nx := 1 }
noncomputable def m26S15 (t3 : Int) (t4 : Int) (t9 : Int) (b0 : List Int) : St := { n := 25, tm := slots [(1, .own 0), (3, .int .i64 t3), (4, .int .i64 t4), (9, .int .i64 t9)], tab := blks [some (.row true (.int .i64) 3 b0)], nx := 1 }
noncomputable def m26S24 (t3 : Int) (t4 : Int) (b0 : List Int) : St := { n := 25, tm := slots [(1, .own 0), (3, .int .i64 t3), (4, .int .i64 t4)], tab := blks [some (.row true (.int .i64) 3 b0)], nx := 1 }

noncomputable def m26X (X7 : Int → List Int → Option (List Int)) (k : Nat) : Option (List Int) := X7 (0) ([])

theorem m26x (M : Cut (List Int)) (k : Nat) : evC (m26E k) M (m26I k) 0 m26A (m26c []) (stAt Try.f26 (argSs [] ()) (fun _ => none) 0) (retK Try.prog Try.f26 [.leaf (.own (.int .i64) 3)]) = m26X (fun t4' b0' => loopN (normAt 0 m26A true (m26c [true, true, false, true, true, true])) (fun K s => evC (m26E k) M (m26I k) 0 m26A (m26c [true, true, false, true, true, true]) s K) (m26K4 M k) k (m26S7 t4' b0')) k := by kernel_rfl

noncomputable def m26X7 (X15 : Int → Int → Int → List Int → Option (List Int)) (k : Nat) (t4 : Int) (b0 : List Int) : Option (List Int) := (if ltI t4 256 = true then (if leI 0 8 = true then X15 (wr IntKind.i64 (t4 * 256)) t4 (0) b0 else none) else some b0)

theorem m26x7 (M : Cut (List Int)) (k : Nat) (L7 : St → Option (List Int)) (t4 : Int) (b0 : List Int) : evC (m26E k) M (m26I k) 0 m26A (m26c [true, true, false, true, true, true]) (m26S7 t4 b0) (seqK (normAt 0 m26A true (m26c [true, true, false, true, true, true])) L7 (m26K4 M k)) = m26X7 (fun t3' t4' t9' b0' => loopN (normAt 0 m26A true (m26c [true, true, false, true, true, true, true, true, false, true, true, true, false, true, true, true])) (fun K s => evC (m26E k) M (m26I k) 0 m26A (m26c [true, true, false, true, true, true, true, true, false, true, true, true, false, true, true, true]) s K) (m26K14 M k L7) k (m26S15 t3' t4' t9' b0')) k t4 b0 := by kernel_rfl

noncomputable def m26X15 (X24 : Int → Int → List Int → Option (List Int)) (L15 : Int → Int → Int → List Int → Option (List Int)) (k : Nat) (t3 : Int) (t4 : Int) (t9 : Int) (b0 : List Int) : Option (List Int) := (if ltI t9 8 = true then (if leI 0 1 = true then (if ltI 65535 (wr IntKind.i64 (t3 * 2)) = true then L15 (bits BinOp.xor IntKind.i64 (bits BinOp.and IntKind.i64 (wr IntKind.i64 (t3 * 2)) 65535) 4129) t4 (wr IntKind.i64 (t9 + 1)) b0 else L15 (wr IntKind.i64 (t3 * 2)) t4 (wr IntKind.i64 (t9 + 1)) b0) else none) else X24 t3 t4 b0)

theorem m26x15 (M : Cut (List Int)) (k : Nat) (L7 : St → Option (List Int)) (L15 : St → Option (List Int)) (t3 : Int) (t4 : Int) (t9 : Int) (b0 : List Int) : evC (m26E k) M (m26I k) 0 m26A (m26c [true, true, false, true, true, true, true, true, false, true, true, true, false, true, true, true]) (m26S15 t3 t4 t9 b0) (seqK (normAt 0 m26A true (m26c [true, true, false, true, true, true, true, true, false, true, true, true, false, true, true, true])) L15 (m26K14 M k L7)) = m26X15 (fun t3' t4' b0' => M 24 (fun s => evC (m26E k) M (m26I k) 0 m26A (m26c [true, true, false, true, true, true, true, true, false, true, true, true, true]) s (m26K9 M k L7)) (m26S24 t3' t4' b0')) (fun t3' t4' t9' b0' => L15 (m26S15 t3' t4' t9' b0')) k t3 t4 t9 b0 := by kernel_rfl

noncomputable def m26X24 (L7 : Int → List Int → Option (List Int)) (k : Nat) (t3 : Int) (t4 : Int) (b0 : List Int) : Option (List Int) := (if leI (↑((List.length b0 + List.length (List.set (List.replicate 1 0) 0 t3)) * 8) : Int) 140737488355328 = true then L7 (wr IntKind.i64 (t4 + 1)) (b0 ++ List.set (List.replicate 1 0) 0 t3) else none)

theorem m26x24 (M : Cut (List Int)) (k : Nat) (L7 : St → Option (List Int)) (t3 : Int) (t4 : Int) (b0 : List Int) : evC (m26E k) M (m26I k) 0 m26A (m26c [true, true, false, true, true, true, true, true, false, true, true, true, true]) (m26S24 t3 t4 b0) (m26K9 M k L7) = m26X24 (fun t4' b0' => L7 (m26S7 t4' b0')) k t3 t4 b0 := by kernel_rfl

noncomputable def m26F24 (k : Nat) (L7 : Int → List Int → Option (List Int)) (t3 : Int) (t4 : Int) (b0 : List Int) : Option (List Int) := m26X24 L7 k t3 t4 b0

theorem m26q24 (k : Nat) (L7 : St → Option (List Int)) (t3 : Int) (t4 : Int) (b0 : List Int) : evC (m26E k) (fun _ f => f) (m26I k) 0 m26A (m26c [true, true, false, true, true, true, true, true, false, true, true, true, true]) (m26S24 t3 t4 b0) (m26K9 (fun _ f => f) k L7) = m26F24 k (fun t4' b0' => L7 (m26S7 t4' b0')) t3 t4 b0 := by
    show _ = m26X24 (fun t4' b0' => L7 (m26S7 t4' b0')) k t3 t4 b0
    exact m26x24 (fun _ f => f) k L7 t3 t4 b0

noncomputable def m26F15 (k : Nat) (L7 : Int → List Int → Option (List Int)) : Nat → Int → Int → Int → List Int → Option (List Int)
  | 0, _, _, _, _ => none
  | j + 1, t3, t4, t9, b0 => m26X15 (m26F24 k L7) (m26F15 k L7 j) k t3 t4 t9 b0

theorem m26q15 (k : Nat) (L7 : St → Option (List Int)) : ∀ (j : Nat) (t3 : Int) (t4 : Int) (t9 : Int) (b0 : List Int), loopN (normAt 0 m26A true (m26c [true, true, false, true, true, true, true, true, false, true, true, true, false, true, true, true])) (fun K s => evC (m26E k) (fun _ f => f) (m26I k) 0 m26A (m26c [true, true, false, true, true, true, true, true, false, true, true, true, false, true, true, true]) s K) (m26K14 (fun _ f => f) k L7) j (m26S15 t3 t4 t9 b0) = m26F15 k (fun t4' b0' => L7 (m26S7 t4' b0')) j t3 t4 t9 b0
  | 0, _, _, _, _ => rfl
  | j + 1, t3, t4, t9, b0 => by
    have e0 : m26F15 k (fun t4' b0' => L7 (m26S7 t4' b0')) j = (fun t3' t4' t9' b0' => loopN (normAt 0 m26A true (m26c [true, true, false, true, true, true, true, true, false, true, true, true, false, true, true, true])) (fun K s => evC (m26E k) (fun _ f => f) (m26I k) 0 m26A (m26c [true, true, false, true, true, true, true, true, false, true, true, true, false, true, true, true]) s K) (m26K14 (fun _ f => f) k L7) j (m26S15 t3' t4' t9' b0')) := funext fun t3' => funext fun t4' => funext fun t9' => funext fun b0' => (m26q15 k L7 j t3' t4' t9' b0').symm
    have e24 : m26F24 k (fun t4' b0' => L7 (m26S7 t4' b0')) = (fun t3' t4' b0' => evC (m26E k) (fun _ f => f) (m26I k) 0 m26A (m26c [true, true, false, true, true, true, true, true, false, true, true, true, true]) (m26S24 t3' t4' b0') (m26K9 (fun _ f => f) k L7)) := funext fun t3' => funext fun t4' => funext fun b0' => (m26q24 k L7 t3' t4' b0').symm
    show _ = m26X15 (m26F24 k (fun t4' b0' => L7 (m26S7 t4' b0'))) (m26F15 k (fun t4' b0' => L7 (m26S7 t4' b0')) j) k t3 t4 t9 b0
    rw [e0, e24]
    exact m26x15 (fun _ f => f) k L7 (loopN (normAt 0 m26A true (m26c [true, true, false, true, true, true, true, true, false, true, true, true, false, true, true, true])) (fun K s => evC (m26E k) (fun _ f => f) (m26I k) 0 m26A (m26c [true, true, false, true, true, true, true, true, false, true, true, true, false, true, true, true]) s K) (m26K14 (fun _ f => f) k L7) j) t3 t4 t9 b0

noncomputable def m26F7 (k : Nat) : Nat → Int → List Int → Option (List Int)
  | 0, _, _ => none
  | j + 1, t4, b0 => m26X7 (m26F15 k (m26F7 k j) k) k t4 b0

theorem m26q7 (k : Nat) : ∀ (j : Nat) (t4 : Int) (b0 : List Int), loopN (normAt 0 m26A true (m26c [true, true, false, true, true, true])) (fun K s => evC (m26E k) (fun _ f => f) (m26I k) 0 m26A (m26c [true, true, false, true, true, true]) s K) (m26K4 (fun _ f => f) k) j (m26S7 t4 b0) = m26F7 k j t4 b0
  | 0, _, _ => rfl
  | j + 1, t4, b0 => by
    have e0 : m26F7 k j = (fun t4' b0' => loopN (normAt 0 m26A true (m26c [true, true, false, true, true, true])) (fun K s => evC (m26E k) (fun _ f => f) (m26I k) 0 m26A (m26c [true, true, false, true, true, true]) s K) (m26K4 (fun _ f => f) k) j (m26S7 t4' b0')) := funext fun t4' => funext fun b0' => (m26q7 k j t4' b0').symm
    have e15 : m26F15 k (fun t4' b0' => loopN (normAt 0 m26A true (m26c [true, true, false, true, true, true])) (fun K s => evC (m26E k) (fun _ f => f) (m26I k) 0 m26A (m26c [true, true, false, true, true, true]) s K) (m26K4 (fun _ f => f) k) j (m26S7 t4' b0')) k = (fun t3' t4' t9' b0' => loopN (normAt 0 m26A true (m26c [true, true, false, true, true, true, true, true, false, true, true, true, false, true, true, true])) (fun K s => evC (m26E k) (fun _ f => f) (m26I k) 0 m26A (m26c [true, true, false, true, true, true, true, true, false, true, true, true, false, true, true, true]) s K) (m26K14 (fun _ f => f) k (loopN (normAt 0 m26A true (m26c [true, true, false, true, true, true])) (fun K s => evC (m26E k) (fun _ f => f) (m26I k) 0 m26A (m26c [true, true, false, true, true, true]) s K) (m26K4 (fun _ f => f) k) j)) k (m26S15 t3' t4' t9' b0')) := funext fun t3' => funext fun t4' => funext fun t9' => funext fun b0' => (m26q15 k (loopN (normAt 0 m26A true (m26c [true, true, false, true, true, true])) (fun K s => evC (m26E k) (fun _ f => f) (m26I k) 0 m26A (m26c [true, true, false, true, true, true]) s K) (m26K4 (fun _ f => f) k) j) k t3' t4' t9' b0').symm
    show _ = m26X7 (m26F15 k (m26F7 k j) k) k t4 b0
    rw [e0, e15]
    exact m26x7 (fun _ f => f) k (loopN (normAt 0 m26A true (m26c [true, true, false, true, true, true])) (fun K s => evC (m26E k) (fun _ f => f) (m26I k) 0 m26A (m26c [true, true, false, true, true, true]) s K) (m26K4 (fun _ f => f) k) j) t4 b0

noncomputable def m26F (k : Nat) : Option (List Int) := m26X (m26F7 k k) k

theorem m26q (k : Nat) : evC (m26E k) (fun _ f => f) (m26I k) 0 m26A (m26c []) (stAt Try.f26 (argSs [] ()) (fun _ => none) 0) (retK Try.prog Try.f26 [.leaf (.own (.int .i64) 3)]) = m26F k := by
    have e7 : m26F7 k k = (fun t4' b0' => loopN (normAt 0 m26A true (m26c [true, true, false, true, true, true])) (fun K s => evC (m26E k) (fun _ f => f) (m26I k) 0 m26A (m26c [true, true, false, true, true, true]) s K) (m26K4 (fun _ f => f) k) k (m26S7 t4' b0')) := funext fun t4' => funext fun b0' => (m26q7 k k t4' b0').symm
    show _ = m26X (m26F7 k k) k
    rw [e7]
    exact m26x (fun _ f => f) k

noncomputable def m26sp : Spec := { ps := [], rs := [.leaf (.own (.int .i64) 3)], f := fun k a => m26F k }

theorem m26ok (k : Nat) : EnvOk (m26E k) := envOk_of (l := []) (lB := []) progNames progMixed rfl rfl (.nil) (.nil)

theorem m26con (k : Nat) : Contract Try.prog k 26 m26sp := contract_of (E := m26E k) (m26ok k) (A := only 26 m26A) (d := 3) (c := m26c []) (by kernel_rfl) (by kernel_rfl) fun a _ h => (m26q k).trans h

noncomputable def m19A : Anns := tabA [(11, { keep := [4, 5, 12, 13, 14] }), (18, { keep := [5] })]
noncomputable def m19E (k : Nat) : Env := { P := Try.prog, k := k, G := tabG [(26, m26sp)], GB := tabGB [] }
noncomputable def m19c (p : List Bool) : Code := sub p (bodyOf Try.f19)
noncomputable def m19I (k : Nat) : Inl (Int × Int) := inlOf (m19E k) (only 19 m19A) 3
noncomputable def m19K0 (M : Cut (Int × Int)) (k : Nat) : Exit → St → Option (Int × Int) := seqK (normAt 0 m19A false (m19c [true])) (cutK M m19A (m19c [true]) fun s => evC (m19E k) M (m19I k) 0 m19A (m19c [true]) s (retK Try.prog Try.f19 [.leaf (.val (.int .i64)), .leaf (.val (.int .i64))])) (retK Try.prog Try.f19 [.leaf (.val (.int .i64)), .leaf (.val (.int .i64))])
noncomputable def m19K1 (M : Cut (Int × Int)) (k : Nat) : Exit → St → Option (Int × Int) := seqK (normAt 0 m19A false (m19c [true, true])) (cutK M m19A (m19c [true, true]) fun s => evC (m19E k) M (m19I k) 0 m19A (m19c [true, true]) s (retK Try.prog Try.f19 [.leaf (.val (.int .i64)), .leaf (.val (.int .i64))])) (retK Try.prog Try.f19 [.leaf (.val (.int .i64)), .leaf (.val (.int .i64))])
noncomputable def m19K2 (M : Cut (Int × Int)) (k : Nat) : Exit → St → Option (Int × Int) := seqK (normAt 0 m19A false (m19c [true, false, true])) (cutK M m19A (m19c [true, false, true]) fun s => evC (m19E k) M (m19I k) 0 m19A (m19c [true, false, true]) s (m19K1 M k)) (m19K1 M k)
noncomputable def m19K3 (M : Cut (Int × Int)) (k : Nat) : Exit → St → Option (Int × Int) := seqK (normAt 0 m19A false (m19c [true, false, true, false, true])) (cutK M m19A (m19c [true, false, true, false, true]) fun s => evC (m19E k) M (m19I k) 0 m19A (m19c [true, false, true, false, true]) s (m19K1 M k)) (m19K1 M k)
noncomputable def m19K4 (M : Cut (Int × Int)) (k : Nat) : Exit → St → Option (Int × Int) := seqK (normAt 0 m19A false (m19c [true, true, true])) (cutK M m19A (m19c [true, true, true]) fun s => evC (m19E k) M (m19I k) 0 m19A (m19c [true, true, true]) s (retK Try.prog Try.f19 [.leaf (.val (.int .i64)), .leaf (.val (.int .i64))])) (retK Try.prog Try.f19 [.leaf (.val (.int .i64)), .leaf (.val (.int .i64))])
noncomputable def m19K5 (M : Cut (Int × Int)) (k : Nat) : Exit → St → Option (Int × Int) := seqK (normAt 0 m19A false (m19c [true, true, true, true])) (cutK M m19A (m19c [true, true, true, true]) fun s => evC (m19E k) M (m19I k) 0 m19A (m19c [true, true, true, true]) s (retK Try.prog Try.f19 [.leaf (.val (.int .i64)), .leaf (.val (.int .i64))])) (retK Try.prog Try.f19 [.leaf (.val (.int .i64)), .leaf (.val (.int .i64))])
noncomputable def m19K6 (M : Cut (Int × Int)) (k : Nat) : Exit → St → Option (Int × Int) := seqK (normAt 0 m19A false (m19c [true, true, true, false, true])) (cutK M m19A (m19c [true, true, true, false, true]) fun s => evC (m19E k) M (m19I k) 0 m19A (m19c [true, true, true, false, true]) s (m19K5 M k)) (m19K5 M k)
noncomputable def m19K7 (M : Cut (Int × Int)) (k : Nat) : Exit → St → Option (Int × Int) := blockK 0 (m19K5 M k)
noncomputable def m19K8 (M : Cut (Int × Int)) (k : Nat) (L11 : St → Option (Int × Int)) : Exit → St → Option (Int × Int) := seqK (normAt 0 m19A true (m19c [true, true, true, false, true, true, true])) L11 (m19K7 M k)
noncomputable def m19K9 (M : Cut (Int × Int)) (k : Nat) (L11 : St → Option (Int × Int)) : Exit → St → Option (Int × Int) := seqK (normAt 0 m19A false (m19c [true, true, true, false, true, true, true, true])) (cutK M m19A (m19c [true, true, true, false, true, true, true, true]) fun s => evC (m19E k) M (m19I k) 0 m19A (m19c [true, true, true, false, true, true, true, true]) s (m19K8 M k L11)) (m19K8 M k L11)
noncomputable def m19K10 (M : Cut (Int × Int)) (k : Nat) (L11 : St → Option (Int × Int)) : Exit → St → Option (Int × Int) := seqK (normAt 0 m19A false (m19c [true, true, true, false, true, true, true, true, true])) (cutK M m19A (m19c [true, true, true, false, true, true, true, true, true]) fun s => evC (m19E k) M (m19I k) 0 m19A (m19c [true, true, true, false, true, true, true, true, true]) s (m19K8 M k L11)) (m19K8 M k L11)
noncomputable def m19K11 (M : Cut (Int × Int)) (k : Nat) (L11 : St → Option (Int × Int)) : Exit → St → Option (Int × Int) := seqK (normAt 0 m19A false (m19c [true, true, true, false, true, true, true, true, true, true])) (cutK M m19A (m19c [true, true, true, false, true, true, true, true, true, true]) fun s => evC (m19E k) M (m19I k) 0 m19A (m19c [true, true, true, false, true, true, true, true, true, true]) s (m19K8 M k L11)) (m19K8 M k L11)
noncomputable def m19K12 (M : Cut (Int × Int)) (k : Nat) (L11 : St → Option (Int × Int)) : Exit → St → Option (Int × Int) := blockK 1 (m19K11 M k L11)
noncomputable def m19K13 (M : Cut (Int × Int)) (k : Nat) (L11 : St → Option (Int × Int)) : Exit → St → Option (Int × Int) := seqK (normAt 0 m19A false (m19c [true, true, true, false, true, true, true, true, true, false, true, true])) (cutK M m19A (m19c [true, true, true, false, true, true, true, true, true, false, true, true]) fun s => evC (m19E k) M (m19I k) 0 m19A (m19c [true, true, true, false, true, true, true, true, true, false, true, true]) s (m19K12 M k L11)) (m19K12 M k L11)
noncomputable def m19K14 (M : Cut (Int × Int)) (k : Nat) : Exit → St → Option (Int × Int) := seqK (normAt 0 m19A false (m19c [true, true, true, true, true])) (cutK M m19A (m19c [true, true, true, true, true]) fun s => evC (m19E k) M (m19I k) 0 m19A (m19c [true, true, true, true, true]) s (retK Try.prog Try.f19 [.leaf (.val (.int .i64)), .leaf (.val (.int .i64))])) (retK Try.prog Try.f19 [.leaf (.val (.int .i64)), .leaf (.val (.int .i64))])
noncomputable def m19S11 (t5 : Int) (t12 : List Int) (t13 : Int) (t14 : Int) (b0 : List Int) : St := { n := 32, tm := slots [(4, .own 0), (5, .int .i64 t5), (12, .row (.int .u8) t12), (13, .int .i64 t13), (14, .int .i64 t14)], tab := blks [some (.row true (.int .i64) 3 b0)], nx := 1 }
noncomputable def m19S18 (t5 : Int) : St := { n := 32, tm := slots [(5, .int .i64 t5)], tab := blks [], nx := 0 }

noncomputable def m19X (X11 : Int → List Int → Int → Int → List Int → Option (Int × Int)) (k : Nat) (p0 : (List Int)) : Option (Int × Int) := (if ltI 4096 (↑(List.length p0) : Int) = true then some ((0, 2)) else (Option.bind (m26F k) fun (c3 : (List Int)) => X11 (65535) p0 ((↑(List.length p0) : Int)) (0) c3))

theorem m19x (M : Cut (Int × Int)) (k : Nat) (p0 : (List Int)) : evC (m19E k) M (m19I k) 0 m19A (m19c []) (stAt Try.f19 (argSs [.leaf (.val (.row (.int .u8)))] p0) (fun _ => none) 0) (retK Try.prog Try.f19 [.leaf (.val (.int .i64)), .leaf (.val (.int .i64))]) = m19X (fun t5' t12' t13' t14' b0' => loopN (normAt 0 m19A true (m19c [true, true, true, false, true, true, true])) (fun K s => evC (m19E k) M (m19I k) 0 m19A (m19c [true, true, true, false, true, true, true]) s K) (m19K7 M k) k (m19S11 t5' t12' t13' t14' b0')) k p0 := by kernel_rfl

noncomputable def m19X11 (X18 : Int → Option (Int × Int)) (L11 : Int → List Int → Int → Int → List Int → Option (Int × Int)) (k : Nat) (t5 : Int) (t12 : List Int) (t13 : Int) (t14 : Int) (b0 : List Int) : Option (Int × Int) := (if ltI t14 t13 = true then (if leI 0 t14 = true then (if ltI t14 (↑(List.length t12) : Int) = true then (if leI 0 8 = true then (if leI 0 8 = true then (if leI 0 (bits BinOp.xor IntKind.i64 (t5 / 256) (wr IntKind.i64 (List.getD t12 (Int.toNat t14) 0))) = true then (if ltI (bits BinOp.xor IntKind.i64 (t5 / 256) (wr IntKind.i64 (List.getD t12 (Int.toNat t14) 0)))
    (↑(List.length b0) : Int) =
  true then L11 (bits BinOp.xor IntKind.i64 (bits BinOp.and IntKind.i64 (wr IntKind.i64 (t5 * 256)) 65535)
  (List.getD b0 (Int.toNat (bits BinOp.xor IntKind.i64 (t5 / 256) (wr IntKind.i64 (List.getD t12 (Int.toNat t14) 0))))
    0)) t12 t13 (wr IntKind.i64 (t14 + 1)) b0 else none) else none) else none) else none) else none) else none) else X18 t5)

theorem m19x11 (M : Cut (Int × Int)) (k : Nat) (L11 : St → Option (Int × Int)) (t5 : Int) (t12 : List Int) (t13 : Int) (t14 : Int) (b0 : List Int) : evC (m19E k) M (m19I k) 0 m19A (m19c [true, true, true, false, true, true, true]) (m19S11 t5 t12 t13 t14 b0) (seqK (normAt 0 m19A true (m19c [true, true, true, false, true, true, true])) L11 (m19K7 M k)) = m19X11 (fun t5' => M 18 (fun s => evC (m19E k) M (m19I k) 0 m19A (m19c [true, true, true, true]) s (retK Try.prog Try.f19 [.leaf (.val (.int .i64)), .leaf (.val (.int .i64))])) (m19S18 t5')) (fun t5' t12' t13' t14' b0' => L11 (m19S11 t5' t12' t13' t14' b0')) k t5 t12 t13 t14 b0 := by kernel_rfl

noncomputable def m19X18 (k : Nat) (t5 : Int) : Option (Int × Int) := some ((t5, 0))

theorem m19x18 (M : Cut (Int × Int)) (k : Nat) (t5 : Int) : evC (m19E k) M (m19I k) 0 m19A (m19c [true, true, true, true]) (m19S18 t5) (retK Try.prog Try.f19 [.leaf (.val (.int .i64)), .leaf (.val (.int .i64))]) = m19X18 k t5 := by kernel_rfl

noncomputable def m19F18 (k : Nat) (t5 : Int) : Option (Int × Int) := m19X18 k t5

theorem m19q18 (k : Nat) (t5 : Int) : evC (m19E k) (fun _ f => f) (m19I k) 0 m19A (m19c [true, true, true, true]) (m19S18 t5) (retK Try.prog Try.f19 [.leaf (.val (.int .i64)), .leaf (.val (.int .i64))]) = m19F18 k t5 := by
    show _ = m19X18 k t5
    exact m19x18 (fun _ f => f) k t5

noncomputable def m19F11 (k : Nat) : Nat → Int → List Int → Int → Int → List Int → Option (Int × Int)
  | 0, _, _, _, _, _ => none
  | j + 1, t5, t12, t13, t14, b0 => m19X11 (m19F18 k) (m19F11 k j) k t5 t12 t13 t14 b0

theorem m19q11 (k : Nat) : ∀ (j : Nat) (t5 : Int) (t12 : List Int) (t13 : Int) (t14 : Int) (b0 : List Int), loopN (normAt 0 m19A true (m19c [true, true, true, false, true, true, true])) (fun K s => evC (m19E k) (fun _ f => f) (m19I k) 0 m19A (m19c [true, true, true, false, true, true, true]) s K) (m19K7 (fun _ f => f) k) j (m19S11 t5 t12 t13 t14 b0) = m19F11 k j t5 t12 t13 t14 b0
  | 0, _, _, _, _, _ => rfl
  | j + 1, t5, t12, t13, t14, b0 => by
    have e0 : m19F11 k j = (fun t5' t12' t13' t14' b0' => loopN (normAt 0 m19A true (m19c [true, true, true, false, true, true, true])) (fun K s => evC (m19E k) (fun _ f => f) (m19I k) 0 m19A (m19c [true, true, true, false, true, true, true]) s K) (m19K7 (fun _ f => f) k) j (m19S11 t5' t12' t13' t14' b0')) := funext fun t5' => funext fun t12' => funext fun t13' => funext fun t14' => funext fun b0' => (m19q11 k j t5' t12' t13' t14' b0').symm
    have e18 : m19F18 k = (fun t5' => evC (m19E k) (fun _ f => f) (m19I k) 0 m19A (m19c [true, true, true, true]) (m19S18 t5') (retK Try.prog Try.f19 [.leaf (.val (.int .i64)), .leaf (.val (.int .i64))])) := funext fun t5' => (m19q18 k t5').symm
    show _ = m19X11 (m19F18 k) (m19F11 k j) k t5 t12 t13 t14 b0
    rw [e0, e18]
    exact m19x11 (fun _ f => f) k (loopN (normAt 0 m19A true (m19c [true, true, true, false, true, true, true])) (fun K s => evC (m19E k) (fun _ f => f) (m19I k) 0 m19A (m19c [true, true, true, false, true, true, true]) s K) (m19K7 (fun _ f => f) k) j) t5 t12 t13 t14 b0

noncomputable def m19F (k : Nat) (p0 : (List Int)) : Option (Int × Int) := m19X (m19F11 k k) k p0

theorem m19q (k : Nat) (p0 : (List Int)) : evC (m19E k) (fun _ f => f) (m19I k) 0 m19A (m19c []) (stAt Try.f19 (argSs [.leaf (.val (.row (.int .u8)))] p0) (fun _ => none) 0) (retK Try.prog Try.f19 [.leaf (.val (.int .i64)), .leaf (.val (.int .i64))]) = m19F k p0 := by
    have e11 : m19F11 k k = (fun t5' t12' t13' t14' b0' => loopN (normAt 0 m19A true (m19c [true, true, true, false, true, true, true])) (fun K s => evC (m19E k) (fun _ f => f) (m19I k) 0 m19A (m19c [true, true, true, false, true, true, true]) s K) (m19K7 (fun _ f => f) k) k (m19S11 t5' t12' t13' t14' b0')) := funext fun t5' => funext fun t12' => funext fun t13' => funext fun t14' => funext fun b0' => (m19q11 k k t5' t12' t13' t14' b0').symm
    show _ = m19X (m19F11 k k) k p0
    rw [e11]
    exact m19x (fun _ f => f) k p0

noncomputable def m19sp : Spec := { ps := [.leaf (.val (.row (.int .u8)))], rs := [.leaf (.val (.int .i64)), .leaf (.val (.int .i64))], f := fun k a => m19F k a }

theorem m19ok (k : Nat) : EnvOk (m19E k) := envOk_of (l := [(26, m26sp)]) (lB := []) progNames progMixed rfl rfl (.cons ⟨m26con k, Try.f26, by kernel_rfl, by kernel_rfl⟩ (.nil)) (.nil)

theorem m19con (k : Nat) : Contract Try.prog k 19 m19sp := contract_of (E := m19E k) (m19ok k) (A := only 19 m19A) (d := 3) (c := m19c []) (by kernel_rfl) (by kernel_rfl) fun a _ h => (m19q k a).trans h

noncomputable def m24A : Anns := tabA []
noncomputable def m24E (k : Nat) : Env := { P := Try.prog, k := k, G := tabG [], GB := tabGB [] }
noncomputable def m24c (p : List Bool) : Code := sub p (bodyOf Try.f24)
noncomputable def m24I (k : Nat) : Inl (List Int) := inlOf (m24E k) (only 24 m24A) 3
noncomputable def m24K0 (M : Cut (List Int)) (k : Nat) : Exit → St → Option (List Int) := seqK (normAt 0 m24A false (m24c [true])) (cutK M m24A (m24c [true]) fun s => evC (m24E k) M (m24I k) 0 m24A (m24c [true]) s (retK Try.prog Try.f24 [.leaf (.own (.int .u8) 5)])) (retK Try.prog Try.f24 [.leaf (.own (.int .u8) 5)])
noncomputable def m24K1 (M : Cut (List Int)) (k : Nat) : Exit → St → Option (List Int) := seqK (normAt 0 m24A false (m24c [true, true])) (cutK M m24A (m24c [true, true]) fun s => evC (m24E k) M (m24I k) 0 m24A (m24c [true, true]) s (retK Try.prog Try.f24 [.leaf (.own (.int .u8) 5)])) (retK Try.prog Try.f24 [.leaf (.own (.int .u8) 5)])
noncomputable def m24K2 (M : Cut (List Int)) (k : Nat) : Exit → St → Option (List Int) := seqK (normAt 0 m24A false (m24c [true, false, true])) (cutK M m24A (m24c [true, false, true]) fun s => evC (m24E k) M (m24I k) 0 m24A (m24c [true, false, true]) s (m24K1 M k)) (m24K1 M k)
noncomputable def m24K3 (M : Cut (List Int)) (k : Nat) : Exit → St → Option (List Int) := seqK (normAt 0 m24A false (m24c [true, false, true, false, true])) (cutK M m24A (m24c [true, false, true, false, true]) fun s => evC (m24E k) M (m24I k) 0 m24A (m24c [true, false, true, false, true]) s (m24K1 M k)) (m24K1 M k)
noncomputable def m24K4 (M : Cut (List Int)) (k : Nat) : Exit → St → Option (List Int) := seqK (normAt 0 m24A false (m24c [true, true, true])) (cutK M m24A (m24c [true, true, true]) fun s => evC (m24E k) M (m24I k) 0 m24A (m24c [true, true, true]) s (retK Try.prog Try.f24 [.leaf (.own (.int .u8) 5)])) (retK Try.prog Try.f24 [.leaf (.own (.int .u8) 5)])

noncomputable def m24X (k : Nat) (p0 : (List Int)) : Option (List Int) := (nilK (List.isEmpty p0) (some ([])) ((if leI (↑((0 + List.length p0) * 1) : Int) 140737488355328 = true then some (List.replicate 0 0 ++ p0) else none)))

theorem m24x (M : Cut (List Int)) (k : Nat) (p0 : (List Int)) : evC (m24E k) M (m24I k) 0 m24A (m24c []) (stAt Try.f24 (argSs [.leaf (.val (.row (.int .u8)))] p0) (fun _ => none) 0) (retK Try.prog Try.f24 [.leaf (.own (.int .u8) 5)]) = m24X k p0 := by kernel_rfl

noncomputable def m24F (k : Nat) (p0 : (List Int)) : Option (List Int) := m24X k p0

theorem m24q (k : Nat) (p0 : (List Int)) : evC (m24E k) (fun _ f => f) (m24I k) 0 m24A (m24c []) (stAt Try.f24 (argSs [.leaf (.val (.row (.int .u8)))] p0) (fun _ => none) 0) (retK Try.prog Try.f24 [.leaf (.own (.int .u8) 5)]) = m24F k p0 := by
    show _ = m24X k p0
    exact m24x (fun _ f => f) k p0

noncomputable def m24sp : Spec := { ps := [.leaf (.val (.row (.int .u8)))], rs := [.leaf (.own (.int .u8) 5)], f := fun k a => m24F k a }

theorem m24ok (k : Nat) : EnvOk (m24E k) := envOk_of (l := []) (lB := []) progNames progMixed rfl rfl (.nil) (.nil)

theorem m24con (k : Nat) : Contract Try.prog k 24 m24sp := contract_of (E := m24E k) (m24ok k) (A := only 24 m24A) (d := 3) (c := m24c []) (by kernel_rfl) (by kernel_rfl) fun a _ h => (m24q k a).trans h

noncomputable def m20A : Anns := tabA [(15, { keep := [1, 8, 9] }), (20, { keep := [8] })]
noncomputable def m20E (k : Nat) : Env := { P := Try.prog, k := k, G := tabG [(24, m24sp)], GB := tabGB [] }
noncomputable def m20c (p : List Bool) : Code := sub p (bodyOf Try.f20)
noncomputable def m20I (k : Nat) : Inl ((List Int) × Int) := inlOf (m20E k) (only 20 m20A) 3
noncomputable def m20K0 (M : Cut ((List Int) × Int)) (k : Nat) : Exit → St → Option ((List Int) × Int) := seqK (normAt 0 m20A false (m20c [true])) (cutK M m20A (m20c [true]) fun s => evC (m20E k) M (m20I k) 0 m20A (m20c [true]) s (retK Try.prog Try.f20 [.leaf (.own (.int .u8) 5), .leaf (.val (.int .i64))])) (retK Try.prog Try.f20 [.leaf (.own (.int .u8) 5), .leaf (.val (.int .i64))])
noncomputable def m20K1 (M : Cut ((List Int) × Int)) (k : Nat) : Exit → St → Option ((List Int) × Int) := seqK (normAt 0 m20A false (m20c [true, true])) (cutK M m20A (m20c [true, true]) fun s => evC (m20E k) M (m20I k) 0 m20A (m20c [true, true]) s (retK Try.prog Try.f20 [.leaf (.own (.int .u8) 5), .leaf (.val (.int .i64))])) (retK Try.prog Try.f20 [.leaf (.own (.int .u8) 5), .leaf (.val (.int .i64))])
noncomputable def m20K2 (M : Cut ((List Int) × Int)) (k : Nat) : Exit → St → Option ((List Int) × Int) := blockK 0 (m20K1 M k)
noncomputable def m20K3 (M : Cut ((List Int) × Int)) (k : Nat) : Exit → St → Option ((List Int) × Int) := seqK (normAt 0 m20A false (m20c [true, false, true, true])) (cutK M m20A (m20c [true, false, true, true]) fun s => evC (m20E k) M (m20I k) 0 m20A (m20c [true, false, true, true]) s (m20K2 M k)) (m20K2 M k)
noncomputable def m20K4 (M : Cut ((List Int) × Int)) (k : Nat) : Exit → St → Option ((List Int) × Int) := seqK (normAt 0 m20A false (m20c [true, false, true, true, false, true])) (cutK M m20A (m20c [true, false, true, true, false, true]) fun s => evC (m20E k) M (m20I k) 0 m20A (m20c [true, false, true, true, false, true]) s (m20K2 M k)) (m20K2 M k)
noncomputable def m20K5 (M : Cut ((List Int) × Int)) (k : Nat) : Exit → St → Option ((List Int) × Int) := seqK (normAt 0 m20A false (m20c [true, false, true, true, true, true])) (cutK M m20A (m20c [true, false, true, true, true, true]) fun s => evC (m20E k) M (m20I k) 0 m20A (m20c [true, false, true, true, true, true]) s (m20K2 M k)) (m20K2 M k)
noncomputable def m20K6 (M : Cut ((List Int) × Int)) (k : Nat) : Exit → St → Option ((List Int) × Int) := seqK (normAt 0 m20A false (m20c [true, false, true, true, true, true, false, true])) (cutK M m20A (m20c [true, false, true, true, true, true, false, true]) fun s => evC (m20E k) M (m20I k) 0 m20A (m20c [true, false, true, true, true, true, false, true]) s (m20K2 M k)) (m20K2 M k)
noncomputable def m20K7 (M : Cut ((List Int) × Int)) (k : Nat) : Exit → St → Option ((List Int) × Int) := seqK (normAt 0 m20A false (m20c [true, true, true])) (cutK M m20A (m20c [true, true, true]) fun s => evC (m20E k) M (m20I k) 0 m20A (m20c [true, true, true]) s (retK Try.prog Try.f20 [.leaf (.own (.int .u8) 5), .leaf (.val (.int .i64))])) (retK Try.prog Try.f20 [.leaf (.own (.int .u8) 5), .leaf (.val (.int .i64))])
noncomputable def m20K8 (M : Cut ((List Int) × Int)) (k : Nat) : Exit → St → Option ((List Int) × Int) := seqK (normAt 0 m20A false (m20c [true, true, true, true])) (cutK M m20A (m20c [true, true, true, true]) fun s => evC (m20E k) M (m20I k) 0 m20A (m20c [true, true, true, true]) s (retK Try.prog Try.f20 [.leaf (.own (.int .u8) 5), .leaf (.val (.int .i64))])) (retK Try.prog Try.f20 [.leaf (.own (.int .u8) 5), .leaf (.val (.int .i64))])
noncomputable def m20K9 (M : Cut ((List Int) × Int)) (k : Nat) : Exit → St → Option ((List Int) × Int) := seqK (normAt 0 m20A false (m20c [true, true, true, false, true])) (cutK M m20A (m20c [true, true, true, false, true]) fun s => evC (m20E k) M (m20I k) 0 m20A (m20c [true, true, true, false, true]) s (m20K8 M k)) (m20K8 M k)
noncomputable def m20K10 (M : Cut ((List Int) × Int)) (k : Nat) : Exit → St → Option ((List Int) × Int) := blockK 1 (m20K8 M k)
noncomputable def m20K11 (M : Cut ((List Int) × Int)) (k : Nat) (L15 : St → Option ((List Int) × Int)) : Exit → St → Option ((List Int) × Int) := seqK (normAt 0 m20A true (m20c [true, true, true, false, true, true, true])) L15 (m20K10 M k)
noncomputable def m20K12 (M : Cut ((List Int) × Int)) (k : Nat) (L15 : St → Option ((List Int) × Int)) : Exit → St → Option ((List Int) × Int) := seqK (normAt 0 m20A false (m20c [true, true, true, false, true, true, true, true])) (cutK M m20A (m20c [true, true, true, false, true, true, true, true]) fun s => evC (m20E k) M (m20I k) 0 m20A (m20c [true, true, true, false, true, true, true, true]) s (m20K11 M k L15)) (m20K11 M k L15)
noncomputable def m20K13 (M : Cut ((List Int) × Int)) (k : Nat) (L15 : St → Option ((List Int) × Int)) : Exit → St → Option ((List Int) × Int) := seqK (normAt 0 m20A false (m20c [true, true, true, false, true, true, true, false, true])) (cutK M m20A (m20c [true, true, true, false, true, true, true, false, true]) fun s => evC (m20E k) M (m20I k) 0 m20A (m20c [true, true, true, false, true, true, true, false, true]) s (m20K12 M k L15)) (m20K12 M k L15)
noncomputable def m20K14 (M : Cut ((List Int) × Int)) (k : Nat) (L15 : St → Option ((List Int) × Int)) : Exit → St → Option ((List Int) × Int) := seqK (normAt 0 m20A false (m20c [true, true, true, false, true, true, true, true, true])) (cutK M m20A (m20c [true, true, true, false, true, true, true, true, true]) fun s => evC (m20E k) M (m20I k) 0 m20A (m20c [true, true, true, false, true, true, true, true, true]) s (m20K11 M k L15)) (m20K11 M k L15)
noncomputable def m20K15 (M : Cut ((List Int) × Int)) (k : Nat) (L15 : St → Option ((List Int) × Int)) : Exit → St → Option ((List Int) × Int) := blockK 2 (m20K14 M k L15)
noncomputable def m20K16 (M : Cut ((List Int) × Int)) (k : Nat) : Exit → St → Option ((List Int) × Int) := seqK (normAt 0 m20A false (m20c [true, true, true, true, true])) (cutK M m20A (m20c [true, true, true, true, true]) fun s => evC (m20E k) M (m20I k) 0 m20A (m20c [true, true, true, true, true]) s (retK Try.prog Try.f20 [.leaf (.own (.int .u8) 5), .leaf (.val (.int .i64))])) (retK Try.prog Try.f20 [.leaf (.own (.int .u8) 5), .leaf (.val (.int .i64))])
noncomputable def m20S15 (t1 : Int) (t9 : Int) (b0 : List Int) : St := { n := 52, tm := slots [(1, .int .i64 t1), (8, .own 0), (9, .int .i64 t9)], tab := blks [some (.row true (.int .u8) 5 b0)], nx := 1 }
noncomputable def m20S20 (b0 : List Int) : St := { n := 52, tm := slots [(8, .own 0)], tab := blks [some (.row true (.int .u8) 5 b0)], nx := 1 }

noncomputable def m20X (X15 : Int → Int → List Int → Option ((List Int) × Int)) (k : Nat) (p0 : (List Int)) (p1 : Int) (p2 : Int) : Option ((List Int) × Int) := (if ltI p2 1 = true then some (([], 1)) else (if ltI 4 p2 = true then some (([], 1)) else (if ltI p1 0 = true then some (([], 1)) else (if leI 0 (wr IntKind.i64 (8 * p2)) = true then (if leI (wr IntKind.i64 (1 * Mini.p2 (min (Int.toNat (wr IntKind.i64 (8 * p2))) 64))) p1 = true then some (([], 1)) else (if ltI (wr IntKind.i64 (4096 - p2)) (↑(List.length p0) : Int) = true then some (([], 2)) else (Option.bind (m24F k p0) fun (c5 : (List Int)) => X15 p1 (wr IntKind.i64 (p2 - 1)) c5))) else none))))

theorem m20x (M : Cut ((List Int) × Int)) (k : Nat) (p0 : (List Int)) (p1 : Int) (p2 : Int) : evC (m20E k) M (m20I k) 0 m20A (m20c []) (stAt Try.f20 (argSs [.leaf (.val (.row (.int .u8))), .leaf (.val (.int .i64)), .leaf (.val (.int .i64))] (p0, p1, p2)) (fun _ => none) 0) (retK Try.prog Try.f20 [.leaf (.own (.int .u8) 5), .leaf (.val (.int .i64))]) = m20X (fun t1' t9' b0' => loopN (normAt 0 m20A true (m20c [true, true, true, false, true, true, true])) (fun K s => evC (m20E k) M (m20I k) 0 m20A (m20c [true, true, true, false, true, true, true]) s K) (m20K10 M k) k (m20S15 t1' t9' b0')) k p0 p1 p2 := by kernel_rfl

noncomputable def m20X15 (X20 : List Int → Option ((List Int) × Int)) (L15 : Int → Int → List Int → Option ((List Int) × Int)) (k : Nat) (t1 : Int) (t9 : Int) (b0 : List Int) : Option ((List Int) × Int) := (if leI 0 t9 = true then (if leI 0 (wr IntKind.i64 (8 * t9)) = true then (if leI
    (↑((List.length b0 +
            List.length
              (List.set (List.replicate 1 0) 0
                (wr IntKind.u8 (t1 / p2 (min (Int.toNat (wr IntKind.i64 (8 * t9))) 64))))) *
          1) :
      Int)
    140737488355328 =
  true then L15 t1 (wr IntKind.i64 (t9 - 1)) (b0 ++ List.set (List.replicate 1 0) 0 (wr IntKind.u8 (t1 / p2 (min (Int.toNat (wr IntKind.i64 (8 * t9))) 64)))) else none) else none) else X20 b0)

theorem m20x15 (M : Cut ((List Int) × Int)) (k : Nat) (L15 : St → Option ((List Int) × Int)) (t1 : Int) (t9 : Int) (b0 : List Int) : evC (m20E k) M (m20I k) 0 m20A (m20c [true, true, true, false, true, true, true]) (m20S15 t1 t9 b0) (seqK (normAt 0 m20A true (m20c [true, true, true, false, true, true, true])) L15 (m20K10 M k)) = m20X15 (fun b0' => M 20 (fun s => evC (m20E k) M (m20I k) 0 m20A (m20c [true, true, true, true]) s (retK Try.prog Try.f20 [.leaf (.own (.int .u8) 5), .leaf (.val (.int .i64))])) (m20S20 b0')) (fun t1' t9' b0' => L15 (m20S15 t1' t9' b0')) k t1 t9 b0 := by kernel_rfl

noncomputable def m20X20 (k : Nat) (b0 : List Int) : Option ((List Int) × Int) := (Option.bind (m24F k b0) fun (c3 : (List Int)) => some ((c3, 0)))

theorem m20x20 (M : Cut ((List Int) × Int)) (k : Nat) (b0 : List Int) : evC (m20E k) M (m20I k) 0 m20A (m20c [true, true, true, true]) (m20S20 b0) (retK Try.prog Try.f20 [.leaf (.own (.int .u8) 5), .leaf (.val (.int .i64))]) = m20X20 k b0 := by kernel_rfl

noncomputable def m20F20 (k : Nat) (b0 : List Int) : Option ((List Int) × Int) := m20X20 k b0

theorem m20q20 (k : Nat) (b0 : List Int) : evC (m20E k) (fun _ f => f) (m20I k) 0 m20A (m20c [true, true, true, true]) (m20S20 b0) (retK Try.prog Try.f20 [.leaf (.own (.int .u8) 5), .leaf (.val (.int .i64))]) = m20F20 k b0 := by
    show _ = m20X20 k b0
    exact m20x20 (fun _ f => f) k b0

noncomputable def m20F15 (k : Nat) : Nat → Int → Int → List Int → Option ((List Int) × Int)
  | 0, _, _, _ => none
  | j + 1, t1, t9, b0 => m20X15 (m20F20 k) (m20F15 k j) k t1 t9 b0

theorem m20q15 (k : Nat) : ∀ (j : Nat) (t1 : Int) (t9 : Int) (b0 : List Int), loopN (normAt 0 m20A true (m20c [true, true, true, false, true, true, true])) (fun K s => evC (m20E k) (fun _ f => f) (m20I k) 0 m20A (m20c [true, true, true, false, true, true, true]) s K) (m20K10 (fun _ f => f) k) j (m20S15 t1 t9 b0) = m20F15 k j t1 t9 b0
  | 0, _, _, _ => rfl
  | j + 1, t1, t9, b0 => by
    have e0 : m20F15 k j = (fun t1' t9' b0' => loopN (normAt 0 m20A true (m20c [true, true, true, false, true, true, true])) (fun K s => evC (m20E k) (fun _ f => f) (m20I k) 0 m20A (m20c [true, true, true, false, true, true, true]) s K) (m20K10 (fun _ f => f) k) j (m20S15 t1' t9' b0')) := funext fun t1' => funext fun t9' => funext fun b0' => (m20q15 k j t1' t9' b0').symm
    have e20 : m20F20 k = (fun b0' => evC (m20E k) (fun _ f => f) (m20I k) 0 m20A (m20c [true, true, true, true]) (m20S20 b0') (retK Try.prog Try.f20 [.leaf (.own (.int .u8) 5), .leaf (.val (.int .i64))])) := funext fun b0' => (m20q20 k b0').symm
    show _ = m20X15 (m20F20 k) (m20F15 k j) k t1 t9 b0
    rw [e0, e20]
    exact m20x15 (fun _ f => f) k (loopN (normAt 0 m20A true (m20c [true, true, true, false, true, true, true])) (fun K s => evC (m20E k) (fun _ f => f) (m20I k) 0 m20A (m20c [true, true, true, false, true, true, true]) s K) (m20K10 (fun _ f => f) k) j) t1 t9 b0

noncomputable def m20F (k : Nat) (p0 : (List Int)) (p1 : Int) (p2 : Int) : Option ((List Int) × Int) := m20X (m20F15 k k) k p0 p1 p2

theorem m20q (k : Nat) (p0 : (List Int)) (p1 : Int) (p2 : Int) : evC (m20E k) (fun _ f => f) (m20I k) 0 m20A (m20c []) (stAt Try.f20 (argSs [.leaf (.val (.row (.int .u8))), .leaf (.val (.int .i64)), .leaf (.val (.int .i64))] (p0, p1, p2)) (fun _ => none) 0) (retK Try.prog Try.f20 [.leaf (.own (.int .u8) 5), .leaf (.val (.int .i64))]) = m20F k p0 p1 p2 := by
    have e15 : m20F15 k k = (fun t1' t9' b0' => loopN (normAt 0 m20A true (m20c [true, true, true, false, true, true, true])) (fun K s => evC (m20E k) (fun _ f => f) (m20I k) 0 m20A (m20c [true, true, true, false, true, true, true]) s K) (m20K10 (fun _ f => f) k) k (m20S15 t1' t9' b0')) := funext fun t1' => funext fun t9' => funext fun b0' => (m20q15 k k t1' t9' b0').symm
    show _ = m20X (m20F15 k k) k p0 p1 p2
    rw [e15]
    exact m20x (fun _ f => f) k p0 p1 p2

noncomputable def m20sp : Spec := { ps := [.leaf (.val (.row (.int .u8))), .leaf (.val (.int .i64)), .leaf (.val (.int .i64))], rs := [.leaf (.own (.int .u8) 5), .leaf (.val (.int .i64))], f := fun k a => m20F k a.1 a.2.1 a.2.2 }

theorem m20ok (k : Nat) : EnvOk (m20E k) := envOk_of (l := [(24, m24sp)]) (lB := []) progNames progMixed rfl rfl (.cons ⟨m24con k, Try.f24, by kernel_rfl, by kernel_rfl⟩ (.nil)) (.nil)

theorem m20con (k : Nat) : Contract Try.prog k 20 m20sp := contract_of (E := m20E k) (m20ok k) (A := only 20 m20A) (d := 3) (c := m20c []) (by kernel_rfl) (by kernel_rfl) fun a _ h => (m20q k a.1 a.2.1 a.2.2).trans h

noncomputable def m10A : Anns := tabA []
noncomputable def m10E (k : Nat) : Env := { P := Try.prog, k := k, G := tabG [(19, m19sp), (20, m20sp)], GB := tabGB [] }
noncomputable def m10c (p : List Bool) : Code := sub p (bodyOf Try.f10)
noncomputable def m10I (k : Nat) : Inl ((List Int) × Int) := inlOf (m10E k) (only 10 m10A) 3
noncomputable def m10K0 (M : Cut ((List Int) × Int)) (k : Nat) : Exit → St → Option ((List Int) × Int) := seqK (normAt 0 m10A false (m10c [true])) (cutK M m10A (m10c [true]) fun s => evC (m10E k) M (m10I k) 0 m10A (m10c [true]) s (retK Try.prog Try.f10 [.leaf (.own (.int .u8) 5), .leaf (.val (.int .i64))])) (retK Try.prog Try.f10 [.leaf (.own (.int .u8) 5), .leaf (.val (.int .i64))])
noncomputable def m10K1 (M : Cut ((List Int) × Int)) (k : Nat) : Exit → St → Option ((List Int) × Int) := seqK (normAt 0 m10A false (m10c [true, true])) (cutK M m10A (m10c [true, true]) fun s => evC (m10E k) M (m10I k) 0 m10A (m10c [true, true]) s (retK Try.prog Try.f10 [.leaf (.own (.int .u8) 5), .leaf (.val (.int .i64))])) (retK Try.prog Try.f10 [.leaf (.own (.int .u8) 5), .leaf (.val (.int .i64))])
noncomputable def m10K2 (M : Cut ((List Int) × Int)) (k : Nat) : Exit → St → Option ((List Int) × Int) := blockK 0 (m10K1 M k)
noncomputable def m10K3 (M : Cut ((List Int) × Int)) (k : Nat) : Exit → St → Option ((List Int) × Int) := seqK (normAt 0 m10A false (m10c [true, false, true, true])) (cutK M m10A (m10c [true, false, true, true]) fun s => evC (m10E k) M (m10I k) 0 m10A (m10c [true, false, true, true]) s (m10K2 M k)) (m10K2 M k)
noncomputable def m10K4 (M : Cut ((List Int) × Int)) (k : Nat) : Exit → St → Option ((List Int) × Int) := seqK (normAt 0 m10A false (m10c [true, false, true, true, false, true])) (cutK M m10A (m10c [true, false, true, true, false, true]) fun s => evC (m10E k) M (m10I k) 0 m10A (m10c [true, false, true, true, false, true]) s (m10K2 M k)) (m10K2 M k)
noncomputable def m10K5 (M : Cut ((List Int) × Int)) (k : Nat) : Exit → St → Option ((List Int) × Int) := seqK (normAt 0 m10A false (m10c [true, false, true, true, true, true])) (cutK M m10A (m10c [true, false, true, true, true, true]) fun s => evC (m10E k) M (m10I k) 0 m10A (m10c [true, false, true, true, true, true]) s (m10K2 M k)) (m10K2 M k)
noncomputable def m10K6 (M : Cut ((List Int) × Int)) (k : Nat) : Exit → St → Option ((List Int) × Int) := seqK (normAt 0 m10A false (m10c [true, false, true, true, true, true, false, true])) (cutK M m10A (m10c [true, false, true, true, true, true, false, true]) fun s => evC (m10E k) M (m10I k) 0 m10A (m10c [true, false, true, true, true, true, false, true]) s (m10K2 M k)) (m10K2 M k)
noncomputable def m10K7 (M : Cut ((List Int) × Int)) (k : Nat) : Exit → St → Option ((List Int) × Int) := seqK (normAt 0 m10A false (m10c [true, true, true])) (cutK M m10A (m10c [true, true, true]) fun s => evC (m10E k) M (m10I k) 0 m10A (m10c [true, true, true]) s (retK Try.prog Try.f10 [.leaf (.own (.int .u8) 5), .leaf (.val (.int .i64))])) (retK Try.prog Try.f10 [.leaf (.own (.int .u8) 5), .leaf (.val (.int .i64))])
noncomputable def m10K8 (M : Cut ((List Int) × Int)) (k : Nat) : Exit → St → Option ((List Int) × Int) := seqK (normAt 0 m10A false (m10c [true, true, true, true])) (cutK M m10A (m10c [true, true, true, true]) fun s => evC (m10E k) M (m10I k) 0 m10A (m10c [true, true, true, true]) s (retK Try.prog Try.f10 [.leaf (.own (.int .u8) 5), .leaf (.val (.int .i64))])) (retK Try.prog Try.f10 [.leaf (.own (.int .u8) 5), .leaf (.val (.int .i64))])
noncomputable def m10K9 (M : Cut ((List Int) × Int)) (k : Nat) : Exit → St → Option ((List Int) × Int) := seqK (normAt 0 m10A false (m10c [true, true, true, true, true])) (cutK M m10A (m10c [true, true, true, true, true]) fun s => evC (m10E k) M (m10I k) 0 m10A (m10c [true, true, true, true, true]) s (retK Try.prog Try.f10 [.leaf (.own (.int .u8) 5), .leaf (.val (.int .i64))])) (retK Try.prog Try.f10 [.leaf (.own (.int .u8) 5), .leaf (.val (.int .i64))])
noncomputable def m10K10 (M : Cut ((List Int) × Int)) (k : Nat) : Exit → St → Option ((List Int) × Int) := seqK (normAt 0 m10A false (m10c [true, true, true, true, true, true])) (cutK M m10A (m10c [true, true, true, true, true, true]) fun s => evC (m10E k) M (m10I k) 0 m10A (m10c [true, true, true, true, true, true]) s (retK Try.prog Try.f10 [.leaf (.own (.int .u8) 5), .leaf (.val (.int .i64))])) (retK Try.prog Try.f10 [.leaf (.own (.int .u8) 5), .leaf (.val (.int .i64))])
noncomputable def m10K11 (M : Cut ((List Int) × Int)) (k : Nat) : Exit → St → Option ((List Int) × Int) := seqK (normAt 0 m10A false (m10c [true, true, true, true, true, true, true])) (cutK M m10A (m10c [true, true, true, true, true, true, true]) fun s => evC (m10E k) M (m10I k) 0 m10A (m10c [true, true, true, true, true, true, true]) s (retK Try.prog Try.f10 [.leaf (.own (.int .u8) 5), .leaf (.val (.int .i64))])) (retK Try.prog Try.f10 [.leaf (.own (.int .u8) 5), .leaf (.val (.int .i64))])
noncomputable def m10K12 (M : Cut ((List Int) × Int)) (k : Nat) : Exit → St → Option ((List Int) × Int) := seqK (normAt 0 m10A false (m10c [true, true, true, true, true, true, true, true])) (cutK M m10A (m10c [true, true, true, true, true, true, true, true]) fun s => evC (m10E k) M (m10I k) 0 m10A (m10c [true, true, true, true, true, true, true, true]) s (retK Try.prog Try.f10 [.leaf (.own (.int .u8) 5), .leaf (.val (.int .i64))])) (retK Try.prog Try.f10 [.leaf (.own (.int .u8) 5), .leaf (.val (.int .i64))])
noncomputable def m10K13 (M : Cut ((List Int) × Int)) (k : Nat) : Exit → St → Option ((List Int) × Int) := seqK (normAt 0 m10A false (m10c [true, true, true, true, true, true, true, true, true])) (cutK M m10A (m10c [true, true, true, true, true, true, true, true, true]) fun s => evC (m10E k) M (m10I k) 0 m10A (m10c [true, true, true, true, true, true, true, true, true]) s (retK Try.prog Try.f10 [.leaf (.own (.int .u8) 5), .leaf (.val (.int .i64))])) (retK Try.prog Try.f10 [.leaf (.own (.int .u8) 5), .leaf (.val (.int .i64))])

noncomputable def m10X (k : Nat) (p0 : (Int × (Int × (Int × (List Int))))) : Option ((List Int) × Int) := (if ltI (Prod.fst p0) 0 = true then some (([], 1)) else (if leI 1073741824 (Prod.fst p0) = true then some (([], 1)) else (if ltI (Prod.fst (Prod.snd p0)) 0 = true then some (([], 1)) else (if ltI 255 (Prod.fst (Prod.snd p0)) = true then some (([], 1)) else (if ltI (Prod.fst (Prod.snd (Prod.snd p0))) 0 = true then some (([], 1)) else (if ltI 65535 (Prod.fst (Prod.snd (Prod.snd p0))) = true then some (([], 1)) else (if ltI (↑(List.length (Prod.snd (Prod.snd (Prod.snd p0)))) : Int) 1 = true then some (([], 2)) else (if ltI 64 (↑(List.length (Prod.snd (Prod.snd (Prod.snd p0)))) : Int) = true then some (([], 2)) else (Option.bind (m20F k (List.set (List.replicate 1 0) 0 68) (Prod.fst p0) 4) fun (c3 : ((List Int) × Int)) => (Option.bind (m20F k (Prod.fst c3) (Prod.fst (Prod.snd p0)) 1) fun (c4 : ((List Int) × Int)) => (Option.bind (m20F k (Prod.fst c4) (Prod.fst (Prod.snd (Prod.snd p0))) 2) fun (c5 : ((List Int) × Int)) => (Option.bind (m20F k (Prod.fst c5) (↑(List.length (Prod.snd (Prod.snd (Prod.snd p0)))) : Int) 1) fun (c6 : ((List Int) × Int)) => (Option.bind (m19F k (Prod.fst c6)) fun (c7 : (Int × Int)) => (Option.bind (m20F k (Prod.fst c6) (Prod.fst c7) 2) fun (c8 : ((List Int) × Int)) => (if leI (↑((List.length (Prod.fst c8) + List.length (Prod.snd (Prod.snd (Prod.snd p0)))) * 1) : Int) 140737488355328 = true then some ((Prod.fst c8 ++ Prod.snd (Prod.snd (Prod.snd p0)), 0)) else none)))))))))))))))

theorem m10x (M : Cut ((List Int) × Int)) (k : Nat) (p0 : (Int × (Int × (Int × (List Int))))) : evC (m10E k) M (m10I k) 0 m10A (m10c []) (stAt Try.f10 (argSs [.st (.pair (.int .i64) (.pair (.int .i64) (.pair (.int .i64) (.row (.int .u8)))))] p0) (fun _ => none) 0) (retK Try.prog Try.f10 [.leaf (.own (.int .u8) 5), .leaf (.val (.int .i64))]) = m10X k p0 := by kernel_rfl

noncomputable def m10F (k : Nat) (p0 : (Int × (Int × (Int × (List Int))))) : Option ((List Int) × Int) := m10X k p0

theorem m10q (k : Nat) (p0 : (Int × (Int × (Int × (List Int))))) : evC (m10E k) (fun _ f => f) (m10I k) 0 m10A (m10c []) (stAt Try.f10 (argSs [.st (.pair (.int .i64) (.pair (.int .i64) (.pair (.int .i64) (.row (.int .u8)))))] p0) (fun _ => none) 0) (retK Try.prog Try.f10 [.leaf (.own (.int .u8) 5), .leaf (.val (.int .i64))]) = m10F k p0 := by
    show _ = m10X k p0
    exact m10x (fun _ f => f) k p0

noncomputable def m10sp : Spec := { ps := [.st (.pair (.int .i64) (.pair (.int .i64) (.pair (.int .i64) (.row (.int .u8)))))], rs := [.leaf (.own (.int .u8) 5), .leaf (.val (.int .i64))], f := fun k a => m10F k a }

theorem m10ok (k : Nat) : EnvOk (m10E k) := envOk_of (l := [(19, m19sp), (20, m20sp)]) (lB := []) progNames progMixed rfl rfl (.cons ⟨m19con k, Try.f19, by kernel_rfl, by kernel_rfl⟩ (.cons ⟨m20con k, Try.f20, by kernel_rfl, by kernel_rfl⟩ (.nil))) (.nil)

theorem m10con (k : Nat) : Contract Try.prog k 10 m10sp := contract_of (E := m10E k) (m10ok k) (A := only 10 m10A) (d := 3) (c := m10c []) (by kernel_rfl) (by kernel_rfl) fun a _ h => (m10q k a).trans h

noncomputable def m11A : Anns := tabA []
noncomputable def m11E (k : Nat) : Env := { P := Try.prog, k := k, G := tabG [], GB := tabGB [] }
noncomputable def m11c (p : List Bool) : Code := sub p (bodyOf Try.f11)
noncomputable def m11I (k : Nat) : Inl Int := inlOf (m11E k) (only 11 m11A) 3
noncomputable def m11K0 (M : Cut Int) (k : Nat) : Exit → St → Option Int := seqK (normAt 0 m11A false (m11c [true])) (cutK M m11A (m11c [true]) fun s => evC (m11E k) M (m11I k) 0 m11A (m11c [true]) s (retK Try.prog Try.f11 [.leaf (.val (.int .i64))])) (retK Try.prog Try.f11 [.leaf (.val (.int .i64))])
noncomputable def m11K1 (M : Cut Int) (k : Nat) : Exit → St → Option Int := seqK (normAt 0 m11A false (m11c [true, true])) (cutK M m11A (m11c [true, true]) fun s => evC (m11E k) M (m11I k) 0 m11A (m11c [true, true]) s (retK Try.prog Try.f11 [.leaf (.val (.int .i64))])) (retK Try.prog Try.f11 [.leaf (.val (.int .i64))])
noncomputable def m11K2 (M : Cut Int) (k : Nat) : Exit → St → Option Int := seqK (normAt 0 m11A false (m11c [true, false, true])) (cutK M m11A (m11c [true, false, true]) fun s => evC (m11E k) M (m11I k) 0 m11A (m11c [true, false, true]) s (m11K1 M k)) (m11K1 M k)
noncomputable def m11K3 (M : Cut Int) (k : Nat) : Exit → St → Option Int := seqK (normAt 0 m11A false (m11c [true, false, true, false, true])) (cutK M m11A (m11c [true, false, true, false, true]) fun s => evC (m11E k) M (m11I k) 0 m11A (m11c [true, false, true, false, true]) s (m11K1 M k)) (m11K1 M k)
noncomputable def m11K4 (M : Cut Int) (k : Nat) : Exit → St → Option Int := seqK (normAt 0 m11A false (m11c [true, true, true])) (cutK M m11A (m11c [true, true, true]) fun s => evC (m11E k) M (m11I k) 0 m11A (m11c [true, true, true]) s (retK Try.prog Try.f11 [.leaf (.val (.int .i64))])) (retK Try.prog Try.f11 [.leaf (.val (.int .i64))])
noncomputable def m11K5 (M : Cut Int) (k : Nat) : Exit → St → Option Int := seqK (normAt 0 m11A false (m11c [true, true, false, true])) (cutK M m11A (m11c [true, true, false, true]) fun s => evC (m11E k) M (m11I k) 0 m11A (m11c [true, true, false, true]) s (m11K4 M k)) (m11K4 M k)
noncomputable def m11K6 (M : Cut Int) (k : Nat) : Exit → St → Option Int := seqK (normAt 0 m11A false (m11c [true, true, false, true, false, true])) (cutK M m11A (m11c [true, true, false, true, false, true]) fun s => evC (m11E k) M (m11I k) 0 m11A (m11c [true, true, false, true, false, true]) s (m11K4 M k)) (m11K4 M k)
noncomputable def m11K7 (M : Cut Int) (k : Nat) : Exit → St → Option Int := seqK (normAt 0 m11A false (m11c [true, true, true, true])) (cutK M m11A (m11c [true, true, true, true]) fun s => evC (m11E k) M (m11I k) 0 m11A (m11c [true, true, true, true]) s (retK Try.prog Try.f11 [.leaf (.val (.int .i64))])) (retK Try.prog Try.f11 [.leaf (.val (.int .i64))])

noncomputable def m11X (k : Nat) (p0 : (Int × (Int × (Int × (List Int))))) : Option Int := (if ltI (Prod.fst p0) 0 = true then some (1) else (if leI 1073741824 (Prod.fst p0) = true then some (1) else (if ltI (Prod.fst (Prod.snd p0)) 0 = true then some (1) else (if ltI 255 (Prod.fst (Prod.snd p0)) = true then some (1) else (if ltI (Prod.fst (Prod.snd (Prod.snd p0))) 0 = true then some (1) else (if ltI 65535 (Prod.fst (Prod.snd (Prod.snd p0))) = true then some (1) else (if ltI (↑(List.length (Prod.snd (Prod.snd (Prod.snd p0)))) : Int) 1 = true then some (2) else (if ltI 64 (↑(List.length (Prod.snd (Prod.snd (Prod.snd p0)))) : Int) = true then some (2) else some (0)))))))))

theorem m11x (M : Cut Int) (k : Nat) (p0 : (Int × (Int × (Int × (List Int))))) : evC (m11E k) M (m11I k) 0 m11A (m11c []) (stAt Try.f11 (argSs [.st (.pair (.int .i64) (.pair (.int .i64) (.pair (.int .i64) (.row (.int .u8)))))] p0) (fun _ => none) 0) (retK Try.prog Try.f11 [.leaf (.val (.int .i64))]) = m11X k p0 := by kernel_rfl

noncomputable def m11F (k : Nat) (p0 : (Int × (Int × (Int × (List Int))))) : Option Int := m11X k p0

theorem m11q (k : Nat) (p0 : (Int × (Int × (Int × (List Int))))) : evC (m11E k) (fun _ f => f) (m11I k) 0 m11A (m11c []) (stAt Try.f11 (argSs [.st (.pair (.int .i64) (.pair (.int .i64) (.pair (.int .i64) (.row (.int .u8)))))] p0) (fun _ => none) 0) (retK Try.prog Try.f11 [.leaf (.val (.int .i64))]) = m11F k p0 := by
    show _ = m11X k p0
    exact m11x (fun _ f => f) k p0

noncomputable def m11sp : Spec := { ps := [.st (.pair (.int .i64) (.pair (.int .i64) (.pair (.int .i64) (.row (.int .u8)))))], rs := [.leaf (.val (.int .i64))], f := fun k a => m11F k a }

theorem m11ok (k : Nat) : EnvOk (m11E k) := envOk_of (l := []) (lB := []) progNames progMixed rfl rfl (.nil) (.nil)

theorem m11con (k : Nat) : Contract Try.prog k 11 m11sp := contract_of (E := m11E k) (m11ok k) (A := only 11 m11A) (d := 3) (c := m11c []) (by kernel_rfl) (by kernel_rfl) fun a _ h => (m11q k a).trans h

noncomputable def m14A : Anns := tabA [(9, { keep := [0, 1, 5] })]
noncomputable def m14E (k : Nat) : Env := { P := Try.prog, k := k, G := tabG [], GB := tabGB [] }
noncomputable def m14c (p : List Bool) : Code := sub p (bodyOf Try.f14)
noncomputable def m14I (k : Nat) : Inl Bool := inlOf (m14E k) (only 14 m14A) 3
noncomputable def m14K0 (M : Cut Bool) (k : Nat) : Exit → St → Option Bool := seqK (normAt 0 m14A false (m14c [true])) (cutK M m14A (m14c [true]) fun s => evC (m14E k) M (m14I k) 0 m14A (m14c [true]) s (retK Try.prog Try.f14 [.leaf (.val .bool)])) (retK Try.prog Try.f14 [.leaf (.val .bool)])
noncomputable def m14K1 (M : Cut Bool) (k : Nat) : Exit → St → Option Bool := seqK (normAt 0 m14A false (m14c [true, true])) (cutK M m14A (m14c [true, true]) fun s => evC (m14E k) M (m14I k) 0 m14A (m14c [true, true]) s (retK Try.prog Try.f14 [.leaf (.val .bool)])) (retK Try.prog Try.f14 [.leaf (.val .bool)])
noncomputable def m14K2 (M : Cut Bool) (k : Nat) : Exit → St → Option Bool := seqK (normAt 0 m14A false (m14c [true, false, true])) (cutK M m14A (m14c [true, false, true]) fun s => evC (m14E k) M (m14I k) 0 m14A (m14c [true, false, true]) s (m14K1 M k)) (m14K1 M k)
noncomputable def m14K3 (M : Cut Bool) (k : Nat) : Exit → St → Option Bool := seqK (normAt 0 m14A false (m14c [true, false, true, false, true])) (cutK M m14A (m14c [true, false, true, false, true]) fun s => evC (m14E k) M (m14I k) 0 m14A (m14c [true, false, true, false, true]) s (m14K1 M k)) (m14K1 M k)
noncomputable def m14K4 (M : Cut Bool) (k : Nat) : Exit → St → Option Bool := seqK (normAt 0 m14A false (m14c [true, true, true])) (cutK M m14A (m14c [true, true, true]) fun s => evC (m14E k) M (m14I k) 0 m14A (m14c [true, true, true]) s (retK Try.prog Try.f14 [.leaf (.val .bool)])) (retK Try.prog Try.f14 [.leaf (.val .bool)])
noncomputable def m14K5 (M : Cut Bool) (k : Nat) : Exit → St → Option Bool := seqK (normAt 0 m14A false (m14c [true, true, false, true])) (cutK M m14A (m14c [true, true, false, true]) fun s => evC (m14E k) M (m14I k) 0 m14A (m14c [true, true, false, true]) s (m14K4 M k)) (m14K4 M k)
noncomputable def m14K6 (M : Cut Bool) (k : Nat) : Exit → St → Option Bool := blockK 0 (m14K4 M k)
noncomputable def m14K7 (M : Cut Bool) (k : Nat) (L9 : St → Option Bool) : Exit → St → Option Bool := seqK (normAt 0 m14A true (m14c [true, true, false, true, true, true])) L9 (m14K6 M k)
noncomputable def m14K8 (M : Cut Bool) (k : Nat) (L9 : St → Option Bool) : Exit → St → Option Bool := seqK (normAt 0 m14A false (m14c [true, true, false, true, true, true, true])) (cutK M m14A (m14c [true, true, false, true, true, true, true]) fun s => evC (m14E k) M (m14I k) 0 m14A (m14c [true, true, false, true, true, true, true]) s (m14K7 M k L9)) (m14K7 M k L9)
noncomputable def m14K9 (M : Cut Bool) (k : Nat) (L9 : St → Option Bool) : Exit → St → Option Bool := seqK (normAt 0 m14A false (m14c [true, true, false, true, true, true, false, true])) (cutK M m14A (m14c [true, true, false, true, true, true, false, true]) fun s => evC (m14E k) M (m14I k) 0 m14A (m14c [true, true, false, true, true, true, false, true]) s (m14K8 M k L9)) (m14K8 M k L9)
noncomputable def m14K10 (M : Cut Bool) (k : Nat) (L9 : St → Option Bool) : Exit → St → Option Bool := seqK (normAt 0 m14A false (m14c [true, true, false, true, true, true, true, true])) (cutK M m14A (m14c [true, true, false, true, true, true, true, true]) fun s => evC (m14E k) M (m14I k) 0 m14A (m14c [true, true, false, true, true, true, true, true]) s (m14K7 M k L9)) (m14K7 M k L9)
noncomputable def m14K11 (M : Cut Bool) (k : Nat) (L9 : St → Option Bool) : Exit → St → Option Bool := blockK 1 (m14K10 M k L9)
noncomputable def m14K12 (M : Cut Bool) (k : Nat) (L9 : St → Option Bool) : Exit → St → Option Bool := seqK (normAt 0 m14A false (m14c [true, true, false, true, true, true, true, false, true, true])) (cutK M m14A (m14c [true, true, false, true, true, true, true, false, true, true]) fun s => evC (m14E k) M (m14I k) 0 m14A (m14c [true, true, false, true, true, true, true, false, true, true]) s (m14K11 M k L9)) (m14K11 M k L9)
noncomputable def m14K13 (M : Cut Bool) (k : Nat) (L9 : St → Option Bool) : Exit → St → Option Bool := seqK (normAt 0 m14A false (m14c [true, true, false, true, true, true, true, false, true, true, false, true])) (cutK M m14A (m14c [true, true, false, true, true, true, true, false, true, true, false, true]) fun s => evC (m14E k) M (m14I k) 0 m14A (m14c [true, true, false, true, true, true, true, false, true, true, false, true]) s (m14K11 M k L9)) (m14K11 M k L9)
noncomputable def m14K14 (M : Cut Bool) (k : Nat) : Exit → St → Option Bool := seqK (normAt 0 m14A false (m14c [true, true, true, true])) (cutK M m14A (m14c [true, true, true, true]) fun s => evC (m14E k) M (m14I k) 0 m14A (m14c [true, true, true, true]) s (retK Try.prog Try.f14 [.leaf (.val .bool)])) (retK Try.prog Try.f14 [.leaf (.val .bool)])
noncomputable def m14S9 (t0 : List Int) (t1 : List Int) (t5 : Int) : St := { n := 26, tm := slots [(0, .row (.int .u8) t0), (1, .row (.int .u8) t1), (5, .int .i64 t5)], tab := blks [], nx := 0 }

noncomputable def m14X (X9 : List Int → List Int → Int → Option Bool) (k : Nat) (p0 : (List Int)) (p1 : (List Int)) : Option Bool := (if (!eqI (↑(List.length p0) : Int) (↑(List.length p1) : Int)) = true then some (false) else X9 p0 p1 (0))

theorem m14x (M : Cut Bool) (k : Nat) (p0 : (List Int)) (p1 : (List Int)) : evC (m14E k) M (m14I k) 0 m14A (m14c []) (stAt Try.f14 (argSs [.leaf (.val (.row (.int .u8))), .leaf (.val (.row (.int .u8)))] (p0, p1)) (fun _ => none) 0) (retK Try.prog Try.f14 [.leaf (.val .bool)]) = m14X (fun t0' t1' t5' => loopN (normAt 0 m14A true (m14c [true, true, false, true, true, true])) (fun K s => evC (m14E k) M (m14I k) 0 m14A (m14c [true, true, false, true, true, true]) s K) (m14K6 M k) k (m14S9 t0' t1' t5')) k p0 p1 := by kernel_rfl

noncomputable def m14X9 (L9 : List Int → List Int → Int → Option Bool) (k : Nat) (t0 : List Int) (t1 : List Int) (t5 : Int) : Option Bool := (if ltI t5 (↑(List.length t0) : Int) = true then (if leI 0 t5 = true then (if ltI t5 (↑(List.length t0) : Int) = true then (if leI 0 t5 = true then (if ltI t5 (↑(List.length t1) : Int) = true then (if (!eqI (List.getD t0 (Int.toNat t5) 0) (List.getD t1 (Int.toNat t5) 0)) = true then some (false) else L9 t0 t1 (wr IntKind.i64 (t5 + 1))) else none) else none) else none) else none) else some (true))

theorem m14x9 (M : Cut Bool) (k : Nat) (L9 : St → Option Bool) (t0 : List Int) (t1 : List Int) (t5 : Int) : evC (m14E k) M (m14I k) 0 m14A (m14c [true, true, false, true, true, true]) (m14S9 t0 t1 t5) (seqK (normAt 0 m14A true (m14c [true, true, false, true, true, true])) L9 (m14K6 M k)) = m14X9 (fun t0' t1' t5' => L9 (m14S9 t0' t1' t5')) k t0 t1 t5 := by kernel_rfl

noncomputable def m14F9 (k : Nat) : Nat → List Int → List Int → Int → Option Bool
  | 0, _, _, _ => none
  | j + 1, t0, t1, t5 => m14X9 (m14F9 k j) k t0 t1 t5

theorem m14q9 (k : Nat) : ∀ (j : Nat) (t0 : List Int) (t1 : List Int) (t5 : Int), loopN (normAt 0 m14A true (m14c [true, true, false, true, true, true])) (fun K s => evC (m14E k) (fun _ f => f) (m14I k) 0 m14A (m14c [true, true, false, true, true, true]) s K) (m14K6 (fun _ f => f) k) j (m14S9 t0 t1 t5) = m14F9 k j t0 t1 t5
  | 0, _, _, _ => rfl
  | j + 1, t0, t1, t5 => by
    have e0 : m14F9 k j = (fun t0' t1' t5' => loopN (normAt 0 m14A true (m14c [true, true, false, true, true, true])) (fun K s => evC (m14E k) (fun _ f => f) (m14I k) 0 m14A (m14c [true, true, false, true, true, true]) s K) (m14K6 (fun _ f => f) k) j (m14S9 t0' t1' t5')) := funext fun t0' => funext fun t1' => funext fun t5' => (m14q9 k j t0' t1' t5').symm
    show _ = m14X9 (m14F9 k j) k t0 t1 t5
    rw [e0]
    exact m14x9 (fun _ f => f) k (loopN (normAt 0 m14A true (m14c [true, true, false, true, true, true])) (fun K s => evC (m14E k) (fun _ f => f) (m14I k) 0 m14A (m14c [true, true, false, true, true, true]) s K) (m14K6 (fun _ f => f) k) j) t0 t1 t5

noncomputable def m14F (k : Nat) (p0 : (List Int)) (p1 : (List Int)) : Option Bool := m14X (m14F9 k k) k p0 p1

theorem m14q (k : Nat) (p0 : (List Int)) (p1 : (List Int)) : evC (m14E k) (fun _ f => f) (m14I k) 0 m14A (m14c []) (stAt Try.f14 (argSs [.leaf (.val (.row (.int .u8))), .leaf (.val (.row (.int .u8)))] (p0, p1)) (fun _ => none) 0) (retK Try.prog Try.f14 [.leaf (.val .bool)]) = m14F k p0 p1 := by
    have e9 : m14F9 k k = (fun t0' t1' t5' => loopN (normAt 0 m14A true (m14c [true, true, false, true, true, true])) (fun K s => evC (m14E k) (fun _ f => f) (m14I k) 0 m14A (m14c [true, true, false, true, true, true]) s K) (m14K6 (fun _ f => f) k) k (m14S9 t0' t1' t5')) := funext fun t0' => funext fun t1' => funext fun t5' => (m14q9 k k t0' t1' t5').symm
    show _ = m14X (m14F9 k k) k p0 p1
    rw [e9]
    exact m14x (fun _ f => f) k p0 p1

noncomputable def m14sp : Spec := { ps := [.leaf (.val (.row (.int .u8))), .leaf (.val (.row (.int .u8)))], rs := [.leaf (.val .bool)], f := fun k a => m14F k a.1 a.2 }

theorem m14ok (k : Nat) : EnvOk (m14E k) := envOk_of (l := []) (lB := []) progNames progMixed rfl rfl (.nil) (.nil)

theorem m14con (k : Nat) : Contract Try.prog k 14 m14sp := contract_of (E := m14E k) (m14ok k) (A := only 14 m14A) (d := 3) (c := m14c []) (by kernel_rfl) (by kernel_rfl) fun a _ h => (m14q k a.1 a.2).trans h

noncomputable def m12A : Anns := tabA []
noncomputable def m12E (k : Nat) : Env := { P := Try.prog, k := k, G := tabG [(14, m14sp)], GB := tabGB [] }
noncomputable def m12c (p : List Bool) : Code := sub p (bodyOf Try.f12)
noncomputable def m12I (k : Nat) : Inl Bool := inlOf (m12E k) (only 12 m12A) 3
noncomputable def m12K0 (M : Cut Bool) (k : Nat) : Exit → St → Option Bool := seqK (normAt 0 m12A false (m12c [true])) (cutK M m12A (m12c [true]) fun s => evC (m12E k) M (m12I k) 0 m12A (m12c [true]) s (retK Try.prog Try.f12 [.leaf (.val .bool)])) (retK Try.prog Try.f12 [.leaf (.val .bool)])
noncomputable def m12K1 (M : Cut Bool) (k : Nat) : Exit → St → Option Bool := seqK (normAt 0 m12A false (m12c [true, true])) (cutK M m12A (m12c [true, true]) fun s => evC (m12E k) M (m12I k) 0 m12A (m12c [true, true]) s (retK Try.prog Try.f12 [.leaf (.val .bool)])) (retK Try.prog Try.f12 [.leaf (.val .bool)])

noncomputable def m12X (k : Nat) (p0 : (Int × (Int × (Int × (List Int))))) (p1 : (Int × (Int × (Int × (List Int))))) : Option Bool := (if eqI (Prod.fst p0) (Prod.fst p1) = true then (if eqI (Prod.fst (Prod.snd p0)) (Prod.fst (Prod.snd p1)) = true then (if eqI (Prod.fst (Prod.snd (Prod.snd p0))) (Prod.fst (Prod.snd (Prod.snd p1))) = true then (Option.bind (m14F k (Prod.snd (Prod.snd (Prod.snd p0))) (Prod.snd (Prod.snd (Prod.snd p1)))) fun (c4 : Bool) => some c4) else some (false)) else some (false)) else some (false))

theorem m12x (M : Cut Bool) (k : Nat) (p0 : (Int × (Int × (Int × (List Int))))) (p1 : (Int × (Int × (Int × (List Int))))) : evC (m12E k) M (m12I k) 0 m12A (m12c []) (stAt Try.f12 (argSs [.st (.pair (.int .i64) (.pair (.int .i64) (.pair (.int .i64) (.row (.int .u8))))), .st (.pair (.int .i64) (.pair (.int .i64) (.pair (.int .i64) (.row (.int .u8)))))] (p0, p1)) (fun _ => none) 0) (retK Try.prog Try.f12 [.leaf (.val .bool)]) = m12X k p0 p1 := by kernel_rfl

noncomputable def m12F (k : Nat) (p0 : (Int × (Int × (Int × (List Int))))) (p1 : (Int × (Int × (Int × (List Int))))) : Option Bool := m12X k p0 p1

theorem m12q (k : Nat) (p0 : (Int × (Int × (Int × (List Int))))) (p1 : (Int × (Int × (Int × (List Int))))) : evC (m12E k) (fun _ f => f) (m12I k) 0 m12A (m12c []) (stAt Try.f12 (argSs [.st (.pair (.int .i64) (.pair (.int .i64) (.pair (.int .i64) (.row (.int .u8))))), .st (.pair (.int .i64) (.pair (.int .i64) (.pair (.int .i64) (.row (.int .u8)))))] (p0, p1)) (fun _ => none) 0) (retK Try.prog Try.f12 [.leaf (.val .bool)]) = m12F k p0 p1 := by
    show _ = m12X k p0 p1
    exact m12x (fun _ f => f) k p0 p1

noncomputable def m12sp : Spec := { ps := [.st (.pair (.int .i64) (.pair (.int .i64) (.pair (.int .i64) (.row (.int .u8))))), .st (.pair (.int .i64) (.pair (.int .i64) (.pair (.int .i64) (.row (.int .u8)))))], rs := [.leaf (.val .bool)], f := fun k a => m12F k a.1 a.2 }

theorem m12ok (k : Nat) : EnvOk (m12E k) := envOk_of (l := [(14, m14sp)]) (lB := []) progNames progMixed rfl rfl (.cons ⟨m14con k, Try.f14, by kernel_rfl, by kernel_rfl⟩ (.nil)) (.nil)

theorem m12con (k : Nat) : Contract Try.prog k 12 m12sp := contract_of (E := m12E k) (m12ok k) (A := only 12 m12A) (d := 3) (c := m12c []) (by kernel_rfl) (by kernel_rfl) fun a _ h => (m12q k a.1 a.2).trans h

noncomputable def m23A : Anns := tabA [(15, { keep := [8, 40, 41, 42] }), (22, { keep := [8] })]
noncomputable def m23E (k : Nat) : Env := { P := Try.prog, k := k, G := tabG [], GB := tabGB [] }
noncomputable def m23c (p : List Bool) : Code := sub p (bodyOf Try.f23)
noncomputable def m23I (k : Nat) : Inl (Int × Int) := inlOf (m23E k) (only 23 m23A) 3
noncomputable def m23K0 (M : Cut (Int × Int)) (k : Nat) : Exit → St → Option (Int × Int) := seqK (normAt 0 m23A false (m23c [true])) (cutK M m23A (m23c [true]) fun s => evC (m23E k) M (m23I k) 0 m23A (m23c [true]) s (retK Try.prog Try.f23 [.leaf (.val (.int .i64)), .leaf (.val (.int .i64))])) (retK Try.prog Try.f23 [.leaf (.val (.int .i64)), .leaf (.val (.int .i64))])
noncomputable def m23K1 (M : Cut (Int × Int)) (k : Nat) : Exit → St → Option (Int × Int) := seqK (normAt 0 m23A false (m23c [true, true])) (cutK M m23A (m23c [true, true]) fun s => evC (m23E k) M (m23I k) 0 m23A (m23c [true, true]) s (retK Try.prog Try.f23 [.leaf (.val (.int .i64)), .leaf (.val (.int .i64))])) (retK Try.prog Try.f23 [.leaf (.val (.int .i64)), .leaf (.val (.int .i64))])
noncomputable def m23K2 (M : Cut (Int × Int)) (k : Nat) : Exit → St → Option (Int × Int) := blockK 0 (m23K1 M k)
noncomputable def m23K3 (M : Cut (Int × Int)) (k : Nat) : Exit → St → Option (Int × Int) := seqK (normAt 0 m23A false (m23c [true, false, true, true])) (cutK M m23A (m23c [true, false, true, true]) fun s => evC (m23E k) M (m23I k) 0 m23A (m23c [true, false, true, true]) s (m23K2 M k)) (m23K2 M k)
noncomputable def m23K4 (M : Cut (Int × Int)) (k : Nat) : Exit → St → Option (Int × Int) := seqK (normAt 0 m23A false (m23c [true, false, true, true, false, true])) (cutK M m23A (m23c [true, false, true, true, false, true]) fun s => evC (m23E k) M (m23I k) 0 m23A (m23c [true, false, true, true, false, true]) s (m23K2 M k)) (m23K2 M k)
noncomputable def m23K5 (M : Cut (Int × Int)) (k : Nat) : Exit → St → Option (Int × Int) := seqK (normAt 0 m23A false (m23c [true, false, true, true, true, true])) (cutK M m23A (m23c [true, false, true, true, true, true]) fun s => evC (m23E k) M (m23I k) 0 m23A (m23c [true, false, true, true, true, true]) s (m23K2 M k)) (m23K2 M k)
noncomputable def m23K6 (M : Cut (Int × Int)) (k : Nat) : Exit → St → Option (Int × Int) := seqK (normAt 0 m23A false (m23c [true, false, true, true, true, true, false, true])) (cutK M m23A (m23c [true, false, true, true, true, true, false, true]) fun s => evC (m23E k) M (m23I k) 0 m23A (m23c [true, false, true, true, true, true, false, true]) s (m23K2 M k)) (m23K2 M k)
noncomputable def m23K7 (M : Cut (Int × Int)) (k : Nat) : Exit → St → Option (Int × Int) := seqK (normAt 0 m23A false (m23c [true, true, true])) (cutK M m23A (m23c [true, true, true]) fun s => evC (m23E k) M (m23I k) 0 m23A (m23c [true, true, true]) s (retK Try.prog Try.f23 [.leaf (.val (.int .i64)), .leaf (.val (.int .i64))])) (retK Try.prog Try.f23 [.leaf (.val (.int .i64)), .leaf (.val (.int .i64))])
noncomputable def m23K8 (M : Cut (Int × Int)) (k : Nat) : Exit → St → Option (Int × Int) := seqK (normAt 0 m23A false (m23c [true, true, true, true])) (cutK M m23A (m23c [true, true, true, true]) fun s => evC (m23E k) M (m23I k) 0 m23A (m23c [true, true, true, true]) s (retK Try.prog Try.f23 [.leaf (.val (.int .i64)), .leaf (.val (.int .i64))])) (retK Try.prog Try.f23 [.leaf (.val (.int .i64)), .leaf (.val (.int .i64))])
noncomputable def m23K9 (M : Cut (Int × Int)) (k : Nat) : Exit → St → Option (Int × Int) := seqK (normAt 0 m23A false (m23c [true, true, true, false, true])) (cutK M m23A (m23c [true, true, true, false, true]) fun s => evC (m23E k) M (m23I k) 0 m23A (m23c [true, true, true, false, true]) s (m23K8 M k)) (m23K8 M k)
noncomputable def m23K10 (M : Cut (Int × Int)) (k : Nat) : Exit → St → Option (Int × Int) := blockK 1 (m23K8 M k)
noncomputable def m23K11 (M : Cut (Int × Int)) (k : Nat) (L15 : St → Option (Int × Int)) : Exit → St → Option (Int × Int) := seqK (normAt 0 m23A true (m23c [true, true, true, false, true, true, true])) L15 (m23K10 M k)
noncomputable def m23K12 (M : Cut (Int × Int)) (k : Nat) (L15 : St → Option (Int × Int)) : Exit → St → Option (Int × Int) := seqK (normAt 0 m23A false (m23c [true, true, true, false, true, true, true, true])) (cutK M m23A (m23c [true, true, true, false, true, true, true, true]) fun s => evC (m23E k) M (m23I k) 0 m23A (m23c [true, true, true, false, true, true, true, true]) s (m23K11 M k L15)) (m23K11 M k L15)
noncomputable def m23K13 (M : Cut (Int × Int)) (k : Nat) (L15 : St → Option (Int × Int)) : Exit → St → Option (Int × Int) := seqK (normAt 0 m23A false (m23c [true, true, true, false, true, true, true, true, true])) (cutK M m23A (m23c [true, true, true, false, true, true, true, true, true]) fun s => evC (m23E k) M (m23I k) 0 m23A (m23c [true, true, true, false, true, true, true, true, true]) s (m23K11 M k L15)) (m23K11 M k L15)
noncomputable def m23K14 (M : Cut (Int × Int)) (k : Nat) (L15 : St → Option (Int × Int)) : Exit → St → Option (Int × Int) := seqK (normAt 0 m23A false (m23c [true, true, true, false, true, true, true, true, true, true])) (cutK M m23A (m23c [true, true, true, false, true, true, true, true, true, true]) fun s => evC (m23E k) M (m23I k) 0 m23A (m23c [true, true, true, false, true, true, true, true, true, true]) s (m23K11 M k L15)) (m23K11 M k L15)
noncomputable def m23K15 (M : Cut (Int × Int)) (k : Nat) (L15 : St → Option (Int × Int)) : Exit → St → Option (Int × Int) := blockK 2 (m23K14 M k L15)
noncomputable def m23K16 (M : Cut (Int × Int)) (k : Nat) (L15 : St → Option (Int × Int)) : Exit → St → Option (Int × Int) := seqK (normAt 0 m23A false (m23c [true, true, true, false, true, true, true, true, true, false, true, true])) (cutK M m23A (m23c [true, true, true, false, true, true, true, true, true, false, true, true]) fun s => evC (m23E k) M (m23I k) 0 m23A (m23c [true, true, true, false, true, true, true, true, true, false, true, true]) s (m23K15 M k L15)) (m23K15 M k L15)
noncomputable def m23K17 (M : Cut (Int × Int)) (k : Nat) : Exit → St → Option (Int × Int) := seqK (normAt 0 m23A false (m23c [true, true, true, true, true])) (cutK M m23A (m23c [true, true, true, true, true]) fun s => evC (m23E k) M (m23I k) 0 m23A (m23c [true, true, true, true, true]) s (retK Try.prog Try.f23 [.leaf (.val (.int .i64)), .leaf (.val (.int .i64))])) (retK Try.prog Try.f23 [.leaf (.val (.int .i64)), .leaf (.val (.int .i64))])
noncomputable def m23S15 (t8 : Int) (t40 : List Int) (t41 : Int) (t42 : Int) : St := { n := 53, tm := slots [(8, .int .i64 t8), (40, .row (.int .u8) t40), (41, .int .i64 t41), (42, .int .i64 t42)], tab := blks [], nx := 0 }
noncomputable def m23S22 (t8 : Int) : St := { n := 53, tm := slots [(8, .int .i64 t8)], tab := blks [], nx := 0 }

noncomputable def m23X (X15 : Int → List Int → Int → Int → Option (Int × Int)) (k : Nat) (p0 : (List Int)) (p1 : Int) (p2 : Int) : Option (Int × Int) := (if ltI p2 1 = true then some ((0, 1)) else (if ltI 4 p2 = true then some ((0, 1)) else (if ltI p1 0 = true then some ((0, 1)) else (if ltI (↑(List.length p0) : Int) p1 = true then some ((0, 1)) else (if ltI (wr IntKind.i64 ((↑(List.length p0) : Int) - p1)) p2 = true then some ((0, 3)) else (if leI 0 (wr IntKind.i64 (p1 + p2)) = true then (if leI (wr IntKind.i64 (p1 + p2)) (↑(List.length p0) : Int) = true then (if leI 0 p1 = true then (if leI p1 (wr IntKind.i64 (p1 + p2)) = true then X15 (0) (List.drop (Int.toNat p1) (List.take (Int.toNat (wr IntKind.i64 (p1 + p2))) p0)) ((↑(List.length (List.drop (Int.toNat p1) (List.take (Int.toNat (wr IntKind.i64 (p1 + p2))) p0))) : Int)) (0) else none) else none) else none) else none))))))

theorem m23x (M : Cut (Int × Int)) (k : Nat) (p0 : (List Int)) (p1 : Int) (p2 : Int) : evC (m23E k) M (m23I k) 0 m23A (m23c []) (stAt Try.f23 (argSs [.leaf (.val (.row (.int .u8))), .leaf (.val (.int .i64)), .leaf (.val (.int .i64))] (p0, p1, p2)) (fun _ => none) 0) (retK Try.prog Try.f23 [.leaf (.val (.int .i64)), .leaf (.val (.int .i64))]) = m23X (fun t8' t40' t41' t42' => loopN (normAt 0 m23A true (m23c [true, true, true, false, true, true, true])) (fun K s => evC (m23E k) M (m23I k) 0 m23A (m23c [true, true, true, false, true, true, true]) s K) (m23K10 M k) k (m23S15 t8' t40' t41' t42')) k p0 p1 p2 := by kernel_rfl

noncomputable def m23X15 (X22 : Int → Option (Int × Int)) (L15 : Int → List Int → Int → Int → Option (Int × Int)) (k : Nat) (t8 : Int) (t40 : List Int) (t41 : Int) (t42 : Int) : Option (Int × Int) := (if ltI t42 t41 = true then (if leI 0 t42 = true then (if ltI t42 (↑(List.length t40) : Int) = true then (if leI 0 8 = true then L15 (bits BinOp.or IntKind.i64 (wr IntKind.i64 (t8 * 256)) (wr IntKind.i64 (List.getD t40 (Int.toNat t42) 0))) t40 t41 (wr IntKind.i64 (t42 + 1)) else none) else none) else none) else X22 t8)

theorem m23x15 (M : Cut (Int × Int)) (k : Nat) (L15 : St → Option (Int × Int)) (t8 : Int) (t40 : List Int) (t41 : Int) (t42 : Int) : evC (m23E k) M (m23I k) 0 m23A (m23c [true, true, true, false, true, true, true]) (m23S15 t8 t40 t41 t42) (seqK (normAt 0 m23A true (m23c [true, true, true, false, true, true, true])) L15 (m23K10 M k)) = m23X15 (fun t8' => M 22 (fun s => evC (m23E k) M (m23I k) 0 m23A (m23c [true, true, true, true]) s (retK Try.prog Try.f23 [.leaf (.val (.int .i64)), .leaf (.val (.int .i64))])) (m23S22 t8')) (fun t8' t40' t41' t42' => L15 (m23S15 t8' t40' t41' t42')) k t8 t40 t41 t42 := by kernel_rfl

noncomputable def m23X22 (k : Nat) (t8 : Int) : Option (Int × Int) := some ((t8, 0))

theorem m23x22 (M : Cut (Int × Int)) (k : Nat) (t8 : Int) : evC (m23E k) M (m23I k) 0 m23A (m23c [true, true, true, true]) (m23S22 t8) (retK Try.prog Try.f23 [.leaf (.val (.int .i64)), .leaf (.val (.int .i64))]) = m23X22 k t8 := by kernel_rfl

noncomputable def m23F22 (k : Nat) (t8 : Int) : Option (Int × Int) := m23X22 k t8

theorem m23q22 (k : Nat) (t8 : Int) : evC (m23E k) (fun _ f => f) (m23I k) 0 m23A (m23c [true, true, true, true]) (m23S22 t8) (retK Try.prog Try.f23 [.leaf (.val (.int .i64)), .leaf (.val (.int .i64))]) = m23F22 k t8 := by
    show _ = m23X22 k t8
    exact m23x22 (fun _ f => f) k t8

noncomputable def m23F15 (k : Nat) : Nat → Int → List Int → Int → Int → Option (Int × Int)
  | 0, _, _, _, _ => none
  | j + 1, t8, t40, t41, t42 => m23X15 (m23F22 k) (m23F15 k j) k t8 t40 t41 t42

theorem m23q15 (k : Nat) : ∀ (j : Nat) (t8 : Int) (t40 : List Int) (t41 : Int) (t42 : Int), loopN (normAt 0 m23A true (m23c [true, true, true, false, true, true, true])) (fun K s => evC (m23E k) (fun _ f => f) (m23I k) 0 m23A (m23c [true, true, true, false, true, true, true]) s K) (m23K10 (fun _ f => f) k) j (m23S15 t8 t40 t41 t42) = m23F15 k j t8 t40 t41 t42
  | 0, _, _, _, _ => rfl
  | j + 1, t8, t40, t41, t42 => by
    have e0 : m23F15 k j = (fun t8' t40' t41' t42' => loopN (normAt 0 m23A true (m23c [true, true, true, false, true, true, true])) (fun K s => evC (m23E k) (fun _ f => f) (m23I k) 0 m23A (m23c [true, true, true, false, true, true, true]) s K) (m23K10 (fun _ f => f) k) j (m23S15 t8' t40' t41' t42')) := funext fun t8' => funext fun t40' => funext fun t41' => funext fun t42' => (m23q15 k j t8' t40' t41' t42').symm
    have e22 : m23F22 k = (fun t8' => evC (m23E k) (fun _ f => f) (m23I k) 0 m23A (m23c [true, true, true, true]) (m23S22 t8') (retK Try.prog Try.f23 [.leaf (.val (.int .i64)), .leaf (.val (.int .i64))])) := funext fun t8' => (m23q22 k t8').symm
    show _ = m23X15 (m23F22 k) (m23F15 k j) k t8 t40 t41 t42
    rw [e0, e22]
    exact m23x15 (fun _ f => f) k (loopN (normAt 0 m23A true (m23c [true, true, true, false, true, true, true])) (fun K s => evC (m23E k) (fun _ f => f) (m23I k) 0 m23A (m23c [true, true, true, false, true, true, true]) s K) (m23K10 (fun _ f => f) k) j) t8 t40 t41 t42

noncomputable def m23F (k : Nat) (p0 : (List Int)) (p1 : Int) (p2 : Int) : Option (Int × Int) := m23X (m23F15 k k) k p0 p1 p2

theorem m23q (k : Nat) (p0 : (List Int)) (p1 : Int) (p2 : Int) : evC (m23E k) (fun _ f => f) (m23I k) 0 m23A (m23c []) (stAt Try.f23 (argSs [.leaf (.val (.row (.int .u8))), .leaf (.val (.int .i64)), .leaf (.val (.int .i64))] (p0, p1, p2)) (fun _ => none) 0) (retK Try.prog Try.f23 [.leaf (.val (.int .i64)), .leaf (.val (.int .i64))]) = m23F k p0 p1 p2 := by
    have e15 : m23F15 k k = (fun t8' t40' t41' t42' => loopN (normAt 0 m23A true (m23c [true, true, true, false, true, true, true])) (fun K s => evC (m23E k) (fun _ f => f) (m23I k) 0 m23A (m23c [true, true, true, false, true, true, true]) s K) (m23K10 (fun _ f => f) k) k (m23S15 t8' t40' t41' t42')) := funext fun t8' => funext fun t40' => funext fun t41' => funext fun t42' => (m23q15 k k t8' t40' t41' t42').symm
    show _ = m23X (m23F15 k k) k p0 p1 p2
    rw [e15]
    exact m23x (fun _ f => f) k p0 p1 p2

noncomputable def m23sp : Spec := { ps := [.leaf (.val (.row (.int .u8))), .leaf (.val (.int .i64)), .leaf (.val (.int .i64))], rs := [.leaf (.val (.int .i64)), .leaf (.val (.int .i64))], f := fun k a => m23F k a.1 a.2.1 a.2.2 }

theorem m23ok (k : Nat) : EnvOk (m23E k) := envOk_of (l := []) (lB := []) progNames progMixed rfl rfl (.nil) (.nil)

theorem m23con (k : Nat) : Contract Try.prog k 23 m23sp := contract_of (E := m23E k) (m23ok k) (A := only 23 m23A) (d := 3) (c := m23c []) (by kernel_rfl) (by kernel_rfl) fun a _ h => (m23q k a.1 a.2.1 a.2.2).trans h

noncomputable def m16A : Anns := tabA []
noncomputable def m16E (k : Nat) : Env := { P := Try.prog, k := k, G := tabG [(19, m19sp), (23, m23sp), (24, m24sp)], GB := tabGB [] }
noncomputable def m16c (p : List Bool) : Code := sub p (bodyOf Try.f16)
noncomputable def m16I (k : Nat) : Inl ((Int × (Int × (Int × (List Int)))) × Int) := inlOf (m16E k) (only 16 m16A) 3
noncomputable def m16K0 (M : Cut ((Int × (Int × (Int × (List Int)))) × Int)) (k : Nat) : Exit → St → Option ((Int × (Int × (Int × (List Int)))) × Int) := seqK (normAt 0 m16A false (m16c [true])) (cutK M m16A (m16c [true]) fun s => evC (m16E k) M (m16I k) 0 m16A (m16c [true]) s (retK Try.prog Try.f16 [.agg [.val (.int .i64), .val (.int .i64), .val (.int .i64), .own (.int .u8) 5], .leaf (.val (.int .i64))])) (retK Try.prog Try.f16 [.agg [.val (.int .i64), .val (.int .i64), .val (.int .i64), .own (.int .u8) 5], .leaf (.val (.int .i64))])
noncomputable def m16K1 (M : Cut ((Int × (Int × (Int × (List Int)))) × Int)) (k : Nat) : Exit → St → Option ((Int × (Int × (Int × (List Int)))) × Int) := seqK (normAt 0 m16A false (m16c [true, true])) (cutK M m16A (m16c [true, true]) fun s => evC (m16E k) M (m16I k) 0 m16A (m16c [true, true]) s (retK Try.prog Try.f16 [.agg [.val (.int .i64), .val (.int .i64), .val (.int .i64), .own (.int .u8) 5], .leaf (.val (.int .i64))])) (retK Try.prog Try.f16 [.agg [.val (.int .i64), .val (.int .i64), .val (.int .i64), .own (.int .u8) 5], .leaf (.val (.int .i64))])
noncomputable def m16K2 (M : Cut ((Int × (Int × (Int × (List Int)))) × Int)) (k : Nat) : Exit → St → Option ((Int × (Int × (Int × (List Int)))) × Int) := blockK 0 (m16K1 M k)
noncomputable def m16K3 (M : Cut ((Int × (Int × (Int × (List Int)))) × Int)) (k : Nat) : Exit → St → Option ((Int × (Int × (Int × (List Int)))) × Int) := seqK (normAt 0 m16A false (m16c [true, false, true, true])) (cutK M m16A (m16c [true, false, true, true]) fun s => evC (m16E k) M (m16I k) 0 m16A (m16c [true, false, true, true]) s (m16K2 M k)) (m16K2 M k)
noncomputable def m16K4 (M : Cut ((Int × (Int × (Int × (List Int)))) × Int)) (k : Nat) : Exit → St → Option ((Int × (Int × (Int × (List Int)))) × Int) := seqK (normAt 0 m16A false (m16c [true, false, true, true, false, true])) (cutK M m16A (m16c [true, false, true, true, false, true]) fun s => evC (m16E k) M (m16I k) 0 m16A (m16c [true, false, true, true, false, true]) s (m16K2 M k)) (m16K2 M k)
noncomputable def m16K5 (M : Cut ((Int × (Int × (Int × (List Int)))) × Int)) (k : Nat) : Exit → St → Option ((Int × (Int × (Int × (List Int)))) × Int) := seqK (normAt 0 m16A false (m16c [true, false, true, true, true, true])) (cutK M m16A (m16c [true, false, true, true, true, true]) fun s => evC (m16E k) M (m16I k) 0 m16A (m16c [true, false, true, true, true, true]) s (m16K2 M k)) (m16K2 M k)
noncomputable def m16K6 (M : Cut ((Int × (Int × (Int × (List Int)))) × Int)) (k : Nat) : Exit → St → Option ((Int × (Int × (Int × (List Int)))) × Int) := seqK (normAt 0 m16A false (m16c [true, false, true, true, true, true, false, true])) (cutK M m16A (m16c [true, false, true, true, true, true, false, true]) fun s => evC (m16E k) M (m16I k) 0 m16A (m16c [true, false, true, true, true, true, false, true]) s (m16K2 M k)) (m16K2 M k)
noncomputable def m16K7 (M : Cut ((Int × (Int × (Int × (List Int)))) × Int)) (k : Nat) : Exit → St → Option ((Int × (Int × (Int × (List Int)))) × Int) := seqK (normAt 0 m16A false (m16c [true, true, true])) (cutK M m16A (m16c [true, true, true]) fun s => evC (m16E k) M (m16I k) 0 m16A (m16c [true, true, true]) s (retK Try.prog Try.f16 [.agg [.val (.int .i64), .val (.int .i64), .val (.int .i64), .own (.int .u8) 5], .leaf (.val (.int .i64))])) (retK Try.prog Try.f16 [.agg [.val (.int .i64), .val (.int .i64), .val (.int .i64), .own (.int .u8) 5], .leaf (.val (.int .i64))])
noncomputable def m16K8 (M : Cut ((Int × (Int × (Int × (List Int)))) × Int)) (k : Nat) : Exit → St → Option ((Int × (Int × (Int × (List Int)))) × Int) := seqK (normAt 0 m16A false (m16c [true, true, true, true])) (cutK M m16A (m16c [true, true, true, true]) fun s => evC (m16E k) M (m16I k) 0 m16A (m16c [true, true, true, true]) s (retK Try.prog Try.f16 [.agg [.val (.int .i64), .val (.int .i64), .val (.int .i64), .own (.int .u8) 5], .leaf (.val (.int .i64))])) (retK Try.prog Try.f16 [.agg [.val (.int .i64), .val (.int .i64), .val (.int .i64), .own (.int .u8) 5], .leaf (.val (.int .i64))])
noncomputable def m16K9 (M : Cut ((Int × (Int × (Int × (List Int)))) × Int)) (k : Nat) : Exit → St → Option ((Int × (Int × (Int × (List Int)))) × Int) := seqK (normAt 0 m16A false (m16c [true, true, true, true, true])) (cutK M m16A (m16c [true, true, true, true, true]) fun s => evC (m16E k) M (m16I k) 0 m16A (m16c [true, true, true, true, true]) s (retK Try.prog Try.f16 [.agg [.val (.int .i64), .val (.int .i64), .val (.int .i64), .own (.int .u8) 5], .leaf (.val (.int .i64))])) (retK Try.prog Try.f16 [.agg [.val (.int .i64), .val (.int .i64), .val (.int .i64), .own (.int .u8) 5], .leaf (.val (.int .i64))])
noncomputable def m16K10 (M : Cut ((Int × (Int × (Int × (List Int)))) × Int)) (k : Nat) : Exit → St → Option ((Int × (Int × (Int × (List Int)))) × Int) := seqK (normAt 0 m16A false (m16c [true, true, true, true, true, true])) (cutK M m16A (m16c [true, true, true, true, true, true]) fun s => evC (m16E k) M (m16I k) 0 m16A (m16c [true, true, true, true, true, true]) s (retK Try.prog Try.f16 [.agg [.val (.int .i64), .val (.int .i64), .val (.int .i64), .own (.int .u8) 5], .leaf (.val (.int .i64))])) (retK Try.prog Try.f16 [.agg [.val (.int .i64), .val (.int .i64), .val (.int .i64), .own (.int .u8) 5], .leaf (.val (.int .i64))])
noncomputable def m16K11 (M : Cut ((Int × (Int × (Int × (List Int)))) × Int)) (k : Nat) : Exit → St → Option ((Int × (Int × (Int × (List Int)))) × Int) := seqK (normAt 0 m16A false (m16c [true, true, true, true, true, true, true])) (cutK M m16A (m16c [true, true, true, true, true, true, true]) fun s => evC (m16E k) M (m16I k) 0 m16A (m16c [true, true, true, true, true, true, true]) s (retK Try.prog Try.f16 [.agg [.val (.int .i64), .val (.int .i64), .val (.int .i64), .own (.int .u8) 5], .leaf (.val (.int .i64))])) (retK Try.prog Try.f16 [.agg [.val (.int .i64), .val (.int .i64), .val (.int .i64), .own (.int .u8) 5], .leaf (.val (.int .i64))])
noncomputable def m16K12 (M : Cut ((Int × (Int × (Int × (List Int)))) × Int)) (k : Nat) : Exit → St → Option ((Int × (Int × (Int × (List Int)))) × Int) := blockK 1 (m16K11 M k)
noncomputable def m16K13 (M : Cut ((Int × (Int × (Int × (List Int)))) × Int)) (k : Nat) : Exit → St → Option ((Int × (Int × (Int × (List Int)))) × Int) := seqK (normAt 0 m16A false (m16c [true, true, true, true, true, true, false, true, true])) (cutK M m16A (m16c [true, true, true, true, true, true, false, true, true]) fun s => evC (m16E k) M (m16I k) 0 m16A (m16c [true, true, true, true, true, true, false, true, true]) s (m16K12 M k)) (m16K12 M k)
noncomputable def m16K14 (M : Cut ((Int × (Int × (Int × (List Int)))) × Int)) (k : Nat) : Exit → St → Option ((Int × (Int × (Int × (List Int)))) × Int) := seqK (normAt 0 m16A false (m16c [true, true, true, true, true, true, false, true, true, false, true])) (cutK M m16A (m16c [true, true, true, true, true, true, false, true, true, false, true]) fun s => evC (m16E k) M (m16I k) 0 m16A (m16c [true, true, true, true, true, true, false, true, true, false, true]) s (m16K12 M k)) (m16K12 M k)
noncomputable def m16K15 (M : Cut ((Int × (Int × (Int × (List Int)))) × Int)) (k : Nat) : Exit → St → Option ((Int × (Int × (Int × (List Int)))) × Int) := seqK (normAt 0 m16A false (m16c [true, true, true, true, true, true, false, true, true, true, true])) (cutK M m16A (m16c [true, true, true, true, true, true, false, true, true, true, true]) fun s => evC (m16E k) M (m16I k) 0 m16A (m16c [true, true, true, true, true, true, false, true, true, true, true]) s (m16K12 M k)) (m16K12 M k)
noncomputable def m16K16 (M : Cut ((Int × (Int × (Int × (List Int)))) × Int)) (k : Nat) : Exit → St → Option ((Int × (Int × (Int × (List Int)))) × Int) := seqK (normAt 0 m16A false (m16c [true, true, true, true, true, true, false, true, true, true, true, false, true])) (cutK M m16A (m16c [true, true, true, true, true, true, false, true, true, true, true, false, true]) fun s => evC (m16E k) M (m16I k) 0 m16A (m16c [true, true, true, true, true, true, false, true, true, true, true, false, true]) s (m16K12 M k)) (m16K12 M k)
noncomputable def m16K17 (M : Cut ((Int × (Int × (Int × (List Int)))) × Int)) (k : Nat) : Exit → St → Option ((Int × (Int × (Int × (List Int)))) × Int) := seqK (normAt 0 m16A false (m16c [true, true, true, true, true, true, false, true, true, true, true, true, true])) (cutK M m16A (m16c [true, true, true, true, true, true, false, true, true, true, true, true, true]) fun s => evC (m16E k) M (m16I k) 0 m16A (m16c [true, true, true, true, true, true, false, true, true, true, true, true, true]) s (m16K12 M k)) (m16K12 M k)
noncomputable def m16K18 (M : Cut ((Int × (Int × (Int × (List Int)))) × Int)) (k : Nat) : Exit → St → Option ((Int × (Int × (Int × (List Int)))) × Int) := seqK (normAt 0 m16A false (m16c [true, true, true, true, true, true, false, true, true, true, true, true, true, false, true])) (cutK M m16A (m16c [true, true, true, true, true, true, false, true, true, true, true, true, true, false, true]) fun s => evC (m16E k) M (m16I k) 0 m16A (m16c [true, true, true, true, true, true, false, true, true, true, true, true, true, false, true]) s (m16K12 M k)) (m16K12 M k)
noncomputable def m16K19 (M : Cut ((Int × (Int × (Int × (List Int)))) × Int)) (k : Nat) : Exit → St → Option ((Int × (Int × (Int × (List Int)))) × Int) := seqK (normAt 0 m16A false (m16c [true, true, true, true, true, true, true, true])) (cutK M m16A (m16c [true, true, true, true, true, true, true, true]) fun s => evC (m16E k) M (m16I k) 0 m16A (m16c [true, true, true, true, true, true, true, true]) s (retK Try.prog Try.f16 [.agg [.val (.int .i64), .val (.int .i64), .val (.int .i64), .own (.int .u8) 5], .leaf (.val (.int .i64))])) (retK Try.prog Try.f16 [.agg [.val (.int .i64), .val (.int .i64), .val (.int .i64), .own (.int .u8) 5], .leaf (.val (.int .i64))])

noncomputable def m16X (k : Nat) (p0 : (List Int)) : Option ((Int × (Int × (Int × (List Int)))) × Int) := (if leI (↑(List.length p0) : Int) 11 = true then some (((0, 0, 0, []), 2)) else (if ltI 75 (↑(List.length p0) : Int) = true then some (((0, 0, 0, []), 2)) else (if leI 0 0 = true then (if ltI 0 (↑(List.length p0) : Int) = true then (if (!eqI (List.getD p0 0 0) 68) = true then some (((0, 0, 0, []), 12)) else (if leI 0 9 = true then (if leI 9 (↑(List.length p0) : Int) = true then (Option.bind (m19F k (List.take 9 p0)) fun (c3 : (Int × Int)) => (Option.bind (m23F k p0 9 2) fun (c4 : (Int × Int)) => (Option.bind (m23F k p0 1 4) fun (c5 : (Int × Int)) => (Option.bind (m23F k p0 6 2) fun (c6 : (Int × Int)) => (if (!eqI (Prod.fst c3) (Prod.fst c4)) = true then some (((0, 0, 0, []), 4)) else (if leI 1073741824 (Prod.fst c5) = true then some (((0, 0, 0, []), 1)) else (if leI 0 8 = true then (if ltI 8 (↑(List.length p0) : Int) = true then (if (!eqI (wr IntKind.i64 (List.getD p0 8 0)) (wr IntKind.i64 ((↑(List.length p0) : Int) - 11))) = true then some (((0, 0, 0, []), 2)) else (if leI 0 5 = true then (if ltI 5 (↑(List.length p0) : Int) = true then (if leI 0 11 = true then (if leI 11 (↑(List.length p0) : Int) = true then (Option.bind (m24F k (List.drop 11 p0)) fun (c7 : (List Int)) => some (((Prod.fst c5, wr IntKind.i64 (List.getD p0 5 0), Prod.fst c6, c7), 0))) else none) else none) else none) else none)) else none) else none))))))) else none) else none)) else none) else none)))

theorem m16x (M : Cut ((Int × (Int × (Int × (List Int)))) × Int)) (k : Nat) (p0 : (List Int)) : evC (m16E k) M (m16I k) 0 m16A (m16c []) (stAt Try.f16 (argSs [.leaf (.val (.row (.int .u8)))] p0) (fun _ => none) 0) (retK Try.prog Try.f16 [.agg [.val (.int .i64), .val (.int .i64), .val (.int .i64), .own (.int .u8) 5], .leaf (.val (.int .i64))]) = m16X k p0 := by kernel_rfl

noncomputable def m16F (k : Nat) (p0 : (List Int)) : Option ((Int × (Int × (Int × (List Int)))) × Int) := m16X k p0

theorem m16q (k : Nat) (p0 : (List Int)) : evC (m16E k) (fun _ f => f) (m16I k) 0 m16A (m16c []) (stAt Try.f16 (argSs [.leaf (.val (.row (.int .u8)))] p0) (fun _ => none) 0) (retK Try.prog Try.f16 [.agg [.val (.int .i64), .val (.int .i64), .val (.int .i64), .own (.int .u8) 5], .leaf (.val (.int .i64))]) = m16F k p0 := by
    show _ = m16X k p0
    exact m16x (fun _ f => f) k p0

noncomputable def m16sp : Spec := { ps := [.leaf (.val (.row (.int .u8)))], rs := [.agg [.val (.int .i64), .val (.int .i64), .val (.int .i64), .own (.int .u8) 5], .leaf (.val (.int .i64))], f := fun k a => m16F k a }

theorem m16ok (k : Nat) : EnvOk (m16E k) := envOk_of (l := [(19, m19sp), (23, m23sp), (24, m24sp)]) (lB := []) progNames progMixed rfl rfl (.cons ⟨m19con k, Try.f19, by kernel_rfl, by kernel_rfl⟩ (.cons ⟨m23con k, Try.f23, by kernel_rfl, by kernel_rfl⟩ (.cons ⟨m24con k, Try.f24, by kernel_rfl, by kernel_rfl⟩ (.nil)))) (.nil)

theorem m16con (k : Nat) : Contract Try.prog k 16 m16sp := contract_of (E := m16E k) (m16ok k) (A := only 16 m16A) (d := 3) (c := m16c []) (by kernel_rfl) (by kernel_rfl) fun a _ h => (m16q k a).trans h

noncomputable def m13A : Anns := tabA []
noncomputable def m13E (k : Nat) : Env := { P := Try.prog, k := k, G := tabG [(10, m10sp), (16, m16sp)], GB := tabGB [] }
noncomputable def m13c (p : List Bool) : Code := sub p (bodyOf Try.f13)
noncomputable def m13I (k : Nat) : Inl Bool := inlOf (m13E k) (only 13 m13A) 3
noncomputable def m13K0 (M : Cut Bool) (k : Nat) : Exit → St → Option Bool := seqK (normAt 0 m13A false (m13c [true])) (cutK M m13A (m13c [true]) fun s => evC (m13E k) M (m13I k) 0 m13A (m13c [true]) s (retK Try.prog Try.f13 [.leaf (.val .bool)])) (retK Try.prog Try.f13 [.leaf (.val .bool)])
noncomputable def m13K1 (M : Cut Bool) (k : Nat) : Exit → St → Option Bool := seqK (normAt 0 m13A false (m13c [true, true])) (cutK M m13A (m13c [true, true]) fun s => evC (m13E k) M (m13I k) 0 m13A (m13c [true, true]) s (retK Try.prog Try.f13 [.leaf (.val .bool)])) (retK Try.prog Try.f13 [.leaf (.val .bool)])
noncomputable def m13K2 (M : Cut Bool) (k : Nat) : Exit → St → Option Bool := seqK (normAt 0 m13A false (m13c [true, true, true])) (cutK M m13A (m13c [true, true, true]) fun s => evC (m13E k) M (m13I k) 0 m13A (m13c [true, true, true]) s (retK Try.prog Try.f13 [.leaf (.val .bool)])) (retK Try.prog Try.f13 [.leaf (.val .bool)])
noncomputable def m13K3 (M : Cut Bool) (k : Nat) : Exit → St → Option Bool := seqK (normAt 0 m13A false (m13c [true, true, true, true])) (cutK M m13A (m13c [true, true, true, true]) fun s => evC (m13E k) M (m13I k) 0 m13A (m13c [true, true, true, true]) s (retK Try.prog Try.f13 [.leaf (.val .bool)])) (retK Try.prog Try.f13 [.leaf (.val .bool)])

noncomputable def m13X (k : Nat) : Option Bool := (Option.bind (m10F k (3, 2, 5, List.set (List.replicate 1 0) 0 9)) fun (c2 : ((List Int) × Int)) => (Option.bind (m16F k (Prod.fst c2)) fun (c3 : ((Int × (Int × (Int × (List Int)))) × Int)) => (if eqI (Prod.snd c2) 0 = true then (if eqI (Prod.snd c3) 0 = true then (if eqI (↑(List.length (Prod.fst c2)) : Int) 12 = true then (if eqI (Prod.fst (Prod.fst c3)) 3 = true then (if eqI (Prod.fst (Prod.snd (Prod.fst c3))) 2 = true then (if eqI (Prod.fst (Prod.snd (Prod.snd (Prod.fst c3)))) 5 = true then some (eqI (↑(List.length (Prod.snd (Prod.snd (Prod.snd (Prod.fst c3))))) : Int) 1) else some (false)) else some (false)) else some (false)) else some (false)) else some (false)) else some (false))))

theorem m13x (M : Cut Bool) (k : Nat) : evC (m13E k) M (m13I k) 0 m13A (m13c []) (stAt Try.f13 (argSs [] ()) (fun _ => none) 0) (retK Try.prog Try.f13 [.leaf (.val .bool)]) = m13X k := by kernel_rfl

noncomputable def m13F (k : Nat) : Option Bool := m13X k

theorem m13q (k : Nat) : evC (m13E k) (fun _ f => f) (m13I k) 0 m13A (m13c []) (stAt Try.f13 (argSs [] ()) (fun _ => none) 0) (retK Try.prog Try.f13 [.leaf (.val .bool)]) = m13F k := by
    show _ = m13X k
    exact m13x (fun _ f => f) k

noncomputable def m13sp : Spec := { ps := [], rs := [.leaf (.val .bool)], f := fun k a => m13F k }

theorem m13ok (k : Nat) : EnvOk (m13E k) := envOk_of (l := [(10, m10sp), (16, m16sp)]) (lB := []) progNames progMixed rfl rfl (.cons ⟨m10con k, Try.f10, by kernel_rfl, by kernel_rfl⟩ (.cons ⟨m16con k, Try.f16, by kernel_rfl, by kernel_rfl⟩ (.nil))) (.nil)

theorem m13con (k : Nat) : Contract Try.prog k 13 m13sp := contract_of (E := m13E k) (m13ok k) (A := only 13 m13A) (d := 3) (c := m13c []) (by kernel_rfl) (by kernel_rfl) fun a _ h => (m13q k).trans h

noncomputable def m21A : Anns := tabA [(7, { keep := [0, 5, 6], mat := [(5, (.int .u8), 5)] })]
noncomputable def m21E (k : Nat) : Env := { P := Try.prog, k := k, G := tabG [], GB := tabGB [] }
noncomputable def m21c (p : List Bool) : Code := sub p (bodyOf Try.f21)
noncomputable def m21I (k : Nat) : Inl (List Int) := inlOf (m21E k) (only 21 m21A) 3
noncomputable def m21K0 (M : Cut (List Int)) (k : Nat) : Exit → St → Option (List Int) := seqK (normAt 0 m21A false (m21c [true])) (cutK M m21A (m21c [true]) fun s => evC (m21E k) M (m21I k) 0 m21A (m21c [true]) s (retK Try.prog Try.f21 [.leaf (.own (.int .u8) 5)])) (retK Try.prog Try.f21 [.leaf (.own (.int .u8) 5)])
noncomputable def m21K1 (M : Cut (List Int)) (k : Nat) : Exit → St → Option (List Int) := seqK (normAt 0 m21A false (m21c [true, true])) (cutK M m21A (m21c [true, true]) fun s => evC (m21E k) M (m21I k) 0 m21A (m21c [true, true]) s (retK Try.prog Try.f21 [.leaf (.own (.int .u8) 5)])) (retK Try.prog Try.f21 [.leaf (.own (.int .u8) 5)])
noncomputable def m21K2 (M : Cut (List Int)) (k : Nat) : Exit → St → Option (List Int) := seqK (normAt 0 m21A false (m21c [true, true, true])) (cutK M m21A (m21c [true, true, true]) fun s => evC (m21E k) M (m21I k) 0 m21A (m21c [true, true, true]) s (retK Try.prog Try.f21 [.leaf (.own (.int .u8) 5)])) (retK Try.prog Try.f21 [.leaf (.own (.int .u8) 5)])
noncomputable def m21K3 (M : Cut (List Int)) (k : Nat) : Exit → St → Option (List Int) := seqK (normAt 0 m21A false (m21c [true, true, false, true])) (cutK M m21A (m21c [true, true, false, true]) fun s => evC (m21E k) M (m21I k) 0 m21A (m21c [true, true, false, true]) s (m21K2 M k)) (m21K2 M k)
noncomputable def m21K4 (M : Cut (List Int)) (k : Nat) : Exit → St → Option (List Int) := blockK 0 (m21K2 M k)
noncomputable def m21K5 (M : Cut (List Int)) (k : Nat) (L7 : St → Option (List Int)) : Exit → St → Option (List Int) := seqK (normAt 0 m21A true (m21c [true, true, false, true, true, true])) L7 (m21K4 M k)
noncomputable def m21K6 (M : Cut (List Int)) (k : Nat) (L7 : St → Option (List Int)) : Exit → St → Option (List Int) := seqK (normAt 0 m21A false (m21c [true, true, false, true, true, true, true])) (cutK M m21A (m21c [true, true, false, true, true, true, true]) fun s => evC (m21E k) M (m21I k) 0 m21A (m21c [true, true, false, true, true, true, true]) s (m21K5 M k L7)) (m21K5 M k L7)
noncomputable def m21K7 (M : Cut (List Int)) (k : Nat) (L7 : St → Option (List Int)) : Exit → St → Option (List Int) := seqK (normAt 0 m21A false (m21c [true, true, false, true, true, true, false, true])) (cutK M m21A (m21c [true, true, false, true, true, true, false, true]) fun s => evC (m21E k) M (m21I k) 0 m21A (m21c [true, true, false, true, true, true, false, true]) s (m21K6 M k L7)) (m21K6 M k L7)
noncomputable def m21K8 (M : Cut (List Int)) (k : Nat) (L7 : St → Option (List Int)) : Exit → St → Option (List Int) := seqK (normAt 0 m21A false (m21c [true, true, false, true, true, true, true, true])) (cutK M m21A (m21c [true, true, false, true, true, true, true, true]) fun s => evC (m21E k) M (m21I k) 0 m21A (m21c [true, true, false, true, true, true, true, true]) s (m21K5 M k L7)) (m21K5 M k L7)
noncomputable def m21K9 (M : Cut (List Int)) (k : Nat) (L7 : St → Option (List Int)) : Exit → St → Option (List Int) := blockK 1 (m21K8 M k L7)
noncomputable def m21K10 (M : Cut (List Int)) (k : Nat) : Exit → St → Option (List Int) := seqK (normAt 0 m21A false (m21c [true, true, true, true])) (cutK M m21A (m21c [true, true, true, true]) fun s => evC (m21E k) M (m21I k) 0 m21A (m21c [true, true, true, true]) s (retK Try.prog Try.f21 [.leaf (.own (.int .u8) 5)])) (retK Try.prog Try.f21 [.leaf (.own (.int .u8) 5)])
noncomputable def m21S7 (t0 : Int) (t6 : Int) (b0 : List Int) : St := { n := 23, tm := slots [(0, .int .i64 t0), (5, .own 0), (6, .int .i64 t6)], tab := blks [some (.row true (.int .u8) 5 b0)], nx := 1 }

noncomputable def m21X (X7 : Int → Int → List Int → Option (List Int)) (k : Nat) (p0 : Int) (p1 : Int) : Option (List Int) := X7 p0 (wr IntKind.i64 (p1 - 1)) ([])

theorem m21x (M : Cut (List Int)) (k : Nat) (p0 : Int) (p1 : Int) : evC (m21E k) M (m21I k) 0 m21A (m21c []) (stAt Try.f21 (argSs [.leaf (.val (.int .i64)), .leaf (.val (.int .i64))] (p0, p1)) (fun _ => none) 0) (retK Try.prog Try.f21 [.leaf (.own (.int .u8) 5)]) = m21X (fun t0' t6' b0' => loopN (normAt 0 m21A true (m21c [true, true, false, true, true, true])) (fun K s => evC (m21E k) M (m21I k) 0 m21A (m21c [true, true, false, true, true, true]) s K) (m21K4 M k) k (m21S7 t0' t6' b0')) k p0 p1 := by kernel_rfl

noncomputable def m21X7 (L7 : Int → Int → List Int → Option (List Int)) (k : Nat) (t0 : Int) (t6 : Int) (b0 : List Int) : Option (List Int) := (if leI 0 t6 = true then (if leI 0 (wr IntKind.u64 (wr IntKind.i64 (8 * t6))) = true then (if leI
    (↑((List.length b0 +
            List.length
              (List.set (List.replicate 1 0) 0
                (wr IntKind.u8 (t0 / p2 (min (Int.toNat (wr IntKind.u64 (wr IntKind.i64 (8 * t6)))) 64))))) *
          1) :
      Int)
    140737488355328 =
  true then L7 t0 (wr IntKind.i64 (t6 - 1)) (b0 ++
  List.set (List.replicate 1 0) 0
    (wr IntKind.u8 (t0 / p2 (min (Int.toNat (wr IntKind.u64 (wr IntKind.i64 (8 * t6)))) 64)))) else none) else none) else some b0)

theorem m21x7 (M : Cut (List Int)) (k : Nat) (L7 : St → Option (List Int)) (t0 : Int) (t6 : Int) (b0 : List Int) : evC (m21E k) M (m21I k) 0 m21A (m21c [true, true, false, true, true, true]) (m21S7 t0 t6 b0) (seqK (normAt 0 m21A true (m21c [true, true, false, true, true, true])) L7 (m21K4 M k)) = m21X7 (fun t0' t6' b0' => L7 (m21S7 t0' t6' b0')) k t0 t6 b0 := by kernel_rfl

noncomputable def m21F7 (k : Nat) : Nat → Int → Int → List Int → Option (List Int)
  | 0, _, _, _ => none
  | j + 1, t0, t6, b0 => m21X7 (m21F7 k j) k t0 t6 b0

theorem m21q7 (k : Nat) : ∀ (j : Nat) (t0 : Int) (t6 : Int) (b0 : List Int), loopN (normAt 0 m21A true (m21c [true, true, false, true, true, true])) (fun K s => evC (m21E k) (fun _ f => f) (m21I k) 0 m21A (m21c [true, true, false, true, true, true]) s K) (m21K4 (fun _ f => f) k) j (m21S7 t0 t6 b0) = m21F7 k j t0 t6 b0
  | 0, _, _, _ => rfl
  | j + 1, t0, t6, b0 => by
    have e0 : m21F7 k j = (fun t0' t6' b0' => loopN (normAt 0 m21A true (m21c [true, true, false, true, true, true])) (fun K s => evC (m21E k) (fun _ f => f) (m21I k) 0 m21A (m21c [true, true, false, true, true, true]) s K) (m21K4 (fun _ f => f) k) j (m21S7 t0' t6' b0')) := funext fun t0' => funext fun t6' => funext fun b0' => (m21q7 k j t0' t6' b0').symm
    show _ = m21X7 (m21F7 k j) k t0 t6 b0
    rw [e0]
    exact m21x7 (fun _ f => f) k (loopN (normAt 0 m21A true (m21c [true, true, false, true, true, true])) (fun K s => evC (m21E k) (fun _ f => f) (m21I k) 0 m21A (m21c [true, true, false, true, true, true]) s K) (m21K4 (fun _ f => f) k) j) t0 t6 b0

noncomputable def m21F (k : Nat) (p0 : Int) (p1 : Int) : Option (List Int) := m21X (m21F7 k k) k p0 p1

theorem m21q (k : Nat) (p0 : Int) (p1 : Int) : evC (m21E k) (fun _ f => f) (m21I k) 0 m21A (m21c []) (stAt Try.f21 (argSs [.leaf (.val (.int .i64)), .leaf (.val (.int .i64))] (p0, p1)) (fun _ => none) 0) (retK Try.prog Try.f21 [.leaf (.own (.int .u8) 5)]) = m21F k p0 p1 := by
    have e7 : m21F7 k k = (fun t0' t6' b0' => loopN (normAt 0 m21A true (m21c [true, true, false, true, true, true])) (fun K s => evC (m21E k) (fun _ f => f) (m21I k) 0 m21A (m21c [true, true, false, true, true, true]) s K) (m21K4 (fun _ f => f) k) k (m21S7 t0' t6' b0')) := funext fun t0' => funext fun t6' => funext fun b0' => (m21q7 k k t0' t6' b0').symm
    show _ = m21X (m21F7 k k) k p0 p1
    rw [e7]
    exact m21x (fun _ f => f) k p0 p1

noncomputable def m21sp : Spec := { ps := [.leaf (.val (.int .i64)), .leaf (.val (.int .i64))], rs := [.leaf (.own (.int .u8) 5)], f := fun k a => m21F k a.1 a.2 }

theorem m21ok (k : Nat) : EnvOk (m21E k) := envOk_of (l := []) (lB := []) progNames progMixed rfl rfl (.nil) (.nil)

theorem m21con (k : Nat) : Contract Try.prog k 21 m21sp := contract_of (E := m21E k) (m21ok k) (A := only 21 m21A) (d := 3) (c := m21c []) (by kernel_rfl) (by kernel_rfl) fun a _ h => (m21q k a.1 a.2).trans h

noncomputable def m27A : Anns := tabA [(7, { keep := [0, 3, 4], mat := [(3, (.int .i64), 3)] })]
noncomputable def m27E (k : Nat) : Env := { P := Try.prog, k := k, G := tabG [], GB := tabGB [] }
noncomputable def m27c (p : List Bool) : Code := sub p (bodyOf Try.f27)
noncomputable def m27I (k : Nat) : Inl (List Int) := inlOf (m27E k) (only 27 m27A) 3
noncomputable def m27K0 (M : Cut (List Int)) (k : Nat) : Exit → St → Option (List Int) := seqK (normAt 0 m27A false (m27c [true])) (cutK M m27A (m27c [true]) fun s => evC (m27E k) M (m27I k) 0 m27A (m27c [true]) s (retK Try.prog Try.f27 [.leaf (.own (.int .i64) 3)])) (retK Try.prog Try.f27 [.leaf (.own (.int .i64) 3)])
noncomputable def m27K1 (M : Cut (List Int)) (k : Nat) : Exit → St → Option (List Int) := seqK (normAt 0 m27A false (m27c [true, true])) (cutK M m27A (m27c [true, true]) fun s => evC (m27E k) M (m27I k) 0 m27A (m27c [true, true]) s (retK Try.prog Try.f27 [.leaf (.own (.int .i64) 3)])) (retK Try.prog Try.f27 [.leaf (.own (.int .i64) 3)])
noncomputable def m27K2 (M : Cut (List Int)) (k : Nat) : Exit → St → Option (List Int) := seqK (normAt 0 m27A false (m27c [true, true, true])) (cutK M m27A (m27c [true, true, true]) fun s => evC (m27E k) M (m27I k) 0 m27A (m27c [true, true, true]) s (retK Try.prog Try.f27 [.leaf (.own (.int .i64) 3)])) (retK Try.prog Try.f27 [.leaf (.own (.int .i64) 3)])
noncomputable def m27K3 (M : Cut (List Int)) (k : Nat) : Exit → St → Option (List Int) := seqK (normAt 0 m27A false (m27c [true, true, false, true])) (cutK M m27A (m27c [true, true, false, true]) fun s => evC (m27E k) M (m27I k) 0 m27A (m27c [true, true, false, true]) s (m27K2 M k)) (m27K2 M k)
noncomputable def m27K4 (M : Cut (List Int)) (k : Nat) : Exit → St → Option (List Int) := blockK 0 (m27K2 M k)
noncomputable def m27K5 (M : Cut (List Int)) (k : Nat) (L7 : St → Option (List Int)) : Exit → St → Option (List Int) := seqK (normAt 0 m27A true (m27c [true, true, false, true, true, true])) L7 (m27K4 M k)
noncomputable def m27K6 (M : Cut (List Int)) (k : Nat) (L7 : St → Option (List Int)) : Exit → St → Option (List Int) := seqK (normAt 0 m27A false (m27c [true, true, false, true, true, true, true])) (cutK M m27A (m27c [true, true, false, true, true, true, true]) fun s => evC (m27E k) M (m27I k) 0 m27A (m27c [true, true, false, true, true, true, true]) s (m27K5 M k L7)) (m27K5 M k L7)
noncomputable def m27K7 (M : Cut (List Int)) (k : Nat) (L7 : St → Option (List Int)) : Exit → St → Option (List Int) := seqK (normAt 0 m27A false (m27c [true, true, false, true, true, true, false, true])) (cutK M m27A (m27c [true, true, false, true, true, true, false, true]) fun s => evC (m27E k) M (m27I k) 0 m27A (m27c [true, true, false, true, true, true, false, true]) s (m27K6 M k L7)) (m27K6 M k L7)
noncomputable def m27K8 (M : Cut (List Int)) (k : Nat) (L7 : St → Option (List Int)) : Exit → St → Option (List Int) := seqK (normAt 0 m27A false (m27c [true, true, false, true, true, true, true, true])) (cutK M m27A (m27c [true, true, false, true, true, true, true, true]) fun s => evC (m27E k) M (m27I k) 0 m27A (m27c [true, true, false, true, true, true, true, true]) s (m27K5 M k L7)) (m27K5 M k L7)
noncomputable def m27K9 (M : Cut (List Int)) (k : Nat) (L7 : St → Option (List Int)) : Exit → St → Option (List Int) := blockK 1 (m27K8 M k L7)
noncomputable def m27K10 (M : Cut (List Int)) (k : Nat) : Exit → St → Option (List Int) := seqK (normAt 0 m27A false (m27c [true, true, true, true])) (cutK M m27A (m27c [true, true, true, true]) fun s => evC (m27E k) M (m27I k) 0 m27A (m27c [true, true, true, true]) s (retK Try.prog Try.f27 [.leaf (.own (.int .i64) 3)])) (retK Try.prog Try.f27 [.leaf (.own (.int .i64) 3)])
noncomputable def m27S7 (t0 : List Int) (t4 : Int) (b0 : List Int) : St := { n := 28, tm := slots [(0, .row (.int .u8) t0), (3, .own 0), (4, .int .i64 t4)], tab := blks [some (.row true (.int .i64) 3 b0)], nx := 1 }

noncomputable def m27X (X7 : List Int → Int → List Int → Option (List Int)) (k : Nat) (p0 : (List Int)) : Option (List Int) := X7 p0 (0) ([])

theorem m27x (M : Cut (List Int)) (k : Nat) (p0 : (List Int)) : evC (m27E k) M (m27I k) 0 m27A (m27c []) (stAt Try.f27 (argSs [.leaf (.val (.row (.int .u8)))] p0) (fun _ => none) 0) (retK Try.prog Try.f27 [.leaf (.own (.int .i64) 3)]) = m27X (fun t0' t4' b0' => loopN (normAt 0 m27A true (m27c [true, true, false, true, true, true])) (fun K s => evC (m27E k) M (m27I k) 0 m27A (m27c [true, true, false, true, true, true]) s K) (m27K4 M k) k (m27S7 t0' t4' b0')) k p0 := by kernel_rfl

noncomputable def m27X7 (L7 : List Int → Int → List Int → Option (List Int)) (k : Nat) (t0 : List Int) (t4 : Int) (b0 : List Int) : Option (List Int) := (if ltI t4 (wr IntKind.i64 (8 * (↑(List.length t0) : Int))) = true then (if (!eqI 8 0) = true then (if leI 0 (wr IntKind.i64 (Int.tdiv t4 8)) = true then (if ltI (wr IntKind.i64 (Int.tdiv t4 8)) (↑(List.length t0) : Int) = true then (if (!eqI 8 0) = true then (if leI 0 (wr IntKind.u64 (wr IntKind.i64 (7 - Int.tmod t4 8))) = true then (if leI
    (↑((List.length b0 +
            List.length
              (List.set (List.replicate 1 0) 0
                (bits BinOp.and IntKind.i64
                  (wr IntKind.i64
                    (List.getD t0 (Int.toNat (wr IntKind.i64 (Int.tdiv t4 8))) 0 /
                      p2 (min (Int.toNat (wr IntKind.u64 (wr IntKind.i64 (7 - Int.tmod t4 8)))) 8)))
                  1))) *
          8) :
      Int)
    140737488355328 =
  true then L7 t0 (wr IntKind.i64 (t4 + 1)) (b0 ++
  List.set (List.replicate 1 0) 0
    (bits BinOp.and IntKind.i64
      (wr IntKind.i64
        (List.getD t0 (Int.toNat (wr IntKind.i64 (Int.tdiv t4 8))) 0 /
          p2 (min (Int.toNat (wr IntKind.u64 (wr IntKind.i64 (7 - Int.tmod t4 8)))) 8)))
      1)) else none) else none) else none) else none) else none) else none) else some b0)

theorem m27x7 (M : Cut (List Int)) (k : Nat) (L7 : St → Option (List Int)) (t0 : List Int) (t4 : Int) (b0 : List Int) : evC (m27E k) M (m27I k) 0 m27A (m27c [true, true, false, true, true, true]) (m27S7 t0 t4 b0) (seqK (normAt 0 m27A true (m27c [true, true, false, true, true, true])) L7 (m27K4 M k)) = m27X7 (fun t0' t4' b0' => L7 (m27S7 t0' t4' b0')) k t0 t4 b0 := by kernel_rfl

noncomputable def m27F7 (k : Nat) : Nat → List Int → Int → List Int → Option (List Int)
  | 0, _, _, _ => none
  | j + 1, t0, t4, b0 => m27X7 (m27F7 k j) k t0 t4 b0

theorem m27q7 (k : Nat) : ∀ (j : Nat) (t0 : List Int) (t4 : Int) (b0 : List Int), loopN (normAt 0 m27A true (m27c [true, true, false, true, true, true])) (fun K s => evC (m27E k) (fun _ f => f) (m27I k) 0 m27A (m27c [true, true, false, true, true, true]) s K) (m27K4 (fun _ f => f) k) j (m27S7 t0 t4 b0) = m27F7 k j t0 t4 b0
  | 0, _, _, _ => rfl
  | j + 1, t0, t4, b0 => by
    have e0 : m27F7 k j = (fun t0' t4' b0' => loopN (normAt 0 m27A true (m27c [true, true, false, true, true, true])) (fun K s => evC (m27E k) (fun _ f => f) (m27I k) 0 m27A (m27c [true, true, false, true, true, true]) s K) (m27K4 (fun _ f => f) k) j (m27S7 t0' t4' b0')) := funext fun t0' => funext fun t4' => funext fun b0' => (m27q7 k j t0' t4' b0').symm
    show _ = m27X7 (m27F7 k j) k t0 t4 b0
    rw [e0]
    exact m27x7 (fun _ f => f) k (loopN (normAt 0 m27A true (m27c [true, true, false, true, true, true])) (fun K s => evC (m27E k) (fun _ f => f) (m27I k) 0 m27A (m27c [true, true, false, true, true, true]) s K) (m27K4 (fun _ f => f) k) j) t0 t4 b0

noncomputable def m27F (k : Nat) (p0 : (List Int)) : Option (List Int) := m27X (m27F7 k k) k p0

theorem m27q (k : Nat) (p0 : (List Int)) : evC (m27E k) (fun _ f => f) (m27I k) 0 m27A (m27c []) (stAt Try.f27 (argSs [.leaf (.val (.row (.int .u8)))] p0) (fun _ => none) 0) (retK Try.prog Try.f27 [.leaf (.own (.int .i64) 3)]) = m27F k p0 := by
    have e7 : m27F7 k k = (fun t0' t4' b0' => loopN (normAt 0 m27A true (m27c [true, true, false, true, true, true])) (fun K s => evC (m27E k) (fun _ f => f) (m27I k) 0 m27A (m27c [true, true, false, true, true, true]) s K) (m27K4 (fun _ f => f) k) k (m27S7 t0' t4' b0')) := funext fun t0' => funext fun t4' => funext fun b0' => (m27q7 k k t0' t4' b0').symm
    show _ = m27X (m27F7 k k) k p0
    rw [e7]
    exact m27x (fun _ f => f) k p0

noncomputable def m27sp : Spec := { ps := [.leaf (.val (.row (.int .u8)))], rs := [.leaf (.own (.int .i64) 3)], f := fun k a => m27F k a }

theorem m27ok (k : Nat) : EnvOk (m27E k) := envOk_of (l := []) (lB := []) progNames progMixed rfl rfl (.nil) (.nil)

theorem m27con (k : Nat) : Contract Try.prog k 27 m27sp := contract_of (E := m27E k) (m27ok k) (A := only 27 m27A) (d := 3) (c := m27c []) (by kernel_rfl) (by kernel_rfl) fun a _ h => (m27q k a).trans h

noncomputable def m28A : Anns := tabA []
noncomputable def m28E (k : Nat) : Env := { P := Try.prog, k := k, G := tabG [], GB := tabGB [] }
noncomputable def m28c (p : List Bool) : Code := sub p (bodyOf Try.f28)
noncomputable def m28I (k : Nat) : Inl Int := inlOf (m28E k) (only 28 m28A) 3
noncomputable def m28K0 (M : Cut Int) (k : Nat) : Exit → St → Option Int := seqK (normAt 0 m28A false (m28c [true])) (cutK M m28A (m28c [true]) fun s => evC (m28E k) M (m28I k) 0 m28A (m28c [true]) s (retK Try.prog Try.f28 [.leaf (.val (.int .i64))])) (retK Try.prog Try.f28 [.leaf (.val (.int .i64))])
noncomputable def m28K1 (M : Cut Int) (k : Nat) : Exit → St → Option Int := seqK (normAt 0 m28A false (m28c [true, true])) (cutK M m28A (m28c [true, true]) fun s => evC (m28E k) M (m28I k) 0 m28A (m28c [true, true]) s (retK Try.prog Try.f28 [.leaf (.val (.int .i64))])) (retK Try.prog Try.f28 [.leaf (.val (.int .i64))])
noncomputable def m28K2 (M : Cut Int) (k : Nat) : Exit → St → Option Int := seqK (normAt 0 m28A false (m28c [true, false, true])) (cutK M m28A (m28c [true, false, true]) fun s => evC (m28E k) M (m28I k) 0 m28A (m28c [true, false, true]) s (m28K1 M k)) (m28K1 M k)
noncomputable def m28K3 (M : Cut Int) (k : Nat) : Exit → St → Option Int := seqK (normAt 0 m28A false (m28c [true, false, true, false, true])) (cutK M m28A (m28c [true, false, true, false, true]) fun s => evC (m28E k) M (m28I k) 0 m28A (m28c [true, false, true, false, true]) s (m28K1 M k)) (m28K1 M k)
noncomputable def m28K4 (M : Cut Int) (k : Nat) : Exit → St → Option Int := seqK (normAt 0 m28A false (m28c [true, true, true])) (cutK M m28A (m28c [true, true, true]) fun s => evC (m28E k) M (m28I k) 0 m28A (m28c [true, true, true]) s (retK Try.prog Try.f28 [.leaf (.val (.int .i64))])) (retK Try.prog Try.f28 [.leaf (.val (.int .i64))])

noncomputable def m28X (k : Nat) (p0 : Int) (p1 : Int) : Option Int := (if leI 0 15 = true then (if (!eqI (p0 / 32768) p1) = true then (if leI 0 1 = true then some (bits BinOp.xor IntKind.i64 (bits BinOp.and IntKind.i64 (wr IntKind.i64 (p0 * 2)) 65535) 4129) else none) else (if leI 0 1 = true then some (bits BinOp.and IntKind.i64 (wr IntKind.i64 (p0 * 2)) 65535) else none)) else none)

theorem m28x (M : Cut Int) (k : Nat) (p0 : Int) (p1 : Int) : evC (m28E k) M (m28I k) 0 m28A (m28c []) (stAt Try.f28 (argSs [.leaf (.val (.int .i64)), .leaf (.val (.int .i64))] (p0, p1)) (fun _ => none) 0) (retK Try.prog Try.f28 [.leaf (.val (.int .i64))]) = m28X k p0 p1 := by kernel_rfl

noncomputable def m28F (k : Nat) (p0 : Int) (p1 : Int) : Option Int := m28X k p0 p1

theorem m28q (k : Nat) (p0 : Int) (p1 : Int) : evC (m28E k) (fun _ f => f) (m28I k) 0 m28A (m28c []) (stAt Try.f28 (argSs [.leaf (.val (.int .i64)), .leaf (.val (.int .i64))] (p0, p1)) (fun _ => none) 0) (retK Try.prog Try.f28 [.leaf (.val (.int .i64))]) = m28F k p0 p1 := by
    show _ = m28X k p0 p1
    exact m28x (fun _ f => f) k p0 p1

noncomputable def m28sp : Spec := { ps := [.leaf (.val (.int .i64)), .leaf (.val (.int .i64))], rs := [.leaf (.val (.int .i64))], f := fun k a => m28F k a.1 a.2 }

theorem m28ok (k : Nat) : EnvOk (m28E k) := envOk_of (l := []) (lB := []) progNames progMixed rfl rfl (.nil) (.nil)

theorem m28con (k : Nat) : Contract Try.prog k 28 m28sp := contract_of (E := m28E k) (m28ok k) (A := only 28 m28A) (d := 3) (c := m28c []) (by kernel_rfl) (by kernel_rfl) fun a _ h => (m28q k a.1 a.2).trans h

noncomputable def m22A : Anns := tabA [(9, { keep := [3, 4, 5] })]
noncomputable def m22E (k : Nat) : Env := { P := Try.prog, k := k, G := tabG [(27, m27sp), (28, m28sp)], GB := tabGB [] }
noncomputable def m22c (p : List Bool) : Code := sub p (bodyOf Try.f22)
noncomputable def m22I (k : Nat) : Inl Int := inlOf (m22E k) (only 22 m22A) 3
noncomputable def m22K0 (M : Cut Int) (k : Nat) : Exit → St → Option Int := seqK (normAt 0 m22A false (m22c [true])) (cutK M m22A (m22c [true]) fun s => evC (m22E k) M (m22I k) 0 m22A (m22c [true]) s (retK Try.prog Try.f22 [.leaf (.val (.int .i64))])) (retK Try.prog Try.f22 [.leaf (.val (.int .i64))])
noncomputable def m22K1 (M : Cut Int) (k : Nat) : Exit → St → Option Int := seqK (normAt 0 m22A false (m22c [true, true])) (cutK M m22A (m22c [true, true]) fun s => evC (m22E k) M (m22I k) 0 m22A (m22c [true, true]) s (retK Try.prog Try.f22 [.leaf (.val (.int .i64))])) (retK Try.prog Try.f22 [.leaf (.val (.int .i64))])
noncomputable def m22K2 (M : Cut Int) (k : Nat) : Exit → St → Option Int := seqK (normAt 0 m22A false (m22c [true, true, true])) (cutK M m22A (m22c [true, true, true]) fun s => evC (m22E k) M (m22I k) 0 m22A (m22c [true, true, true]) s (retK Try.prog Try.f22 [.leaf (.val (.int .i64))])) (retK Try.prog Try.f22 [.leaf (.val (.int .i64))])
noncomputable def m22K3 (M : Cut Int) (k : Nat) : Exit → St → Option Int := seqK (normAt 0 m22A false (m22c [true, true, true, true])) (cutK M m22A (m22c [true, true, true, true]) fun s => evC (m22E k) M (m22I k) 0 m22A (m22c [true, true, true, true]) s (retK Try.prog Try.f22 [.leaf (.val (.int .i64))])) (retK Try.prog Try.f22 [.leaf (.val (.int .i64))])
noncomputable def m22K4 (M : Cut Int) (k : Nat) : Exit → St → Option Int := seqK (normAt 0 m22A false (m22c [true, true, true, false, true])) (cutK M m22A (m22c [true, true, true, false, true]) fun s => evC (m22E k) M (m22I k) 0 m22A (m22c [true, true, true, false, true]) s (m22K3 M k)) (m22K3 M k)
noncomputable def m22K5 (M : Cut Int) (k : Nat) : Exit → St → Option Int := blockK 0 (m22K3 M k)
noncomputable def m22K6 (M : Cut Int) (k : Nat) (L9 : St → Option Int) : Exit → St → Option Int := seqK (normAt 0 m22A true (m22c [true, true, true, false, true, true, true])) L9 (m22K5 M k)
noncomputable def m22K7 (M : Cut Int) (k : Nat) (L9 : St → Option Int) : Exit → St → Option Int := seqK (normAt 0 m22A false (m22c [true, true, true, false, true, true, true, true])) (cutK M m22A (m22c [true, true, true, false, true, true, true, true]) fun s => evC (m22E k) M (m22I k) 0 m22A (m22c [true, true, true, false, true, true, true, true]) s (m22K6 M k L9)) (m22K6 M k L9)
noncomputable def m22K8 (M : Cut Int) (k : Nat) (L9 : St → Option Int) : Exit → St → Option Int := seqK (normAt 0 m22A false (m22c [true, true, true, false, true, true, true, false, true])) (cutK M m22A (m22c [true, true, true, false, true, true, true, false, true]) fun s => evC (m22E k) M (m22I k) 0 m22A (m22c [true, true, true, false, true, true, true, false, true]) s (m22K7 M k L9)) (m22K7 M k L9)
noncomputable def m22K9 (M : Cut Int) (k : Nat) (L9 : St → Option Int) : Exit → St → Option Int := seqK (normAt 0 m22A false (m22c [true, true, true, false, true, true, true, true, true])) (cutK M m22A (m22c [true, true, true, false, true, true, true, true, true]) fun s => evC (m22E k) M (m22I k) 0 m22A (m22c [true, true, true, false, true, true, true, true, true]) s (m22K6 M k L9)) (m22K6 M k L9)
noncomputable def m22K10 (M : Cut Int) (k : Nat) (L9 : St → Option Int) : Exit → St → Option Int := blockK 1 (m22K9 M k L9)
noncomputable def m22K11 (M : Cut Int) (k : Nat) : Exit → St → Option Int := seqK (normAt 0 m22A false (m22c [true, true, true, true, true])) (cutK M m22A (m22c [true, true, true, true, true]) fun s => evC (m22E k) M (m22I k) 0 m22A (m22c [true, true, true, true, true]) s (retK Try.prog Try.f22 [.leaf (.val (.int .i64))])) (retK Try.prog Try.f22 [.leaf (.val (.int .i64))])
noncomputable def m22S9 (t3 : Int) (t5 : Int) (b0 : List Int) : St := { n := 21, tm := slots [(3, .int .i64 t3), (4, .own 0), (5, .int .i64 t5)], tab := blks [some (.row true (.int .i64) 3 b0)], nx := 1 }

noncomputable def m22X (X9 : Int → Int → List Int → Option Int) (k : Nat) (p0 : (List Int)) : Option Int := (Option.bind (m27F k p0) fun (c3 : (List Int)) => X9 (65535) (0) c3)

theorem m22x (M : Cut Int) (k : Nat) (p0 : (List Int)) : evC (m22E k) M (m22I k) 0 m22A (m22c []) (stAt Try.f22 (argSs [.leaf (.val (.row (.int .u8)))] p0) (fun _ => none) 0) (retK Try.prog Try.f22 [.leaf (.val (.int .i64))]) = m22X (fun t3' t5' b0' => loopN (normAt 0 m22A true (m22c [true, true, true, false, true, true, true])) (fun K s => evC (m22E k) M (m22I k) 0 m22A (m22c [true, true, true, false, true, true, true]) s K) (m22K5 M k) k (m22S9 t3' t5' b0')) k p0 := by kernel_rfl

noncomputable def m22X9 (L9 : Int → Int → List Int → Option Int) (k : Nat) (t3 : Int) (t5 : Int) (b0 : List Int) : Option Int := (if ltI t5 (↑(List.length b0) : Int) = true then (if leI 0 t5 = true then (if ltI t5 (↑(List.length b0) : Int) = true then (Option.bind (m28F k t3 (List.getD b0 (Int.toNat t5) 0)) fun (c6 : Int) => L9 c6 (wr IntKind.i64 (t5 + 1)) b0) else none) else none) else some t3)

theorem m22x9 (M : Cut Int) (k : Nat) (L9 : St → Option Int) (t3 : Int) (t5 : Int) (b0 : List Int) : evC (m22E k) M (m22I k) 0 m22A (m22c [true, true, true, false, true, true, true]) (m22S9 t3 t5 b0) (seqK (normAt 0 m22A true (m22c [true, true, true, false, true, true, true])) L9 (m22K5 M k)) = m22X9 (fun t3' t5' b0' => L9 (m22S9 t3' t5' b0')) k t3 t5 b0 := by kernel_rfl

noncomputable def m22F9 (k : Nat) : Nat → Int → Int → List Int → Option Int
  | 0, _, _, _ => none
  | j + 1, t3, t5, b0 => m22X9 (m22F9 k j) k t3 t5 b0

theorem m22q9 (k : Nat) : ∀ (j : Nat) (t3 : Int) (t5 : Int) (b0 : List Int), loopN (normAt 0 m22A true (m22c [true, true, true, false, true, true, true])) (fun K s => evC (m22E k) (fun _ f => f) (m22I k) 0 m22A (m22c [true, true, true, false, true, true, true]) s K) (m22K5 (fun _ f => f) k) j (m22S9 t3 t5 b0) = m22F9 k j t3 t5 b0
  | 0, _, _, _ => rfl
  | j + 1, t3, t5, b0 => by
    have e0 : m22F9 k j = (fun t3' t5' b0' => loopN (normAt 0 m22A true (m22c [true, true, true, false, true, true, true])) (fun K s => evC (m22E k) (fun _ f => f) (m22I k) 0 m22A (m22c [true, true, true, false, true, true, true]) s K) (m22K5 (fun _ f => f) k) j (m22S9 t3' t5' b0')) := funext fun t3' => funext fun t5' => funext fun b0' => (m22q9 k j t3' t5' b0').symm
    show _ = m22X9 (m22F9 k j) k t3 t5 b0
    rw [e0]
    exact m22x9 (fun _ f => f) k (loopN (normAt 0 m22A true (m22c [true, true, true, false, true, true, true])) (fun K s => evC (m22E k) (fun _ f => f) (m22I k) 0 m22A (m22c [true, true, true, false, true, true, true]) s K) (m22K5 (fun _ f => f) k) j) t3 t5 b0

noncomputable def m22F (k : Nat) (p0 : (List Int)) : Option Int := m22X (m22F9 k k) k p0

theorem m22q (k : Nat) (p0 : (List Int)) : evC (m22E k) (fun _ f => f) (m22I k) 0 m22A (m22c []) (stAt Try.f22 (argSs [.leaf (.val (.row (.int .u8)))] p0) (fun _ => none) 0) (retK Try.prog Try.f22 [.leaf (.val (.int .i64))]) = m22F k p0 := by
    have e9 : m22F9 k k = (fun t3' t5' b0' => loopN (normAt 0 m22A true (m22c [true, true, true, false, true, true, true])) (fun K s => evC (m22E k) (fun _ f => f) (m22I k) 0 m22A (m22c [true, true, true, false, true, true, true]) s K) (m22K5 (fun _ f => f) k) k (m22S9 t3' t5' b0')) := funext fun t3' => funext fun t5' => funext fun b0' => (m22q9 k k t3' t5' b0').symm
    show _ = m22X (m22F9 k k) k p0
    rw [e9]
    exact m22x (fun _ f => f) k p0

noncomputable def m22sp : Spec := { ps := [.leaf (.val (.row (.int .u8)))], rs := [.leaf (.val (.int .i64))], f := fun k a => m22F k a }

theorem m22ok (k : Nat) : EnvOk (m22E k) := envOk_of (l := [(27, m27sp), (28, m28sp)]) (lB := []) progNames progMixed rfl rfl (.cons ⟨m27con k, Try.f27, by kernel_rfl, by kernel_rfl⟩ (.cons ⟨m28con k, Try.f28, by kernel_rfl, by kernel_rfl⟩ (.nil))) (.nil)

theorem m22con (k : Nat) : Contract Try.prog k 22 m22sp := contract_of (E := m22E k) (m22ok k) (A := only 22 m22A) (d := 3) (c := m22c []) (by kernel_rfl) (by kernel_rfl) fun a _ h => (m22q k a).trans h

noncomputable def m15A : Anns := tabA []
noncomputable def m15E (k : Nat) : Env := { P := Try.prog, k := k, G := tabG [(21, m21sp), (22, m22sp)], GB := tabGB [] }
noncomputable def m15c (p : List Bool) : Code := sub p (bodyOf Try.f15)
noncomputable def m15I (k : Nat) : Inl (List Int) := inlOf (m15E k) (only 15 m15A) 3
noncomputable def m15K0 (M : Cut (List Int)) (k : Nat) : Exit → St → Option (List Int) := seqK (normAt 0 m15A false (m15c [true])) (cutK M m15A (m15c [true]) fun s => evC (m15E k) M (m15I k) 0 m15A (m15c [true]) s (retK Try.prog Try.f15 [.leaf (.own (.int .u8) 5)])) (retK Try.prog Try.f15 [.leaf (.own (.int .u8) 5)])
noncomputable def m15K1 (M : Cut (List Int)) (k : Nat) : Exit → St → Option (List Int) := seqK (normAt 0 m15A false (m15c [true, true])) (cutK M m15A (m15c [true, true]) fun s => evC (m15E k) M (m15I k) 0 m15A (m15c [true, true]) s (retK Try.prog Try.f15 [.leaf (.own (.int .u8) 5)])) (retK Try.prog Try.f15 [.leaf (.own (.int .u8) 5)])
noncomputable def m15K2 (M : Cut (List Int)) (k : Nat) : Exit → St → Option (List Int) := seqK (normAt 0 m15A false (m15c [true, true, true])) (cutK M m15A (m15c [true, true, true]) fun s => evC (m15E k) M (m15I k) 0 m15A (m15c [true, true, true]) s (retK Try.prog Try.f15 [.leaf (.own (.int .u8) 5)])) (retK Try.prog Try.f15 [.leaf (.own (.int .u8) 5)])
noncomputable def m15K3 (M : Cut (List Int)) (k : Nat) : Exit → St → Option (List Int) := seqK (normAt 0 m15A false (m15c [true, true, true, true])) (cutK M m15A (m15c [true, true, true, true]) fun s => evC (m15E k) M (m15I k) 0 m15A (m15c [true, true, true, true]) s (retK Try.prog Try.f15 [.leaf (.own (.int .u8) 5)])) (retK Try.prog Try.f15 [.leaf (.own (.int .u8) 5)])
noncomputable def m15K4 (M : Cut (List Int)) (k : Nat) : Exit → St → Option (List Int) := seqK (normAt 0 m15A false (m15c [true, true, true, true, true])) (cutK M m15A (m15c [true, true, true, true, true]) fun s => evC (m15E k) M (m15I k) 0 m15A (m15c [true, true, true, true, true]) s (retK Try.prog Try.f15 [.leaf (.own (.int .u8) 5)])) (retK Try.prog Try.f15 [.leaf (.own (.int .u8) 5)])

noncomputable def m15X (k : Nat) (p0 : (Int × (Int × (Int × (List Int))))) : Option (List Int) := (Option.bind (m21F k (Prod.fst p0) 4) fun (c3 : (List Int)) => (if leI (↑((1 + List.length c3) * 1) : Int) 140737488355328 = true then (if leI
    (↑((List.length (List.set (List.replicate 1 0) 0 68 ++ c3) +
            List.length (List.set (List.replicate 1 0) 0 (wr IntKind.u8 (Prod.fst (Prod.snd p0))))) *
          1) :
      Int)
    140737488355328 =
  true then (Option.bind (m21F k (Prod.fst (Prod.snd (Prod.snd p0))) 2) fun (c4 : (List Int)) => (if leI
    (↑((List.length
              (List.set (List.replicate 1 0) 0 68 ++ c3 ++
                List.set (List.replicate 1 0) 0 (wr IntKind.u8 (Prod.fst (Prod.snd p0)))) +
            List.length c4) *
          1) :
      Int)
    140737488355328 =
  true then (if leI
    (↑((List.length
              (List.set (List.replicate 1 0) 0 68 ++ c3 ++
                  List.set (List.replicate 1 0) 0 (wr IntKind.u8 (Prod.fst (Prod.snd p0))) ++
                c4) +
            List.length
              (List.set (List.replicate 1 0) 0
                (wr IntKind.u8 (↑(List.length (Prod.snd (Prod.snd (Prod.snd p0)))) : Int)))) *
          1) :
      Int)
    140737488355328 =
  true then (Option.bind (m22F k
  (List.set (List.replicate 1 0) 0 68 ++ c3 ++
        List.set (List.replicate 1 0) 0 (wr IntKind.u8 (Prod.fst (Prod.snd p0))) ++
      c4 ++
    List.set (List.replicate 1 0) 0 (wr IntKind.u8 (↑(List.length (Prod.snd (Prod.snd (Prod.snd p0)))) : Int)))) fun (c5 : Int) => (Option.bind (m21F k c5 2) fun (c6 : (List Int)) => (if leI
    (↑((List.length
              (List.set (List.replicate 1 0) 0 68 ++ c3 ++
                    List.set (List.replicate 1 0) 0 (wr IntKind.u8 (Prod.fst (Prod.snd p0))) ++
                  c4 ++
                List.set (List.replicate 1 0) 0
                  (wr IntKind.u8 (↑(List.length (Prod.snd (Prod.snd (Prod.snd p0)))) : Int))) +
            List.length c6) *
          1) :
      Int)
    140737488355328 =
  true then (if leI
    (↑((List.length
              (List.set (List.replicate 1 0) 0 68 ++ c3 ++
                      List.set (List.replicate 1 0) 0 (wr IntKind.u8 (Prod.fst (Prod.snd p0))) ++
                    c4 ++
                  List.set (List.replicate 1 0) 0
                    (wr IntKind.u8 (↑(List.length (Prod.snd (Prod.snd (Prod.snd p0)))) : Int)) ++
                c6) +
            List.length (Prod.snd (Prod.snd (Prod.snd p0)))) *
          1) :
      Int)
    140737488355328 =
  true then some (List.set (List.replicate 1 0) 0 68 ++ c3 ++ List.set (List.replicate 1 0) 0 (wr IntKind.u8 (Prod.fst (Prod.snd p0))) ++
        c4 ++
      List.set (List.replicate 1 0) 0 (wr IntKind.u8 (↑(List.length (Prod.snd (Prod.snd (Prod.snd p0)))) : Int)) ++
    c6 ++
  Prod.snd (Prod.snd (Prod.snd p0))) else none) else none))) else none) else none)) else none) else none))

theorem m15x (M : Cut (List Int)) (k : Nat) (p0 : (Int × (Int × (Int × (List Int))))) : evC (m15E k) M (m15I k) 0 m15A (m15c []) (stAt Try.f15 (argSs [.st (.pair (.int .i64) (.pair (.int .i64) (.pair (.int .i64) (.row (.int .u8)))))] p0) (fun _ => none) 0) (retK Try.prog Try.f15 [.leaf (.own (.int .u8) 5)]) = m15X k p0 := by kernel_rfl

noncomputable def m15F (k : Nat) (p0 : (Int × (Int × (Int × (List Int))))) : Option (List Int) := m15X k p0

theorem m15q (k : Nat) (p0 : (Int × (Int × (Int × (List Int))))) : evC (m15E k) (fun _ f => f) (m15I k) 0 m15A (m15c []) (stAt Try.f15 (argSs [.st (.pair (.int .i64) (.pair (.int .i64) (.pair (.int .i64) (.row (.int .u8)))))] p0) (fun _ => none) 0) (retK Try.prog Try.f15 [.leaf (.own (.int .u8) 5)]) = m15F k p0 := by
    show _ = m15X k p0
    exact m15x (fun _ f => f) k p0

noncomputable def m15sp : Spec := { ps := [.st (.pair (.int .i64) (.pair (.int .i64) (.pair (.int .i64) (.row (.int .u8)))))], rs := [.leaf (.own (.int .u8) 5)], f := fun k a => m15F k a }

theorem m15ok (k : Nat) : EnvOk (m15E k) := envOk_of (l := [(21, m21sp), (22, m22sp)]) (lB := []) progNames progMixed rfl rfl (.cons ⟨m21con k, Try.f21, by kernel_rfl, by kernel_rfl⟩ (.cons ⟨m22con k, Try.f22, by kernel_rfl, by kernel_rfl⟩ (.nil))) (.nil)

theorem m15con (k : Nat) : Contract Try.prog k 15 m15sp := contract_of (E := m15E k) (m15ok k) (A := only 15 m15A) (d := 3) (c := m15c []) (by kernel_rfl) (by kernel_rfl) fun a _ h => (m15q k a).trans h

noncomputable def m25A : Anns := tabA [(7, { keep := [0, 3, 4] })]
noncomputable def m25E (k : Nat) : Env := { P := Try.prog, k := k, G := tabG [], GB := tabGB [] }
noncomputable def m25c (p : List Bool) : Code := sub p (bodyOf Try.f25)
noncomputable def m25I (k : Nat) : Inl Int := inlOf (m25E k) (only 25 m25A) 3
noncomputable def m25K0 (M : Cut Int) (k : Nat) : Exit → St → Option Int := seqK (normAt 0 m25A false (m25c [true])) (cutK M m25A (m25c [true]) fun s => evC (m25E k) M (m25I k) 0 m25A (m25c [true]) s (retK Try.prog Try.f25 [.leaf (.val (.int .i64))])) (retK Try.prog Try.f25 [.leaf (.val (.int .i64))])
noncomputable def m25K1 (M : Cut Int) (k : Nat) : Exit → St → Option Int := seqK (normAt 0 m25A false (m25c [true, true])) (cutK M m25A (m25c [true, true]) fun s => evC (m25E k) M (m25I k) 0 m25A (m25c [true, true]) s (retK Try.prog Try.f25 [.leaf (.val (.int .i64))])) (retK Try.prog Try.f25 [.leaf (.val (.int .i64))])
noncomputable def m25K2 (M : Cut Int) (k : Nat) : Exit → St → Option Int := seqK (normAt 0 m25A false (m25c [true, true, true])) (cutK M m25A (m25c [true, true, true]) fun s => evC (m25E k) M (m25I k) 0 m25A (m25c [true, true, true]) s (retK Try.prog Try.f25 [.leaf (.val (.int .i64))])) (retK Try.prog Try.f25 [.leaf (.val (.int .i64))])
noncomputable def m25K3 (M : Cut Int) (k : Nat) : Exit → St → Option Int := seqK (normAt 0 m25A false (m25c [true, true, false, true])) (cutK M m25A (m25c [true, true, false, true]) fun s => evC (m25E k) M (m25I k) 0 m25A (m25c [true, true, false, true]) s (m25K2 M k)) (m25K2 M k)
noncomputable def m25K4 (M : Cut Int) (k : Nat) : Exit → St → Option Int := blockK 0 (m25K2 M k)
noncomputable def m25K5 (M : Cut Int) (k : Nat) (L7 : St → Option Int) : Exit → St → Option Int := seqK (normAt 0 m25A true (m25c [true, true, false, true, true, true])) L7 (m25K4 M k)
noncomputable def m25K6 (M : Cut Int) (k : Nat) (L7 : St → Option Int) : Exit → St → Option Int := seqK (normAt 0 m25A false (m25c [true, true, false, true, true, true, true])) (cutK M m25A (m25c [true, true, false, true, true, true, true]) fun s => evC (m25E k) M (m25I k) 0 m25A (m25c [true, true, false, true, true, true, true]) s (m25K5 M k L7)) (m25K5 M k L7)
noncomputable def m25K7 (M : Cut Int) (k : Nat) (L7 : St → Option Int) : Exit → St → Option Int := seqK (normAt 0 m25A false (m25c [true, true, false, true, true, true, false, true])) (cutK M m25A (m25c [true, true, false, true, true, true, false, true]) fun s => evC (m25E k) M (m25I k) 0 m25A (m25c [true, true, false, true, true, true, false, true]) s (m25K6 M k L7)) (m25K6 M k L7)
noncomputable def m25K8 (M : Cut Int) (k : Nat) (L7 : St → Option Int) : Exit → St → Option Int := seqK (normAt 0 m25A false (m25c [true, true, false, true, true, true, true, true])) (cutK M m25A (m25c [true, true, false, true, true, true, true, true]) fun s => evC (m25E k) M (m25I k) 0 m25A (m25c [true, true, false, true, true, true, true, true]) s (m25K5 M k L7)) (m25K5 M k L7)
noncomputable def m25K9 (M : Cut Int) (k : Nat) (L7 : St → Option Int) : Exit → St → Option Int := blockK 1 (m25K8 M k L7)
noncomputable def m25K10 (M : Cut Int) (k : Nat) : Exit → St → Option Int := seqK (normAt 0 m25A false (m25c [true, true, true, true])) (cutK M m25A (m25c [true, true, true, true]) fun s => evC (m25E k) M (m25I k) 0 m25A (m25c [true, true, true, true]) s (retK Try.prog Try.f25 [.leaf (.val (.int .i64))])) (retK Try.prog Try.f25 [.leaf (.val (.int .i64))])
noncomputable def m25S7 (t0 : List Int) (t3 : Int) (t4 : Int) : St := { n := 20, tm := slots [(0, .row (.int .u8) t0), (3, .int .i64 t3), (4, .int .i64 t4)], tab := blks [], nx := 0 }

noncomputable def m25X (X7 : List Int → Int → Int → Option Int) (k : Nat) (p0 : (List Int)) : Option Int := X7 p0 (0) (0)

theorem m25x (M : Cut Int) (k : Nat) (p0 : (List Int)) : evC (m25E k) M (m25I k) 0 m25A (m25c []) (stAt Try.f25 (argSs [.leaf (.val (.row (.int .u8)))] p0) (fun _ => none) 0) (retK Try.prog Try.f25 [.leaf (.val (.int .i64))]) = m25X (fun t0' t3' t4' => loopN (normAt 0 m25A true (m25c [true, true, false, true, true, true])) (fun K s => evC (m25E k) M (m25I k) 0 m25A (m25c [true, true, false, true, true, true]) s K) (m25K4 M k) k (m25S7 t0' t3' t4')) k p0 := by kernel_rfl

noncomputable def m25X7 (L7 : List Int → Int → Int → Option Int) (k : Nat) (t0 : List Int) (t3 : Int) (t4 : Int) : Option Int := (if ltI t4 (↑(List.length t0) : Int) = true then (if leI 0 8 = true then (if leI 0 t4 = true then (if ltI t4 (↑(List.length t0) : Int) = true then L7 t0 (bits BinOp.or IntKind.i64 (wr IntKind.i64 (t3 * 256)) (wr IntKind.i64 (List.getD t0 (Int.toNat t4) 0))) (wr IntKind.i64 (t4 + 1)) else none) else none) else none) else some t3)

theorem m25x7 (M : Cut Int) (k : Nat) (L7 : St → Option Int) (t0 : List Int) (t3 : Int) (t4 : Int) : evC (m25E k) M (m25I k) 0 m25A (m25c [true, true, false, true, true, true]) (m25S7 t0 t3 t4) (seqK (normAt 0 m25A true (m25c [true, true, false, true, true, true])) L7 (m25K4 M k)) = m25X7 (fun t0' t3' t4' => L7 (m25S7 t0' t3' t4')) k t0 t3 t4 := by kernel_rfl

noncomputable def m25F7 (k : Nat) : Nat → List Int → Int → Int → Option Int
  | 0, _, _, _ => none
  | j + 1, t0, t3, t4 => m25X7 (m25F7 k j) k t0 t3 t4

theorem m25q7 (k : Nat) : ∀ (j : Nat) (t0 : List Int) (t3 : Int) (t4 : Int), loopN (normAt 0 m25A true (m25c [true, true, false, true, true, true])) (fun K s => evC (m25E k) (fun _ f => f) (m25I k) 0 m25A (m25c [true, true, false, true, true, true]) s K) (m25K4 (fun _ f => f) k) j (m25S7 t0 t3 t4) = m25F7 k j t0 t3 t4
  | 0, _, _, _ => rfl
  | j + 1, t0, t3, t4 => by
    have e0 : m25F7 k j = (fun t0' t3' t4' => loopN (normAt 0 m25A true (m25c [true, true, false, true, true, true])) (fun K s => evC (m25E k) (fun _ f => f) (m25I k) 0 m25A (m25c [true, true, false, true, true, true]) s K) (m25K4 (fun _ f => f) k) j (m25S7 t0' t3' t4')) := funext fun t0' => funext fun t3' => funext fun t4' => (m25q7 k j t0' t3' t4').symm
    show _ = m25X7 (m25F7 k j) k t0 t3 t4
    rw [e0]
    exact m25x7 (fun _ f => f) k (loopN (normAt 0 m25A true (m25c [true, true, false, true, true, true])) (fun K s => evC (m25E k) (fun _ f => f) (m25I k) 0 m25A (m25c [true, true, false, true, true, true]) s K) (m25K4 (fun _ f => f) k) j) t0 t3 t4

noncomputable def m25F (k : Nat) (p0 : (List Int)) : Option Int := m25X (m25F7 k k) k p0

theorem m25q (k : Nat) (p0 : (List Int)) : evC (m25E k) (fun _ f => f) (m25I k) 0 m25A (m25c []) (stAt Try.f25 (argSs [.leaf (.val (.row (.int .u8)))] p0) (fun _ => none) 0) (retK Try.prog Try.f25 [.leaf (.val (.int .i64))]) = m25F k p0 := by
    have e7 : m25F7 k k = (fun t0' t3' t4' => loopN (normAt 0 m25A true (m25c [true, true, false, true, true, true])) (fun K s => evC (m25E k) (fun _ f => f) (m25I k) 0 m25A (m25c [true, true, false, true, true, true]) s K) (m25K4 (fun _ f => f) k) k (m25S7 t0' t3' t4')) := funext fun t0' => funext fun t3' => funext fun t4' => (m25q7 k k t0' t3' t4').symm
    show _ = m25X (m25F7 k k) k p0
    rw [e7]
    exact m25x (fun _ f => f) k p0

noncomputable def m25sp : Spec := { ps := [.leaf (.val (.row (.int .u8)))], rs := [.leaf (.val (.int .i64))], f := fun k a => m25F k a }

theorem m25ok (k : Nat) : EnvOk (m25E k) := envOk_of (l := []) (lB := []) progNames progMixed rfl rfl (.nil) (.nil)

theorem m25con (k : Nat) : Contract Try.prog k 25 m25sp := contract_of (E := m25E k) (m25ok k) (A := only 25 m25A) (d := 3) (c := m25c []) (by kernel_rfl) (by kernel_rfl) fun a _ h => (m25q k a).trans h

noncomputable def m17A : Anns := tabA []
noncomputable def m17E (k : Nat) : Env := { P := Try.prog, k := k, G := tabG [(9, m9sp), (22, m22sp), (25, m25sp)], GB := tabGB [] }
noncomputable def m17c (p : List Bool) : Code := sub p (bodyOf Try.f17)
noncomputable def m17I (k : Nat) : Inl ((Int × (Int × (Int × (List Int)))) × Int) := inlOf (m17E k) (only 17 m17A) 3
noncomputable def m17K0 (M : Cut ((Int × (Int × (Int × (List Int)))) × Int)) (k : Nat) : Exit → St → Option ((Int × (Int × (Int × (List Int)))) × Int) := seqK (normAt 0 m17A false (m17c [true])) (cutK M m17A (m17c [true]) fun s => evC (m17E k) M (m17I k) 0 m17A (m17c [true]) s (retK Try.prog Try.f17 [.st (.pair (.int .i64) (.pair (.int .i64) (.pair (.int .i64) (.row (.int .u8))))), .leaf (.val (.int .i64))])) (retK Try.prog Try.f17 [.st (.pair (.int .i64) (.pair (.int .i64) (.pair (.int .i64) (.row (.int .u8))))), .leaf (.val (.int .i64))])
noncomputable def m17K1 (M : Cut ((Int × (Int × (Int × (List Int)))) × Int)) (k : Nat) : Exit → St → Option ((Int × (Int × (Int × (List Int)))) × Int) := seqK (normAt 0 m17A false (m17c [true, true])) (cutK M m17A (m17c [true, true]) fun s => evC (m17E k) M (m17I k) 0 m17A (m17c [true, true]) s (retK Try.prog Try.f17 [.st (.pair (.int .i64) (.pair (.int .i64) (.pair (.int .i64) (.row (.int .u8))))), .leaf (.val (.int .i64))])) (retK Try.prog Try.f17 [.st (.pair (.int .i64) (.pair (.int .i64) (.pair (.int .i64) (.row (.int .u8))))), .leaf (.val (.int .i64))])
noncomputable def m17K2 (M : Cut ((Int × (Int × (Int × (List Int)))) × Int)) (k : Nat) : Exit → St → Option ((Int × (Int × (Int × (List Int)))) × Int) := seqK (normAt 0 m17A false (m17c [true, false, true])) (cutK M m17A (m17c [true, false, true]) fun s => evC (m17E k) M (m17I k) 0 m17A (m17c [true, false, true]) s (m17K1 M k)) (m17K1 M k)
noncomputable def m17K3 (M : Cut ((Int × (Int × (Int × (List Int)))) × Int)) (k : Nat) : Exit → St → Option ((Int × (Int × (Int × (List Int)))) × Int) := seqK (normAt 0 m17A false (m17c [true, false, true, false, true])) (cutK M m17A (m17c [true, false, true, false, true]) fun s => evC (m17E k) M (m17I k) 0 m17A (m17c [true, false, true, false, true]) s (m17K1 M k)) (m17K1 M k)
noncomputable def m17K4 (M : Cut ((Int × (Int × (Int × (List Int)))) × Int)) (k : Nat) : Exit → St → Option ((Int × (Int × (Int × (List Int)))) × Int) := seqK (normAt 0 m17A false (m17c [true, true, true])) (cutK M m17A (m17c [true, true, true]) fun s => evC (m17E k) M (m17I k) 0 m17A (m17c [true, true, true]) s (retK Try.prog Try.f17 [.st (.pair (.int .i64) (.pair (.int .i64) (.pair (.int .i64) (.row (.int .u8))))), .leaf (.val (.int .i64))])) (retK Try.prog Try.f17 [.st (.pair (.int .i64) (.pair (.int .i64) (.pair (.int .i64) (.row (.int .u8))))), .leaf (.val (.int .i64))])
noncomputable def m17K5 (M : Cut ((Int × (Int × (Int × (List Int)))) × Int)) (k : Nat) : Exit → St → Option ((Int × (Int × (Int × (List Int)))) × Int) := seqK (normAt 0 m17A false (m17c [true, true, false, true])) (cutK M m17A (m17c [true, true, false, true]) fun s => evC (m17E k) M (m17I k) 0 m17A (m17c [true, true, false, true]) s (m17K4 M k)) (m17K4 M k)
noncomputable def m17K6 (M : Cut ((Int × (Int × (Int × (List Int)))) × Int)) (k : Nat) : Exit → St → Option ((Int × (Int × (Int × (List Int)))) × Int) := seqK (normAt 0 m17A false (m17c [true, true, false, true, false, true])) (cutK M m17A (m17c [true, true, false, true, false, true]) fun s => evC (m17E k) M (m17I k) 0 m17A (m17c [true, true, false, true, false, true]) s (m17K4 M k)) (m17K4 M k)
noncomputable def m17K7 (M : Cut ((Int × (Int × (Int × (List Int)))) × Int)) (k : Nat) : Exit → St → Option ((Int × (Int × (Int × (List Int)))) × Int) := seqK (normAt 0 m17A false (m17c [true, true, true, true])) (cutK M m17A (m17c [true, true, true, true]) fun s => evC (m17E k) M (m17I k) 0 m17A (m17c [true, true, true, true]) s (retK Try.prog Try.f17 [.st (.pair (.int .i64) (.pair (.int .i64) (.pair (.int .i64) (.row (.int .u8))))), .leaf (.val (.int .i64))])) (retK Try.prog Try.f17 [.st (.pair (.int .i64) (.pair (.int .i64) (.pair (.int .i64) (.row (.int .u8))))), .leaf (.val (.int .i64))])
noncomputable def m17K8 (M : Cut ((Int × (Int × (Int × (List Int)))) × Int)) (k : Nat) : Exit → St → Option ((Int × (Int × (Int × (List Int)))) × Int) := seqK (normAt 0 m17A false (m17c [true, true, true, false, true])) (cutK M m17A (m17c [true, true, true, false, true]) fun s => evC (m17E k) M (m17I k) 0 m17A (m17c [true, true, true, false, true]) s (m17K7 M k)) (m17K7 M k)
noncomputable def m17K9 (M : Cut ((Int × (Int × (Int × (List Int)))) × Int)) (k : Nat) : Exit → St → Option ((Int × (Int × (Int × (List Int)))) × Int) := seqK (normAt 0 m17A false (m17c [true, true, true, false, true, false, true])) (cutK M m17A (m17c [true, true, true, false, true, false, true]) fun s => evC (m17E k) M (m17I k) 0 m17A (m17c [true, true, true, false, true, false, true]) s (m17K7 M k)) (m17K7 M k)
noncomputable def m17K10 (M : Cut ((Int × (Int × (Int × (List Int)))) × Int)) (k : Nat) : Exit → St → Option ((Int × (Int × (Int × (List Int)))) × Int) := seqK (normAt 0 m17A false (m17c [true, true, true, true, true])) (cutK M m17A (m17c [true, true, true, true, true]) fun s => evC (m17E k) M (m17I k) 0 m17A (m17c [true, true, true, true, true]) s (retK Try.prog Try.f17 [.st (.pair (.int .i64) (.pair (.int .i64) (.pair (.int .i64) (.row (.int .u8))))), .leaf (.val (.int .i64))])) (retK Try.prog Try.f17 [.st (.pair (.int .i64) (.pair (.int .i64) (.pair (.int .i64) (.row (.int .u8))))), .leaf (.val (.int .i64))])
noncomputable def m17K11 (M : Cut ((Int × (Int × (Int × (List Int)))) × Int)) (k : Nat) : Exit → St → Option ((Int × (Int × (Int × (List Int)))) × Int) := seqK (normAt 0 m17A false (m17c [true, true, true, true, false, true])) (cutK M m17A (m17c [true, true, true, true, false, true]) fun s => evC (m17E k) M (m17I k) 0 m17A (m17c [true, true, true, true, false, true]) s (m17K10 M k)) (m17K10 M k)
noncomputable def m17K12 (M : Cut ((Int × (Int × (Int × (List Int)))) × Int)) (k : Nat) : Exit → St → Option ((Int × (Int × (Int × (List Int)))) × Int) := seqK (normAt 0 m17A false (m17c [true, true, true, true, false, true, false, true])) (cutK M m17A (m17c [true, true, true, true, false, true, false, true]) fun s => evC (m17E k) M (m17I k) 0 m17A (m17c [true, true, true, true, false, true, false, true]) s (m17K10 M k)) (m17K10 M k)
noncomputable def m17K13 (M : Cut ((Int × (Int × (Int × (List Int)))) × Int)) (k : Nat) : Exit → St → Option ((Int × (Int × (Int × (List Int)))) × Int) := seqK (normAt 0 m17A false (m17c [true, true, true, true, true, true])) (cutK M m17A (m17c [true, true, true, true, true, true]) fun s => evC (m17E k) M (m17I k) 0 m17A (m17c [true, true, true, true, true, true]) s (retK Try.prog Try.f17 [.st (.pair (.int .i64) (.pair (.int .i64) (.pair (.int .i64) (.row (.int .u8))))), .leaf (.val (.int .i64))])) (retK Try.prog Try.f17 [.st (.pair (.int .i64) (.pair (.int .i64) (.pair (.int .i64) (.row (.int .u8))))), .leaf (.val (.int .i64))])
noncomputable def m17K14 (M : Cut ((Int × (Int × (Int × (List Int)))) × Int)) (k : Nat) : Exit → St → Option ((Int × (Int × (Int × (List Int)))) × Int) := seqK (normAt 0 m17A false (m17c [true, true, true, true, true, false, true])) (cutK M m17A (m17c [true, true, true, true, true, false, true]) fun s => evC (m17E k) M (m17I k) 0 m17A (m17c [true, true, true, true, true, false, true]) s (m17K13 M k)) (m17K13 M k)
noncomputable def m17K15 (M : Cut ((Int × (Int × (Int × (List Int)))) × Int)) (k : Nat) : Exit → St → Option ((Int × (Int × (Int × (List Int)))) × Int) := seqK (normAt 0 m17A false (m17c [true, true, true, true, true, false, true, false, true])) (cutK M m17A (m17c [true, true, true, true, true, false, true, false, true]) fun s => evC (m17E k) M (m17I k) 0 m17A (m17c [true, true, true, true, true, false, true, false, true]) s (m17K13 M k)) (m17K13 M k)
noncomputable def m17K16 (M : Cut ((Int × (Int × (Int × (List Int)))) × Int)) (k : Nat) : Exit → St → Option ((Int × (Int × (Int × (List Int)))) × Int) := seqK (normAt 0 m17A false (m17c [true, true, true, true, true, true, true])) (cutK M m17A (m17c [true, true, true, true, true, true, true]) fun s => evC (m17E k) M (m17I k) 0 m17A (m17c [true, true, true, true, true, true, true]) s (retK Try.prog Try.f17 [.st (.pair (.int .i64) (.pair (.int .i64) (.pair (.int .i64) (.row (.int .u8))))), .leaf (.val (.int .i64))])) (retK Try.prog Try.f17 [.st (.pair (.int .i64) (.pair (.int .i64) (.pair (.int .i64) (.row (.int .u8))))), .leaf (.val (.int .i64))])

noncomputable def m17X (k : Nat) (p0 : (List Int)) : Option ((Int × (Int × (Int × (List Int)))) × Int) := (if ltI (↑(List.length p0) : Int) 12 = true then some (((0, 0, 0, []), 2)) else (if ltI 75 (↑(List.length p0) : Int) = true then some (((0, 0, 0, []), 2)) else (if leI 0 0 = true then (if ltI 0 (↑(List.length p0) : Int) = true then (if (!eqI (List.getD p0 0 0) 68) = true then some (((0, 0, 0, []), 12)) else (if leI 0 9 = true then (if leI 9 (↑(List.length p0) : Int) = true then (Option.bind (m22F k (List.take 9 p0)) fun (c3 : Int) => (if leI 0 11 = true then (if leI 11 (↑(List.length p0) : Int) = true then (if leI 0 9 = true then (if leI 9 11 = true then (Option.bind (m25F k (List.drop 9 (List.take 11 p0))) fun (c4 : Int) => (if (!eqI c3 c4) = true then some (((0, 0, 0, []), 4)) else (if leI 0 5 = true then (if leI 5 (↑(List.length p0) : Int) = true then (if leI 0 1 = true then (if leI 1 5 = true then (Option.bind (m25F k (List.drop 1 (List.take 5 p0))) fun (c5 : Int) => (if leI 1073741824 c5 = true then some (((0, 0, 0, []), 1)) else (if leI 0 8 = true then (if ltI 8 (↑(List.length p0) : Int) = true then (if (!eqI (wr IntKind.i64 (List.getD p0 8 0)) (wr IntKind.i64 ((↑(List.length p0) : Int) - 11))) = true then some (((0, 0, 0, []), 2)) else (if leI 0 5 = true then (if leI 5 (↑(List.length p0) : Int) = true then (if leI 0 1 = true then (if leI 1 5 = true then (Option.bind (m25F k (List.drop 1 (List.take 5 p0))) fun (c6 : Int) => (if leI 0 5 = true then (if ltI 5 (↑(List.length p0) : Int) = true then (if leI 0 8 = true then (if leI 8 (↑(List.length p0) : Int) = true then (if leI 0 6 = true then (if leI 6 8 = true then (Option.bind (m25F k (List.drop 6 (List.take 8 p0))) fun (c7 : Int) => (if leI 0 11 = true then (if leI 11 (↑(List.length p0) : Int) = true then (Option.bind (m9F k (List.drop 11 p0)) fun (c8 : (List Int)) => some (((c6, wr IntKind.i64 (List.getD p0 5 0), c7, c8), 0))) else none) else none)) else none) else none) else none) else none) else none) else none)) else none) else none) else none) else none)) else none) else none))) else none) else none) else none) else none))) else none) else none) else none) else none)) else none) else none)) else none) else none)))

theorem m17x (M : Cut ((Int × (Int × (Int × (List Int)))) × Int)) (k : Nat) (p0 : (List Int)) : evC (m17E k) M (m17I k) 0 m17A (m17c []) (stAt Try.f17 (argSs [.leaf (.val (.row (.int .u8)))] p0) (fun _ => none) 0) (retK Try.prog Try.f17 [.st (.pair (.int .i64) (.pair (.int .i64) (.pair (.int .i64) (.row (.int .u8))))), .leaf (.val (.int .i64))]) = m17X k p0 := by kernel_rfl

noncomputable def m17F (k : Nat) (p0 : (List Int)) : Option ((Int × (Int × (Int × (List Int)))) × Int) := m17X k p0

theorem m17q (k : Nat) (p0 : (List Int)) : evC (m17E k) (fun _ f => f) (m17I k) 0 m17A (m17c []) (stAt Try.f17 (argSs [.leaf (.val (.row (.int .u8)))] p0) (fun _ => none) 0) (retK Try.prog Try.f17 [.st (.pair (.int .i64) (.pair (.int .i64) (.pair (.int .i64) (.row (.int .u8))))), .leaf (.val (.int .i64))]) = m17F k p0 := by
    show _ = m17X k p0
    exact m17x (fun _ f => f) k p0

noncomputable def m17sp : Spec := { ps := [.leaf (.val (.row (.int .u8)))], rs := [.st (.pair (.int .i64) (.pair (.int .i64) (.pair (.int .i64) (.row (.int .u8))))), .leaf (.val (.int .i64))], f := fun k a => m17F k a }

theorem m17ok (k : Nat) : EnvOk (m17E k) := envOk_of (l := [(9, m9sp), (22, m22sp), (25, m25sp)]) (lB := []) progNames progMixed rfl rfl (.cons ⟨m9con k, Try.f9, by kernel_rfl, by kernel_rfl⟩ (.cons ⟨m22con k, Try.f22, by kernel_rfl, by kernel_rfl⟩ (.cons ⟨m25con k, Try.f25, by kernel_rfl, by kernel_rfl⟩ (.nil)))) (.nil)

theorem m17con (k : Nat) : Contract Try.prog k 17 m17sp := contract_of (E := m17E k) (m17ok k) (A := only 17 m17A) (d := 3) (c := m17c []) (by kernel_rfl) (by kernel_rfl) fun a _ h => (m17q k a).trans h

noncomputable def m18A : Anns := tabA [(3, { keep := [0, 2] })]
noncomputable def m18E (k : Nat) : Env := { P := Try.prog, k := k, G := tabG [], GB := tabGB [] }
noncomputable def m18c (p : List Bool) : Code := sub p (bodyOf Try.f18)
noncomputable def m18I (k : Nat) : Inl (List Int) := inlOf (m18E k) (only 18 m18A) 3
noncomputable def m18K0 (M : Cut (List Int)) (k : Nat) : Exit → St → Option (List Int) := seqK (normAt 1 m18A false (m18c [true])) (cutK M m18A (m18c [true]) fun s => evC (m18E k) M (m18I k) 1 m18A (m18c [true]) s (retB Try.prog Try.f18 (.int .u8) 5)) (retB Try.prog Try.f18 (.int .u8) 5)
noncomputable def m18K1 (M : Cut (List Int)) (k : Nat) : Exit → St → Option (List Int) := blockK 0 (retB Try.prog Try.f18 (.int .u8) 5)
noncomputable def m18K2 (M : Cut (List Int)) (k : Nat) (L3 : St → Option (List Int)) : Exit → St → Option (List Int) := seqK (normAt 1 m18A true (m18c [true, true, true])) L3 (m18K1 M k)
noncomputable def m18K3 (M : Cut (List Int)) (k : Nat) (L3 : St → Option (List Int)) : Exit → St → Option (List Int) := seqK (normAt 1 m18A false (m18c [true, true, true, true])) (cutK M m18A (m18c [true, true, true, true]) fun s => evC (m18E k) M (m18I k) 1 m18A (m18c [true, true, true, true]) s (m18K2 M k L3)) (m18K2 M k L3)
noncomputable def m18K4 (M : Cut (List Int)) (k : Nat) (L3 : St → Option (List Int)) : Exit → St → Option (List Int) := seqK (normAt 1 m18A false (m18c [true, true, true, false, true])) (cutK M m18A (m18c [true, true, true, false, true]) fun s => evC (m18E k) M (m18I k) 1 m18A (m18c [true, true, true, false, true]) s (m18K3 M k L3)) (m18K3 M k L3)
noncomputable def m18K5 (M : Cut (List Int)) (k : Nat) (L3 : St → Option (List Int)) : Exit → St → Option (List Int) := seqK (normAt 1 m18A false (m18c [true, true, true, true, true])) (cutK M m18A (m18c [true, true, true, true, true]) fun s => evC (m18E k) M (m18I k) 1 m18A (m18c [true, true, true, true, true]) s (m18K2 M k L3)) (m18K2 M k L3)
noncomputable def m18K6 (M : Cut (List Int)) (k : Nat) (L3 : St → Option (List Int)) : Exit → St → Option (List Int) := blockK 1 (m18K5 M k L3)
noncomputable def m18S3 (t0o : Nat) (t0n : Nat) (t2 : Int) (b0 : List Int) : St := { n := 17, tm := slots [(0, .sl 0 t0o t0n), (2, .int .i64 t2)], tab := blks [some (.row false (.int .u8) 5 b0)], nx := 1 }

noncomputable def m18X (X3 : Nat → Nat → Int → List Int → Option (List Int)) (k : Nat) (b0 : (List Int)) (o0 : Nat) (n0 : Nat) : Option (List Int) := X3 o0 n0 (0) b0

theorem m18x (M : Cut (List Int)) (k : Nat) (b0 : (List Int)) (o0 : Nat) (n0 : Nat) : evC (m18E k) M (m18I k) 1 m18A (m18c []) (stAt Try.f18 (.sl 0 o0 n0 :: argSs [] ()) (tabB (.int .u8) 5 b0) 1) (retB Try.prog Try.f18 (.int .u8) 5) = m18X (fun t0o' t0n' t2' b0' => loopN (normAt 1 m18A true (m18c [true, true, true])) (fun K s => evC (m18E k) M (m18I k) 1 m18A (m18c [true, true, true]) s K) (m18K1 M k) k (m18S3 t0o' t0n' t2' b0')) k b0 o0 n0 := by kernel_rfl

noncomputable def m18X3 (L3 : Nat → Nat → Int → List Int → Option (List Int)) (k : Nat) (t0o : Nat) (t0n : Nat) (t2 : Int) (b0 : List Int) : Option (List Int) := (if ltI t2 (↑t0n : Int) = true then (if leI 0 t2 = true then (if ltI t2 (↑t0n : Int) = true then (if leI 0 t2 = true then (if ltI t2 (↑t0n : Int) = true then L3 t0o t0n (wr IntKind.i64 (t2 + 1)) (List.set b0 (Int.toNat t2 + t0o) (wr IntKind.u8 (List.getD b0 (Int.toNat t2 + t0o) 0 + 101))) else none) else none) else none) else none) else some b0)

theorem m18x3 (M : Cut (List Int)) (k : Nat) (L3 : St → Option (List Int)) (t0o : Nat) (t0n : Nat) (t2 : Int) (b0 : List Int) : evC (m18E k) M (m18I k) 1 m18A (m18c [true, true, true]) (m18S3 t0o t0n t2 b0) (seqK (normAt 1 m18A true (m18c [true, true, true])) L3 (m18K1 M k)) = m18X3 (fun t0o' t0n' t2' b0' => L3 (m18S3 t0o' t0n' t2' b0')) k t0o t0n t2 b0 := by kernel_rfl

noncomputable def m18F3 (k : Nat) : Nat → Nat → Nat → Int → List Int → Option (List Int)
  | 0, _, _, _, _ => none
  | j + 1, t0o, t0n, t2, b0 => m18X3 (m18F3 k j) k t0o t0n t2 b0

theorem m18q3 (k : Nat) : ∀ (j : Nat) (t0o : Nat) (t0n : Nat) (t2 : Int) (b0 : List Int), loopN (normAt 1 m18A true (m18c [true, true, true])) (fun K s => evC (m18E k) (fun _ f => f) (m18I k) 1 m18A (m18c [true, true, true]) s K) (m18K1 (fun _ f => f) k) j (m18S3 t0o t0n t2 b0) = m18F3 k j t0o t0n t2 b0
  | 0, _, _, _, _ => rfl
  | j + 1, t0o, t0n, t2, b0 => by
    have e0 : m18F3 k j = (fun t0o' t0n' t2' b0' => loopN (normAt 1 m18A true (m18c [true, true, true])) (fun K s => evC (m18E k) (fun _ f => f) (m18I k) 1 m18A (m18c [true, true, true]) s K) (m18K1 (fun _ f => f) k) j (m18S3 t0o' t0n' t2' b0')) := funext fun t0o' => funext fun t0n' => funext fun t2' => funext fun b0' => (m18q3 k j t0o' t0n' t2' b0').symm
    show _ = m18X3 (m18F3 k j) k t0o t0n t2 b0
    rw [e0]
    exact m18x3 (fun _ f => f) k (loopN (normAt 1 m18A true (m18c [true, true, true])) (fun K s => evC (m18E k) (fun _ f => f) (m18I k) 1 m18A (m18c [true, true, true]) s K) (m18K1 (fun _ f => f) k) j) t0o t0n t2 b0

noncomputable def m18F (k : Nat) (b0 : (List Int)) (o0 : Nat) (n0 : Nat) : Option (List Int) := m18X (m18F3 k k) k b0 o0 n0

theorem m18q (k : Nat) (b0 : (List Int)) (o0 : Nat) (n0 : Nat) : evC (m18E k) (fun _ f => f) (m18I k) 1 m18A (m18c []) (stAt Try.f18 (.sl 0 o0 n0 :: argSs [] ()) (tabB (.int .u8) 5 b0) 1) (retB Try.prog Try.f18 (.int .u8) 5) = m18F k b0 o0 n0 := by
    have e3 : m18F3 k k = (fun t0o' t0n' t2' b0' => loopN (normAt 1 m18A true (m18c [true, true, true])) (fun K s => evC (m18E k) (fun _ f => f) (m18I k) 1 m18A (m18c [true, true, true]) s K) (m18K1 (fun _ f => f) k) k (m18S3 t0o' t0n' t2' b0')) := funext fun t0o' => funext fun t0n' => funext fun t2' => funext fun b0' => (m18q3 k k t0o' t0n' t2' b0').symm
    show _ = m18X (m18F3 k k) k b0 o0 n0
    rw [e3]
    exact m18x (fun _ f => f) k b0 o0 n0

noncomputable def m18sp : BSpec := { k := (.int .u8), T := 5, ps := [], f := fun k xs off len a => m18F k xs off len }

theorem m18ok (k : Nat) : EnvOk (m18E k) := envOk_of (l := []) (lB := []) progNames progMixed rfl rfl (.nil) (.nil)

theorem m18con (k : Nat) : ContractB Try.prog k 18 m18sp := contractB_of (E := m18E k) (m18ok k) (A := only 18 m18A) (d := 3) (c := m18c []) (by kernel_rfl) (by kernel_rfl) fun xs off len a _ h => (m18q k xs off len).trans h

end Go.Proofs.Ytnhghopkbbdebaa.Mini
