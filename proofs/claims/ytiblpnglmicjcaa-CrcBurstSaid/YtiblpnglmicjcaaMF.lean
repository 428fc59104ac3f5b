/- Printed by a program of this session's (MPrint, over wip/mini): plain functions of the program's, and that they are what it does. Lean checks it. -/
import Derived.Test.YtiblpnglmicjcaaXMO
import Derived.Test.YtiblpnglmicjcaaProg
import Derived.KernelRfl
set_option linter.unusedVariables false
namespace Go.Proofs.Ytiblpnglmicjcaa.Mini
open Go Go.RowKit Go.Proofs
theorem progNames : (Try.prog.funcs.all fun f => !(f.name == "runtime.NumGoroutine")) = true := by kernel_rfl
theorem progMixed : Try.prog.follows .mixedOrders = true := by kernel_rfl

noncomputable def m19A : Anns := tabA [(7, { keep := [1, 4], mat := [(1, (.int .i64), 3)] }), (15, { keep := [1, 3, 4, 9] }), (24, { keep := [1, 3, 4] })]
noncomputable def m19E (k : Nat) : Env := { P := Try.prog, k := k, G := tabG [] }
noncomputable def m19c (p : List Bool) : Code := sub p (bodyOf Try.f19)
noncomputable def m19I (k : Nat) : Inl (List Int) := inlOf (m19E k) (only 19 m19A) 3
noncomputable def m19K0 (M : Cut (List Int)) (k : Nat) : Exit → St → Option (List Int) := seqK (normAt 0 m19A false (m19c [true])) (cutK M m19A (m19c [true]) fun s => evC (m19E k) M (m19I k) 0 m19A (m19c [true]) s (retK Try.prog Try.f19 [.leaf (.own (.int .i64) 3)])) (retK Try.prog Try.f19 [.leaf (.own (.int .i64) 3)])
noncomputable def m19K1 (M : Cut (List Int)) (k : Nat) : Exit → St → Option (List Int) := seqK (normAt 0 m19A false (m19c [true, true])) (cutK M m19A (m19c [true, true]) fun s => evC (m19E k) M (m19I k) 0 m19A (m19c [true, true]) s (retK Try.prog Try.f19 [.leaf (.own (.int .i64) 3)])) (retK Try.prog Try.f19 [.leaf (.own (.int .i64) 3)])
noncomputable def m19K2 (M : Cut (List Int)) (k : Nat) : Exit → St → Option (List Int) := seqK (normAt 0 m19A false (m19c [true, true, true])) (cutK M m19A (m19c [true, true, true]) fun s => evC (m19E k) M (m19I k) 0 m19A (m19c [true, true, true]) s (retK Try.prog Try.f19 [.leaf (.own (.int .i64) 3)])) (retK Try.prog Try.f19 [.leaf (.own (.int .i64) 3)])
noncomputable def m19K3 (M : Cut (List Int)) (k : Nat) : Exit → St → Option (List Int) := seqK (normAt 0 m19A false (m19c [true, true, false, true])) (cutK M m19A (m19c [true, true, false, true]) fun s => evC (m19E k) M (m19I k) 0 m19A (m19c [true, true, false, true]) s (m19K2 M k)) (m19K2 M k)
noncomputable def m19K4 (M : Cut (List Int)) (k : Nat) : Exit → St → Option (List Int) := blockK 0 (m19K2 M k)
noncomputable def m19K5 (M : Cut (List Int)) (k : Nat) (L7 : St → Option (List Int)) : Exit → St → Option (List Int) := seqK (normAt 0 m19A true (m19c [true, true, false, true, true, true])) L7 (m19K4 M k)
noncomputable def m19K6 (M : Cut (List Int)) (k : Nat) (L7 : St → Option (List Int)) : Exit → St → Option (List Int) := seqK (normAt 0 m19A false (m19c [true, true, false, true, true, true, true])) (cutK M m19A (m19c [true, true, false, true, true, true, true]) fun s => evC (m19E k) M (m19I k) 0 m19A (m19c [true, true, false, true, true, true, true]) s (m19K5 M k L7)) (m19K5 M k L7)
noncomputable def m19K7 (M : Cut (List Int)) (k : Nat) (L7 : St → Option (List Int)) : Exit → St → Option (List Int) := seqK (normAt 0 m19A false (m19c [true, true, false, true, true, true, true, true])) (cutK M m19A (m19c [true, true, false, true, true, true, true, true]) fun s => evC (m19E k) M (m19I k) 0 m19A (m19c [true, true, false, true, true, true, true, true]) s (m19K5 M k L7)) (m19K5 M k L7)
noncomputable def m19K8 (M : Cut (List Int)) (k : Nat) (L7 : St → Option (List Int)) : Exit → St → Option (List Int) := seqK (normAt 0 m19A false (m19c [true, true, false, true, true, true, true, true, true])) (cutK M m19A (m19c [true, true, false, true, true, true, true, true, true]) fun s => evC (m19E k) M (m19I k) 0 m19A (m19c [true, true, false, true, true, true, true, true, true]) s (m19K5 M k L7)) (m19K5 M k L7)
noncomputable def m19K9 (M : Cut (List Int)) (k : Nat) (L7 : St → Option (List Int)) : Exit → St → Option (List Int) := blockK 1 (m19K8 M k L7)
noncomputable def m19K10 (M : Cut (List Int)) (k : Nat) (L7 : St → Option (List Int)) : Exit → St → Option (List Int) := seqK (normAt 0 m19A false (m19c [true, true, false, true, true, true, true, true, false, true, true])) (cutK M m19A (m19c [true, true, false, true, true, true, true, true, false, true, true]) fun s => evC (m19E k) M (m19I k) 0 m19A (m19c [true, true, false, true, true, true, true, true, false, true, true]) s (m19K9 M k L7)) (m19K9 M k L7)
noncomputable def m19K11 (M : Cut (List Int)) (k : Nat) (L7 : St → Option (List Int)) : Exit → St → Option (List Int) := seqK (normAt 0 m19A false (m19c [true, true, false, true, true, true, true, true, false, true, true, true])) (cutK M m19A (m19c [true, true, false, true, true, true, true, true, false, true, true, true]) fun s => evC (m19E k) M (m19I k) 0 m19A (m19c [true, true, false, true, true, true, true, true, false, true, true, true]) s (m19K9 M k L7)) (m19K9 M k L7)
noncomputable def m19K12 (M : Cut (List Int)) (k : Nat) (L7 : St → Option (List Int)) : Exit → St → Option (List Int) := seqK (normAt 0 m19A false (m19c [true, true, false, true, true, true, true, true, false, true, true, true, true])) (cutK M m19A (m19c [true, true, false, true, true, true, true, true, false, true, true, true, true]) fun s => evC (m19E k) M (m19I k) 0 m19A (m19c [true, true, false, true, true, true, true, true, false, true, true, true, true]) s (m19K9 M k L7)) (m19K9 M k L7)
noncomputable def m19K13 (M : Cut (List Int)) (k : Nat) (L7 : St → Option (List Int)) : Exit → St → Option (List Int) := seqK (normAt 0 m19A false (m19c [true, true, false, true, true, true, true, true, false, true, true, true, false, true])) (cutK M m19A (m19c [true, true, false, true, true, true, true, true, false, true, true, true, false, true]) fun s => evC (m19E k) M (m19I k) 0 m19A (m19c [true, true, false, true, true, true, true, true, false, true, true, true, false, true]) s (m19K12 M k L7)) (m19K12 M k L7)
noncomputable def m19K14 (M : Cut (List Int)) (k : Nat) (L7 : St → Option (List Int)) : Exit → St → Option (List Int) := blockK 2 (m19K12 M k L7)
noncomputable def m19K15 (M : Cut (List Int)) (k : Nat) (L7 : St → Option (List Int)) (L15 : St → Option (List Int)) : Exit → St → Option (List Int) := seqK (normAt 0 m19A true (m19c [true, true, false, true, true, true, true, true, false, true, true, true, false, true, true, true])) L15 (m19K14 M k L7)
noncomputable def m19K16 (M : Cut (List Int)) (k : Nat) (L7 : St → Option (List Int)) (L15 : St → Option (List Int)) : Exit → St → Option (List Int) := seqK (normAt 0 m19A false (m19c [true, true, false, true, true, true, true, true, false, true, true, true, false, true, true, true, true])) (cutK M m19A (m19c [true, true, false, true, true, true, true, true, false, true, true, true, false, true, true, true, true]) fun s => evC (m19E k) M (m19I k) 0 m19A (m19c [true, true, false, true, true, true, true, true, false, true, true, true, false, true, true, true, true]) s (m19K15 M k L7 L15)) (m19K15 M k L7 L15)
noncomputable def m19K17 (M : Cut (List Int)) (k : Nat) (L7 : St → Option (List Int)) (L15 : St → Option (List Int)) : Exit → St → Option (List Int) := seqK (normAt 0 m19A false (m19c [true, true, false, true, true, true, true, true, false, true, true, true, false, true, true, true, true, true])) (cutK M m19A (m19c [true, true, false, true, true, true, true, true, false, true, true, true, false, true, true, true, true, true]) fun s => evC (m19E k) M (m19I k) 0 m19A (m19c [true, true, false, true, true, true, true, true, false, true, true, true, false, true, true, true, true, true]) s (m19K15 M k L7 L15)) (m19K15 M k L7 L15)
noncomputable def m19K18 (M : Cut (List Int)) (k : Nat) (L7 : St → Option (List Int)) (L15 : St → Option (List Int)) : Exit → St → Option (List Int) := seqK (normAt 0 m19A false (m19c [true, true, false, true, true, true, true, true, false, true, true, true, false, true, true, true, true, true, true])) (cutK M m19A (m19c [true, true, false, true, true, true, true, true, false, true, true, true, false, true, true, true, true, true, true]) fun s => evC (m19E k) M (m19I k) 0 m19A (m19c [true, true, false, true, true, true, true, true, false, true, true, true, false, true, true, true, true, true, true]) s (m19K15 M k L7 L15)) (m19K15 M k L7 L15)
noncomputable def m19K19 (M : Cut (List Int)) (k : Nat) (L7 : St → Option (List Int)) (L15 : St → Option (List Int)) : Exit → St → Option (List Int) := blockK 3 (m19K18 M k L7 L15)
noncomputable def m19K20 (M : Cut (List Int)) (k : Nat) (L7 : St → Option (List Int)) (L15 : St → Option (List Int)) : Exit → St → Option (List Int) := seqK (normAt 0 m19A false (m19c [true, true, false, true, true, true, true, true, false, true, true, true, false, true, true, true, true, true, false, true, true])) (cutK M m19A (m19c [true, true, false, true, true, true, true, true, false, true, true, true, false, true, true, true, true, true, false, true, true]) fun s => evC (m19E k) M (m19I k) 0 m19A (m19c [true, true, false, true, true, true, true, true, false, true, true, true, false, true, true, true, true, true, false, true, true]) s (m19K19 M k L7 L15)) (m19K19 M k L7 L15)
noncomputable def m19K21 (M : Cut (List Int)) (k : Nat) (L7 : St → Option (List Int)) (L15 : St → Option (List Int)) : Exit → St → Option (List Int) := seqK (normAt 0 m19A false (m19c [true, true, false, true, true, true, true, true, false, true, true, true, false, true, true, true, true, true, false, true, true, true])) (cutK M m19A (m19c [true, true, false, true, true, true, true, true, false, true, true, true, false, true, true, true, true, true, false, true, true, true]) fun s => evC (m19E k) M (m19I k) 0 m19A (m19c [true, true, false, true, true, true, true, true, false, true, true, true, false, true, true, true, true, true, false, true, true, true]) s (m19K19 M k L7 L15)) (m19K19 M k L7 L15)
noncomputable def m19K22 (M : Cut (List Int)) (k : Nat) : Exit → St → Option (List Int) := seqK (normAt 0 m19A false (m19c [true, true, true, true])) (cutK M m19A (m19c [true, true, true, true]) fun s => evC (m19E k) M (m19I k) 0 m19A (m19c [true, true, true, true]) s (retK Try.prog Try.f19 [.leaf (.own (.int .i64) 3)])) (retK Try.prog Try.f19 [.leaf (.own (.int .i64) 3)])
noncomputable def m19S7 (t4 : Int) (b0 : List Int) : St := { n := 25, tm := slots [(1, .own 0), (4, .int .i64 t4)], tab := blks [some (.row true (.int .i64) 3 b0)], nx := 1 }
noncomputable def m19S15 (t3 : Int) (t4 : Int) (t9 : Int) (b0 : List Int) : St := { n := 25, tm := slots [(1, .own 0), (3, .int .i64 t3), (4, .int .i64 t4), (9, .int .i64 t9)], tab := blks [some (.row true (.int .i64) 3 b0)], nx := 1 }
noncomputable def m19S24 (t3 : Int) (t4 : Int) (b0 : List Int) : St := { n := 25, tm := slots [(1, .own 0), (3, .int .i64 t3), (4, .int .i64 t4)], tab := blks [some (.row true (.int .i64) 3 b0)], nx := 1 }

noncomputable def m19X (X7 : Int → List Int → Option (List Int)) (k : Nat) : Option (List Int) := X7 (0) ([])

theorem m19x (M : Cut (List Int)) (k : Nat) : evC (m19E k) M (m19I k) 0 m19A (m19c []) (stAt Try.f19 (argSs [] ()) (fun _ => none) 0) (retK Try.prog Try.f19 [.leaf (.own (.int .i64) 3)]) = m19X (fun t4' b0' => loopN (normAt 0 m19A true (m19c [true, true, false, true, true, true])) (fun K s => evC (m19E k) M (m19I k) 0 m19A (m19c [true, true, false, true, true, true]) s K) (m19K4 M k) k (m19S7 t4' b0')) k := by kernel_rfl

noncomputable def m19X7 (X15 : Int → Int → Int → List Int → Option (List Int)) (k : Nat) (t4 : Int) (b0 : List Int) : Option (List Int) := (if ltI t4 256 = true then (if leI 0 8 = true then X15 (wr IntKind.i64 (t4 * 256)) t4 (0) b0 else none) else some b0)

theorem m19x7 (M : Cut (List Int)) (k : Nat) (L7 : St → Option (List Int)) (t4 : Int) (b0 : List Int) : evC (m19E k) M (m19I k) 0 m19A (m19c [true, true, false, true, true, true]) (m19S7 t4 b0) (seqK (normAt 0 m19A true (m19c [true, true, false, true, true, true])) L7 (m19K4 M k)) = m19X7 (fun t3' t4' t9' b0' => loopN (normAt 0 m19A true (m19c [true, true, false, true, true, true, true, true, false, true, true, true, false, true, true, true])) (fun K s => evC (m19E k) M (m19I k) 0 m19A (m19c [true, true, false, true, true, true, true, true, false, true, true, true, false, true, true, true]) s K) (m19K14 M k L7) k (m19S15 t3' t4' t9' b0')) k t4 b0 := by kernel_rfl

noncomputable def m19X15 (X24 : Int → Int → List Int → Option (List Int)) (L15 : Int → Int → Int → List Int → Option (List Int)) (k : Nat) (t3 : Int) (t4 : Int) (t9 : Int) (b0 : List Int) : Option (List Int) := (if ltI t9 8 = true then (if leI 0 1 = true then (if ltI 65535 (wr IntKind.i64 (t3 * 2)) = true then L15 (bits BinOp.xor IntKind.i64 (bits BinOp.and IntKind.i64 (wr IntKind.i64 (t3 * 2)) 65535) 4129) t4 (wr IntKind.i64 (t9 + 1)) b0 else L15 (wr IntKind.i64 (t3 * 2)) t4 (wr IntKind.i64 (t9 + 1)) b0) else none) else X24 t3 t4 b0)

theorem m19x15 (M : Cut (List Int)) (k : Nat) (L7 : St → Option (List Int)) (L15 : St → Option (List Int)) (t3 : Int) (t4 : Int) (t9 : Int) (b0 : List Int) : evC (m19E k) M (m19I k) 0 m19A (m19c [true, true, false, true, true, true, true, true, false, true, true, true, false, true, true, true]) (m19S15 t3 t4 t9 b0) (seqK (normAt 0 m19A true (m19c [true, true, false, true, true, true, true, true, false, true, true, true, false, true, true, true])) L15 (m19K14 M k L7)) = m19X15 (fun t3' t4' b0' => M 24 (fun s => evC (m19E k) M (m19I k) 0 m19A (m19c [true, true, false, true, true, true, true, true, false, true, true, true, true]) s (m19K9 M k L7)) (m19S24 t3' t4' b0')) (fun t3' t4' t9' b0' => L15 (m19S15 t3' t4' t9' b0')) k t3 t4 t9 b0 := by kernel_rfl

noncomputable def m19X24 (L7 : Int → List Int → Option (List Int)) (k : Nat) (t3 : Int) (t4 : Int) (b0 : List Int) : Option (List Int) := (if leI (↑((List.length b0 + List.length (List.set (List.replicate 1 0) 0 t3)) * 8) : Int) 140737488355328 = true then L7 (wr IntKind.i64 (t4 + 1)) (b0 ++ List.set (List.replicate 1 0) 0 t3) else none)

theorem m19x24 (M : Cut (List Int)) (k : Nat) (L7 : St → Option (List Int)) (t3 : Int) (t4 : Int) (b0 : List Int) : evC (m19E k) M (m19I k) 0 m19A (m19c [true, true, false, true, true, true, true, true, false, true, true, true, true]) (m19S24 t3 t4 b0) (m19K9 M k L7) = m19X24 (fun t4' b0' => L7 (m19S7 t4' b0')) k t3 t4 b0 := by kernel_rfl

noncomputable def m19F24 (k : Nat) (L7 : Int → List Int → Option (List Int)) (t3 : Int) (t4 : Int) (b0 : List Int) : Option (List Int) := m19X24 L7 k t3 t4 b0

theorem m19q24 (k : Nat) (L7 : St → Option (List Int)) (t3 : Int) (t4 : Int) (b0 : List Int) : evC (m19E k) (fun _ f => f) (m19I k) 0 m19A (m19c [true, true, false, true, true, true, true, true, false, true, true, true, true]) (m19S24 t3 t4 b0) (m19K9 (fun _ f => f) k L7) = m19F24 k (fun t4' b0' => L7 (m19S7 t4' b0')) t3 t4 b0 := by
    show _ = m19X24 (fun t4' b0' => L7 (m19S7 t4' b0')) k t3 t4 b0
    exact m19x24 (fun _ f => f) k L7 t3 t4 b0

noncomputable def m19F15 (k : Nat) (L7 : Int → List Int → Option (List Int)) : Nat → Int → Int → Int → List Int → Option (List Int)
  | 0, _, _, _, _ => none
  | j + 1, t3, t4, t9, b0 => m19X15 (m19F24 k L7) (m19F15 k L7 j) k t3 t4 t9 b0

theorem m19q15 (k : Nat) (L7 : St → Option (List Int)) : ∀ (j : Nat) (t3 : Int) (t4 : Int) (t9 : Int) (b0 : List Int), loopN (normAt 0 m19A true (m19c [true, true, false, true, true, true, true, true, false, true, true, true, false, true, true, true])) (fun K s => evC (m19E k) (fun _ f => f) (m19I k) 0 m19A (m19c [true, true, false, true, true, true, true, true, false, true, true, true, false, true, true, true]) s K) (m19K14 (fun _ f => f) k L7) j (m19S15 t3 t4 t9 b0) = m19F15 k (fun t4' b0' => L7 (m19S7 t4' b0')) j t3 t4 t9 b0
  | 0, _, _, _, _ => rfl
  | j + 1, t3, t4, t9, b0 => by
    have e0 : m19F15 k (fun t4' b0' => L7 (m19S7 t4' b0')) j = (fun t3' t4' t9' b0' => loopN (normAt 0 m19A true (m19c [true, true, false, true, true, true, true, true, false, true, true, true, false, true, true, true])) (fun K s => evC (m19E k) (fun _ f => f) (m19I k) 0 m19A (m19c [true, true, false, true, true, true, true, true, false, true, true, true, false, true, true, true]) s K) (m19K14 (fun _ f => f) k L7) j (m19S15 t3' t4' t9' b0')) := funext fun t3' => funext fun t4' => funext fun t9' => funext fun b0' => (m19q15 k L7 j t3' t4' t9' b0').symm
    have e24 : m19F24 k (fun t4' b0' => L7 (m19S7 t4' b0')) = (fun t3' t4' b0' => evC (m19E k) (fun _ f => f) (m19I k) 0 m19A (m19c [true, true, false, true, true, true, true, true, false, true, true, true, true]) (m19S24 t3' t4' b0') (m19K9 (fun _ f => f) k L7)) := funext fun t3' => funext fun t4' => funext fun b0' => (m19q24 k L7 t3' t4' b0').symm
    show _ = m19X15 (m19F24 k (fun t4' b0' => L7 (m19S7 t4' b0'))) (m19F15 k (fun t4' b0' => L7 (m19S7 t4' b0')) j) k t3 t4 t9 b0
    rw [e0, e24]
    exact m19x15 (fun _ f => f) k L7 (loopN (normAt 0 m19A true (m19c [true, true, false, true, true, true, true, true, false, true, true, true, false, true, true, true])) (fun K s => evC (m19E k) (fun _ f => f) (m19I k) 0 m19A (m19c [true, true, false, true, true, true, true, true, false, true, true, true, false, true, true, true]) s K) (m19K14 (fun _ f => f) k L7) j) t3 t4 t9 b0

noncomputable def m19F7 (k : Nat) : Nat → Int → List Int → Option (List Int)
  | 0, _, _ => none
  | j + 1, t4, b0 => m19X7 (m19F15 k (m19F7 k j) k) k t4 b0

theorem m19q7 (k : Nat) : ∀ (j : Nat) (t4 : Int) (b0 : List Int), loopN (normAt 0 m19A true (m19c [true, true, false, true, true, true])) (fun K s => evC (m19E k) (fun _ f => f) (m19I k) 0 m19A (m19c [true, true, false, true, true, true]) s K) (m19K4 (fun _ f => f) k) j (m19S7 t4 b0) = m19F7 k j t4 b0
  | 0, _, _ => rfl
  | j + 1, t4, b0 => by
    have e0 : m19F7 k j = (fun t4' b0' => loopN (normAt 0 m19A true (m19c [true, true, false, true, true, true])) (fun K s => evC (m19E k) (fun _ f => f) (m19I k) 0 m19A (m19c [true, true, false, true, true, true]) s K) (m19K4 (fun _ f => f) k) j (m19S7 t4' b0')) := funext fun t4' => funext fun b0' => (m19q7 k j t4' b0').symm
    have e15 : m19F15 k (fun t4' b0' => loopN (normAt 0 m19A true (m19c [true, true, false, true, true, true])) (fun K s => evC (m19E k) (fun _ f => f) (m19I k) 0 m19A (m19c [true, true, false, true, true, true]) s K) (m19K4 (fun _ f => f) k) j (m19S7 t4' b0')) k = (fun t3' t4' t9' b0' => loopN (normAt 0 m19A true (m19c [true, true, false, true, true, true, true, true, false, true, true, true, false, true, true, true])) (fun K s => evC (m19E k) (fun _ f => f) (m19I k) 0 m19A (m19c [true, true, false, true, true, true, true, true, false, true, true, true, false, true, true, true]) s K) (m19K14 (fun _ f => f) k (loopN (normAt 0 m19A true (m19c [true, true, false, true, true, true])) (fun K s => evC (m19E k) (fun _ f => f) (m19I k) 0 m19A (m19c [true, true, false, true, true, true]) s K) (m19K4 (fun _ f => f) k) j)) k (m19S15 t3' t4' t9' b0')) := funext fun t3' => funext fun t4' => funext fun t9' => funext fun b0' => (m19q15 k (loopN (normAt 0 m19A true (m19c [true, true, false, true, true, true])) (fun K s => evC (m19E k) (fun _ f => f) (m19I k) 0 m19A (m19c [true, true, false, true, true, true]) s K) (m19K4 (fun _ f => f) k) j) k t3' t4' t9' b0').symm
    show _ = m19X7 (m19F15 k (m19F7 k j) k) k t4 b0
    rw [e0, e15]
    exact m19x7 (fun _ f => f) k (loopN (normAt 0 m19A true (m19c [true, true, false, true, true, true])) (fun K s => evC (m19E k) (fun _ f => f) (m19I k) 0 m19A (m19c [true, true, false, true, true, true]) s K) (m19K4 (fun _ f => f) k) j) t4 b0

noncomputable def m19F (k : Nat) : Option (List Int) := m19X (m19F7 k k) k

theorem m19q (k : Nat) : evC (m19E k) (fun _ f => f) (m19I k) 0 m19A (m19c []) (stAt Try.f19 (argSs [] ()) (fun _ => none) 0) (retK Try.prog Try.f19 [.leaf (.own (.int .i64) 3)]) = m19F k := by
    have e7 : m19F7 k k = (fun t4' b0' => loopN (normAt 0 m19A true (m19c [true, true, false, true, true, true])) (fun K s => evC (m19E k) (fun _ f => f) (m19I k) 0 m19A (m19c [true, true, false, true, true, true]) s K) (m19K4 (fun _ f => f) k) k (m19S7 t4' b0')) := funext fun t4' => funext fun b0' => (m19q7 k k t4' b0').symm
    show _ = m19X (m19F7 k k) k
    rw [e7]
    exact m19x (fun _ f => f) k

noncomputable def m19sp : Spec := { ps := [], rs := [.leaf (.own (.int .i64) 3)], f := fun k a => m19F k }

theorem m19ok (k : Nat) : EnvOk (m19E k) := envOk_of (l := []) progNames progMixed rfl (.nil)

theorem m19con (k : Nat) : Contract Try.prog k 19 m19sp := contract_of (E := m19E k) (m19ok k) (A := only 19 m19A) (d := 3) (c := m19c []) (by kernel_rfl) (by kernel_rfl) fun a _ h => (m19q k).trans h

noncomputable def m13A : Anns := tabA [(11, { keep := [4, 5, 12, 13, 14] }), (18, { keep := [5] })]
noncomputable def m13E (k : Nat) : Env := { P := Try.prog, k := k, G := tabG [(19, m19sp)] }
noncomputable def m13c (p : List Bool) : Code := sub p (bodyOf Try.f13)
noncomputable def m13I (k : Nat) : Inl (Int × Int) := inlOf (m13E k) (only 13 m13A) 3
noncomputable def m13K0 (M : Cut (Int × Int)) (k : Nat) : Exit → St → Option (Int × Int) := seqK (normAt 0 m13A false (m13c [true])) (cutK M m13A (m13c [true]) fun s => evC (m13E k) M (m13I k) 0 m13A (m13c [true]) s (retK Try.prog Try.f13 [.leaf (.val (.int .i64)), .leaf (.val (.int .i64))])) (retK Try.prog Try.f13 [.leaf (.val (.int .i64)), .leaf (.val (.int .i64))])
noncomputable def m13K1 (M : Cut (Int × Int)) (k : Nat) : Exit → St → Option (Int × Int) := seqK (normAt 0 m13A false (m13c [true, true])) (cutK M m13A (m13c [true, true]) fun s => evC (m13E k) M (m13I k) 0 m13A (m13c [true, true]) s (retK Try.prog Try.f13 [.leaf (.val (.int .i64)), .leaf (.val (.int .i64))])) (retK Try.prog Try.f13 [.leaf (.val (.int .i64)), .leaf (.val (.int .i64))])
noncomputable def m13K2 (M : Cut (Int × Int)) (k : Nat) : Exit → St → Option (Int × Int) := seqK (normAt 0 m13A false (m13c [true, false, true])) (cutK M m13A (m13c [true, false, true]) fun s => evC (m13E k) M (m13I k) 0 m13A (m13c [true, false, true]) s (m13K1 M k)) (m13K1 M k)
noncomputable def m13K3 (M : Cut (Int × Int)) (k : Nat) : Exit → St → Option (Int × Int) := seqK (normAt 0 m13A false (m13c [true, false, true, false, true])) (cutK M m13A (m13c [true, false, true, false, true]) fun s => evC (m13E k) M (m13I k) 0 m13A (m13c [true, false, true, false, true]) s (m13K1 M k)) (m13K1 M k)
noncomputable def m13K4 (M : Cut (Int × Int)) (k : Nat) : Exit → St → Option (Int × Int) := seqK (normAt 0 m13A false (m13c [true, true, true])) (cutK M m13A (m13c [true, true, true]) fun s => evC (m13E k) M (m13I k) 0 m13A (m13c [true, true, true]) s (retK Try.prog Try.f13 [.leaf (.val (.int .i64)), .leaf (.val (.int .i64))])) (retK Try.prog Try.f13 [.leaf (.val (.int .i64)), .leaf (.val (.int .i64))])
noncomputable def m13K5 (M : Cut (Int × Int)) (k : Nat) : Exit → St → Option (Int × Int) := seqK (normAt 0 m13A false (m13c [true, true, true, true])) (cutK M m13A (m13c [true, true, true, true]) fun s => evC (m13E k) M (m13I k) 0 m13A (m13c [true, true, true, true]) s (retK Try.prog Try.f13 [.leaf (.val (.int .i64)), .leaf (.val (.int .i64))])) (retK Try.prog Try.f13 [.leaf (.val (.int .i64)), .leaf (.val (.int .i64))])
noncomputable def m13K6 (M : Cut (Int × Int)) (k : Nat) : Exit → St → Option (Int × Int) := seqK (normAt 0 m13A false (m13c [true, true, true, false, true])) (cutK M m13A (m13c [true, true, true, false, true]) fun s => evC (m13E k) M (m13I k) 0 m13A (m13c [true, true, true, false, true]) s (m13K5 M k)) (m13K5 M k)
noncomputable def m13K7 (M : Cut (Int × Int)) (k : Nat) : Exit → St → Option (Int × Int) := blockK 0 (m13K5 M k)
noncomputable def m13K8 (M : Cut (Int × Int)) (k : Nat) (L11 : St → Option (Int × Int)) : Exit → St → Option (Int × Int) := seqK (normAt 0 m13A true (m13c [true, true, true, false, true, true, true])) L11 (m13K7 M k)
noncomputable def m13K9 (M : Cut (Int × Int)) (k : Nat) (L11 : St → Option (Int × Int)) : Exit → St → Option (Int × Int) := seqK (normAt 0 m13A false (m13c [true, true, true, false, true, true, true, true])) (cutK M m13A (m13c [true, true, true, false, true, true, true, true]) fun s => evC (m13E k) M (m13I k) 0 m13A (m13c [true, true, true, false, true, true, true, true]) s (m13K8 M k L11)) (m13K8 M k L11)
noncomputable def m13K10 (M : Cut (Int × Int)) (k : Nat) (L11 : St → Option (Int × Int)) : Exit → St → Option (Int × Int) := seqK (normAt 0 m13A false (m13c [true, true, true, false, true, true, true, true, true])) (cutK M m13A (m13c [true, true, true, false, true, true, true, true, true]) fun s => evC (m13E k) M (m13I k) 0 m13A (m13c [true, true, true, false, true, true, true, true, true]) s (m13K8 M k L11)) (m13K8 M k L11)
noncomputable def m13K11 (M : Cut (Int × Int)) (k : Nat) (L11 : St → Option (Int × Int)) : Exit → St → Option (Int × Int) := seqK (normAt 0 m13A false (m13c [true, true, true, false, true, true, true, true, true, true])) (cutK M m13A (m13c [true, true, true, false, true, true, true, true, true, true]) fun s => evC (m13E k) M (m13I k) 0 m13A (m13c [true, true, true, false, true, true, true, true, true, true]) s (m13K8 M k L11)) (m13K8 M k L11)
noncomputable def m13K12 (M : Cut (Int × Int)) (k : Nat) (L11 : St → Option (Int × Int)) : Exit → St → Option (Int × Int) := blockK 1 (m13K11 M k L11)
noncomputable def m13K13 (M : Cut (Int × Int)) (k : Nat) (L11 : St → Option (Int × Int)) : Exit → St → Option (Int × Int) := seqK (normAt 0 m13A false (m13c [true, true, true, false, true, true, true, true, true, false, true, true])) (cutK M m13A (m13c [true, true, true, false, true, true, true, true, true, false, true, true]) fun s => evC (m13E k) M (m13I k) 0 m13A (m13c [true, true, true, false, true, true, true, true, true, false, true, true]) s (m13K12 M k L11)) (m13K12 M k L11)
noncomputable def m13K14 (M : Cut (Int × Int)) (k : Nat) : Exit → St → Option (Int × Int) := seqK (normAt 0 m13A false (m13c [true, true, true, true, true])) (cutK M m13A (m13c [true, true, true, true, true]) fun s => evC (m13E k) M (m13I k) 0 m13A (m13c [true, true, true, true, true]) s (retK Try.prog Try.f13 [.leaf (.val (.int .i64)), .leaf (.val (.int .i64))])) (retK Try.prog Try.f13 [.leaf (.val (.int .i64)), .leaf (.val (.int .i64))])
noncomputable def m13S11 (t5 : Int) (t12 : List Int) (t13 : Int) (t14 : Int) (b0 : List Int) : St := { n := 32, tm := slots [(4, .own 0), (5, .int .i64 t5), (12, .row (.int .u8) t12), (13, .int .i64 t13), (14, .int .i64 t14)], tab := blks [some (.row true (.int .i64) 3 b0)], nx := 1 }
noncomputable def m13S18 (t5 : Int) : St := { n := 32, tm := slots [(5, .int .i64 t5)], tab := blks [], nx := 0 }

noncomputable def m13X (X11 : Int → List Int → Int → Int → List Int → Option (Int × Int)) (k : Nat) (p0 : (List Int)) : Option (Int × Int) := (if ltI 4096 (↑(List.length p0) : Int) = true then some ((0, 2)) else (Option.bind (m19F k) fun (c3 : (List Int)) => X11 (65535) p0 ((↑(List.length p0) : Int)) (0) c3))

theorem m13x (M : Cut (Int × Int)) (k : Nat) (p0 : (List Int)) : evC (m13E k) M (m13I k) 0 m13A (m13c []) (stAt Try.f13 (argSs [.leaf (.val (.row (.int .u8)))] p0) (fun _ => none) 0) (retK Try.prog Try.f13 [.leaf (.val (.int .i64)), .leaf (.val (.int .i64))]) = m13X (fun t5' t12' t13' t14' b0' => loopN (normAt 0 m13A true (m13c [true, true, true, false, true, true, true])) (fun K s => evC (m13E k) M (m13I k) 0 m13A (m13c [true, true, true, false, true, true, true]) s K) (m13K7 M k) k (m13S11 t5' t12' t13' t14' b0')) k p0 := by kernel_rfl

noncomputable def m13X11 (X18 : Int → Option (Int × Int)) (L11 : Int → List Int → Int → Int → List Int → Option (Int × Int)) (k : Nat) (t5 : Int) (t12 : List Int) (t13 : Int) (t14 : Int) (b0 : List Int) : Option (Int × Int) := (if ltI t14 t13 = true then (if leI 0 t14 = true then (if ltI t14 (↑(List.length t12) : Int) = true then (if leI 0 8 = true then (if leI 0 8 = true then (if leI 0 (bits BinOp.xor IntKind.i64 (t5 / 256) (wr IntKind.i64 (List.getD t12 (Int.toNat t14) 0))) = true then (if ltI (bits BinOp.xor IntKind.i64 (t5 / 256) (wr IntKind.i64 (List.getD t12 (Int.toNat t14) 0)))
    (↑(List.length b0) : Int) =
  true then L11 (bits BinOp.xor IntKind.i64 (bits BinOp.and IntKind.i64 (wr IntKind.i64 (t5 * 256)) 65535)
  (List.getD b0 (Int.toNat (bits BinOp.xor IntKind.i64 (t5 / 256) (wr IntKind.i64 (List.getD t12 (Int.toNat t14) 0))))
    0)) t12 t13 (wr IntKind.i64 (t14 + 1)) b0 else none) else none) else none) else none) else none) else none) else X18 t5)

theorem m13x11 (M : Cut (Int × Int)) (k : Nat) (L11 : St → Option (Int × Int)) (t5 : Int) (t12 : List Int) (t13 : Int) (t14 : Int) (b0 : List Int) : evC (m13E k) M (m13I k) 0 m13A (m13c [true, true, true, false, true, true, true]) (m13S11 t5 t12 t13 t14 b0) (seqK (normAt 0 m13A true (m13c [true, true, true, false, true, true, true])) L11 (m13K7 M k)) = m13X11 (fun t5' => M 18 (fun s => evC (m13E k) M (m13I k) 0 m13A (m13c [true, true, true, true]) s (retK Try.prog Try.f13 [.leaf (.val (.int .i64)), .leaf (.val (.int .i64))])) (m13S18 t5')) (fun t5' t12' t13' t14' b0' => L11 (m13S11 t5' t12' t13' t14' b0')) k t5 t12 t13 t14 b0 := by kernel_rfl

noncomputable def m13X18 (k : Nat) (t5 : Int) : Option (Int × Int) := some ((t5, 0))

theorem m13x18 (M : Cut (Int × Int)) (k : Nat) (t5 : Int) : evC (m13E k) M (m13I k) 0 m13A (m13c [true, true, true, true]) (m13S18 t5) (retK Try.prog Try.f13 [.leaf (.val (.int .i64)), .leaf (.val (.int .i64))]) = m13X18 k t5 := by kernel_rfl

noncomputable def m13F18 (k : Nat) (t5 : Int) : Option (Int × Int) := m13X18 k t5

theorem m13q18 (k : Nat) (t5 : Int) : evC (m13E k) (fun _ f => f) (m13I k) 0 m13A (m13c [true, true, true, true]) (m13S18 t5) (retK Try.prog Try.f13 [.leaf (.val (.int .i64)), .leaf (.val (.int .i64))]) = m13F18 k t5 := by
    show _ = m13X18 k t5
    exact m13x18 (fun _ f => f) k t5

noncomputable def m13F11 (k : Nat) : Nat → Int → List Int → Int → Int → List Int → Option (Int × Int)
  | 0, _, _, _, _, _ => none
  | j + 1, t5, t12, t13, t14, b0 => m13X11 (m13F18 k) (m13F11 k j) k t5 t12 t13 t14 b0

theorem m13q11 (k : Nat) : ∀ (j : Nat) (t5 : Int) (t12 : List Int) (t13 : Int) (t14 : Int) (b0 : List Int), loopN (normAt 0 m13A true (m13c [true, true, true, false, true, true, true])) (fun K s => evC (m13E k) (fun _ f => f) (m13I k) 0 m13A (m13c [true, true, true, false, true, true, true]) s K) (m13K7 (fun _ f => f) k) j (m13S11 t5 t12 t13 t14 b0) = m13F11 k j t5 t12 t13 t14 b0
  | 0, _, _, _, _, _ => rfl
  | j + 1, t5, t12, t13, t14, b0 => by
    have e0 : m13F11 k j = (fun t5' t12' t13' t14' b0' => loopN (normAt 0 m13A true (m13c [true, true, true, false, true, true, true])) (fun K s => evC (m13E k) (fun _ f => f) (m13I k) 0 m13A (m13c [true, true, true, false, true, true, true]) s K) (m13K7 (fun _ f => f) k) j (m13S11 t5' t12' t13' t14' b0')) := funext fun t5' => funext fun t12' => funext fun t13' => funext fun t14' => funext fun b0' => (m13q11 k j t5' t12' t13' t14' b0').symm
    have e18 : m13F18 k = (fun t5' => evC (m13E k) (fun _ f => f) (m13I k) 0 m13A (m13c [true, true, true, true]) (m13S18 t5') (retK Try.prog Try.f13 [.leaf (.val (.int .i64)), .leaf (.val (.int .i64))])) := funext fun t5' => (m13q18 k t5').symm
    show _ = m13X11 (m13F18 k) (m13F11 k j) k t5 t12 t13 t14 b0
    rw [e0, e18]
    exact m13x11 (fun _ f => f) k (loopN (normAt 0 m13A true (m13c [true, true, true, false, true, true, true])) (fun K s => evC (m13E k) (fun _ f => f) (m13I k) 0 m13A (m13c [true, true, true, false, true, true, true]) s K) (m13K7 (fun _ f => f) k) j) t5 t12 t13 t14 b0

noncomputable def m13F (k : Nat) (p0 : (List Int)) : Option (Int × Int) := m13X (m13F11 k k) k p0

theorem m13q (k : Nat) (p0 : (List Int)) : evC (m13E k) (fun _ f => f) (m13I k) 0 m13A (m13c []) (stAt Try.f13 (argSs [.leaf (.val (.row (.int .u8)))] p0) (fun _ => none) 0) (retK Try.prog Try.f13 [.leaf (.val (.int .i64)), .leaf (.val (.int .i64))]) = m13F k p0 := by
    have e11 : m13F11 k k = (fun t5' t12' t13' t14' b0' => loopN (normAt 0 m13A true (m13c [true, true, true, false, true, true, true])) (fun K s => evC (m13E k) (fun _ f => f) (m13I k) 0 m13A (m13c [true, true, true, false, true, true, true]) s K) (m13K7 (fun _ f => f) k) k (m13S11 t5' t12' t13' t14' b0')) := funext fun t5' => funext fun t12' => funext fun t13' => funext fun t14' => funext fun b0' => (m13q11 k k t5' t12' t13' t14' b0').symm
    show _ = m13X (m13F11 k k) k p0
    rw [e11]
    exact m13x (fun _ f => f) k p0

noncomputable def m13sp : Spec := { ps := [.leaf (.val (.row (.int .u8)))], rs := [.leaf (.val (.int .i64)), .leaf (.val (.int .i64))], f := fun k a => m13F k a }

theorem m13ok (k : Nat) : EnvOk (m13E k) := envOk_of (l := [(19, m19sp)]) progNames progMixed rfl (.cons ⟨m19con k, Try.f19, by kernel_rfl, by kernel_rfl⟩ (.nil))

theorem m13con (k : Nat) : Contract Try.prog k 13 m13sp := contract_of (E := m13E k) (m13ok k) (A := only 13 m13A) (d := 3) (c := m13c []) (by kernel_rfl) (by kernel_rfl) fun a _ h => (m13q k a).trans h

noncomputable def m20A : Anns := tabA [(7, { keep := [1, 5], mat := [(1, (.int .i64), 3)] }), (15, { keep := [1, 3, 5, 9] }), (26, { keep := [1, 3, 5] })]
noncomputable def m20E (k : Nat) : Env := { P := Try.prog, k := k, G := tabG [] }
noncomputable def m20c (p : List Bool) : Code := sub p (bodyOf Try.f20)
noncomputable def m20I (k : Nat) : Inl (List Int) := inlOf (m20E k) (only 20 m20A) 3
noncomputable def m20K0 (M : Cut (List Int)) (k : Nat) : Exit → St → Option (List Int) := seqK (normAt 0 m20A false (m20c [true])) (cutK M m20A (m20c [true]) fun s => evC (m20E k) M (m20I k) 0 m20A (m20c [true]) s (retK Try.prog Try.f20 [.leaf (.own (.int .i64) 3)])) (retK Try.prog Try.f20 [.leaf (.own (.int .i64) 3)])
noncomputable def m20K1 (M : Cut (List Int)) (k : Nat) : Exit → St → Option (List Int) := seqK (normAt 0 m20A false (m20c [true, true])) (cutK M m20A (m20c [true, true]) fun s => evC (m20E k) M (m20I k) 0 m20A (m20c [true, true]) s (retK Try.prog Try.f20 [.leaf (.own (.int .i64) 3)])) (retK Try.prog Try.f20 [.leaf (.own (.int .i64) 3)])
noncomputable def m20K2 (M : Cut (List Int)) (k : Nat) : Exit → St → Option (List Int) := seqK (normAt 0 m20A false (m20c [true, true, true])) (cutK M m20A (m20c [true, true, true]) fun s => evC (m20E k) M (m20I k) 0 m20A (m20c [true, true, true]) s (retK Try.prog Try.f20 [.leaf (.own (.int .i64) 3)])) (retK Try.prog Try.f20 [.leaf (.own (.int .i64) 3)])
noncomputable def m20K3 (M : Cut (List Int)) (k : Nat) : Exit → St → Option (List Int) := seqK (normAt 0 m20A false (m20c [true, true, false, true])) (cutK M m20A (m20c [true, true, false, true]) fun s => evC (m20E k) M (m20I k) 0 m20A (m20c [true, true, false, true]) s (m20K2 M k)) (m20K2 M k)
noncomputable def m20K4 (M : Cut (List Int)) (k : Nat) : Exit → St → Option (List Int) := blockK 0 (m20K2 M k)
noncomputable def m20K5 (M : Cut (List Int)) (k : Nat) (L7 : St → Option (List Int)) : Exit → St → Option (List Int) := seqK (normAt 0 m20A true (m20c [true, true, false, true, true, true])) L7 (m20K4 M k)
noncomputable def m20K6 (M : Cut (List Int)) (k : Nat) (L7 : St → Option (List Int)) : Exit → St → Option (List Int) := seqK (normAt 0 m20A false (m20c [true, true, false, true, true, true, true])) (cutK M m20A (m20c [true, true, false, true, true, true, true]) fun s => evC (m20E k) M (m20I k) 0 m20A (m20c [true, true, false, true, true, true, true]) s (m20K5 M k L7)) (m20K5 M k L7)
noncomputable def m20K7 (M : Cut (List Int)) (k : Nat) (L7 : St → Option (List Int)) : Exit → St → Option (List Int) := seqK (normAt 0 m20A false (m20c [true, true, false, true, true, true, true, true])) (cutK M m20A (m20c [true, true, false, true, true, true, true, true]) fun s => evC (m20E k) M (m20I k) 0 m20A (m20c [true, true, false, true, true, true, true, true]) s (m20K5 M k L7)) (m20K5 M k L7)
noncomputable def m20K8 (M : Cut (List Int)) (k : Nat) (L7 : St → Option (List Int)) : Exit → St → Option (List Int) := seqK (normAt 0 m20A false (m20c [true, true, false, true, true, true, true, true, true])) (cutK M m20A (m20c [true, true, false, true, true, true, true, true, true]) fun s => evC (m20E k) M (m20I k) 0 m20A (m20c [true, true, false, true, true, true, true, true, true]) s (m20K5 M k L7)) (m20K5 M k L7)
noncomputable def m20K9 (M : Cut (List Int)) (k : Nat) (L7 : St → Option (List Int)) : Exit → St → Option (List Int) := blockK 1 (m20K8 M k L7)
noncomputable def m20K10 (M : Cut (List Int)) (k : Nat) (L7 : St → Option (List Int)) : Exit → St → Option (List Int) := seqK (normAt 0 m20A false (m20c [true, true, false, true, true, true, true, true, false, true, true])) (cutK M m20A (m20c [true, true, false, true, true, true, true, true, false, true, true]) fun s => evC (m20E k) M (m20I k) 0 m20A (m20c [true, true, false, true, true, true, true, true, false, true, true]) s (m20K9 M k L7)) (m20K9 M k L7)
noncomputable def m20K11 (M : Cut (List Int)) (k : Nat) (L7 : St → Option (List Int)) : Exit → St → Option (List Int) := seqK (normAt 0 m20A false (m20c [true, true, false, true, true, true, true, true, false, true, true, true])) (cutK M m20A (m20c [true, true, false, true, true, true, true, true, false, true, true, true]) fun s => evC (m20E k) M (m20I k) 0 m20A (m20c [true, true, false, true, true, true, true, true, false, true, true, true]) s (m20K9 M k L7)) (m20K9 M k L7)
noncomputable def m20K12 (M : Cut (List Int)) (k : Nat) (L7 : St → Option (List Int)) : Exit → St → Option (List Int) := seqK (normAt 0 m20A false (m20c [true, true, false, true, true, true, true, true, false, true, true, true, true])) (cutK M m20A (m20c [true, true, false, true, true, true, true, true, false, true, true, true, true]) fun s => evC (m20E k) M (m20I k) 0 m20A (m20c [true, true, false, true, true, true, true, true, false, true, true, true, true]) s (m20K9 M k L7)) (m20K9 M k L7)
noncomputable def m20K13 (M : Cut (List Int)) (k : Nat) (L7 : St → Option (List Int)) : Exit → St → Option (List Int) := seqK (normAt 0 m20A false (m20c [true, true, false, true, true, true, true, true, false, true, true, true, false, true])) (cutK M m20A (m20c [true, true, false, true, true, true, true, true, false, true, true, true, false, true]) fun s => evC (m20E k) M (m20I k) 0 m20A (m20c [true, true, false, true, true, true, true, true, false, true, true, true, false, true]) s (m20K12 M k L7)) (m20K12 M k L7)
noncomputable def m20K14 (M : Cut (List Int)) (k : Nat) (L7 : St → Option (List Int)) : Exit → St → Option (List Int) := blockK 2 (m20K12 M k L7)
noncomputable def m20K15 (M : Cut (List Int)) (k : Nat) (L7 : St → Option (List Int)) (L15 : St → Option (List Int)) : Exit → St → Option (List Int) := seqK (normAt 0 m20A true (m20c [true, true, false, true, true, true, true, true, false, true, true, true, false, true, true, true])) L15 (m20K14 M k L7)
noncomputable def m20K16 (M : Cut (List Int)) (k : Nat) (L7 : St → Option (List Int)) (L15 : St → Option (List Int)) : Exit → St → Option (List Int) := seqK (normAt 0 m20A false (m20c [true, true, false, true, true, true, true, true, false, true, true, true, false, true, true, true, true])) (cutK M m20A (m20c [true, true, false, true, true, true, true, true, false, true, true, true, false, true, true, true, true]) fun s => evC (m20E k) M (m20I k) 0 m20A (m20c [true, true, false, true, true, true, true, true, false, true, true, true, false, true, true, true, true]) s (m20K15 M k L7 L15)) (m20K15 M k L7 L15)
noncomputable def m20K17 (M : Cut (List Int)) (k : Nat) (L7 : St → Option (List Int)) (L15 : St → Option (List Int)) : Exit → St → Option (List Int) := seqK (normAt 0 m20A false (m20c [true, true, false, true, true, true, true, true, false, true, true, true, false, true, true, true, true, true])) (cutK M m20A (m20c [true, true, false, true, true, true, true, true, false, true, true, true, false, true, true, true, true, true]) fun s => evC (m20E k) M (m20I k) 0 m20A (m20c [true, true, false, true, true, true, true, true, false, true, true, true, false, true, true, true, true, true]) s (m20K15 M k L7 L15)) (m20K15 M k L7 L15)
noncomputable def m20K18 (M : Cut (List Int)) (k : Nat) (L7 : St → Option (List Int)) (L15 : St → Option (List Int)) : Exit → St → Option (List Int) := seqK (normAt 0 m20A false (m20c [true, true, false, true, true, true, true, true, false, true, true, true, false, true, true, true, true, true, true])) (cutK M m20A (m20c [true, true, false, true, true, true, true, true, false, true, true, true, false, true, true, true, true, true, true]) fun s => evC (m20E k) M (m20I k) 0 m20A (m20c [true, true, false, true, true, true, true, true, false, true, true, true, false, true, true, true, true, true, true]) s (m20K15 M k L7 L15)) (m20K15 M k L7 L15)
noncomputable def m20K19 (M : Cut (List Int)) (k : Nat) (L7 : St → Option (List Int)) (L15 : St → Option (List Int)) : Exit → St → Option (List Int) := blockK 3 (m20K18 M k L7 L15)
noncomputable def m20K20 (M : Cut (List Int)) (k : Nat) (L7 : St → Option (List Int)) (L15 : St → Option (List Int)) : Exit → St → Option (List Int) := seqK (normAt 0 m20A false (m20c [true, true, false, true, true, true, true, true, false, true, true, true, false, true, true, true, true, true, false, true, true])) (cutK M m20A (m20c [true, true, false, true, true, true, true, true, false, true, true, true, false, true, true, true, true, true, false, true, true]) fun s => evC (m20E k) M (m20I k) 0 m20A (m20c [true, true, false, true, true, true, true, true, false, true, true, true, false, true, true, true, true, true, false, true, true]) s (m20K19 M k L7 L15)) (m20K19 M k L7 L15)
noncomputable def m20K21 (M : Cut (List Int)) (k : Nat) (L7 : St → Option (List Int)) (L15 : St → Option (List Int)) : Exit → St → Option (List Int) := seqK (normAt 0 m20A false (m20c [true, true, false, true, true, true, true, true, false, true, true, true, false, true, true, true, true, true, false, true, true, true])) (cutK M m20A (m20c [true, true, false, true, true, true, true, true, false, true, true, true, false, true, true, true, true, true, false, true, true, true]) fun s => evC (m20E k) M (m20I k) 0 m20A (m20c [true, true, false, true, true, true, true, true, false, true, true, true, false, true, true, true, true, true, false, true, true, true]) s (m20K19 M k L7 L15)) (m20K19 M k L7 L15)
noncomputable def m20K22 (M : Cut (List Int)) (k : Nat) (L7 : St → Option (List Int)) (L15 : St → Option (List Int)) : Exit → St → Option (List Int) := seqK (normAt 0 m20A false (m20c [true, true, false, true, true, true, true, true, false, true, true, true, false, true, true, true, true, true, false, true, true, true, true])) (cutK M m20A (m20c [true, true, false, true, true, true, true, true, false, true, true, true, false, true, true, true, true, true, false, true, true, true, true]) fun s => evC (m20E k) M (m20I k) 0 m20A (m20c [true, true, false, true, true, true, true, true, false, true, true, true, false, true, true, true, true, true, false, true, true, true, true]) s (m20K19 M k L7 L15)) (m20K19 M k L7 L15)
noncomputable def m20K23 (M : Cut (List Int)) (k : Nat) : Exit → St → Option (List Int) := seqK (normAt 0 m20A false (m20c [true, true, true, true])) (cutK M m20A (m20c [true, true, true, true]) fun s => evC (m20E k) M (m20I k) 0 m20A (m20c [true, true, true, true]) s (retK Try.prog Try.f20 [.leaf (.own (.int .i64) 3)])) (retK Try.prog Try.f20 [.leaf (.own (.int .i64) 3)])
noncomputable def m20S7 (t5 : Int) (b0 : List Int) : St := { n := 26, tm := slots [(1, .own 0), (5, .int .i64 t5)], tab := blks [some (.row true (.int .i64) 3 b0)], nx := 1 }
noncomputable def m20S15 (t3 : Int) (t5 : Int) (t9 : Int) (b0 : List Int) : St := { n := 26, tm := slots [(1, .own 0), (3, .int .i64 t3), (5, .int .i64 t5), (9, .int .i64 t9)], tab := blks [some (.row true (.int .i64) 3 b0)], nx := 1 }
noncomputable def m20S26 (t3 : Int) (t5 : Int) (b0 : List Int) : St := { n := 26, tm := slots [(1, .own 0), (3, .int .i64 t3), (5, .int .i64 t5)], tab := blks [some (.row true (.int .i64) 3 b0)], nx := 1 }

noncomputable def m20X (X7 : Int → List Int → Option (List Int)) (k : Nat) : Option (List Int) := X7 (0) ([])

theorem m20x (M : Cut (List Int)) (k : Nat) : evC (m20E k) M (m20I k) 0 m20A (m20c []) (stAt Try.f20 (argSs [] ()) (fun _ => none) 0) (retK Try.prog Try.f20 [.leaf (.own (.int .i64) 3)]) = m20X (fun t5' b0' => loopN (normAt 0 m20A true (m20c [true, true, false, true, true, true])) (fun K s => evC (m20E k) M (m20I k) 0 m20A (m20c [true, true, false, true, true, true]) s K) (m20K4 M k) k (m20S7 t5' b0')) k := by kernel_rfl

noncomputable def m20X7 (X15 : Int → Int → Int → List Int → Option (List Int)) (k : Nat) (t5 : Int) (b0 : List Int) : Option (List Int) := (if ltI t5 256 = true then X15 t5 t5 (0) b0 else some b0)

theorem m20x7 (M : Cut (List Int)) (k : Nat) (L7 : St → Option (List Int)) (t5 : Int) (b0 : List Int) : evC (m20E k) M (m20I k) 0 m20A (m20c [true, true, false, true, true, true]) (m20S7 t5 b0) (seqK (normAt 0 m20A true (m20c [true, true, false, true, true, true])) L7 (m20K4 M k)) = m20X7 (fun t3' t5' t9' b0' => loopN (normAt 0 m20A true (m20c [true, true, false, true, true, true, true, true, false, true, true, true, false, true, true, true])) (fun K s => evC (m20E k) M (m20I k) 0 m20A (m20c [true, true, false, true, true, true, true, true, false, true, true, true, false, true, true, true]) s K) (m20K14 M k L7) k (m20S15 t3' t5' t9' b0')) k t5 b0 := by kernel_rfl

noncomputable def m20X15 (X26 : Int → Int → List Int → Option (List Int)) (L15 : Int → Int → Int → List Int → Option (List Int)) (k : Nat) (t3 : Int) (t5 : Int) (t9 : Int) (b0 : List Int) : Option (List Int) := (if ltI t9 8 = true then (if leI 0 1 = true then (if eqI (bits BinOp.and IntKind.i64 t3 1) 1 = true then L15 (bits BinOp.xor IntKind.i64 (t3 / 2) 3988292384) t5 (wr IntKind.i64 (t9 + 1)) b0 else L15 (t3 / 2) t5 (wr IntKind.i64 (t9 + 1)) b0) else none) else X26 t3 t5 b0)

theorem m20x15 (M : Cut (List Int)) (k : Nat) (L7 : St → Option (List Int)) (L15 : St → Option (List Int)) (t3 : Int) (t5 : Int) (t9 : Int) (b0 : List Int) : evC (m20E k) M (m20I k) 0 m20A (m20c [true, true, false, true, true, true, true, true, false, true, true, true, false, true, true, true]) (m20S15 t3 t5 t9 b0) (seqK (normAt 0 m20A true (m20c [true, true, false, true, true, true, true, true, false, true, true, true, false, true, true, true])) L15 (m20K14 M k L7)) = m20X15 (fun t3' t5' b0' => M 26 (fun s => evC (m20E k) M (m20I k) 0 m20A (m20c [true, true, false, true, true, true, true, true, false, true, true, true, true]) s (m20K9 M k L7)) (m20S26 t3' t5' b0')) (fun t3' t5' t9' b0' => L15 (m20S15 t3' t5' t9' b0')) k t3 t5 t9 b0 := by kernel_rfl

noncomputable def m20X26 (L7 : Int → List Int → Option (List Int)) (k : Nat) (t3 : Int) (t5 : Int) (b0 : List Int) : Option (List Int) := (if leI (↑((List.length b0 + List.length (List.set (List.replicate 1 0) 0 t3)) * 8) : Int) 140737488355328 = true then L7 (wr IntKind.i64 (t5 + 1)) (b0 ++ List.set (List.replicate 1 0) 0 t3) else none)

theorem m20x26 (M : Cut (List Int)) (k : Nat) (L7 : St → Option (List Int)) (t3 : Int) (t5 : Int) (b0 : List Int) : evC (m20E k) M (m20I k) 0 m20A (m20c [true, true, false, true, true, true, true, true, false, true, true, true, true]) (m20S26 t3 t5 b0) (m20K9 M k L7) = m20X26 (fun t5' b0' => L7 (m20S7 t5' b0')) k t3 t5 b0 := by kernel_rfl

noncomputable def m20F26 (k : Nat) (L7 : Int → List Int → Option (List Int)) (t3 : Int) (t5 : Int) (b0 : List Int) : Option (List Int) := m20X26 L7 k t3 t5 b0

theorem m20q26 (k : Nat) (L7 : St → Option (List Int)) (t3 : Int) (t5 : Int) (b0 : List Int) : evC (m20E k) (fun _ f => f) (m20I k) 0 m20A (m20c [true, true, false, true, true, true, true, true, false, true, true, true, true]) (m20S26 t3 t5 b0) (m20K9 (fun _ f => f) k L7) = m20F26 k (fun t5' b0' => L7 (m20S7 t5' b0')) t3 t5 b0 := by
    show _ = m20X26 (fun t5' b0' => L7 (m20S7 t5' b0')) k t3 t5 b0
    exact m20x26 (fun _ f => f) k L7 t3 t5 b0

noncomputable def m20F15 (k : Nat) (L7 : Int → List Int → Option (List Int)) : Nat → Int → Int → Int → List Int → Option (List Int)
  | 0, _, _, _, _ => none
  | j + 1, t3, t5, t9, b0 => m20X15 (m20F26 k L7) (m20F15 k L7 j) k t3 t5 t9 b0

theorem m20q15 (k : Nat) (L7 : St → Option (List Int)) : ∀ (j : Nat) (t3 : Int) (t5 : Int) (t9 : Int) (b0 : List Int), loopN (normAt 0 m20A true (m20c [true, true, false, true, true, true, true, true, false, true, true, true, false, true, true, true])) (fun K s => evC (m20E k) (fun _ f => f) (m20I k) 0 m20A (m20c [true, true, false, true, true, true, true, true, false, true, true, true, false, true, true, true]) s K) (m20K14 (fun _ f => f) k L7) j (m20S15 t3 t5 t9 b0) = m20F15 k (fun t5' b0' => L7 (m20S7 t5' b0')) j t3 t5 t9 b0
  | 0, _, _, _, _ => rfl
  | j + 1, t3, t5, t9, b0 => by
    have e0 : m20F15 k (fun t5' b0' => L7 (m20S7 t5' b0')) j = (fun t3' t5' t9' b0' => loopN (normAt 0 m20A true (m20c [true, true, false, true, true, true, true, true, false, true, true, true, false, true, true, true])) (fun K s => evC (m20E k) (fun _ f => f) (m20I k) 0 m20A (m20c [true, true, false, true, true, true, true, true, false, true, true, true, false, true, true, true]) s K) (m20K14 (fun _ f => f) k L7) j (m20S15 t3' t5' t9' b0')) := funext fun t3' => funext fun t5' => funext fun t9' => funext fun b0' => (m20q15 k L7 j t3' t5' t9' b0').symm
    have e26 : m20F26 k (fun t5' b0' => L7 (m20S7 t5' b0')) = (fun t3' t5' b0' => evC (m20E k) (fun _ f => f) (m20I k) 0 m20A (m20c [true, true, false, true, true, true, true, true, false, true, true, true, true]) (m20S26 t3' t5' b0') (m20K9 (fun _ f => f) k L7)) := funext fun t3' => funext fun t5' => funext fun b0' => (m20q26 k L7 t3' t5' b0').symm
    show _ = m20X15 (m20F26 k (fun t5' b0' => L7 (m20S7 t5' b0'))) (m20F15 k (fun t5' b0' => L7 (m20S7 t5' b0')) j) k t3 t5 t9 b0
    rw [e0, e26]
    exact m20x15 (fun _ f => f) k L7 (loopN (normAt 0 m20A true (m20c [true, true, false, true, true, true, true, true, false, true, true, true, false, true, true, true])) (fun K s => evC (m20E k) (fun _ f => f) (m20I k) 0 m20A (m20c [true, true, false, true, true, true, true, true, false, true, true, true, false, true, true, true]) s K) (m20K14 (fun _ f => f) k L7) j) t3 t5 t9 b0

noncomputable def m20F7 (k : Nat) : Nat → Int → List Int → Option (List Int)
  | 0, _, _ => none
  | j + 1, t5, b0 => m20X7 (m20F15 k (m20F7 k j) k) k t5 b0

theorem m20q7 (k : Nat) : ∀ (j : Nat) (t5 : Int) (b0 : List Int), loopN (normAt 0 m20A true (m20c [true, true, false, true, true, true])) (fun K s => evC (m20E k) (fun _ f => f) (m20I k) 0 m20A (m20c [true, true, false, true, true, true]) s K) (m20K4 (fun _ f => f) k) j (m20S7 t5 b0) = m20F7 k j t5 b0
  | 0, _, _ => rfl
  | j + 1, t5, b0 => by
    have e0 : m20F7 k j = (fun t5' b0' => loopN (normAt 0 m20A true (m20c [true, true, false, true, true, true])) (fun K s => evC (m20E k) (fun _ f => f) (m20I k) 0 m20A (m20c [true, true, false, true, true, true]) s K) (m20K4 (fun _ f => f) k) j (m20S7 t5' b0')) := funext fun t5' => funext fun b0' => (m20q7 k j t5' b0').symm
    have e15 : m20F15 k (fun t5' b0' => loopN (normAt 0 m20A true (m20c [true, true, false, true, true, true])) (fun K s => evC (m20E k) (fun _ f => f) (m20I k) 0 m20A (m20c [true, true, false, true, true, true]) s K) (m20K4 (fun _ f => f) k) j (m20S7 t5' b0')) k = (fun t3' t5' t9' b0' => loopN (normAt 0 m20A true (m20c [true, true, false, true, true, true, true, true, false, true, true, true, false, true, true, true])) (fun K s => evC (m20E k) (fun _ f => f) (m20I k) 0 m20A (m20c [true, true, false, true, true, true, true, true, false, true, true, true, false, true, true, true]) s K) (m20K14 (fun _ f => f) k (loopN (normAt 0 m20A true (m20c [true, true, false, true, true, true])) (fun K s => evC (m20E k) (fun _ f => f) (m20I k) 0 m20A (m20c [true, true, false, true, true, true]) s K) (m20K4 (fun _ f => f) k) j)) k (m20S15 t3' t5' t9' b0')) := funext fun t3' => funext fun t5' => funext fun t9' => funext fun b0' => (m20q15 k (loopN (normAt 0 m20A true (m20c [true, true, false, true, true, true])) (fun K s => evC (m20E k) (fun _ f => f) (m20I k) 0 m20A (m20c [true, true, false, true, true, true]) s K) (m20K4 (fun _ f => f) k) j) k t3' t5' t9' b0').symm
    show _ = m20X7 (m20F15 k (m20F7 k j) k) k t5 b0
    rw [e0, e15]
    exact m20x7 (fun _ f => f) k (loopN (normAt 0 m20A true (m20c [true, true, false, true, true, true])) (fun K s => evC (m20E k) (fun _ f => f) (m20I k) 0 m20A (m20c [true, true, false, true, true, true]) s K) (m20K4 (fun _ f => f) k) j) t5 b0

noncomputable def m20F (k : Nat) : Option (List Int) := m20X (m20F7 k k) k

theorem m20q (k : Nat) : evC (m20E k) (fun _ f => f) (m20I k) 0 m20A (m20c []) (stAt Try.f20 (argSs [] ()) (fun _ => none) 0) (retK Try.prog Try.f20 [.leaf (.own (.int .i64) 3)]) = m20F k := by
    have e7 : m20F7 k k = (fun t5' b0' => loopN (normAt 0 m20A true (m20c [true, true, false, true, true, true])) (fun K s => evC (m20E k) (fun _ f => f) (m20I k) 0 m20A (m20c [true, true, false, true, true, true]) s K) (m20K4 (fun _ f => f) k) k (m20S7 t5' b0')) := funext fun t5' => funext fun b0' => (m20q7 k k t5' b0').symm
    show _ = m20X (m20F7 k k) k
    rw [e7]
    exact m20x (fun _ f => f) k

noncomputable def m20sp : Spec := { ps := [], rs := [.leaf (.own (.int .i64) 3)], f := fun k a => m20F k }

theorem m20ok (k : Nat) : EnvOk (m20E k) := envOk_of (l := []) progNames progMixed rfl (.nil)

theorem m20con (k : Nat) : Contract Try.prog k 20 m20sp := contract_of (E := m20E k) (m20ok k) (A := only 20 m20A) (d := 3) (c := m20c []) (by kernel_rfl) (by kernel_rfl) fun a _ h => (m20q k).trans h

noncomputable def m14A : Anns := tabA [(11, { keep := [4, 5, 12, 13, 14] }), (18, { keep := [5] })]
noncomputable def m14E (k : Nat) : Env := { P := Try.prog, k := k, G := tabG [(20, m20sp)] }
noncomputable def m14c (p : List Bool) : Code := sub p (bodyOf Try.f14)
noncomputable def m14I (k : Nat) : Inl (Int × Int) := inlOf (m14E k) (only 14 m14A) 3
noncomputable def m14K0 (M : Cut (Int × Int)) (k : Nat) : Exit → St → Option (Int × Int) := seqK (normAt 0 m14A false (m14c [true])) (cutK M m14A (m14c [true]) fun s => evC (m14E k) M (m14I k) 0 m14A (m14c [true]) s (retK Try.prog Try.f14 [.leaf (.val (.int .i64)), .leaf (.val (.int .i64))])) (retK Try.prog Try.f14 [.leaf (.val (.int .i64)), .leaf (.val (.int .i64))])
noncomputable def m14K1 (M : Cut (Int × Int)) (k : Nat) : Exit → St → Option (Int × Int) := seqK (normAt 0 m14A false (m14c [true, true])) (cutK M m14A (m14c [true, true]) fun s => evC (m14E k) M (m14I k) 0 m14A (m14c [true, true]) s (retK Try.prog Try.f14 [.leaf (.val (.int .i64)), .leaf (.val (.int .i64))])) (retK Try.prog Try.f14 [.leaf (.val (.int .i64)), .leaf (.val (.int .i64))])
noncomputable def m14K2 (M : Cut (Int × Int)) (k : Nat) : Exit → St → Option (Int × Int) := seqK (normAt 0 m14A false (m14c [true, false, true])) (cutK M m14A (m14c [true, false, true]) fun s => evC (m14E k) M (m14I k) 0 m14A (m14c [true, false, true]) s (m14K1 M k)) (m14K1 M k)
noncomputable def m14K3 (M : Cut (Int × Int)) (k : Nat) : Exit → St → Option (Int × Int) := seqK (normAt 0 m14A false (m14c [true, false, true, false, true])) (cutK M m14A (m14c [true, false, true, false, true]) fun s => evC (m14E k) M (m14I k) 0 m14A (m14c [true, false, true, false, true]) s (m14K1 M k)) (m14K1 M k)
noncomputable def m14K4 (M : Cut (Int × Int)) (k : Nat) : Exit → St → Option (Int × Int) := seqK (normAt 0 m14A false (m14c [true, true, true])) (cutK M m14A (m14c [true, true, true]) fun s => evC (m14E k) M (m14I k) 0 m14A (m14c [true, true, true]) s (retK Try.prog Try.f14 [.leaf (.val (.int .i64)), .leaf (.val (.int .i64))])) (retK Try.prog Try.f14 [.leaf (.val (.int .i64)), .leaf (.val (.int .i64))])
noncomputable def m14K5 (M : Cut (Int × Int)) (k : Nat) : Exit → St → Option (Int × Int) := seqK (normAt 0 m14A false (m14c [true, true, true, true])) (cutK M m14A (m14c [true, true, true, true]) fun s => evC (m14E k) M (m14I k) 0 m14A (m14c [true, true, true, true]) s (retK Try.prog Try.f14 [.leaf (.val (.int .i64)), .leaf (.val (.int .i64))])) (retK Try.prog Try.f14 [.leaf (.val (.int .i64)), .leaf (.val (.int .i64))])
noncomputable def m14K6 (M : Cut (Int × Int)) (k : Nat) : Exit → St → Option (Int × Int) := seqK (normAt 0 m14A false (m14c [true, true, true, false, true])) (cutK M m14A (m14c [true, true, true, false, true]) fun s => evC (m14E k) M (m14I k) 0 m14A (m14c [true, true, true, false, true]) s (m14K5 M k)) (m14K5 M k)
noncomputable def m14K7 (M : Cut (Int × Int)) (k : Nat) : Exit → St → Option (Int × Int) := blockK 0 (m14K5 M k)
noncomputable def m14K8 (M : Cut (Int × Int)) (k : Nat) (L11 : St → Option (Int × Int)) : Exit → St → Option (Int × Int) := seqK (normAt 0 m14A true (m14c [true, true, true, false, true, true, true])) L11 (m14K7 M k)
noncomputable def m14K9 (M : Cut (Int × Int)) (k : Nat) (L11 : St → Option (Int × Int)) : Exit → St → Option (Int × Int) := seqK (normAt 0 m14A false (m14c [true, true, true, false, true, true, true, true])) (cutK M m14A (m14c [true, true, true, false, true, true, true, true]) fun s => evC (m14E k) M (m14I k) 0 m14A (m14c [true, true, true, false, true, true, true, true]) s (m14K8 M k L11)) (m14K8 M k L11)
noncomputable def m14K10 (M : Cut (Int × Int)) (k : Nat) (L11 : St → Option (Int × Int)) : Exit → St → Option (Int × Int) := seqK (normAt 0 m14A false (m14c [true, true, true, false, true, true, true, true, true])) (cutK M m14A (m14c [true, true, true, false, true, true, true, true, true]) fun s => evC (m14E k) M (m14I k) 0 m14A (m14c [true, true, true, false, true, true, true, true, true]) s (m14K8 M k L11)) (m14K8 M k L11)
noncomputable def m14K11 (M : Cut (Int × Int)) (k : Nat) (L11 : St → Option (Int × Int)) : Exit → St → Option (Int × Int) := seqK (normAt 0 m14A false (m14c [true, true, true, false, true, true, true, true, true, true])) (cutK M m14A (m14c [true, true, true, false, true, true, true, true, true, true]) fun s => evC (m14E k) M (m14I k) 0 m14A (m14c [true, true, true, false, true, true, true, true, true, true]) s (m14K8 M k L11)) (m14K8 M k L11)
noncomputable def m14K12 (M : Cut (Int × Int)) (k : Nat) (L11 : St → Option (Int × Int)) : Exit → St → Option (Int × Int) := blockK 1 (m14K11 M k L11)
noncomputable def m14K13 (M : Cut (Int × Int)) (k : Nat) (L11 : St → Option (Int × Int)) : Exit → St → Option (Int × Int) := seqK (normAt 0 m14A false (m14c [true, true, true, false, true, true, true, true, true, false, true, true])) (cutK M m14A (m14c [true, true, true, false, true, true, true, true, true, false, true, true]) fun s => evC (m14E k) M (m14I k) 0 m14A (m14c [true, true, true, false, true, true, true, true, true, false, true, true]) s (m14K12 M k L11)) (m14K12 M k L11)
noncomputable def m14K14 (M : Cut (Int × Int)) (k : Nat) : Exit → St → Option (Int × Int) := seqK (normAt 0 m14A false (m14c [true, true, true, true, true])) (cutK M m14A (m14c [true, true, true, true, true]) fun s => evC (m14E k) M (m14I k) 0 m14A (m14c [true, true, true, true, true]) s (retK Try.prog Try.f14 [.leaf (.val (.int .i64)), .leaf (.val (.int .i64))])) (retK Try.prog Try.f14 [.leaf (.val (.int .i64)), .leaf (.val (.int .i64))])
noncomputable def m14S11 (t5 : Int) (t12 : List Int) (t13 : Int) (t14 : Int) (b0 : List Int) : St := { n := 32, tm := slots [(4, .own 0), (5, .int .i64 t5), (12, .row (.int .u8) t12), (13, .int .i64 t13), (14, .int .i64 t14)], tab := blks [some (.row true (.int .i64) 3 b0)], nx := 1 }
noncomputable def m14S18 (t5 : Int) : St := { n := 32, tm := slots [(5, .int .i64 t5)], tab := blks [], nx := 0 }

noncomputable def m14X (X11 : Int → List Int → Int → Int → List Int → Option (Int × Int)) (k : Nat) (p0 : (List Int)) : Option (Int × Int) := (if ltI 4096 (↑(List.length p0) : Int) = true then some ((0, 2)) else (Option.bind (m20F k) fun (c3 : (List Int)) => X11 (4294967295) p0 ((↑(List.length p0) : Int)) (0) c3))

theorem m14x (M : Cut (Int × Int)) (k : Nat) (p0 : (List Int)) : evC (m14E k) M (m14I k) 0 m14A (m14c []) (stAt Try.f14 (argSs [.leaf (.val (.row (.int .u8)))] p0) (fun _ => none) 0) (retK Try.prog Try.f14 [.leaf (.val (.int .i64)), .leaf (.val (.int .i64))]) = m14X (fun t5' t12' t13' t14' b0' => loopN (normAt 0 m14A true (m14c [true, true, true, false, true, true, true])) (fun K s => evC (m14E k) M (m14I k) 0 m14A (m14c [true, true, true, false, true, true, true]) s K) (m14K7 M k) k (m14S11 t5' t12' t13' t14' b0')) k p0 := by kernel_rfl

noncomputable def m14X11 (X18 : Int → Option (Int × Int)) (L11 : Int → List Int → Int → Int → List Int → Option (Int × Int)) (k : Nat) (t5 : Int) (t12 : List Int) (t13 : Int) (t14 : Int) (b0 : List Int) : Option (Int × Int) := (if ltI t14 t13 = true then (if leI 0 t14 = true then (if ltI t14 (↑(List.length t12) : Int) = true then (if leI 0 8 = true then (if leI 0
    (bits BinOp.xor IntKind.i64 (bits BinOp.and IntKind.i64 t5 255)
      (wr IntKind.i64 (List.getD t12 (Int.toNat t14) 0))) =
  true then (if ltI (bits BinOp.xor IntKind.i64 (bits BinOp.and IntKind.i64 t5 255) (wr IntKind.i64 (List.getD t12 (Int.toNat t14) 0)))
    (↑(List.length b0) : Int) =
  true then L11 (bits BinOp.xor IntKind.i64 (t5 / 256)
  (List.getD b0
    (Int.toNat
      (bits BinOp.xor IntKind.i64 (bits BinOp.and IntKind.i64 t5 255)
        (wr IntKind.i64 (List.getD t12 (Int.toNat t14) 0))))
    0)) t12 t13 (wr IntKind.i64 (t14 + 1)) b0 else none) else none) else none) else none) else none) else X18 t5)

theorem m14x11 (M : Cut (Int × Int)) (k : Nat) (L11 : St → Option (Int × Int)) (t5 : Int) (t12 : List Int) (t13 : Int) (t14 : Int) (b0 : List Int) : evC (m14E k) M (m14I k) 0 m14A (m14c [true, true, true, false, true, true, true]) (m14S11 t5 t12 t13 t14 b0) (seqK (normAt 0 m14A true (m14c [true, true, true, false, true, true, true])) L11 (m14K7 M k)) = m14X11 (fun t5' => M 18 (fun s => evC (m14E k) M (m14I k) 0 m14A (m14c [true, true, true, true]) s (retK Try.prog Try.f14 [.leaf (.val (.int .i64)), .leaf (.val (.int .i64))])) (m14S18 t5')) (fun t5' t12' t13' t14' b0' => L11 (m14S11 t5' t12' t13' t14' b0')) k t5 t12 t13 t14 b0 := by kernel_rfl

noncomputable def m14X18 (k : Nat) (t5 : Int) : Option (Int × Int) := some ((bits BinOp.xor IntKind.i64 t5 4294967295, 0))

theorem m14x18 (M : Cut (Int × Int)) (k : Nat) (t5 : Int) : evC (m14E k) M (m14I k) 0 m14A (m14c [true, true, true, true]) (m14S18 t5) (retK Try.prog Try.f14 [.leaf (.val (.int .i64)), .leaf (.val (.int .i64))]) = m14X18 k t5 := by kernel_rfl

noncomputable def m14F18 (k : Nat) (t5 : Int) : Option (Int × Int) := m14X18 k t5

theorem m14q18 (k : Nat) (t5 : Int) : evC (m14E k) (fun _ f => f) (m14I k) 0 m14A (m14c [true, true, true, true]) (m14S18 t5) (retK Try.prog Try.f14 [.leaf (.val (.int .i64)), .leaf (.val (.int .i64))]) = m14F18 k t5 := by
    show _ = m14X18 k t5
    exact m14x18 (fun _ f => f) k t5

noncomputable def m14F11 (k : Nat) : Nat → Int → List Int → Int → Int → List Int → Option (Int × Int)
  | 0, _, _, _, _, _ => none
  | j + 1, t5, t12, t13, t14, b0 => m14X11 (m14F18 k) (m14F11 k j) k t5 t12 t13 t14 b0

theorem m14q11 (k : Nat) : ∀ (j : Nat) (t5 : Int) (t12 : List Int) (t13 : Int) (t14 : Int) (b0 : List Int), loopN (normAt 0 m14A true (m14c [true, true, true, false, true, true, true])) (fun K s => evC (m14E k) (fun _ f => f) (m14I k) 0 m14A (m14c [true, true, true, false, true, true, true]) s K) (m14K7 (fun _ f => f) k) j (m14S11 t5 t12 t13 t14 b0) = m14F11 k j t5 t12 t13 t14 b0
  | 0, _, _, _, _, _ => rfl
  | j + 1, t5, t12, t13, t14, b0 => by
    have e0 : m14F11 k j = (fun t5' t12' t13' t14' b0' => loopN (normAt 0 m14A true (m14c [true, true, true, false, true, true, true])) (fun K s => evC (m14E k) (fun _ f => f) (m14I k) 0 m14A (m14c [true, true, true, false, true, true, true]) s K) (m14K7 (fun _ f => f) k) j (m14S11 t5' t12' t13' t14' b0')) := funext fun t5' => funext fun t12' => funext fun t13' => funext fun t14' => funext fun b0' => (m14q11 k j t5' t12' t13' t14' b0').symm
    have e18 : m14F18 k = (fun t5' => evC (m14E k) (fun _ f => f) (m14I k) 0 m14A (m14c [true, true, true, true]) (m14S18 t5') (retK Try.prog Try.f14 [.leaf (.val (.int .i64)), .leaf (.val (.int .i64))])) := funext fun t5' => (m14q18 k t5').symm
    show _ = m14X11 (m14F18 k) (m14F11 k j) k t5 t12 t13 t14 b0
    rw [e0, e18]
    exact m14x11 (fun _ f => f) k (loopN (normAt 0 m14A true (m14c [true, true, true, false, true, true, true])) (fun K s => evC (m14E k) (fun _ f => f) (m14I k) 0 m14A (m14c [true, true, true, false, true, true, true]) s K) (m14K7 (fun _ f => f) k) j) t5 t12 t13 t14 b0

noncomputable def m14F (k : Nat) (p0 : (List Int)) : Option (Int × Int) := m14X (m14F11 k k) k p0

theorem m14q (k : Nat) (p0 : (List Int)) : evC (m14E k) (fun _ f => f) (m14I k) 0 m14A (m14c []) (stAt Try.f14 (argSs [.leaf (.val (.row (.int .u8)))] p0) (fun _ => none) 0) (retK Try.prog Try.f14 [.leaf (.val (.int .i64)), .leaf (.val (.int .i64))]) = m14F k p0 := by
    have e11 : m14F11 k k = (fun t5' t12' t13' t14' b0' => loopN (normAt 0 m14A true (m14c [true, true, true, false, true, true, true])) (fun K s => evC (m14E k) (fun _ f => f) (m14I k) 0 m14A (m14c [true, true, true, false, true, true, true]) s K) (m14K7 (fun _ f => f) k) k (m14S11 t5' t12' t13' t14' b0')) := funext fun t5' => funext fun t12' => funext fun t13' => funext fun t14' => funext fun b0' => (m14q11 k k t5' t12' t13' t14' b0').symm
    show _ = m14X (m14F11 k k) k p0
    rw [e11]
    exact m14x (fun _ f => f) k p0

noncomputable def m14sp : Spec := { ps := [.leaf (.val (.row (.int .u8)))], rs := [.leaf (.val (.int .i64)), .leaf (.val (.int .i64))], f := fun k a => m14F k a }

theorem m14ok (k : Nat) : EnvOk (m14E k) := envOk_of (l := [(20, m20sp)]) progNames progMixed rfl (.cons ⟨m20con k, Try.f20, by kernel_rfl, by kernel_rfl⟩ (.nil))

theorem m14con (k : Nat) : Contract Try.prog k 14 m14sp := contract_of (E := m14E k) (m14ok k) (A := only 14 m14A) (d := 3) (c := m14c []) (by kernel_rfl) (by kernel_rfl) fun a _ h => (m14q k a).trans h

noncomputable def m18A : Anns := tabA []
noncomputable def m18E (k : Nat) : Env := { P := Try.prog, k := k, G := tabG [(13, m13sp), (14, m14sp)] }
noncomputable def m18c (p : List Bool) : Code := sub p (bodyOf Try.f18)
noncomputable def m18I (k : Nat) : Inl Bool := inlOf (m18E k) (only 18 m18A) 3
noncomputable def m18K0 (M : Cut Bool) (k : Nat) : Exit → St → Option Bool := seqK (normAt 0 m18A false (m18c [true])) (cutK M m18A (m18c [true]) fun s => evC (m18E k) M (m18I k) 0 m18A (m18c [true]) s (retK Try.prog Try.f18 [.leaf (.val .bool)])) (retK Try.prog Try.f18 [.leaf (.val .bool)])
noncomputable def m18K1 (M : Cut Bool) (k : Nat) : Exit → St → Option Bool := seqK (normAt 0 m18A false (m18c [true, true])) (cutK M m18A (m18c [true, true]) fun s => evC (m18E k) M (m18I k) 0 m18A (m18c [true, true]) s (retK Try.prog Try.f18 [.leaf (.val .bool)])) (retK Try.prog Try.f18 [.leaf (.val .bool)])
noncomputable def m18K2 (M : Cut Bool) (k : Nat) : Exit → St → Option Bool := seqK (normAt 0 m18A false (m18c [true, true, true])) (cutK M m18A (m18c [true, true, true]) fun s => evC (m18E k) M (m18I k) 0 m18A (m18c [true, true, true]) s (retK Try.prog Try.f18 [.leaf (.val .bool)])) (retK Try.prog Try.f18 [.leaf (.val .bool)])
noncomputable def m18K3 (M : Cut Bool) (k : Nat) : Exit → St → Option Bool := seqK (normAt 0 m18A false (m18c [true, true, true, true])) (cutK M m18A (m18c [true, true, true, true]) fun s => evC (m18E k) M (m18I k) 0 m18A (m18c [true, true, true, true]) s (retK Try.prog Try.f18 [.leaf (.val .bool)])) (retK Try.prog Try.f18 [.leaf (.val .bool)])

noncomputable def m18X (k : Nat) : Option Bool := (Option.bind (m13F k
  (List.set
    (List.set
      (List.set
        (List.set (List.set (List.set (List.set (List.set (List.set (List.replicate 9 0) 0 49) 1 50) 2 51) 3 52) 4 53) 5
          54)
        6 55)
      7 56)
    8 57)) fun (c2 : (Int × Int)) => (Option.bind (m14F k
  (List.set
    (List.set
      (List.set
        (List.set (List.set (List.set (List.set (List.set (List.set (List.replicate 9 0) 0 49) 1 50) 2 51) 3 52) 4 53) 5
          54)
        6 55)
      7 56)
    8 57)) fun (c3 : (Int × Int)) => (if eqI (Prod.snd c2) 0 = true then (if eqI (Prod.snd c3) 0 = true then (if eqI (Prod.fst c2) 10673 = true then some (eqI (Prod.fst c3) 3421780262) else some (false)) else some (false)) else some (false))))

theorem m18x (M : Cut Bool) (k : Nat) : evC (m18E k) M (m18I k) 0 m18A (m18c []) (stAt Try.f18 (argSs [] ()) (fun _ => none) 0) (retK Try.prog Try.f18 [.leaf (.val .bool)]) = m18X k := by kernel_rfl

noncomputable def m18F (k : Nat) : Option Bool := m18X k

theorem m18q (k : Nat) : evC (m18E k) (fun _ f => f) (m18I k) 0 m18A (m18c []) (stAt Try.f18 (argSs [] ()) (fun _ => none) 0) (retK Try.prog Try.f18 [.leaf (.val .bool)]) = m18F k := by
    show _ = m18X k
    exact m18x (fun _ f => f) k

noncomputable def m18sp : Spec := { ps := [], rs := [.leaf (.val .bool)], f := fun k a => m18F k }

theorem m18ok (k : Nat) : EnvOk (m18E k) := envOk_of (l := [(13, m13sp), (14, m14sp)]) progNames progMixed rfl (.cons ⟨m13con k, Try.f13, by kernel_rfl, by kernel_rfl⟩ (.cons ⟨m14con k, Try.f14, by kernel_rfl, by kernel_rfl⟩ (.nil)))

theorem m18con (k : Nat) : Contract Try.prog k 18 m18sp := contract_of (E := m18E k) (m18ok k) (A := only 18 m18A) (d := 3) (c := m18c []) (by kernel_rfl) (by kernel_rfl) fun a _ h => (m18q k).trans h

noncomputable def m31A : Anns := tabA []
noncomputable def m31E (k : Nat) : Env := { P := Try.prog, k := k, G := tabG [] }
noncomputable def m31c (p : List Bool) : Code := sub p (bodyOf Try.f31)
noncomputable def m31I (k : Nat) : Inl (List Int) := inlOf (m31E k) (only 31 m31A) 3
noncomputable def m31K0 (M : Cut (List Int)) (k : Nat) : Exit → St → Option (List Int) := seqK (normAt 0 m31A false (m31c [true])) (cutK M m31A (m31c [true]) fun s => evC (m31E k) M (m31I k) 0 m31A (m31c [true]) s (retK Try.prog Try.f31 [.leaf (.own (.int .u8) 5)])) (retK Try.prog Try.f31 [.leaf (.own (.int .u8) 5)])
noncomputable def m31K1 (M : Cut (List Int)) (k : Nat) : Exit → St → Option (List Int) := seqK (normAt 0 m31A false (m31c [true, true])) (cutK M m31A (m31c [true, true]) fun s => evC (m31E k) M (m31I k) 0 m31A (m31c [true, true]) s (retK Try.prog Try.f31 [.leaf (.own (.int .u8) 5)])) (retK Try.prog Try.f31 [.leaf (.own (.int .u8) 5)])
noncomputable def m31K2 (M : Cut (List Int)) (k : Nat) : Exit → St → Option (List Int) := seqK (normAt 0 m31A false (m31c [true, false, true])) (cutK M m31A (m31c [true, false, true]) fun s => evC (m31E k) M (m31I k) 0 m31A (m31c [true, false, true]) s (m31K1 M k)) (m31K1 M k)
noncomputable def m31K3 (M : Cut (List Int)) (k : Nat) : Exit → St → Option (List Int) := seqK (normAt 0 m31A false (m31c [true, false, true, false, true])) (cutK M m31A (m31c [true, false, true, false, true]) fun s => evC (m31E k) M (m31I k) 0 m31A (m31c [true, false, true, false, true]) s (m31K1 M k)) (m31K1 M k)
noncomputable def m31K4 (M : Cut (List Int)) (k : Nat) : Exit → St → Option (List Int) := seqK (normAt 0 m31A false (m31c [true, true, true])) (cutK M m31A (m31c [true, true, true]) fun s => evC (m31E k) M (m31I k) 0 m31A (m31c [true, true, true]) s (retK Try.prog Try.f31 [.leaf (.own (.int .u8) 5)])) (retK Try.prog Try.f31 [.leaf (.own (.int .u8) 5)])

noncomputable def m31X (k : Nat) (p0 : (List Int)) : Option (List Int) := (nilK (List.isEmpty p0) (some ([])) ((if leI (↑((0 + List.length p0) * 1) : Int) 140737488355328 = true then some (List.replicate 0 0 ++ p0) else none)))

theorem m31x (M : Cut (List Int)) (k : Nat) (p0 : (List Int)) : evC (m31E k) M (m31I k) 0 m31A (m31c []) (stAt Try.f31 (argSs [.leaf (.val (.row (.int .u8)))] p0) (fun _ => none) 0) (retK Try.prog Try.f31 [.leaf (.own (.int .u8) 5)]) = m31X k p0 := by kernel_rfl

noncomputable def m31F (k : Nat) (p0 : (List Int)) : Option (List Int) := m31X k p0

theorem m31q (k : Nat) (p0 : (List Int)) : evC (m31E k) (fun _ f => f) (m31I k) 0 m31A (m31c []) (stAt Try.f31 (argSs [.leaf (.val (.row (.int .u8)))] p0) (fun _ => none) 0) (retK Try.prog Try.f31 [.leaf (.own (.int .u8) 5)]) = m31F k p0 := by
    show _ = m31X k p0
    exact m31x (fun _ f => f) k p0

noncomputable def m31sp : Spec := { ps := [.leaf (.val (.row (.int .u8)))], rs := [.leaf (.own (.int .u8) 5)], f := fun k a => m31F k a }

theorem m31ok (k : Nat) : EnvOk (m31E k) := envOk_of (l := []) progNames progMixed rfl (.nil)

theorem m31con (k : Nat) : Contract Try.prog k 31 m31sp := contract_of (E := m31E k) (m31ok k) (A := only 31 m31A) (d := 3) (c := m31c []) (by kernel_rfl) (by kernel_rfl) fun a _ h => (m31q k a).trans h

noncomputable def m23A : Anns := tabA [(17, { keep := [4, 6, 20] }), (24, { keep := [6] })]
noncomputable def m23E (k : Nat) : Env := { P := Try.prog, k := k, G := tabG [(14, m14sp), (31, m31sp)] }
noncomputable def m23c (p : List Bool) : Code := sub p (bodyOf Try.f23)
noncomputable def m23I (k : Nat) : Inl ((List Int) × Int) := inlOf (m23E k) (only 23 m23A) 3
noncomputable def m23K0 (M : Cut ((List Int) × Int)) (k : Nat) : Exit → St → Option ((List Int) × Int) := seqK (normAt 0 m23A false (m23c [true])) (cutK M m23A (m23c [true]) fun s => evC (m23E k) M (m23I k) 0 m23A (m23c [true]) s (retK Try.prog Try.f23 [.leaf (.own (.int .u8) 5), .leaf (.val (.int .i64))])) (retK Try.prog Try.f23 [.leaf (.own (.int .u8) 5), .leaf (.val (.int .i64))])
noncomputable def m23K1 (M : Cut ((List Int) × Int)) (k : Nat) : Exit → St → Option ((List Int) × Int) := seqK (normAt 0 m23A false (m23c [true, true])) (cutK M m23A (m23c [true, true]) fun s => evC (m23E k) M (m23I k) 0 m23A (m23c [true, true]) s (retK Try.prog Try.f23 [.leaf (.own (.int .u8) 5), .leaf (.val (.int .i64))])) (retK Try.prog Try.f23 [.leaf (.own (.int .u8) 5), .leaf (.val (.int .i64))])
noncomputable def m23K2 (M : Cut ((List Int) × Int)) (k : Nat) : Exit → St → Option ((List Int) × Int) := seqK (normAt 0 m23A false (m23c [true, false, true])) (cutK M m23A (m23c [true, false, true]) fun s => evC (m23E k) M (m23I k) 0 m23A (m23c [true, false, true]) s (m23K1 M k)) (m23K1 M k)
noncomputable def m23K3 (M : Cut ((List Int) × Int)) (k : Nat) : Exit → St → Option ((List Int) × Int) := seqK (normAt 0 m23A false (m23c [true, false, true, false, true])) (cutK M m23A (m23c [true, false, true, false, true]) fun s => evC (m23E k) M (m23I k) 0 m23A (m23c [true, false, true, false, true]) s (m23K1 M k)) (m23K1 M k)
noncomputable def m23K4 (M : Cut ((List Int) × Int)) (k : Nat) : Exit → St → Option ((List Int) × Int) := seqK (normAt 0 m23A false (m23c [true, true, true])) (cutK M m23A (m23c [true, true, true]) fun s => evC (m23E k) M (m23I k) 0 m23A (m23c [true, true, true]) s (retK Try.prog Try.f23 [.leaf (.own (.int .u8) 5), .leaf (.val (.int .i64))])) (retK Try.prog Try.f23 [.leaf (.own (.int .u8) 5), .leaf (.val (.int .i64))])
noncomputable def m23K5 (M : Cut ((List Int) × Int)) (k : Nat) : Exit → St → Option ((List Int) × Int) := seqK (normAt 0 m23A false (m23c [true, true, true, true])) (cutK M m23A (m23c [true, true, true, true]) fun s => evC (m23E k) M (m23I k) 0 m23A (m23c [true, true, true, true]) s (retK Try.prog Try.f23 [.leaf (.own (.int .u8) 5), .leaf (.val (.int .i64))])) (retK Try.prog Try.f23 [.leaf (.own (.int .u8) 5), .leaf (.val (.int .i64))])
noncomputable def m23K6 (M : Cut ((List Int) × Int)) (k : Nat) : Exit → St → Option ((List Int) × Int) := seqK (normAt 0 m23A false (m23c [true, true, true, false, true])) (cutK M m23A (m23c [true, true, true, false, true]) fun s => evC (m23E k) M (m23I k) 0 m23A (m23c [true, true, true, false, true]) s (m23K5 M k)) (m23K5 M k)
noncomputable def m23K7 (M : Cut ((List Int) × Int)) (k : Nat) : Exit → St → Option ((List Int) × Int) := seqK (normAt 0 m23A false (m23c [true, true, true, false, true, false, true])) (cutK M m23A (m23c [true, true, true, false, true, false, true]) fun s => evC (m23E k) M (m23I k) 0 m23A (m23c [true, true, true, false, true, false, true]) s (m23K5 M k)) (m23K5 M k)
noncomputable def m23K8 (M : Cut ((List Int) × Int)) (k : Nat) : Exit → St → Option ((List Int) × Int) := seqK (normAt 0 m23A false (m23c [true, true, true, true, true])) (cutK M m23A (m23c [true, true, true, true, true]) fun s => evC (m23E k) M (m23I k) 0 m23A (m23c [true, true, true, true, true]) s (retK Try.prog Try.f23 [.leaf (.own (.int .u8) 5), .leaf (.val (.int .i64))])) (retK Try.prog Try.f23 [.leaf (.own (.int .u8) 5), .leaf (.val (.int .i64))])
noncomputable def m23K9 (M : Cut ((List Int) × Int)) (k : Nat) : Exit → St → Option ((List Int) × Int) := seqK (normAt 0 m23A false (m23c [true, true, true, true, true, true])) (cutK M m23A (m23c [true, true, true, true, true, true]) fun s => evC (m23E k) M (m23I k) 0 m23A (m23c [true, true, true, true, true, true]) s (retK Try.prog Try.f23 [.leaf (.own (.int .u8) 5), .leaf (.val (.int .i64))])) (retK Try.prog Try.f23 [.leaf (.own (.int .u8) 5), .leaf (.val (.int .i64))])
noncomputable def m23K10 (M : Cut ((List Int) × Int)) (k : Nat) : Exit → St → Option ((List Int) × Int) := seqK (normAt 0 m23A false (m23c [true, true, true, true, true, false, true])) (cutK M m23A (m23c [true, true, true, true, true, false, true]) fun s => evC (m23E k) M (m23I k) 0 m23A (m23c [true, true, true, true, true, false, true]) s (m23K9 M k)) (m23K9 M k)
noncomputable def m23K11 (M : Cut ((List Int) × Int)) (k : Nat) : Exit → St → Option ((List Int) × Int) := blockK 0 (m23K9 M k)
noncomputable def m23K12 (M : Cut ((List Int) × Int)) (k : Nat) (L17 : St → Option ((List Int) × Int)) : Exit → St → Option ((List Int) × Int) := seqK (normAt 0 m23A true (m23c [true, true, true, true, true, false, true, true, true])) L17 (m23K11 M k)
noncomputable def m23K13 (M : Cut ((List Int) × Int)) (k : Nat) (L17 : St → Option ((List Int) × Int)) : Exit → St → Option ((List Int) × Int) := seqK (normAt 0 m23A false (m23c [true, true, true, true, true, false, true, true, true, true])) (cutK M m23A (m23c [true, true, true, true, true, false, true, true, true, true]) fun s => evC (m23E k) M (m23I k) 0 m23A (m23c [true, true, true, true, true, false, true, true, true, true]) s (m23K12 M k L17)) (m23K12 M k L17)
noncomputable def m23K14 (M : Cut ((List Int) × Int)) (k : Nat) (L17 : St → Option ((List Int) × Int)) : Exit → St → Option ((List Int) × Int) := seqK (normAt 0 m23A false (m23c [true, true, true, true, true, false, true, true, true, true, true])) (cutK M m23A (m23c [true, true, true, true, true, false, true, true, true, true, true]) fun s => evC (m23E k) M (m23I k) 0 m23A (m23c [true, true, true, true, true, false, true, true, true, true, true]) s (m23K12 M k L17)) (m23K12 M k L17)
noncomputable def m23K15 (M : Cut ((List Int) × Int)) (k : Nat) (L17 : St → Option ((List Int) × Int)) : Exit → St → Option ((List Int) × Int) := seqK (normAt 0 m23A false (m23c [true, true, true, true, true, false, true, true, true, true, true, true])) (cutK M m23A (m23c [true, true, true, true, true, false, true, true, true, true, true, true]) fun s => evC (m23E k) M (m23I k) 0 m23A (m23c [true, true, true, true, true, false, true, true, true, true, true, true]) s (m23K12 M k L17)) (m23K12 M k L17)
noncomputable def m23K16 (M : Cut ((List Int) × Int)) (k : Nat) (L17 : St → Option ((List Int) × Int)) : Exit → St → Option ((List Int) × Int) := blockK 1 (m23K15 M k L17)
noncomputable def m23K17 (M : Cut ((List Int) × Int)) (k : Nat) (L17 : St → Option ((List Int) × Int)) : Exit → St → Option ((List Int) × Int) := seqK (normAt 0 m23A false (m23c [true, true, true, true, true, false, true, true, true, true, true, false, true, true])) (cutK M m23A (m23c [true, true, true, true, true, false, true, true, true, true, true, false, true, true]) fun s => evC (m23E k) M (m23I k) 0 m23A (m23c [true, true, true, true, true, false, true, true, true, true, true, false, true, true]) s (m23K16 M k L17)) (m23K16 M k L17)
noncomputable def m23K18 (M : Cut ((List Int) × Int)) (k : Nat) : Exit → St → Option ((List Int) × Int) := seqK (normAt 0 m23A false (m23c [true, true, true, true, true, true, true])) (cutK M m23A (m23c [true, true, true, true, true, true, true]) fun s => evC (m23E k) M (m23I k) 0 m23A (m23c [true, true, true, true, true, true, true]) s (retK Try.prog Try.f23 [.leaf (.own (.int .u8) 5), .leaf (.val (.int .i64))])) (retK Try.prog Try.f23 [.leaf (.own (.int .u8) 5), .leaf (.val (.int .i64))])
noncomputable def m23S17 (t4 : Int) (t20 : Int) (b0 : List Int) : St := { n := 32, tm := slots [(4, .int .i64 t4), (6, .own 0), (20, .int .i64 t20)], tab := blks [some (.row true (.int .u8) 5 b0)], nx := 1 }
noncomputable def m23S24 (b0 : List Int) : St := { n := 32, tm := slots [(6, .own 0)], tab := blks [some (.row true (.int .u8) 5 b0)], nx := 1 }

noncomputable def m23X (X17 : Int → Int → List Int → Option ((List Int) × Int)) (k : Nat) (p0 : (List Int)) : Option ((List Int) × Int) := (if ltI 4092 (↑(List.length p0) : Int) = true then some (([], 2)) else (Option.bind (m14F k p0) fun (c3 : (Int × Int)) => (if (!eqI (Prod.snd c3) 0) = true then some (([], Prod.snd c3)) else (Option.bind (m31F k p0) fun (c4 : (List Int)) => X17 (Prod.fst c3) (0) c4))))

theorem m23x (M : Cut ((List Int) × Int)) (k : Nat) (p0 : (List Int)) : evC (m23E k) M (m23I k) 0 m23A (m23c []) (stAt Try.f23 (argSs [.leaf (.val (.row (.int .u8)))] p0) (fun _ => none) 0) (retK Try.prog Try.f23 [.leaf (.own (.int .u8) 5), .leaf (.val (.int .i64))]) = m23X (fun t4' t20' b0' => loopN (normAt 0 m23A true (m23c [true, true, true, true, true, false, true, true, true])) (fun K s => evC (m23E k) M (m23I k) 0 m23A (m23c [true, true, true, true, true, false, true, true, true]) s K) (m23K11 M k) k (m23S17 t4' t20' b0')) k p0 := by kernel_rfl

noncomputable def m23X17 (X24 : List Int → Option ((List Int) × Int)) (L17 : Int → Int → List Int → Option ((List Int) × Int)) (k : Nat) (t4 : Int) (t20 : Int) (b0 : List Int) : Option ((List Int) × Int) := (if ltI t20 4 = true then (if leI (↑((List.length b0 + List.length (List.set (List.replicate 1 0) 0 (wr IntKind.u8 t4))) * 1) : Int) 140737488355328 =
  true then (if leI 0 8 = true then L17 (t4 / 256) (wr IntKind.i64 (t20 + 1)) (b0 ++ List.set (List.replicate 1 0) 0 (wr IntKind.u8 t4)) else none) else none) else X24 b0)

theorem m23x17 (M : Cut ((List Int) × Int)) (k : Nat) (L17 : St → Option ((List Int) × Int)) (t4 : Int) (t20 : Int) (b0 : List Int) : evC (m23E k) M (m23I k) 0 m23A (m23c [true, true, true, true, true, false, true, true, true]) (m23S17 t4 t20 b0) (seqK (normAt 0 m23A true (m23c [true, true, true, true, true, false, true, true, true])) L17 (m23K11 M k)) = m23X17 (fun b0' => M 24 (fun s => evC (m23E k) M (m23I k) 0 m23A (m23c [true, true, true, true, true, true]) s (retK Try.prog Try.f23 [.leaf (.own (.int .u8) 5), .leaf (.val (.int .i64))])) (m23S24 b0')) (fun t4' t20' b0' => L17 (m23S17 t4' t20' b0')) k t4 t20 b0 := by kernel_rfl

noncomputable def m23X24 (k : Nat) (b0 : List Int) : Option ((List Int) × Int) := (Option.bind (m31F k b0) fun (c3 : (List Int)) => some ((c3, 0)))

theorem m23x24 (M : Cut ((List Int) × Int)) (k : Nat) (b0 : List Int) : evC (m23E k) M (m23I k) 0 m23A (m23c [true, true, true, true, true, true]) (m23S24 b0) (retK Try.prog Try.f23 [.leaf (.own (.int .u8) 5), .leaf (.val (.int .i64))]) = m23X24 k b0 := by kernel_rfl

noncomputable def m23F24 (k : Nat) (b0 : List Int) : Option ((List Int) × Int) := m23X24 k b0

theorem m23q24 (k : Nat) (b0 : List Int) : evC (m23E k) (fun _ f => f) (m23I k) 0 m23A (m23c [true, true, true, true, true, true]) (m23S24 b0) (retK Try.prog Try.f23 [.leaf (.own (.int .u8) 5), .leaf (.val (.int .i64))]) = m23F24 k b0 := by
    show _ = m23X24 k b0
    exact m23x24 (fun _ f => f) k b0

noncomputable def m23F17 (k : Nat) : Nat → Int → Int → List Int → Option ((List Int) × Int)
  | 0, _, _, _ => none
  | j + 1, t4, t20, b0 => m23X17 (m23F24 k) (m23F17 k j) k t4 t20 b0

theorem m23q17 (k : Nat) : ∀ (j : Nat) (t4 : Int) (t20 : Int) (b0 : List Int), loopN (normAt 0 m23A true (m23c [true, true, true, true, true, false, true, true, true])) (fun K s => evC (m23E k) (fun _ f => f) (m23I k) 0 m23A (m23c [true, true, true, true, true, false, true, true, true]) s K) (m23K11 (fun _ f => f) k) j (m23S17 t4 t20 b0) = m23F17 k j t4 t20 b0
  | 0, _, _, _ => rfl
  | j + 1, t4, t20, b0 => by
    have e0 : m23F17 k j = (fun t4' t20' b0' => loopN (normAt 0 m23A true (m23c [true, true, true, true, true, false, true, true, true])) (fun K s => evC (m23E k) (fun _ f => f) (m23I k) 0 m23A (m23c [true, true, true, true, true, false, true, true, true]) s K) (m23K11 (fun _ f => f) k) j (m23S17 t4' t20' b0')) := funext fun t4' => funext fun t20' => funext fun b0' => (m23q17 k j t4' t20' b0').symm
    have e24 : m23F24 k = (fun b0' => evC (m23E k) (fun _ f => f) (m23I k) 0 m23A (m23c [true, true, true, true, true, true]) (m23S24 b0') (retK Try.prog Try.f23 [.leaf (.own (.int .u8) 5), .leaf (.val (.int .i64))])) := funext fun b0' => (m23q24 k b0').symm
    show _ = m23X17 (m23F24 k) (m23F17 k j) k t4 t20 b0
    rw [e0, e24]
    exact m23x17 (fun _ f => f) k (loopN (normAt 0 m23A true (m23c [true, true, true, true, true, false, true, true, true])) (fun K s => evC (m23E k) (fun _ f => f) (m23I k) 0 m23A (m23c [true, true, true, true, true, false, true, true, true]) s K) (m23K11 (fun _ f => f) k) j) t4 t20 b0

noncomputable def m23F (k : Nat) (p0 : (List Int)) : Option ((List Int) × Int) := m23X (m23F17 k k) k p0

theorem m23q (k : Nat) (p0 : (List Int)) : evC (m23E k) (fun _ f => f) (m23I k) 0 m23A (m23c []) (stAt Try.f23 (argSs [.leaf (.val (.row (.int .u8)))] p0) (fun _ => none) 0) (retK Try.prog Try.f23 [.leaf (.own (.int .u8) 5), .leaf (.val (.int .i64))]) = m23F k p0 := by
    have e17 : m23F17 k k = (fun t4' t20' b0' => loopN (normAt 0 m23A true (m23c [true, true, true, true, true, false, true, true, true])) (fun K s => evC (m23E k) (fun _ f => f) (m23I k) 0 m23A (m23c [true, true, true, true, true, false, true, true, true]) s K) (m23K11 (fun _ f => f) k) k (m23S17 t4' t20' b0')) := funext fun t4' => funext fun t20' => funext fun b0' => (m23q17 k k t4' t20' b0').symm
    show _ = m23X (m23F17 k k) k p0
    rw [e17]
    exact m23x (fun _ f => f) k p0

noncomputable def m23sp : Spec := { ps := [.leaf (.val (.row (.int .u8)))], rs := [.leaf (.own (.int .u8) 5), .leaf (.val (.int .i64))], f := fun k a => m23F k a }

theorem m23ok (k : Nat) : EnvOk (m23E k) := envOk_of (l := [(14, m14sp), (31, m31sp)]) progNames progMixed rfl (.cons ⟨m14con k, Try.f14, by kernel_rfl, by kernel_rfl⟩ (.cons ⟨m31con k, Try.f31, by kernel_rfl, by kernel_rfl⟩ (.nil)))

theorem m23con (k : Nat) : Contract Try.prog k 23 m23sp := contract_of (E := m23E k) (m23ok k) (A := only 23 m23A) (d := 3) (c := m23c []) (by kernel_rfl) (by kernel_rfl) fun a _ h => (m23q k a).trans h

noncomputable def m32A : Anns := tabA [(9, { keep := [0, 1, 12, 13] })]
noncomputable def m32E (k : Nat) : Env := { P := Try.prog, k := k, G := tabG [] }
noncomputable def m32c (p : List Bool) : Code := sub p (bodyOf Try.f32)
noncomputable def m32I (k : Nat) : Inl Bool := inlOf (m32E k) (only 32 m32A) 3
noncomputable def m32K0 (M : Cut Bool) (k : Nat) : Exit → St → Option Bool := seqK (normAt 0 m32A false (m32c [true])) (cutK M m32A (m32c [true]) fun s => evC (m32E k) M (m32I k) 0 m32A (m32c [true]) s (retK Try.prog Try.f32 [.leaf (.val .bool)])) (retK Try.prog Try.f32 [.leaf (.val .bool)])
noncomputable def m32K1 (M : Cut Bool) (k : Nat) : Exit → St → Option Bool := seqK (normAt 0 m32A false (m32c [true, true])) (cutK M m32A (m32c [true, true]) fun s => evC (m32E k) M (m32I k) 0 m32A (m32c [true, true]) s (retK Try.prog Try.f32 [.leaf (.val .bool)])) (retK Try.prog Try.f32 [.leaf (.val .bool)])
noncomputable def m32K2 (M : Cut Bool) (k : Nat) : Exit → St → Option Bool := seqK (normAt 0 m32A false (m32c [true, false, true])) (cutK M m32A (m32c [true, false, true]) fun s => evC (m32E k) M (m32I k) 0 m32A (m32c [true, false, true]) s (m32K1 M k)) (m32K1 M k)
noncomputable def m32K3 (M : Cut Bool) (k : Nat) : Exit → St → Option Bool := seqK (normAt 0 m32A false (m32c [true, false, true, false, true])) (cutK M m32A (m32c [true, false, true, false, true]) fun s => evC (m32E k) M (m32I k) 0 m32A (m32c [true, false, true, false, true]) s (m32K1 M k)) (m32K1 M k)
noncomputable def m32K4 (M : Cut Bool) (k : Nat) : Exit → St → Option Bool := seqK (normAt 0 m32A false (m32c [true, true, true])) (cutK M m32A (m32c [true, true, true]) fun s => evC (m32E k) M (m32I k) 0 m32A (m32c [true, true, true]) s (retK Try.prog Try.f32 [.leaf (.val .bool)])) (retK Try.prog Try.f32 [.leaf (.val .bool)])
noncomputable def m32K5 (M : Cut Bool) (k : Nat) : Exit → St → Option Bool := seqK (normAt 0 m32A false (m32c [true, true, false, true])) (cutK M m32A (m32c [true, true, false, true]) fun s => evC (m32E k) M (m32I k) 0 m32A (m32c [true, true, false, true]) s (m32K4 M k)) (m32K4 M k)
noncomputable def m32K6 (M : Cut Bool) (k : Nat) : Exit → St → Option Bool := blockK 0 (m32K4 M k)
noncomputable def m32K7 (M : Cut Bool) (k : Nat) (L9 : St → Option Bool) : Exit → St → Option Bool := seqK (normAt 0 m32A true (m32c [true, true, false, true, true, true])) L9 (m32K6 M k)
noncomputable def m32K8 (M : Cut Bool) (k : Nat) (L9 : St → Option Bool) : Exit → St → Option Bool := seqK (normAt 0 m32A false (m32c [true, true, false, true, true, true, true])) (cutK M m32A (m32c [true, true, false, true, true, true, true]) fun s => evC (m32E k) M (m32I k) 0 m32A (m32c [true, true, false, true, true, true, true]) s (m32K7 M k L9)) (m32K7 M k L9)
noncomputable def m32K9 (M : Cut Bool) (k : Nat) (L9 : St → Option Bool) : Exit → St → Option Bool := seqK (normAt 0 m32A false (m32c [true, true, false, true, true, true, true, true])) (cutK M m32A (m32c [true, true, false, true, true, true, true, true]) fun s => evC (m32E k) M (m32I k) 0 m32A (m32c [true, true, false, true, true, true, true, true]) s (m32K7 M k L9)) (m32K7 M k L9)
noncomputable def m32K10 (M : Cut Bool) (k : Nat) (L9 : St → Option Bool) : Exit → St → Option Bool := seqK (normAt 0 m32A false (m32c [true, true, false, true, true, true, true, true, true])) (cutK M m32A (m32c [true, true, false, true, true, true, true, true, true]) fun s => evC (m32E k) M (m32I k) 0 m32A (m32c [true, true, false, true, true, true, true, true, true]) s (m32K7 M k L9)) (m32K7 M k L9)
noncomputable def m32K11 (M : Cut Bool) (k : Nat) (L9 : St → Option Bool) : Exit → St → Option Bool := blockK 1 (m32K10 M k L9)
noncomputable def m32K12 (M : Cut Bool) (k : Nat) (L9 : St → Option Bool) : Exit → St → Option Bool := seqK (normAt 0 m32A false (m32c [true, true, false, true, true, true, true, true, false, true, true])) (cutK M m32A (m32c [true, true, false, true, true, true, true, true, false, true, true]) fun s => evC (m32E k) M (m32I k) 0 m32A (m32c [true, true, false, true, true, true, true, true, false, true, true]) s (m32K11 M k L9)) (m32K11 M k L9)
noncomputable def m32K13 (M : Cut Bool) (k : Nat) (L9 : St → Option Bool) : Exit → St → Option Bool := seqK (normAt 0 m32A false (m32c [true, true, false, true, true, true, true, true, false, true, true, true])) (cutK M m32A (m32c [true, true, false, true, true, true, true, true, false, true, true, true]) fun s => evC (m32E k) M (m32I k) 0 m32A (m32c [true, true, false, true, true, true, true, true, false, true, true, true]) s (m32K11 M k L9)) (m32K11 M k L9)
noncomputable def m32K14 (M : Cut Bool) (k : Nat) (L9 : St → Option Bool) : Exit → St → Option Bool := seqK (normAt 0 m32A false (m32c [true, true, false, true, true, true, true, true, false, true, true, true, false, true])) (cutK M m32A (m32c [true, true, false, true, true, true, true, true, false, true, true, true, false, true]) fun s => evC (m32E k) M (m32I k) 0 m32A (m32c [true, true, false, true, true, true, true, true, false, true, true, true, false, true]) s (m32K11 M k L9)) (m32K11 M k L9)
noncomputable def m32K15 (M : Cut Bool) (k : Nat) : Exit → St → Option Bool := seqK (normAt 0 m32A false (m32c [true, true, true, true])) (cutK M m32A (m32c [true, true, true, true]) fun s => evC (m32E k) M (m32I k) 0 m32A (m32c [true, true, true, true]) s (retK Try.prog Try.f32 [.leaf (.val .bool)])) (retK Try.prog Try.f32 [.leaf (.val .bool)])
noncomputable def m32S9 (t0 : List Int) (t1 : List Int) (t12 : Int) (t13 : Int) : St := { n := 26, tm := slots [(0, .row (.int .u8) t0), (1, .row (.int .u8) t1), (12, .int .i64 t12), (13, .int .i64 t13)], tab := blks [], nx := 0 }

noncomputable def m32X (X9 : List Int → List Int → Int → Int → Option Bool) (k : Nat) (p0 : (List Int)) (p1 : (List Int)) : Option Bool := (if (!eqI (↑(List.length p0) : Int) (↑(List.length p1) : Int)) = true then some (false) else X9 p0 p1 ((↑(List.length p0) : Int)) (0))

theorem m32x (M : Cut Bool) (k : Nat) (p0 : (List Int)) (p1 : (List Int)) : evC (m32E k) M (m32I k) 0 m32A (m32c []) (stAt Try.f32 (argSs [.leaf (.val (.row (.int .u8))), .leaf (.val (.row (.int .u8)))] (p0, p1)) (fun _ => none) 0) (retK Try.prog Try.f32 [.leaf (.val .bool)]) = m32X (fun t0' t1' t12' t13' => loopN (normAt 0 m32A true (m32c [true, true, false, true, true, true])) (fun K s => evC (m32E k) M (m32I k) 0 m32A (m32c [true, true, false, true, true, true]) s K) (m32K6 M k) k (m32S9 t0' t1' t12' t13')) k p0 p1 := by kernel_rfl

noncomputable def m32X9 (L9 : List Int → List Int → Int → Int → Option Bool) (k : Nat) (t0 : List Int) (t1 : List Int) (t12 : Int) (t13 : Int) : Option Bool := (if ltI t13 t12 = true then (if leI 0 t13 = true then (if ltI t13 (↑(List.length t0) : Int) = true then (if leI 0 t13 = true then (if ltI t13 (↑(List.length t1) : Int) = true then (if (!eqI (List.getD t0 (Int.toNat t13) 0) (List.getD t1 (Int.toNat t13) 0)) = true then some (false) else L9 t0 t1 t12 (wr IntKind.i64 (t13 + 1))) else none) else none) else none) else none) else some (true))

theorem m32x9 (M : Cut Bool) (k : Nat) (L9 : St → Option Bool) (t0 : List Int) (t1 : List Int) (t12 : Int) (t13 : Int) : evC (m32E k) M (m32I k) 0 m32A (m32c [true, true, false, true, true, true]) (m32S9 t0 t1 t12 t13) (seqK (normAt 0 m32A true (m32c [true, true, false, true, true, true])) L9 (m32K6 M k)) = m32X9 (fun t0' t1' t12' t13' => L9 (m32S9 t0' t1' t12' t13')) k t0 t1 t12 t13 := by kernel_rfl

noncomputable def m32F9 (k : Nat) : Nat → List Int → List Int → Int → Int → Option Bool
  | 0, _, _, _, _ => none
  | j + 1, t0, t1, t12, t13 => m32X9 (m32F9 k j) k t0 t1 t12 t13

theorem m32q9 (k : Nat) : ∀ (j : Nat) (t0 : List Int) (t1 : List Int) (t12 : Int) (t13 : Int), loopN (normAt 0 m32A true (m32c [true, true, false, true, true, true])) (fun K s => evC (m32E k) (fun _ f => f) (m32I k) 0 m32A (m32c [true, true, false, true, true, true]) s K) (m32K6 (fun _ f => f) k) j (m32S9 t0 t1 t12 t13) = m32F9 k j t0 t1 t12 t13
  | 0, _, _, _, _ => rfl
  | j + 1, t0, t1, t12, t13 => by
    have e0 : m32F9 k j = (fun t0' t1' t12' t13' => loopN (normAt 0 m32A true (m32c [true, true, false, true, true, true])) (fun K s => evC (m32E k) (fun _ f => f) (m32I k) 0 m32A (m32c [true, true, false, true, true, true]) s K) (m32K6 (fun _ f => f) k) j (m32S9 t0' t1' t12' t13')) := funext fun t0' => funext fun t1' => funext fun t12' => funext fun t13' => (m32q9 k j t0' t1' t12' t13').symm
    show _ = m32X9 (m32F9 k j) k t0 t1 t12 t13
    rw [e0]
    exact m32x9 (fun _ f => f) k (loopN (normAt 0 m32A true (m32c [true, true, false, true, true, true])) (fun K s => evC (m32E k) (fun _ f => f) (m32I k) 0 m32A (m32c [true, true, false, true, true, true]) s K) (m32K6 (fun _ f => f) k) j) t0 t1 t12 t13

noncomputable def m32F (k : Nat) (p0 : (List Int)) (p1 : (List Int)) : Option Bool := m32X (m32F9 k k) k p0 p1

theorem m32q (k : Nat) (p0 : (List Int)) (p1 : (List Int)) : evC (m32E k) (fun _ f => f) (m32I k) 0 m32A (m32c []) (stAt Try.f32 (argSs [.leaf (.val (.row (.int .u8))), .leaf (.val (.row (.int .u8)))] (p0, p1)) (fun _ => none) 0) (retK Try.prog Try.f32 [.leaf (.val .bool)]) = m32F k p0 p1 := by
    have e9 : m32F9 k k = (fun t0' t1' t12' t13' => loopN (normAt 0 m32A true (m32c [true, true, false, true, true, true])) (fun K s => evC (m32E k) (fun _ f => f) (m32I k) 0 m32A (m32c [true, true, false, true, true, true]) s K) (m32K6 (fun _ f => f) k) k (m32S9 t0' t1' t12' t13')) := funext fun t0' => funext fun t1' => funext fun t12' => funext fun t13' => (m32q9 k k t0' t1' t12' t13').symm
    show _ = m32X (m32F9 k k) k p0 p1
    rw [e9]
    exact m32x (fun _ f => f) k p0 p1

noncomputable def m32sp : Spec := { ps := [.leaf (.val (.row (.int .u8))), .leaf (.val (.row (.int .u8)))], rs := [.leaf (.val .bool)], f := fun k a => m32F k a.1 a.2 }

theorem m32ok (k : Nat) : EnvOk (m32E k) := envOk_of (l := []) progNames progMixed rfl (.nil)

theorem m32con (k : Nat) : Contract Try.prog k 32 m32sp := contract_of (E := m32E k) (m32ok k) (A := only 32 m32A) (d := 3) (c := m32c []) (by kernel_rfl) (by kernel_rfl) fun a _ h => (m32q k a.1 a.2).trans h

noncomputable def m24A : Anns := tabA []
noncomputable def m24E (k : Nat) : Env := { P := Try.prog, k := k, G := tabG [(23, m23sp), (32, m32sp)] }
noncomputable def m24c (p : List Bool) : Code := sub p (bodyOf Try.f24)
noncomputable def m24I (k : Nat) : Inl (Bool × Int) := inlOf (m24E k) (only 24 m24A) 3
noncomputable def m24K0 (M : Cut (Bool × Int)) (k : Nat) : Exit → St → Option (Bool × Int) := seqK (normAt 0 m24A false (m24c [true])) (cutK M m24A (m24c [true]) fun s => evC (m24E k) M (m24I k) 0 m24A (m24c [true]) s (retK Try.prog Try.f24 [.leaf (.val .bool), .leaf (.val (.int .i64))])) (retK Try.prog Try.f24 [.leaf (.val .bool), .leaf (.val (.int .i64))])
noncomputable def m24K1 (M : Cut (Bool × Int)) (k : Nat) : Exit → St → Option (Bool × Int) := seqK (normAt 0 m24A false (m24c [true, true])) (cutK M m24A (m24c [true, true]) fun s => evC (m24E k) M (m24I k) 0 m24A (m24c [true, true]) s (retK Try.prog Try.f24 [.leaf (.val .bool), .leaf (.val (.int .i64))])) (retK Try.prog Try.f24 [.leaf (.val .bool), .leaf (.val (.int .i64))])
noncomputable def m24K2 (M : Cut (Bool × Int)) (k : Nat) : Exit → St → Option (Bool × Int) := blockK 0 (m24K1 M k)
noncomputable def m24K3 (M : Cut (Bool × Int)) (k : Nat) : Exit → St → Option (Bool × Int) := seqK (normAt 0 m24A false (m24c [true, false, true, true])) (cutK M m24A (m24c [true, false, true, true]) fun s => evC (m24E k) M (m24I k) 0 m24A (m24c [true, false, true, true]) s (m24K2 M k)) (m24K2 M k)
noncomputable def m24K4 (M : Cut (Bool × Int)) (k : Nat) : Exit → St → Option (Bool × Int) := seqK (normAt 0 m24A false (m24c [true, false, true, true, false, true])) (cutK M m24A (m24c [true, false, true, true, false, true]) fun s => evC (m24E k) M (m24I k) 0 m24A (m24c [true, false, true, true, false, true]) s (m24K2 M k)) (m24K2 M k)
noncomputable def m24K5 (M : Cut (Bool × Int)) (k : Nat) : Exit → St → Option (Bool × Int) := seqK (normAt 0 m24A false (m24c [true, false, true, true, true, true])) (cutK M m24A (m24c [true, false, true, true, true, true]) fun s => evC (m24E k) M (m24I k) 0 m24A (m24c [true, false, true, true, true, true]) s (m24K2 M k)) (m24K2 M k)
noncomputable def m24K6 (M : Cut (Bool × Int)) (k : Nat) : Exit → St → Option (Bool × Int) := seqK (normAt 0 m24A false (m24c [true, false, true, true, true, true, false, true])) (cutK M m24A (m24c [true, false, true, true, true, true, false, true]) fun s => evC (m24E k) M (m24I k) 0 m24A (m24c [true, false, true, true, true, true, false, true]) s (m24K2 M k)) (m24K2 M k)
noncomputable def m24K7 (M : Cut (Bool × Int)) (k : Nat) : Exit → St → Option (Bool × Int) := seqK (normAt 0 m24A false (m24c [true, true, true])) (cutK M m24A (m24c [true, true, true]) fun s => evC (m24E k) M (m24I k) 0 m24A (m24c [true, true, true]) s (retK Try.prog Try.f24 [.leaf (.val .bool), .leaf (.val (.int .i64))])) (retK Try.prog Try.f24 [.leaf (.val .bool), .leaf (.val (.int .i64))])
noncomputable def m24K8 (M : Cut (Bool × Int)) (k : Nat) : Exit → St → Option (Bool × Int) := seqK (normAt 0 m24A false (m24c [true, true, true, true])) (cutK M m24A (m24c [true, true, true, true]) fun s => evC (m24E k) M (m24I k) 0 m24A (m24c [true, true, true, true]) s (retK Try.prog Try.f24 [.leaf (.val .bool), .leaf (.val (.int .i64))])) (retK Try.prog Try.f24 [.leaf (.val .bool), .leaf (.val (.int .i64))])

noncomputable def m24X (k : Nat) (p0 : (List Int)) : Option (Bool × Int) := (if ltI 4096 (↑(List.length p0) : Int) = true then some ((false, 2)) else (if ltI (↑(List.length p0) : Int) 4 = true then some ((false, 0)) else (if leI 0 (wr IntKind.i64 ((↑(List.length p0) : Int) - 4)) = true then (if leI (wr IntKind.i64 ((↑(List.length p0) : Int) - 4)) (↑(List.length p0) : Int) = true then (Option.bind (m23F k (List.take (Int.toNat (wr IntKind.i64 ((↑(List.length p0) : Int) - 4))) p0)) fun (c3 : ((List Int) × Int)) => (if eqI (Prod.snd c3) 0 = true then (Option.bind (m32F k (Prod.fst c3) p0) fun (c4 : Bool) => some ((c4, 0))) else some ((false, 0)))) else none) else none)))

theorem m24x (M : Cut (Bool × Int)) (k : Nat) (p0 : (List Int)) : evC (m24E k) M (m24I k) 0 m24A (m24c []) (stAt Try.f24 (argSs [.leaf (.val (.row (.int .u8)))] p0) (fun _ => none) 0) (retK Try.prog Try.f24 [.leaf (.val .bool), .leaf (.val (.int .i64))]) = m24X k p0 := by kernel_rfl

noncomputable def m24F (k : Nat) (p0 : (List Int)) : Option (Bool × Int) := m24X k p0

theorem m24q (k : Nat) (p0 : (List Int)) : evC (m24E k) (fun _ f => f) (m24I k) 0 m24A (m24c []) (stAt Try.f24 (argSs [.leaf (.val (.row (.int .u8)))] p0) (fun _ => none) 0) (retK Try.prog Try.f24 [.leaf (.val .bool), .leaf (.val (.int .i64))]) = m24F k p0 := by
    show _ = m24X k p0
    exact m24x (fun _ f => f) k p0

noncomputable def m24sp : Spec := { ps := [.leaf (.val (.row (.int .u8)))], rs := [.leaf (.val .bool), .leaf (.val (.int .i64))], f := fun k a => m24F k a }

theorem m24ok (k : Nat) : EnvOk (m24E k) := envOk_of (l := [(23, m23sp), (32, m32sp)]) progNames progMixed rfl (.cons ⟨m23con k, Try.f23, by kernel_rfl, by kernel_rfl⟩ (.cons ⟨m32con k, Try.f32, by kernel_rfl, by kernel_rfl⟩ (.nil)))

theorem m24con (k : Nat) : Contract Try.prog k 24 m24sp := contract_of (E := m24E k) (m24ok k) (A := only 24 m24A) (d := 3) (c := m24c []) (by kernel_rfl) (by kernel_rfl) fun a _ h => (m24q k a).trans h

end Go.Proofs.Ytiblpnglmicjcaa.Mini
