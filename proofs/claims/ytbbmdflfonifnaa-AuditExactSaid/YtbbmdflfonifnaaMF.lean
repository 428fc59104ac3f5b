/- Printed by a program of this session's (MPrint, over wip/mini): plain functions of the program's, and that they are what it does. Lean checks it. -/
import Derived.Test.YtbbmdflfonifnaaXMO
import Derived.Test.YtbbmdflfonifnaaProg
import Derived.KernelRfl
set_option linter.unusedVariables false
namespace Go.Proofs.Ytbbmdflfonifnaa.Mini
open Go Go.RowKit Go.Proofs
theorem progNames : (Try.prog.funcs.all fun f => !(f.name == "runtime.NumGoroutine")) = true := by kernel_rfl
theorem progMixed : Try.prog.follows .mixedOrders = true := by kernel_rfl

noncomputable def m7A : Anns := tabA [(9, { keep := [0, 3] })]
noncomputable def m7E (k : Nat) : Env := { P := Try.prog, k := k, G := tabG [], GB := tabGB [] }
noncomputable def m7c (p : List Bool) : Code := sub p (bodyOf Try.f7)
noncomputable def m7I (k : Nat) : Inl Bool := inlOf (m7E k) (only 7 m7A) 3
noncomputable def m7K0 (M : Cut Bool) (k : Nat) : Exit → St → Option Bool := seqK (normAt 0 m7A false (m7c [true])) (cutK M m7A (m7c [true]) fun s => evC (m7E k) M (m7I k) 0 m7A (m7c [true]) s (retK Try.prog Try.f7 [.leaf (.val .bool)])) (retK Try.prog Try.f7 [.leaf (.val .bool)])
noncomputable def m7K1 (M : Cut Bool) (k : Nat) : Exit → St → Option Bool := seqK (normAt 0 m7A false (m7c [true, true])) (cutK M m7A (m7c [true, true]) fun s => evC (m7E k) M (m7I k) 0 m7A (m7c [true, true]) s (retK Try.prog Try.f7 [.leaf (.val .bool)])) (retK Try.prog Try.f7 [.leaf (.val .bool)])
noncomputable def m7K2 (M : Cut Bool) (k : Nat) : Exit → St → Option Bool := seqK (normAt 0 m7A false (m7c [true, false, true])) (cutK M m7A (m7c [true, false, true]) fun s => evC (m7E k) M (m7I k) 0 m7A (m7c [true, false, true]) s (m7K1 M k)) (m7K1 M k)
noncomputable def m7K3 (M : Cut Bool) (k : Nat) : Exit → St → Option Bool := seqK (normAt 0 m7A false (m7c [true, false, true, false, true])) (cutK M m7A (m7c [true, false, true, false, true]) fun s => evC (m7E k) M (m7I k) 0 m7A (m7c [true, false, true, false, true]) s (m7K1 M k)) (m7K1 M k)
noncomputable def m7K4 (M : Cut Bool) (k : Nat) : Exit → St → Option Bool := seqK (normAt 0 m7A false (m7c [true, true, true])) (cutK M m7A (m7c [true, true, true]) fun s => evC (m7E k) M (m7I k) 0 m7A (m7c [true, true, true]) s (retK Try.prog Try.f7 [.leaf (.val .bool)])) (retK Try.prog Try.f7 [.leaf (.val .bool)])
noncomputable def m7K5 (M : Cut Bool) (k : Nat) : Exit → St → Option Bool := seqK (normAt 0 m7A false (m7c [true, true, false, true])) (cutK M m7A (m7c [true, true, false, true]) fun s => evC (m7E k) M (m7I k) 0 m7A (m7c [true, true, false, true]) s (m7K4 M k)) (m7K4 M k)
noncomputable def m7K6 (M : Cut Bool) (k : Nat) : Exit → St → Option Bool := blockK 0 (m7K4 M k)
noncomputable def m7K7 (M : Cut Bool) (k : Nat) (L9 : St → Option Bool) : Exit → St → Option Bool := seqK (normAt 0 m7A true (m7c [true, true, false, true, true, true])) L9 (m7K6 M k)
noncomputable def m7K8 (M : Cut Bool) (k : Nat) (L9 : St → Option Bool) : Exit → St → Option Bool := seqK (normAt 0 m7A false (m7c [true, true, false, true, true, true, true])) (cutK M m7A (m7c [true, true, false, true, true, true, true]) fun s => evC (m7E k) M (m7I k) 0 m7A (m7c [true, true, false, true, true, true, true]) s (m7K7 M k L9)) (m7K7 M k L9)
noncomputable def m7K9 (M : Cut Bool) (k : Nat) (L9 : St → Option Bool) : Exit → St → Option Bool := seqK (normAt 0 m7A false (m7c [true, true, false, true, true, true, false, true])) (cutK M m7A (m7c [true, true, false, true, true, true, false, true]) fun s => evC (m7E k) M (m7I k) 0 m7A (m7c [true, true, false, true, true, true, false, true]) s (m7K8 M k L9)) (m7K8 M k L9)
noncomputable def m7K10 (M : Cut Bool) (k : Nat) (L9 : St → Option Bool) : Exit → St → Option Bool := seqK (normAt 0 m7A false (m7c [true, true, false, true, true, true, true, true])) (cutK M m7A (m7c [true, true, false, true, true, true, true, true]) fun s => evC (m7E k) M (m7I k) 0 m7A (m7c [true, true, false, true, true, true, true, true]) s (m7K7 M k L9)) (m7K7 M k L9)
noncomputable def m7K11 (M : Cut Bool) (k : Nat) (L9 : St → Option Bool) : Exit → St → Option Bool := blockK 1 (m7K10 M k L9)
noncomputable def m7K12 (M : Cut Bool) (k : Nat) (L9 : St → Option Bool) : Exit → St → Option Bool := seqK (normAt 0 m7A false (m7c [true, true, false, true, true, true, true, false, true, true])) (cutK M m7A (m7c [true, true, false, true, true, true, true, false, true, true]) fun s => evC (m7E k) M (m7I k) 0 m7A (m7c [true, true, false, true, true, true, true, false, true, true]) s (m7K11 M k L9)) (m7K11 M k L9)
noncomputable def m7K13 (M : Cut Bool) (k : Nat) (L9 : St → Option Bool) : Exit → St → Option Bool := seqK (normAt 0 m7A false (m7c [true, true, false, true, true, true, true, false, true, true, false, true])) (cutK M m7A (m7c [true, true, false, true, true, true, true, false, true, true, false, true]) fun s => evC (m7E k) M (m7I k) 0 m7A (m7c [true, true, false, true, true, true, true, false, true, true, false, true]) s (m7K11 M k L9)) (m7K11 M k L9)
noncomputable def m7K14 (M : Cut Bool) (k : Nat) : Exit → St → Option Bool := seqK (normAt 0 m7A false (m7c [true, true, true, true])) (cutK M m7A (m7c [true, true, true, true]) fun s => evC (m7E k) M (m7I k) 0 m7A (m7c [true, true, true, true]) s (retK Try.prog Try.f7 [.leaf (.val .bool)])) (retK Try.prog Try.f7 [.leaf (.val .bool)])
noncomputable def m7S9 (t0 : List (List Int)) (t3 : Int) : St := { n := 19, tm := slots [(0, .row (.row (.int .u8)) t0), (3, .int .i64 t3)], tab := blks [], nx := 0 }

noncomputable def m7X (X9 : List (List Int) → Int → Option Bool) (k : Nat) (p0 : (List (List Int))) : Option Bool := (if ltI 30 (↑(List.length p0) : Int) = true then some (true) else X9 p0 (0))

theorem m7x (M : Cut Bool) (k : Nat) (p0 : (List (List Int))) : evC (m7E k) M (m7I k) 0 m7A (m7c []) (stAt Try.f7 (argSs [.leaf (.val (.row (.row (.int .u8))))] p0) (fun _ => none) 0) (retK Try.prog Try.f7 [.leaf (.val .bool)]) = m7X (fun t0' t3' => loopN (normAt 0 m7A true (m7c [true, true, false, true, true, true])) (fun K s => evC (m7E k) M (m7I k) 0 m7A (m7c [true, true, false, true, true, true]) s K) (m7K6 M k) k (m7S9 t0' t3')) k p0 := by kernel_rfl

noncomputable def m7X9 (L9 : List (List Int) → Int → Option Bool) (k : Nat) (t0 : List (List Int)) (t3 : Int) : Option Bool := (if ltI t3 (↑(List.length t0) : Int) = true then (if leI 0 t3 = true then (if ltI t3 (↑(List.length t0) : Int) = true then (if ltI 250 (↑(List.length (List.getD t0 (Int.toNat t3) [])) : Int) = true then some (true) else L9 t0 (wr IntKind.i64 (t3 + 1))) else none) else none) else some (false))

theorem m7x9 (M : Cut Bool) (k : Nat) (L9 : St → Option Bool) (t0 : List (List Int)) (t3 : Int) : evC (m7E k) M (m7I k) 0 m7A (m7c [true, true, false, true, true, true]) (m7S9 t0 t3) (seqK (normAt 0 m7A true (m7c [true, true, false, true, true, true])) L9 (m7K6 M k)) = m7X9 (fun t0' t3' => L9 (m7S9 t0' t3')) k t0 t3 := by kernel_rfl

noncomputable def m7F9 (k : Nat) : Nat → List (List Int) → Int → Option Bool
  | 0, _, _ => none
  | j + 1, t0, t3 => m7X9 (m7F9 k j) k t0 t3

theorem m7q9 (k : Nat) : ∀ (j : Nat) (t0 : List (List Int)) (t3 : Int), loopN (normAt 0 m7A true (m7c [true, true, false, true, true, true])) (fun K s => evC (m7E k) (fun _ f => f) (m7I k) 0 m7A (m7c [true, true, false, true, true, true]) s K) (m7K6 (fun _ f => f) k) j (m7S9 t0 t3) = m7F9 k j t0 t3
  | 0, _, _ => rfl
  | j + 1, t0, t3 => by
    have e0 : m7F9 k j = (fun t0' t3' => loopN (normAt 0 m7A true (m7c [true, true, false, true, true, true])) (fun K s => evC (m7E k) (fun _ f => f) (m7I k) 0 m7A (m7c [true, true, false, true, true, true]) s K) (m7K6 (fun _ f => f) k) j (m7S9 t0' t3')) := funext fun t0' => funext fun t3' => (m7q9 k j t0' t3').symm
    show _ = m7X9 (m7F9 k j) k t0 t3
    rw [e0]
    exact m7x9 (fun _ f => f) k (loopN (normAt 0 m7A true (m7c [true, true, false, true, true, true])) (fun K s => evC (m7E k) (fun _ f => f) (m7I k) 0 m7A (m7c [true, true, false, true, true, true]) s K) (m7K6 (fun _ f => f) k) j) t0 t3

noncomputable def m7F (k : Nat) (p0 : (List (List Int))) : Option Bool := m7X (m7F9 k k) k p0

theorem m7q (k : Nat) (p0 : (List (List Int))) : evC (m7E k) (fun _ f => f) (m7I k) 0 m7A (m7c []) (stAt Try.f7 (argSs [.leaf (.val (.row (.row (.int .u8))))] p0) (fun _ => none) 0) (retK Try.prog Try.f7 [.leaf (.val .bool)]) = m7F k p0 := by
    have e9 : m7F9 k k = (fun t0' t3' => loopN (normAt 0 m7A true (m7c [true, true, false, true, true, true])) (fun K s => evC (m7E k) (fun _ f => f) (m7I k) 0 m7A (m7c [true, true, false, true, true, true]) s K) (m7K6 (fun _ f => f) k) k (m7S9 t0' t3')) := funext fun t0' => funext fun t3' => (m7q9 k k t0' t3').symm
    show _ = m7X (m7F9 k k) k p0
    rw [e9]
    exact m7x (fun _ f => f) k p0

noncomputable def m7sp : Spec := { ps := [.leaf (.val (.row (.row (.int .u8))))], rs := [.leaf (.val .bool)], f := fun k a => m7F k a }

theorem m7ok (k : Nat) : EnvOk (m7E k) := envOk_of (l := []) (lB := []) progNames progMixed rfl rfl (.nil) (.nil)

theorem m7con (k : Nat) : Contract Try.prog k 7 m7sp := contract_of (E := m7E k) (m7ok k) (A := only 7 m7A) (d := 3) (c := m7c []) (by kernel_rfl) (by kernel_rfl) fun a _ h => (m7q k a).trans h

noncomputable def m23A : Anns := tabA [(7, { keep := [0, 5, 6], mat := [(5, (.int .u8), 5)] })]
noncomputable def m23E (k : Nat) : Env := { P := Try.prog, k := k, G := tabG [], GB := tabGB [] }
noncomputable def m23c (p : List Bool) : Code := sub p (bodyOf Try.f23)
noncomputable def m23I (k : Nat) : Inl (List Int) := inlOf (m23E k) (only 23 m23A) 3
noncomputable def m23K0 (M : Cut (List Int)) (k : Nat) : Exit → St → Option (List Int) := seqK (normAt 0 m23A false (m23c [true])) (cutK M m23A (m23c [true]) fun s => evC (m23E k) M (m23I k) 0 m23A (m23c [true]) s (retK Try.prog Try.f23 [.leaf (.own (.int .u8) 5)])) (retK Try.prog Try.f23 [.leaf (.own (.int .u8) 5)])
noncomputable def m23K1 (M : Cut (List Int)) (k : Nat) : Exit → St → Option (List Int) := seqK (normAt 0 m23A false (m23c [true, true])) (cutK M m23A (m23c [true, true]) fun s => evC (m23E k) M (m23I k) 0 m23A (m23c [true, true]) s (retK Try.prog Try.f23 [.leaf (.own (.int .u8) 5)])) (retK Try.prog Try.f23 [.leaf (.own (.int .u8) 5)])
noncomputable def m23K2 (M : Cut (List Int)) (k : Nat) : Exit → St → Option (List Int) := seqK (normAt 0 m23A false (m23c [true, true, true])) (cutK M m23A (m23c [true, true, true]) fun s => evC (m23E k) M (m23I k) 0 m23A (m23c [true, true, true]) s (retK Try.prog Try.f23 [.leaf (.own (.int .u8) 5)])) (retK Try.prog Try.f23 [.leaf (.own (.int .u8) 5)])
noncomputable def m23K3 (M : Cut (List Int)) (k : Nat) : Exit → St → Option (List Int) := seqK (normAt 0 m23A false (m23c [true, true, false, true])) (cutK M m23A (m23c [true, true, false, true]) fun s => evC (m23E k) M (m23I k) 0 m23A (m23c [true, true, false, true]) s (m23K2 M k)) (m23K2 M k)
noncomputable def m23K4 (M : Cut (List Int)) (k : Nat) : Exit → St → Option (List Int) := blockK 0 (m23K2 M k)
noncomputable def m23K5 (M : Cut (List Int)) (k : Nat) (L7 : St → Option (List Int)) : Exit → St → Option (List Int) := seqK (normAt 0 m23A true (m23c [true, true, false, true, true, true])) L7 (m23K4 M k)
noncomputable def m23K6 (M : Cut (List Int)) (k : Nat) (L7 : St → Option (List Int)) : Exit → St → Option (List Int) := seqK (normAt 0 m23A false (m23c [true, true, false, true, true, true, true])) (cutK M m23A (m23c [true, true, false, true, true, true, true]) fun s => evC (m23E k) M (m23I k) 0 m23A (m23c [true, true, false, true, true, true, true]) s (m23K5 M k L7)) (m23K5 M k L7)
noncomputable def m23K7 (M : Cut (List Int)) (k : Nat) (L7 : St → Option (List Int)) : Exit → St → Option (List Int) := seqK (normAt 0 m23A false (m23c [true, true, false, true, true, true, false, true])) (cutK M m23A (m23c [true, true, false, true, true, true, false, true]) fun s => evC (m23E k) M (m23I k) 0 m23A (m23c [true, true, false, true, true, true, false, true]) s (m23K6 M k L7)) (m23K6 M k L7)
noncomputable def m23K8 (M : Cut (List Int)) (k : Nat) (L7 : St → Option (List Int)) : Exit → St → Option (List Int) := seqK (normAt 0 m23A false (m23c [true, true, false, true, true, true, true, true])) (cutK M m23A (m23c [true, true, false, true, true, true, true, true]) fun s => evC (m23E k) M (m23I k) 0 m23A (m23c [true, true, false, true, true, true, true, true]) s (m23K5 M k L7)) (m23K5 M k L7)
noncomputable def m23K9 (M : Cut (List Int)) (k : Nat) (L7 : St → Option (List Int)) : Exit → St → Option (List Int) := blockK 1 (m23K8 M k L7)
noncomputable def m23K10 (M : Cut (List Int)) (k : Nat) : Exit → St → Option (List Int) := seqK (normAt 0 m23A false (m23c [true, true, true, true])) (cutK M m23A (m23c [true, true, true, true]) fun s => evC (m23E k) M (m23I k) 0 m23A (m23c [true, true, true, true]) s (retK Try.prog Try.f23 [.leaf (.own (.int .u8) 5)])) (retK Try.prog Try.f23 [.leaf (.own (.int .u8) 5)])
noncomputable def m23S7 (t0 : Int) (t6 : Int) (b0 : List Int) : St := { n := 23, tm := slots [(0, .int .i64 t0), (5, .own 0), (6, .int .i64 t6)], tab := blks [some (.row true (.int .u8) 5 b0)], nx := 1 }

noncomputable def m23X (X7 : Int → Int → List Int → Option (List Int)) (k : Nat) (p0 : Int) (p1 : Int) : Option (List Int) := X7 p0 (wr IntKind.i64 (p1 - 1)) ([])

theorem m23x (M : Cut (List Int)) (k : Nat) (p0 : Int) (p1 : Int) : evC (m23E k) M (m23I k) 0 m23A (m23c []) (stAt Try.f23 (argSs [.leaf (.val (.int .i64)), .leaf (.val (.int .i64))] (p0, p1)) (fun _ => none) 0) (retK Try.prog Try.f23 [.leaf (.own (.int .u8) 5)]) = m23X (fun t0' t6' b0' => loopN (normAt 0 m23A true (m23c [true, true, false, true, true, true])) (fun K s => evC (m23E k) M (m23I k) 0 m23A (m23c [true, true, false, true, true, true]) s K) (m23K4 M k) k (m23S7 t0' t6' b0')) k p0 p1 := by kernel_rfl

noncomputable def m23X7 (L7 : Int → Int → List Int → Option (List Int)) (k : Nat) (t0 : Int) (t6 : Int) (b0 : List Int) : Option (List Int) := (if leI 0 t6 = true then (if leI 0 (wr IntKind.u64 (wr IntKind.i64 (8 * t6))) = true then (if leI
    (↑((List.length b0 +
            List.length
              (List.set (List.replicate 1 0) 0
                (wr IntKind.u8 (t0 / p2 (min (Int.toNat (wr IntKind.u64 (wr IntKind.i64 (8 * t6)))) 64))))) *
          1) :
      Int)
    140737488355328 =
  true then L7 t0 (wr IntKind.i64 (t6 - 1)) (b0 ++
  List.set (List.replicate 1 0) 0
    (wr IntKind.u8 (t0 / p2 (min (Int.toNat (wr IntKind.u64 (wr IntKind.i64 (8 * t6)))) 64)))) else none) else none) else some b0)

theorem m23x7 (M : Cut (List Int)) (k : Nat) (L7 : St → Option (List Int)) (t0 : Int) (t6 : Int) (b0 : List Int) : evC (m23E k) M (m23I k) 0 m23A (m23c [true, true, false, true, true, true]) (m23S7 t0 t6 b0) (seqK (normAt 0 m23A true (m23c [true, true, false, true, true, true])) L7 (m23K4 M k)) = m23X7 (fun t0' t6' b0' => L7 (m23S7 t0' t6' b0')) k t0 t6 b0 := by kernel_rfl

noncomputable def m23F7 (k : Nat) : Nat → Int → Int → List Int → Option (List Int)
  | 0, _, _, _ => none
  | j + 1, t0, t6, b0 => m23X7 (m23F7 k j) k t0 t6 b0

theorem m23q7 (k : Nat) : ∀ (j : Nat) (t0 : Int) (t6 : Int) (b0 : List Int), loopN (normAt 0 m23A true (m23c [true, true, false, true, true, true])) (fun K s => evC (m23E k) (fun _ f => f) (m23I k) 0 m23A (m23c [true, true, false, true, true, true]) s K) (m23K4 (fun _ f => f) k) j (m23S7 t0 t6 b0) = m23F7 k j t0 t6 b0
  | 0, _, _, _ => rfl
  | j + 1, t0, t6, b0 => by
    have e0 : m23F7 k j = (fun t0' t6' b0' => loopN (normAt 0 m23A true (m23c [true, true, false, true, true, true])) (fun K s => evC (m23E k) (fun _ f => f) (m23I k) 0 m23A (m23c [true, true, false, true, true, true]) s K) (m23K4 (fun _ f => f) k) j (m23S7 t0' t6' b0')) := funext fun t0' => funext fun t6' => funext fun b0' => (m23q7 k j t0' t6' b0').symm
    show _ = m23X7 (m23F7 k j) k t0 t6 b0
    rw [e0]
    exact m23x7 (fun _ f => f) k (loopN (normAt 0 m23A true (m23c [true, true, false, true, true, true])) (fun K s => evC (m23E k) (fun _ f => f) (m23I k) 0 m23A (m23c [true, true, false, true, true, true]) s K) (m23K4 (fun _ f => f) k) j) t0 t6 b0

noncomputable def m23F (k : Nat) (p0 : Int) (p1 : Int) : Option (List Int) := m23X (m23F7 k k) k p0 p1

theorem m23q (k : Nat) (p0 : Int) (p1 : Int) : evC (m23E k) (fun _ f => f) (m23I k) 0 m23A (m23c []) (stAt Try.f23 (argSs [.leaf (.val (.int .i64)), .leaf (.val (.int .i64))] (p0, p1)) (fun _ => none) 0) (retK Try.prog Try.f23 [.leaf (.own (.int .u8) 5)]) = m23F k p0 p1 := by
    have e7 : m23F7 k k = (fun t0' t6' b0' => loopN (normAt 0 m23A true (m23c [true, true, false, true, true, true])) (fun K s => evC (m23E k) (fun _ f => f) (m23I k) 0 m23A (m23c [true, true, false, true, true, true]) s K) (m23K4 (fun _ f => f) k) k (m23S7 t0' t6' b0')) := funext fun t0' => funext fun t6' => funext fun b0' => (m23q7 k k t0' t6' b0').symm
    show _ = m23X (m23F7 k k) k p0 p1
    rw [e7]
    exact m23x (fun _ f => f) k p0 p1

noncomputable def m23sp : Spec := { ps := [.leaf (.val (.int .i64)), .leaf (.val (.int .i64))], rs := [.leaf (.own (.int .u8) 5)], f := fun k a => m23F k a.1 a.2 }

theorem m23ok (k : Nat) : EnvOk (m23E k) := envOk_of (l := []) (lB := []) progNames progMixed rfl rfl (.nil) (.nil)

theorem m23con (k : Nat) : Contract Try.prog k 23 m23sp := contract_of (E := m23E k) (m23ok k) (A := only 23 m23A) (d := 3) (c := m23c []) (by kernel_rfl) (by kernel_rfl) fun a _ h => (m23q k a.1 a.2).trans h

noncomputable def m21A : Anns := tabA []
noncomputable def m21E (k : Nat) : Env := { P := Try.prog, k := k, G := tabG [], GB := tabGB [] }
noncomputable def m21c (p : List Bool) : Code := sub p (bodyOf Try.f21)
noncomputable def m21I (k : Nat) : Inl (List Int) := inlOf (m21E k) (only 21 m21A) 3
noncomputable def m21K0 (M : Cut (List Int)) (k : Nat) : Exit → St → Option (List Int) := seqK (normAt 0 m21A false (m21c [true])) (cutK M m21A (m21c [true]) fun s => evC (m21E k) M (m21I k) 0 m21A (m21c [true]) s (retK Try.prog Try.f21 [.leaf (.own (.int .u8) 5)])) (retK Try.prog Try.f21 [.leaf (.own (.int .u8) 5)])
noncomputable def m21K1 (M : Cut (List Int)) (k : Nat) : Exit → St → Option (List Int) := seqK (normAt 0 m21A false (m21c [true, true])) (cutK M m21A (m21c [true, true]) fun s => evC (m21E k) M (m21I k) 0 m21A (m21c [true, true]) s (retK Try.prog Try.f21 [.leaf (.own (.int .u8) 5)])) (retK Try.prog Try.f21 [.leaf (.own (.int .u8) 5)])
noncomputable def m21K2 (M : Cut (List Int)) (k : Nat) : Exit → St → Option (List Int) := seqK (normAt 0 m21A false (m21c [true, true, true])) (cutK M m21A (m21c [true, true, true]) fun s => evC (m21E k) M (m21I k) 0 m21A (m21c [true, true, true]) s (retK Try.prog Try.f21 [.leaf (.own (.int .u8) 5)])) (retK Try.prog Try.f21 [.leaf (.own (.int .u8) 5)])

noncomputable def m21X (k : Nat) (p0 : (List Int)) : Option (List Int) := (if leI (↑(List.length p0 * 1) : Int) 140737488355328 = true then some p0 else none)

theorem m21x (M : Cut (List Int)) (k : Nat) (p0 : (List Int)) : evC (m21E k) M (m21I k) 0 m21A (m21c []) (stAt Try.f21 (argSs [.leaf (.val (.row (.int .u8)))] p0) (fun _ => none) 0) (retK Try.prog Try.f21 [.leaf (.own (.int .u8) 5)]) = m21X k p0 := by kernel_rfl

noncomputable def m21F (k : Nat) (p0 : (List Int)) : Option (List Int) := m21X k p0

theorem m21q (k : Nat) (p0 : (List Int)) : evC (m21E k) (fun _ f => f) (m21I k) 0 m21A (m21c []) (stAt Try.f21 (argSs [.leaf (.val (.row (.int .u8)))] p0) (fun _ => none) 0) (retK Try.prog Try.f21 [.leaf (.own (.int .u8) 5)]) = m21F k p0 := by
    show _ = m21X k p0
    exact m21x (fun _ f => f) k p0

noncomputable def m21sp : Spec := { ps := [.leaf (.val (.row (.int .u8)))], rs := [.leaf (.own (.int .u8) 5)], f := fun k a => m21F k a }

theorem m21ok (k : Nat) : EnvOk (m21E k) := envOk_of (l := []) (lB := []) progNames progMixed rfl rfl (.nil) (.nil)

theorem m21con (k : Nat) : Contract Try.prog k 21 m21sp := contract_of (E := m21E k) (m21ok k) (A := only 21 m21A) (d := 3) (c := m21c []) (by kernel_rfl) (by kernel_rfl) fun a _ h => (m21q k a).trans h

noncomputable def m51A : Anns := tabA []
noncomputable def m51E (k : Nat) : Env := { P := Try.prog, k := k, G := tabG [], GB := tabGB [] }
noncomputable def m51c (p : List Bool) : Code := sub p (bodyOf Try.f51)
noncomputable def m51I (k : Nat) : Inl Int := inlOf (m51E k) (only 51 m51A) 3
noncomputable def m51K0 (M : Cut Int) (k : Nat) : Exit → St → Option Int := seqK (normAt 0 m51A false (m51c [true])) (cutK M m51A (m51c [true]) fun s => evC (m51E k) M (m51I k) 0 m51A (m51c [true]) s (retK Try.prog Try.f51 [.leaf (.val (.int .i64))])) (retK Try.prog Try.f51 [.leaf (.val (.int .i64))])
noncomputable def m51K1 (M : Cut Int) (k : Nat) : Exit → St → Option Int := seqK (normAt 0 m51A false (m51c [true, true])) (cutK M m51A (m51c [true, true]) fun s => evC (m51E k) M (m51I k) 0 m51A (m51c [true, true]) s (retK Try.prog Try.f51 [.leaf (.val (.int .i64))])) (retK Try.prog Try.f51 [.leaf (.val (.int .i64))])
noncomputable def m51K2 (M : Cut Int) (k : Nat) : Exit → St → Option Int := seqK (normAt 0 m51A false (m51c [true, false, true])) (cutK M m51A (m51c [true, false, true]) fun s => evC (m51E k) M (m51I k) 0 m51A (m51c [true, false, true]) s (m51K1 M k)) (m51K1 M k)
noncomputable def m51K3 (M : Cut Int) (k : Nat) : Exit → St → Option Int := seqK (normAt 0 m51A false (m51c [true, false, true, false, true])) (cutK M m51A (m51c [true, false, true, false, true]) fun s => evC (m51E k) M (m51I k) 0 m51A (m51c [true, false, true, false, true]) s (m51K1 M k)) (m51K1 M k)
noncomputable def m51K4 (M : Cut Int) (k : Nat) : Exit → St → Option Int := seqK (normAt 0 m51A false (m51c [true, true, true])) (cutK M m51A (m51c [true, true, true]) fun s => evC (m51E k) M (m51I k) 0 m51A (m51c [true, true, true]) s (retK Try.prog Try.f51 [.leaf (.val (.int .i64))])) (retK Try.prog Try.f51 [.leaf (.val (.int .i64))])

noncomputable def m51X (k : Nat) (p0 : Int) (p1 : Int) : Option Int := (if (!eqI (bits BinOp.and IntKind.i64 p0 1) p1) = true then (if leI 0 1 = true then some (bits BinOp.xor IntKind.i64 (p0 / 2) 3988292384) else none) else (if leI 0 1 = true then some (p0 / 2) else none))

theorem m51x (M : Cut Int) (k : Nat) (p0 : Int) (p1 : Int) : evC (m51E k) M (m51I k) 0 m51A (m51c []) (stAt Try.f51 (argSs [.leaf (.val (.int .i64)), .leaf (.val (.int .i64))] (p0, p1)) (fun _ => none) 0) (retK Try.prog Try.f51 [.leaf (.val (.int .i64))]) = m51X k p0 p1 := by kernel_rfl

noncomputable def m51F (k : Nat) (p0 : Int) (p1 : Int) : Option Int := m51X k p0 p1

theorem m51q (k : Nat) (p0 : Int) (p1 : Int) : evC (m51E k) (fun _ f => f) (m51I k) 0 m51A (m51c []) (stAt Try.f51 (argSs [.leaf (.val (.int .i64)), .leaf (.val (.int .i64))] (p0, p1)) (fun _ => none) 0) (retK Try.prog Try.f51 [.leaf (.val (.int .i64))]) = m51F k p0 p1 := by
    show _ = m51X k p0 p1
    exact m51x (fun _ f => f) k p0 p1

noncomputable def m51sp : Spec := { ps := [.leaf (.val (.int .i64)), .leaf (.val (.int .i64))], rs := [.leaf (.val (.int .i64))], f := fun k a => m51F k a.1 a.2 }

theorem m51ok (k : Nat) : EnvOk (m51E k) := envOk_of (l := []) (lB := []) progNames progMixed rfl rfl (.nil) (.nil)

theorem m51con (k : Nat) : Contract Try.prog k 51 m51sp := contract_of (E := m51E k) (m51ok k) (A := only 51 m51A) (d := 3) (c := m51c []) (by kernel_rfl) (by kernel_rfl) fun a _ h => (m51q k a.1 a.2).trans h

noncomputable def m41A : Anns := tabA [(7, { keep := [0, 3, 4] }), (8, { keep := [0, 3, 4] }), (13, { keep := [0, 3, 4, 5] }), (18, { keep := [3] })]
noncomputable def m41E (k : Nat) : Env := { P := Try.prog, k := k, G := tabG [(51, m51sp)], GB := tabGB [] }
noncomputable def m41c (p : List Bool) : Code := sub p (bodyOf Try.f41)
noncomputable def m41I (k : Nat) : Inl Int := inlOf (m41E k) (only 41 m41A) 3
noncomputable def m41K0 (M : Cut Int) (k : Nat) : Exit → St → Option Int := seqK (normAt 0 m41A false (m41c [true])) (cutK M m41A (m41c [true]) fun s => evC (m41E k) M (m41I k) 0 m41A (m41c [true]) s (retK Try.prog Try.f41 [.leaf (.val (.int .i64))])) (retK Try.prog Try.f41 [.leaf (.val (.int .i64))])
noncomputable def m41K1 (M : Cut Int) (k : Nat) : Exit → St → Option Int := seqK (normAt 0 m41A false (m41c [true, true])) (cutK M m41A (m41c [true, true]) fun s => evC (m41E k) M (m41I k) 0 m41A (m41c [true, true]) s (retK Try.prog Try.f41 [.leaf (.val (.int .i64))])) (retK Try.prog Try.f41 [.leaf (.val (.int .i64))])
noncomputable def m41K2 (M : Cut Int) (k : Nat) : Exit → St → Option Int := seqK (normAt 0 m41A false (m41c [true, true, true])) (cutK M m41A (m41c [true, true, true]) fun s => evC (m41E k) M (m41I k) 0 m41A (m41c [true, true, true]) s (retK Try.prog Try.f41 [.leaf (.val (.int .i64))])) (retK Try.prog Try.f41 [.leaf (.val (.int .i64))])
noncomputable def m41K3 (M : Cut Int) (k : Nat) : Exit → St → Option Int := seqK (normAt 0 m41A false (m41c [true, true, false, true])) (cutK M m41A (m41c [true, true, false, true]) fun s => evC (m41E k) M (m41I k) 0 m41A (m41c [true, true, false, true]) s (m41K2 M k)) (m41K2 M k)
noncomputable def m41K4 (M : Cut Int) (k : Nat) : Exit → St → Option Int := blockK 0 (m41K2 M k)
noncomputable def m41K5 (M : Cut Int) (k : Nat) (L7 : St → Option Int) : Exit → St → Option Int := seqK (normAt 0 m41A true (m41c [true, true, false, true, true, true])) L7 (m41K4 M k)
noncomputable def m41K6 (M : Cut Int) (k : Nat) (L7 : St → Option Int) : Exit → St → Option Int := seqK (normAt 0 m41A false (m41c [true, true, false, true, true, true, true])) (cutK M m41A (m41c [true, true, false, true, true, true, true]) fun s => evC (m41E k) M (m41I k) 0 m41A (m41c [true, true, false, true, true, true, true]) s (m41K5 M k L7)) (m41K5 M k L7)
noncomputable def m41K7 (M : Cut Int) (k : Nat) (L7 : St → Option Int) : Exit → St → Option Int := seqK (normAt 0 m41A false (m41c [true, true, false, true, true, true, false, true])) (cutK M m41A (m41c [true, true, false, true, true, true, false, true]) fun s => evC (m41E k) M (m41I k) 0 m41A (m41c [true, true, false, true, true, true, false, true]) s (m41K6 M k L7)) (m41K6 M k L7)
noncomputable def m41K8 (M : Cut Int) (k : Nat) (L7 : St → Option Int) : Exit → St → Option Int := seqK (normAt 0 m41A false (m41c [true, true, false, true, true, true, true, true])) (cutK M m41A (m41c [true, true, false, true, true, true, true, true]) fun s => evC (m41E k) M (m41I k) 0 m41A (m41c [true, true, false, true, true, true, true, true]) s (m41K5 M k L7)) (m41K5 M k L7)
noncomputable def m41K9 (M : Cut Int) (k : Nat) (L7 : St → Option Int) : Exit → St → Option Int := blockK 1 (m41K8 M k L7)
noncomputable def m41K10 (M : Cut Int) (k : Nat) (L7 : St → Option Int) : Exit → St → Option Int := seqK (normAt 0 m41A false (m41c [true, true, false, true, true, true, true, false, true, true])) (cutK M m41A (m41c [true, true, false, true, true, true, true, false, true, true]) fun s => evC (m41E k) M (m41I k) 0 m41A (m41c [true, true, false, true, true, true, true, false, true, true]) s (m41K9 M k L7)) (m41K9 M k L7)
noncomputable def m41K11 (M : Cut Int) (k : Nat) (L7 : St → Option Int) : Exit → St → Option Int := blockK 2 (m41K9 M k L7)
noncomputable def m41K12 (M : Cut Int) (k : Nat) (L7 : St → Option Int) (L13 : St → Option Int) : Exit → St → Option Int := seqK (normAt 0 m41A true (m41c [true, true, false, true, true, true, true, false, true, true, true, true])) L13 (m41K11 M k L7)
noncomputable def m41K13 (M : Cut Int) (k : Nat) (L7 : St → Option Int) (L13 : St → Option Int) : Exit → St → Option Int := seqK (normAt 0 m41A false (m41c [true, true, false, true, true, true, true, false, true, true, true, true, true])) (cutK M m41A (m41c [true, true, false, true, true, true, true, false, true, true, true, true, true]) fun s => evC (m41E k) M (m41I k) 0 m41A (m41c [true, true, false, true, true, true, true, false, true, true, true, true, true]) s (m41K12 M k L7 L13)) (m41K12 M k L7 L13)
noncomputable def m41K14 (M : Cut Int) (k : Nat) (L7 : St → Option Int) (L13 : St → Option Int) : Exit → St → Option Int := seqK (normAt 0 m41A false (m41c [true, true, false, true, true, true, true, false, true, true, true, true, false, true])) (cutK M m41A (m41c [true, true, false, true, true, true, true, false, true, true, true, true, false, true]) fun s => evC (m41E k) M (m41I k) 0 m41A (m41c [true, true, false, true, true, true, true, false, true, true, true, true, false, true]) s (m41K13 M k L7 L13)) (m41K13 M k L7 L13)
noncomputable def m41K15 (M : Cut Int) (k : Nat) (L7 : St → Option Int) (L13 : St → Option Int) : Exit → St → Option Int := seqK (normAt 0 m41A false (m41c [true, true, false, true, true, true, true, false, true, true, true, true, true, true])) (cutK M m41A (m41c [true, true, false, true, true, true, true, false, true, true, true, true, true, true]) fun s => evC (m41E k) M (m41I k) 0 m41A (m41c [true, true, false, true, true, true, true, false, true, true, true, true, true, true]) s (m41K12 M k L7 L13)) (m41K12 M k L7 L13)
noncomputable def m41K16 (M : Cut Int) (k : Nat) (L7 : St → Option Int) (L13 : St → Option Int) : Exit → St → Option Int := blockK 3 (m41K15 M k L7 L13)
noncomputable def m41K17 (M : Cut Int) (k : Nat) : Exit → St → Option Int := seqK (normAt 0 m41A false (m41c [true, true, true, true])) (cutK M m41A (m41c [true, true, true, true]) fun s => evC (m41E k) M (m41I k) 0 m41A (m41c [true, true, true, true]) s (retK Try.prog Try.f41 [.leaf (.val (.int .i64))])) (retK Try.prog Try.f41 [.leaf (.val (.int .i64))])
noncomputable def m41S7 (t0 : List Int) (t3 : Int) (t4 : Int) : St := { n := 29, tm := slots [(0, .row (.int .u8) t0), (3, .int .i64 t3), (4, .int .i64 t4)], tab := blks [], nx := 0 }
noncomputable def m41S13 (t0 : List Int) (t3 : Int) (t4 : Int) (t5 : Int) : St := { n := 29, tm := slots [(0, .row (.int .u8) t0), (3, .int .i64 t3), (4, .int .i64 t4), (5, .int .i64 t5)], tab := blks [], nx := 0 }
noncomputable def m41S18 (t3 : Int) : St := { n := 29, tm := slots [(3, .int .i64 t3)], tab := blks [], nx := 0 }
noncomputable def m41S8 (t0 : List Int) (t3 : Int) (t4 : Int) : St := { n := 29, tm := slots [(0, .row (.int .u8) t0), (3, .int .i64 t3), (4, .int .i64 t4)], tab := blks [], nx := 0 }

noncomputable def m41X (X7 : List Int → Int → Int → Option Int) (k : Nat) (p0 : (List Int)) : Option Int := X7 p0 (4294967295) (0)

theorem m41x (M : Cut Int) (k : Nat) (p0 : (List Int)) : evC (m41E k) M (m41I k) 0 m41A (m41c []) (stAt Try.f41 (argSs [.leaf (.val (.row (.int .u8)))] p0) (fun _ => none) 0) (retK Try.prog Try.f41 [.leaf (.val (.int .i64))]) = m41X (fun t0' t3' t4' => loopN (normAt 0 m41A true (m41c [true, true, false, true, true, true])) (fun K s => evC (m41E k) M (m41I k) 0 m41A (m41c [true, true, false, true, true, true]) s K) (m41K4 M k) k (m41S7 t0' t3' t4')) k p0 := by kernel_rfl

noncomputable def m41X7 (X13 : List Int → Int → Int → Int → Option Int) (X18 : Int → Option Int) (k : Nat) (t0 : List Int) (t3 : Int) (t4 : Int) : Option Int := (if ltI t4 (↑(List.length t0) : Int) = true then X13 t0 t3 t4 (0) else X18 t3)

theorem m41x7 (M : Cut Int) (k : Nat) (L7 : St → Option Int) (t0 : List Int) (t3 : Int) (t4 : Int) : evC (m41E k) M (m41I k) 0 m41A (m41c [true, true, false, true, true, true]) (m41S7 t0 t3 t4) (seqK (normAt 0 m41A true (m41c [true, true, false, true, true, true])) L7 (m41K4 M k)) = m41X7 (fun t0' t3' t4' t5' => loopN (normAt 0 m41A true (m41c [true, true, false, true, true, true, true, false, true, true, true, true])) (fun K s => evC (m41E k) M (m41I k) 0 m41A (m41c [true, true, false, true, true, true, true, false, true, true, true, true]) s K) (m41K11 M k L7) k (m41S13 t0' t3' t4' t5')) (fun t3' => M 18 (fun s => evC (m41E k) M (m41I k) 0 m41A (m41c [true, true, true]) s (retK Try.prog Try.f41 [.leaf (.val (.int .i64))])) (m41S18 t3')) k t0 t3 t4 := by kernel_rfl

noncomputable def m41X13 (X8 : List Int → Int → Int → Option Int) (L13 : List Int → Int → Int → Int → Option Int) (k : Nat) (t0 : List Int) (t3 : Int) (t4 : Int) (t5 : Int) : Option Int := (if ltI t5 8 = true then (if leI 0 t4 = true then (if ltI t4 (↑(List.length t0) : Int) = true then (if leI 0 (wr IntKind.u64 t5) = true then (Option.bind (m51F k t3
  (bits BinOp.and IntKind.i64
    (wr IntKind.i64 (List.getD t0 (Int.toNat t4) 0 / p2 (min (Int.toNat (wr IntKind.u64 t5)) 8))) 1)) fun (c8 : Int) => L13 t0 c8 t4 (wr IntKind.i64 (t5 + 1))) else none) else none) else none) else X8 t0 t3 t4)

theorem m41x13 (M : Cut Int) (k : Nat) (L7 : St → Option Int) (L13 : St → Option Int) (t0 : List Int) (t3 : Int) (t4 : Int) (t5 : Int) : evC (m41E k) M (m41I k) 0 m41A (m41c [true, true, false, true, true, true, true, false, true, true, true, true]) (m41S13 t0 t3 t4 t5) (seqK (normAt 0 m41A true (m41c [true, true, false, true, true, true, true, false, true, true, true, true])) L13 (m41K11 M k L7)) = m41X13 (fun t0' t3' t4' => M 8 (fun s => evC (m41E k) M (m41I k) 0 m41A (m41c [true, true, false, true, true, true, true, true]) s (m41K5 M k L7)) (m41S8 t0' t3' t4')) (fun t0' t3' t4' t5' => L13 (m41S13 t0' t3' t4' t5')) k t0 t3 t4 t5 := by kernel_rfl

noncomputable def m41X18 (k : Nat) (t3 : Int) : Option Int := some (bits BinOp.xor IntKind.i64 t3 4294967295)

theorem m41x18 (M : Cut Int) (k : Nat) (t3 : Int) : evC (m41E k) M (m41I k) 0 m41A (m41c [true, true, true]) (m41S18 t3) (retK Try.prog Try.f41 [.leaf (.val (.int .i64))]) = m41X18 k t3 := by kernel_rfl

noncomputable def m41X8 (L7 : List Int → Int → Int → Option Int) (k : Nat) (t0 : List Int) (t3 : Int) (t4 : Int) : Option Int := L7 t0 t3 (wr IntKind.i64 (t4 + 1))

theorem m41x8 (M : Cut Int) (k : Nat) (L7 : St → Option Int) (t0 : List Int) (t3 : Int) (t4 : Int) : evC (m41E k) M (m41I k) 0 m41A (m41c [true, true, false, true, true, true, true, true]) (m41S8 t0 t3 t4) (m41K5 M k L7) = m41X8 (fun t0' t3' t4' => L7 (m41S7 t0' t3' t4')) k t0 t3 t4 := by kernel_rfl

noncomputable def m41F18 (k : Nat) (t3 : Int) : Option Int := m41X18 k t3

theorem m41q18 (k : Nat) (t3 : Int) : evC (m41E k) (fun _ f => f) (m41I k) 0 m41A (m41c [true, true, true]) (m41S18 t3) (retK Try.prog Try.f41 [.leaf (.val (.int .i64))]) = m41F18 k t3 := by
    show _ = m41X18 k t3
    exact m41x18 (fun _ f => f) k t3

noncomputable def m41F8 (k : Nat) (L7 : List Int → Int → Int → Option Int) (t0 : List Int) (t3 : Int) (t4 : Int) : Option Int := m41X8 L7 k t0 t3 t4

theorem m41q8 (k : Nat) (L7 : St → Option Int) (t0 : List Int) (t3 : Int) (t4 : Int) : evC (m41E k) (fun _ f => f) (m41I k) 0 m41A (m41c [true, true, false, true, true, true, true, true]) (m41S8 t0 t3 t4) (m41K5 (fun _ f => f) k L7) = m41F8 k (fun t0' t3' t4' => L7 (m41S7 t0' t3' t4')) t0 t3 t4 := by
    show _ = m41X8 (fun t0' t3' t4' => L7 (m41S7 t0' t3' t4')) k t0 t3 t4
    exact m41x8 (fun _ f => f) k L7 t0 t3 t4

noncomputable def m41F13 (k : Nat) (L7 : List Int → Int → Int → Option Int) : Nat → List Int → Int → Int → Int → Option Int
  | 0, _, _, _, _ => none
  | j + 1, t0, t3, t4, t5 => m41X13 (m41F8 k L7) (m41F13 k L7 j) k t0 t3 t4 t5

theorem m41q13 (k : Nat) (L7 : St → Option Int) : ∀ (j : Nat) (t0 : List Int) (t3 : Int) (t4 : Int) (t5 : Int), loopN (normAt 0 m41A true (m41c [true, true, false, true, true, true, true, false, true, true, true, true])) (fun K s => evC (m41E k) (fun _ f => f) (m41I k) 0 m41A (m41c [true, true, false, true, true, true, true, false, true, true, true, true]) s K) (m41K11 (fun _ f => f) k L7) j (m41S13 t0 t3 t4 t5) = m41F13 k (fun t0' t3' t4' => L7 (m41S7 t0' t3' t4')) j t0 t3 t4 t5
  | 0, _, _, _, _ => rfl
  | j + 1, t0, t3, t4, t5 => by
    have e0 : m41F13 k (fun t0' t3' t4' => L7 (m41S7 t0' t3' t4')) j = (fun t0' t3' t4' t5' => loopN (normAt 0 m41A true (m41c [true, true, false, true, true, true, true, false, true, true, true, true])) (fun K s => evC (m41E k) (fun _ f => f) (m41I k) 0 m41A (m41c [true, true, false, true, true, true, true, false, true, true, true, true]) s K) (m41K11 (fun _ f => f) k L7) j (m41S13 t0' t3' t4' t5')) := funext fun t0' => funext fun t3' => funext fun t4' => funext fun t5' => (m41q13 k L7 j t0' t3' t4' t5').symm
    have e8 : m41F8 k (fun t0' t3' t4' => L7 (m41S7 t0' t3' t4')) = (fun t0' t3' t4' => evC (m41E k) (fun _ f => f) (m41I k) 0 m41A (m41c [true, true, false, true, true, true, true, true]) (m41S8 t0' t3' t4') (m41K5 (fun _ f => f) k L7)) := funext fun t0' => funext fun t3' => funext fun t4' => (m41q8 k L7 t0' t3' t4').symm
    show _ = m41X13 (m41F8 k (fun t0' t3' t4' => L7 (m41S7 t0' t3' t4'))) (m41F13 k (fun t0' t3' t4' => L7 (m41S7 t0' t3' t4')) j) k t0 t3 t4 t5
    rw [e0, e8]
    exact m41x13 (fun _ f => f) k L7 (loopN (normAt 0 m41A true (m41c [true, true, false, true, true, true, true, false, true, true, true, true])) (fun K s => evC (m41E k) (fun _ f => f) (m41I k) 0 m41A (m41c [true, true, false, true, true, true, true, false, true, true, true, true]) s K) (m41K11 (fun _ f => f) k L7) j) t0 t3 t4 t5

noncomputable def m41F7 (k : Nat) : Nat → List Int → Int → Int → Option Int
  | 0, _, _, _ => none
  | j + 1, t0, t3, t4 => m41X7 (m41F13 k (m41F7 k j) k) (m41F18 k) k t0 t3 t4

theorem m41q7 (k : Nat) : ∀ (j : Nat) (t0 : List Int) (t3 : Int) (t4 : Int), loopN (normAt 0 m41A true (m41c [true, true, false, true, true, true])) (fun K s => evC (m41E k) (fun _ f => f) (m41I k) 0 m41A (m41c [true, true, false, true, true, true]) s K) (m41K4 (fun _ f => f) k) j (m41S7 t0 t3 t4) = m41F7 k j t0 t3 t4
  | 0, _, _, _ => rfl
  | j + 1, t0, t3, t4 => by
    have e0 : m41F7 k j = (fun t0' t3' t4' => loopN (normAt 0 m41A true (m41c [true, true, false, true, true, true])) (fun K s => evC (m41E k) (fun _ f => f) (m41I k) 0 m41A (m41c [true, true, false, true, true, true]) s K) (m41K4 (fun _ f => f) k) j (m41S7 t0' t3' t4')) := funext fun t0' => funext fun t3' => funext fun t4' => (m41q7 k j t0' t3' t4').symm
    have e13 : m41F13 k (fun t0' t3' t4' => loopN (normAt 0 m41A true (m41c [true, true, false, true, true, true])) (fun K s => evC (m41E k) (fun _ f => f) (m41I k) 0 m41A (m41c [true, true, false, true, true, true]) s K) (m41K4 (fun _ f => f) k) j (m41S7 t0' t3' t4')) k = (fun t0' t3' t4' t5' => loopN (normAt 0 m41A true (m41c [true, true, false, true, true, true, true, false, true, true, true, true])) (fun K s => evC (m41E k) (fun _ f => f) (m41I k) 0 m41A (m41c [true, true, false, true, true, true, true, false, true, true, true, true]) s K) (m41K11 (fun _ f => f) k (loopN (normAt 0 m41A true (m41c [true, true, false, true, true, true])) (fun K s => evC (m41E k) (fun _ f => f) (m41I k) 0 m41A (m41c [true, true, false, true, true, true]) s K) (m41K4 (fun _ f => f) k) j)) k (m41S13 t0' t3' t4' t5')) := funext fun t0' => funext fun t3' => funext fun t4' => funext fun t5' => (m41q13 k (loopN (normAt 0 m41A true (m41c [true, true, false, true, true, true])) (fun K s => evC (m41E k) (fun _ f => f) (m41I k) 0 m41A (m41c [true, true, false, true, true, true]) s K) (m41K4 (fun _ f => f) k) j) k t0' t3' t4' t5').symm
    have e18 : m41F18 k = (fun t3' => evC (m41E k) (fun _ f => f) (m41I k) 0 m41A (m41c [true, true, true]) (m41S18 t3') (retK Try.prog Try.f41 [.leaf (.val (.int .i64))])) := funext fun t3' => (m41q18 k t3').symm
    show _ = m41X7 (m41F13 k (m41F7 k j) k) (m41F18 k) k t0 t3 t4
    rw [e0, e13, e18]
    exact m41x7 (fun _ f => f) k (loopN (normAt 0 m41A true (m41c [true, true, false, true, true, true])) (fun K s => evC (m41E k) (fun _ f => f) (m41I k) 0 m41A (m41c [true, true, false, true, true, true]) s K) (m41K4 (fun _ f => f) k) j) t0 t3 t4

noncomputable def m41F (k : Nat) (p0 : (List Int)) : Option Int := m41X (m41F7 k k) k p0

theorem m41q (k : Nat) (p0 : (List Int)) : evC (m41E k) (fun _ f => f) (m41I k) 0 m41A (m41c []) (stAt Try.f41 (argSs [.leaf (.val (.row (.int .u8)))] p0) (fun _ => none) 0) (retK Try.prog Try.f41 [.leaf (.val (.int .i64))]) = m41F k p0 := by
    have e7 : m41F7 k k = (fun t0' t3' t4' => loopN (normAt 0 m41A true (m41c [true, true, false, true, true, true])) (fun K s => evC (m41E k) (fun _ f => f) (m41I k) 0 m41A (m41c [true, true, false, true, true, true]) s K) (m41K4 (fun _ f => f) k) k (m41S7 t0' t3' t4')) := funext fun t0' => funext fun t3' => funext fun t4' => (m41q7 k k t0' t3' t4').symm
    show _ = m41X (m41F7 k k) k p0
    rw [e7]
    exact m41x (fun _ f => f) k p0

noncomputable def m41sp : Spec := { ps := [.leaf (.val (.row (.int .u8)))], rs := [.leaf (.val (.int .i64))], f := fun k a => m41F k a }

theorem m41ok (k : Nat) : EnvOk (m41E k) := envOk_of (l := [(51, m51sp)]) (lB := []) progNames progMixed rfl rfl (.cons ⟨m51con k, Try.f51, by kernel_rfl, by kernel_rfl⟩ (.nil)) (.nil)

theorem m41con (k : Nat) : Contract Try.prog k 41 m41sp := contract_of (E := m41E k) (m41ok k) (A := only 41 m41A) (d := 3) (c := m41c []) (by kernel_rfl) (by kernel_rfl) fun a _ h => (m41q k a).trans h

noncomputable def m24A : Anns := tabA []
noncomputable def m24E (k : Nat) : Env := { P := Try.prog, k := k, G := tabG [(21, m21sp), (41, m41sp)], GB := tabGB [] }
noncomputable def m24c (p : List Bool) : Code := sub p (bodyOf Try.f24)
noncomputable def m24I (k : Nat) : Inl (List Int) := inlOf (m24E k) (only 24 m24A) 3
noncomputable def m24K0 (M : Cut (List Int)) (k : Nat) : Exit → St → Option (List Int) := seqK (normAt 0 m24A false (m24c [true])) (cutK M m24A (m24c [true]) fun s => evC (m24E k) M (m24I k) 0 m24A (m24c [true]) s (retK Try.prog Try.f24 [.leaf (.own (.int .u8) 5)])) (retK Try.prog Try.f24 [.leaf (.own (.int .u8) 5)])
noncomputable def m24K1 (M : Cut (List Int)) (k : Nat) : Exit → St → Option (List Int) := seqK (normAt 0 m24A false (m24c [true, true])) (cutK M m24A (m24c [true, true]) fun s => evC (m24E k) M (m24I k) 0 m24A (m24c [true, true]) s (retK Try.prog Try.f24 [.leaf (.own (.int .u8) 5)])) (retK Try.prog Try.f24 [.leaf (.own (.int .u8) 5)])
noncomputable def m24K2 (M : Cut (List Int)) (k : Nat) : Exit → St → Option (List Int) := seqK (normAt 0 m24A false (m24c [true, true, true])) (cutK M m24A (m24c [true, true, true]) fun s => evC (m24E k) M (m24I k) 0 m24A (m24c [true, true, true]) s (retK Try.prog Try.f24 [.leaf (.own (.int .u8) 5)])) (retK Try.prog Try.f24 [.leaf (.own (.int .u8) 5)])

noncomputable def m24X (k : Nat) (p0 : (List Int)) : Option (List Int) := (Option.bind (m41F k p0) fun (c3 : Int) => (Option.bind (m21F k p0) fun (c4 : (List Int)) => (if leI 0 8 = true then (if leI 0 16 = true then (if leI 0 24 = true then (if leI
    (↑((List.length c4 +
            List.length
              (List.set
                (List.set (List.set (List.set (List.replicate 4 0) 0 (wr IntKind.u8 c3)) 1 (wr IntKind.u8 (c3 / 256))) 2
                  (wr IntKind.u8 (c3 / 65536)))
                3 (wr IntKind.u8 (c3 / 16777216)))) *
          1) :
      Int)
    140737488355328 =
  true then some (c4 ++
  List.set
    (List.set (List.set (List.set (List.replicate 4 0) 0 (wr IntKind.u8 c3)) 1 (wr IntKind.u8 (c3 / 256))) 2
      (wr IntKind.u8 (c3 / 65536)))
    3 (wr IntKind.u8 (c3 / 16777216))) else none) else none) else none) else none)))

theorem m24x (M : Cut (List Int)) (k : Nat) (p0 : (List Int)) : evC (m24E k) M (m24I k) 0 m24A (m24c []) (stAt Try.f24 (argSs [.leaf (.val (.row (.int .u8)))] p0) (fun _ => none) 0) (retK Try.prog Try.f24 [.leaf (.own (.int .u8) 5)]) = m24X k p0 := by kernel_rfl

noncomputable def m24F (k : Nat) (p0 : (List Int)) : Option (List Int) := m24X k p0

theorem m24q (k : Nat) (p0 : (List Int)) : evC (m24E k) (fun _ f => f) (m24I k) 0 m24A (m24c []) (stAt Try.f24 (argSs [.leaf (.val (.row (.int .u8)))] p0) (fun _ => none) 0) (retK Try.prog Try.f24 [.leaf (.own (.int .u8) 5)]) = m24F k p0 := by
    show _ = m24X k p0
    exact m24x (fun _ f => f) k p0

noncomputable def m24sp : Spec := { ps := [.leaf (.val (.row (.int .u8)))], rs := [.leaf (.own (.int .u8) 5)], f := fun k a => m24F k a }

theorem m24ok (k : Nat) : EnvOk (m24E k) := envOk_of (l := [(21, m21sp), (41, m41sp)]) (lB := []) progNames progMixed rfl rfl (.cons ⟨m21con k, Try.f21, by kernel_rfl, by kernel_rfl⟩ (.cons ⟨m41con k, Try.f41, by kernel_rfl, by kernel_rfl⟩ (.nil))) (.nil)

theorem m24con (k : Nat) : Contract Try.prog k 24 m24sp := contract_of (E := m24E k) (m24ok k) (A := only 24 m24A) (d := 3) (c := m24c []) (by kernel_rfl) (by kernel_rfl) fun a _ h => (m24q k a).trans h

noncomputable def m8A : Anns := tabA []
noncomputable def m8E (k : Nat) : Env := { P := Try.prog, k := k, G := tabG [(23, m23sp), (24, m24sp)], GB := tabGB [] }
noncomputable def m8c (p : List Bool) : Code := sub p (bodyOf Try.f8)
noncomputable def m8I (k : Nat) : Inl (List Int) := inlOf (m8E k) (only 8 m8A) 3
noncomputable def m8K0 (M : Cut (List Int)) (k : Nat) : Exit → St → Option (List Int) := seqK (normAt 0 m8A false (m8c [true])) (cutK M m8A (m8c [true]) fun s => evC (m8E k) M (m8I k) 0 m8A (m8c [true]) s (retK Try.prog Try.f8 [.leaf (.own (.int .u8) 5)])) (retK Try.prog Try.f8 [.leaf (.own (.int .u8) 5)])
noncomputable def m8K1 (M : Cut (List Int)) (k : Nat) : Exit → St → Option (List Int) := seqK (normAt 0 m8A false (m8c [true, true])) (cutK M m8A (m8c [true, true]) fun s => evC (m8E k) M (m8I k) 0 m8A (m8c [true, true]) s (retK Try.prog Try.f8 [.leaf (.own (.int .u8) 5)])) (retK Try.prog Try.f8 [.leaf (.own (.int .u8) 5)])
noncomputable def m8K2 (M : Cut (List Int)) (k : Nat) : Exit → St → Option (List Int) := seqK (normAt 0 m8A false (m8c [true, true, true])) (cutK M m8A (m8c [true, true, true]) fun s => evC (m8E k) M (m8I k) 0 m8A (m8c [true, true, true]) s (retK Try.prog Try.f8 [.leaf (.own (.int .u8) 5)])) (retK Try.prog Try.f8 [.leaf (.own (.int .u8) 5)])

noncomputable def m8X (k : Nat) (p0 : (Int × Int)) : Option (List Int) := (Option.bind (m23F k (Prod.fst p0) 4) fun (c3 : (List Int)) => (if leI (↑((1 + List.length c3) * 1) : Int) 140737488355328 = true then (Option.bind (m23F k (wr IntKind.i64 (Prod.snd p0)) 4) fun (c4 : (List Int)) => (if leI (↑((List.length (List.set (List.replicate 1 0) 0 65 ++ c3) + List.length c4) * 1) : Int) 140737488355328 = true then (Option.bind (m24F k (List.set (List.replicate 1 0) 0 65 ++ c3 ++ c4)) fun (c5 : (List Int)) => some c5) else none)) else none))

theorem m8x (M : Cut (List Int)) (k : Nat) (p0 : (Int × Int)) : evC (m8E k) M (m8I k) 0 m8A (m8c []) (stAt Try.f8 (argSs [.st (.pair (.int .i64) (.int .u32))] p0) (fun _ => none) 0) (retK Try.prog Try.f8 [.leaf (.own (.int .u8) 5)]) = m8X k p0 := by kernel_rfl

noncomputable def m8F (k : Nat) (p0 : (Int × Int)) : Option (List Int) := m8X k p0

theorem m8q (k : Nat) (p0 : (Int × Int)) : evC (m8E k) (fun _ f => f) (m8I k) 0 m8A (m8c []) (stAt Try.f8 (argSs [.st (.pair (.int .i64) (.int .u32))] p0) (fun _ => none) 0) (retK Try.prog Try.f8 [.leaf (.own (.int .u8) 5)]) = m8F k p0 := by
    show _ = m8X k p0
    exact m8x (fun _ f => f) k p0

noncomputable def m8sp : Spec := { ps := [.st (.pair (.int .i64) (.int .u32))], rs := [.leaf (.own (.int .u8) 5)], f := fun k a => m8F k a }

theorem m8ok (k : Nat) : EnvOk (m8E k) := envOk_of (l := [(23, m23sp), (24, m24sp)]) (lB := []) progNames progMixed rfl rfl (.cons ⟨m23con k, Try.f23, by kernel_rfl, by kernel_rfl⟩ (.cons ⟨m24con k, Try.f24, by kernel_rfl, by kernel_rfl⟩ (.nil))) (.nil)

theorem m8con (k : Nat) : Contract Try.prog k 8 m8sp := contract_of (E := m8E k) (m8ok k) (A := only 8 m8A) (d := 3) (c := m8c []) (by kernel_rfl) (by kernel_rfl) fun a _ h => (m8q k a).trans h

noncomputable def m9A : Anns := tabA [(7, { keep := [0, 3, 4], mat := [(3, (.row (.int .u8)), 26)] })]
noncomputable def m9E (k : Nat) : Env := { P := Try.prog, k := k, G := tabG [(21, m21sp)], GB := tabGB [] }
noncomputable def m9c (p : List Bool) : Code := sub p (bodyOf Try.f9)
noncomputable def m9I (k : Nat) : Inl (List (List Int)) := inlOf (m9E k) (only 9 m9A) 3
noncomputable def m9K0 (M : Cut (List (List Int))) (k : Nat) : Exit → St → Option (List (List Int)) := seqK (normAt 0 m9A false (m9c [true])) (cutK M m9A (m9c [true]) fun s => evC (m9E k) M (m9I k) 0 m9A (m9c [true]) s (retK Try.prog Try.f9 [.leaf (.own (.row (.int .u8)) 26)])) (retK Try.prog Try.f9 [.leaf (.own (.row (.int .u8)) 26)])
noncomputable def m9K1 (M : Cut (List (List Int))) (k : Nat) : Exit → St → Option (List (List Int)) := seqK (normAt 0 m9A false (m9c [true, true])) (cutK M m9A (m9c [true, true]) fun s => evC (m9E k) M (m9I k) 0 m9A (m9c [true, true]) s (retK Try.prog Try.f9 [.leaf (.own (.row (.int .u8)) 26)])) (retK Try.prog Try.f9 [.leaf (.own (.row (.int .u8)) 26)])
noncomputable def m9K2 (M : Cut (List (List Int))) (k : Nat) : Exit → St → Option (List (List Int)) := seqK (normAt 0 m9A false (m9c [true, true, true])) (cutK M m9A (m9c [true, true, true]) fun s => evC (m9E k) M (m9I k) 0 m9A (m9c [true, true, true]) s (retK Try.prog Try.f9 [.leaf (.own (.row (.int .u8)) 26)])) (retK Try.prog Try.f9 [.leaf (.own (.row (.int .u8)) 26)])
noncomputable def m9K3 (M : Cut (List (List Int))) (k : Nat) : Exit → St → Option (List (List Int)) := seqK (normAt 0 m9A false (m9c [true, true, false, true])) (cutK M m9A (m9c [true, true, false, true]) fun s => evC (m9E k) M (m9I k) 0 m9A (m9c [true, true, false, true]) s (m9K2 M k)) (m9K2 M k)
noncomputable def m9K4 (M : Cut (List (List Int))) (k : Nat) : Exit → St → Option (List (List Int)) := blockK 0 (m9K2 M k)
noncomputable def m9K5 (M : Cut (List (List Int))) (k : Nat) (L7 : St → Option (List (List Int))) : Exit → St → Option (List (List Int)) := seqK (normAt 0 m9A true (m9c [true, true, false, true, true, true])) L7 (m9K4 M k)
noncomputable def m9K6 (M : Cut (List (List Int))) (k : Nat) (L7 : St → Option (List (List Int))) : Exit → St → Option (List (List Int)) := seqK (normAt 0 m9A false (m9c [true, true, false, true, true, true, true])) (cutK M m9A (m9c [true, true, false, true, true, true, true]) fun s => evC (m9E k) M (m9I k) 0 m9A (m9c [true, true, false, true, true, true, true]) s (m9K5 M k L7)) (m9K5 M k L7)
noncomputable def m9K7 (M : Cut (List (List Int))) (k : Nat) (L7 : St → Option (List (List Int))) : Exit → St → Option (List (List Int)) := seqK (normAt 0 m9A false (m9c [true, true, false, true, true, true, false, true])) (cutK M m9A (m9c [true, true, false, true, true, true, false, true]) fun s => evC (m9E k) M (m9I k) 0 m9A (m9c [true, true, false, true, true, true, false, true]) s (m9K6 M k L7)) (m9K6 M k L7)
noncomputable def m9K8 (M : Cut (List (List Int))) (k : Nat) (L7 : St → Option (List (List Int))) : Exit → St → Option (List (List Int)) := seqK (normAt 0 m9A false (m9c [true, true, false, true, true, true, true, true])) (cutK M m9A (m9c [true, true, false, true, true, true, true, true]) fun s => evC (m9E k) M (m9I k) 0 m9A (m9c [true, true, false, true, true, true, true, true]) s (m9K5 M k L7)) (m9K5 M k L7)
noncomputable def m9K9 (M : Cut (List (List Int))) (k : Nat) (L7 : St → Option (List (List Int))) : Exit → St → Option (List (List Int)) := blockK 1 (m9K8 M k L7)
noncomputable def m9K10 (M : Cut (List (List Int))) (k : Nat) : Exit → St → Option (List (List Int)) := seqK (normAt 0 m9A false (m9c [true, true, true, true])) (cutK M m9A (m9c [true, true, true, true]) fun s => evC (m9E k) M (m9I k) 0 m9A (m9c [true, true, true, true]) s (retK Try.prog Try.f9 [.leaf (.own (.row (.int .u8)) 26)])) (retK Try.prog Try.f9 [.leaf (.own (.row (.int .u8)) 26)])
noncomputable def m9S7 (t0 : List (List Int)) (t4 : Int) (b0 : List (List Int)) : St := { n := 20, tm := slots [(0, .row (.row (.int .u8)) t0), (3, .own 0), (4, .int .i64 t4)], tab := blks [some (.row true (.row (.int .u8)) 26 b0)], nx := 1 }

noncomputable def m9X (X7 : List (List Int) → Int → List (List Int) → Option (List (List Int))) (k : Nat) (p0 : (List (List Int))) : Option (List (List Int)) := X7 p0 (0) ([])

theorem m9x (M : Cut (List (List Int))) (k : Nat) (p0 : (List (List Int))) : evC (m9E k) M (m9I k) 0 m9A (m9c []) (stAt Try.f9 (argSs [.leaf (.val (.row (.row (.int .u8))))] p0) (fun _ => none) 0) (retK Try.prog Try.f9 [.leaf (.own (.row (.int .u8)) 26)]) = m9X (fun t0' t4' b0' => loopN (normAt 0 m9A true (m9c [true, true, false, true, true, true])) (fun K s => evC (m9E k) M (m9I k) 0 m9A (m9c [true, true, false, true, true, true]) s K) (m9K4 M k) k (m9S7 t0' t4' b0')) k p0 := by kernel_rfl

noncomputable def m9X7 (L7 : List (List Int) → Int → List (List Int) → Option (List (List Int))) (k : Nat) (t0 : List (List Int)) (t4 : Int) (b0 : List (List Int)) : Option (List (List Int)) := (if ltI t4 (↑(List.length t0) : Int) = true then (if leI 0 t4 = true then (if ltI t4 (↑(List.length t0) : Int) = true then (Option.bind (m21F k (List.getD t0 (Int.toNat t4) [])) fun (c6 : (List Int)) => (if leI (↑((List.length b0 + List.length (List.set (List.replicate 1 []) 0 c6)) * 24) : Int) 140737488355328 = true then L7 t0 (wr IntKind.i64 (t4 + 1)) (b0 ++ List.set (List.replicate 1 []) 0 c6) else none)) else none) else none) else some b0)

theorem m9x7 (M : Cut (List (List Int))) (k : Nat) (L7 : St → Option (List (List Int))) (t0 : List (List Int)) (t4 : Int) (b0 : List (List Int)) : evC (m9E k) M (m9I k) 0 m9A (m9c [true, true, false, true, true, true]) (m9S7 t0 t4 b0) (seqK (normAt 0 m9A true (m9c [true, true, false, true, true, true])) L7 (m9K4 M k)) = m9X7 (fun t0' t4' b0' => L7 (m9S7 t0' t4' b0')) k t0 t4 b0 := by kernel_rfl

noncomputable def m9F7 (k : Nat) : Nat → List (List Int) → Int → List (List Int) → Option (List (List Int))
  | 0, _, _, _ => none
  | j + 1, t0, t4, b0 => m9X7 (m9F7 k j) k t0 t4 b0

theorem m9q7 (k : Nat) : ∀ (j : Nat) (t0 : List (List Int)) (t4 : Int) (b0 : List (List Int)), loopN (normAt 0 m9A true (m9c [true, true, false, true, true, true])) (fun K s => evC (m9E k) (fun _ f => f) (m9I k) 0 m9A (m9c [true, true, false, true, true, true]) s K) (m9K4 (fun _ f => f) k) j (m9S7 t0 t4 b0) = m9F7 k j t0 t4 b0
  | 0, _, _, _ => rfl
  | j + 1, t0, t4, b0 => by
    have e0 : m9F7 k j = (fun t0' t4' b0' => loopN (normAt 0 m9A true (m9c [true, true, false, true, true, true])) (fun K s => evC (m9E k) (fun _ f => f) (m9I k) 0 m9A (m9c [true, true, false, true, true, true]) s K) (m9K4 (fun _ f => f) k) j (m9S7 t0' t4' b0')) := funext fun t0' => funext fun t4' => funext fun b0' => (m9q7 k j t0' t4' b0').symm
    show _ = m9X7 (m9F7 k j) k t0 t4 b0
    rw [e0]
    exact m9x7 (fun _ f => f) k (loopN (normAt 0 m9A true (m9c [true, true, false, true, true, true])) (fun K s => evC (m9E k) (fun _ f => f) (m9I k) 0 m9A (m9c [true, true, false, true, true, true]) s K) (m9K4 (fun _ f => f) k) j) t0 t4 b0

noncomputable def m9F (k : Nat) (p0 : (List (List Int))) : Option (List (List Int)) := m9X (m9F7 k k) k p0

theorem m9q (k : Nat) (p0 : (List (List Int))) : evC (m9E k) (fun _ f => f) (m9I k) 0 m9A (m9c []) (stAt Try.f9 (argSs [.leaf (.val (.row (.row (.int .u8))))] p0) (fun _ => none) 0) (retK Try.prog Try.f9 [.leaf (.own (.row (.int .u8)) 26)]) = m9F k p0 := by
    have e7 : m9F7 k k = (fun t0' t4' b0' => loopN (normAt 0 m9A true (m9c [true, true, false, true, true, true])) (fun K s => evC (m9E k) (fun _ f => f) (m9I k) 0 m9A (m9c [true, true, false, true, true, true]) s K) (m9K4 (fun _ f => f) k) k (m9S7 t0' t4' b0')) := funext fun t0' => funext fun t4' => funext fun b0' => (m9q7 k k t0' t4' b0').symm
    show _ = m9X (m9F7 k k) k p0
    rw [e7]
    exact m9x (fun _ f => f) k p0

noncomputable def m9sp : Spec := { ps := [.leaf (.val (.row (.row (.int .u8))))], rs := [.leaf (.own (.row (.int .u8)) 26)], f := fun k a => m9F k a }

theorem m9ok (k : Nat) : EnvOk (m9E k) := envOk_of (l := [(21, m21sp)]) (lB := []) progNames progMixed rfl rfl (.cons ⟨m21con k, Try.f21, by kernel_rfl, by kernel_rfl⟩ (.nil)) (.nil)

theorem m9con (k : Nat) : Contract Try.prog k 9 m9sp := contract_of (E := m9E k) (m9ok k) (A := only 9 m9A) (d := 3) (c := m9c []) (by kernel_rfl) (by kernel_rfl) fun a _ h => (m9q k a).trans h

noncomputable def m56A : Anns := tabA []
noncomputable def m56E (k : Nat) : Env := { P := Try.prog, k := k, G := tabG [], GB := tabGB [] }
noncomputable def m56c (p : List Bool) : Code := sub p (bodyOf Try.f56)
noncomputable def m56I (k : Nat) : Inl (List Int) := inlOf (m56E k) (only 56 m56A) 3
noncomputable def m56K0 (M : Cut (List Int)) (k : Nat) : Exit → St → Option (List Int) := seqK (normAt 0 m56A false (m56c [true])) (cutK M m56A (m56c [true]) fun s => evC (m56E k) M (m56I k) 0 m56A (m56c [true]) s (retK Try.prog Try.f56 [.leaf (.own (.int .u8) 5)])) (retK Try.prog Try.f56 [.leaf (.own (.int .u8) 5)])
noncomputable def m56K1 (M : Cut (List Int)) (k : Nat) : Exit → St → Option (List Int) := seqK (normAt 0 m56A false (m56c [true, true])) (cutK M m56A (m56c [true, true]) fun s => evC (m56E k) M (m56I k) 0 m56A (m56c [true, true]) s (retK Try.prog Try.f56 [.leaf (.own (.int .u8) 5)])) (retK Try.prog Try.f56 [.leaf (.own (.int .u8) 5)])
noncomputable def m56K2 (M : Cut (List Int)) (k : Nat) : Exit → St → Option (List Int) := seqK (normAt 0 m56A false (m56c [true, false, true])) (cutK M m56A (m56c [true, false, true]) fun s => evC (m56E k) M (m56I k) 0 m56A (m56c [true, false, true]) s (m56K1 M k)) (m56K1 M k)
noncomputable def m56K3 (M : Cut (List Int)) (k : Nat) : Exit → St → Option (List Int) := seqK (normAt 0 m56A false (m56c [true, false, true, false, true])) (cutK M m56A (m56c [true, false, true, false, true]) fun s => evC (m56E k) M (m56I k) 0 m56A (m56c [true, false, true, false, true]) s (m56K1 M k)) (m56K1 M k)
noncomputable def m56K4 (M : Cut (List Int)) (k : Nat) : Exit → St → Option (List Int) := seqK (normAt 0 m56A false (m56c [true, true, true])) (cutK M m56A (m56c [true, true, true]) fun s => evC (m56E k) M (m56I k) 0 m56A (m56c [true, true, true]) s (retK Try.prog Try.f56 [.leaf (.own (.int .u8) 5)])) (retK Try.prog Try.f56 [.leaf (.own (.int .u8) 5)])

noncomputable def m56X (k : Nat) (p0 : (List Int)) : Option (List Int) := (nilK (List.isEmpty p0) (some ([])) ((if leI (↑((0 + List.length p0) * 1) : Int) 140737488355328 = true then some (List.replicate 0 0 ++ p0) else none)))

theorem m56x (M : Cut (List Int)) (k : Nat) (p0 : (List Int)) : evC (m56E k) M (m56I k) 0 m56A (m56c []) (stAt Try.f56 (argSs [.leaf (.val (.row (.int .u8)))] p0) (fun _ => none) 0) (retK Try.prog Try.f56 [.leaf (.own (.int .u8) 5)]) = m56X k p0 := by kernel_rfl

noncomputable def m56F (k : Nat) (p0 : (List Int)) : Option (List Int) := m56X k p0

theorem m56q (k : Nat) (p0 : (List Int)) : evC (m56E k) (fun _ f => f) (m56I k) 0 m56A (m56c []) (stAt Try.f56 (argSs [.leaf (.val (.row (.int .u8)))] p0) (fun _ => none) 0) (retK Try.prog Try.f56 [.leaf (.own (.int .u8) 5)]) = m56F k p0 := by
    show _ = m56X k p0
    exact m56x (fun _ f => f) k p0

noncomputable def m56sp : Spec := { ps := [.leaf (.val (.row (.int .u8)))], rs := [.leaf (.own (.int .u8) 5)], f := fun k a => m56F k a }

theorem m56ok (k : Nat) : EnvOk (m56E k) := envOk_of (l := []) (lB := []) progNames progMixed rfl rfl (.nil) (.nil)

theorem m56con (k : Nat) : Contract Try.prog k 56 m56sp := contract_of (E := m56E k) (m56ok k) (A := only 56 m56A) (d := 3) (c := m56c []) (by kernel_rfl) (by kernel_rfl) fun a _ h => (m56q k a).trans h

noncomputable def m62A : Anns := tabA [(7, { keep := [1, 5], mat := [(1, (.int .i64), 3)] }), (15, { keep := [1, 3, 5, 9] }), (26, { keep := [1, 3, 5] })]
noncomputable def m62E (k : Nat) : Env := { P := Try.prog, k := k, G := tabG [], GB := tabGB [] }
noncomputable def m62c (p : List Bool) : Code := sub p (bodyOf Try.f62)
noncomputable def m62I (k : Nat) : Inl (List Int) := inlOf (m62E k) (only 62 m62A) 3
noncomputable def m62K0 (M : Cut (List Int)) (k : Nat) : Exit → St → Option (List Int) := seqK (normAt 0 m62A false (m62c [true])) (cutK M m62A (m62c [true]) fun s => evC (m62E k) M (m62I k) 0 m62A (m62c [true]) s (retK Try.prog Try.f62 [.leaf (.own (.int .i64) 3)])) (retK Try.prog Try.f62 [.leaf (.own (.int .i64) 3)])
noncomputable def m62K1 (M : Cut (List Int)) (k : Nat) : Exit → St → Option (List Int) := seqK (normAt 0 m62A false (m62c [true, true])) (cutK M m62A (m62c [true, true]) fun s => evC (m62E k) M (m62I k) 0 m62A (m62c [true, true]) s (retK Try.prog Try.f62 [.leaf (.own (.int .i64) 3)])) (retK Try.prog Try.f62 [.leaf (.own (.int .i64) 3)])
noncomputable def m62K2 (M : Cut (List Int)) (k : Nat) : Exit → St → Option (List Int) := seqK (normAt 0 m62A false (m62c [true, true, true])) (cutK M m62A (m62c [true, true, true]) fun s => evC (m62E k) M (m62I k) 0 m62A (m62c [true, true, true]) s (retK Try.prog Try.f62 [.leaf (.own (.int .i64) 3)])) (retK Try.prog Try.f62 [.leaf (.own (.int .i64) 3)])
noncomputable def m62K3 (M : Cut (List Int)) (k : Nat) : Exit → St → Option (List Int) := seqK (normAt 0 m62A false (m62c [true, true, false, true])) (cutK M m62A (m62c [true, true, false, true]) fun s => evC (m62E k) M (m62I k) 0 m62A (m62c [true, true, false, true]) s (m62K2 M k)) (m62K2 M k)
noncomputable def m62K4 (M : Cut (List Int)) (k : Nat) : Exit → St → Option (List Int) := blockK 0 (m62K2 M k)
noncomputable def m62K5 (M : Cut (List Int)) (k : Nat) (L7 : St → Option (List Int)) : Exit → St → Option (List Int) := seqK (normAt 0 m62A true (m62c [true, true, false, true, true, true])) L7 (m62K4 M k)
noncomputable def m62K6 (M : Cut (List Int)) (k : Nat) (L7 : St → Option (List Int)) : Exit → St → Option (List Int) := seqK (normAt 0 m62A false (m62c [true, true, false, true, true, true, true])) (cutK M m62A (m62c [true, true, false, true, true, true, true]) fun s => evC (m62E k) M (m62I k) 0 m62A (m62c [true, true, false, true, true, true, true]) s (m62K5 M k L7)) (m62K5 M k L7)
noncomputable def m62K7 (M : Cut (List Int)) (k : Nat) (L7 : St → Option (List Int)) : Exit → St → Option (List Int) := seqK (normAt 0 m62A false (m62c [true, true, false, true, true, true, true, true])) (cutK M m62A (m62c [true, true, false, true, true, true, true, true]) fun s => evC (m62E k) M (m62I k) 0 m62A (m62c [true, true, false, true, true, true, true, true]) s (m62K5 M k L7)) (m62K5 M k L7)
noncomputable def m62K8 (M : Cut (List Int)) (k : Nat) (L7 : St → Option (List Int)) : Exit → St → Option (List Int) := seqK (normAt 0 m62A false (m62c [true, true, false, true, true, true, true, true, true])) (cutK M m62A (m62c [true, true, false, true, true, true, true, true, true]) fun s => evC (m62E k) M (m62I k) 0 m62A (m62c [true, true, false, true, true, true, true, true, true]) s (m62K5 M k L7)) (m62K5 M k L7)
noncomputable def m62K9 (M : Cut (List Int)) (k : Nat) (L7 : St → Option (List Int)) : Exit → St → Option (List Int) := blockK 1 (m62K8 M k L7)
noncomputable def m62K10 (M : Cut (List Int)) (k : Nat) (L7 : St → Option (List Int)) : Exit → St → Option (List Int) := seqK (normAt 0 m62A false (m62c [true, true, false, true, true, true, true, true, false, true, true])) (cutK M m62A (m62c [true, true, false, true, true, true, true, true, false, true, true]) fun s => evC (m62E k) M (m62I k) 0 m62A (m62c [true, true, false, true, true, true, true, true, false, true, true]) s (m62K9 M k L7)) (m62K9 M k L7)
noncomputable def m62K11 (M : Cut (List Int)) (k : Nat) (L7 : St → Option (List Int)) : Exit → St → Option (List Int) := seqK (normAt 0 m62A false (m62c [true, true, false, true, true, true, true, true, false, true, true, true])) (cutK M m62A (m62c [true, true, false, true, true, true, true, true, false, true, true, true]) fun s => evC (m62E k) M (m62I k) 0 m62A (m62c [true, true, false, true, true, true, true, true, false, true, true, true]) s (m62K9 M k L7)) (m62K9 M k L7)
noncomputable def m62K12 (M : Cut (List Int)) (k : Nat) (L7 : St → Option (List Int)) : Exit → St → Option (List Int) := seqK (normAt 0 m62A false (m62c [true, true, false, true, true, true, true, true, false, true, true, true, true])) (cutK M m62A (m62c [true, true, false, true, true, true, true, true, false, true, true, true, true]) fun s => evC (m62E k) M (m62I k) 0 m62A (m62c [true, true, false, true, true, true, true, true, false, true, true, true, true]) s (m62K9 M k L7)) (m62K9 M k L7)
noncomputable def m62K13 (M : Cut (List Int)) (k : Nat) (L7 : St → Option (List Int)) : Exit → St → Option (List Int) := seqK (normAt 0 m62A false (m62c [true, true, false, true, true, true, true, true, false, true, true, true, false, true])) (cutK M m62A (m62c [true, true, false, true, true, true, true, true, false, true, true, true, false, true]) fun s => evC (m62E k) M (m62I k) 0 m62A (m62c [true, true, false, true, true, true, true, true, false, true, true, true, false, true]) s (m62K12 M k L7)) (m62K12 M k L7)
noncomputable def m62K14 (M : Cut (List Int)) (k : Nat) (L7 : St → Option (List Int)) : Exit → St → Option (List Int) := blockK 2 (m62K12 M k L7)
noncomputable def m62K15 (M : Cut (List Int)) (k : Nat) (L7 : St → Option (List Int)) (L15 : St → Option (List Int)) : Exit → St → Option (List Int) := seqK (normAt 0 m62A true (m62c [true, true, false, true, true, true, true, true, false, true, true, true, false, true, true, true])) L15 (m62K14 M k L7)
noncomputable def m62K16 (M : Cut (List Int)) (k : Nat) (L7 : St → Option (List Int)) (L15 : St → Option (List Int)) : Exit → St → Option (List Int) := seqK (normAt 0 m62A false (m62c [true, true, false, true, true, true, true, true, false, true, true, true, false, true, true, true, true])) (cutK M m62A (m62c [true, true, false, true, true, true, true, true, false, true, true, true, false, true, true, true, true]) fun s => evC (m62E k) M (m62I k) 0 m62A (m62c [true, true, false, true, true, true, true, true, false, true, true, true, false, true, true, true, true]) s (m62K15 M k L7 L15)) (m62K15 M k L7 L15)
noncomputable def m62K17 (M : Cut (List Int)) (k : Nat) (L7 : St → Option (List Int)) (L15 : St → Option (List Int)) : Exit → St → Option (List Int) := seqK (normAt 0 m62A false (m62c [true, true, false, true, true, true, true, true, false, true, true, true, false, true, true, true, true, true])) (cutK M m62A (m62c [true, true, false, true, true, true, true, true, false, true, true, true, false, true, true, true, true, true]) fun s => evC (m62E k) M (m62I k) 0 m62A (m62c [true, true, false, true, true, true, true, true, false, true, true, true, false, true, true, true, true, true]) s (m62K15 M k L7 L15)) (m62K15 M k L7 L15)
noncomputable def m62K18 (M : Cut (List Int)) (k : Nat) (L7 : St → Option (List Int)) (L15 : St → Option (List Int)) : Exit → St → Option (List Int) := seqK (normAt 0 m62A false (m62c [true, true, false, true, true, true, true, true, false, true, true, true, false, true, true, true, true, true, true])) (cutK M m62A (m62c [true, true, false, true, true, true, true, true, false, true, true, true, false, true, true, true, true, true, true]) fun s => evC (m62E k) M (m62I k) 0 m62A (m62c [true, true, false, true, true, true, true, true, false, true, true, true, false, true, true, true, true, true, true]) s (m62K15 M k L7 L15)) (m62K15 M k L7 L15)
noncomputable def m62K19 (M : Cut (List Int)) (k : Nat) (L7 : St → Option (List Int)) (L15 : St → Option (List Int)) : Exit → St → Option (List Int) := blockK 3 (m62K18 M k L7 L15)
noncomputable def m62K20 (M : Cut (List Int)) (k : Nat) (L7 : St → Option (List Int)) (L15 : St → Option (List Int)) : Exit → St → Option (List Int) := seqK (normAt 0 m62A false (m62c [true, true, false, true, true, true, true, true, false, true, true, true, false, true, true, true, true, true, false, true, true])) (cutK M m62A (m62c [true, true, false, true, true, true, true, true, false, true, true, true, false, true, true, true, true, true, false, true, true]) fun s => evC (m62E k) M (m62I k) 0 m62A (m62c [true, true, false, true, true, true, true, true, false, true, true, true, false, true, true, true, true, true, false, true, true]) s (m62K19 M k L7 L15)) (m62K19 M k L7 L15)
noncomputable def m62K21 (M : Cut (List Int)) (k : Nat) (L7 : St → Option (List Int)) (L15 : St → Option (List Int)) : Exit → St → Option (List Int) := seqK (normAt 0 m62A false (m62c [true, true, false, true, true, true, true, true, false, true, true, true, false, true, true, true, true, true, false, true, true, true])) (cutK M m62A (m62c [true, true, false, true, true, true, true, true, false, true, true, true, false, true, true, true, true, true, false, true, true, true]) fun s => evC (m62E k) M (m62I k) 0 m62A (m62c [true, true, false, true, true, true, true, true, false, true, true, true, false, true, true, true, true, true, false, true, true, true]) s (m62K19 M k L7 L15)) (m62K19 M k L7 L15)
noncomputable def m62K22 (M : Cut (List Int)) (k : Nat) (L7 : St → Option (List Int)) (L15 : St → Option (List Int)) : Exit → St → Option (List Int) := seqK (normAt 0 m62A false (m62c [true, true, false, true, true, true, true, true, false, true, true, true, false, true, true, true, true, true, false, true, true, true, true])) (cutK M m62A (m62c [true, true, false, true, true, true, true, true, false, true, true, true, false, true, true, true, true, true, false, true, true, true, true]) fun s => evC (m62E k) M (m62I k) 0 m62A (m62c [true, true, false, true, true, true, true, true, false, true, true, true, false, true, true, true, true, true, false, true, true, true, true]) s (m62K19 M k L7 L15)) (m62K19 M k L7 L15)
noncomputable def m62K23 (M : Cut (List Int)) (k : Nat) : Exit → St → Option (List Int) := seqK (normAt 0 m62A false (m62c [true, true, true, true])) (cutK M m62A (m62c [true, true, true, true]) fun s => evC (m62E k) M (m62I k) 0 m62A (m62c [true, true, true, true]) s (retK Try.prog Try.f62 [.leaf (.own (.int .i64) 3)])) (retK Try.prog Try.f62 [.leaf (.own (.int .i64) 3)])
noncomputable def m62S7 (t5 : Int) (b0 : List Int) : St := { n := 26, tm := slots [(1, .own 0), (5, .int .i64 t5)], tab := blks [some (.row true (.int .i64) 3 b0)], nx := 1 }
noncomputable def m62S15 (t3 : Int) (t5 : Int) (t9 : Int) (b0 : List Int) : St := { n := 26, tm := slots [(1, .own 0), (3, .int .i64 t3), (5, .int .i64 t5), (9, .int .i64 t9)], tab := blks [some (.row true (.int .i64) 3 b0)], nx := 1 }
noncomputable def m62S26 (t3 : Int) (t5 : Int) (b0 : List Int) : St := { n := 26, tm := slots [(1, .own 0), (3, .int .i64 t3), (5, .int .i64 t5)], tab := blks [some (.row true (.int .i64) 3 b0)], nx := 1 }

noncomputable def m62X (X7 : Int → List Int → Option (List Int)) (k : Nat) : Option (List Int) := X7 (0) ([])

theorem m62x (M : Cut (List Int)) (k : Nat) : evC (m62E k) M (m62I k) 0 m62A (m62c []) (stAt Try.f62 (argSs [] ()) (fun _ => none) 0) (retK Try.prog Try.f62 [.leaf (.own (.int .i64) 3)]) = m62X (fun t5' b0' => loopN (normAt 0 m62A true (m62c [true, true, false, true, true, true])) (fun K s => evC (m62E k) M (m62I k) 0 m62A (m62c [true, true, false, true, true, true]) s K) (m62K4 M k) k (m62S7 t5' b0')) k := by kernel_rfl

noncomputable def m62X7 (X15 : Int → Int → Int → List Int → Option (List Int)) (k : Nat) (t5 : Int) (b0 : List Int) : Option (List Int) := (if ltI t5 256 = true then X15 t5 t5 (0) b0 else some b0)

theorem m62x7 (M : Cut (List Int)) (k : Nat) (L7 : St → Option (List Int)) (t5 : Int) (b0 : List Int) : evC (m62E k) M (m62I k) 0 m62A (m62c [true, true, false, true, true, true]) (m62S7 t5 b0) (seqK (normAt 0 m62A true (m62c [true, true, false, true, true, true])) L7 (m62K4 M k)) = m62X7 (fun t3' t5' t9' b0' => loopN (normAt 0 m62A true (m62c [true, true, false, true, true, true, true, true, false, true, true, true, false, true, true, true])) (fun K s => evC (m62E k) M (m62I k) 0 m62A (m62c [true, true, false, true, true, true, true, true, false, true, true, true, false, true, true, true]) s K) (m62K14 M k L7) k (m62S15 t3' t5' t9' b0')) k t5 b0 := by kernel_rfl

noncomputable def m62X15 (X26 : Int → Int → List Int → Option (List Int)) (L15 : Int → Int → Int → List Int → Option (List Int)) (k : Nat) (t3 : Int) (t5 : Int) (t9 : Int) (b0 : List Int) : Option (List Int) := (if ltI t9 8 = true then (if leI 0 1 = true then (if eqI (bits BinOp.and IntKind.i64 t3 1) 1 = true then L15 (bits BinOp.xor IntKind.i64 (t3 / 2) 3988292384) t5 (wr IntKind.i64 (t9 + 1)) b0 else L15 (t3 / 2) t5 (wr IntKind.i64 (t9 + 1)) b0) else none) else X26 t3 t5 b0)

theorem m62x15 (M : Cut (List Int)) (k : Nat) (L7 : St → Option (List Int)) (L15 : St → Option (List Int)) (t3 : Int) (t5 : Int) (t9 : Int) (b0 : List Int) : evC (m62E k) M (m62I k) 0 m62A (m62c [true, true, false, true, true, true, true, true, false, true, true, true, false, true, true, true]) (m62S15 t3 t5 t9 b0) (seqK (normAt 0 m62A true (m62c [true, true, false, true, true, true, true, true, false, true, true, true, false, true, true, true])) L15 (m62K14 M k L7)) = m62X15 (fun t3' t5' b0' => M 26 (fun s => evC (m62E k) M (m62I k) 0 m62A (m62c [true, true, false, true, true, true, true, true, false, true, true, true, true]) s (m62K9 M k L7)) (m62S26 t3' t5' b0')) (fun t3' t5' t9' b0' => L15 (m62S15 t3' t5' t9' b0')) k t3 t5 t9 b0 := by kernel_rfl

noncomputable def m62X26 (L7 : Int → List Int → Option (List Int)) (k : Nat) (t3 : Int) (t5 : Int) (b0 : List Int) : Option (List Int) := (if leI (↑((List.length b0 + List.length (List.set (List.replicate 1 0) 0 t3)) * 8) : Int) 140737488355328 = true then L7 (wr IntKind.i64 (t5 + 1)) (b0 ++ List.set (List.replicate 1 0) 0 t3) else none)

theorem m62x26 (M : Cut (List Int)) (k : Nat) (L7 : St → Option (List Int)) (t3 : Int) (t5 : Int) (b0 : List Int) : evC (m62E k) M (m62I k) 0 m62A (m62c [true, true, false, true, true, true, true, true, false, true, true, true, true]) (m62S26 t3 t5 b0) (m62K9 M k L7) = m62X26 (fun t5' b0' => L7 (m62S7 t5' b0')) k t3 t5 b0 := by kernel_rfl

noncomputable def m62F26 (k : Nat) (L7 : Int → List Int → Option (List Int)) (t3 : Int) (t5 : Int) (b0 : List Int) : Option (List Int) := m62X26 L7 k t3 t5 b0

theorem m62q26 (k : Nat) (L7 : St → Option (List Int)) (t3 : Int) (t5 : Int) (b0 : List Int) : evC (m62E k) (fun _ f => f) (m62I k) 0 m62A (m62c [true, true, false, true, true, true, true, true, false, true, true, true, true]) (m62S26 t3 t5 b0) (m62K9 (fun _ f => f) k L7) = m62F26 k (fun t5' b0' => L7 (m62S7 t5' b0')) t3 t5 b0 := by
    show _ = m62X26 (fun t5' b0' => L7 (m62S7 t5' b0')) k t3 t5 b0
    exact m62x26 (fun _ f => f) k L7 t3 t5 b0

noncomputable def m62F15 (k : Nat) (L7 : Int → List Int → Option (List Int)) : Nat → Int → Int → Int → List Int → Option (List Int)
  | 0, _, _, _, _ => none
  | j + 1, t3, t5, t9, b0 => m62X15 (m62F26 k L7) (m62F15 k L7 j) k t3 t5 t9 b0

theorem m62q15 (k : Nat) (L7 : St → Option (List Int)) : ∀ (j : Nat) (t3 : Int) (t5 : Int) (t9 : Int) (b0 : List Int), loopN (normAt 0 m62A true (m62c [true, true, false, true, true, true, true, true, false, true, true, true, false, true, true, true])) (fun K s => evC (m62E k) (fun _ f => f) (m62I k) 0 m62A (m62c [true, true, false, true, true, true, true, true, false, true, true, true, false, true, true, true]) s K) (m62K14 (fun _ f => f) k L7) j (m62S15 t3 t5 t9 b0) = m62F15 k (fun t5' b0' => L7 (m62S7 t5' b0')) j t3 t5 t9 b0
  | 0, _, _, _, _ => rfl
  | j + 1, t3, t5, t9, b0 => by
    have e0 : m62F15 k (fun t5' b0' => L7 (m62S7 t5' b0')) j = (fun t3' t5' t9' b0' => loopN (normAt 0 m62A true (m62c [true, true, false, true, true, true, true, true, false, true, true, true, false, true, true, true])) (fun K s => evC (m62E k) (fun _ f => f) (m62I k) 0 m62A (m62c [true, true, false, true, true, true, true, true, false, true, true, true, false, true, true, true]) s K) (m62K14 (fun _ f => f) k L7) j (m62S15 t3' t5' t9' b0')) := funext fun t3' => funext fun t5' => funext fun t9' => funext fun b0' => (m62q15 k L7 j t3' t5' t9' b0').symm
    have e26 : m62F26 k (fun t5' b0' => L7 (m62S7 t5' b0')) = (fun t3' t5' b0' => evC (m62E k) (fun _ f => f) (m62I k) 0 m62A (m62c [true, true, false, true, true, true, true, true, false, true, true, true, true]) (m62S26 t3' t5' b0') (m62K9 (fun _ f => f) k L7)) := funext fun t3' => funext fun t5' => funext fun b0' => (m62q26 k L7 t3' t5' b0').symm
    show _ = m62X15 (m62F26 k (fun t5' b0' => L7 (m62S7 t5' b0'))) (m62F15 k (fun t5' b0' => L7 (m62S7 t5' b0')) j) k t3 t5 t9 b0
    rw [e0, e26]
    exact m62x15 (fun _ f => f) k L7 (loopN (normAt 0 m62A true (m62c [true, true, false, true, true, true, true, true, false, true, true, true, false, true, true, true])) (fun K s => evC (m62E k) (fun _ f => f) (m62I k) 0 m62A (m62c [true, true, false, true, true, true, true, true, false, true, true, true, false, true, true, true]) s K) (m62K14 (fun _ f => f) k L7) j) t3 t5 t9 b0

noncomputable def m62F7 (k : Nat) : Nat → Int → List Int → Option (List Int)
  | 0, _, _ => none
  | j + 1, t5, b0 => m62X7 (m62F15 k (m62F7 k j) k) k t5 b0

theorem m62q7 (k : Nat) : ∀ (j : Nat) (t5 : Int) (b0 : List Int), loopN (normAt 0 m62A true (m62c [true, true, false, true, true, true])) (fun K s => evC (m62E k) (fun _ f => f) (m62I k) 0 m62A (m62c [true, true, false, true, true, true]) s K) (m62K4 (fun _ f => f) k) j (m62S7 t5 b0) = m62F7 k j t5 b0
  | 0, _, _ => rfl
  | j + 1, t5, b0 => by
    have e0 : m62F7 k j = (fun t5' b0' => loopN (normAt 0 m62A true (m62c [true, true, false, true, true, true])) (fun K s => evC (m62E k) (fun _ f => f) (m62I k) 0 m62A (m62c [true, true, false, true, true, true]) s K) (m62K4 (fun _ f => f) k) j (m62S7 t5' b0')) := funext fun t5' => funext fun b0' => (m62q7 k j t5' b0').symm
    have e15 : m62F15 k (fun t5' b0' => loopN (normAt 0 m62A true (m62c [true, true, false, true, true, true])) (fun K s => evC (m62E k) (fun _ f => f) (m62I k) 0 m62A (m62c [true, true, false, true, true, true]) s K) (m62K4 (fun _ f => f) k) j (m62S7 t5' b0')) k = (fun t3' t5' t9' b0' => loopN (normAt 0 m62A true (m62c [true, true, false, true, true, true, true, true, false, true, true, true, false, true, true, true])) (fun K s => evC (m62E k) (fun _ f => f) (m62I k) 0 m62A (m62c [true, true, false, true, true, true, true, true, false, true, true, true, false, true, true, true]) s K) (m62K14 (fun _ f => f) k (loopN (normAt 0 m62A true (m62c [true, true, false, true, true, true])) (fun K s => evC (m62E k) (fun _ f => f) (m62I k) 0 m62A (m62c [true, true, false, true, true, true]) s K) (m62K4 (fun _ f => f) k) j)) k (m62S15 t3' t5' t9' b0')) := funext fun t3' => funext fun t5' => funext fun t9' => funext fun b0' => (m62q15 k (loopN (normAt 0 m62A true (m62c [true, true, false, true, true, true])) (fun K s => evC (m62E k) (fun _ f => f) (m62I k) 0 m62A (m62c [true, true, false, true, true, true]) s K) (m62K4 (fun _ f => f) k) j) k t3' t5' t9' b0').symm
    show _ = m62X7 (m62F15 k (m62F7 k j) k) k t5 b0
    rw [e0, e15]
    exact m62x7 (fun _ f => f) k (loopN (normAt 0 m62A true (m62c [true, true, false, true, true, true])) (fun K s => evC (m62E k) (fun _ f => f) (m62I k) 0 m62A (m62c [true, true, false, true, true, true]) s K) (m62K4 (fun _ f => f) k) j) t5 b0

noncomputable def m62F (k : Nat) : Option (List Int) := m62X (m62F7 k k) k

theorem m62q (k : Nat) : evC (m62E k) (fun _ f => f) (m62I k) 0 m62A (m62c []) (stAt Try.f62 (argSs [] ()) (fun _ => none) 0) (retK Try.prog Try.f62 [.leaf (.own (.int .i64) 3)]) = m62F k := by
    have e7 : m62F7 k k = (fun t5' b0' => loopN (normAt 0 m62A true (m62c [true, true, false, true, true, true])) (fun K s => evC (m62E k) (fun _ f => f) (m62I k) 0 m62A (m62c [true, true, false, true, true, true]) s K) (m62K4 (fun _ f => f) k) k (m62S7 t5' b0')) := funext fun t5' => funext fun b0' => (m62q7 k k t5' b0').symm
    show _ = m62X (m62F7 k k) k
    rw [e7]
    exact m62x (fun _ f => f) k

noncomputable def m62sp : Spec := { ps := [], rs := [.leaf (.own (.int .i64) 3)], f := fun k a => m62F k }

theorem m62ok (k : Nat) : EnvOk (m62E k) := envOk_of (l := []) (lB := []) progNames progMixed rfl rfl (.nil) (.nil)

theorem m62con (k : Nat) : Contract Try.prog k 62 m62sp := contract_of (E := m62E k) (m62ok k) (A := only 62 m62A) (d := 3) (c := m62c []) (by kernel_rfl) (by kernel_rfl) fun a _ h => (m62q k).trans h

noncomputable def m59A : Anns := tabA [(11, { keep := [4, 5, 12, 13, 14] }), (18, { keep := [5] })]
noncomputable def m59E (k : Nat) : Env := { P := Try.prog, k := k, G := tabG [(62, m62sp)], GB := tabGB [] }
noncomputable def m59c (p : List Bool) : Code := sub p (bodyOf Try.f59)
noncomputable def m59I (k : Nat) : Inl (Int × Int) := inlOf (m59E k) (only 59 m59A) 3
noncomputable def m59K0 (M : Cut (Int × Int)) (k : Nat) : Exit → St → Option (Int × Int) := seqK (normAt 0 m59A false (m59c [true])) (cutK M m59A (m59c [true]) fun s => evC (m59E k) M (m59I k) 0 m59A (m59c [true]) s (retK Try.prog Try.f59 [.leaf (.val (.int .i64)), .leaf (.val (.int .i64))])) (retK Try.prog Try.f59 [.leaf (.val (.int .i64)), .leaf (.val (.int .i64))])
noncomputable def m59K1 (M : Cut (Int × Int)) (k : Nat) : Exit → St → Option (Int × Int) := seqK (normAt 0 m59A false (m59c [true, true])) (cutK M m59A (m59c [true, true]) fun s => evC (m59E k) M (m59I k) 0 m59A (m59c [true, true]) s (retK Try.prog Try.f59 [.leaf (.val (.int .i64)), .leaf (.val (.int .i64))])) (retK Try.prog Try.f59 [.leaf (.val (.int .i64)), .leaf (.val (.int .i64))])
noncomputable def m59K2 (M : Cut (Int × Int)) (k : Nat) : Exit → St → Option (Int × Int) := seqK (normAt 0 m59A false (m59c [true, false, true])) (cutK M m59A (m59c [true, false, true]) fun s => evC (m59E k) M (m59I k) 0 m59A (m59c [true, false, true]) s (m59K1 M k)) (m59K1 M k)
noncomputable def m59K3 (M : Cut (Int × Int)) (k : Nat) : Exit → St → Option (Int × Int) := seqK (normAt 0 m59A false (m59c [true, false, true, false, true])) (cutK M m59A (m59c [true, false, true, false, true]) fun s => evC (m59E k) M (m59I k) 0 m59A (m59c [true, false, true, false, true]) s (m59K1 M k)) (m59K1 M k)
noncomputable def m59K4 (M : Cut (Int × Int)) (k : Nat) : Exit → St → Option (Int × Int) := seqK (normAt 0 m59A false (m59c [true, true, true])) (cutK M m59A (m59c [true, true, true]) fun s => evC (m59E k) M (m59I k) 0 m59A (m59c [true, true, true]) s (retK Try.prog Try.f59 [.leaf (.val (.int .i64)), .leaf (.val (.int .i64))])) (retK Try.prog Try.f59 [.leaf (.val (.int .i64)), .leaf (.val (.int .i64))])
noncomputable def m59K5 (M : Cut (Int × Int)) (k : Nat) : Exit → St → Option (Int × Int) := seqK (normAt 0 m59A false (m59c [true, true, true, true])) (cutK M m59A (m59c [true, true, true, true]) fun s => evC (m59E k) M (m59I k) 0 m59A (m59c [true, true, true, true]) s (retK Try.prog Try.f59 [.leaf (.val (.int .i64)), .leaf (.val (.int .i64))])) (retK Try.prog Try.f59 [.leaf (.val (.int .i64)), .leaf (.val (.int .i64))])
noncomputable def m59K6 (M : Cut (Int × Int)) (k : Nat) : Exit → St → Option (Int × Int) := seqK (normAt 0 m59A false (m59c [true, true, true, false, true])) (cutK M m59A (m59c [true, true, true, false, true]) fun s => evC (m59E k) M (m59I k) 0 m59A (m59c [true, true, true, false, true]) s (m59K5 M k)) (m59K5 M k)
noncomputable def m59K7 (M : Cut (Int × Int)) (k : Nat) : Exit → St → Option (Int × Int) := blockK 0 (m59K5 M k)
noncomputable def m59K8 (M : Cut (Int × Int)) (k : Nat) (L11 : St → Option (Int × Int)) : Exit → St → Option (Int × Int) := seqK (normAt 0 m59A true (m59c [true, true, true, false, true, true, true])) L11 (m59K7 M k)
noncomputable def m59K9 (M : Cut (Int × Int)) (k : Nat) (L11 : St → Option (Int × Int)) : Exit → St → Option (Int × Int) := seqK (normAt 0 m59A false (m59c [true, true, true, false, true, true, true, true])) (cutK M m59A (m59c [true, true, true, false, true, true, true, true]) fun s => evC (m59E k) M (m59I k) 0 m59A (m59c [true, true, true, false, true, true, true, true]) s (m59K8 M k L11)) (m59K8 M k L11)
noncomputable def m59K10 (M : Cut (Int × Int)) (k : Nat) (L11 : St → Option (Int × Int)) : Exit → St → Option (Int × Int) := seqK (normAt 0 m59A false (m59c [true, true, true, false, true, true, true, true, true])) (cutK M m59A (m59c [true, true, true, false, true, true, true, true, true]) fun s => evC (m59E k) M (m59I k) 0 m59A (m59c [true, true, true, false, true, true, true, true, true]) s (m59K8 M k L11)) (m59K8 M k L11)
noncomputable def m59K11 (M : Cut (Int × Int)) (k : Nat) (L11 : St → Option (Int × Int)) : Exit → St → Option (Int × Int) := seqK (normAt 0 m59A false (m59c [true, true, true, false, true, true, true, true, true, true])) (cutK M m59A (m59c [true, true, true, false, true, true, true, true, true, true]) fun s => evC (m59E k) M (m59I k) 0 m59A (m59c [true, true, true, false, true, true, true, true, true, true]) s (m59K8 M k L11)) (m59K8 M k L11)
noncomputable def m59K12 (M : Cut (Int × Int)) (k : Nat) (L11 : St → Option (Int × Int)) : Exit → St → Option (Int × Int) := blockK 1 (m59K11 M k L11)
noncomputable def m59K13 (M : Cut (Int × Int)) (k : Nat) (L11 : St → Option (Int × Int)) : Exit → St → Option (Int × Int) := seqK (normAt 0 m59A false (m59c [true, true, true, false, true, true, true, true, true, false, true, true])) (cutK M m59A (m59c [true, true, true, false, true, true, true, true, true, false, true, true]) fun s => evC (m59E k) M (m59I k) 0 m59A (m59c [true, true, true, false, true, true, true, true, true, false, true, true]) s (m59K12 M k L11)) (m59K12 M k L11)
noncomputable def m59K14 (M : Cut (Int × Int)) (k : Nat) : Exit → St → Option (Int × Int) := seqK (normAt 0 m59A false (m59c [true, true, true, true, true])) (cutK M m59A (m59c [true, true, true, true, true]) fun s => evC (m59E k) M (m59I k) 0 m59A (m59c [true, true, true, true, true]) s (retK Try.prog Try.f59 [.leaf (.val (.int .i64)), .leaf (.val (.int .i64))])) (retK Try.prog Try.f59 [.leaf (.val (.int .i64)), .leaf (.val (.int .i64))])
noncomputable def m59S11 (t5 : Int) (t12 : List Int) (t13 : Int) (t14 : Int) (b0 : List Int) : St := { n := 32, tm := slots [(4, .own 0), (5, .int .i64 t5), (12, .row (.int .u8) t12), (13, .int .i64 t13), (14, .int .i64 t14)], tab := blks [some (.row true (.int .i64) 3 b0)], nx := 1 }
noncomputable def m59S18 (t5 : Int) : St := { n := 32, tm := slots [(5, .int .i64 t5)], tab := blks [], nx := 0 }

noncomputable def m59X (X11 : Int → List Int → Int → Int → List Int → Option (Int × Int)) (k : Nat) (p0 : (List Int)) : Option (Int × Int) := (if ltI 4096 (↑(List.length p0) : Int) = true then some ((0, 2)) else (Option.bind (m62F k) fun (c3 : (List Int)) => X11 (4294967295) p0 ((↑(List.length p0) : Int)) (0) c3))

theorem m59x (M : Cut (Int × Int)) (k : Nat) (p0 : (List Int)) : evC (m59E k) M (m59I k) 0 m59A (m59c []) (stAt Try.f59 (argSs [.leaf (.val (.row (.int .u8)))] p0) (fun _ => none) 0) (retK Try.prog Try.f59 [.leaf (.val (.int .i64)), .leaf (.val (.int .i64))]) = m59X (fun t5' t12' t13' t14' b0' => loopN (normAt 0 m59A true (m59c [true, true, true, false, true, true, true])) (fun K s => evC (m59E k) M (m59I k) 0 m59A (m59c [true, true, true, false, true, true, true]) s K) (m59K7 M k) k (m59S11 t5' t12' t13' t14' b0')) k p0 := by kernel_rfl

noncomputable def m59X11 (X18 : Int → Option (Int × Int)) (L11 : Int → List Int → Int → Int → List Int → Option (Int × Int)) (k : Nat) (t5 : Int) (t12 : List Int) (t13 : Int) (t14 : Int) (b0 : List Int) : Option (Int × Int) := (if ltI t14 t13 = true then (if leI 0 t14 = true then (if ltI t14 (↑(List.length t12) : Int) = true then (if leI 0 8 = true then (if leI 0
    (bits BinOp.xor IntKind.i64 (bits BinOp.and IntKind.i64 t5 255)
      (wr IntKind.i64 (List.getD t12 (Int.toNat t14) 0))) =
  true then (if ltI (bits BinOp.xor IntKind.i64 (bits BinOp.and IntKind.i64 t5 255) (wr IntKind.i64 (List.getD t12 (Int.toNat t14) 0)))
    (↑(List.length b0) : Int) =
  true then L11 (bits BinOp.xor IntKind.i64 (t5 / 256)
  (List.getD b0
    (Int.toNat
      (bits BinOp.xor IntKind.i64 (bits BinOp.and IntKind.i64 t5 255)
        (wr IntKind.i64 (List.getD t12 (Int.toNat t14) 0))))
    0)) t12 t13 (wr IntKind.i64 (t14 + 1)) b0 else none) else none) else none) else none) else none) else X18 t5)

theorem m59x11 (M : Cut (Int × Int)) (k : Nat) (L11 : St → Option (Int × Int)) (t5 : Int) (t12 : List Int) (t13 : Int) (t14 : Int) (b0 : List Int) : evC (m59E k) M (m59I k) 0 m59A (m59c [true, true, true, false, true, true, true]) (m59S11 t5 t12 t13 t14 b0) (seqK (normAt 0 m59A true (m59c [true, true, true, false, true, true, true])) L11 (m59K7 M k)) = m59X11 (fun t5' => M 18 (fun s => evC (m59E k) M (m59I k) 0 m59A (m59c [true, true, true, true]) s (retK Try.prog Try.f59 [.leaf (.val (.int .i64)), .leaf (.val (.int .i64))])) (m59S18 t5')) (fun t5' t12' t13' t14' b0' => L11 (m59S11 t5' t12' t13' t14' b0')) k t5 t12 t13 t14 b0 := by kernel_rfl

noncomputable def m59X18 (k : Nat) (t5 : Int) : Option (Int × Int) := some ((bits BinOp.xor IntKind.i64 t5 4294967295, 0))

theorem m59x18 (M : Cut (Int × Int)) (k : Nat) (t5 : Int) : evC (m59E k) M (m59I k) 0 m59A (m59c [true, true, true, true]) (m59S18 t5) (retK Try.prog Try.f59 [.leaf (.val (.int .i64)), .leaf (.val (.int .i64))]) = m59X18 k t5 := by kernel_rfl

noncomputable def m59F18 (k : Nat) (t5 : Int) : Option (Int × Int) := m59X18 k t5

theorem m59q18 (k : Nat) (t5 : Int) : evC (m59E k) (fun _ f => f) (m59I k) 0 m59A (m59c [true, true, true, true]) (m59S18 t5) (retK Try.prog Try.f59 [.leaf (.val (.int .i64)), .leaf (.val (.int .i64))]) = m59F18 k t5 := by
    show _ = m59X18 k t5
    exact m59x18 (fun _ f => f) k t5

noncomputable def m59F11 (k : Nat) : Nat → Int → List Int → Int → Int → List Int → Option (Int × Int)
  | 0, _, _, _, _, _ => none
  | j + 1, t5, t12, t13, t14, b0 => m59X11 (m59F18 k) (m59F11 k j) k t5 t12 t13 t14 b0

theorem m59q11 (k : Nat) : ∀ (j : Nat) (t5 : Int) (t12 : List Int) (t13 : Int) (t14 : Int) (b0 : List Int), loopN (normAt 0 m59A true (m59c [true, true, true, false, true, true, true])) (fun K s => evC (m59E k) (fun _ f => f) (m59I k) 0 m59A (m59c [true, true, true, false, true, true, true]) s K) (m59K7 (fun _ f => f) k) j (m59S11 t5 t12 t13 t14 b0) = m59F11 k j t5 t12 t13 t14 b0
  | 0, _, _, _, _, _ => rfl
  | j + 1, t5, t12, t13, t14, b0 => by
    have e0 : m59F11 k j = (fun t5' t12' t13' t14' b0' => loopN (normAt 0 m59A true (m59c [true, true, true, false, true, true, true])) (fun K s => evC (m59E k) (fun _ f => f) (m59I k) 0 m59A (m59c [true, true, true, false, true, true, true]) s K) (m59K7 (fun _ f => f) k) j (m59S11 t5' t12' t13' t14' b0')) := funext fun t5' => funext fun t12' => funext fun t13' => funext fun t14' => funext fun b0' => (m59q11 k j t5' t12' t13' t14' b0').symm
    have e18 : m59F18 k = (fun t5' => evC (m59E k) (fun _ f => f) (m59I k) 0 m59A (m59c [true, true, true, true]) (m59S18 t5') (retK Try.prog Try.f59 [.leaf (.val (.int .i64)), .leaf (.val (.int .i64))])) := funext fun t5' => (m59q18 k t5').symm
    show _ = m59X11 (m59F18 k) (m59F11 k j) k t5 t12 t13 t14 b0
    rw [e0, e18]
    exact m59x11 (fun _ f => f) k (loopN (normAt 0 m59A true (m59c [true, true, true, false, true, true, true])) (fun K s => evC (m59E k) (fun _ f => f) (m59I k) 0 m59A (m59c [true, true, true, false, true, true, true]) s K) (m59K7 (fun _ f => f) k) j) t5 t12 t13 t14 b0

noncomputable def m59F (k : Nat) (p0 : (List Int)) : Option (Int × Int) := m59X (m59F11 k k) k p0

theorem m59q (k : Nat) (p0 : (List Int)) : evC (m59E k) (fun _ f => f) (m59I k) 0 m59A (m59c []) (stAt Try.f59 (argSs [.leaf (.val (.row (.int .u8)))] p0) (fun _ => none) 0) (retK Try.prog Try.f59 [.leaf (.val (.int .i64)), .leaf (.val (.int .i64))]) = m59F k p0 := by
    have e11 : m59F11 k k = (fun t5' t12' t13' t14' b0' => loopN (normAt 0 m59A true (m59c [true, true, true, false, true, true, true])) (fun K s => evC (m59E k) (fun _ f => f) (m59I k) 0 m59A (m59c [true, true, true, false, true, true, true]) s K) (m59K7 (fun _ f => f) k) k (m59S11 t5' t12' t13' t14' b0')) := funext fun t5' => funext fun t12' => funext fun t13' => funext fun t14' => funext fun b0' => (m59q11 k k t5' t12' t13' t14' b0').symm
    show _ = m59X (m59F11 k k) k p0
    rw [e11]
    exact m59x (fun _ f => f) k p0

noncomputable def m59sp : Spec := { ps := [.leaf (.val (.row (.int .u8)))], rs := [.leaf (.val (.int .i64)), .leaf (.val (.int .i64))], f := fun k a => m59F k a }

theorem m59ok (k : Nat) : EnvOk (m59E k) := envOk_of (l := [(62, m62sp)]) (lB := []) progNames progMixed rfl rfl (.cons ⟨m62con k, Try.f62, by kernel_rfl, by kernel_rfl⟩ (.nil)) (.nil)

theorem m59con (k : Nat) : Contract Try.prog k 59 m59sp := contract_of (E := m59E k) (m59ok k) (A := only 59 m59A) (d := 3) (c := m59c []) (by kernel_rfl) (by kernel_rfl) fun a _ h => (m59q k a).trans h

noncomputable def m52A : Anns := tabA [(17, { keep := [4, 6, 20] }), (24, { keep := [6] })]
noncomputable def m52E (k : Nat) : Env := { P := Try.prog, k := k, G := tabG [(56, m56sp), (59, m59sp)], GB := tabGB [] }
noncomputable def m52c (p : List Bool) : Code := sub p (bodyOf Try.f52)
noncomputable def m52I (k : Nat) : Inl ((List Int) × Int) := inlOf (m52E k) (only 52 m52A) 3
noncomputable def m52K0 (M : Cut ((List Int) × Int)) (k : Nat) : Exit → St → Option ((List Int) × Int) := seqK (normAt 0 m52A false (m52c [true])) (cutK M m52A (m52c [true]) fun s => evC (m52E k) M (m52I k) 0 m52A (m52c [true]) s (retK Try.prog Try.f52 [.leaf (.own (.int .u8) 5), .leaf (.val (.int .i64))])) (retK Try.prog Try.f52 [.leaf (.own (.int .u8) 5), .leaf (.val (.int .i64))])
noncomputable def m52K1 (M : Cut ((List Int) × Int)) (k : Nat) : Exit → St → Option ((List Int) × Int) := seqK (normAt 0 m52A false (m52c [true, true])) (cutK M m52A (m52c [true, true]) fun s => evC (m52E k) M (m52I k) 0 m52A (m52c [true, true]) s (retK Try.prog Try.f52 [.leaf (.own (.int .u8) 5), .leaf (.val (.int .i64))])) (retK Try.prog Try.f52 [.leaf (.own (.int .u8) 5), .leaf (.val (.int .i64))])
noncomputable def m52K2 (M : Cut ((List Int) × Int)) (k : Nat) : Exit → St → Option ((List Int) × Int) := seqK (normAt 0 m52A false (m52c [true, false, true])) (cutK M m52A (m52c [true, false, true]) fun s => evC (m52E k) M (m52I k) 0 m52A (m52c [true, false, true]) s (m52K1 M k)) (m52K1 M k)
noncomputable def m52K3 (M : Cut ((List Int) × Int)) (k : Nat) : Exit → St → Option ((List Int) × Int) := seqK (normAt 0 m52A false (m52c [true, false, true, false, true])) (cutK M m52A (m52c [true, false, true, false, true]) fun s => evC (m52E k) M (m52I k) 0 m52A (m52c [true, false, true, false, true]) s (m52K1 M k)) (m52K1 M k)
noncomputable def m52K4 (M : Cut ((List Int) × Int)) (k : Nat) : Exit → St → Option ((List Int) × Int) := seqK (normAt 0 m52A false (m52c [true, true, true])) (cutK M m52A (m52c [true, true, true]) fun s => evC (m52E k) M (m52I k) 0 m52A (m52c [true, true, true]) s (retK Try.prog Try.f52 [.leaf (.own (.int .u8) 5), .leaf (.val (.int .i64))])) (retK Try.prog Try.f52 [.leaf (.own (.int .u8) 5), .leaf (.val (.int .i64))])
noncomputable def m52K5 (M : Cut ((List Int) × Int)) (k : Nat) : Exit → St → Option ((List Int) × Int) := seqK (normAt 0 m52A false (m52c [true, true, true, true])) (cutK M m52A (m52c [true, true, true, true]) fun s => evC (m52E k) M (m52I k) 0 m52A (m52c [true, true, true, true]) s (retK Try.prog Try.f52 [.leaf (.own (.int .u8) 5), .leaf (.val (.int .i64))])) (retK Try.prog Try.f52 [.leaf (.own (.int .u8) 5), .leaf (.val (.int .i64))])
noncomputable def m52K6 (M : Cut ((List Int) × Int)) (k : Nat) : Exit → St → Option ((List Int) × Int) := seqK (normAt 0 m52A false (m52c [true, true, true, false, true])) (cutK M m52A (m52c [true, true, true, false, true]) fun s => evC (m52E k) M (m52I k) 0 m52A (m52c [true, true, true, false, true]) s (m52K5 M k)) (m52K5 M k)
noncomputable def m52K7 (M : Cut ((List Int) × Int)) (k : Nat) : Exit → St → Option ((List Int) × Int) := seqK (normAt 0 m52A false (m52c [true, true, true, false, true, false, true])) (cutK M m52A (m52c [true, true, true, false, true, false, true]) fun s => evC (m52E k) M (m52I k) 0 m52A (m52c [true, true, true, false, true, false, true]) s (m52K5 M k)) (m52K5 M k)
noncomputable def m52K8 (M : Cut ((List Int) × Int)) (k : Nat) : Exit → St → Option ((List Int) × Int) := seqK (normAt 0 m52A false (m52c [true, true, true, true, true])) (cutK M m52A (m52c [true, true, true, true, true]) fun s => evC (m52E k) M (m52I k) 0 m52A (m52c [true, true, true, true, true]) s (retK Try.prog Try.f52 [.leaf (.own (.int .u8) 5), .leaf (.val (.int .i64))])) (retK Try.prog Try.f52 [.leaf (.own (.int .u8) 5), .leaf (.val (.int .i64))])
noncomputable def m52K9 (M : Cut ((List Int) × Int)) (k : Nat) : Exit → St → Option ((List Int) × Int) := seqK (normAt 0 m52A false (m52c [true, true, true, true, true, true])) (cutK M m52A (m52c [true, true, true, true, true, true]) fun s => evC (m52E k) M (m52I k) 0 m52A (m52c [true, true, true, true, true, true]) s (retK Try.prog Try.f52 [.leaf (.own (.int .u8) 5), .leaf (.val (.int .i64))])) (retK Try.prog Try.f52 [.leaf (.own (.int .u8) 5), .leaf (.val (.int .i64))])
noncomputable def m52K10 (M : Cut ((List Int) × Int)) (k : Nat) : Exit → St → Option ((List Int) × Int) := seqK (normAt 0 m52A false (m52c [true, true, true, true, true, false, true])) (cutK M m52A (m52c [true, true, true, true, true, false, true]) fun s => evC (m52E k) M (m52I k) 0 m52A (m52c [true, true, true, true, true, false, true]) s (m52K9 M k)) (m52K9 M k)
noncomputable def m52K11 (M : Cut ((List Int) × Int)) (k : Nat) : Exit → St → Option ((List Int) × Int) := blockK 0 (m52K9 M k)
noncomputable def m52K12 (M : Cut ((List Int) × Int)) (k : Nat) (L17 : St → Option ((List Int) × Int)) : Exit → St → Option ((List Int) × Int) := seqK (normAt 0 m52A true (m52c [true, true, true, true, true, false, true, true, true])) L17 (m52K11 M k)
noncomputable def m52K13 (M : Cut ((List Int) × Int)) (k : Nat) (L17 : St → Option ((List Int) × Int)) : Exit → St → Option ((List Int) × Int) := seqK (normAt 0 m52A false (m52c [true, true, true, true, true, false, true, true, true, true])) (cutK M m52A (m52c [true, true, true, true, true, false, true, true, true, true]) fun s => evC (m52E k) M (m52I k) 0 m52A (m52c [true, true, true, true, true, false, true, true, true, true]) s (m52K12 M k L17)) (m52K12 M k L17)
noncomputable def m52K14 (M : Cut ((List Int) × Int)) (k : Nat) (L17 : St → Option ((List Int) × Int)) : Exit → St → Option ((List Int) × Int) := seqK (normAt 0 m52A false (m52c [true, true, true, true, true, false, true, true, true, true, true])) (cutK M m52A (m52c [true, true, true, true, true, false, true, true, true, true, true]) fun s => evC (m52E k) M (m52I k) 0 m52A (m52c [true, true, true, true, true, false, true, true, true, true, true]) s (m52K12 M k L17)) (m52K12 M k L17)
noncomputable def m52K15 (M : Cut ((List Int) × Int)) (k : Nat) (L17 : St → Option ((List Int) × Int)) : Exit → St → Option ((List Int) × Int) := seqK (normAt 0 m52A false (m52c [true, true, true, true, true, false, true, true, true, true, true, true])) (cutK M m52A (m52c [true, true, true, true, true, false, true, true, true, true, true, true]) fun s => evC (m52E k) M (m52I k) 0 m52A (m52c [true, true, true, true, true, false, true, true, true, true, true, true]) s (m52K12 M k L17)) (m52K12 M k L17)
noncomputable def m52K16 (M : Cut ((List Int) × Int)) (k : Nat) (L17 : St → Option ((List Int) × Int)) : Exit → St → Option ((List Int) × Int) := blockK 1 (m52K15 M k L17)
noncomputable def m52K17 (M : Cut ((List Int) × Int)) (k : Nat) (L17 : St → Option ((List Int) × Int)) : Exit → St → Option ((List Int) × Int) := seqK (normAt 0 m52A false (m52c [true, true, true, true, true, false, true, true, true, true, true, false, true, true])) (cutK M m52A (m52c [true, true, true, true, true, false, true, true, true, true, true, false, true, true]) fun s => evC (m52E k) M (m52I k) 0 m52A (m52c [true, true, true, true, true, false, true, true, true, true, true, false, true, true]) s (m52K16 M k L17)) (m52K16 M k L17)
noncomputable def m52K18 (M : Cut ((List Int) × Int)) (k : Nat) : Exit → St → Option ((List Int) × Int) := seqK (normAt 0 m52A false (m52c [true, true, true, true, true, true, true])) (cutK M m52A (m52c [true, true, true, true, true, true, true]) fun s => evC (m52E k) M (m52I k) 0 m52A (m52c [true, true, true, true, true, true, true]) s (retK Try.prog Try.f52 [.leaf (.own (.int .u8) 5), .leaf (.val (.int .i64))])) (retK Try.prog Try.f52 [.leaf (.own (.int .u8) 5), .leaf (.val (.int .i64))])
noncomputable def m52S17 (t4 : Int) (t20 : Int) (b0 : List Int) : St := { n := 32, tm := slots [(4, .int .i64 t4), (6, .own 0), (20, .int .i64 t20)], tab := blks [some (.row true (.int .u8) 5 b0)], nx := 1 }
noncomputable def m52S24 (b0 : List Int) : St := { n := 32, tm := slots [(6, .own 0)], tab := blks [some (.row true (.int .u8) 5 b0)], nx := 1 }

noncomputable def m52X (X17 : Int → Int → List Int → Option ((List Int) × Int)) (k : Nat) (p0 : (List Int)) : Option ((List Int) × Int) := (if ltI 4092 (↑(List.length p0) : Int) = true then some (([], 2)) else (Option.bind (m59F k p0) fun (c3 : (Int × Int)) => (if (!eqI (Prod.snd c3) 0) = true then some (([], Prod.snd c3)) else (Option.bind (m56F k p0) fun (c4 : (List Int)) => X17 (Prod.fst c3) (0) c4))))

theorem m52x (M : Cut ((List Int) × Int)) (k : Nat) (p0 : (List Int)) : evC (m52E k) M (m52I k) 0 m52A (m52c []) (stAt Try.f52 (argSs [.leaf (.val (.row (.int .u8)))] p0) (fun _ => none) 0) (retK Try.prog Try.f52 [.leaf (.own (.int .u8) 5), .leaf (.val (.int .i64))]) = m52X (fun t4' t20' b0' => loopN (normAt 0 m52A true (m52c [true, true, true, true, true, false, true, true, true])) (fun K s => evC (m52E k) M (m52I k) 0 m52A (m52c [true, true, true, true, true, false, true, true, true]) s K) (m52K11 M k) k (m52S17 t4' t20' b0')) k p0 := by kernel_rfl

noncomputable def m52X17 (X24 : List Int → Option ((List Int) × Int)) (L17 : Int → Int → List Int → Option ((List Int) × Int)) (k : Nat) (t4 : Int) (t20 : Int) (b0 : List Int) : Option ((List Int) × Int) := (if ltI t20 4 = true then (if leI (↑((List.length b0 + List.length (List.set (List.replicate 1 0) 0 (wr IntKind.u8 t4))) * 1) : Int) 140737488355328 =
  true then (if leI 0 8 = true then L17 (t4 / 256) (wr IntKind.i64 (t20 + 1)) (b0 ++ List.set (List.replicate 1 0) 0 (wr IntKind.u8 t4)) else none) else none) else X24 b0)

theorem m52x17 (M : Cut ((List Int) × Int)) (k : Nat) (L17 : St → Option ((List Int) × Int)) (t4 : Int) (t20 : Int) (b0 : List Int) : evC (m52E k) M (m52I k) 0 m52A (m52c [true, true, true, true, true, false, true, true, true]) (m52S17 t4 t20 b0) (seqK (normAt 0 m52A true (m52c [true, true, true, true, true, false, true, true, true])) L17 (m52K11 M k)) = m52X17 (fun b0' => M 24 (fun s => evC (m52E k) M (m52I k) 0 m52A (m52c [true, true, true, true, true, true]) s (retK Try.prog Try.f52 [.leaf (.own (.int .u8) 5), .leaf (.val (.int .i64))])) (m52S24 b0')) (fun t4' t20' b0' => L17 (m52S17 t4' t20' b0')) k t4 t20 b0 := by kernel_rfl

noncomputable def m52X24 (k : Nat) (b0 : List Int) : Option ((List Int) × Int) := (Option.bind (m56F k b0) fun (c3 : (List Int)) => some ((c3, 0)))

theorem m52x24 (M : Cut ((List Int) × Int)) (k : Nat) (b0 : List Int) : evC (m52E k) M (m52I k) 0 m52A (m52c [true, true, true, true, true, true]) (m52S24 b0) (retK Try.prog Try.f52 [.leaf (.own (.int .u8) 5), .leaf (.val (.int .i64))]) = m52X24 k b0 := by kernel_rfl

noncomputable def m52F24 (k : Nat) (b0 : List Int) : Option ((List Int) × Int) := m52X24 k b0

theorem m52q24 (k : Nat) (b0 : List Int) : evC (m52E k) (fun _ f => f) (m52I k) 0 m52A (m52c [true, true, true, true, true, true]) (m52S24 b0) (retK Try.prog Try.f52 [.leaf (.own (.int .u8) 5), .leaf (.val (.int .i64))]) = m52F24 k b0 := by
    show _ = m52X24 k b0
    exact m52x24 (fun _ f => f) k b0

noncomputable def m52F17 (k : Nat) : Nat → Int → Int → List Int → Option ((List Int) × Int)
  | 0, _, _, _ => none
  | j + 1, t4, t20, b0 => m52X17 (m52F24 k) (m52F17 k j) k t4 t20 b0

theorem m52q17 (k : Nat) : ∀ (j : Nat) (t4 : Int) (t20 : Int) (b0 : List Int), loopN (normAt 0 m52A true (m52c [true, true, true, true, true, false, true, true, true])) (fun K s => evC (m52E k) (fun _ f => f) (m52I k) 0 m52A (m52c [true, true, true, true, true, false, true, true, true]) s K) (m52K11 (fun _ f => f) k) j (m52S17 t4 t20 b0) = m52F17 k j t4 t20 b0
  | 0, _, _, _ => rfl
  | j + 1, t4, t20, b0 => by
    have e0 : m52F17 k j = (fun t4' t20' b0' => loopN (normAt 0 m52A true (m52c [true, true, true, true, true, false, true, true, true])) (fun K s => evC (m52E k) (fun _ f => f) (m52I k) 0 m52A (m52c [true, true, true, true, true, false, true, true, true]) s K) (m52K11 (fun _ f => f) k) j (m52S17 t4' t20' b0')) := funext fun t4' => funext fun t20' => funext fun b0' => (m52q17 k j t4' t20' b0').symm
    have e24 : m52F24 k = (fun b0' => evC (m52E k) (fun _ f => f) (m52I k) 0 m52A (m52c [true, true, true, true, true, true]) (m52S24 b0') (retK Try.prog Try.f52 [.leaf (.own (.int .u8) 5), .leaf (.val (.int .i64))])) := funext fun b0' => (m52q24 k b0').symm
    show _ = m52X17 (m52F24 k) (m52F17 k j) k t4 t20 b0
    rw [e0, e24]
    exact m52x17 (fun _ f => f) k (loopN (normAt 0 m52A true (m52c [true, true, true, true, true, false, true, true, true])) (fun K s => evC (m52E k) (fun _ f => f) (m52I k) 0 m52A (m52c [true, true, true, true, true, false, true, true, true]) s K) (m52K11 (fun _ f => f) k) j) t4 t20 b0

noncomputable def m52F (k : Nat) (p0 : (List Int)) : Option ((List Int) × Int) := m52X (m52F17 k k) k p0

theorem m52q (k : Nat) (p0 : (List Int)) : evC (m52E k) (fun _ f => f) (m52I k) 0 m52A (m52c []) (stAt Try.f52 (argSs [.leaf (.val (.row (.int .u8)))] p0) (fun _ => none) 0) (retK Try.prog Try.f52 [.leaf (.own (.int .u8) 5), .leaf (.val (.int .i64))]) = m52F k p0 := by
    have e17 : m52F17 k k = (fun t4' t20' b0' => loopN (normAt 0 m52A true (m52c [true, true, true, true, true, false, true, true, true])) (fun K s => evC (m52E k) (fun _ f => f) (m52I k) 0 m52A (m52c [true, true, true, true, true, false, true, true, true]) s K) (m52K11 (fun _ f => f) k) k (m52S17 t4' t20' b0')) := funext fun t4' => funext fun t20' => funext fun b0' => (m52q17 k k t4' t20' b0').symm
    show _ = m52X (m52F17 k k) k p0
    rw [e17]
    exact m52x (fun _ f => f) k p0

noncomputable def m52sp : Spec := { ps := [.leaf (.val (.row (.int .u8)))], rs := [.leaf (.own (.int .u8) 5), .leaf (.val (.int .i64))], f := fun k a => m52F k a }

theorem m52ok (k : Nat) : EnvOk (m52E k) := envOk_of (l := [(56, m56sp), (59, m59sp)]) (lB := []) progNames progMixed rfl rfl (.cons ⟨m56con k, Try.f56, by kernel_rfl, by kernel_rfl⟩ (.cons ⟨m59con k, Try.f59, by kernel_rfl, by kernel_rfl⟩ (.nil))) (.nil)

theorem m52con (k : Nat) : Contract Try.prog k 52 m52sp := contract_of (E := m52E k) (m52ok k) (A := only 52 m52A) (d := 3) (c := m52c []) (by kernel_rfl) (by kernel_rfl) fun a _ h => (m52q k a).trans h

noncomputable def m53A : Anns := tabA [(9, { keep := [0, 1, 12, 13] })]
noncomputable def m53E (k : Nat) : Env := { P := Try.prog, k := k, G := tabG [], GB := tabGB [] }
noncomputable def m53c (p : List Bool) : Code := sub p (bodyOf Try.f53)
noncomputable def m53I (k : Nat) : Inl Bool := inlOf (m53E k) (only 53 m53A) 3
noncomputable def m53K0 (M : Cut Bool) (k : Nat) : Exit → St → Option Bool := seqK (normAt 0 m53A false (m53c [true])) (cutK M m53A (m53c [true]) fun s => evC (m53E k) M (m53I k) 0 m53A (m53c [true]) s (retK Try.prog Try.f53 [.leaf (.val .bool)])) (retK Try.prog Try.f53 [.leaf (.val .bool)])
noncomputable def m53K1 (M : Cut Bool) (k : Nat) : Exit → St → Option Bool := seqK (normAt 0 m53A false (m53c [true, true])) (cutK M m53A (m53c [true, true]) fun s => evC (m53E k) M (m53I k) 0 m53A (m53c [true, true]) s (retK Try.prog Try.f53 [.leaf (.val .bool)])) (retK Try.prog Try.f53 [.leaf (.val .bool)])
noncomputable def m53K2 (M : Cut Bool) (k : Nat) : Exit → St → Option Bool := seqK (normAt 0 m53A false (m53c [true, false, true])) (cutK M m53A (m53c [true, false, true]) fun s => evC (m53E k) M (m53I k) 0 m53A (m53c [true, false, true]) s (m53K1 M k)) (m53K1 M k)
noncomputable def m53K3 (M : Cut Bool) (k : Nat) : Exit → St → Option Bool := seqK (normAt 0 m53A false (m53c [true, false, true, false, true])) (cutK M m53A (m53c [true, false, true, false, true]) fun s => evC (m53E k) M (m53I k) 0 m53A (m53c [true, false, true, false, true]) s (m53K1 M k)) (m53K1 M k)
noncomputable def m53K4 (M : Cut Bool) (k : Nat) : Exit → St → Option Bool := seqK (normAt 0 m53A false (m53c [true, true, true])) (cutK M m53A (m53c [true, true, true]) fun s => evC (m53E k) M (m53I k) 0 m53A (m53c [true, true, true]) s (retK Try.prog Try.f53 [.leaf (.val .bool)])) (retK Try.prog Try.f53 [.leaf (.val .bool)])
noncomputable def m53K5 (M : Cut Bool) (k : Nat) : Exit → St → Option Bool := seqK (normAt 0 m53A false (m53c [true, true, false, true])) (cutK M m53A (m53c [true, true, false, true]) fun s => evC (m53E k) M (m53I k) 0 m53A (m53c [true, true, false, true]) s (m53K4 M k)) (m53K4 M k)
noncomputable def m53K6 (M : Cut Bool) (k : Nat) : Exit → St → Option Bool := blockK 0 (m53K4 M k)
noncomputable def m53K7 (M : Cut Bool) (k : Nat) (L9 : St → Option Bool) : Exit → St → Option Bool := seqK (normAt 0 m53A true (m53c [true, true, false, true, true, true])) L9 (m53K6 M k)
noncomputable def m53K8 (M : Cut Bool) (k : Nat) (L9 : St → Option Bool) : Exit → St → Option Bool := seqK (normAt 0 m53A false (m53c [true, true, false, true, true, true, true])) (cutK M m53A (m53c [true, true, false, true, true, true, true]) fun s => evC (m53E k) M (m53I k) 0 m53A (m53c [true, true, false, true, true, true, true]) s (m53K7 M k L9)) (m53K7 M k L9)
noncomputable def m53K9 (M : Cut Bool) (k : Nat) (L9 : St → Option Bool) : Exit → St → Option Bool := seqK (normAt 0 m53A false (m53c [true, true, false, true, true, true, true, true])) (cutK M m53A (m53c [true, true, false, true, true, true, true, true]) fun s => evC (m53E k) M (m53I k) 0 m53A (m53c [true, true, false, true, true, true, true, true]) s (m53K7 M k L9)) (m53K7 M k L9)
noncomputable def m53K10 (M : Cut Bool) (k : Nat) (L9 : St → Option Bool) : Exit → St → Option Bool := seqK (normAt 0 m53A false (m53c [true, true, false, true, true, true, true, true, true])) (cutK M m53A (m53c [true, true, false, true, true, true, true, true, true]) fun s => evC (m53E k) M (m53I k) 0 m53A (m53c [true, true, false, true, true, true, true, true, true]) s (m53K7 M k L9)) (m53K7 M k L9)
noncomputable def m53K11 (M : Cut Bool) (k : Nat) (L9 : St → Option Bool) : Exit → St → Option Bool := blockK 1 (m53K10 M k L9)
noncomputable def m53K12 (M : Cut Bool) (k : Nat) (L9 : St → Option Bool) : Exit → St → Option Bool := seqK (normAt 0 m53A false (m53c [true, true, false, true, true, true, true, true, false, true, true])) (cutK M m53A (m53c [true, true, false, true, true, true, true, true, false, true, true]) fun s => evC (m53E k) M (m53I k) 0 m53A (m53c [true, true, false, true, true, true, true, true, false, true, true]) s (m53K11 M k L9)) (m53K11 M k L9)
noncomputable def m53K13 (M : Cut Bool) (k : Nat) (L9 : St → Option Bool) : Exit → St → Option Bool := seqK (normAt 0 m53A false (m53c [true, true, false, true, true, true, true, true, false, true, true, true])) (cutK M m53A (m53c [true, true, false, true, true, true, true, true, false, true, true, true]) fun s => evC (m53E k) M (m53I k) 0 m53A (m53c [true, true, false, true, true, true, true, true, false, true, true, true]) s (m53K11 M k L9)) (m53K11 M k L9)
noncomputable def m53K14 (M : Cut Bool) (k : Nat) (L9 : St → Option Bool) : Exit → St → Option Bool := seqK (normAt 0 m53A false (m53c [true, true, false, true, true, true, true, true, false, true, true, true, false, true])) (cutK M m53A (m53c [true, true, false, true, true, true, true, true, false, true, true, true, false, true]) fun s => evC (m53E k) M (m53I k) 0 m53A (m53c [true, true, false, true, true, true, true, true, false, true, true, true, false, true]) s (m53K11 M k L9)) (m53K11 M k L9)
noncomputable def m53K15 (M : Cut Bool) (k : Nat) : Exit → St → Option Bool := seqK (normAt 0 m53A false (m53c [true, true, true, true])) (cutK M m53A (m53c [true, true, true, true]) fun s => evC (m53E k) M (m53I k) 0 m53A (m53c [true, true, true, true]) s (retK Try.prog Try.f53 [.leaf (.val .bool)])) (retK Try.prog Try.f53 [.leaf (.val .bool)])
noncomputable def m53S9 (t0 : List Int) (t1 : List Int) (t12 : Int) (t13 : Int) : St := { n := 26, tm := slots [(0, .row (.int .u8) t0), (1, .row (.int .u8) t1), (12, .int .i64 t12), (13, .int .i64 t13)], tab := blks [], nx := 0 }

noncomputable def m53X (X9 : List Int → List Int → Int → Int → Option Bool) (k : Nat) (p0 : (List Int)) (p1 : (List Int)) : Option Bool := (if (!eqI (↑(List.length p0) : Int) (↑(List.length p1) : Int)) = true then some (false) else X9 p0 p1 ((↑(List.length p0) : Int)) (0))

theorem m53x (M : Cut Bool) (k : Nat) (p0 : (List Int)) (p1 : (List Int)) : evC (m53E k) M (m53I k) 0 m53A (m53c []) (stAt Try.f53 (argSs [.leaf (.val (.row (.int .u8))), .leaf (.val (.row (.int .u8)))] (p0, p1)) (fun _ => none) 0) (retK Try.prog Try.f53 [.leaf (.val .bool)]) = m53X (fun t0' t1' t12' t13' => loopN (normAt 0 m53A true (m53c [true, true, false, true, true, true])) (fun K s => evC (m53E k) M (m53I k) 0 m53A (m53c [true, true, false, true, true, true]) s K) (m53K6 M k) k (m53S9 t0' t1' t12' t13')) k p0 p1 := by kernel_rfl

noncomputable def m53X9 (L9 : List Int → List Int → Int → Int → Option Bool) (k : Nat) (t0 : List Int) (t1 : List Int) (t12 : Int) (t13 : Int) : Option Bool := (if ltI t13 t12 = true then (if leI 0 t13 = true then (if ltI t13 (↑(List.length t0) : Int) = true then (if leI 0 t13 = true then (if ltI t13 (↑(List.length t1) : Int) = true then (if (!eqI (List.getD t0 (Int.toNat t13) 0) (List.getD t1 (Int.toNat t13) 0)) = true then some (false) else L9 t0 t1 t12 (wr IntKind.i64 (t13 + 1))) else none) else none) else none) else none) else some (true))

theorem m53x9 (M : Cut Bool) (k : Nat) (L9 : St → Option Bool) (t0 : List Int) (t1 : List Int) (t12 : Int) (t13 : Int) : evC (m53E k) M (m53I k) 0 m53A (m53c [true, true, false, true, true, true]) (m53S9 t0 t1 t12 t13) (seqK (normAt 0 m53A true (m53c [true, true, false, true, true, true])) L9 (m53K6 M k)) = m53X9 (fun t0' t1' t12' t13' => L9 (m53S9 t0' t1' t12' t13')) k t0 t1 t12 t13 := by kernel_rfl

noncomputable def m53F9 (k : Nat) : Nat → List Int → List Int → Int → Int → Option Bool
  | 0, _, _, _, _ => none
  | j + 1, t0, t1, t12, t13 => m53X9 (m53F9 k j) k t0 t1 t12 t13

theorem m53q9 (k : Nat) : ∀ (j : Nat) (t0 : List Int) (t1 : List Int) (t12 : Int) (t13 : Int), loopN (normAt 0 m53A true (m53c [true, true, false, true, true, true])) (fun K s => evC (m53E k) (fun _ f => f) (m53I k) 0 m53A (m53c [true, true, false, true, true, true]) s K) (m53K6 (fun _ f => f) k) j (m53S9 t0 t1 t12 t13) = m53F9 k j t0 t1 t12 t13
  | 0, _, _, _, _ => rfl
  | j + 1, t0, t1, t12, t13 => by
    have e0 : m53F9 k j = (fun t0' t1' t12' t13' => loopN (normAt 0 m53A true (m53c [true, true, false, true, true, true])) (fun K s => evC (m53E k) (fun _ f => f) (m53I k) 0 m53A (m53c [true, true, false, true, true, true]) s K) (m53K6 (fun _ f => f) k) j (m53S9 t0' t1' t12' t13')) := funext fun t0' => funext fun t1' => funext fun t12' => funext fun t13' => (m53q9 k j t0' t1' t12' t13').symm
    show _ = m53X9 (m53F9 k j) k t0 t1 t12 t13
    rw [e0]
    exact m53x9 (fun _ f => f) k (loopN (normAt 0 m53A true (m53c [true, true, false, true, true, true])) (fun K s => evC (m53E k) (fun _ f => f) (m53I k) 0 m53A (m53c [true, true, false, true, true, true]) s K) (m53K6 (fun _ f => f) k) j) t0 t1 t12 t13

noncomputable def m53F (k : Nat) (p0 : (List Int)) (p1 : (List Int)) : Option Bool := m53X (m53F9 k k) k p0 p1

theorem m53q (k : Nat) (p0 : (List Int)) (p1 : (List Int)) : evC (m53E k) (fun _ f => f) (m53I k) 0 m53A (m53c []) (stAt Try.f53 (argSs [.leaf (.val (.row (.int .u8))), .leaf (.val (.row (.int .u8)))] (p0, p1)) (fun _ => none) 0) (retK Try.prog Try.f53 [.leaf (.val .bool)]) = m53F k p0 p1 := by
    have e9 : m53F9 k k = (fun t0' t1' t12' t13' => loopN (normAt 0 m53A true (m53c [true, true, false, true, true, true])) (fun K s => evC (m53E k) (fun _ f => f) (m53I k) 0 m53A (m53c [true, true, false, true, true, true]) s K) (m53K6 (fun _ f => f) k) k (m53S9 t0' t1' t12' t13')) := funext fun t0' => funext fun t1' => funext fun t12' => funext fun t13' => (m53q9 k k t0' t1' t12' t13').symm
    show _ = m53X (m53F9 k k) k p0 p1
    rw [e9]
    exact m53x (fun _ f => f) k p0 p1

noncomputable def m53sp : Spec := { ps := [.leaf (.val (.row (.int .u8))), .leaf (.val (.row (.int .u8)))], rs := [.leaf (.val .bool)], f := fun k a => m53F k a.1 a.2 }

theorem m53ok (k : Nat) : EnvOk (m53E k) := envOk_of (l := []) (lB := []) progNames progMixed rfl rfl (.nil) (.nil)

theorem m53con (k : Nat) : Contract Try.prog k 53 m53sp := contract_of (E := m53E k) (m53ok k) (A := only 53 m53A) (d := 3) (c := m53c []) (by kernel_rfl) (by kernel_rfl) fun a _ h => (m53q k a.1 a.2).trans h

noncomputable def m42A : Anns := tabA []
noncomputable def m42E (k : Nat) : Env := { P := Try.prog, k := k, G := tabG [(52, m52sp), (53, m53sp)], GB := tabGB [] }
noncomputable def m42c (p : List Bool) : Code := sub p (bodyOf Try.f42)
noncomputable def m42I (k : Nat) : Inl (Bool × Int) := inlOf (m42E k) (only 42 m42A) 3
noncomputable def m42K0 (M : Cut (Bool × Int)) (k : Nat) : Exit → St → Option (Bool × Int) := seqK (normAt 0 m42A false (m42c [true])) (cutK M m42A (m42c [true]) fun s => evC (m42E k) M (m42I k) 0 m42A (m42c [true]) s (retK Try.prog Try.f42 [.leaf (.val .bool), .leaf (.val (.int .i64))])) (retK Try.prog Try.f42 [.leaf (.val .bool), .leaf (.val (.int .i64))])
noncomputable def m42K1 (M : Cut (Bool × Int)) (k : Nat) : Exit → St → Option (Bool × Int) := seqK (normAt 0 m42A false (m42c [true, true])) (cutK M m42A (m42c [true, true]) fun s => evC (m42E k) M (m42I k) 0 m42A (m42c [true, true]) s (retK Try.prog Try.f42 [.leaf (.val .bool), .leaf (.val (.int .i64))])) (retK Try.prog Try.f42 [.leaf (.val .bool), .leaf (.val (.int .i64))])
noncomputable def m42K2 (M : Cut (Bool × Int)) (k : Nat) : Exit → St → Option (Bool × Int) := blockK 0 (m42K1 M k)
noncomputable def m42K3 (M : Cut (Bool × Int)) (k : Nat) : Exit → St → Option (Bool × Int) := seqK (normAt 0 m42A false (m42c [true, false, true, true])) (cutK M m42A (m42c [true, false, true, true]) fun s => evC (m42E k) M (m42I k) 0 m42A (m42c [true, false, true, true]) s (m42K2 M k)) (m42K2 M k)
noncomputable def m42K4 (M : Cut (Bool × Int)) (k : Nat) : Exit → St → Option (Bool × Int) := seqK (normAt 0 m42A false (m42c [true, false, true, true, false, true])) (cutK M m42A (m42c [true, false, true, true, false, true]) fun s => evC (m42E k) M (m42I k) 0 m42A (m42c [true, false, true, true, false, true]) s (m42K2 M k)) (m42K2 M k)
noncomputable def m42K5 (M : Cut (Bool × Int)) (k : Nat) : Exit → St → Option (Bool × Int) := seqK (normAt 0 m42A false (m42c [true, false, true, true, true, true])) (cutK M m42A (m42c [true, false, true, true, true, true]) fun s => evC (m42E k) M (m42I k) 0 m42A (m42c [true, false, true, true, true, true]) s (m42K2 M k)) (m42K2 M k)
noncomputable def m42K6 (M : Cut (Bool × Int)) (k : Nat) : Exit → St → Option (Bool × Int) := seqK (normAt 0 m42A false (m42c [true, false, true, true, true, true, false, true])) (cutK M m42A (m42c [true, false, true, true, true, true, false, true]) fun s => evC (m42E k) M (m42I k) 0 m42A (m42c [true, false, true, true, true, true, false, true]) s (m42K2 M k)) (m42K2 M k)
noncomputable def m42K7 (M : Cut (Bool × Int)) (k : Nat) : Exit → St → Option (Bool × Int) := seqK (normAt 0 m42A false (m42c [true, true, true])) (cutK M m42A (m42c [true, true, true]) fun s => evC (m42E k) M (m42I k) 0 m42A (m42c [true, true, true]) s (retK Try.prog Try.f42 [.leaf (.val .bool), .leaf (.val (.int .i64))])) (retK Try.prog Try.f42 [.leaf (.val .bool), .leaf (.val (.int .i64))])
noncomputable def m42K8 (M : Cut (Bool × Int)) (k : Nat) : Exit → St → Option (Bool × Int) := seqK (normAt 0 m42A false (m42c [true, true, true, true])) (cutK M m42A (m42c [true, true, true, true]) fun s => evC (m42E k) M (m42I k) 0 m42A (m42c [true, true, true, true]) s (retK Try.prog Try.f42 [.leaf (.val .bool), .leaf (.val (.int .i64))])) (retK Try.prog Try.f42 [.leaf (.val .bool), .leaf (.val (.int .i64))])

noncomputable def m42X (k : Nat) (p0 : (List Int)) : Option (Bool × Int) := (if ltI 4096 (↑(List.length p0) : Int) = true then some ((false, 2)) else (if ltI (↑(List.length p0) : Int) 4 = true then some ((false, 0)) else (if leI 0 (wr IntKind.i64 ((↑(List.length p0) : Int) - 4)) = true then (if leI (wr IntKind.i64 ((↑(List.length p0) : Int) - 4)) (↑(List.length p0) : Int) = true then (Option.bind (m52F k (List.take (Int.toNat (wr IntKind.i64 ((↑(List.length p0) : Int) - 4))) p0)) fun (c3 : ((List Int) × Int)) => (if eqI (Prod.snd c3) 0 = true then (Option.bind (m53F k (Prod.fst c3) p0) fun (c4 : Bool) => some ((c4, 0))) else some ((false, 0)))) else none) else none)))

theorem m42x (M : Cut (Bool × Int)) (k : Nat) (p0 : (List Int)) : evC (m42E k) M (m42I k) 0 m42A (m42c []) (stAt Try.f42 (argSs [.leaf (.val (.row (.int .u8)))] p0) (fun _ => none) 0) (retK Try.prog Try.f42 [.leaf (.val .bool), .leaf (.val (.int .i64))]) = m42X k p0 := by kernel_rfl

noncomputable def m42F (k : Nat) (p0 : (List Int)) : Option (Bool × Int) := m42X k p0

theorem m42q (k : Nat) (p0 : (List Int)) : evC (m42E k) (fun _ f => f) (m42I k) 0 m42A (m42c []) (stAt Try.f42 (argSs [.leaf (.val (.row (.int .u8)))] p0) (fun _ => none) 0) (retK Try.prog Try.f42 [.leaf (.val .bool), .leaf (.val (.int .i64))]) = m42F k p0 := by
    show _ = m42X k p0
    exact m42x (fun _ f => f) k p0

noncomputable def m42sp : Spec := { ps := [.leaf (.val (.row (.int .u8)))], rs := [.leaf (.val .bool), .leaf (.val (.int .i64))], f := fun k a => m42F k a }

theorem m42ok (k : Nat) : EnvOk (m42E k) := envOk_of (l := [(52, m52sp), (53, m53sp)]) (lB := []) progNames progMixed rfl rfl (.cons ⟨m52con k, Try.f52, by kernel_rfl, by kernel_rfl⟩ (.cons ⟨m53con k, Try.f53, by kernel_rfl, by kernel_rfl⟩ (.nil))) (.nil)

theorem m42con (k : Nat) : Contract Try.prog k 42 m42sp := contract_of (E := m42E k) (m42ok k) (A := only 42 m42A) (d := 3) (c := m42c []) (by kernel_rfl) (by kernel_rfl) fun a _ h => (m42q k a).trans h

noncomputable def m43A : Anns := tabA [(15, { keep := [8, 40, 41, 42] }), (22, { keep := [8] })]
noncomputable def m43E (k : Nat) : Env := { P := Try.prog, k := k, G := tabG [], GB := tabGB [] }
noncomputable def m43c (p : List Bool) : Code := sub p (bodyOf Try.f43)
noncomputable def m43I (k : Nat) : Inl (Int × Int) := inlOf (m43E k) (only 43 m43A) 3
noncomputable def m43K0 (M : Cut (Int × Int)) (k : Nat) : Exit → St → Option (Int × Int) := seqK (normAt 0 m43A false (m43c [true])) (cutK M m43A (m43c [true]) fun s => evC (m43E k) M (m43I k) 0 m43A (m43c [true]) s (retK Try.prog Try.f43 [.leaf (.val (.int .i64)), .leaf (.val (.int .i64))])) (retK Try.prog Try.f43 [.leaf (.val (.int .i64)), .leaf (.val (.int .i64))])
noncomputable def m43K1 (M : Cut (Int × Int)) (k : Nat) : Exit → St → Option (Int × Int) := seqK (normAt 0 m43A false (m43c [true, true])) (cutK M m43A (m43c [true, true]) fun s => evC (m43E k) M (m43I k) 0 m43A (m43c [true, true]) s (retK Try.prog Try.f43 [.leaf (.val (.int .i64)), .leaf (.val (.int .i64))])) (retK Try.prog Try.f43 [.leaf (.val (.int .i64)), .leaf (.val (.int .i64))])
noncomputable def m43K2 (M : Cut (Int × Int)) (k : Nat) : Exit → St → Option (Int × Int) := blockK 0 (m43K1 M k)
noncomputable def m43K3 (M : Cut (Int × Int)) (k : Nat) : Exit → St → Option (Int × Int) := seqK (normAt 0 m43A false (m43c [true, false, true, true])) (cutK M m43A (m43c [true, false, true, true]) fun s => evC (m43E k) M (m43I k) 0 m43A (m43c [true, false, true, true]) s (m43K2 M k)) (m43K2 M k)
noncomputable def m43K4 (M : Cut (Int × Int)) (k : Nat) : Exit → St → Option (Int × Int) := seqK (normAt 0 m43A false (m43c [true, false, true, true, false, true])) (cutK M m43A (m43c [true, false, true, true, false, true]) fun s => evC (m43E k) M (m43I k) 0 m43A (m43c [true, false, true, true, false, true]) s (m43K2 M k)) (m43K2 M k)
noncomputable def m43K5 (M : Cut (Int × Int)) (k : Nat) : Exit → St → Option (Int × Int) := seqK (normAt 0 m43A false (m43c [true, false, true, true, true, true])) (cutK M m43A (m43c [true, false, true, true, true, true]) fun s => evC (m43E k) M (m43I k) 0 m43A (m43c [true, false, true, true, true, true]) s (m43K2 M k)) (m43K2 M k)
noncomputable def m43K6 (M : Cut (Int × Int)) (k : Nat) : Exit → St → Option (Int × Int) := seqK (normAt 0 m43A false (m43c [true, false, true, true, true, true, false, true])) (cutK M m43A (m43c [true, false, true, true, true, true, false, true]) fun s => evC (m43E k) M (m43I k) 0 m43A (m43c [true, false, true, true, true, true, false, true]) s (m43K2 M k)) (m43K2 M k)
noncomputable def m43K7 (M : Cut (Int × Int)) (k : Nat) : Exit → St → Option (Int × Int) := seqK (normAt 0 m43A false (m43c [true, true, true])) (cutK M m43A (m43c [true, true, true]) fun s => evC (m43E k) M (m43I k) 0 m43A (m43c [true, true, true]) s (retK Try.prog Try.f43 [.leaf (.val (.int .i64)), .leaf (.val (.int .i64))])) (retK Try.prog Try.f43 [.leaf (.val (.int .i64)), .leaf (.val (.int .i64))])
noncomputable def m43K8 (M : Cut (Int × Int)) (k : Nat) : Exit → St → Option (Int × Int) := seqK (normAt 0 m43A false (m43c [true, true, true, true])) (cutK M m43A (m43c [true, true, true, true]) fun s => evC (m43E k) M (m43I k) 0 m43A (m43c [true, true, true, true]) s (retK Try.prog Try.f43 [.leaf (.val (.int .i64)), .leaf (.val (.int .i64))])) (retK Try.prog Try.f43 [.leaf (.val (.int .i64)), .leaf (.val (.int .i64))])
noncomputable def m43K9 (M : Cut (Int × Int)) (k : Nat) : Exit → St → Option (Int × Int) := seqK (normAt 0 m43A false (m43c [true, true, true, false, true])) (cutK M m43A (m43c [true, true, true, false, true]) fun s => evC (m43E k) M (m43I k) 0 m43A (m43c [true, true, true, false, true]) s (m43K8 M k)) (m43K8 M k)
noncomputable def m43K10 (M : Cut (Int × Int)) (k : Nat) : Exit → St → Option (Int × Int) := blockK 1 (m43K8 M k)
noncomputable def m43K11 (M : Cut (Int × Int)) (k : Nat) (L15 : St → Option (Int × Int)) : Exit → St → Option (Int × Int) := seqK (normAt 0 m43A true (m43c [true, true, true, false, true, true, true])) L15 (m43K10 M k)
noncomputable def m43K12 (M : Cut (Int × Int)) (k : Nat) (L15 : St → Option (Int × Int)) : Exit → St → Option (Int × Int) := seqK (normAt 0 m43A false (m43c [true, true, true, false, true, true, true, true])) (cutK M m43A (m43c [true, true, true, false, true, true, true, true]) fun s => evC (m43E k) M (m43I k) 0 m43A (m43c [true, true, true, false, true, true, true, true]) s (m43K11 M k L15)) (m43K11 M k L15)
noncomputable def m43K13 (M : Cut (Int × Int)) (k : Nat) (L15 : St → Option (Int × Int)) : Exit → St → Option (Int × Int) := seqK (normAt 0 m43A false (m43c [true, true, true, false, true, true, true, true, true])) (cutK M m43A (m43c [true, true, true, false, true, true, true, true, true]) fun s => evC (m43E k) M (m43I k) 0 m43A (m43c [true, true, true, false, true, true, true, true, true]) s (m43K11 M k L15)) (m43K11 M k L15)
noncomputable def m43K14 (M : Cut (Int × Int)) (k : Nat) (L15 : St → Option (Int × Int)) : Exit → St → Option (Int × Int) := seqK (normAt 0 m43A false (m43c [true, true, true, false, true, true, true, true, true, true])) (cutK M m43A (m43c [true, true, true, false, true, true, true, true, true, true]) fun s => evC (m43E k) M (m43I k) 0 m43A (m43c [true, true, true, false, true, true, true, true, true, true]) s (m43K11 M k L15)) (m43K11 M k L15)
noncomputable def m43K15 (M : Cut (Int × Int)) (k : Nat) (L15 : St → Option (Int × Int)) : Exit → St → Option (Int × Int) := blockK 2 (m43K14 M k L15)
noncomputable def m43K16 (M : Cut (Int × Int)) (k : Nat) (L15 : St → Option (Int × Int)) : Exit → St → Option (Int × Int) := seqK (normAt 0 m43A false (m43c [true, true, true, false, true, true, true, true, true, false, true, true])) (cutK M m43A (m43c [true, true, true, false, true, true, true, true, true, false, true, true]) fun s => evC (m43E k) M (m43I k) 0 m43A (m43c [true, true, true, false, true, true, true, true, true, false, true, true]) s (m43K15 M k L15)) (m43K15 M k L15)
noncomputable def m43K17 (M : Cut (Int × Int)) (k : Nat) : Exit → St → Option (Int × Int) := seqK (normAt 0 m43A false (m43c [true, true, true, true, true])) (cutK M m43A (m43c [true, true, true, true, true]) fun s => evC (m43E k) M (m43I k) 0 m43A (m43c [true, true, true, true, true]) s (retK Try.prog Try.f43 [.leaf (.val (.int .i64)), .leaf (.val (.int .i64))])) (retK Try.prog Try.f43 [.leaf (.val (.int .i64)), .leaf (.val (.int .i64))])
noncomputable def m43S15 (t8 : Int) (t40 : List Int) (t41 : Int) (t42 : Int) : St := { n := 53, tm := slots [(8, .int .i64 t8), (40, .row (.int .u8) t40), (41, .int .i64 t41), (42, .int .i64 t42)], tab := blks [], nx := 0 }
noncomputable def m43S22 (t8 : Int) : St := { n := 53, tm := slots [(8, .int .i64 t8)], tab := blks [], nx := 0 }

noncomputable def m43X (X15 : Int → List Int → Int → Int → Option (Int × Int)) (k : Nat) (p0 : (List Int)) (p1 : Int) (p2 : Int) : Option (Int × Int) := (if ltI p2 1 = true then some ((0, 1)) else (if ltI 4 p2 = true then some ((0, 1)) else (if ltI p1 0 = true then some ((0, 1)) else (if ltI (↑(List.length p0) : Int) p1 = true then some ((0, 1)) else (if ltI (wr IntKind.i64 ((↑(List.length p0) : Int) - p1)) p2 = true then some ((0, 3)) else (if leI 0 (wr IntKind.i64 (p1 + p2)) = true then (if leI (wr IntKind.i64 (p1 + p2)) (↑(List.length p0) : Int) = true then (if leI 0 p1 = true then (if leI p1 (wr IntKind.i64 (p1 + p2)) = true then X15 (0) (List.drop (Int.toNat p1) (List.take (Int.toNat (wr IntKind.i64 (p1 + p2))) p0)) ((↑(List.length (List.drop (Int.toNat p1) (List.take (Int.toNat (wr IntKind.i64 (p1 + p2))) p0))) : Int)) (0) else none) else none) else none) else none))))))

theorem m43x (M : Cut (Int × Int)) (k : Nat) (p0 : (List Int)) (p1 : Int) (p2 : Int) : evC (m43E k) M (m43I k) 0 m43A (m43c []) (stAt Try.f43 (argSs [.leaf (.val (.row (.int .u8))), .leaf (.val (.int .i64)), .leaf (.val (.int .i64))] (p0, p1, p2)) (fun _ => none) 0) (retK Try.prog Try.f43 [.leaf (.val (.int .i64)), .leaf (.val (.int .i64))]) = m43X (fun t8' t40' t41' t42' => loopN (normAt 0 m43A true (m43c [true, true, true, false, true, true, true])) (fun K s => evC (m43E k) M (m43I k) 0 m43A (m43c [true, true, true, false, true, true, true]) s K) (m43K10 M k) k (m43S15 t8' t40' t41' t42')) k p0 p1 p2 := by kernel_rfl

noncomputable def m43X15 (X22 : Int → Option (Int × Int)) (L15 : Int → List Int → Int → Int → Option (Int × Int)) (k : Nat) (t8 : Int) (t40 : List Int) (t41 : Int) (t42 : Int) : Option (Int × Int) := (if ltI t42 t41 = true then (if leI 0 t42 = true then (if ltI t42 (↑(List.length t40) : Int) = true then (if leI 0 8 = true then L15 (bits BinOp.or IntKind.i64 (wr IntKind.i64 (t8 * 256)) (wr IntKind.i64 (List.getD t40 (Int.toNat t42) 0))) t40 t41 (wr IntKind.i64 (t42 + 1)) else none) else none) else none) else X22 t8)

theorem m43x15 (M : Cut (Int × Int)) (k : Nat) (L15 : St → Option (Int × Int)) (t8 : Int) (t40 : List Int) (t41 : Int) (t42 : Int) : evC (m43E k) M (m43I k) 0 m43A (m43c [true, true, true, false, true, true, true]) (m43S15 t8 t40 t41 t42) (seqK (normAt 0 m43A true (m43c [true, true, true, false, true, true, true])) L15 (m43K10 M k)) = m43X15 (fun t8' => M 22 (fun s => evC (m43E k) M (m43I k) 0 m43A (m43c [true, true, true, true]) s (retK Try.prog Try.f43 [.leaf (.val (.int .i64)), .leaf (.val (.int .i64))])) (m43S22 t8')) (fun t8' t40' t41' t42' => L15 (m43S15 t8' t40' t41' t42')) k t8 t40 t41 t42 := by kernel_rfl

noncomputable def m43X22 (k : Nat) (t8 : Int) : Option (Int × Int) := some ((t8, 0))

theorem m43x22 (M : Cut (Int × Int)) (k : Nat) (t8 : Int) : evC (m43E k) M (m43I k) 0 m43A (m43c [true, true, true, true]) (m43S22 t8) (retK Try.prog Try.f43 [.leaf (.val (.int .i64)), .leaf (.val (.int .i64))]) = m43X22 k t8 := by kernel_rfl

noncomputable def m43F22 (k : Nat) (t8 : Int) : Option (Int × Int) := m43X22 k t8

theorem m43q22 (k : Nat) (t8 : Int) : evC (m43E k) (fun _ f => f) (m43I k) 0 m43A (m43c [true, true, true, true]) (m43S22 t8) (retK Try.prog Try.f43 [.leaf (.val (.int .i64)), .leaf (.val (.int .i64))]) = m43F22 k t8 := by
    show _ = m43X22 k t8
    exact m43x22 (fun _ f => f) k t8

noncomputable def m43F15 (k : Nat) : Nat → Int → List Int → Int → Int → Option (Int × Int)
  | 0, _, _, _, _ => none
  | j + 1, t8, t40, t41, t42 => m43X15 (m43F22 k) (m43F15 k j) k t8 t40 t41 t42

theorem m43q15 (k : Nat) : ∀ (j : Nat) (t8 : Int) (t40 : List Int) (t41 : Int) (t42 : Int), loopN (normAt 0 m43A true (m43c [true, true, true, false, true, true, true])) (fun K s => evC (m43E k) (fun _ f => f) (m43I k) 0 m43A (m43c [true, true, true, false, true, true, true]) s K) (m43K10 (fun _ f => f) k) j (m43S15 t8 t40 t41 t42) = m43F15 k j t8 t40 t41 t42
  | 0, _, _, _, _ => rfl
  | j + 1, t8, t40, t41, t42 => by
    have e0 : m43F15 k j = (fun t8' t40' t41' t42' => loopN (normAt 0 m43A true (m43c [true, true, true, false, true, true, true])) (fun K s => evC (m43E k) (fun _ f => f) (m43I k) 0 m43A (m43c [true, true, true, false, true, true, true]) s K) (m43K10 (fun _ f => f) k) j (m43S15 t8' t40' t41' t42')) := funext fun t8' => funext fun t40' => funext fun t41' => funext fun t42' => (m43q15 k j t8' t40' t41' t42').symm
    have e22 : m43F22 k = (fun t8' => evC (m43E k) (fun _ f => f) (m43I k) 0 m43A (m43c [true, true, true, true]) (m43S22 t8') (retK Try.prog Try.f43 [.leaf (.val (.int .i64)), .leaf (.val (.int .i64))])) := funext fun t8' => (m43q22 k t8').symm
    show _ = m43X15 (m43F22 k) (m43F15 k j) k t8 t40 t41 t42
    rw [e0, e22]
    exact m43x15 (fun _ f => f) k (loopN (normAt 0 m43A true (m43c [true, true, true, false, true, true, true])) (fun K s => evC (m43E k) (fun _ f => f) (m43I k) 0 m43A (m43c [true, true, true, false, true, true, true]) s K) (m43K10 (fun _ f => f) k) j) t8 t40 t41 t42

noncomputable def m43F (k : Nat) (p0 : (List Int)) (p1 : Int) (p2 : Int) : Option (Int × Int) := m43X (m43F15 k k) k p0 p1 p2

theorem m43q (k : Nat) (p0 : (List Int)) (p1 : Int) (p2 : Int) : evC (m43E k) (fun _ f => f) (m43I k) 0 m43A (m43c []) (stAt Try.f43 (argSs [.leaf (.val (.row (.int .u8))), .leaf (.val (.int .i64)), .leaf (.val (.int .i64))] (p0, p1, p2)) (fun _ => none) 0) (retK Try.prog Try.f43 [.leaf (.val (.int .i64)), .leaf (.val (.int .i64))]) = m43F k p0 p1 p2 := by
    have e15 : m43F15 k k = (fun t8' t40' t41' t42' => loopN (normAt 0 m43A true (m43c [true, true, true, false, true, true, true])) (fun K s => evC (m43E k) (fun _ f => f) (m43I k) 0 m43A (m43c [true, true, true, false, true, true, true]) s K) (m43K10 (fun _ f => f) k) k (m43S15 t8' t40' t41' t42')) := funext fun t8' => funext fun t40' => funext fun t41' => funext fun t42' => (m43q15 k k t8' t40' t41' t42').symm
    show _ = m43X (m43F15 k k) k p0 p1 p2
    rw [e15]
    exact m43x (fun _ f => f) k p0 p1 p2

noncomputable def m43sp : Spec := { ps := [.leaf (.val (.row (.int .u8))), .leaf (.val (.int .i64)), .leaf (.val (.int .i64))], rs := [.leaf (.val (.int .i64)), .leaf (.val (.int .i64))], f := fun k a => m43F k a.1 a.2.1 a.2.2 }

theorem m43ok (k : Nat) : EnvOk (m43E k) := envOk_of (l := []) (lB := []) progNames progMixed rfl rfl (.nil) (.nil)

theorem m43con (k : Nat) : Contract Try.prog k 43 m43sp := contract_of (E := m43E k) (m43ok k) (A := only 43 m43A) (d := 3) (c := m43c []) (by kernel_rfl) (by kernel_rfl) fun a _ h => (m43q k a.1 a.2.1 a.2.2).trans h

noncomputable def m27A : Anns := tabA []
noncomputable def m27E (k : Nat) : Env := { P := Try.prog, k := k, G := tabG [(42, m42sp), (43, m43sp)], GB := tabGB [] }
noncomputable def m27c (p : List Bool) : Code := sub p (bodyOf Try.f27)
noncomputable def m27I (k : Nat) : Inl ((Int × Int) × Int) := inlOf (m27E k) (only 27 m27A) 3
noncomputable def m27K0 (M : Cut ((Int × Int) × Int)) (k : Nat) : Exit → St → Option ((Int × Int) × Int) := seqK (normAt 0 m27A false (m27c [true])) (cutK M m27A (m27c [true]) fun s => evC (m27E k) M (m27I k) 0 m27A (m27c [true]) s (retK Try.prog Try.f27 [.st (.pair (.int .i64) (.int .u32)), .leaf (.val (.int .i64))])) (retK Try.prog Try.f27 [.st (.pair (.int .i64) (.int .u32)), .leaf (.val (.int .i64))])
noncomputable def m27K1 (M : Cut ((Int × Int) × Int)) (k : Nat) : Exit → St → Option ((Int × Int) × Int) := seqK (normAt 0 m27A false (m27c [true, true])) (cutK M m27A (m27c [true, true]) fun s => evC (m27E k) M (m27I k) 0 m27A (m27c [true, true]) s (retK Try.prog Try.f27 [.st (.pair (.int .i64) (.int .u32)), .leaf (.val (.int .i64))])) (retK Try.prog Try.f27 [.st (.pair (.int .i64) (.int .u32)), .leaf (.val (.int .i64))])
noncomputable def m27K2 (M : Cut ((Int × Int) × Int)) (k : Nat) : Exit → St → Option ((Int × Int) × Int) := blockK 0 (m27K1 M k)
noncomputable def m27K3 (M : Cut ((Int × Int) × Int)) (k : Nat) : Exit → St → Option ((Int × Int) × Int) := seqK (normAt 0 m27A false (m27c [true, false, true, true])) (cutK M m27A (m27c [true, false, true, true]) fun s => evC (m27E k) M (m27I k) 0 m27A (m27c [true, false, true, true]) s (m27K2 M k)) (m27K2 M k)
noncomputable def m27K4 (M : Cut ((Int × Int) × Int)) (k : Nat) : Exit → St → Option ((Int × Int) × Int) := seqK (normAt 0 m27A false (m27c [true, false, true, true, false, true])) (cutK M m27A (m27c [true, false, true, true, false, true]) fun s => evC (m27E k) M (m27I k) 0 m27A (m27c [true, false, true, true, false, true]) s (m27K2 M k)) (m27K2 M k)
noncomputable def m27K5 (M : Cut ((Int × Int) × Int)) (k : Nat) : Exit → St → Option ((Int × Int) × Int) := seqK (normAt 0 m27A false (m27c [true, false, true, true, true, true])) (cutK M m27A (m27c [true, false, true, true, true, true]) fun s => evC (m27E k) M (m27I k) 0 m27A (m27c [true, false, true, true, true, true]) s (m27K2 M k)) (m27K2 M k)
noncomputable def m27K6 (M : Cut ((Int × Int) × Int)) (k : Nat) : Exit → St → Option ((Int × Int) × Int) := seqK (normAt 0 m27A false (m27c [true, false, true, true, true, true, false, true])) (cutK M m27A (m27c [true, false, true, true, true, true, false, true]) fun s => evC (m27E k) M (m27I k) 0 m27A (m27c [true, false, true, true, true, true, false, true]) s (m27K2 M k)) (m27K2 M k)
noncomputable def m27K7 (M : Cut ((Int × Int) × Int)) (k : Nat) : Exit → St → Option ((Int × Int) × Int) := seqK (normAt 0 m27A false (m27c [true, true, true])) (cutK M m27A (m27c [true, true, true]) fun s => evC (m27E k) M (m27I k) 0 m27A (m27c [true, true, true]) s (retK Try.prog Try.f27 [.st (.pair (.int .i64) (.int .u32)), .leaf (.val (.int .i64))])) (retK Try.prog Try.f27 [.st (.pair (.int .i64) (.int .u32)), .leaf (.val (.int .i64))])
noncomputable def m27K8 (M : Cut ((Int × Int) × Int)) (k : Nat) : Exit → St → Option ((Int × Int) × Int) := seqK (normAt 0 m27A false (m27c [true, true, true, true])) (cutK M m27A (m27c [true, true, true, true]) fun s => evC (m27E k) M (m27I k) 0 m27A (m27c [true, true, true, true]) s (retK Try.prog Try.f27 [.st (.pair (.int .i64) (.int .u32)), .leaf (.val (.int .i64))])) (retK Try.prog Try.f27 [.st (.pair (.int .i64) (.int .u32)), .leaf (.val (.int .i64))])
noncomputable def m27K9 (M : Cut ((Int × Int) × Int)) (k : Nat) : Exit → St → Option ((Int × Int) × Int) := seqK (normAt 0 m27A false (m27c [true, true, true, false, true])) (cutK M m27A (m27c [true, true, true, false, true]) fun s => evC (m27E k) M (m27I k) 0 m27A (m27c [true, true, true, false, true]) s (m27K8 M k)) (m27K8 M k)
noncomputable def m27K10 (M : Cut ((Int × Int) × Int)) (k : Nat) : Exit → St → Option ((Int × Int) × Int) := seqK (normAt 0 m27A false (m27c [true, true, true, false, true, false, true])) (cutK M m27A (m27c [true, true, true, false, true, false, true]) fun s => evC (m27E k) M (m27I k) 0 m27A (m27c [true, true, true, false, true, false, true]) s (m27K8 M k)) (m27K8 M k)
noncomputable def m27K11 (M : Cut ((Int × Int) × Int)) (k : Nat) : Exit → St → Option ((Int × Int) × Int) := seqK (normAt 0 m27A false (m27c [true, true, true, true, true])) (cutK M m27A (m27c [true, true, true, true, true]) fun s => evC (m27E k) M (m27I k) 0 m27A (m27c [true, true, true, true, true]) s (retK Try.prog Try.f27 [.st (.pair (.int .i64) (.int .u32)), .leaf (.val (.int .i64))])) (retK Try.prog Try.f27 [.st (.pair (.int .i64) (.int .u32)), .leaf (.val (.int .i64))])
noncomputable def m27K12 (M : Cut ((Int × Int) × Int)) (k : Nat) : Exit → St → Option ((Int × Int) × Int) := seqK (normAt 0 m27A false (m27c [true, true, true, true, true, true])) (cutK M m27A (m27c [true, true, true, true, true, true]) fun s => evC (m27E k) M (m27I k) 0 m27A (m27c [true, true, true, true, true, true]) s (retK Try.prog Try.f27 [.st (.pair (.int .i64) (.int .u32)), .leaf (.val (.int .i64))])) (retK Try.prog Try.f27 [.st (.pair (.int .i64) (.int .u32)), .leaf (.val (.int .i64))])
noncomputable def m27K13 (M : Cut ((Int × Int) × Int)) (k : Nat) : Exit → St → Option ((Int × Int) × Int) := seqK (normAt 0 m27A false (m27c [true, true, true, true, true, true, true])) (cutK M m27A (m27c [true, true, true, true, true, true, true]) fun s => evC (m27E k) M (m27I k) 0 m27A (m27c [true, true, true, true, true, true, true]) s (retK Try.prog Try.f27 [.st (.pair (.int .i64) (.int .u32)), .leaf (.val (.int .i64))])) (retK Try.prog Try.f27 [.st (.pair (.int .i64) (.int .u32)), .leaf (.val (.int .i64))])
noncomputable def m27K14 (M : Cut ((Int × Int) × Int)) (k : Nat) : Exit → St → Option ((Int × Int) × Int) := seqK (normAt 0 m27A false (m27c [true, true, true, true, true, true, false, true])) (cutK M m27A (m27c [true, true, true, true, true, true, false, true]) fun s => evC (m27E k) M (m27I k) 0 m27A (m27c [true, true, true, true, true, true, false, true]) s (m27K13 M k)) (m27K13 M k)
noncomputable def m27K15 (M : Cut ((Int × Int) × Int)) (k : Nat) : Exit → St → Option ((Int × Int) × Int) := seqK (normAt 0 m27A false (m27c [true, true, true, true, true, true, false, true, false, true])) (cutK M m27A (m27c [true, true, true, true, true, true, false, true, false, true]) fun s => evC (m27E k) M (m27I k) 0 m27A (m27c [true, true, true, true, true, true, false, true, false, true]) s (m27K13 M k)) (m27K13 M k)
noncomputable def m27K16 (M : Cut ((Int × Int) × Int)) (k : Nat) : Exit → St → Option ((Int × Int) × Int) := seqK (normAt 0 m27A false (m27c [true, true, true, true, true, true, true, true])) (cutK M m27A (m27c [true, true, true, true, true, true, true, true]) fun s => evC (m27E k) M (m27I k) 0 m27A (m27c [true, true, true, true, true, true, true, true]) s (retK Try.prog Try.f27 [.st (.pair (.int .i64) (.int .u32)), .leaf (.val (.int .i64))])) (retK Try.prog Try.f27 [.st (.pair (.int .i64) (.int .u32)), .leaf (.val (.int .i64))])

noncomputable def m27X (k : Nat) (p0 : (List Int)) : Option ((Int × Int) × Int) := (if (!eqI (↑(List.length p0) : Int) 13) = true then some (((0, 0), 2)) else (if leI 0 0 = true then (if ltI 0 (↑(List.length p0) : Int) = true then (if (!eqI (List.getD p0 0 0) 65) = true then some (((0, 0), 12)) else (Option.bind (m42F k p0) fun (c3 : (Bool × Int)) => (if (!eqI (Prod.snd c3) 0) = true then some (((0, 0), 4)) else (if (!Prod.fst c3) = true then some (((0, 0), 4)) else (Option.bind (m43F k p0 1 4) fun (c4 : (Int × Int)) => (Option.bind (m43F k p0 5 4) fun (c5 : (Int × Int)) => (if ltI 1073741824 (Prod.fst c4) = true then some (((0, 0), 1)) else some (((Prod.fst c4, wr IntKind.u32 (Prod.fst c5)), 0))))))))) else none) else none))

theorem m27x (M : Cut ((Int × Int) × Int)) (k : Nat) (p0 : (List Int)) : evC (m27E k) M (m27I k) 0 m27A (m27c []) (stAt Try.f27 (argSs [.leaf (.val (.row (.int .u8)))] p0) (fun _ => none) 0) (retK Try.prog Try.f27 [.st (.pair (.int .i64) (.int .u32)), .leaf (.val (.int .i64))]) = m27X k p0 := by kernel_rfl

noncomputable def m27F (k : Nat) (p0 : (List Int)) : Option ((Int × Int) × Int) := m27X k p0

theorem m27q (k : Nat) (p0 : (List Int)) : evC (m27E k) (fun _ f => f) (m27I k) 0 m27A (m27c []) (stAt Try.f27 (argSs [.leaf (.val (.row (.int .u8)))] p0) (fun _ => none) 0) (retK Try.prog Try.f27 [.st (.pair (.int .i64) (.int .u32)), .leaf (.val (.int .i64))]) = m27F k p0 := by
    show _ = m27X k p0
    exact m27x (fun _ f => f) k p0

noncomputable def m27sp : Spec := { ps := [.leaf (.val (.row (.int .u8)))], rs := [.st (.pair (.int .i64) (.int .u32)), .leaf (.val (.int .i64))], f := fun k a => m27F k a }

theorem m27ok (k : Nat) : EnvOk (m27E k) := envOk_of (l := [(42, m42sp), (43, m43sp)]) (lB := []) progNames progMixed rfl rfl (.cons ⟨m42con k, Try.f42, by kernel_rfl, by kernel_rfl⟩ (.cons ⟨m43con k, Try.f43, by kernel_rfl, by kernel_rfl⟩ (.nil))) (.nil)

theorem m27con (k : Nat) : Contract Try.prog k 27 m27sp := contract_of (E := m27E k) (m27ok k) (A := only 27 m27A) (d := 3) (c := m27c []) (by kernel_rfl) (by kernel_rfl) fun a _ h => (m27q k a).trans h

noncomputable def m30A : Anns := tabA []
noncomputable def m30E (k : Nat) : Env := { P := Try.prog, k := k, G := tabG [], GB := tabGB [] }
noncomputable def m30c (p : List Bool) : Code := sub p (bodyOf Try.f30)
noncomputable def m30I (k : Nat) : Inl Bool := inlOf (m30E k) (only 30 m30A) 3
noncomputable def m30K0 (M : Cut Bool) (k : Nat) : Exit → St → Option Bool := seqK (normAt 0 m30A false (m30c [true])) (cutK M m30A (m30c [true]) fun s => evC (m30E k) M (m30I k) 0 m30A (m30c [true]) s (retK Try.prog Try.f30 [.leaf (.val .bool)])) (retK Try.prog Try.f30 [.leaf (.val .bool)])
noncomputable def m30K1 (M : Cut Bool) (k : Nat) : Exit → St → Option Bool := seqK (normAt 0 m30A false (m30c [true, true])) (cutK M m30A (m30c [true, true]) fun s => evC (m30E k) M (m30I k) 0 m30A (m30c [true, true]) s (retK Try.prog Try.f30 [.leaf (.val .bool)])) (retK Try.prog Try.f30 [.leaf (.val .bool)])

noncomputable def m30X (k : Nat) (p0 : (List Int)) (p1 : (List Int)) : Option Bool := some (ByteArray.toList (strOf p0) == ByteArray.toList (strOf p1))

theorem m30x (M : Cut Bool) (k : Nat) (p0 : (List Int)) (p1 : (List Int)) : evC (m30E k) M (m30I k) 0 m30A (m30c []) (stAt Try.f30 (argSs [.leaf (.val (.row (.int .u8))), .leaf (.val (.row (.int .u8)))] (p0, p1)) (fun _ => none) 0) (retK Try.prog Try.f30 [.leaf (.val .bool)]) = m30X k p0 p1 := by kernel_rfl

noncomputable def m30F (k : Nat) (p0 : (List Int)) (p1 : (List Int)) : Option Bool := m30X k p0 p1

theorem m30q (k : Nat) (p0 : (List Int)) (p1 : (List Int)) : evC (m30E k) (fun _ f => f) (m30I k) 0 m30A (m30c []) (stAt Try.f30 (argSs [.leaf (.val (.row (.int .u8))), .leaf (.val (.row (.int .u8)))] (p0, p1)) (fun _ => none) 0) (retK Try.prog Try.f30 [.leaf (.val .bool)]) = m30F k p0 p1 := by
    show _ = m30X k p0 p1
    exact m30x (fun _ f => f) k p0 p1

noncomputable def m30sp : Spec := { ps := [.leaf (.val (.row (.int .u8))), .leaf (.val (.row (.int .u8)))], rs := [.leaf (.val .bool)], f := fun k a => m30F k a.1 a.2 }

theorem m30ok (k : Nat) : EnvOk (m30E k) := envOk_of (l := []) (lB := []) progNames progMixed rfl rfl (.nil) (.nil)

theorem m30con (k : Nat) : Contract Try.prog k 30 m30sp := contract_of (E := m30E k) (m30ok k) (A := only 30 m30A) (d := 3) (c := m30c []) (by kernel_rfl) (by kernel_rfl) fun a _ h => (m30q k a.1 a.2).trans h

noncomputable def m29A : Anns := tabA []
noncomputable def m29E (k : Nat) : Env := { P := Try.prog, k := k, G := tabG [(30, m30sp)], GB := tabGB [] }
noncomputable def m29c (p : List Bool) : Code := sub p (bodyOf Try.f29)
noncomputable def m29I (k : Nat) : Inl Bool := inlOf (m29E k) (only 29 m29A) 3
noncomputable def m29K0 (M : Cut Bool) (k : Nat) : Exit → St → Option Bool := seqK (normAt 0 m29A false (m29c [true])) (cutK M m29A (m29c [true]) fun s => evC (m29E k) M (m29I k) 0 m29A (m29c [true]) s (retK Try.prog Try.f29 [.leaf (.val .bool)])) (retK Try.prog Try.f29 [.leaf (.val .bool)])
noncomputable def m29K1 (M : Cut Bool) (k : Nat) : Exit → St → Option Bool := seqK (normAt 0 m29A false (m29c [true, true])) (cutK M m29A (m29c [true, true]) fun s => evC (m29E k) M (m29I k) 0 m29A (m29c [true, true]) s (retK Try.prog Try.f29 [.leaf (.val .bool)])) (retK Try.prog Try.f29 [.leaf (.val .bool)])

noncomputable def m29X (k : Nat) (p0 : (List Int)) (p1 : (Bool × (List Int))) : Option Bool := (Option.bind (m30F k p0 (Prod.snd p1)) fun (c4 : Bool) => some c4)

theorem m29x (M : Cut Bool) (k : Nat) (p0 : (List Int)) (p1 : (Bool × (List Int))) : evC (m29E k) M (m29I k) 0 m29A (m29c []) (stAt Try.f29 (argSs [.leaf (.val (.row (.int .u8))), .ptr (.pair .bool (.row (.int .u8)))] (p0, p1)) (fun _ => none) 0) (retK Try.prog Try.f29 [.leaf (.val .bool)]) = m29X k p0 p1 := by kernel_rfl

noncomputable def m29F (k : Nat) (p0 : (List Int)) (p1 : (Bool × (List Int))) : Option Bool := m29X k p0 p1

theorem m29q (k : Nat) (p0 : (List Int)) (p1 : (Bool × (List Int))) : evC (m29E k) (fun _ f => f) (m29I k) 0 m29A (m29c []) (stAt Try.f29 (argSs [.leaf (.val (.row (.int .u8))), .ptr (.pair .bool (.row (.int .u8)))] (p0, p1)) (fun _ => none) 0) (retK Try.prog Try.f29 [.leaf (.val .bool)]) = m29F k p0 p1 := by
    show _ = m29X k p0 p1
    exact m29x (fun _ f => f) k p0 p1

noncomputable def m29sp : Spec := { ps := [.leaf (.val (.row (.int .u8))), .ptr (.pair .bool (.row (.int .u8)))], rs := [.leaf (.val .bool)], f := fun k a => m29F k a.1 a.2 }

theorem m29ok (k : Nat) : EnvOk (m29E k) := envOk_of (l := [(30, m30sp)]) (lB := []) progNames progMixed rfl rfl (.cons ⟨m30con k, Try.f30, by kernel_rfl, by kernel_rfl⟩ (.nil)) (.nil)

theorem m29con (k : Nat) : Contract Try.prog k 29 m29sp := contract_of (E := m29E k) (m29ok k) (A := only 29 m29A) (d := 3) (c := m29c []) (by kernel_rfl) (by kernel_rfl) fun a _ h => (m29q k a.1 a.2).trans h

noncomputable def m44c29A : Anns := tabA [(5, { keep := [0, 1, 7, 8] })]
noncomputable def m44c29E (k : Nat) : Env := { P := Try.prog, k := k, G := tabG [(29, m29sp)], GB := tabGB [] }
noncomputable def m44c29c (p : List Bool) : Code := sub p (bodyOf Try.f44)
noncomputable def m44c29I (k : Nat) : Inl Int := inlOf (m44c29E k) (only 44 m44c29A) 3
noncomputable def m44c29K0 (M : Cut Int) (k : Nat) : Exit → St → Option Int := seqK (normAt 0 m44c29A false (m44c29c [true])) (cutK M m44c29A (m44c29c [true]) fun s => evC (m44c29E k) M (m44c29I k) 0 m44c29A (m44c29c [true]) s (retK Try.prog Try.f44 [.leaf (.val (.int .i64))])) (retK Try.prog Try.f44 [.leaf (.val (.int .i64))])
noncomputable def m44c29K1 (M : Cut Int) (k : Nat) : Exit → St → Option Int := seqK (normAt 0 m44c29A false (m44c29c [true, true])) (cutK M m44c29A (m44c29c [true, true]) fun s => evC (m44c29E k) M (m44c29I k) 0 m44c29A (m44c29c [true, true]) s (retK Try.prog Try.f44 [.leaf (.val (.int .i64))])) (retK Try.prog Try.f44 [.leaf (.val (.int .i64))])
noncomputable def m44c29K2 (M : Cut Int) (k : Nat) : Exit → St → Option Int := seqK (normAt 0 m44c29A false (m44c29c [true, false, true])) (cutK M m44c29A (m44c29c [true, false, true]) fun s => evC (m44c29E k) M (m44c29I k) 0 m44c29A (m44c29c [true, false, true]) s (m44c29K1 M k)) (m44c29K1 M k)
noncomputable def m44c29K3 (M : Cut Int) (k : Nat) : Exit → St → Option Int := blockK 0 (m44c29K1 M k)
noncomputable def m44c29K4 (M : Cut Int) (k : Nat) (L5 : St → Option Int) : Exit → St → Option Int := seqK (normAt 0 m44c29A true (m44c29c [true, false, true, true, true])) L5 (m44c29K3 M k)
noncomputable def m44c29K5 (M : Cut Int) (k : Nat) (L5 : St → Option Int) : Exit → St → Option Int := seqK (normAt 0 m44c29A false (m44c29c [true, false, true, true, true, true])) (cutK M m44c29A (m44c29c [true, false, true, true, true, true]) fun s => evC (m44c29E k) M (m44c29I k) 0 m44c29A (m44c29c [true, false, true, true, true, true]) s (m44c29K4 M k L5)) (m44c29K4 M k L5)
noncomputable def m44c29K6 (M : Cut Int) (k : Nat) (L5 : St → Option Int) : Exit → St → Option Int := seqK (normAt 0 m44c29A false (m44c29c [true, false, true, true, true, true, true])) (cutK M m44c29A (m44c29c [true, false, true, true, true, true, true]) fun s => evC (m44c29E k) M (m44c29I k) 0 m44c29A (m44c29c [true, false, true, true, true, true, true]) s (m44c29K4 M k L5)) (m44c29K4 M k L5)
noncomputable def m44c29K7 (M : Cut Int) (k : Nat) (L5 : St → Option Int) : Exit → St → Option Int := seqK (normAt 0 m44c29A false (m44c29c [true, false, true, true, true, true, true, true])) (cutK M m44c29A (m44c29c [true, false, true, true, true, true, true, true]) fun s => evC (m44c29E k) M (m44c29I k) 0 m44c29A (m44c29c [true, false, true, true, true, true, true, true]) s (m44c29K4 M k L5)) (m44c29K4 M k L5)
noncomputable def m44c29K8 (M : Cut Int) (k : Nat) (L5 : St → Option Int) : Exit → St → Option Int := blockK 1 (m44c29K7 M k L5)
noncomputable def m44c29K9 (M : Cut Int) (k : Nat) (L5 : St → Option Int) : Exit → St → Option Int := seqK (normAt 0 m44c29A false (m44c29c [true, false, true, true, true, true, true, false, true, true])) (cutK M m44c29A (m44c29c [true, false, true, true, true, true, true, false, true, true]) fun s => evC (m44c29E k) M (m44c29I k) 0 m44c29A (m44c29c [true, false, true, true, true, true, true, false, true, true]) s (m44c29K8 M k L5)) (m44c29K8 M k L5)
noncomputable def m44c29K10 (M : Cut Int) (k : Nat) (L5 : St → Option Int) : Exit → St → Option Int := seqK (normAt 0 m44c29A false (m44c29c [true, false, true, true, true, true, true, false, true, true, true])) (cutK M m44c29A (m44c29c [true, false, true, true, true, true, true, false, true, true, true]) fun s => evC (m44c29E k) M (m44c29I k) 0 m44c29A (m44c29c [true, false, true, true, true, true, true, false, true, true, true]) s (m44c29K8 M k L5)) (m44c29K8 M k L5)
noncomputable def m44c29K11 (M : Cut Int) (k : Nat) (L5 : St → Option Int) : Exit → St → Option Int := seqK (normAt 0 m44c29A false (m44c29c [true, false, true, true, true, true, true, false, true, true, true, false, true])) (cutK M m44c29A (m44c29c [true, false, true, true, true, true, true, false, true, true, true, false, true]) fun s => evC (m44c29E k) M (m44c29I k) 0 m44c29A (m44c29c [true, false, true, true, true, true, true, false, true, true, true, false, true]) s (m44c29K8 M k L5)) (m44c29K8 M k L5)
noncomputable def m44c29K12 (M : Cut Int) (k : Nat) : Exit → St → Option Int := seqK (normAt 0 m44c29A false (m44c29c [true, true, true])) (cutK M m44c29A (m44c29c [true, true, true]) fun s => evC (m44c29E k) M (m44c29I k) 0 m44c29A (m44c29c [true, true, true]) s (retK Try.prog Try.f44 [.leaf (.val (.int .i64))])) (retK Try.prog Try.f44 [.leaf (.val (.int .i64))])
noncomputable def m44c29S5 (t0 : List (List Int)) (t1_0_0 : Bool) (t1_0_1 : List Int) (t7 : Int) (t8 : Int) : St := { n := 19, tm := slots [(0, .row (.row (.int .u8)) t0), (1, .fn (.func 29) [.iptr [.bool t1_0_0, .row (.int .u8) t1_0_1]]), (7, .int .i64 t7), (8, .int .i64 t8)], tab := blks [], nx := 0 }

noncomputable def m44c29X (X5 : List (List Int) → Bool → List Int → Int → Int → Option Int) (k : Nat) (p0 : (List (List Int))) (p1 : (Bool × (List Int))) : Option Int := X5 p0 (Prod.fst p1) (Prod.snd p1) ((↑(List.length p0) : Int)) (0)

theorem m44c29x (M : Cut Int) (k : Nat) (p0 : (List (List Int))) (p1 : (Bool × (List Int))) : evC (m44c29E k) M (m44c29I k) 0 m44c29A (m44c29c []) (stAt Try.f44 (argSs [.leaf (.val (.row (.row (.int .u8)))), .fn 29 [(.pair .bool (.row (.int .u8)))]] (p0, p1)) (fun _ => none) 0) (retK Try.prog Try.f44 [.leaf (.val (.int .i64))]) = m44c29X (fun t0' t1_0_0' t1_0_1' t7' t8' => loopN (normAt 0 m44c29A true (m44c29c [true, false, true, true, true])) (fun K s => evC (m44c29E k) M (m44c29I k) 0 m44c29A (m44c29c [true, false, true, true, true]) s K) (m44c29K3 M k) k (m44c29S5 t0' t1_0_0' t1_0_1' t7' t8')) k p0 p1 := by kernel_rfl

noncomputable def m44c29X5 (L5 : List (List Int) → Bool → List Int → Int → Int → Option Int) (k : Nat) (t0 : List (List Int)) (t1_0_0 : Bool) (t1_0_1 : List Int) (t7 : Int) (t8 : Int) : Option Int := (if ltI t8 t7 = true then (if leI 0 t8 = true then (if ltI t8 (↑(List.length t0) : Int) = true then (Option.bind (m29F k (List.getD t0 (Int.toNat t8) []) (t1_0_0, t1_0_1)) fun (c8 : Bool) => (if c8 = true then some t8 else L5 t0 t1_0_0 t1_0_1 t7 (wr IntKind.i64 (t8 + 1)))) else none) else none) else some (-1))

theorem m44c29x5 (M : Cut Int) (k : Nat) (L5 : St → Option Int) (t0 : List (List Int)) (t1_0_0 : Bool) (t1_0_1 : List Int) (t7 : Int) (t8 : Int) : evC (m44c29E k) M (m44c29I k) 0 m44c29A (m44c29c [true, false, true, true, true]) (m44c29S5 t0 t1_0_0 t1_0_1 t7 t8) (seqK (normAt 0 m44c29A true (m44c29c [true, false, true, true, true])) L5 (m44c29K3 M k)) = m44c29X5 (fun t0' t1_0_0' t1_0_1' t7' t8' => L5 (m44c29S5 t0' t1_0_0' t1_0_1' t7' t8')) k t0 t1_0_0 t1_0_1 t7 t8 := by kernel_rfl

noncomputable def m44c29F5 (k : Nat) : Nat → List (List Int) → Bool → List Int → Int → Int → Option Int
  | 0, _, _, _, _, _ => none
  | j + 1, t0, t1_0_0, t1_0_1, t7, t8 => m44c29X5 (m44c29F5 k j) k t0 t1_0_0 t1_0_1 t7 t8

theorem m44c29q5 (k : Nat) : ∀ (j : Nat) (t0 : List (List Int)) (t1_0_0 : Bool) (t1_0_1 : List Int) (t7 : Int) (t8 : Int), loopN (normAt 0 m44c29A true (m44c29c [true, false, true, true, true])) (fun K s => evC (m44c29E k) (fun _ f => f) (m44c29I k) 0 m44c29A (m44c29c [true, false, true, true, true]) s K) (m44c29K3 (fun _ f => f) k) j (m44c29S5 t0 t1_0_0 t1_0_1 t7 t8) = m44c29F5 k j t0 t1_0_0 t1_0_1 t7 t8
  | 0, _, _, _, _, _ => rfl
  | j + 1, t0, t1_0_0, t1_0_1, t7, t8 => by
    have e0 : m44c29F5 k j = (fun t0' t1_0_0' t1_0_1' t7' t8' => loopN (normAt 0 m44c29A true (m44c29c [true, false, true, true, true])) (fun K s => evC (m44c29E k) (fun _ f => f) (m44c29I k) 0 m44c29A (m44c29c [true, false, true, true, true]) s K) (m44c29K3 (fun _ f => f) k) j (m44c29S5 t0' t1_0_0' t1_0_1' t7' t8')) := funext fun t0' => funext fun t1_0_0' => funext fun t1_0_1' => funext fun t7' => funext fun t8' => (m44c29q5 k j t0' t1_0_0' t1_0_1' t7' t8').symm
    show _ = m44c29X5 (m44c29F5 k j) k t0 t1_0_0 t1_0_1 t7 t8
    rw [e0]
    exact m44c29x5 (fun _ f => f) k (loopN (normAt 0 m44c29A true (m44c29c [true, false, true, true, true])) (fun K s => evC (m44c29E k) (fun _ f => f) (m44c29I k) 0 m44c29A (m44c29c [true, false, true, true, true]) s K) (m44c29K3 (fun _ f => f) k) j) t0 t1_0_0 t1_0_1 t7 t8

noncomputable def m44c29F (k : Nat) (p0 : (List (List Int))) (p1 : (Bool × (List Int))) : Option Int := m44c29X (m44c29F5 k k) k p0 p1

theorem m44c29q (k : Nat) (p0 : (List (List Int))) (p1 : (Bool × (List Int))) : evC (m44c29E k) (fun _ f => f) (m44c29I k) 0 m44c29A (m44c29c []) (stAt Try.f44 (argSs [.leaf (.val (.row (.row (.int .u8)))), .fn 29 [(.pair .bool (.row (.int .u8)))]] (p0, p1)) (fun _ => none) 0) (retK Try.prog Try.f44 [.leaf (.val (.int .i64))]) = m44c29F k p0 p1 := by
    have e5 : m44c29F5 k k = (fun t0' t1_0_0' t1_0_1' t7' t8' => loopN (normAt 0 m44c29A true (m44c29c [true, false, true, true, true])) (fun K s => evC (m44c29E k) (fun _ f => f) (m44c29I k) 0 m44c29A (m44c29c [true, false, true, true, true]) s K) (m44c29K3 (fun _ f => f) k) k (m44c29S5 t0' t1_0_0' t1_0_1' t7' t8')) := funext fun t0' => funext fun t1_0_0' => funext fun t1_0_1' => funext fun t7' => funext fun t8' => (m44c29q5 k k t0' t1_0_0' t1_0_1' t7' t8').symm
    show _ = m44c29X (m44c29F5 k k) k p0 p1
    rw [e5]
    exact m44c29x (fun _ f => f) k p0 p1

noncomputable def m44c29sp : Spec := { ps := [.leaf (.val (.row (.row (.int .u8)))), .fn 29 [(.pair .bool (.row (.int .u8)))]], rs := [.leaf (.val (.int .i64))], f := fun k a => m44c29F k a.1 a.2 }

theorem m44c29ok (k : Nat) : EnvOk (m44c29E k) := envOk_of (l := [(29, m29sp)]) (lB := []) progNames progMixed rfl rfl (.cons ⟨m29con k, Try.f29, by kernel_rfl, by kernel_rfl⟩ (.nil)) (.nil)

theorem m44c29con (k : Nat) : Contract Try.prog k 44 m44c29sp := contract_of (E := m44c29E k) (m44c29ok k) (A := only 44 m44c29A) (d := 3) (c := m44c29c []) (by kernel_rfl) (by kernel_rfl) fun a _ h => (m44c29q k a.1 a.2).trans h

noncomputable def m28c29A : Anns := tabA []
noncomputable def m28c29E (k : Nat) : Env := { P := Try.prog, k := k, G := tabG [(29, m29sp), (30000044, m44c29sp)], GB := tabGB [] }
noncomputable def m28c29c (p : List Bool) : Code := sub p (bodyOf Try.f28)
noncomputable def m28c29I (k : Nat) : Inl Bool := inlOf (m28c29E k) (only 28 m28c29A) 3
noncomputable def m28c29K0 (M : Cut Bool) (k : Nat) : Exit → St → Option Bool := seqK (normAt 0 m28c29A false (m28c29c [true])) (cutK M m28c29A (m28c29c [true]) fun s => evC (m28c29E k) M (m28c29I k) 0 m28c29A (m28c29c [true]) s (retK Try.prog Try.f28 [.leaf (.val .bool)])) (retK Try.prog Try.f28 [.leaf (.val .bool)])
noncomputable def m28c29K1 (M : Cut Bool) (k : Nat) : Exit → St → Option Bool := seqK (normAt 0 m28c29A false (m28c29c [true, true])) (cutK M m28c29A (m28c29c [true, true]) fun s => evC (m28c29E k) M (m28c29I k) 0 m28c29A (m28c29c [true, true]) s (retK Try.prog Try.f28 [.leaf (.val .bool)])) (retK Try.prog Try.f28 [.leaf (.val .bool)])

noncomputable def m28c29X (k : Nat) (p0 : (List (List Int))) (p1 : (Bool × (List Int))) : Option Bool := (Option.bind (m44c29F k p0 (Prod.fst p1, Prod.snd p1)) fun (c4 : Int) => some (leI 0 c4))

theorem m28c29x (M : Cut Bool) (k : Nat) (p0 : (List (List Int))) (p1 : (Bool × (List Int))) : evC (m28c29E k) M (m28c29I k) 0 m28c29A (m28c29c []) (stAt Try.f28 (argSs [.leaf (.val (.row (.row (.int .u8)))), .fn 29 [(.pair .bool (.row (.int .u8)))]] (p0, p1)) (fun _ => none) 0) (retK Try.prog Try.f28 [.leaf (.val .bool)]) = m28c29X k p0 p1 := by kernel_rfl

noncomputable def m28c29F (k : Nat) (p0 : (List (List Int))) (p1 : (Bool × (List Int))) : Option Bool := m28c29X k p0 p1

theorem m28c29q (k : Nat) (p0 : (List (List Int))) (p1 : (Bool × (List Int))) : evC (m28c29E k) (fun _ f => f) (m28c29I k) 0 m28c29A (m28c29c []) (stAt Try.f28 (argSs [.leaf (.val (.row (.row (.int .u8)))), .fn 29 [(.pair .bool (.row (.int .u8)))]] (p0, p1)) (fun _ => none) 0) (retK Try.prog Try.f28 [.leaf (.val .bool)]) = m28c29F k p0 p1 := by
    show _ = m28c29X k p0 p1
    exact m28c29x (fun _ f => f) k p0 p1

noncomputable def m28c29sp : Spec := { ps := [.leaf (.val (.row (.row (.int .u8)))), .fn 29 [(.pair .bool (.row (.int .u8)))]], rs := [.leaf (.val .bool)], f := fun k a => m28c29F k a.1 a.2 }

theorem m28c29ok (k : Nat) : EnvOk (m28c29E k) := envOk_of (l := [(29, m29sp), (30000044, m44c29sp)]) (lB := []) progNames progMixed rfl rfl (.cons ⟨m29con k, Try.f29, by kernel_rfl, by kernel_rfl⟩ (.cons ⟨m44c29con k, Try.f44, by kernel_rfl, by kernel_rfl⟩ (.nil))) (.nil)

theorem m28c29con (k : Nat) : Contract Try.prog k 28 m28c29sp := contract_of (E := m28c29E k) (m28c29ok k) (A := only 28 m28c29A) (d := 3) (c := m28c29c []) (by kernel_rfl) (by kernel_rfl) fun a _ h => (m28c29q k a.1 a.2).trans h

noncomputable def m26A : Anns := tabA []
noncomputable def m26E (k : Nat) : Env := { P := Try.prog, k := k, G := tabG [(27, m27sp), (30000028, m28c29sp)], GB := tabGB [] }
noncomputable def m26c (p : List Bool) : Code := sub p (bodyOf Try.f26)
noncomputable def m26I (k : Nat) : Inl Bool := inlOf (m26E k) (only 26 m26A) 3
noncomputable def m26K0 (M : Cut Bool) (k : Nat) : Exit → St → Option Bool := seqK (normAt 0 m26A false (m26c [true])) (cutK M m26A (m26c [true]) fun s => evC (m26E k) M (m26I k) 0 m26A (m26c [true]) s (retK Try.prog Try.f26 [.leaf (.val .bool)])) (retK Try.prog Try.f26 [.leaf (.val .bool)])
noncomputable def m26K1 (M : Cut Bool) (k : Nat) : Exit → St → Option Bool := seqK (normAt 0 m26A false (m26c [true, true])) (cutK M m26A (m26c [true, true]) fun s => evC (m26E k) M (m26I k) 0 m26A (m26c [true, true]) s (retK Try.prog Try.f26 [.leaf (.val .bool)])) (retK Try.prog Try.f26 [.leaf (.val .bool)])
noncomputable def m26K2 (M : Cut Bool) (k : Nat) : Exit → St → Option Bool := seqK (normAt 0 m26A false (m26c [true, false, true])) (cutK M m26A (m26c [true, false, true]) fun s => evC (m26E k) M (m26I k) 0 m26A (m26c [true, false, true]) s (m26K1 M k)) (m26K1 M k)
noncomputable def m26K3 (M : Cut Bool) (k : Nat) : Exit → St → Option Bool := seqK (normAt 0 m26A false (m26c [true, false, true, false, true])) (cutK M m26A (m26c [true, false, true, false, true]) fun s => evC (m26E k) M (m26I k) 0 m26A (m26c [true, false, true, false, true]) s (m26K1 M k)) (m26K1 M k)
noncomputable def m26K4 (M : Cut Bool) (k : Nat) : Exit → St → Option Bool := seqK (normAt 0 m26A false (m26c [true, true, true])) (cutK M m26A (m26c [true, true, true]) fun s => evC (m26E k) M (m26I k) 0 m26A (m26c [true, true, true]) s (retK Try.prog Try.f26 [.leaf (.val .bool)])) (retK Try.prog Try.f26 [.leaf (.val .bool)])
noncomputable def m26K5 (M : Cut Bool) (k : Nat) : Exit → St → Option Bool := seqK (normAt 0 m26A false (m26c [true, true, true, true])) (cutK M m26A (m26c [true, true, true, true]) fun s => evC (m26E k) M (m26I k) 0 m26A (m26c [true, true, true, true]) s (retK Try.prog Try.f26 [.leaf (.val .bool)])) (retK Try.prog Try.f26 [.leaf (.val .bool)])

noncomputable def m26X (k : Nat) (p0 : (Bool × (List Int))) (p1 : (List (List Int))) : Option Bool := (if (!Prod.fst p0) = true then some (false) else (Option.bind (m27F k (Prod.snd p0)) fun (c4 : ((Int × Int) × Int)) => (if eqI (Prod.snd c4) 0 = true then (Option.bind (m28c29F k p1 (Prod.fst p0, Prod.snd p0)) fun (c5 : Bool) => some (!c5)) else some (false))))

theorem m26x (M : Cut Bool) (k : Nat) (p0 : (Bool × (List Int))) (p1 : (List (List Int))) : evC (m26E k) M (m26I k) 0 m26A (m26c []) (stAt Try.f26 (argSs [.st (.pair .bool (.row (.int .u8))), .ptr (.row (.row (.int .u8)))] (p0, p1)) (fun _ => none) 0) (retK Try.prog Try.f26 [.leaf (.val .bool)]) = m26X k p0 p1 := by kernel_rfl

noncomputable def m26F (k : Nat) (p0 : (Bool × (List Int))) (p1 : (List (List Int))) : Option Bool := m26X k p0 p1

theorem m26q (k : Nat) (p0 : (Bool × (List Int))) (p1 : (List (List Int))) : evC (m26E k) (fun _ f => f) (m26I k) 0 m26A (m26c []) (stAt Try.f26 (argSs [.st (.pair .bool (.row (.int .u8))), .ptr (.row (.row (.int .u8)))] (p0, p1)) (fun _ => none) 0) (retK Try.prog Try.f26 [.leaf (.val .bool)]) = m26F k p0 p1 := by
    show _ = m26X k p0 p1
    exact m26x (fun _ f => f) k p0 p1

noncomputable def m26sp : Spec := { ps := [.st (.pair .bool (.row (.int .u8))), .ptr (.row (.row (.int .u8)))], rs := [.leaf (.val .bool)], f := fun k a => m26F k a.1 a.2 }

theorem m26ok (k : Nat) : EnvOk (m26E k) := envOk_of (l := [(27, m27sp), (30000028, m28c29sp)]) (lB := []) progNames progMixed rfl rfl (.cons ⟨m27con k, Try.f27, by kernel_rfl, by kernel_rfl⟩ (.cons ⟨m28c29con k, Try.f28, by kernel_rfl, by kernel_rfl⟩ (.nil))) (.nil)

theorem m26con (k : Nat) : Contract Try.prog k 26 m26sp := contract_of (E := m26E k) (m26ok k) (A := only 26 m26A) (d := 3) (c := m26c []) (by kernel_rfl) (by kernel_rfl) fun a _ h => (m26q k a.1 a.2).trans h

noncomputable def m25c26A : Anns := tabA [(5, { keep := [0, 1, 7, 8] })]
noncomputable def m25c26E (k : Nat) : Env := { P := Try.prog, k := k, G := tabG [(26, m26sp)], GB := tabGB [] }
noncomputable def m25c26c (p : List Bool) : Code := sub p (bodyOf Try.f25)
noncomputable def m25c26I (k : Nat) : Inl Int := inlOf (m25c26E k) (only 25 m25c26A) 3
noncomputable def m25c26K0 (M : Cut Int) (k : Nat) : Exit → St → Option Int := seqK (normAt 0 m25c26A false (m25c26c [true])) (cutK M m25c26A (m25c26c [true]) fun s => evC (m25c26E k) M (m25c26I k) 0 m25c26A (m25c26c [true]) s (retK Try.prog Try.f25 [.leaf (.val (.int .i64))])) (retK Try.prog Try.f25 [.leaf (.val (.int .i64))])
noncomputable def m25c26K1 (M : Cut Int) (k : Nat) : Exit → St → Option Int := seqK (normAt 0 m25c26A false (m25c26c [true, true])) (cutK M m25c26A (m25c26c [true, true]) fun s => evC (m25c26E k) M (m25c26I k) 0 m25c26A (m25c26c [true, true]) s (retK Try.prog Try.f25 [.leaf (.val (.int .i64))])) (retK Try.prog Try.f25 [.leaf (.val (.int .i64))])
noncomputable def m25c26K2 (M : Cut Int) (k : Nat) : Exit → St → Option Int := seqK (normAt 0 m25c26A false (m25c26c [true, false, true])) (cutK M m25c26A (m25c26c [true, false, true]) fun s => evC (m25c26E k) M (m25c26I k) 0 m25c26A (m25c26c [true, false, true]) s (m25c26K1 M k)) (m25c26K1 M k)
noncomputable def m25c26K3 (M : Cut Int) (k : Nat) : Exit → St → Option Int := blockK 0 (m25c26K1 M k)
noncomputable def m25c26K4 (M : Cut Int) (k : Nat) (L5 : St → Option Int) : Exit → St → Option Int := seqK (normAt 0 m25c26A true (m25c26c [true, false, true, true, true])) L5 (m25c26K3 M k)
noncomputable def m25c26K5 (M : Cut Int) (k : Nat) (L5 : St → Option Int) : Exit → St → Option Int := seqK (normAt 0 m25c26A false (m25c26c [true, false, true, true, true, true])) (cutK M m25c26A (m25c26c [true, false, true, true, true, true]) fun s => evC (m25c26E k) M (m25c26I k) 0 m25c26A (m25c26c [true, false, true, true, true, true]) s (m25c26K4 M k L5)) (m25c26K4 M k L5)
noncomputable def m25c26K6 (M : Cut Int) (k : Nat) (L5 : St → Option Int) : Exit → St → Option Int := seqK (normAt 0 m25c26A false (m25c26c [true, false, true, true, true, true, true])) (cutK M m25c26A (m25c26c [true, false, true, true, true, true, true]) fun s => evC (m25c26E k) M (m25c26I k) 0 m25c26A (m25c26c [true, false, true, true, true, true, true]) s (m25c26K4 M k L5)) (m25c26K4 M k L5)
noncomputable def m25c26K7 (M : Cut Int) (k : Nat) (L5 : St → Option Int) : Exit → St → Option Int := seqK (normAt 0 m25c26A false (m25c26c [true, false, true, true, true, true, true, true])) (cutK M m25c26A (m25c26c [true, false, true, true, true, true, true, true]) fun s => evC (m25c26E k) M (m25c26I k) 0 m25c26A (m25c26c [true, false, true, true, true, true, true, true]) s (m25c26K4 M k L5)) (m25c26K4 M k L5)
noncomputable def m25c26K8 (M : Cut Int) (k : Nat) (L5 : St → Option Int) : Exit → St → Option Int := blockK 1 (m25c26K7 M k L5)
noncomputable def m25c26K9 (M : Cut Int) (k : Nat) (L5 : St → Option Int) : Exit → St → Option Int := seqK (normAt 0 m25c26A false (m25c26c [true, false, true, true, true, true, true, false, true, true])) (cutK M m25c26A (m25c26c [true, false, true, true, true, true, true, false, true, true]) fun s => evC (m25c26E k) M (m25c26I k) 0 m25c26A (m25c26c [true, false, true, true, true, true, true, false, true, true]) s (m25c26K8 M k L5)) (m25c26K8 M k L5)
noncomputable def m25c26K10 (M : Cut Int) (k : Nat) (L5 : St → Option Int) : Exit → St → Option Int := seqK (normAt 0 m25c26A false (m25c26c [true, false, true, true, true, true, true, false, true, true, true])) (cutK M m25c26A (m25c26c [true, false, true, true, true, true, true, false, true, true, true]) fun s => evC (m25c26E k) M (m25c26I k) 0 m25c26A (m25c26c [true, false, true, true, true, true, true, false, true, true, true]) s (m25c26K8 M k L5)) (m25c26K8 M k L5)
noncomputable def m25c26K11 (M : Cut Int) (k : Nat) (L5 : St → Option Int) : Exit → St → Option Int := seqK (normAt 0 m25c26A false (m25c26c [true, false, true, true, true, true, true, false, true, true, true, false, true])) (cutK M m25c26A (m25c26c [true, false, true, true, true, true, true, false, true, true, true, false, true]) fun s => evC (m25c26E k) M (m25c26I k) 0 m25c26A (m25c26c [true, false, true, true, true, true, true, false, true, true, true, false, true]) s (m25c26K8 M k L5)) (m25c26K8 M k L5)
noncomputable def m25c26K12 (M : Cut Int) (k : Nat) : Exit → St → Option Int := seqK (normAt 0 m25c26A false (m25c26c [true, true, true])) (cutK M m25c26A (m25c26c [true, true, true]) fun s => evC (m25c26E k) M (m25c26I k) 0 m25c26A (m25c26c [true, true, true]) s (retK Try.prog Try.f25 [.leaf (.val (.int .i64))])) (retK Try.prog Try.f25 [.leaf (.val (.int .i64))])
noncomputable def m25c26S5 (t0 : List (Bool × (List Int))) (t1_0_0 : List (List Int)) (t7 : Int) (t8 : Int) : St := { n := 19, tm := slots [(0, .row (.pair .bool (.row (.int .u8))) t0), (1, .fn (.func 26) [.iptr [.row (.row (.int .u8)) t1_0_0]]), (7, .int .i64 t7), (8, .int .i64 t8)], tab := blks [], nx := 0 }

noncomputable def m25c26X (X5 : List (Bool × (List Int)) → List (List Int) → Int → Int → Option Int) (k : Nat) (p0 : (List (Bool × (List Int)))) (p1 : (List (List Int))) : Option Int := X5 p0 p1 ((↑(List.length p0) : Int)) (0)

theorem m25c26x (M : Cut Int) (k : Nat) (p0 : (List (Bool × (List Int)))) (p1 : (List (List Int))) : evC (m25c26E k) M (m25c26I k) 0 m25c26A (m25c26c []) (stAt Try.f25 (argSs [.leaf (.val (.row (.pair .bool (.row (.int .u8))))), .fn 26 [(.row (.row (.int .u8)))]] (p0, p1)) (fun _ => none) 0) (retK Try.prog Try.f25 [.leaf (.val (.int .i64))]) = m25c26X (fun t0' t1_0_0' t7' t8' => loopN (normAt 0 m25c26A true (m25c26c [true, false, true, true, true])) (fun K s => evC (m25c26E k) M (m25c26I k) 0 m25c26A (m25c26c [true, false, true, true, true]) s K) (m25c26K3 M k) k (m25c26S5 t0' t1_0_0' t7' t8')) k p0 p1 := by kernel_rfl

noncomputable def m25c26X5 (L5 : List (Bool × (List Int)) → List (List Int) → Int → Int → Option Int) (k : Nat) (t0 : List (Bool × (List Int))) (t1_0_0 : List (List Int)) (t7 : Int) (t8 : Int) : Option Int := (if ltI t8 t7 = true then (if leI 0 t8 = true then (if ltI t8 (↑(List.length t0) : Int) = true then (Option.bind (m26F k (Prod.fst (List.getD t0 (Int.toNat t8) (false, [])), Prod.snd (List.getD t0 (Int.toNat t8) (false, []))) t1_0_0) fun (c7 : Bool) => (if c7 = true then some t8 else L5 t0 t1_0_0 t7 (wr IntKind.i64 (t8 + 1)))) else none) else none) else some (-1))

theorem m25c26x5 (M : Cut Int) (k : Nat) (L5 : St → Option Int) (t0 : List (Bool × (List Int))) (t1_0_0 : List (List Int)) (t7 : Int) (t8 : Int) : evC (m25c26E k) M (m25c26I k) 0 m25c26A (m25c26c [true, false, true, true, true]) (m25c26S5 t0 t1_0_0 t7 t8) (seqK (normAt 0 m25c26A true (m25c26c [true, false, true, true, true])) L5 (m25c26K3 M k)) = m25c26X5 (fun t0' t1_0_0' t7' t8' => L5 (m25c26S5 t0' t1_0_0' t7' t8')) k t0 t1_0_0 t7 t8 := by kernel_rfl

noncomputable def m25c26F5 (k : Nat) : Nat → List (Bool × (List Int)) → List (List Int) → Int → Int → Option Int
  | 0, _, _, _, _ => none
  | j + 1, t0, t1_0_0, t7, t8 => m25c26X5 (m25c26F5 k j) k t0 t1_0_0 t7 t8

theorem m25c26q5 (k : Nat) : ∀ (j : Nat) (t0 : List (Bool × (List Int))) (t1_0_0 : List (List Int)) (t7 : Int) (t8 : Int), loopN (normAt 0 m25c26A true (m25c26c [true, false, true, true, true])) (fun K s => evC (m25c26E k) (fun _ f => f) (m25c26I k) 0 m25c26A (m25c26c [true, false, true, true, true]) s K) (m25c26K3 (fun _ f => f) k) j (m25c26S5 t0 t1_0_0 t7 t8) = m25c26F5 k j t0 t1_0_0 t7 t8
  | 0, _, _, _, _ => rfl
  | j + 1, t0, t1_0_0, t7, t8 => by
    have e0 : m25c26F5 k j = (fun t0' t1_0_0' t7' t8' => loopN (normAt 0 m25c26A true (m25c26c [true, false, true, true, true])) (fun K s => evC (m25c26E k) (fun _ f => f) (m25c26I k) 0 m25c26A (m25c26c [true, false, true, true, true]) s K) (m25c26K3 (fun _ f => f) k) j (m25c26S5 t0' t1_0_0' t7' t8')) := funext fun t0' => funext fun t1_0_0' => funext fun t7' => funext fun t8' => (m25c26q5 k j t0' t1_0_0' t7' t8').symm
    show _ = m25c26X5 (m25c26F5 k j) k t0 t1_0_0 t7 t8
    rw [e0]
    exact m25c26x5 (fun _ f => f) k (loopN (normAt 0 m25c26A true (m25c26c [true, false, true, true, true])) (fun K s => evC (m25c26E k) (fun _ f => f) (m25c26I k) 0 m25c26A (m25c26c [true, false, true, true, true]) s K) (m25c26K3 (fun _ f => f) k) j) t0 t1_0_0 t7 t8

noncomputable def m25c26F (k : Nat) (p0 : (List (Bool × (List Int)))) (p1 : (List (List Int))) : Option Int := m25c26X (m25c26F5 k k) k p0 p1

theorem m25c26q (k : Nat) (p0 : (List (Bool × (List Int)))) (p1 : (List (List Int))) : evC (m25c26E k) (fun _ f => f) (m25c26I k) 0 m25c26A (m25c26c []) (stAt Try.f25 (argSs [.leaf (.val (.row (.pair .bool (.row (.int .u8))))), .fn 26 [(.row (.row (.int .u8)))]] (p0, p1)) (fun _ => none) 0) (retK Try.prog Try.f25 [.leaf (.val (.int .i64))]) = m25c26F k p0 p1 := by
    have e5 : m25c26F5 k k = (fun t0' t1_0_0' t7' t8' => loopN (normAt 0 m25c26A true (m25c26c [true, false, true, true, true])) (fun K s => evC (m25c26E k) (fun _ f => f) (m25c26I k) 0 m25c26A (m25c26c [true, false, true, true, true]) s K) (m25c26K3 (fun _ f => f) k) k (m25c26S5 t0' t1_0_0' t7' t8')) := funext fun t0' => funext fun t1_0_0' => funext fun t7' => funext fun t8' => (m25c26q5 k k t0' t1_0_0' t7' t8').symm
    show _ = m25c26X (m25c26F5 k k) k p0 p1
    rw [e5]
    exact m25c26x (fun _ f => f) k p0 p1

noncomputable def m25c26sp : Spec := { ps := [.leaf (.val (.row (.pair .bool (.row (.int .u8))))), .fn 26 [(.row (.row (.int .u8)))]], rs := [.leaf (.val (.int .i64))], f := fun k a => m25c26F k a.1 a.2 }

theorem m25c26ok (k : Nat) : EnvOk (m25c26E k) := envOk_of (l := [(26, m26sp)]) (lB := []) progNames progMixed rfl rfl (.cons ⟨m26con k, Try.f26, by kernel_rfl, by kernel_rfl⟩ (.nil)) (.nil)

theorem m25c26con (k : Nat) : Contract Try.prog k 25 m25c26sp := contract_of (E := m25c26E k) (m25c26ok k) (A := only 25 m25c26A) (d := 3) (c := m25c26c []) (by kernel_rfl) (by kernel_rfl) fun a _ h => (m25c26q k a.1 a.2).trans h

noncomputable def m10A : Anns := tabA []
noncomputable def m10E (k : Nat) : Env := { P := Try.prog, k := k, G := tabG [(27000025, m25c26sp)], GB := tabGB [] }
noncomputable def m10c (p : List Bool) : Code := sub p (bodyOf Try.f10)
noncomputable def m10I (k : Nat) : Inl Int := inlOf (m10E k) (only 10 m10A) 3
noncomputable def m10K0 (M : Cut Int) (k : Nat) : Exit → St → Option Int := seqK (normAt 0 m10A false (m10c [true])) (cutK M m10A (m10c [true]) fun s => evC (m10E k) M (m10I k) 0 m10A (m10c [true]) s (retK Try.prog Try.f10 [.leaf (.val (.int .i64))])) (retK Try.prog Try.f10 [.leaf (.val (.int .i64))])
noncomputable def m10K1 (M : Cut Int) (k : Nat) : Exit → St → Option Int := seqK (normAt 0 m10A false (m10c [true, true])) (cutK M m10A (m10c [true, true]) fun s => evC (m10E k) M (m10I k) 0 m10A (m10c [true, true]) s (retK Try.prog Try.f10 [.leaf (.val (.int .i64))])) (retK Try.prog Try.f10 [.leaf (.val (.int .i64))])

noncomputable def m10X (k : Nat) (p0 : (List (Bool × (List Int)))) (p1 : (List (List Int))) : Option Int := (Option.bind (m25c26F k p0 p1) fun (c4 : Int) => some c4)

theorem m10x (M : Cut Int) (k : Nat) (p0 : (List (Bool × (List Int)))) (p1 : (List (List Int))) : evC (m10E k) M (m10I k) 0 m10A (m10c []) (stAt Try.f10 (argSs [.leaf (.val (.row (.pair .bool (.row (.int .u8))))), .leaf (.val (.row (.row (.int .u8))))] (p0, p1)) (fun _ => none) 0) (retK Try.prog Try.f10 [.leaf (.val (.int .i64))]) = m10X k p0 p1 := by kernel_rfl

noncomputable def m10F (k : Nat) (p0 : (List (Bool × (List Int)))) (p1 : (List (List Int))) : Option Int := m10X k p0 p1

theorem m10q (k : Nat) (p0 : (List (Bool × (List Int)))) (p1 : (List (List Int))) : evC (m10E k) (fun _ f => f) (m10I k) 0 m10A (m10c []) (stAt Try.f10 (argSs [.leaf (.val (.row (.pair .bool (.row (.int .u8))))), .leaf (.val (.row (.row (.int .u8))))] (p0, p1)) (fun _ => none) 0) (retK Try.prog Try.f10 [.leaf (.val (.int .i64))]) = m10F k p0 p1 := by
    show _ = m10X k p0 p1
    exact m10x (fun _ f => f) k p0 p1

noncomputable def m10sp : Spec := { ps := [.leaf (.val (.row (.pair .bool (.row (.int .u8))))), .leaf (.val (.row (.row (.int .u8))))], rs := [.leaf (.val (.int .i64))], f := fun k a => m10F k a.1 a.2 }

theorem m10ok (k : Nat) : EnvOk (m10E k) := envOk_of (l := [(27000025, m25c26sp)]) (lB := []) progNames progMixed rfl rfl (.cons ⟨m25c26con k, Try.f25, by kernel_rfl, by kernel_rfl⟩ (.nil)) (.nil)

theorem m10con (k : Nat) : Contract Try.prog k 10 m10sp := contract_of (E := m10E k) (m10ok k) (A := only 10 m10A) (d := 3) (c := m10c []) (by kernel_rfl) (by kernel_rfl) fun a _ h => (m10q k a.1 a.2).trans h

noncomputable def m22A : Anns := tabA [(9, { keep := [0, 1, 5] })]
noncomputable def m22E (k : Nat) : Env := { P := Try.prog, k := k, G := tabG [], GB := tabGB [] }
noncomputable def m22c (p : List Bool) : Code := sub p (bodyOf Try.f22)
noncomputable def m22I (k : Nat) : Inl Bool := inlOf (m22E k) (only 22 m22A) 3
noncomputable def m22K0 (M : Cut Bool) (k : Nat) : Exit → St → Option Bool := seqK (normAt 0 m22A false (m22c [true])) (cutK M m22A (m22c [true]) fun s => evC (m22E k) M (m22I k) 0 m22A (m22c [true]) s (retK Try.prog Try.f22 [.leaf (.val .bool)])) (retK Try.prog Try.f22 [.leaf (.val .bool)])
noncomputable def m22K1 (M : Cut Bool) (k : Nat) : Exit → St → Option Bool := seqK (normAt 0 m22A false (m22c [true, true])) (cutK M m22A (m22c [true, true]) fun s => evC (m22E k) M (m22I k) 0 m22A (m22c [true, true]) s (retK Try.prog Try.f22 [.leaf (.val .bool)])) (retK Try.prog Try.f22 [.leaf (.val .bool)])
noncomputable def m22K2 (M : Cut Bool) (k : Nat) : Exit → St → Option Bool := seqK (normAt 0 m22A false (m22c [true, false, true])) (cutK M m22A (m22c [true, false, true]) fun s => evC (m22E k) M (m22I k) 0 m22A (m22c [true, false, true]) s (m22K1 M k)) (m22K1 M k)
noncomputable def m22K3 (M : Cut Bool) (k : Nat) : Exit → St → Option Bool := seqK (normAt 0 m22A false (m22c [true, false, true, false, true])) (cutK M m22A (m22c [true, false, true, false, true]) fun s => evC (m22E k) M (m22I k) 0 m22A (m22c [true, false, true, false, true]) s (m22K1 M k)) (m22K1 M k)
noncomputable def m22K4 (M : Cut Bool) (k : Nat) : Exit → St → Option Bool := seqK (normAt 0 m22A false (m22c [true, true, true])) (cutK M m22A (m22c [true, true, true]) fun s => evC (m22E k) M (m22I k) 0 m22A (m22c [true, true, true]) s (retK Try.prog Try.f22 [.leaf (.val .bool)])) (retK Try.prog Try.f22 [.leaf (.val .bool)])
noncomputable def m22K5 (M : Cut Bool) (k : Nat) : Exit → St → Option Bool := seqK (normAt 0 m22A false (m22c [true, true, false, true])) (cutK M m22A (m22c [true, true, false, true]) fun s => evC (m22E k) M (m22I k) 0 m22A (m22c [true, true, false, true]) s (m22K4 M k)) (m22K4 M k)
noncomputable def m22K6 (M : Cut Bool) (k : Nat) : Exit → St → Option Bool := blockK 0 (m22K4 M k)
noncomputable def m22K7 (M : Cut Bool) (k : Nat) (L9 : St → Option Bool) : Exit → St → Option Bool := seqK (normAt 0 m22A true (m22c [true, true, false, true, true, true])) L9 (m22K6 M k)
noncomputable def m22K8 (M : Cut Bool) (k : Nat) (L9 : St → Option Bool) : Exit → St → Option Bool := seqK (normAt 0 m22A false (m22c [true, true, false, true, true, true, true])) (cutK M m22A (m22c [true, true, false, true, true, true, true]) fun s => evC (m22E k) M (m22I k) 0 m22A (m22c [true, true, false, true, true, true, true]) s (m22K7 M k L9)) (m22K7 M k L9)
noncomputable def m22K9 (M : Cut Bool) (k : Nat) (L9 : St → Option Bool) : Exit → St → Option Bool := seqK (normAt 0 m22A false (m22c [true, true, false, true, true, true, false, true])) (cutK M m22A (m22c [true, true, false, true, true, true, false, true]) fun s => evC (m22E k) M (m22I k) 0 m22A (m22c [true, true, false, true, true, true, false, true]) s (m22K8 M k L9)) (m22K8 M k L9)
noncomputable def m22K10 (M : Cut Bool) (k : Nat) (L9 : St → Option Bool) : Exit → St → Option Bool := seqK (normAt 0 m22A false (m22c [true, true, false, true, true, true, true, true])) (cutK M m22A (m22c [true, true, false, true, true, true, true, true]) fun s => evC (m22E k) M (m22I k) 0 m22A (m22c [true, true, false, true, true, true, true, true]) s (m22K7 M k L9)) (m22K7 M k L9)
noncomputable def m22K11 (M : Cut Bool) (k : Nat) (L9 : St → Option Bool) : Exit → St → Option Bool := blockK 1 (m22K10 M k L9)
noncomputable def m22K12 (M : Cut Bool) (k : Nat) (L9 : St → Option Bool) : Exit → St → Option Bool := seqK (normAt 0 m22A false (m22c [true, true, false, true, true, true, true, false, true, true])) (cutK M m22A (m22c [true, true, false, true, true, true, true, false, true, true]) fun s => evC (m22E k) M (m22I k) 0 m22A (m22c [true, true, false, true, true, true, true, false, true, true]) s (m22K11 M k L9)) (m22K11 M k L9)
noncomputable def m22K13 (M : Cut Bool) (k : Nat) (L9 : St → Option Bool) : Exit → St → Option Bool := seqK (normAt 0 m22A false (m22c [true, true, false, true, true, true, true, false, true, true, false, true])) (cutK M m22A (m22c [true, true, false, true, true, true, true, false, true, true, false, true]) fun s => evC (m22E k) M (m22I k) 0 m22A (m22c [true, true, false, true, true, true, true, false, true, true, false, true]) s (m22K11 M k L9)) (m22K11 M k L9)
noncomputable def m22K14 (M : Cut Bool) (k : Nat) : Exit → St → Option Bool := seqK (normAt 0 m22A false (m22c [true, true, true, true])) (cutK M m22A (m22c [true, true, true, true]) fun s => evC (m22E k) M (m22I k) 0 m22A (m22c [true, true, true, true]) s (retK Try.prog Try.f22 [.leaf (.val .bool)])) (retK Try.prog Try.f22 [.leaf (.val .bool)])
noncomputable def m22S9 (t0 : List Int) (t1 : List Int) (t5 : Int) : St := { n := 26, tm := slots [(0, .row (.int .u8) t0), (1, .row (.int .u8) t1), (5, .int .i64 t5)], tab := blks [], nx := 0 }

noncomputable def m22X (X9 : List Int → List Int → Int → Option Bool) (k : Nat) (p0 : (List Int)) (p1 : (List Int)) : Option Bool := (if (!eqI (↑(List.length p0) : Int) (↑(List.length p1) : Int)) = true then some (false) else X9 p0 p1 (0))

theorem m22x (M : Cut Bool) (k : Nat) (p0 : (List Int)) (p1 : (List Int)) : evC (m22E k) M (m22I k) 0 m22A (m22c []) (stAt Try.f22 (argSs [.leaf (.val (.row (.int .u8))), .leaf (.val (.row (.int .u8)))] (p0, p1)) (fun _ => none) 0) (retK Try.prog Try.f22 [.leaf (.val .bool)]) = m22X (fun t0' t1' t5' => loopN (normAt 0 m22A true (m22c [true, true, false, true, true, true])) (fun K s => evC (m22E k) M (m22I k) 0 m22A (m22c [true, true, false, true, true, true]) s K) (m22K6 M k) k (m22S9 t0' t1' t5')) k p0 p1 := by kernel_rfl

noncomputable def m22X9 (L9 : List Int → List Int → Int → Option Bool) (k : Nat) (t0 : List Int) (t1 : List Int) (t5 : Int) : Option Bool := (if ltI t5 (↑(List.length t0) : Int) = true then (if leI 0 t5 = true then (if ltI t5 (↑(List.length t0) : Int) = true then (if leI 0 t5 = true then (if ltI t5 (↑(List.length t1) : Int) = true then (if (!eqI (List.getD t0 (Int.toNat t5) 0) (List.getD t1 (Int.toNat t5) 0)) = true then some (false) else L9 t0 t1 (wr IntKind.i64 (t5 + 1))) else none) else none) else none) else none) else some (true))

theorem m22x9 (M : Cut Bool) (k : Nat) (L9 : St → Option Bool) (t0 : List Int) (t1 : List Int) (t5 : Int) : evC (m22E k) M (m22I k) 0 m22A (m22c [true, true, false, true, true, true]) (m22S9 t0 t1 t5) (seqK (normAt 0 m22A true (m22c [true, true, false, true, true, true])) L9 (m22K6 M k)) = m22X9 (fun t0' t1' t5' => L9 (m22S9 t0' t1' t5')) k t0 t1 t5 := by kernel_rfl

noncomputable def m22F9 (k : Nat) : Nat → List Int → List Int → Int → Option Bool
  | 0, _, _, _ => none
  | j + 1, t0, t1, t5 => m22X9 (m22F9 k j) k t0 t1 t5

theorem m22q9 (k : Nat) : ∀ (j : Nat) (t0 : List Int) (t1 : List Int) (t5 : Int), loopN (normAt 0 m22A true (m22c [true, true, false, true, true, true])) (fun K s => evC (m22E k) (fun _ f => f) (m22I k) 0 m22A (m22c [true, true, false, true, true, true]) s K) (m22K6 (fun _ f => f) k) j (m22S9 t0 t1 t5) = m22F9 k j t0 t1 t5
  | 0, _, _, _ => rfl
  | j + 1, t0, t1, t5 => by
    have e0 : m22F9 k j = (fun t0' t1' t5' => loopN (normAt 0 m22A true (m22c [true, true, false, true, true, true])) (fun K s => evC (m22E k) (fun _ f => f) (m22I k) 0 m22A (m22c [true, true, false, true, true, true]) s K) (m22K6 (fun _ f => f) k) j (m22S9 t0' t1' t5')) := funext fun t0' => funext fun t1' => funext fun t5' => (m22q9 k j t0' t1' t5').symm
    show _ = m22X9 (m22F9 k j) k t0 t1 t5
    rw [e0]
    exact m22x9 (fun _ f => f) k (loopN (normAt 0 m22A true (m22c [true, true, false, true, true, true])) (fun K s => evC (m22E k) (fun _ f => f) (m22I k) 0 m22A (m22c [true, true, false, true, true, true]) s K) (m22K6 (fun _ f => f) k) j) t0 t1 t5

noncomputable def m22F (k : Nat) (p0 : (List Int)) (p1 : (List Int)) : Option Bool := m22X (m22F9 k k) k p0 p1

theorem m22q (k : Nat) (p0 : (List Int)) (p1 : (List Int)) : evC (m22E k) (fun _ f => f) (m22I k) 0 m22A (m22c []) (stAt Try.f22 (argSs [.leaf (.val (.row (.int .u8))), .leaf (.val (.row (.int .u8)))] (p0, p1)) (fun _ => none) 0) (retK Try.prog Try.f22 [.leaf (.val .bool)]) = m22F k p0 p1 := by
    have e9 : m22F9 k k = (fun t0' t1' t5' => loopN (normAt 0 m22A true (m22c [true, true, false, true, true, true])) (fun K s => evC (m22E k) (fun _ f => f) (m22I k) 0 m22A (m22c [true, true, false, true, true, true]) s K) (m22K6 (fun _ f => f) k) k (m22S9 t0' t1' t5')) := funext fun t0' => funext fun t1' => funext fun t5' => (m22q9 k k t0' t1' t5').symm
    show _ = m22X (m22F9 k k) k p0 p1
    rw [e9]
    exact m22x (fun _ f => f) k p0 p1

noncomputable def m22sp : Spec := { ps := [.leaf (.val (.row (.int .u8))), .leaf (.val (.row (.int .u8)))], rs := [.leaf (.val .bool)], f := fun k a => m22F k a.1 a.2 }

theorem m22ok (k : Nat) : EnvOk (m22E k) := envOk_of (l := []) (lB := []) progNames progMixed rfl rfl (.nil) (.nil)

theorem m22con (k : Nat) : Contract Try.prog k 22 m22sp := contract_of (E := m22E k) (m22ok k) (A := only 22 m22A) (d := 3) (c := m22c []) (by kernel_rfl) (by kernel_rfl) fun a _ h => (m22q k a.1 a.2).trans h

noncomputable def m45A : Anns := tabA []
noncomputable def m45E (k : Nat) : Env := { P := Try.prog, k := k, G := tabG [(22, m22sp), (24, m24sp)], GB := tabGB [] }
noncomputable def m45c (p : List Bool) : Code := sub p (bodyOf Try.f45)
noncomputable def m45I (k : Nat) : Inl Bool := inlOf (m45E k) (only 45 m45A) 3
noncomputable def m45K0 (M : Cut Bool) (k : Nat) : Exit → St → Option Bool := seqK (normAt 0 m45A false (m45c [true])) (cutK M m45A (m45c [true]) fun s => evC (m45E k) M (m45I k) 0 m45A (m45c [true]) s (retK Try.prog Try.f45 [.leaf (.val .bool)])) (retK Try.prog Try.f45 [.leaf (.val .bool)])
noncomputable def m45K1 (M : Cut Bool) (k : Nat) : Exit → St → Option Bool := seqK (normAt 0 m45A false (m45c [true, true])) (cutK M m45A (m45c [true, true]) fun s => evC (m45E k) M (m45I k) 0 m45A (m45c [true, true]) s (retK Try.prog Try.f45 [.leaf (.val .bool)])) (retK Try.prog Try.f45 [.leaf (.val .bool)])

noncomputable def m45X (k : Nat) (p0 : (List Int)) : Option Bool := (if leI 4 (↑(List.length p0) : Int) = true then (if leI 0 (wr IntKind.i64 ((↑(List.length p0) : Int) - 4)) = true then (if leI (wr IntKind.i64 ((↑(List.length p0) : Int) - 4)) (↑(List.length p0) : Int) = true then (Option.bind (m24F k (List.take (Int.toNat (wr IntKind.i64 ((↑(List.length p0) : Int) - 4))) p0)) fun (c3 : (List Int)) => (Option.bind (m22F k c3 p0) fun (c4 : Bool) => some c4)) else none) else none) else some (false))

theorem m45x (M : Cut Bool) (k : Nat) (p0 : (List Int)) : evC (m45E k) M (m45I k) 0 m45A (m45c []) (stAt Try.f45 (argSs [.leaf (.val (.row (.int .u8)))] p0) (fun _ => none) 0) (retK Try.prog Try.f45 [.leaf (.val .bool)]) = m45X k p0 := by kernel_rfl

noncomputable def m45F (k : Nat) (p0 : (List Int)) : Option Bool := m45X k p0

theorem m45q (k : Nat) (p0 : (List Int)) : evC (m45E k) (fun _ f => f) (m45I k) 0 m45A (m45c []) (stAt Try.f45 (argSs [.leaf (.val (.row (.int .u8)))] p0) (fun _ => none) 0) (retK Try.prog Try.f45 [.leaf (.val .bool)]) = m45F k p0 := by
    show _ = m45X k p0
    exact m45x (fun _ f => f) k p0

noncomputable def m45sp : Spec := { ps := [.leaf (.val (.row (.int .u8)))], rs := [.leaf (.val .bool)], f := fun k a => m45F k a }

theorem m45ok (k : Nat) : EnvOk (m45E k) := envOk_of (l := [(22, m22sp), (24, m24sp)]) (lB := []) progNames progMixed rfl rfl (.cons ⟨m22con k, Try.f22, by kernel_rfl, by kernel_rfl⟩ (.cons ⟨m24con k, Try.f24, by kernel_rfl, by kernel_rfl⟩ (.nil))) (.nil)

theorem m45con (k : Nat) : Contract Try.prog k 45 m45sp := contract_of (E := m45E k) (m45ok k) (A := only 45 m45A) (d := 3) (c := m45c []) (by kernel_rfl) (by kernel_rfl) fun a _ h => (m45q k a).trans h

noncomputable def m46A : Anns := tabA [(7, { keep := [0, 3, 4] })]
noncomputable def m46E (k : Nat) : Env := { P := Try.prog, k := k, G := tabG [], GB := tabGB [] }
noncomputable def m46c (p : List Bool) : Code := sub p (bodyOf Try.f46)
noncomputable def m46I (k : Nat) : Inl Int := inlOf (m46E k) (only 46 m46A) 3
noncomputable def m46K0 (M : Cut Int) (k : Nat) : Exit → St → Option Int := seqK (normAt 0 m46A false (m46c [true])) (cutK M m46A (m46c [true]) fun s => evC (m46E k) M (m46I k) 0 m46A (m46c [true]) s (retK Try.prog Try.f46 [.leaf (.val (.int .i64))])) (retK Try.prog Try.f46 [.leaf (.val (.int .i64))])
noncomputable def m46K1 (M : Cut Int) (k : Nat) : Exit → St → Option Int := seqK (normAt 0 m46A false (m46c [true, true])) (cutK M m46A (m46c [true, true]) fun s => evC (m46E k) M (m46I k) 0 m46A (m46c [true, true]) s (retK Try.prog Try.f46 [.leaf (.val (.int .i64))])) (retK Try.prog Try.f46 [.leaf (.val (.int .i64))])
noncomputable def m46K2 (M : Cut Int) (k : Nat) : Exit → St → Option Int := seqK (normAt 0 m46A false (m46c [true, true, true])) (cutK M m46A (m46c [true, true, true]) fun s => evC (m46E k) M (m46I k) 0 m46A (m46c [true, true, true]) s (retK Try.prog Try.f46 [.leaf (.val (.int .i64))])) (retK Try.prog Try.f46 [.leaf (.val (.int .i64))])
noncomputable def m46K3 (M : Cut Int) (k : Nat) : Exit → St → Option Int := seqK (normAt 0 m46A false (m46c [true, true, false, true])) (cutK M m46A (m46c [true, true, false, true]) fun s => evC (m46E k) M (m46I k) 0 m46A (m46c [true, true, false, true]) s (m46K2 M k)) (m46K2 M k)
noncomputable def m46K4 (M : Cut Int) (k : Nat) : Exit → St → Option Int := blockK 0 (m46K2 M k)
noncomputable def m46K5 (M : Cut Int) (k : Nat) (L7 : St → Option Int) : Exit → St → Option Int := seqK (normAt 0 m46A true (m46c [true, true, false, true, true, true])) L7 (m46K4 M k)
noncomputable def m46K6 (M : Cut Int) (k : Nat) (L7 : St → Option Int) : Exit → St → Option Int := seqK (normAt 0 m46A false (m46c [true, true, false, true, true, true, true])) (cutK M m46A (m46c [true, true, false, true, true, true, true]) fun s => evC (m46E k) M (m46I k) 0 m46A (m46c [true, true, false, true, true, true, true]) s (m46K5 M k L7)) (m46K5 M k L7)
noncomputable def m46K7 (M : Cut Int) (k : Nat) (L7 : St → Option Int) : Exit → St → Option Int := seqK (normAt 0 m46A false (m46c [true, true, false, true, true, true, false, true])) (cutK M m46A (m46c [true, true, false, true, true, true, false, true]) fun s => evC (m46E k) M (m46I k) 0 m46A (m46c [true, true, false, true, true, true, false, true]) s (m46K6 M k L7)) (m46K6 M k L7)
noncomputable def m46K8 (M : Cut Int) (k : Nat) (L7 : St → Option Int) : Exit → St → Option Int := seqK (normAt 0 m46A false (m46c [true, true, false, true, true, true, true, true])) (cutK M m46A (m46c [true, true, false, true, true, true, true, true]) fun s => evC (m46E k) M (m46I k) 0 m46A (m46c [true, true, false, true, true, true, true, true]) s (m46K5 M k L7)) (m46K5 M k L7)
noncomputable def m46K9 (M : Cut Int) (k : Nat) (L7 : St → Option Int) : Exit → St → Option Int := blockK 1 (m46K8 M k L7)
noncomputable def m46K10 (M : Cut Int) (k : Nat) : Exit → St → Option Int := seqK (normAt 0 m46A false (m46c [true, true, true, true])) (cutK M m46A (m46c [true, true, true, true]) fun s => evC (m46E k) M (m46I k) 0 m46A (m46c [true, true, true, true]) s (retK Try.prog Try.f46 [.leaf (.val (.int .i64))])) (retK Try.prog Try.f46 [.leaf (.val (.int .i64))])
noncomputable def m46S7 (t0 : List Int) (t3 : Int) (t4 : Int) : St := { n := 20, tm := slots [(0, .row (.int .u8) t0), (3, .int .i64 t3), (4, .int .i64 t4)], tab := blks [], nx := 0 }

noncomputable def m46X (X7 : List Int → Int → Int → Option Int) (k : Nat) (p0 : (List Int)) : Option Int := X7 p0 (0) (0)

theorem m46x (M : Cut Int) (k : Nat) (p0 : (List Int)) : evC (m46E k) M (m46I k) 0 m46A (m46c []) (stAt Try.f46 (argSs [.leaf (.val (.row (.int .u8)))] p0) (fun _ => none) 0) (retK Try.prog Try.f46 [.leaf (.val (.int .i64))]) = m46X (fun t0' t3' t4' => loopN (normAt 0 m46A true (m46c [true, true, false, true, true, true])) (fun K s => evC (m46E k) M (m46I k) 0 m46A (m46c [true, true, false, true, true, true]) s K) (m46K4 M k) k (m46S7 t0' t3' t4')) k p0 := by kernel_rfl

noncomputable def m46X7 (L7 : List Int → Int → Int → Option Int) (k : Nat) (t0 : List Int) (t3 : Int) (t4 : Int) : Option Int := (if ltI t4 (↑(List.length t0) : Int) = true then (if leI 0 8 = true then (if leI 0 t4 = true then (if ltI t4 (↑(List.length t0) : Int) = true then L7 t0 (bits BinOp.or IntKind.i64 (wr IntKind.i64 (t3 * 256)) (wr IntKind.i64 (List.getD t0 (Int.toNat t4) 0))) (wr IntKind.i64 (t4 + 1)) else none) else none) else none) else some t3)

theorem m46x7 (M : Cut Int) (k : Nat) (L7 : St → Option Int) (t0 : List Int) (t3 : Int) (t4 : Int) : evC (m46E k) M (m46I k) 0 m46A (m46c [true, true, false, true, true, true]) (m46S7 t0 t3 t4) (seqK (normAt 0 m46A true (m46c [true, true, false, true, true, true])) L7 (m46K4 M k)) = m46X7 (fun t0' t3' t4' => L7 (m46S7 t0' t3' t4')) k t0 t3 t4 := by kernel_rfl

noncomputable def m46F7 (k : Nat) : Nat → List Int → Int → Int → Option Int
  | 0, _, _, _ => none
  | j + 1, t0, t3, t4 => m46X7 (m46F7 k j) k t0 t3 t4

theorem m46q7 (k : Nat) : ∀ (j : Nat) (t0 : List Int) (t3 : Int) (t4 : Int), loopN (normAt 0 m46A true (m46c [true, true, false, true, true, true])) (fun K s => evC (m46E k) (fun _ f => f) (m46I k) 0 m46A (m46c [true, true, false, true, true, true]) s K) (m46K4 (fun _ f => f) k) j (m46S7 t0 t3 t4) = m46F7 k j t0 t3 t4
  | 0, _, _, _ => rfl
  | j + 1, t0, t3, t4 => by
    have e0 : m46F7 k j = (fun t0' t3' t4' => loopN (normAt 0 m46A true (m46c [true, true, false, true, true, true])) (fun K s => evC (m46E k) (fun _ f => f) (m46I k) 0 m46A (m46c [true, true, false, true, true, true]) s K) (m46K4 (fun _ f => f) k) j (m46S7 t0' t3' t4')) := funext fun t0' => funext fun t3' => funext fun t4' => (m46q7 k j t0' t3' t4').symm
    show _ = m46X7 (m46F7 k j) k t0 t3 t4
    rw [e0]
    exact m46x7 (fun _ f => f) k (loopN (normAt 0 m46A true (m46c [true, true, false, true, true, true])) (fun K s => evC (m46E k) (fun _ f => f) (m46I k) 0 m46A (m46c [true, true, false, true, true, true]) s K) (m46K4 (fun _ f => f) k) j) t0 t3 t4

noncomputable def m46F (k : Nat) (p0 : (List Int)) : Option Int := m46X (m46F7 k k) k p0

theorem m46q (k : Nat) (p0 : (List Int)) : evC (m46E k) (fun _ f => f) (m46I k) 0 m46A (m46c []) (stAt Try.f46 (argSs [.leaf (.val (.row (.int .u8)))] p0) (fun _ => none) 0) (retK Try.prog Try.f46 [.leaf (.val (.int .i64))]) = m46F k p0 := by
    have e7 : m46F7 k k = (fun t0' t3' t4' => loopN (normAt 0 m46A true (m46c [true, true, false, true, true, true])) (fun K s => evC (m46E k) (fun _ f => f) (m46I k) 0 m46A (m46c [true, true, false, true, true, true]) s K) (m46K4 (fun _ f => f) k) k (m46S7 t0' t3' t4')) := funext fun t0' => funext fun t3' => funext fun t4' => (m46q7 k k t0' t3' t4').symm
    show _ = m46X (m46F7 k k) k p0
    rw [e7]
    exact m46x (fun _ f => f) k p0

noncomputable def m46sp : Spec := { ps := [.leaf (.val (.row (.int .u8)))], rs := [.leaf (.val (.int .i64))], f := fun k a => m46F k a }

theorem m46ok (k : Nat) : EnvOk (m46E k) := envOk_of (l := []) (lB := []) progNames progMixed rfl rfl (.nil) (.nil)

theorem m46con (k : Nat) : Contract Try.prog k 46 m46sp := contract_of (E := m46E k) (m46ok k) (A := only 46 m46A) (d := 3) (c := m46c []) (by kernel_rfl) (by kernel_rfl) fun a _ h => (m46q k a).trans h

noncomputable def m31A : Anns := tabA []
noncomputable def m31E (k : Nat) : Env := { P := Try.prog, k := k, G := tabG [(45, m45sp), (46, m46sp)], GB := tabGB [] }
noncomputable def m31c (p : List Bool) : Code := sub p (bodyOf Try.f31)
noncomputable def m31I (k : Nat) : Inl ((Int × Int) × Int) := inlOf (m31E k) (only 31 m31A) 3
noncomputable def m31K0 (M : Cut ((Int × Int) × Int)) (k : Nat) : Exit → St → Option ((Int × Int) × Int) := seqK (normAt 0 m31A false (m31c [true])) (cutK M m31A (m31c [true]) fun s => evC (m31E k) M (m31I k) 0 m31A (m31c [true]) s (retK Try.prog Try.f31 [.st (.pair (.int .i64) (.int .u32)), .leaf (.val (.int .i64))])) (retK Try.prog Try.f31 [.st (.pair (.int .i64) (.int .u32)), .leaf (.val (.int .i64))])
noncomputable def m31K1 (M : Cut ((Int × Int) × Int)) (k : Nat) : Exit → St → Option ((Int × Int) × Int) := seqK (normAt 0 m31A false (m31c [true, true])) (cutK M m31A (m31c [true, true]) fun s => evC (m31E k) M (m31I k) 0 m31A (m31c [true, true]) s (retK Try.prog Try.f31 [.st (.pair (.int .i64) (.int .u32)), .leaf (.val (.int .i64))])) (retK Try.prog Try.f31 [.st (.pair (.int .i64) (.int .u32)), .leaf (.val (.int .i64))])
noncomputable def m31K2 (M : Cut ((Int × Int) × Int)) (k : Nat) : Exit → St → Option ((Int × Int) × Int) := seqK (normAt 0 m31A false (m31c [true, false, true])) (cutK M m31A (m31c [true, false, true]) fun s => evC (m31E k) M (m31I k) 0 m31A (m31c [true, false, true]) s (m31K1 M k)) (m31K1 M k)
noncomputable def m31K3 (M : Cut ((Int × Int) × Int)) (k : Nat) : Exit → St → Option ((Int × Int) × Int) := seqK (normAt 0 m31A false (m31c [true, false, true, false, true])) (cutK M m31A (m31c [true, false, true, false, true]) fun s => evC (m31E k) M (m31I k) 0 m31A (m31c [true, false, true, false, true]) s (m31K1 M k)) (m31K1 M k)
noncomputable def m31K4 (M : Cut ((Int × Int) × Int)) (k : Nat) : Exit → St → Option ((Int × Int) × Int) := seqK (normAt 0 m31A false (m31c [true, true, true])) (cutK M m31A (m31c [true, true, true]) fun s => evC (m31E k) M (m31I k) 0 m31A (m31c [true, true, true]) s (retK Try.prog Try.f31 [.st (.pair (.int .i64) (.int .u32)), .leaf (.val (.int .i64))])) (retK Try.prog Try.f31 [.st (.pair (.int .i64) (.int .u32)), .leaf (.val (.int .i64))])
noncomputable def m31K5 (M : Cut ((Int × Int) × Int)) (k : Nat) : Exit → St → Option ((Int × Int) × Int) := seqK (normAt 0 m31A false (m31c [true, true, false, true])) (cutK M m31A (m31c [true, true, false, true]) fun s => evC (m31E k) M (m31I k) 0 m31A (m31c [true, true, false, true]) s (m31K4 M k)) (m31K4 M k)
noncomputable def m31K6 (M : Cut ((Int × Int) × Int)) (k : Nat) : Exit → St → Option ((Int × Int) × Int) := seqK (normAt 0 m31A false (m31c [true, true, false, true, false, true])) (cutK M m31A (m31c [true, true, false, true, false, true]) fun s => evC (m31E k) M (m31I k) 0 m31A (m31c [true, true, false, true, false, true]) s (m31K4 M k)) (m31K4 M k)
noncomputable def m31K7 (M : Cut ((Int × Int) × Int)) (k : Nat) : Exit → St → Option ((Int × Int) × Int) := seqK (normAt 0 m31A false (m31c [true, true, true, true])) (cutK M m31A (m31c [true, true, true, true]) fun s => evC (m31E k) M (m31I k) 0 m31A (m31c [true, true, true, true]) s (retK Try.prog Try.f31 [.st (.pair (.int .i64) (.int .u32)), .leaf (.val (.int .i64))])) (retK Try.prog Try.f31 [.st (.pair (.int .i64) (.int .u32)), .leaf (.val (.int .i64))])
noncomputable def m31K8 (M : Cut ((Int × Int) × Int)) (k : Nat) : Exit → St → Option ((Int × Int) × Int) := seqK (normAt 0 m31A false (m31c [true, true, true, false, true])) (cutK M m31A (m31c [true, true, true, false, true]) fun s => evC (m31E k) M (m31I k) 0 m31A (m31c [true, true, true, false, true]) s (m31K7 M k)) (m31K7 M k)
noncomputable def m31K9 (M : Cut ((Int × Int) × Int)) (k : Nat) : Exit → St → Option ((Int × Int) × Int) := seqK (normAt 0 m31A false (m31c [true, true, true, false, true, false, true])) (cutK M m31A (m31c [true, true, true, false, true, false, true]) fun s => evC (m31E k) M (m31I k) 0 m31A (m31c [true, true, true, false, true, false, true]) s (m31K7 M k)) (m31K7 M k)
noncomputable def m31K10 (M : Cut ((Int × Int) × Int)) (k : Nat) : Exit → St → Option ((Int × Int) × Int) := seqK (normAt 0 m31A false (m31c [true, true, true, true, true])) (cutK M m31A (m31c [true, true, true, true, true]) fun s => evC (m31E k) M (m31I k) 0 m31A (m31c [true, true, true, true, true]) s (retK Try.prog Try.f31 [.st (.pair (.int .i64) (.int .u32)), .leaf (.val (.int .i64))])) (retK Try.prog Try.f31 [.st (.pair (.int .i64) (.int .u32)), .leaf (.val (.int .i64))])
noncomputable def m31K11 (M : Cut ((Int × Int) × Int)) (k : Nat) : Exit → St → Option ((Int × Int) × Int) := seqK (normAt 0 m31A false (m31c [true, true, true, true, false, true])) (cutK M m31A (m31c [true, true, true, true, false, true]) fun s => evC (m31E k) M (m31I k) 0 m31A (m31c [true, true, true, true, false, true]) s (m31K10 M k)) (m31K10 M k)
noncomputable def m31K12 (M : Cut ((Int × Int) × Int)) (k : Nat) : Exit → St → Option ((Int × Int) × Int) := seqK (normAt 0 m31A false (m31c [true, true, true, true, false, true, false, true])) (cutK M m31A (m31c [true, true, true, true, false, true, false, true]) fun s => evC (m31E k) M (m31I k) 0 m31A (m31c [true, true, true, true, false, true, false, true]) s (m31K10 M k)) (m31K10 M k)
noncomputable def m31K13 (M : Cut ((Int × Int) × Int)) (k : Nat) : Exit → St → Option ((Int × Int) × Int) := seqK (normAt 0 m31A false (m31c [true, true, true, true, true, true])) (cutK M m31A (m31c [true, true, true, true, true, true]) fun s => evC (m31E k) M (m31I k) 0 m31A (m31c [true, true, true, true, true, true]) s (retK Try.prog Try.f31 [.st (.pair (.int .i64) (.int .u32)), .leaf (.val (.int .i64))])) (retK Try.prog Try.f31 [.st (.pair (.int .i64) (.int .u32)), .leaf (.val (.int .i64))])

noncomputable def m31X (k : Nat) (p0 : (List Int)) : Option ((Int × Int) × Int) := (if (!eqI (↑(List.length p0) : Int) 13) = true then some (((0, 0), 2)) else (if leI 0 0 = true then (if ltI 0 (↑(List.length p0) : Int) = true then (if (!eqI (List.getD p0 0 0) 65) = true then some (((0, 0), 12)) else (Option.bind (m45F k p0) fun (c3 : Bool) => (if (!c3) = true then some (((0, 0), 4)) else (if leI 0 5 = true then (if leI 5 (↑(List.length p0) : Int) = true then (if leI 0 1 = true then (if leI 1 5 = true then (Option.bind (m46F k (List.drop 1 (List.take 5 p0))) fun (c4 : Int) => (if ltI 1073741824 c4 = true then some (((0, 0), 1)) else (if leI 0 5 = true then (if leI 5 (↑(List.length p0) : Int) = true then (if leI 0 1 = true then (if leI 1 5 = true then (Option.bind (m46F k (List.drop 1 (List.take 5 p0))) fun (c5 : Int) => (if leI 0 9 = true then (if leI 9 (↑(List.length p0) : Int) = true then (if leI 0 5 = true then (if leI 5 9 = true then (Option.bind (m46F k (List.drop 5 (List.take 9 p0))) fun (c6 : Int) => some (((c5, wr IntKind.u32 c6), 0))) else none) else none) else none) else none)) else none) else none) else none) else none))) else none) else none) else none) else none)))) else none) else none))

theorem m31x (M : Cut ((Int × Int) × Int)) (k : Nat) (p0 : (List Int)) : evC (m31E k) M (m31I k) 0 m31A (m31c []) (stAt Try.f31 (argSs [.leaf (.val (.row (.int .u8)))] p0) (fun _ => none) 0) (retK Try.prog Try.f31 [.st (.pair (.int .i64) (.int .u32)), .leaf (.val (.int .i64))]) = m31X k p0 := by kernel_rfl

noncomputable def m31F (k : Nat) (p0 : (List Int)) : Option ((Int × Int) × Int) := m31X k p0

theorem m31q (k : Nat) (p0 : (List Int)) : evC (m31E k) (fun _ f => f) (m31I k) 0 m31A (m31c []) (stAt Try.f31 (argSs [.leaf (.val (.row (.int .u8)))] p0) (fun _ => none) 0) (retK Try.prog Try.f31 [.st (.pair (.int .i64) (.int .u32)), .leaf (.val (.int .i64))]) = m31F k p0 := by
    show _ = m31X k p0
    exact m31x (fun _ f => f) k p0

noncomputable def m31sp : Spec := { ps := [.leaf (.val (.row (.int .u8)))], rs := [.st (.pair (.int .i64) (.int .u32)), .leaf (.val (.int .i64))], f := fun k a => m31F k a }

theorem m31ok (k : Nat) : EnvOk (m31E k) := envOk_of (l := [(45, m45sp), (46, m46sp)]) (lB := []) progNames progMixed rfl rfl (.cons ⟨m45con k, Try.f45, by kernel_rfl, by kernel_rfl⟩ (.cons ⟨m46con k, Try.f46, by kernel_rfl, by kernel_rfl⟩ (.nil))) (.nil)

theorem m31con (k : Nat) : Contract Try.prog k 31 m31sp := contract_of (E := m31E k) (m31ok k) (A := only 31 m31A) (d := 3) (c := m31c []) (by kernel_rfl) (by kernel_rfl) fun a _ h => (m31q k a).trans h

noncomputable def m32A : Anns := tabA [(5, { keep := [0, 1, 5] })]
noncomputable def m32E (k : Nat) : Env := { P := Try.prog, k := k, G := tabG [(22, m22sp)], GB := tabGB [] }
noncomputable def m32c (p : List Bool) : Code := sub p (bodyOf Try.f32)
noncomputable def m32I (k : Nat) : Inl Bool := inlOf (m32E k) (only 32 m32A) 3
noncomputable def m32K0 (M : Cut Bool) (k : Nat) : Exit → St → Option Bool := seqK (normAt 0 m32A false (m32c [true])) (cutK M m32A (m32c [true]) fun s => evC (m32E k) M (m32I k) 0 m32A (m32c [true]) s (retK Try.prog Try.f32 [.leaf (.val .bool)])) (retK Try.prog Try.f32 [.leaf (.val .bool)])
noncomputable def m32K1 (M : Cut Bool) (k : Nat) : Exit → St → Option Bool := seqK (normAt 0 m32A false (m32c [true, true])) (cutK M m32A (m32c [true, true]) fun s => evC (m32E k) M (m32I k) 0 m32A (m32c [true, true]) s (retK Try.prog Try.f32 [.leaf (.val .bool)])) (retK Try.prog Try.f32 [.leaf (.val .bool)])
noncomputable def m32K2 (M : Cut Bool) (k : Nat) : Exit → St → Option Bool := seqK (normAt 0 m32A false (m32c [true, false, true])) (cutK M m32A (m32c [true, false, true]) fun s => evC (m32E k) M (m32I k) 0 m32A (m32c [true, false, true]) s (m32K1 M k)) (m32K1 M k)
noncomputable def m32K3 (M : Cut Bool) (k : Nat) : Exit → St → Option Bool := blockK 0 (m32K1 M k)
noncomputable def m32K4 (M : Cut Bool) (k : Nat) (L5 : St → Option Bool) : Exit → St → Option Bool := seqK (normAt 0 m32A true (m32c [true, false, true, true, true])) L5 (m32K3 M k)
noncomputable def m32K5 (M : Cut Bool) (k : Nat) (L5 : St → Option Bool) : Exit → St → Option Bool := seqK (normAt 0 m32A false (m32c [true, false, true, true, true, true])) (cutK M m32A (m32c [true, false, true, true, true, true]) fun s => evC (m32E k) M (m32I k) 0 m32A (m32c [true, false, true, true, true, true]) s (m32K4 M k L5)) (m32K4 M k L5)
noncomputable def m32K6 (M : Cut Bool) (k : Nat) (L5 : St → Option Bool) : Exit → St → Option Bool := seqK (normAt 0 m32A false (m32c [true, false, true, true, true, false, true])) (cutK M m32A (m32c [true, false, true, true, true, false, true]) fun s => evC (m32E k) M (m32I k) 0 m32A (m32c [true, false, true, true, true, false, true]) s (m32K5 M k L5)) (m32K5 M k L5)
noncomputable def m32K7 (M : Cut Bool) (k : Nat) (L5 : St → Option Bool) : Exit → St → Option Bool := seqK (normAt 0 m32A false (m32c [true, false, true, true, true, true, true])) (cutK M m32A (m32c [true, false, true, true, true, true, true]) fun s => evC (m32E k) M (m32I k) 0 m32A (m32c [true, false, true, true, true, true, true]) s (m32K4 M k L5)) (m32K4 M k L5)
noncomputable def m32K8 (M : Cut Bool) (k : Nat) (L5 : St → Option Bool) : Exit → St → Option Bool := blockK 1 (m32K7 M k L5)
noncomputable def m32K9 (M : Cut Bool) (k : Nat) (L5 : St → Option Bool) : Exit → St → Option Bool := seqK (normAt 0 m32A false (m32c [true, false, true, true, true, true, false, true, true])) (cutK M m32A (m32c [true, false, true, true, true, true, false, true, true]) fun s => evC (m32E k) M (m32I k) 0 m32A (m32c [true, false, true, true, true, true, false, true, true]) s (m32K8 M k L5)) (m32K8 M k L5)
noncomputable def m32K10 (M : Cut Bool) (k : Nat) (L5 : St → Option Bool) : Exit → St → Option Bool := seqK (normAt 0 m32A false (m32c [true, false, true, true, true, true, false, true, true, false, true])) (cutK M m32A (m32c [true, false, true, true, true, true, false, true, true, false, true]) fun s => evC (m32E k) M (m32I k) 0 m32A (m32c [true, false, true, true, true, true, false, true, true, false, true]) s (m32K8 M k L5)) (m32K8 M k L5)
noncomputable def m32K11 (M : Cut Bool) (k : Nat) : Exit → St → Option Bool := seqK (normAt 0 m32A false (m32c [true, true, true])) (cutK M m32A (m32c [true, true, true]) fun s => evC (m32E k) M (m32I k) 0 m32A (m32c [true, true, true]) s (retK Try.prog Try.f32 [.leaf (.val .bool)])) (retK Try.prog Try.f32 [.leaf (.val .bool)])
noncomputable def m32S5 (t0 : List (List Int)) (t1 : List Int) (t5 : Int) : St := { n := 18, tm := slots [(0, .row (.row (.int .u8)) t0), (1, .row (.int .u8) t1), (5, .int .i64 t5)], tab := blks [], nx := 0 }

noncomputable def m32X (X5 : List (List Int) → List Int → Int → Option Bool) (k : Nat) (p0 : (List (List Int))) (p1 : (List Int)) : Option Bool := X5 p0 p1 (0)

theorem m32x (M : Cut Bool) (k : Nat) (p0 : (List (List Int))) (p1 : (List Int)) : evC (m32E k) M (m32I k) 0 m32A (m32c []) (stAt Try.f32 (argSs [.leaf (.val (.row (.row (.int .u8)))), .leaf (.val (.row (.int .u8)))] (p0, p1)) (fun _ => none) 0) (retK Try.prog Try.f32 [.leaf (.val .bool)]) = m32X (fun t0' t1' t5' => loopN (normAt 0 m32A true (m32c [true, false, true, true, true])) (fun K s => evC (m32E k) M (m32I k) 0 m32A (m32c [true, false, true, true, true]) s K) (m32K3 M k) k (m32S5 t0' t1' t5')) k p0 p1 := by kernel_rfl

noncomputable def m32X5 (L5 : List (List Int) → List Int → Int → Option Bool) (k : Nat) (t0 : List (List Int)) (t1 : List Int) (t5 : Int) : Option Bool := (if ltI t5 (↑(List.length t0) : Int) = true then (if leI 0 t5 = true then (if ltI t5 (↑(List.length t0) : Int) = true then (Option.bind (m22F k (List.getD t0 (Int.toNat t5) []) t1) fun (c6 : Bool) => (if c6 = true then some (true) else L5 t0 t1 (wr IntKind.i64 (t5 + 1)))) else none) else none) else some (false))

theorem m32x5 (M : Cut Bool) (k : Nat) (L5 : St → Option Bool) (t0 : List (List Int)) (t1 : List Int) (t5 : Int) : evC (m32E k) M (m32I k) 0 m32A (m32c [true, false, true, true, true]) (m32S5 t0 t1 t5) (seqK (normAt 0 m32A true (m32c [true, false, true, true, true])) L5 (m32K3 M k)) = m32X5 (fun t0' t1' t5' => L5 (m32S5 t0' t1' t5')) k t0 t1 t5 := by kernel_rfl

noncomputable def m32F5 (k : Nat) : Nat → List (List Int) → List Int → Int → Option Bool
  | 0, _, _, _ => none
  | j + 1, t0, t1, t5 => m32X5 (m32F5 k j) k t0 t1 t5

theorem m32q5 (k : Nat) : ∀ (j : Nat) (t0 : List (List Int)) (t1 : List Int) (t5 : Int), loopN (normAt 0 m32A true (m32c [true, false, true, true, true])) (fun K s => evC (m32E k) (fun _ f => f) (m32I k) 0 m32A (m32c [true, false, true, true, true]) s K) (m32K3 (fun _ f => f) k) j (m32S5 t0 t1 t5) = m32F5 k j t0 t1 t5
  | 0, _, _, _ => rfl
  | j + 1, t0, t1, t5 => by
    have e0 : m32F5 k j = (fun t0' t1' t5' => loopN (normAt 0 m32A true (m32c [true, false, true, true, true])) (fun K s => evC (m32E k) (fun _ f => f) (m32I k) 0 m32A (m32c [true, false, true, true, true]) s K) (m32K3 (fun _ f => f) k) j (m32S5 t0' t1' t5')) := funext fun t0' => funext fun t1' => funext fun t5' => (m32q5 k j t0' t1' t5').symm
    show _ = m32X5 (m32F5 k j) k t0 t1 t5
    rw [e0]
    exact m32x5 (fun _ f => f) k (loopN (normAt 0 m32A true (m32c [true, false, true, true, true])) (fun K s => evC (m32E k) (fun _ f => f) (m32I k) 0 m32A (m32c [true, false, true, true, true]) s K) (m32K3 (fun _ f => f) k) j) t0 t1 t5

noncomputable def m32F (k : Nat) (p0 : (List (List Int))) (p1 : (List Int)) : Option Bool := m32X (m32F5 k k) k p0 p1

theorem m32q (k : Nat) (p0 : (List (List Int))) (p1 : (List Int)) : evC (m32E k) (fun _ f => f) (m32I k) 0 m32A (m32c []) (stAt Try.f32 (argSs [.leaf (.val (.row (.row (.int .u8)))), .leaf (.val (.row (.int .u8)))] (p0, p1)) (fun _ => none) 0) (retK Try.prog Try.f32 [.leaf (.val .bool)]) = m32F k p0 p1 := by
    have e5 : m32F5 k k = (fun t0' t1' t5' => loopN (normAt 0 m32A true (m32c [true, false, true, true, true])) (fun K s => evC (m32E k) (fun _ f => f) (m32I k) 0 m32A (m32c [true, false, true, true, true]) s K) (m32K3 (fun _ f => f) k) k (m32S5 t0' t1' t5')) := funext fun t0' => funext fun t1' => funext fun t5' => (m32q5 k k t0' t1' t5').symm
    show _ = m32X (m32F5 k k) k p0 p1
    rw [e5]
    exact m32x (fun _ f => f) k p0 p1

noncomputable def m32sp : Spec := { ps := [.leaf (.val (.row (.row (.int .u8)))), .leaf (.val (.row (.int .u8)))], rs := [.leaf (.val .bool)], f := fun k a => m32F k a.1 a.2 }

theorem m32ok (k : Nat) : EnvOk (m32E k) := envOk_of (l := [(22, m22sp)]) (lB := []) progNames progMixed rfl rfl (.cons ⟨m22con k, Try.f22, by kernel_rfl, by kernel_rfl⟩ (.nil)) (.nil)

theorem m32con (k : Nat) : Contract Try.prog k 32 m32sp := contract_of (E := m32E k) (m32ok k) (A := only 32 m32A) (d := 3) (c := m32c []) (by kernel_rfl) (by kernel_rfl) fun a _ h => (m32q k a.1 a.2).trans h

noncomputable def m11A : Anns := tabA [(5, { keep := [0, 1, 5] })]
noncomputable def m11E (k : Nat) : Env := { P := Try.prog, k := k, G := tabG [(31, m31sp), (32, m32sp)], GB := tabGB [] }
noncomputable def m11c (p : List Bool) : Code := sub p (bodyOf Try.f11)
noncomputable def m11I (k : Nat) : Inl Int := inlOf (m11E k) (only 11 m11A) 3
noncomputable def m11K0 (M : Cut Int) (k : Nat) : Exit → St → Option Int := seqK (normAt 0 m11A false (m11c [true])) (cutK M m11A (m11c [true]) fun s => evC (m11E k) M (m11I k) 0 m11A (m11c [true]) s (retK Try.prog Try.f11 [.leaf (.val (.int .i64))])) (retK Try.prog Try.f11 [.leaf (.val (.int .i64))])
noncomputable def m11K1 (M : Cut Int) (k : Nat) : Exit → St → Option Int := seqK (normAt 0 m11A false (m11c [true, true])) (cutK M m11A (m11c [true, true]) fun s => evC (m11E k) M (m11I k) 0 m11A (m11c [true, true]) s (retK Try.prog Try.f11 [.leaf (.val (.int .i64))])) (retK Try.prog Try.f11 [.leaf (.val (.int .i64))])
noncomputable def m11K2 (M : Cut Int) (k : Nat) : Exit → St → Option Int := seqK (normAt 0 m11A false (m11c [true, false, true])) (cutK M m11A (m11c [true, false, true]) fun s => evC (m11E k) M (m11I k) 0 m11A (m11c [true, false, true]) s (m11K1 M k)) (m11K1 M k)
noncomputable def m11K3 (M : Cut Int) (k : Nat) : Exit → St → Option Int := blockK 0 (m11K1 M k)
noncomputable def m11K4 (M : Cut Int) (k : Nat) (L5 : St → Option Int) : Exit → St → Option Int := seqK (normAt 0 m11A true (m11c [true, false, true, true, true])) L5 (m11K3 M k)
noncomputable def m11K5 (M : Cut Int) (k : Nat) (L5 : St → Option Int) : Exit → St → Option Int := seqK (normAt 0 m11A false (m11c [true, false, true, true, true, true])) (cutK M m11A (m11c [true, false, true, true, true, true]) fun s => evC (m11E k) M (m11I k) 0 m11A (m11c [true, false, true, true, true, true]) s (m11K4 M k L5)) (m11K4 M k L5)
noncomputable def m11K6 (M : Cut Int) (k : Nat) (L5 : St → Option Int) : Exit → St → Option Int := seqK (normAt 0 m11A false (m11c [true, false, true, true, true, false, true])) (cutK M m11A (m11c [true, false, true, true, true, false, true]) fun s => evC (m11E k) M (m11I k) 0 m11A (m11c [true, false, true, true, true, false, true]) s (m11K5 M k L5)) (m11K5 M k L5)
noncomputable def m11K7 (M : Cut Int) (k : Nat) (L5 : St → Option Int) : Exit → St → Option Int := seqK (normAt 0 m11A false (m11c [true, false, true, true, true, true, true])) (cutK M m11A (m11c [true, false, true, true, true, true, true]) fun s => evC (m11E k) M (m11I k) 0 m11A (m11c [true, false, true, true, true, true, true]) s (m11K4 M k L5)) (m11K4 M k L5)
noncomputable def m11K8 (M : Cut Int) (k : Nat) (L5 : St → Option Int) : Exit → St → Option Int := blockK 1 (m11K7 M k L5)
noncomputable def m11K9 (M : Cut Int) (k : Nat) (L5 : St → Option Int) : Exit → St → Option Int := seqK (normAt 0 m11A false (m11c [true, false, true, true, true, true, false, true, true])) (cutK M m11A (m11c [true, false, true, true, true, true, false, true, true]) fun s => evC (m11E k) M (m11I k) 0 m11A (m11c [true, false, true, true, true, true, false, true, true]) s (m11K8 M k L5)) (m11K8 M k L5)
noncomputable def m11K10 (M : Cut Int) (k : Nat) (L5 : St → Option Int) : Exit → St → Option Int := seqK (normAt 0 m11A false (m11c [true, false, true, true, true, true, false, true, true, true])) (cutK M m11A (m11c [true, false, true, true, true, true, false, true, true, true]) fun s => evC (m11E k) M (m11I k) 0 m11A (m11c [true, false, true, true, true, true, false, true, true, true]) s (m11K8 M k L5)) (m11K8 M k L5)
noncomputable def m11K11 (M : Cut Int) (k : Nat) (L5 : St → Option Int) : Exit → St → Option Int := seqK (normAt 0 m11A false (m11c [true, false, true, true, true, true, false, true, true, true, false, true])) (cutK M m11A (m11c [true, false, true, true, true, true, false, true, true, true, false, true]) fun s => evC (m11E k) M (m11I k) 0 m11A (m11c [true, false, true, true, true, true, false, true, true, true, false, true]) s (m11K8 M k L5)) (m11K8 M k L5)
noncomputable def m11K12 (M : Cut Int) (k : Nat) : Exit → St → Option Int := seqK (normAt 0 m11A false (m11c [true, true, true])) (cutK M m11A (m11c [true, true, true]) fun s => evC (m11E k) M (m11I k) 0 m11A (m11c [true, true, true]) s (retK Try.prog Try.f11 [.leaf (.val (.int .i64))])) (retK Try.prog Try.f11 [.leaf (.val (.int .i64))])
noncomputable def m11S5 (t0 : List (Bool × (List Int))) (t1 : List (List Int)) (t5 : Int) : St := { n := 43, tm := slots [(0, .row (.pair .bool (.row (.int .u8))) t0), (1, .row (.row (.int .u8)) t1), (5, .int .i64 t5)], tab := blks [], nx := 0 }

noncomputable def m11X (X5 : List (Bool × (List Int)) → List (List Int) → Int → Option Int) (k : Nat) (p0 : (List (Bool × (List Int)))) (p1 : (List (List Int))) : Option Int := X5 p0 p1 (0)

theorem m11x (M : Cut Int) (k : Nat) (p0 : (List (Bool × (List Int)))) (p1 : (List (List Int))) : evC (m11E k) M (m11I k) 0 m11A (m11c []) (stAt Try.f11 (argSs [.leaf (.val (.row (.pair .bool (.row (.int .u8))))), .leaf (.val (.row (.row (.int .u8))))] (p0, p1)) (fun _ => none) 0) (retK Try.prog Try.f11 [.leaf (.val (.int .i64))]) = m11X (fun t0' t1' t5' => loopN (normAt 0 m11A true (m11c [true, false, true, true, true])) (fun K s => evC (m11E k) M (m11I k) 0 m11A (m11c [true, false, true, true, true]) s K) (m11K3 M k) k (m11S5 t0' t1' t5')) k p0 p1 := by kernel_rfl

noncomputable def m11X5 (L5 : List (Bool × (List Int)) → List (List Int) → Int → Option Int) (k : Nat) (t0 : List (Bool × (List Int))) (t1 : List (List Int)) (t5 : Int) : Option Int := (if ltI t5 (↑(List.length t0) : Int) = true then (if leI 0 t5 = true then (if ltI t5 (↑(List.length t0) : Int) = true then (Option.bind (m31F k (Prod.snd (List.getD t0 (Int.toNat t5) (false, [])))) fun (c6 : ((Int × Int) × Int)) => (if leI 0 t5 = true then (if ltI t5 (↑(List.length t0) : Int) = true then (if Prod.fst (List.getD t0 (Int.toNat t5) (false, [])) = true then (if eqI (Prod.snd c6) 0 = true then (if leI 0 t5 = true then (if ltI t5 (↑(List.length t0) : Int) = true then (Option.bind (m32F k t1 (Prod.snd (List.getD t0 (Int.toNat t5) (false, [])))) fun (c7 : Bool) => (if (!c7) = true then some t5 else L5 t0 t1 (wr IntKind.i64 (t5 + 1)))) else none) else none) else L5 t0 t1 (wr IntKind.i64 (t5 + 1))) else L5 t0 t1 (wr IntKind.i64 (t5 + 1))) else none) else none)) else none) else none) else some (-1))

theorem m11x5 (M : Cut Int) (k : Nat) (L5 : St → Option Int) (t0 : List (Bool × (List Int))) (t1 : List (List Int)) (t5 : Int) : evC (m11E k) M (m11I k) 0 m11A (m11c [true, false, true, true, true]) (m11S5 t0 t1 t5) (seqK (normAt 0 m11A true (m11c [true, false, true, true, true])) L5 (m11K3 M k)) = m11X5 (fun t0' t1' t5' => L5 (m11S5 t0' t1' t5')) k t0 t1 t5 := by kernel_rfl

noncomputable def m11F5 (k : Nat) : Nat → List (Bool × (List Int)) → List (List Int) → Int → Option Int
  | 0, _, _, _ => none
  | j + 1, t0, t1, t5 => m11X5 (m11F5 k j) k t0 t1 t5

theorem m11q5 (k : Nat) : ∀ (j : Nat) (t0 : List (Bool × (List Int))) (t1 : List (List Int)) (t5 : Int), loopN (normAt 0 m11A true (m11c [true, false, true, true, true])) (fun K s => evC (m11E k) (fun _ f => f) (m11I k) 0 m11A (m11c [true, false, true, true, true]) s K) (m11K3 (fun _ f => f) k) j (m11S5 t0 t1 t5) = m11F5 k j t0 t1 t5
  | 0, _, _, _ => rfl
  | j + 1, t0, t1, t5 => by
    have e0 : m11F5 k j = (fun t0' t1' t5' => loopN (normAt 0 m11A true (m11c [true, false, true, true, true])) (fun K s => evC (m11E k) (fun _ f => f) (m11I k) 0 m11A (m11c [true, false, true, true, true]) s K) (m11K3 (fun _ f => f) k) j (m11S5 t0' t1' t5')) := funext fun t0' => funext fun t1' => funext fun t5' => (m11q5 k j t0' t1' t5').symm
    show _ = m11X5 (m11F5 k j) k t0 t1 t5
    rw [e0]
    exact m11x5 (fun _ f => f) k (loopN (normAt 0 m11A true (m11c [true, false, true, true, true])) (fun K s => evC (m11E k) (fun _ f => f) (m11I k) 0 m11A (m11c [true, false, true, true, true]) s K) (m11K3 (fun _ f => f) k) j) t0 t1 t5

noncomputable def m11F (k : Nat) (p0 : (List (Bool × (List Int)))) (p1 : (List (List Int))) : Option Int := m11X (m11F5 k k) k p0 p1

theorem m11q (k : Nat) (p0 : (List (Bool × (List Int)))) (p1 : (List (List Int))) : evC (m11E k) (fun _ f => f) (m11I k) 0 m11A (m11c []) (stAt Try.f11 (argSs [.leaf (.val (.row (.pair .bool (.row (.int .u8))))), .leaf (.val (.row (.row (.int .u8))))] (p0, p1)) (fun _ => none) 0) (retK Try.prog Try.f11 [.leaf (.val (.int .i64))]) = m11F k p0 p1 := by
    have e5 : m11F5 k k = (fun t0' t1' t5' => loopN (normAt 0 m11A true (m11c [true, false, true, true, true])) (fun K s => evC (m11E k) (fun _ f => f) (m11I k) 0 m11A (m11c [true, false, true, true, true]) s K) (m11K3 (fun _ f => f) k) k (m11S5 t0' t1' t5')) := funext fun t0' => funext fun t1' => funext fun t5' => (m11q5 k k t0' t1' t5').symm
    show _ = m11X (m11F5 k k) k p0 p1
    rw [e5]
    exact m11x (fun _ f => f) k p0 p1

noncomputable def m11sp : Spec := { ps := [.leaf (.val (.row (.pair .bool (.row (.int .u8))))), .leaf (.val (.row (.row (.int .u8))))], rs := [.leaf (.val (.int .i64))], f := fun k a => m11F k a.1 a.2 }

theorem m11ok (k : Nat) : EnvOk (m11E k) := envOk_of (l := [(31, m31sp), (32, m32sp)]) (lB := []) progNames progMixed rfl rfl (.cons ⟨m31con k, Try.f31, by kernel_rfl, by kernel_rfl⟩ (.cons ⟨m32con k, Try.f32, by kernel_rfl, by kernel_rfl⟩ (.nil))) (.nil)

theorem m11con (k : Nat) : Contract Try.prog k 11 m11sp := contract_of (E := m11E k) (m11ok k) (A := only 11 m11A) (d := 3) (c := m11c []) (by kernel_rfl) (by kernel_rfl) fun a _ h => (m11q k a.1 a.2).trans h

noncomputable def m54A : Anns := tabA []
noncomputable def m54E (k : Nat) : Env := { P := Try.prog, k := k, G := tabG [], GB := tabGB [] }
noncomputable def m54c (p : List Bool) : Code := sub p (bodyOf Try.f54)
noncomputable def m54I (k : Nat) : Inl Bool := inlOf (m54E k) (only 54 m54A) 3
noncomputable def m54K0 (M : Cut Bool) (k : Nat) : Exit → St → Option Bool := seqK (normAt 0 m54A false (m54c [true])) (cutK M m54A (m54c [true]) fun s => evC (m54E k) M (m54I k) 0 m54A (m54c [true]) s (retK Try.prog Try.f54 [.leaf (.val .bool)])) (retK Try.prog Try.f54 [.leaf (.val .bool)])
noncomputable def m54K1 (M : Cut Bool) (k : Nat) : Exit → St → Option Bool := seqK (normAt 0 m54A false (m54c [true, true])) (cutK M m54A (m54c [true, true]) fun s => evC (m54E k) M (m54I k) 0 m54A (m54c [true, true]) s (retK Try.prog Try.f54 [.leaf (.val .bool)])) (retK Try.prog Try.f54 [.leaf (.val .bool)])

noncomputable def m54X (k : Nat) (p0 : Int) (p1 : Int) (p2 : Int) : Option Bool := (if leI p1 p0 = true then some (leI p0 p2) else some (false))

theorem m54x (M : Cut Bool) (k : Nat) (p0 : Int) (p1 : Int) (p2 : Int) : evC (m54E k) M (m54I k) 0 m54A (m54c []) (stAt Try.f54 (argSs [.leaf (.val (.int .i64)), .leaf (.val (.int .i64)), .leaf (.val (.int .i64))] (p0, p1, p2)) (fun _ => none) 0) (retK Try.prog Try.f54 [.leaf (.val .bool)]) = m54X k p0 p1 p2 := by kernel_rfl

noncomputable def m54F (k : Nat) (p0 : Int) (p1 : Int) (p2 : Int) : Option Bool := m54X k p0 p1 p2

theorem m54q (k : Nat) (p0 : Int) (p1 : Int) (p2 : Int) : evC (m54E k) (fun _ f => f) (m54I k) 0 m54A (m54c []) (stAt Try.f54 (argSs [.leaf (.val (.int .i64)), .leaf (.val (.int .i64)), .leaf (.val (.int .i64))] (p0, p1, p2)) (fun _ => none) 0) (retK Try.prog Try.f54 [.leaf (.val .bool)]) = m54F k p0 p1 p2 := by
    show _ = m54X k p0 p1 p2
    exact m54x (fun _ f => f) k p0 p1 p2

noncomputable def m54sp : Spec := { ps := [.leaf (.val (.int .i64)), .leaf (.val (.int .i64)), .leaf (.val (.int .i64))], rs := [.leaf (.val .bool)], f := fun k a => m54F k a.1 a.2.1 a.2.2 }

theorem m54ok (k : Nat) : EnvOk (m54E k) := envOk_of (l := []) (lB := []) progNames progMixed rfl rfl (.nil) (.nil)

theorem m54con (k : Nat) : Contract Try.prog k 54 m54sp := contract_of (E := m54E k) (m54ok k) (A := only 54 m54A) (d := 3) (c := m54c []) (by kernel_rfl) (by kernel_rfl) fun a _ h => (m54q k a.1 a.2.1 a.2.2).trans h

noncomputable def m48A : Anns := tabA []
noncomputable def m48E (k : Nat) : Env := { P := Try.prog, k := k, G := tabG [(54, m54sp)], GB := tabGB [] }
noncomputable def m48c (p : List Bool) : Code := sub p (bodyOf Try.f48)
noncomputable def m48I (k : Nat) : Inl Int := inlOf (m48E k) (only 48 m48A) 3
noncomputable def m48K0 (M : Cut Int) (k : Nat) : Exit → St → Option Int := seqK (normAt 0 m48A false (m48c [true])) (cutK M m48A (m48c [true]) fun s => evC (m48E k) M (m48I k) 0 m48A (m48c [true]) s (retK Try.prog Try.f48 [.leaf (.val (.int .i64))])) (retK Try.prog Try.f48 [.leaf (.val (.int .i64))])
noncomputable def m48K1 (M : Cut Int) (k : Nat) : Exit → St → Option Int := seqK (normAt 0 m48A false (m48c [true, true])) (cutK M m48A (m48c [true, true]) fun s => evC (m48E k) M (m48I k) 0 m48A (m48c [true, true]) s (retK Try.prog Try.f48 [.leaf (.val (.int .i64))])) (retK Try.prog Try.f48 [.leaf (.val (.int .i64))])
noncomputable def m48K2 (M : Cut Int) (k : Nat) : Exit → St → Option Int := seqK (normAt 0 m48A false (m48c [true, false, true])) (cutK M m48A (m48c [true, false, true]) fun s => evC (m48E k) M (m48I k) 0 m48A (m48c [true, false, true]) s (m48K1 M k)) (m48K1 M k)
noncomputable def m48K3 (M : Cut Int) (k : Nat) : Exit → St → Option Int := seqK (normAt 0 m48A false (m48c [true, false, true, false, true])) (cutK M m48A (m48c [true, false, true, false, true]) fun s => evC (m48E k) M (m48I k) 0 m48A (m48c [true, false, true, false, true]) s (m48K1 M k)) (m48K1 M k)
noncomputable def m48K4 (M : Cut Int) (k : Nat) : Exit → St → Option Int := seqK (normAt 0 m48A false (m48c [true, true, true])) (cutK M m48A (m48c [true, true, true]) fun s => evC (m48E k) M (m48I k) 0 m48A (m48c [true, true, true]) s (retK Try.prog Try.f48 [.leaf (.val (.int .i64))])) (retK Try.prog Try.f48 [.leaf (.val (.int .i64))])

noncomputable def m48X (k : Nat) (p0 : (Int × (Int × (Int × (Int × (Int × (Int × (Int × (Int × (Int × Int)))))))))) : Option Int := (Option.bind (m54F k (Prod.fst p0) 1 16) fun (c3 : Bool) => (if c3 = true then (Option.bind (m54F k (Prod.fst (Prod.snd p0)) 1 16) fun (c4 : Bool) => (if c4 = true then (Option.bind (m54F k (Prod.fst (Prod.snd (Prod.snd p0))) 1 3) fun (c5 : Bool) => (if c5 = true then (Option.bind (m54F k (Prod.fst (Prod.snd (Prod.snd (Prod.snd p0)))) 1 16) fun (c6 : Bool) => (if c6 = true then (Option.bind (m54F k (Prod.fst (Prod.snd (Prod.snd (Prod.snd (Prod.snd p0))))) 1 16) fun (c7 : Bool) => (if c7 = true then (Option.bind (m54F k (Prod.fst (Prod.snd (Prod.snd (Prod.snd (Prod.snd (Prod.snd p0)))))) 1 16) fun (c8 : Bool) => (if c8 = true then (Option.bind (m54F k (Prod.fst (Prod.snd (Prod.snd (Prod.snd (Prod.snd (Prod.snd (Prod.snd p0))))))) 1 64) fun (c9 : Bool) => (if c9 = true then (Option.bind (m54F k (Prod.fst (Prod.snd (Prod.snd (Prod.snd (Prod.snd (Prod.snd (Prod.snd (Prod.snd p0)))))))) 4 16) fun (c10 : Bool) => (if c10 = true then (Option.bind (m54F k (Prod.fst (Prod.snd (Prod.snd (Prod.snd (Prod.snd (Prod.snd (Prod.snd (Prod.snd (Prod.snd p0))))))))) 0 200) fun (c11 : Bool) => (if c11 = true then (Option.bind (m54F k (Prod.snd (Prod.snd (Prod.snd (Prod.snd (Prod.snd (Prod.snd (Prod.snd (Prod.snd (Prod.snd p0))))))))) 0
  1073741824) fun (c12 : Bool) => (if c12 = true then some (0) else some (1))) else some (1))) else some (1))) else some (1))) else some (1))) else some (1))) else some (1))) else some (1))) else some (1))) else some (1)))

theorem m48x (M : Cut Int) (k : Nat) (p0 : (Int × (Int × (Int × (Int × (Int × (Int × (Int × (Int × (Int × Int)))))))))) : evC (m48E k) M (m48I k) 0 m48A (m48c []) (stAt Try.f48 (argSs [.st (.pair (.int .i64) (.pair (.int .i64) (.pair (.int .i64) (.pair (.int .i64) (.pair (.int .i64) (.pair (.int .i64) (.pair (.int .i64) (.pair (.int .i64) (.pair (.int .i64) (.int .i64))))))))))] p0) (fun _ => none) 0) (retK Try.prog Try.f48 [.leaf (.val (.int .i64))]) = m48X k p0 := by kernel_rfl

noncomputable def m48F (k : Nat) (p0 : (Int × (Int × (Int × (Int × (Int × (Int × (Int × (Int × (Int × Int)))))))))) : Option Int := m48X k p0

theorem m48q (k : Nat) (p0 : (Int × (Int × (Int × (Int × (Int × (Int × (Int × (Int × (Int × Int)))))))))) : evC (m48E k) (fun _ f => f) (m48I k) 0 m48A (m48c []) (stAt Try.f48 (argSs [.st (.pair (.int .i64) (.pair (.int .i64) (.pair (.int .i64) (.pair (.int .i64) (.pair (.int .i64) (.pair (.int .i64) (.pair (.int .i64) (.pair (.int .i64) (.pair (.int .i64) (.int .i64))))))))))] p0) (fun _ => none) 0) (retK Try.prog Try.f48 [.leaf (.val (.int .i64))]) = m48F k p0 := by
    show _ = m48X k p0
    exact m48x (fun _ f => f) k p0

noncomputable def m48sp : Spec := { ps := [.st (.pair (.int .i64) (.pair (.int .i64) (.pair (.int .i64) (.pair (.int .i64) (.pair (.int .i64) (.pair (.int .i64) (.pair (.int .i64) (.pair (.int .i64) (.pair (.int .i64) (.int .i64))))))))))], rs := [.leaf (.val (.int .i64))], f := fun k a => m48F k a }

theorem m48ok (k : Nat) : EnvOk (m48E k) := envOk_of (l := [(54, m54sp)]) (lB := []) progNames progMixed rfl rfl (.cons ⟨m54con k, Try.f54, by kernel_rfl, by kernel_rfl⟩ (.nil)) (.nil)

theorem m48con (k : Nat) : Contract Try.prog k 48 m48sp := contract_of (E := m48E k) (m48ok k) (A := only 48 m48A) (d := 3) (c := m48c []) (by kernel_rfl) (by kernel_rfl) fun a _ h => (m48q k a).trans h

noncomputable def m60A : Anns := tabA []
noncomputable def m60E (k : Nat) : Env := { P := Try.prog, k := k, G := tabG [], GB := tabGB [] }
noncomputable def m60c (p : List Bool) : Code := sub p (bodyOf Try.f60)
noncomputable def m60I (k : Nat) : Inl Int := inlOf (m60E k) (only 60 m60A) 3
noncomputable def m60K0 (M : Cut Int) (k : Nat) : Exit → St → Option Int := seqK (normAt 0 m60A false (m60c [true])) (cutK M m60A (m60c [true]) fun s => evC (m60E k) M (m60I k) 0 m60A (m60c [true]) s (retK Try.prog Try.f60 [.leaf (.val (.int .i64))])) (retK Try.prog Try.f60 [.leaf (.val (.int .i64))])
noncomputable def m60K1 (M : Cut Int) (k : Nat) : Exit → St → Option Int := seqK (normAt 0 m60A false (m60c [true, true])) (cutK M m60A (m60c [true, true]) fun s => evC (m60E k) M (m60I k) 0 m60A (m60c [true, true]) s (retK Try.prog Try.f60 [.leaf (.val (.int .i64))])) (retK Try.prog Try.f60 [.leaf (.val (.int .i64))])

noncomputable def m60X (k : Nat) (p0 : Int) (p1 : Int) : Option Int := (if (!eqI p1 0) = true then some (wr IntKind.i64 (Int.tdiv (wr IntKind.i64 (wr IntKind.i64 (p0 + p1) - 1)) p1)) else none)

theorem m60x (M : Cut Int) (k : Nat) (p0 : Int) (p1 : Int) : evC (m60E k) M (m60I k) 0 m60A (m60c []) (stAt Try.f60 (argSs [.leaf (.val (.int .i64)), .leaf (.val (.int .i64))] (p0, p1)) (fun _ => none) 0) (retK Try.prog Try.f60 [.leaf (.val (.int .i64))]) = m60X k p0 p1 := by kernel_rfl

noncomputable def m60F (k : Nat) (p0 : Int) (p1 : Int) : Option Int := m60X k p0 p1

theorem m60q (k : Nat) (p0 : Int) (p1 : Int) : evC (m60E k) (fun _ f => f) (m60I k) 0 m60A (m60c []) (stAt Try.f60 (argSs [.leaf (.val (.int .i64)), .leaf (.val (.int .i64))] (p0, p1)) (fun _ => none) 0) (retK Try.prog Try.f60 [.leaf (.val (.int .i64))]) = m60F k p0 p1 := by
    show _ = m60X k p0 p1
    exact m60x (fun _ f => f) k p0 p1

noncomputable def m60sp : Spec := { ps := [.leaf (.val (.int .i64)), .leaf (.val (.int .i64))], rs := [.leaf (.val (.int .i64))], f := fun k a => m60F k a.1 a.2 }

theorem m60ok (k : Nat) : EnvOk (m60E k) := envOk_of (l := []) (lB := []) progNames progMixed rfl rfl (.nil) (.nil)

theorem m60con (k : Nat) : Contract Try.prog k 60 m60sp := contract_of (E := m60E k) (m60ok k) (A := only 60 m60A) (d := 3) (c := m60c []) (by kernel_rfl) (by kernel_rfl) fun a _ h => (m60q k a.1 a.2).trans h

noncomputable def m55A : Anns := tabA []
noncomputable def m55E (k : Nat) : Env := { P := Try.prog, k := k, G := tabG [(48, m48sp), (60, m60sp)], GB := tabGB [] }
noncomputable def m55c (p : List Bool) : Code := sub p (bodyOf Try.f55)
noncomputable def m55I (k : Nat) : Inl Int := inlOf (m55E k) (only 55 m55A) 3
noncomputable def m55K0 (M : Cut Int) (k : Nat) : Exit → St → Option Int := seqK (normAt 0 m55A false (m55c [true])) (cutK M m55A (m55c [true]) fun s => evC (m55E k) M (m55I k) 0 m55A (m55c [true]) s (retK Try.prog Try.f55 [.leaf (.val (.int .i64))])) (retK Try.prog Try.f55 [.leaf (.val (.int .i64))])
noncomputable def m55K1 (M : Cut Int) (k : Nat) : Exit → St → Option Int := seqK (normAt 0 m55A false (m55c [true, true])) (cutK M m55A (m55c [true, true]) fun s => evC (m55E k) M (m55I k) 0 m55A (m55c [true, true]) s (retK Try.prog Try.f55 [.leaf (.val (.int .i64))])) (retK Try.prog Try.f55 [.leaf (.val (.int .i64))])
noncomputable def m55K2 (M : Cut Int) (k : Nat) : Exit → St → Option Int := blockK 0 (m55K1 M k)
noncomputable def m55K3 (M : Cut Int) (k : Nat) : Exit → St → Option Int := seqK (normAt 0 m55A false (m55c [true, false, true, true])) (cutK M m55A (m55c [true, false, true, true]) fun s => evC (m55E k) M (m55I k) 0 m55A (m55c [true, false, true, true]) s (m55K2 M k)) (m55K2 M k)
noncomputable def m55K4 (M : Cut Int) (k : Nat) : Exit → St → Option Int := seqK (normAt 0 m55A false (m55c [true, false, true, true, false, true])) (cutK M m55A (m55c [true, false, true, true, false, true]) fun s => evC (m55E k) M (m55I k) 0 m55A (m55c [true, false, true, true, false, true]) s (m55K2 M k)) (m55K2 M k)
noncomputable def m55K5 (M : Cut Int) (k : Nat) : Exit → St → Option Int := seqK (normAt 0 m55A false (m55c [true, false, true, true, true, true])) (cutK M m55A (m55c [true, false, true, true, true, true]) fun s => evC (m55E k) M (m55I k) 0 m55A (m55c [true, false, true, true, true, true]) s (m55K2 M k)) (m55K2 M k)
noncomputable def m55K6 (M : Cut Int) (k : Nat) : Exit → St → Option Int := seqK (normAt 0 m55A false (m55c [true, false, true, true, true, true, false, true])) (cutK M m55A (m55c [true, false, true, true, true, true, false, true]) fun s => evC (m55E k) M (m55I k) 0 m55A (m55c [true, false, true, true, true, true, false, true]) s (m55K2 M k)) (m55K2 M k)
noncomputable def m55K7 (M : Cut Int) (k : Nat) : Exit → St → Option Int := seqK (normAt 0 m55A false (m55c [true, true, true])) (cutK M m55A (m55c [true, true, true]) fun s => evC (m55E k) M (m55I k) 0 m55A (m55c [true, true, true]) s (retK Try.prog Try.f55 [.leaf (.val (.int .i64))])) (retK Try.prog Try.f55 [.leaf (.val (.int .i64))])

noncomputable def m55X (k : Nat) (p0 : (Int × (Int × (Int × (Int × (Int × (Int × (Int × (Int × (Int × Int)))))))))) (p1 : Int) : Option Int := (Option.bind (m48F k
  (Prod.fst p0, Prod.fst (Prod.snd p0), Prod.fst (Prod.snd (Prod.snd p0)), Prod.fst (Prod.snd (Prod.snd (Prod.snd p0))),
    Prod.fst (Prod.snd (Prod.snd (Prod.snd (Prod.snd p0)))),
    Prod.fst (Prod.snd (Prod.snd (Prod.snd (Prod.snd (Prod.snd p0))))),
    Prod.fst (Prod.snd (Prod.snd (Prod.snd (Prod.snd (Prod.snd (Prod.snd p0)))))),
    Prod.fst (Prod.snd (Prod.snd (Prod.snd (Prod.snd (Prod.snd (Prod.snd (Prod.snd p0))))))),
    Prod.fst (Prod.snd (Prod.snd (Prod.snd (Prod.snd (Prod.snd (Prod.snd (Prod.snd (Prod.snd p0)))))))),
    Prod.snd (Prod.snd (Prod.snd (Prod.snd (Prod.snd (Prod.snd (Prod.snd (Prod.snd (Prod.snd p0)))))))))) fun (c4 : Int) => (if (!eqI c4 0) = true then some (0) else (if ltI p1 0 = true then some (0) else (if ltI 200 p1 = true then some (0) else (if eqI p1 0 = true then some (1) else (Option.bind (m60F k p1 (Prod.fst p0)) fun (c5 : Int) => some c5))))))

theorem m55x (M : Cut Int) (k : Nat) (p0 : (Int × (Int × (Int × (Int × (Int × (Int × (Int × (Int × (Int × Int)))))))))) (p1 : Int) : evC (m55E k) M (m55I k) 0 m55A (m55c []) (stAt Try.f55 (argSs [.st (.pair (.int .i64) (.pair (.int .i64) (.pair (.int .i64) (.pair (.int .i64) (.pair (.int .i64) (.pair (.int .i64) (.pair (.int .i64) (.pair (.int .i64) (.pair (.int .i64) (.int .i64)))))))))), .leaf (.val (.int .i64))] (p0, p1)) (fun _ => none) 0) (retK Try.prog Try.f55 [.leaf (.val (.int .i64))]) = m55X k p0 p1 := by kernel_rfl

noncomputable def m55F (k : Nat) (p0 : (Int × (Int × (Int × (Int × (Int × (Int × (Int × (Int × (Int × Int)))))))))) (p1 : Int) : Option Int := m55X k p0 p1

theorem m55q (k : Nat) (p0 : (Int × (Int × (Int × (Int × (Int × (Int × (Int × (Int × (Int × Int)))))))))) (p1 : Int) : evC (m55E k) (fun _ f => f) (m55I k) 0 m55A (m55c []) (stAt Try.f55 (argSs [.st (.pair (.int .i64) (.pair (.int .i64) (.pair (.int .i64) (.pair (.int .i64) (.pair (.int .i64) (.pair (.int .i64) (.pair (.int .i64) (.pair (.int .i64) (.pair (.int .i64) (.int .i64)))))))))), .leaf (.val (.int .i64))] (p0, p1)) (fun _ => none) 0) (retK Try.prog Try.f55 [.leaf (.val (.int .i64))]) = m55F k p0 p1 := by
    show _ = m55X k p0 p1
    exact m55x (fun _ f => f) k p0 p1

noncomputable def m55sp : Spec := { ps := [.st (.pair (.int .i64) (.pair (.int .i64) (.pair (.int .i64) (.pair (.int .i64) (.pair (.int .i64) (.pair (.int .i64) (.pair (.int .i64) (.pair (.int .i64) (.pair (.int .i64) (.int .i64)))))))))), .leaf (.val (.int .i64))], rs := [.leaf (.val (.int .i64))], f := fun k a => m55F k a.1 a.2 }

theorem m55ok (k : Nat) : EnvOk (m55E k) := envOk_of (l := [(48, m48sp), (60, m60sp)]) (lB := []) progNames progMixed rfl rfl (.cons ⟨m48con k, Try.f48, by kernel_rfl, by kernel_rfl⟩ (.cons ⟨m60con k, Try.f60, by kernel_rfl, by kernel_rfl⟩ (.nil))) (.nil)

theorem m55con (k : Nat) : Contract Try.prog k 55 m55sp := contract_of (E := m55E k) (m55ok k) (A := only 55 m55A) (d := 3) (c := m55c []) (by kernel_rfl) (by kernel_rfl) fun a _ h => (m55q k a.1 a.2).trans h

end Go.Proofs.Ytbbmdflfonifnaa.Mini
