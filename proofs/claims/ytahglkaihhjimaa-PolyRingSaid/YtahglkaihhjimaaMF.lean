/- Printed by a program of this session's (MPrint, over wip/mini): plain functions of the program's, and that they are what it does. Lean checks it. -/
import Derived.Test.YtahglkaihhjimaaXMO
import Derived.Test.YtahglkaihhjimaaProg
import Derived.KernelRfl
set_option linter.unusedVariables false
namespace Go.Proofs.Ytahglkaihhjimaa.Mini
open Go Go.RowKit Go.Proofs
theorem progNames : (Try.prog.funcs.all fun f => !(f.name == "runtime.NumGoroutine")) = true := by kernel_rfl
theorem progMixed : Try.prog.follows .mixedOrders = true := by kernel_rfl

noncomputable def m8A : Anns := tabA [(7, { keep := [0, 3, 4], mat := [(3, (.int .i64), 3)] })]
noncomputable def m8E (k : Nat) : Env := { P := Try.prog, k := k, G := tabG [], GB := tabGB [] }
noncomputable def m8c (p : List Bool) : Code := sub p (bodyOf Try.f8)
noncomputable def m8I (k : Nat) : Inl (List Int) := inlOf (m8E k) (only 8 m8A) 3
noncomputable def m8K0 (M : Cut (List Int)) (k : Nat) : Exit → St → Option (List Int) := seqK (normAt 0 m8A false (m8c [true])) (cutK M m8A (m8c [true]) fun s => evC (m8E k) M (m8I k) 0 m8A (m8c [true]) s (retK Try.prog Try.f8 [.leaf (.own (.int .i64) 3)])) (retK Try.prog Try.f8 [.leaf (.own (.int .i64) 3)])
noncomputable def m8K1 (M : Cut (List Int)) (k : Nat) : Exit → St → Option (List Int) := seqK (normAt 0 m8A false (m8c [true, true])) (cutK M m8A (m8c [true, true]) fun s => evC (m8E k) M (m8I k) 0 m8A (m8c [true, true]) s (retK Try.prog Try.f8 [.leaf (.own (.int .i64) 3)])) (retK Try.prog Try.f8 [.leaf (.own (.int .i64) 3)])
noncomputable def m8K2 (M : Cut (List Int)) (k : Nat) : Exit → St → Option (List Int) := seqK (normAt 0 m8A false (m8c [true, true, true])) (cutK M m8A (m8c [true, true, true]) fun s => evC (m8E k) M (m8I k) 0 m8A (m8c [true, true, true]) s (retK Try.prog Try.f8 [.leaf (.own (.int .i64) 3)])) (retK Try.prog Try.f8 [.leaf (.own (.int .i64) 3)])
noncomputable def m8K3 (M : Cut (List Int)) (k : Nat) : Exit → St → Option (List Int) := seqK (normAt 0 m8A false (m8c [true, true, false, true])) (cutK M m8A (m8c [true, true, false, true]) fun s => evC (m8E k) M (m8I k) 0 m8A (m8c [true, true, false, true]) s (m8K2 M k)) (m8K2 M k)
noncomputable def m8K4 (M : Cut (List Int)) (k : Nat) : Exit → St → Option (List Int) := blockK 0 (m8K2 M k)
noncomputable def m8K5 (M : Cut (List Int)) (k : Nat) (L7 : St → Option (List Int)) : Exit → St → Option (List Int) := seqK (normAt 0 m8A true (m8c [true, true, false, true, true, true])) L7 (m8K4 M k)
noncomputable def m8K6 (M : Cut (List Int)) (k : Nat) (L7 : St → Option (List Int)) : Exit → St → Option (List Int) := seqK (normAt 0 m8A false (m8c [true, true, false, true, true, true, true])) (cutK M m8A (m8c [true, true, false, true, true, true, true]) fun s => evC (m8E k) M (m8I k) 0 m8A (m8c [true, true, false, true, true, true, true]) s (m8K5 M k L7)) (m8K5 M k L7)
noncomputable def m8K7 (M : Cut (List Int)) (k : Nat) (L7 : St → Option (List Int)) : Exit → St → Option (List Int) := seqK (normAt 0 m8A false (m8c [true, true, false, true, true, true, false, true])) (cutK M m8A (m8c [true, true, false, true, true, true, false, true]) fun s => evC (m8E k) M (m8I k) 0 m8A (m8c [true, true, false, true, true, true, false, true]) s (m8K6 M k L7)) (m8K6 M k L7)
noncomputable def m8K8 (M : Cut (List Int)) (k : Nat) (L7 : St → Option (List Int)) : Exit → St → Option (List Int) := seqK (normAt 0 m8A false (m8c [true, true, false, true, true, true, true, true])) (cutK M m8A (m8c [true, true, false, true, true, true, true, true]) fun s => evC (m8E k) M (m8I k) 0 m8A (m8c [true, true, false, true, true, true, true, true]) s (m8K5 M k L7)) (m8K5 M k L7)
noncomputable def m8K9 (M : Cut (List Int)) (k : Nat) (L7 : St → Option (List Int)) : Exit → St → Option (List Int) := blockK 1 (m8K8 M k L7)
noncomputable def m8K10 (M : Cut (List Int)) (k : Nat) : Exit → St → Option (List Int) := seqK (normAt 0 m8A false (m8c [true, true, true, true])) (cutK M m8A (m8c [true, true, true, true]) fun s => evC (m8E k) M (m8I k) 0 m8A (m8c [true, true, true, true]) s (retK Try.prog Try.f8 [.leaf (.own (.int .i64) 3)])) (retK Try.prog Try.f8 [.leaf (.own (.int .i64) 3)])
noncomputable def m8S7 (t0 : List Int) (t4 : Int) (b0 : List Int) : St := { n := 20, tm := slots [(0, .row (.int .i64) t0), (3, .own 0), (4, .int .i64 t4)], tab := blks [some (.row true (.int .i64) 3 b0)], nx := 1 }

noncomputable def m8X (X7 : List Int → Int → List Int → Option (List Int)) (k : Nat) (p0 : (List Int)) : Option (List Int) := X7 p0 (0) ([])

theorem m8x (M : Cut (List Int)) (k : Nat) (p0 : (List Int)) : evC (m8E k) M (m8I k) 0 m8A (m8c []) (stAt Try.f8 (argSs [.leaf (.val (.row (.int .i64)))] p0) (fun _ => none) 0) (retK Try.prog Try.f8 [.leaf (.own (.int .i64) 3)]) = m8X (fun t0' t4' b0' => loopN (normAt 0 m8A true (m8c [true, true, false, true, true, true])) (fun K s => evC (m8E k) M (m8I k) 0 m8A (m8c [true, true, false, true, true, true]) s K) (m8K4 M k) k (m8S7 t0' t4' b0')) k p0 := by kernel_rfl

noncomputable def m8X7 (L7 : List Int → Int → List Int → Option (List Int)) (k : Nat) (t0 : List Int) (t4 : Int) (b0 : List Int) : Option (List Int) := (if ltI t4 (↑(List.length t0) : Int) = true then (if leI 0 t4 = true then (if ltI t4 (↑(List.length t0) : Int) = true then (if leI
    (↑((List.length b0 +
            List.length
              (List.set (List.replicate 1 0) 0 (bits BinOp.and IntKind.i64 (List.getD t0 (Int.toNat t4) 0) 1))) *
          8) :
      Int)
    140737488355328 =
  true then L7 t0 (wr IntKind.i64 (t4 + 1)) (b0 ++ List.set (List.replicate 1 0) 0 (bits BinOp.and IntKind.i64 (List.getD t0 (Int.toNat t4) 0) 1)) else none) else none) else none) else some b0)

theorem m8x7 (M : Cut (List Int)) (k : Nat) (L7 : St → Option (List Int)) (t0 : List Int) (t4 : Int) (b0 : List Int) : evC (m8E k) M (m8I k) 0 m8A (m8c [true, true, false, true, true, true]) (m8S7 t0 t4 b0) (seqK (normAt 0 m8A true (m8c [true, true, false, true, true, true])) L7 (m8K4 M k)) = m8X7 (fun t0' t4' b0' => L7 (m8S7 t0' t4' b0')) k t0 t4 b0 := by kernel_rfl

noncomputable def m8F7 (k : Nat) : Nat → List Int → Int → List Int → Option (List Int)
  | 0, _, _, _ => none
  | j + 1, t0, t4, b0 => m8X7 (m8F7 k j) k t0 t4 b0

theorem m8q7 (k : Nat) : ∀ (j : Nat) (t0 : List Int) (t4 : Int) (b0 : List Int), loopN (normAt 0 m8A true (m8c [true, true, false, true, true, true])) (fun K s => evC (m8E k) (fun _ f => f) (m8I k) 0 m8A (m8c [true, true, false, true, true, true]) s K) (m8K4 (fun _ f => f) k) j (m8S7 t0 t4 b0) = m8F7 k j t0 t4 b0
  | 0, _, _, _ => rfl
  | j + 1, t0, t4, b0 => by
    have e0 : m8F7 k j = (fun t0' t4' b0' => loopN (normAt 0 m8A true (m8c [true, true, false, true, true, true])) (fun K s => evC (m8E k) (fun _ f => f) (m8I k) 0 m8A (m8c [true, true, false, true, true, true]) s K) (m8K4 (fun _ f => f) k) j (m8S7 t0' t4' b0')) := funext fun t0' => funext fun t4' => funext fun b0' => (m8q7 k j t0' t4' b0').symm
    show _ = m8X7 (m8F7 k j) k t0 t4 b0
    rw [e0]
    exact m8x7 (fun _ f => f) k (loopN (normAt 0 m8A true (m8c [true, true, false, true, true, true])) (fun K s => evC (m8E k) (fun _ f => f) (m8I k) 0 m8A (m8c [true, true, false, true, true, true]) s K) (m8K4 (fun _ f => f) k) j) t0 t4 b0

noncomputable def m8F (k : Nat) (p0 : (List Int)) : Option (List Int) := m8X (m8F7 k k) k p0

theorem m8q (k : Nat) (p0 : (List Int)) : evC (m8E k) (fun _ f => f) (m8I k) 0 m8A (m8c []) (stAt Try.f8 (argSs [.leaf (.val (.row (.int .i64)))] p0) (fun _ => none) 0) (retK Try.prog Try.f8 [.leaf (.own (.int .i64) 3)]) = m8F k p0 := by
    have e7 : m8F7 k k = (fun t0' t4' b0' => loopN (normAt 0 m8A true (m8c [true, true, false, true, true, true])) (fun K s => evC (m8E k) (fun _ f => f) (m8I k) 0 m8A (m8c [true, true, false, true, true, true]) s K) (m8K4 (fun _ f => f) k) k (m8S7 t0' t4' b0')) := funext fun t0' => funext fun t4' => funext fun b0' => (m8q7 k k t0' t4' b0').symm
    show _ = m8X (m8F7 k k) k p0
    rw [e7]
    exact m8x (fun _ f => f) k p0

noncomputable def m8sp : Spec := { ps := [.leaf (.val (.row (.int .i64)))], rs := [.leaf (.own (.int .i64) 3)], f := fun k a => m8F k a }

theorem m8ok (k : Nat) : EnvOk (m8E k) := envOk_of (l := []) (lB := []) progNames progMixed rfl rfl (.nil) (.nil)

theorem m8con (k : Nat) : Contract Try.prog k 8 m8sp := contract_of (E := m8E k) (m8ok k) (A := only 8 m8A) (d := 3) (c := m8c []) (by kernel_rfl) (by kernel_rfl) fun a _ h => (m8q k a).trans h

noncomputable def m28A : Anns := tabA []
noncomputable def m28E (k : Nat) : Env := { P := Try.prog, k := k, G := tabG [], GB := tabGB [] }
noncomputable def m28c (p : List Bool) : Code := sub p (bodyOf Try.f28)
noncomputable def m28I (k : Nat) : Inl Bool := inlOf (m28E k) (only 28 m28A) 3
noncomputable def m28K0 (M : Cut Bool) (k : Nat) : Exit → St → Option Bool := seqK (normAt 0 m28A false (m28c [true])) (cutK M m28A (m28c [true]) fun s => evC (m28E k) M (m28I k) 0 m28A (m28c [true]) s (retK Try.prog Try.f28 [.leaf (.val .bool)])) (retK Try.prog Try.f28 [.leaf (.val .bool)])
noncomputable def m28K1 (M : Cut Bool) (k : Nat) : Exit → St → Option Bool := seqK (normAt 0 m28A false (m28c [true, true])) (cutK M m28A (m28c [true, true]) fun s => evC (m28E k) M (m28I k) 0 m28A (m28c [true, true]) s (retK Try.prog Try.f28 [.leaf (.val .bool)])) (retK Try.prog Try.f28 [.leaf (.val .bool)])

noncomputable def m28X (k : Nat) (p0 : Int) : Option Bool := (if (!eqI p0 0) = true then some (!eqI p0 1) else some (false))

theorem m28x (M : Cut Bool) (k : Nat) (p0 : Int) : evC (m28E k) M (m28I k) 0 m28A (m28c []) (stAt Try.f28 (argSs [.leaf (.val (.int .i64))] p0) (fun _ => none) 0) (retK Try.prog Try.f28 [.leaf (.val .bool)]) = m28X k p0 := by kernel_rfl

noncomputable def m28F (k : Nat) (p0 : Int) : Option Bool := m28X k p0

theorem m28q (k : Nat) (p0 : Int) : evC (m28E k) (fun _ f => f) (m28I k) 0 m28A (m28c []) (stAt Try.f28 (argSs [.leaf (.val (.int .i64))] p0) (fun _ => none) 0) (retK Try.prog Try.f28 [.leaf (.val .bool)]) = m28F k p0 := by
    show _ = m28X k p0
    exact m28x (fun _ f => f) k p0

noncomputable def m28sp : Spec := { ps := [.leaf (.val (.int .i64))], rs := [.leaf (.val .bool)], f := fun k a => m28F k a }

theorem m28ok (k : Nat) : EnvOk (m28E k) := envOk_of (l := []) (lB := []) progNames progMixed rfl rfl (.nil) (.nil)

theorem m28con (k : Nat) : Contract Try.prog k 28 m28sp := contract_of (E := m28E k) (m28ok k) (A := only 28 m28A) (d := 3) (c := m28c []) (by kernel_rfl) (by kernel_rfl) fun a _ h => (m28q k a).trans h

noncomputable def m30A : Anns := tabA [(5, { keep := [0, 1, 7, 8] })]
noncomputable def m30E (k : Nat) : Env := { P := Try.prog, k := k, G := tabG [(28, m28sp)], GB := tabGB [] }
noncomputable def m30c (p : List Bool) : Code := sub p (bodyOf Try.f30)
noncomputable def m30I (k : Nat) : Inl Int := inlOf (m30E k) (only 30 m30A) 3
noncomputable def m30K0 (M : Cut Int) (k : Nat) : Exit → St → Option Int := seqK (normAt 0 m30A false (m30c [true])) (cutK M m30A (m30c [true]) fun s => evC (m30E k) M (m30I k) 0 m30A (m30c [true]) s (retK Try.prog Try.f30 [.leaf (.val (.int .i64))])) (retK Try.prog Try.f30 [.leaf (.val (.int .i64))])
noncomputable def m30K1 (M : Cut Int) (k : Nat) : Exit → St → Option Int := seqK (normAt 0 m30A false (m30c [true, true])) (cutK M m30A (m30c [true, true]) fun s => evC (m30E k) M (m30I k) 0 m30A (m30c [true, true]) s (retK Try.prog Try.f30 [.leaf (.val (.int .i64))])) (retK Try.prog Try.f30 [.leaf (.val (.int .i64))])
noncomputable def m30K2 (M : Cut Int) (k : Nat) : Exit → St → Option Int := seqK (normAt 0 m30A false (m30c [true, false, true])) (cutK M m30A (m30c [true, false, true]) fun s => evC (m30E k) M (m30I k) 0 m30A (m30c [true, false, true]) s (m30K1 M k)) (m30K1 M k)
noncomputable def m30K3 (M : Cut Int) (k : Nat) : Exit → St → Option Int := blockK 0 (m30K1 M k)
noncomputable def m30K4 (M : Cut Int) (k : Nat) (L5 : St → Option Int) : Exit → St → Option Int := seqK (normAt 0 m30A true (m30c [true, false, true, true, true])) L5 (m30K3 M k)
noncomputable def m30K5 (M : Cut Int) (k : Nat) (L5 : St → Option Int) : Exit → St → Option Int := seqK (normAt 0 m30A false (m30c [true, false, true, true, true, true])) (cutK M m30A (m30c [true, false, true, true, true, true]) fun s => evC (m30E k) M (m30I k) 0 m30A (m30c [true, false, true, true, true, true]) s (m30K4 M k L5)) (m30K4 M k L5)
noncomputable def m30K6 (M : Cut Int) (k : Nat) (L5 : St → Option Int) : Exit → St → Option Int := seqK (normAt 0 m30A false (m30c [true, false, true, true, true, true, true])) (cutK M m30A (m30c [true, false, true, true, true, true, true]) fun s => evC (m30E k) M (m30I k) 0 m30A (m30c [true, false, true, true, true, true, true]) s (m30K4 M k L5)) (m30K4 M k L5)
noncomputable def m30K7 (M : Cut Int) (k : Nat) (L5 : St → Option Int) : Exit → St → Option Int := seqK (normAt 0 m30A false (m30c [true, false, true, true, true, true, true, true])) (cutK M m30A (m30c [true, false, true, true, true, true, true, true]) fun s => evC (m30E k) M (m30I k) 0 m30A (m30c [true, false, true, true, true, true, true, true]) s (m30K4 M k L5)) (m30K4 M k L5)
noncomputable def m30K8 (M : Cut Int) (k : Nat) (L5 : St → Option Int) : Exit → St → Option Int := blockK 1 (m30K7 M k L5)
noncomputable def m30K9 (M : Cut Int) (k : Nat) (L5 : St → Option Int) : Exit → St → Option Int := seqK (normAt 0 m30A false (m30c [true, false, true, true, true, true, true, false, true, true])) (cutK M m30A (m30c [true, false, true, true, true, true, true, false, true, true]) fun s => evC (m30E k) M (m30I k) 0 m30A (m30c [true, false, true, true, true, true, true, false, true, true]) s (m30K8 M k L5)) (m30K8 M k L5)
noncomputable def m30K10 (M : Cut Int) (k : Nat) (L5 : St → Option Int) : Exit → St → Option Int := seqK (normAt 0 m30A false (m30c [true, false, true, true, true, true, true, false, true, true, true])) (cutK M m30A (m30c [true, false, true, true, true, true, true, false, true, true, true]) fun s => evC (m30E k) M (m30I k) 0 m30A (m30c [true, false, true, true, true, true, true, false, true, true, true]) s (m30K8 M k L5)) (m30K8 M k L5)
noncomputable def m30K11 (M : Cut Int) (k : Nat) (L5 : St → Option Int) : Exit → St → Option Int := seqK (normAt 0 m30A false (m30c [true, false, true, true, true, true, true, false, true, true, true, false, true])) (cutK M m30A (m30c [true, false, true, true, true, true, true, false, true, true, true, false, true]) fun s => evC (m30E k) M (m30I k) 0 m30A (m30c [true, false, true, true, true, true, true, false, true, true, true, false, true]) s (m30K8 M k L5)) (m30K8 M k L5)
noncomputable def m30K12 (M : Cut Int) (k : Nat) : Exit → St → Option Int := seqK (normAt 0 m30A false (m30c [true, true, true])) (cutK M m30A (m30c [true, true, true]) fun s => evC (m30E k) M (m30I k) 0 m30A (m30c [true, true, true]) s (retK Try.prog Try.f30 [.leaf (.val (.int .i64))])) (retK Try.prog Try.f30 [.leaf (.val (.int .i64))])
noncomputable def m30S5 (t0 : List Int) (t7 : Int) (t8 : Int) : St := { n := 19, tm := slots [(0, .row (.int .i64) t0), (1, .fn (.func 28) []), (7, .int .i64 t7), (8, .int .i64 t8)], tab := blks [], nx := 0 }

noncomputable def m30X (X5 : List Int → Int → Int → Option Int) (k : Nat) (p0 : (List Int)) (p1 : Unit) : Option Int := X5 p0 ((↑(List.length p0) : Int)) (0)

theorem m30x (M : Cut Int) (k : Nat) (p0 : (List Int)) (p1 : Unit) : evC (m30E k) M (m30I k) 0 m30A (m30c []) (stAt Try.f30 (argSs [.leaf (.val (.row (.int .i64))), .fn 28 []] (p0, p1)) (fun _ => none) 0) (retK Try.prog Try.f30 [.leaf (.val (.int .i64))]) = m30X (fun t0' t7' t8' => loopN (normAt 0 m30A true (m30c [true, false, true, true, true])) (fun K s => evC (m30E k) M (m30I k) 0 m30A (m30c [true, false, true, true, true]) s K) (m30K3 M k) k (m30S5 t0' t7' t8')) k p0 p1 := by kernel_rfl

noncomputable def m30X5 (L5 : List Int → Int → Int → Option Int) (k : Nat) (t0 : List Int) (t7 : Int) (t8 : Int) : Option Int := (if ltI t8 t7 = true then (if leI 0 t8 = true then (if ltI t8 (↑(List.length t0) : Int) = true then (Option.bind (m28F k (List.getD t0 (Int.toNat t8) 0)) fun (c6 : Bool) => (if c6 = true then some t8 else L5 t0 t7 (wr IntKind.i64 (t8 + 1)))) else none) else none) else some (-1))

theorem m30x5 (M : Cut Int) (k : Nat) (L5 : St → Option Int) (t0 : List Int) (t7 : Int) (t8 : Int) : evC (m30E k) M (m30I k) 0 m30A (m30c [true, false, true, true, true]) (m30S5 t0 t7 t8) (seqK (normAt 0 m30A true (m30c [true, false, true, true, true])) L5 (m30K3 M k)) = m30X5 (fun t0' t7' t8' => L5 (m30S5 t0' t7' t8')) k t0 t7 t8 := by kernel_rfl

noncomputable def m30F5 (k : Nat) : Nat → List Int → Int → Int → Option Int
  | 0, _, _, _ => none
  | j + 1, t0, t7, t8 => m30X5 (m30F5 k j) k t0 t7 t8

theorem m30q5 (k : Nat) : ∀ (j : Nat) (t0 : List Int) (t7 : Int) (t8 : Int), loopN (normAt 0 m30A true (m30c [true, false, true, true, true])) (fun K s => evC (m30E k) (fun _ f => f) (m30I k) 0 m30A (m30c [true, false, true, true, true]) s K) (m30K3 (fun _ f => f) k) j (m30S5 t0 t7 t8) = m30F5 k j t0 t7 t8
  | 0, _, _, _ => rfl
  | j + 1, t0, t7, t8 => by
    have e0 : m30F5 k j = (fun t0' t7' t8' => loopN (normAt 0 m30A true (m30c [true, false, true, true, true])) (fun K s => evC (m30E k) (fun _ f => f) (m30I k) 0 m30A (m30c [true, false, true, true, true]) s K) (m30K3 (fun _ f => f) k) j (m30S5 t0' t7' t8')) := funext fun t0' => funext fun t7' => funext fun t8' => (m30q5 k j t0' t7' t8').symm
    show _ = m30X5 (m30F5 k j) k t0 t7 t8
    rw [e0]
    exact m30x5 (fun _ f => f) k (loopN (normAt 0 m30A true (m30c [true, false, true, true, true])) (fun K s => evC (m30E k) (fun _ f => f) (m30I k) 0 m30A (m30c [true, false, true, true, true]) s K) (m30K3 (fun _ f => f) k) j) t0 t7 t8

noncomputable def m30F (k : Nat) (p0 : (List Int)) (p1 : Unit) : Option Int := m30X (m30F5 k k) k p0 p1

theorem m30q (k : Nat) (p0 : (List Int)) (p1 : Unit) : evC (m30E k) (fun _ f => f) (m30I k) 0 m30A (m30c []) (stAt Try.f30 (argSs [.leaf (.val (.row (.int .i64))), .fn 28 []] (p0, p1)) (fun _ => none) 0) (retK Try.prog Try.f30 [.leaf (.val (.int .i64))]) = m30F k p0 p1 := by
    have e5 : m30F5 k k = (fun t0' t7' t8' => loopN (normAt 0 m30A true (m30c [true, false, true, true, true])) (fun K s => evC (m30E k) (fun _ f => f) (m30I k) 0 m30A (m30c [true, false, true, true, true]) s K) (m30K3 (fun _ f => f) k) k (m30S5 t0' t7' t8')) := funext fun t0' => funext fun t7' => funext fun t8' => (m30q5 k k t0' t7' t8').symm
    show _ = m30X (m30F5 k k) k p0 p1
    rw [e5]
    exact m30x (fun _ f => f) k p0 p1

noncomputable def m30sp : Spec := { ps := [.leaf (.val (.row (.int .i64))), .fn 28 []], rs := [.leaf (.val (.int .i64))], f := fun k a => m30F k a.1 a.2 }

theorem m30ok (k : Nat) : EnvOk (m30E k) := envOk_of (l := [(28, m28sp)]) (lB := []) progNames progMixed rfl rfl (.cons ⟨m28con k, Try.f28, by kernel_rfl, by kernel_rfl⟩ (.nil)) (.nil)

theorem m30con (k : Nat) : Contract Try.prog k 30 m30sp := contract_of (E := m30E k) (m30ok k) (A := only 30 m30A) (d := 3) (c := m30c []) (by kernel_rfl) (by kernel_rfl) fun a _ h => (m30q k a.1 a.2).trans h

noncomputable def m27A : Anns := tabA []
noncomputable def m27E (k : Nat) : Env := { P := Try.prog, k := k, G := tabG [(28, m28sp), (30, m30sp)], GB := tabGB [] }
noncomputable def m27c (p : List Bool) : Code := sub p (bodyOf Try.f27)
noncomputable def m27I (k : Nat) : Inl Bool := inlOf (m27E k) (only 27 m27A) 3
noncomputable def m27K0 (M : Cut Bool) (k : Nat) : Exit → St → Option Bool := seqK (normAt 0 m27A false (m27c [true])) (cutK M m27A (m27c [true]) fun s => evC (m27E k) M (m27I k) 0 m27A (m27c [true]) s (retK Try.prog Try.f27 [.leaf (.val .bool)])) (retK Try.prog Try.f27 [.leaf (.val .bool)])
noncomputable def m27K1 (M : Cut Bool) (k : Nat) : Exit → St → Option Bool := seqK (normAt 0 m27A false (m27c [true, true])) (cutK M m27A (m27c [true, true]) fun s => evC (m27E k) M (m27I k) 0 m27A (m27c [true, true]) s (retK Try.prog Try.f27 [.leaf (.val .bool)])) (retK Try.prog Try.f27 [.leaf (.val .bool)])

noncomputable def m27X (k : Nat) (p0 : (List Int)) (p1 : Unit) : Option Bool := (Option.bind (m30F k p0 PUnit.unit) fun (c4 : Int) => some (leI 0 c4))

theorem m27x (M : Cut Bool) (k : Nat) (p0 : (List Int)) (p1 : Unit) : evC (m27E k) M (m27I k) 0 m27A (m27c []) (stAt Try.f27 (argSs [.leaf (.val (.row (.int .i64))), .fn 28 []] (p0, p1)) (fun _ => none) 0) (retK Try.prog Try.f27 [.leaf (.val .bool)]) = m27X k p0 p1 := by kernel_rfl

noncomputable def m27F (k : Nat) (p0 : (List Int)) (p1 : Unit) : Option Bool := m27X k p0 p1

theorem m27q (k : Nat) (p0 : (List Int)) (p1 : Unit) : evC (m27E k) (fun _ f => f) (m27I k) 0 m27A (m27c []) (stAt Try.f27 (argSs [.leaf (.val (.row (.int .i64))), .fn 28 []] (p0, p1)) (fun _ => none) 0) (retK Try.prog Try.f27 [.leaf (.val .bool)]) = m27F k p0 p1 := by
    show _ = m27X k p0 p1
    exact m27x (fun _ f => f) k p0 p1

noncomputable def m27sp : Spec := { ps := [.leaf (.val (.row (.int .i64))), .fn 28 []], rs := [.leaf (.val .bool)], f := fun k a => m27F k a.1 a.2 }

theorem m27ok (k : Nat) : EnvOk (m27E k) := envOk_of (l := [(28, m28sp), (30, m30sp)]) (lB := []) progNames progMixed rfl rfl (.cons ⟨m28con k, Try.f28, by kernel_rfl, by kernel_rfl⟩ (.cons ⟨m30con k, Try.f30, by kernel_rfl, by kernel_rfl⟩ (.nil))) (.nil)

theorem m27con (k : Nat) : Contract Try.prog k 27 m27sp := contract_of (E := m27E k) (m27ok k) (A := only 27 m27A) (d := 3) (c := m27c []) (by kernel_rfl) (by kernel_rfl) fun a _ h => (m27q k a.1 a.2).trans h

noncomputable def m21A : Anns := tabA [(5, { keep := [0, 7, 8, 9] }), (14, { keep := [0] }), (17, { keep := [17, 18, 19] })]
noncomputable def m21E (k : Nat) : Env := { P := Try.prog, k := k, G := tabG [(27, m27sp), (28, m28sp)], GB := tabGB [] }
noncomputable def m21c (p : List Bool) : Code := sub p (bodyOf Try.f21)
noncomputable def m21I (k : Nat) : Inl Int := inlOf (m21E k) (only 21 m21A) 3
noncomputable def m21K0 (M : Cut Int) (k : Nat) : Exit → St → Option Int := seqK (normAt 0 m21A false (m21c [true])) (cutK M m21A (m21c [true]) fun s => evC (m21E k) M (m21I k) 0 m21A (m21c [true]) s (retK Try.prog Try.f21 [.leaf (.val (.int .i64))])) (retK Try.prog Try.f21 [.leaf (.val (.int .i64))])
noncomputable def m21K1 (M : Cut Int) (k : Nat) : Exit → St → Option Int := seqK (normAt 0 m21A false (m21c [true, true])) (cutK M m21A (m21c [true, true]) fun s => evC (m21E k) M (m21I k) 0 m21A (m21c [true, true]) s (retK Try.prog Try.f21 [.leaf (.val (.int .i64))])) (retK Try.prog Try.f21 [.leaf (.val (.int .i64))])
noncomputable def m21K2 (M : Cut Int) (k : Nat) : Exit → St → Option Int := seqK (normAt 0 m21A false (m21c [true, false, true])) (cutK M m21A (m21c [true, false, true]) fun s => evC (m21E k) M (m21I k) 0 m21A (m21c [true, false, true]) s (m21K1 M k)) (m21K1 M k)
noncomputable def m21K3 (M : Cut Int) (k : Nat) : Exit → St → Option Int := blockK 0 (m21K1 M k)
noncomputable def m21K4 (M : Cut Int) (k : Nat) (L5 : St → Option Int) : Exit → St → Option Int := seqK (normAt 0 m21A true (m21c [true, false, true, true, true])) L5 (m21K3 M k)
noncomputable def m21K5 (M : Cut Int) (k : Nat) (L5 : St → Option Int) : Exit → St → Option Int := seqK (normAt 0 m21A false (m21c [true, false, true, true, true, true])) (cutK M m21A (m21c [true, false, true, true, true, true]) fun s => evC (m21E k) M (m21I k) 0 m21A (m21c [true, false, true, true, true, true]) s (m21K4 M k L5)) (m21K4 M k L5)
noncomputable def m21K6 (M : Cut Int) (k : Nat) (L5 : St → Option Int) : Exit → St → Option Int := seqK (normAt 0 m21A false (m21c [true, false, true, true, true, true, true])) (cutK M m21A (m21c [true, false, true, true, true, true, true]) fun s => evC (m21E k) M (m21I k) 0 m21A (m21c [true, false, true, true, true, true, true]) s (m21K4 M k L5)) (m21K4 M k L5)
noncomputable def m21K7 (M : Cut Int) (k : Nat) (L5 : St → Option Int) : Exit → St → Option Int := seqK (normAt 0 m21A false (m21c [true, false, true, true, true, true, true, true])) (cutK M m21A (m21c [true, false, true, true, true, true, true, true]) fun s => evC (m21E k) M (m21I k) 0 m21A (m21c [true, false, true, true, true, true, true, true]) s (m21K4 M k L5)) (m21K4 M k L5)
noncomputable def m21K8 (M : Cut Int) (k : Nat) (L5 : St → Option Int) : Exit → St → Option Int := blockK 1 (m21K7 M k L5)
noncomputable def m21K9 (M : Cut Int) (k : Nat) (L5 : St → Option Int) : Exit → St → Option Int := seqK (normAt 0 m21A false (m21c [true, false, true, true, true, true, true, false, true, true])) (cutK M m21A (m21c [true, false, true, true, true, true, true, false, true, true]) fun s => evC (m21E k) M (m21I k) 0 m21A (m21c [true, false, true, true, true, true, true, false, true, true]) s (m21K8 M k L5)) (m21K8 M k L5)
noncomputable def m21K10 (M : Cut Int) (k : Nat) (L5 : St → Option Int) : Exit → St → Option Int := seqK (normAt 0 m21A false (m21c [true, false, true, true, true, true, true, false, true, true, true])) (cutK M m21A (m21c [true, false, true, true, true, true, true, false, true, true, true]) fun s => evC (m21E k) M (m21I k) 0 m21A (m21c [true, false, true, true, true, true, true, false, true, true, true]) s (m21K8 M k L5)) (m21K8 M k L5)
noncomputable def m21K11 (M : Cut Int) (k : Nat) (L5 : St → Option Int) : Exit → St → Option Int := seqK (normAt 0 m21A false (m21c [true, false, true, true, true, true, true, false, true, true, true, false, true])) (cutK M m21A (m21c [true, false, true, true, true, true, true, false, true, true, true, false, true]) fun s => evC (m21E k) M (m21I k) 0 m21A (m21c [true, false, true, true, true, true, true, false, true, true, true, false, true]) s (m21K8 M k L5)) (m21K8 M k L5)
noncomputable def m21K12 (M : Cut Int) (k : Nat) : Exit → St → Option Int := seqK (normAt 0 m21A false (m21c [true, true, true])) (cutK M m21A (m21c [true, true, true]) fun s => evC (m21E k) M (m21I k) 0 m21A (m21c [true, true, true]) s (retK Try.prog Try.f21 [.leaf (.val (.int .i64))])) (retK Try.prog Try.f21 [.leaf (.val (.int .i64))])
noncomputable def m21K13 (M : Cut Int) (k : Nat) : Exit → St → Option Int := seqK (normAt 0 m21A false (m21c [true, true, false, true])) (cutK M m21A (m21c [true, true, false, true]) fun s => evC (m21E k) M (m21I k) 0 m21A (m21c [true, true, false, true]) s (m21K12 M k)) (m21K12 M k)
noncomputable def m21K14 (M : Cut Int) (k : Nat) : Exit → St → Option Int := blockK 2 (m21K12 M k)
noncomputable def m21K15 (M : Cut Int) (k : Nat) (L17 : St → Option Int) : Exit → St → Option Int := seqK (normAt 0 m21A true (m21c [true, true, false, true, true, true])) L17 (m21K14 M k)
noncomputable def m21K16 (M : Cut Int) (k : Nat) (L17 : St → Option Int) : Exit → St → Option Int := seqK (normAt 0 m21A false (m21c [true, true, false, true, true, true, true])) (cutK M m21A (m21c [true, true, false, true, true, true, true]) fun s => evC (m21E k) M (m21I k) 0 m21A (m21c [true, true, false, true, true, true, true]) s (m21K15 M k L17)) (m21K15 M k L17)
noncomputable def m21K17 (M : Cut Int) (k : Nat) (L17 : St → Option Int) : Exit → St → Option Int := seqK (normAt 0 m21A false (m21c [true, true, false, true, true, true, true, true])) (cutK M m21A (m21c [true, true, false, true, true, true, true, true]) fun s => evC (m21E k) M (m21I k) 0 m21A (m21c [true, true, false, true, true, true, true, true]) s (m21K15 M k L17)) (m21K15 M k L17)
noncomputable def m21K18 (M : Cut Int) (k : Nat) (L17 : St → Option Int) : Exit → St → Option Int := seqK (normAt 0 m21A false (m21c [true, true, false, true, true, true, true, true, true])) (cutK M m21A (m21c [true, true, false, true, true, true, true, true, true]) fun s => evC (m21E k) M (m21I k) 0 m21A (m21c [true, true, false, true, true, true, true, true, true]) s (m21K15 M k L17)) (m21K15 M k L17)
noncomputable def m21K19 (M : Cut Int) (k : Nat) (L17 : St → Option Int) : Exit → St → Option Int := blockK 3 (m21K18 M k L17)
noncomputable def m21K20 (M : Cut Int) (k : Nat) (L17 : St → Option Int) : Exit → St → Option Int := seqK (normAt 0 m21A false (m21c [true, true, false, true, true, true, true, true, false, true, true])) (cutK M m21A (m21c [true, true, false, true, true, true, true, true, false, true, true]) fun s => evC (m21E k) M (m21I k) 0 m21A (m21c [true, true, false, true, true, true, true, true, false, true, true]) s (m21K19 M k L17)) (m21K19 M k L17)
noncomputable def m21K21 (M : Cut Int) (k : Nat) (L17 : St → Option Int) : Exit → St → Option Int := seqK (normAt 0 m21A false (m21c [true, true, false, true, true, true, true, true, false, true, true, true])) (cutK M m21A (m21c [true, true, false, true, true, true, true, true, false, true, true, true]) fun s => evC (m21E k) M (m21I k) 0 m21A (m21c [true, true, false, true, true, true, true, true, false, true, true, true]) s (m21K19 M k L17)) (m21K19 M k L17)
noncomputable def m21K22 (M : Cut Int) (k : Nat) (L17 : St → Option Int) : Exit → St → Option Int := seqK (normAt 0 m21A false (m21c [true, true, false, true, true, true, true, true, false, true, true, true, false, true])) (cutK M m21A (m21c [true, true, false, true, true, true, true, true, false, true, true, true, false, true]) fun s => evC (m21E k) M (m21I k) 0 m21A (m21c [true, true, false, true, true, true, true, true, false, true, true, true, false, true]) s (m21K19 M k L17)) (m21K19 M k L17)
noncomputable def m21K23 (M : Cut Int) (k : Nat) : Exit → St → Option Int := seqK (normAt 0 m21A false (m21c [true, true, true, true])) (cutK M m21A (m21c [true, true, true, true]) fun s => evC (m21E k) M (m21I k) 0 m21A (m21c [true, true, true, true]) s (retK Try.prog Try.f21 [.leaf (.val (.int .i64))])) (retK Try.prog Try.f21 [.leaf (.val (.int .i64))])
noncomputable def m21S5 (t0 : List (List Int)) (t7 : List (List Int)) (t8 : Int) (t9 : Int) : St := { n := 26, tm := slots [(0, .row (.row (.int .i64)) t0), (7, .row (.row (.int .i64)) t7), (8, .int .i64 t8), (9, .int .i64 t9)], tab := blks [], nx := 0 }
noncomputable def m21S14 (t0 : List (List Int)) : St := { n := 26, tm := slots [(0, .row (.row (.int .i64)) t0)], tab := blks [], nx := 0 }
noncomputable def m21S17 (t17 : List (List Int)) (t18 : Int) (t19 : Int) : St := { n := 26, tm := slots [(17, .row (.row (.int .i64)) t17), (18, .int .i64 t18), (19, .int .i64 t19)], tab := blks [], nx := 0 }

noncomputable def m21X (X5 : List (List Int) → List (List Int) → Int → Int → Option Int) (k : Nat) (p0 : (List (List Int))) : Option Int := X5 p0 p0 ((↑(List.length p0) : Int)) (0)

theorem m21x (M : Cut Int) (k : Nat) (p0 : (List (List Int))) : evC (m21E k) M (m21I k) 0 m21A (m21c []) (stAt Try.f21 (argSs [.leaf (.val (.row (.row (.int .i64))))] p0) (fun _ => none) 0) (retK Try.prog Try.f21 [.leaf (.val (.int .i64))]) = m21X (fun t0' t7' t8' t9' => loopN (normAt 0 m21A true (m21c [true, false, true, true, true])) (fun K s => evC (m21E k) M (m21I k) 0 m21A (m21c [true, false, true, true, true]) s K) (m21K3 M k) k (m21S5 t0' t7' t8' t9')) k p0 := by kernel_rfl

noncomputable def m21X5 (X14 : List (List Int) → Option Int) (L5 : List (List Int) → List (List Int) → Int → Int → Option Int) (k : Nat) (t0 : List (List Int)) (t7 : List (List Int)) (t8 : Int) (t9 : Int) : Option Int := (if ltI t9 t8 = true then (if leI 0 t9 = true then (if ltI t9 (↑(List.length t7) : Int) = true then (if ltI 32768 (↑(List.length (List.getD t7 (Int.toNat t9) [])) : Int) = true then some (2) else L5 t0 t7 t8 (wr IntKind.i64 (t9 + 1))) else none) else none) else X14 t0)

theorem m21x5 (M : Cut Int) (k : Nat) (L5 : St → Option Int) (t0 : List (List Int)) (t7 : List (List Int)) (t8 : Int) (t9 : Int) : evC (m21E k) M (m21I k) 0 m21A (m21c [true, false, true, true, true]) (m21S5 t0 t7 t8 t9) (seqK (normAt 0 m21A true (m21c [true, false, true, true, true])) L5 (m21K3 M k)) = m21X5 (fun t0' => M 14 (fun s => evC (m21E k) M (m21I k) 0 m21A (m21c [true, true]) s (retK Try.prog Try.f21 [.leaf (.val (.int .i64))])) (m21S14 t0')) (fun t0' t7' t8' t9' => L5 (m21S5 t0' t7' t8' t9')) k t0 t7 t8 t9 := by kernel_rfl

noncomputable def m21X14 (X17 : List (List Int) → Int → Int → Option Int) (k : Nat) (t0 : List (List Int)) : Option Int := X17 t0 ((↑(List.length t0) : Int)) (0)

theorem m21x14 (M : Cut Int) (k : Nat) (t0 : List (List Int)) : evC (m21E k) M (m21I k) 0 m21A (m21c [true, true]) (m21S14 t0) (retK Try.prog Try.f21 [.leaf (.val (.int .i64))]) = m21X14 (fun t17' t18' t19' => loopN (normAt 0 m21A true (m21c [true, true, false, true, true, true])) (fun K s => evC (m21E k) M (m21I k) 0 m21A (m21c [true, true, false, true, true, true]) s K) (m21K14 M k) k (m21S17 t17' t18' t19')) k t0 := by kernel_rfl

noncomputable def m21X17 (L17 : List (List Int) → Int → Int → Option Int) (k : Nat) (t17 : List (List Int)) (t18 : Int) (t19 : Int) : Option Int := (if ltI t19 t18 = true then (if leI 0 t19 = true then (if ltI t19 (↑(List.length t17) : Int) = true then (Option.bind (m27F k (List.getD t17 (Int.toNat t19) []) PUnit.unit) fun (c6 : Bool) => (if c6 = true then some (1) else L17 t17 t18 (wr IntKind.i64 (t19 + 1)))) else none) else none) else some (0))

theorem m21x17 (M : Cut Int) (k : Nat) (L17 : St → Option Int) (t17 : List (List Int)) (t18 : Int) (t19 : Int) : evC (m21E k) M (m21I k) 0 m21A (m21c [true, true, false, true, true, true]) (m21S17 t17 t18 t19) (seqK (normAt 0 m21A true (m21c [true, true, false, true, true, true])) L17 (m21K14 M k)) = m21X17 (fun t17' t18' t19' => L17 (m21S17 t17' t18' t19')) k t17 t18 t19 := by kernel_rfl

noncomputable def m21F17 (k : Nat) : Nat → List (List Int) → Int → Int → Option Int
  | 0, _, _, _ => none
  | j + 1, t17, t18, t19 => m21X17 (m21F17 k j) k t17 t18 t19

theorem m21q17 (k : Nat) : ∀ (j : Nat) (t17 : List (List Int)) (t18 : Int) (t19 : Int), loopN (normAt 0 m21A true (m21c [true, true, false, true, true, true])) (fun K s => evC (m21E k) (fun _ f => f) (m21I k) 0 m21A (m21c [true, true, false, true, true, true]) s K) (m21K14 (fun _ f => f) k) j (m21S17 t17 t18 t19) = m21F17 k j t17 t18 t19
  | 0, _, _, _ => rfl
  | j + 1, t17, t18, t19 => by
    have e0 : m21F17 k j = (fun t17' t18' t19' => loopN (normAt 0 m21A true (m21c [true, true, false, true, true, true])) (fun K s => evC (m21E k) (fun _ f => f) (m21I k) 0 m21A (m21c [true, true, false, true, true, true]) s K) (m21K14 (fun _ f => f) k) j (m21S17 t17' t18' t19')) := funext fun t17' => funext fun t18' => funext fun t19' => (m21q17 k j t17' t18' t19').symm
    show _ = m21X17 (m21F17 k j) k t17 t18 t19
    rw [e0]
    exact m21x17 (fun _ f => f) k (loopN (normAt 0 m21A true (m21c [true, true, false, true, true, true])) (fun K s => evC (m21E k) (fun _ f => f) (m21I k) 0 m21A (m21c [true, true, false, true, true, true]) s K) (m21K14 (fun _ f => f) k) j) t17 t18 t19

noncomputable def m21F14 (k : Nat) (t0 : List (List Int)) : Option Int := m21X14 (m21F17 k k) k t0

theorem m21q14 (k : Nat) (t0 : List (List Int)) : evC (m21E k) (fun _ f => f) (m21I k) 0 m21A (m21c [true, true]) (m21S14 t0) (retK Try.prog Try.f21 [.leaf (.val (.int .i64))]) = m21F14 k t0 := by
    have e17 : m21F17 k k = (fun t17' t18' t19' => loopN (normAt 0 m21A true (m21c [true, true, false, true, true, true])) (fun K s => evC (m21E k) (fun _ f => f) (m21I k) 0 m21A (m21c [true, true, false, true, true, true]) s K) (m21K14 (fun _ f => f) k) k (m21S17 t17' t18' t19')) := funext fun t17' => funext fun t18' => funext fun t19' => (m21q17 k k t17' t18' t19').symm
    show _ = m21X14 (m21F17 k k) k t0
    rw [e17]
    exact m21x14 (fun _ f => f) k t0

noncomputable def m21F5 (k : Nat) : Nat → List (List Int) → List (List Int) → Int → Int → Option Int
  | 0, _, _, _, _ => none
  | j + 1, t0, t7, t8, t9 => m21X5 (m21F14 k) (m21F5 k j) k t0 t7 t8 t9

theorem m21q5 (k : Nat) : ∀ (j : Nat) (t0 : List (List Int)) (t7 : List (List Int)) (t8 : Int) (t9 : Int), loopN (normAt 0 m21A true (m21c [true, false, true, true, true])) (fun K s => evC (m21E k) (fun _ f => f) (m21I k) 0 m21A (m21c [true, false, true, true, true]) s K) (m21K3 (fun _ f => f) k) j (m21S5 t0 t7 t8 t9) = m21F5 k j t0 t7 t8 t9
  | 0, _, _, _, _ => rfl
  | j + 1, t0, t7, t8, t9 => by
    have e0 : m21F5 k j = (fun t0' t7' t8' t9' => loopN (normAt 0 m21A true (m21c [true, false, true, true, true])) (fun K s => evC (m21E k) (fun _ f => f) (m21I k) 0 m21A (m21c [true, false, true, true, true]) s K) (m21K3 (fun _ f => f) k) j (m21S5 t0' t7' t8' t9')) := funext fun t0' => funext fun t7' => funext fun t8' => funext fun t9' => (m21q5 k j t0' t7' t8' t9').symm
    have e14 : m21F14 k = (fun t0' => evC (m21E k) (fun _ f => f) (m21I k) 0 m21A (m21c [true, true]) (m21S14 t0') (retK Try.prog Try.f21 [.leaf (.val (.int .i64))])) := funext fun t0' => (m21q14 k t0').symm
    show _ = m21X5 (m21F14 k) (m21F5 k j) k t0 t7 t8 t9
    rw [e0, e14]
    exact m21x5 (fun _ f => f) k (loopN (normAt 0 m21A true (m21c [true, false, true, true, true])) (fun K s => evC (m21E k) (fun _ f => f) (m21I k) 0 m21A (m21c [true, false, true, true, true]) s K) (m21K3 (fun _ f => f) k) j) t0 t7 t8 t9

noncomputable def m21F (k : Nat) (p0 : (List (List Int))) : Option Int := m21X (m21F5 k k) k p0

theorem m21q (k : Nat) (p0 : (List (List Int))) : evC (m21E k) (fun _ f => f) (m21I k) 0 m21A (m21c []) (stAt Try.f21 (argSs [.leaf (.val (.row (.row (.int .i64))))] p0) (fun _ => none) 0) (retK Try.prog Try.f21 [.leaf (.val (.int .i64))]) = m21F k p0 := by
    have e5 : m21F5 k k = (fun t0' t7' t8' t9' => loopN (normAt 0 m21A true (m21c [true, false, true, true, true])) (fun K s => evC (m21E k) (fun _ f => f) (m21I k) 0 m21A (m21c [true, false, true, true, true]) s K) (m21K3 (fun _ f => f) k) k (m21S5 t0' t7' t8' t9')) := funext fun t0' => funext fun t7' => funext fun t8' => funext fun t9' => (m21q5 k k t0' t7' t8' t9').symm
    show _ = m21X (m21F5 k k) k p0
    rw [e5]
    exact m21x (fun _ f => f) k p0

noncomputable def m21sp : Spec := { ps := [.leaf (.val (.row (.row (.int .i64))))], rs := [.leaf (.val (.int .i64))], f := fun k a => m21F k a }

theorem m21ok (k : Nat) : EnvOk (m21E k) := envOk_of (l := [(27, m27sp), (28, m28sp)]) (lB := []) progNames progMixed rfl rfl (.cons ⟨m27con k, Try.f27, by kernel_rfl, by kernel_rfl⟩ (.cons ⟨m28con k, Try.f28, by kernel_rfl, by kernel_rfl⟩ (.nil))) (.nil)

theorem m21con (k : Nat) : Contract Try.prog k 21 m21sp := contract_of (E := m21E k) (m21ok k) (A := only 21 m21A) (d := 3) (c := m21c []) (by kernel_rfl) (by kernel_rfl) fun a _ h => (m21q k a).trans h

noncomputable def m22A : Anns := tabA []
noncomputable def m22E (k : Nat) : Env := { P := Try.prog, k := k, G := tabG [], GB := tabGB [] }
noncomputable def m22c (p : List Bool) : Code := sub p (bodyOf Try.f22)
noncomputable def m22I (k : Nat) : Inl (List Int) := inlOf (m22E k) (only 22 m22A) 3
noncomputable def m22K0 (M : Cut (List Int)) (k : Nat) : Exit → St → Option (List Int) := seqK (normAt 0 m22A false (m22c [true])) (cutK M m22A (m22c [true]) fun s => evC (m22E k) M (m22I k) 0 m22A (m22c [true]) s (retK Try.prog Try.f22 [.leaf (.own (.int .i64) 3)])) (retK Try.prog Try.f22 [.leaf (.own (.int .i64) 3)])
noncomputable def m22K1 (M : Cut (List Int)) (k : Nat) : Exit → St → Option (List Int) := seqK (normAt 0 m22A false (m22c [true, true])) (cutK M m22A (m22c [true, true]) fun s => evC (m22E k) M (m22I k) 0 m22A (m22c [true, true]) s (retK Try.prog Try.f22 [.leaf (.own (.int .i64) 3)])) (retK Try.prog Try.f22 [.leaf (.own (.int .i64) 3)])
noncomputable def m22K2 (M : Cut (List Int)) (k : Nat) : Exit → St → Option (List Int) := seqK (normAt 0 m22A false (m22c [true, false, true])) (cutK M m22A (m22c [true, false, true]) fun s => evC (m22E k) M (m22I k) 0 m22A (m22c [true, false, true]) s (m22K1 M k)) (m22K1 M k)
noncomputable def m22K3 (M : Cut (List Int)) (k : Nat) : Exit → St → Option (List Int) := seqK (normAt 0 m22A false (m22c [true, false, true, false, true])) (cutK M m22A (m22c [true, false, true, false, true]) fun s => evC (m22E k) M (m22I k) 0 m22A (m22c [true, false, true, false, true]) s (m22K1 M k)) (m22K1 M k)
noncomputable def m22K4 (M : Cut (List Int)) (k : Nat) : Exit → St → Option (List Int) := seqK (normAt 0 m22A false (m22c [true, true, true])) (cutK M m22A (m22c [true, true, true]) fun s => evC (m22E k) M (m22I k) 0 m22A (m22c [true, true, true]) s (retK Try.prog Try.f22 [.leaf (.own (.int .i64) 3)])) (retK Try.prog Try.f22 [.leaf (.own (.int .i64) 3)])

noncomputable def m22X (k : Nat) (p0 : (List Int)) : Option (List Int) := (nilK (List.isEmpty p0) (some ([])) ((if leI (↑((0 + List.length p0) * 8) : Int) 140737488355328 = true then some (List.replicate 0 0 ++ p0) else none)))

theorem m22x (M : Cut (List Int)) (k : Nat) (p0 : (List Int)) : evC (m22E k) M (m22I k) 0 m22A (m22c []) (stAt Try.f22 (argSs [.leaf (.val (.row (.int .i64)))] p0) (fun _ => none) 0) (retK Try.prog Try.f22 [.leaf (.own (.int .i64) 3)]) = m22X k p0 := by kernel_rfl

noncomputable def m22F (k : Nat) (p0 : (List Int)) : Option (List Int) := m22X k p0

theorem m22q (k : Nat) (p0 : (List Int)) : evC (m22E k) (fun _ f => f) (m22I k) 0 m22A (m22c []) (stAt Try.f22 (argSs [.leaf (.val (.row (.int .i64)))] p0) (fun _ => none) 0) (retK Try.prog Try.f22 [.leaf (.own (.int .i64) 3)]) = m22F k p0 := by
    show _ = m22X k p0
    exact m22x (fun _ f => f) k p0

noncomputable def m22sp : Spec := { ps := [.leaf (.val (.row (.int .i64)))], rs := [.leaf (.own (.int .i64) 3)], f := fun k a => m22F k a }

theorem m22ok (k : Nat) : EnvOk (m22E k) := envOk_of (l := []) (lB := []) progNames progMixed rfl rfl (.nil) (.nil)

theorem m22con (k : Nat) : Contract Try.prog k 22 m22sp := contract_of (E := m22E k) (m22ok k) (A := only 22 m22A) (d := 3) (c := m22c []) (by kernel_rfl) (by kernel_rfl) fun a _ h => (m22q k a).trans h

noncomputable def m23A : Anns := tabA [(5, { keep := [4, 14, 15, 16] })]
noncomputable def m23E (k : Nat) : Env := { P := Try.prog, k := k, G := tabG [], GB := tabGB [] }
noncomputable def m23c (p : List Bool) : Code := sub p (bodyOf Try.f23)
noncomputable def m23I (k : Nat) : Inl (List Int) := inlOf (m23E k) (only 23 m23A) 3
noncomputable def m23K0 (M : Cut (List Int)) (k : Nat) : Exit → St → Option (List Int) := seqK (normAt 1 m23A false (m23c [true])) (cutK M m23A (m23c [true]) fun s => evC (m23E k) M (m23I k) 1 m23A (m23c [true]) s (retB Try.prog Try.f23 (.int .i64) 3)) (retB Try.prog Try.f23 (.int .i64) 3)
noncomputable def m23K1 (M : Cut (List Int)) (k : Nat) : Exit → St → Option (List Int) := seqK (normAt 1 m23A false (m23c [true, true])) (cutK M m23A (m23c [true, true]) fun s => evC (m23E k) M (m23I k) 1 m23A (m23c [true, true]) s (retB Try.prog Try.f23 (.int .i64) 3)) (retB Try.prog Try.f23 (.int .i64) 3)
noncomputable def m23K2 (M : Cut (List Int)) (k : Nat) : Exit → St → Option (List Int) := blockK 0 (retB Try.prog Try.f23 (.int .i64) 3)
noncomputable def m23K3 (M : Cut (List Int)) (k : Nat) (L5 : St → Option (List Int)) : Exit → St → Option (List Int) := seqK (normAt 1 m23A true (m23c [true, true, true, true])) L5 (m23K2 M k)
noncomputable def m23K4 (M : Cut (List Int)) (k : Nat) (L5 : St → Option (List Int)) : Exit → St → Option (List Int) := seqK (normAt 1 m23A false (m23c [true, true, true, true, true])) (cutK M m23A (m23c [true, true, true, true, true]) fun s => evC (m23E k) M (m23I k) 1 m23A (m23c [true, true, true, true, true]) s (m23K3 M k L5)) (m23K3 M k L5)
noncomputable def m23K5 (M : Cut (List Int)) (k : Nat) (L5 : St → Option (List Int)) : Exit → St → Option (List Int) := seqK (normAt 1 m23A false (m23c [true, true, true, true, true, true])) (cutK M m23A (m23c [true, true, true, true, true, true]) fun s => evC (m23E k) M (m23I k) 1 m23A (m23c [true, true, true, true, true, true]) s (m23K3 M k L5)) (m23K3 M k L5)
noncomputable def m23K6 (M : Cut (List Int)) (k : Nat) (L5 : St → Option (List Int)) : Exit → St → Option (List Int) := seqK (normAt 1 m23A false (m23c [true, true, true, true, true, true, true])) (cutK M m23A (m23c [true, true, true, true, true, true, true]) fun s => evC (m23E k) M (m23I k) 1 m23A (m23c [true, true, true, true, true, true, true]) s (m23K3 M k L5)) (m23K3 M k L5)
noncomputable def m23K7 (M : Cut (List Int)) (k : Nat) (L5 : St → Option (List Int)) : Exit → St → Option (List Int) := blockK 1 (m23K6 M k L5)
noncomputable def m23K8 (M : Cut (List Int)) (k : Nat) (L5 : St → Option (List Int)) : Exit → St → Option (List Int) := seqK (normAt 1 m23A false (m23c [true, true, true, true, true, true, false, true, true])) (cutK M m23A (m23c [true, true, true, true, true, true, false, true, true]) fun s => evC (m23E k) M (m23I k) 1 m23A (m23c [true, true, true, true, true, true, false, true, true]) s (m23K7 M k L5)) (m23K7 M k L5)
noncomputable def m23S5 (t4o : Nat) (t4n : Nat) (t14 : List Int) (t15 : Int) (t16 : Int) (b0 : List Int) : St := { n := 29, tm := slots [(4, .sl 0 t4o t4n), (14, .row (.int .i64) t14), (15, .int .i64 t15), (16, .int .i64 t16)], tab := blks [some (.row false (.int .i64) 3 b0)], nx := 1 }

noncomputable def m23X (X5 : Nat → Nat → List Int → Int → Int → List Int → Option (List Int)) (k : Nat) (b0 : (List Int)) (o0 : Nat) (n0 : Nat) (p1 : (List Int)) : Option (List Int) := (if leI 0 (wr IntKind.i64 ((↑n0 : Int) - (↑(List.length p1) : Int))) = true then (if leI (wr IntKind.i64 ((↑n0 : Int) - (↑(List.length p1) : Int))) (↑n0 : Int) = true then X5 (Int.toNat (wr IntKind.i64 ((↑n0 : Int) - (↑(List.length p1) : Int))) + o0) (n0 - Int.toNat (wr IntKind.i64 ((↑n0 : Int) - (↑(List.length p1) : Int)))) p1 ((↑(List.length p1) : Int)) (0) b0 else none) else none)

theorem m23x (M : Cut (List Int)) (k : Nat) (b0 : (List Int)) (o0 : Nat) (n0 : Nat) (p1 : (List Int)) : evC (m23E k) M (m23I k) 1 m23A (m23c []) (stAt Try.f23 (.sl 0 o0 n0 :: argSs [.leaf (.val (.row (.int .i64)))] p1) (tabB (.int .i64) 3 b0) 1) (retB Try.prog Try.f23 (.int .i64) 3) = m23X (fun t4o' t4n' t14' t15' t16' b0' => loopN (normAt 1 m23A true (m23c [true, true, true, true])) (fun K s => evC (m23E k) M (m23I k) 1 m23A (m23c [true, true, true, true]) s K) (m23K2 M k) k (m23S5 t4o' t4n' t14' t15' t16' b0')) k b0 o0 n0 p1 := by kernel_rfl

noncomputable def m23X5 (L5 : Nat → Nat → List Int → Int → Int → List Int → Option (List Int)) (k : Nat) (t4o : Nat) (t4n : Nat) (t14 : List Int) (t15 : Int) (t16 : Int) (b0 : List Int) : Option (List Int) := (if ltI t16 t15 = true then (if leI 0 t16 = true then (if ltI t16 (↑(List.length t14) : Int) = true then (if leI 0 t16 = true then (if ltI t16 (↑t4n : Int) = true then (if leI 0 t16 = true then (if ltI t16 (↑t4n : Int) = true then L5 t4o t4n t14 t15 (wr IntKind.i64 (t16 + 1)) (List.set b0 (Int.toNat t16 + t4o)
  (bits BinOp.xor IntKind.i64 (List.getD b0 (Int.toNat t16 + t4o) 0) (List.getD t14 (Int.toNat t16) 0))) else none) else none) else none) else none) else none) else none) else some b0)

theorem m23x5 (M : Cut (List Int)) (k : Nat) (L5 : St → Option (List Int)) (t4o : Nat) (t4n : Nat) (t14 : List Int) (t15 : Int) (t16 : Int) (b0 : List Int) : evC (m23E k) M (m23I k) 1 m23A (m23c [true, true, true, true]) (m23S5 t4o t4n t14 t15 t16 b0) (seqK (normAt 1 m23A true (m23c [true, true, true, true])) L5 (m23K2 M k)) = m23X5 (fun t4o' t4n' t14' t15' t16' b0' => L5 (m23S5 t4o' t4n' t14' t15' t16' b0')) k t4o t4n t14 t15 t16 b0 := by kernel_rfl

noncomputable def m23F5 (k : Nat) : Nat → Nat → Nat → List Int → Int → Int → List Int → Option (List Int)
  | 0, _, _, _, _, _, _ => none
  | j + 1, t4o, t4n, t14, t15, t16, b0 => m23X5 (m23F5 k j) k t4o t4n t14 t15 t16 b0

theorem m23q5 (k : Nat) : ∀ (j : Nat) (t4o : Nat) (t4n : Nat) (t14 : List Int) (t15 : Int) (t16 : Int) (b0 : List Int), loopN (normAt 1 m23A true (m23c [true, true, true, true])) (fun K s => evC (m23E k) (fun _ f => f) (m23I k) 1 m23A (m23c [true, true, true, true]) s K) (m23K2 (fun _ f => f) k) j (m23S5 t4o t4n t14 t15 t16 b0) = m23F5 k j t4o t4n t14 t15 t16 b0
  | 0, _, _, _, _, _, _ => rfl
  | j + 1, t4o, t4n, t14, t15, t16, b0 => by
    have e0 : m23F5 k j = (fun t4o' t4n' t14' t15' t16' b0' => loopN (normAt 1 m23A true (m23c [true, true, true, true])) (fun K s => evC (m23E k) (fun _ f => f) (m23I k) 1 m23A (m23c [true, true, true, true]) s K) (m23K2 (fun _ f => f) k) j (m23S5 t4o' t4n' t14' t15' t16' b0')) := funext fun t4o' => funext fun t4n' => funext fun t14' => funext fun t15' => funext fun t16' => funext fun b0' => (m23q5 k j t4o' t4n' t14' t15' t16' b0').symm
    show _ = m23X5 (m23F5 k j) k t4o t4n t14 t15 t16 b0
    rw [e0]
    exact m23x5 (fun _ f => f) k (loopN (normAt 1 m23A true (m23c [true, true, true, true])) (fun K s => evC (m23E k) (fun _ f => f) (m23I k) 1 m23A (m23c [true, true, true, true]) s K) (m23K2 (fun _ f => f) k) j) t4o t4n t14 t15 t16 b0

noncomputable def m23F (k : Nat) (b0 : (List Int)) (o0 : Nat) (n0 : Nat) (p1 : (List Int)) : Option (List Int) := m23X (m23F5 k k) k b0 o0 n0 p1

theorem m23q (k : Nat) (b0 : (List Int)) (o0 : Nat) (n0 : Nat) (p1 : (List Int)) : evC (m23E k) (fun _ f => f) (m23I k) 1 m23A (m23c []) (stAt Try.f23 (.sl 0 o0 n0 :: argSs [.leaf (.val (.row (.int .i64)))] p1) (tabB (.int .i64) 3 b0) 1) (retB Try.prog Try.f23 (.int .i64) 3) = m23F k b0 o0 n0 p1 := by
    have e5 : m23F5 k k = (fun t4o' t4n' t14' t15' t16' b0' => loopN (normAt 1 m23A true (m23c [true, true, true, true])) (fun K s => evC (m23E k) (fun _ f => f) (m23I k) 1 m23A (m23c [true, true, true, true]) s K) (m23K2 (fun _ f => f) k) k (m23S5 t4o' t4n' t14' t15' t16' b0')) := funext fun t4o' => funext fun t4n' => funext fun t14' => funext fun t15' => funext fun t16' => funext fun b0' => (m23q5 k k t4o' t4n' t14' t15' t16' b0').symm
    show _ = m23X (m23F5 k k) k b0 o0 n0 p1
    rw [e5]
    exact m23x (fun _ f => f) k b0 o0 n0 p1

noncomputable def m23sp : BSpec := { k := (.int .i64), T := 3, ps := [.leaf (.val (.row (.int .i64)))], f := fun k xs off len a => m23F k xs off len a }

theorem m23ok (k : Nat) : EnvOk (m23E k) := envOk_of (l := []) (lB := []) progNames progMixed rfl rfl (.nil) (.nil)

theorem m23con (k : Nat) : ContractB Try.prog k 23 m23sp := contractB_of (E := m23E k) (m23ok k) (A := only 23 m23A) (d := 3) (c := m23c []) (by kernel_rfl) (by kernel_rfl) fun xs off len a _ h => (m23q k xs off len a).trans h

noncomputable def m29A : Anns := tabA [(5, { keep := [0, 1, 7, 8] })]
noncomputable def m29E (k : Nat) : Env := { P := Try.prog, k := k, G := tabG [], GB := tabGB [] }
noncomputable def m29c (p : List Bool) : Code := sub p (bodyOf Try.f29)
noncomputable def m29I (k : Nat) : Inl Int := inlOf (m29E k) (only 29 m29A) 3
noncomputable def m29K0 (M : Cut Int) (k : Nat) : Exit → St → Option Int := seqK (normAt 0 m29A false (m29c [true])) (cutK M m29A (m29c [true]) fun s => evC (m29E k) M (m29I k) 0 m29A (m29c [true]) s (retK Try.prog Try.f29 [.leaf (.val (.int .i64))])) (retK Try.prog Try.f29 [.leaf (.val (.int .i64))])
noncomputable def m29K1 (M : Cut Int) (k : Nat) : Exit → St → Option Int := seqK (normAt 0 m29A false (m29c [true, true])) (cutK M m29A (m29c [true, true]) fun s => evC (m29E k) M (m29I k) 0 m29A (m29c [true, true]) s (retK Try.prog Try.f29 [.leaf (.val (.int .i64))])) (retK Try.prog Try.f29 [.leaf (.val (.int .i64))])
noncomputable def m29K2 (M : Cut Int) (k : Nat) : Exit → St → Option Int := seqK (normAt 0 m29A false (m29c [true, false, true])) (cutK M m29A (m29c [true, false, true]) fun s => evC (m29E k) M (m29I k) 0 m29A (m29c [true, false, true]) s (m29K1 M k)) (m29K1 M k)
noncomputable def m29K3 (M : Cut Int) (k : Nat) : Exit → St → Option Int := blockK 0 (m29K1 M k)
noncomputable def m29K4 (M : Cut Int) (k : Nat) (L5 : St → Option Int) : Exit → St → Option Int := seqK (normAt 0 m29A true (m29c [true, false, true, true, true])) L5 (m29K3 M k)
noncomputable def m29K5 (M : Cut Int) (k : Nat) (L5 : St → Option Int) : Exit → St → Option Int := seqK (normAt 0 m29A false (m29c [true, false, true, true, true, true])) (cutK M m29A (m29c [true, false, true, true, true, true]) fun s => evC (m29E k) M (m29I k) 0 m29A (m29c [true, false, true, true, true, true]) s (m29K4 M k L5)) (m29K4 M k L5)
noncomputable def m29K6 (M : Cut Int) (k : Nat) (L5 : St → Option Int) : Exit → St → Option Int := seqK (normAt 0 m29A false (m29c [true, false, true, true, true, true, true])) (cutK M m29A (m29c [true, false, true, true, true, true, true]) fun s => evC (m29E k) M (m29I k) 0 m29A (m29c [true, false, true, true, true, true, true]) s (m29K4 M k L5)) (m29K4 M k L5)
noncomputable def m29K7 (M : Cut Int) (k : Nat) (L5 : St → Option Int) : Exit → St → Option Int := seqK (normAt 0 m29A false (m29c [true, false, true, true, true, true, true, true])) (cutK M m29A (m29c [true, false, true, true, true, true, true, true]) fun s => evC (m29E k) M (m29I k) 0 m29A (m29c [true, false, true, true, true, true, true, true]) s (m29K4 M k L5)) (m29K4 M k L5)
noncomputable def m29K8 (M : Cut Int) (k : Nat) (L5 : St → Option Int) : Exit → St → Option Int := blockK 1 (m29K7 M k L5)
noncomputable def m29K9 (M : Cut Int) (k : Nat) (L5 : St → Option Int) : Exit → St → Option Int := seqK (normAt 0 m29A false (m29c [true, false, true, true, true, true, true, false, true, true])) (cutK M m29A (m29c [true, false, true, true, true, true, true, false, true, true]) fun s => evC (m29E k) M (m29I k) 0 m29A (m29c [true, false, true, true, true, true, true, false, true, true]) s (m29K8 M k L5)) (m29K8 M k L5)
noncomputable def m29K10 (M : Cut Int) (k : Nat) (L5 : St → Option Int) : Exit → St → Option Int := seqK (normAt 0 m29A false (m29c [true, false, true, true, true, true, true, false, true, true, true])) (cutK M m29A (m29c [true, false, true, true, true, true, true, false, true, true, true]) fun s => evC (m29E k) M (m29I k) 0 m29A (m29c [true, false, true, true, true, true, true, false, true, true, true]) s (m29K8 M k L5)) (m29K8 M k L5)
noncomputable def m29K11 (M : Cut Int) (k : Nat) (L5 : St → Option Int) : Exit → St → Option Int := seqK (normAt 0 m29A false (m29c [true, false, true, true, true, true, true, false, true, true, true, false, true])) (cutK M m29A (m29c [true, false, true, true, true, true, true, false, true, true, true, false, true]) fun s => evC (m29E k) M (m29I k) 0 m29A (m29c [true, false, true, true, true, true, true, false, true, true, true, false, true]) s (m29K8 M k L5)) (m29K8 M k L5)
noncomputable def m29K12 (M : Cut Int) (k : Nat) : Exit → St → Option Int := seqK (normAt 0 m29A false (m29c [true, true, true])) (cutK M m29A (m29c [true, true, true]) fun s => evC (m29E k) M (m29I k) 0 m29A (m29c [true, true, true]) s (retK Try.prog Try.f29 [.leaf (.val (.int .i64))])) (retK Try.prog Try.f29 [.leaf (.val (.int .i64))])
noncomputable def m29S5 (t0 : List Int) (t1 : Int) (t7 : Int) (t8 : Int) : St := { n := 19, tm := slots [(0, .row (.int .i64) t0), (1, .int .i64 t1), (7, .int .i64 t7), (8, .int .i64 t8)], tab := blks [], nx := 0 }

noncomputable def m29X (X5 : List Int → Int → Int → Int → Option Int) (k : Nat) (p0 : (List Int)) (p1 : Int) : Option Int := X5 p0 p1 ((↑(List.length p0) : Int)) (0)

theorem m29x (M : Cut Int) (k : Nat) (p0 : (List Int)) (p1 : Int) : evC (m29E k) M (m29I k) 0 m29A (m29c []) (stAt Try.f29 (argSs [.leaf (.val (.row (.int .i64))), .leaf (.val (.int .i64))] (p0, p1)) (fun _ => none) 0) (retK Try.prog Try.f29 [.leaf (.val (.int .i64))]) = m29X (fun t0' t1' t7' t8' => loopN (normAt 0 m29A true (m29c [true, false, true, true, true])) (fun K s => evC (m29E k) M (m29I k) 0 m29A (m29c [true, false, true, true, true]) s K) (m29K3 M k) k (m29S5 t0' t1' t7' t8')) k p0 p1 := by kernel_rfl

noncomputable def m29X5 (L5 : List Int → Int → Int → Int → Option Int) (k : Nat) (t0 : List Int) (t1 : Int) (t7 : Int) (t8 : Int) : Option Int := (if ltI t8 t7 = true then (if leI 0 t8 = true then (if ltI t8 (↑(List.length t0) : Int) = true then (if eqI t1 (List.getD t0 (Int.toNat t8) 0) = true then some t8 else L5 t0 t1 t7 (wr IntKind.i64 (t8 + 1))) else none) else none) else some (-1))

theorem m29x5 (M : Cut Int) (k : Nat) (L5 : St → Option Int) (t0 : List Int) (t1 : Int) (t7 : Int) (t8 : Int) : evC (m29E k) M (m29I k) 0 m29A (m29c [true, false, true, true, true]) (m29S5 t0 t1 t7 t8) (seqK (normAt 0 m29A true (m29c [true, false, true, true, true])) L5 (m29K3 M k)) = m29X5 (fun t0' t1' t7' t8' => L5 (m29S5 t0' t1' t7' t8')) k t0 t1 t7 t8 := by kernel_rfl

noncomputable def m29F5 (k : Nat) : Nat → List Int → Int → Int → Int → Option Int
  | 0, _, _, _, _ => none
  | j + 1, t0, t1, t7, t8 => m29X5 (m29F5 k j) k t0 t1 t7 t8

theorem m29q5 (k : Nat) : ∀ (j : Nat) (t0 : List Int) (t1 : Int) (t7 : Int) (t8 : Int), loopN (normAt 0 m29A true (m29c [true, false, true, true, true])) (fun K s => evC (m29E k) (fun _ f => f) (m29I k) 0 m29A (m29c [true, false, true, true, true]) s K) (m29K3 (fun _ f => f) k) j (m29S5 t0 t1 t7 t8) = m29F5 k j t0 t1 t7 t8
  | 0, _, _, _, _ => rfl
  | j + 1, t0, t1, t7, t8 => by
    have e0 : m29F5 k j = (fun t0' t1' t7' t8' => loopN (normAt 0 m29A true (m29c [true, false, true, true, true])) (fun K s => evC (m29E k) (fun _ f => f) (m29I k) 0 m29A (m29c [true, false, true, true, true]) s K) (m29K3 (fun _ f => f) k) j (m29S5 t0' t1' t7' t8')) := funext fun t0' => funext fun t1' => funext fun t7' => funext fun t8' => (m29q5 k j t0' t1' t7' t8').symm
    show _ = m29X5 (m29F5 k j) k t0 t1 t7 t8
    rw [e0]
    exact m29x5 (fun _ f => f) k (loopN (normAt 0 m29A true (m29c [true, false, true, true, true])) (fun K s => evC (m29E k) (fun _ f => f) (m29I k) 0 m29A (m29c [true, false, true, true, true]) s K) (m29K3 (fun _ f => f) k) j) t0 t1 t7 t8

noncomputable def m29F (k : Nat) (p0 : (List Int)) (p1 : Int) : Option Int := m29X (m29F5 k k) k p0 p1

theorem m29q (k : Nat) (p0 : (List Int)) (p1 : Int) : evC (m29E k) (fun _ f => f) (m29I k) 0 m29A (m29c []) (stAt Try.f29 (argSs [.leaf (.val (.row (.int .i64))), .leaf (.val (.int .i64))] (p0, p1)) (fun _ => none) 0) (retK Try.prog Try.f29 [.leaf (.val (.int .i64))]) = m29F k p0 p1 := by
    have e5 : m29F5 k k = (fun t0' t1' t7' t8' => loopN (normAt 0 m29A true (m29c [true, false, true, true, true])) (fun K s => evC (m29E k) (fun _ f => f) (m29I k) 0 m29A (m29c [true, false, true, true, true]) s K) (m29K3 (fun _ f => f) k) k (m29S5 t0' t1' t7' t8')) := funext fun t0' => funext fun t1' => funext fun t7' => funext fun t8' => (m29q5 k k t0' t1' t7' t8').symm
    show _ = m29X (m29F5 k k) k p0 p1
    rw [e5]
    exact m29x (fun _ f => f) k p0 p1

noncomputable def m29sp : Spec := { ps := [.leaf (.val (.row (.int .i64))), .leaf (.val (.int .i64))], rs := [.leaf (.val (.int .i64))], f := fun k a => m29F k a.1 a.2 }

theorem m29ok (k : Nat) : EnvOk (m29E k) := envOk_of (l := []) (lB := []) progNames progMixed rfl rfl (.nil) (.nil)

theorem m29con (k : Nat) : Contract Try.prog k 29 m29sp := contract_of (E := m29E k) (m29ok k) (A := only 29 m29A) (d := 3) (c := m29c []) (by kernel_rfl) (by kernel_rfl) fun a _ h => (m29q k a.1 a.2).trans h

noncomputable def m24A : Anns := tabA []
noncomputable def m24E (k : Nat) : Env := { P := Try.prog, k := k, G := tabG [(22, m22sp), (29, m29sp)], GB := tabGB [] }
noncomputable def m24c (p : List Bool) : Code := sub p (bodyOf Try.f24)
noncomputable def m24I (k : Nat) : Inl (List Int) := inlOf (m24E k) (only 24 m24A) 3
noncomputable def m24K0 (M : Cut (List Int)) (k : Nat) : Exit → St → Option (List Int) := seqK (normAt 0 m24A false (m24c [true])) (cutK M m24A (m24c [true]) fun s => evC (m24E k) M (m24I k) 0 m24A (m24c [true]) s (retK Try.prog Try.f24 [.leaf (.own (.int .i64) 3)])) (retK Try.prog Try.f24 [.leaf (.own (.int .i64) 3)])
noncomputable def m24K1 (M : Cut (List Int)) (k : Nat) : Exit → St → Option (List Int) := seqK (normAt 0 m24A false (m24c [true, true])) (cutK M m24A (m24c [true, true]) fun s => evC (m24E k) M (m24I k) 0 m24A (m24c [true, true]) s (retK Try.prog Try.f24 [.leaf (.own (.int .i64) 3)])) (retK Try.prog Try.f24 [.leaf (.own (.int .i64) 3)])
noncomputable def m24K2 (M : Cut (List Int)) (k : Nat) : Exit → St → Option (List Int) := seqK (normAt 0 m24A false (m24c [true, true, true])) (cutK M m24A (m24c [true, true, true]) fun s => evC (m24E k) M (m24I k) 0 m24A (m24c [true, true, true]) s (retK Try.prog Try.f24 [.leaf (.own (.int .i64) 3)])) (retK Try.prog Try.f24 [.leaf (.own (.int .i64) 3)])
noncomputable def m24K3 (M : Cut (List Int)) (k : Nat) : Exit → St → Option (List Int) := seqK (normAt 0 m24A false (m24c [true, true, false, true])) (cutK M m24A (m24c [true, true, false, true]) fun s => evC (m24E k) M (m24I k) 0 m24A (m24c [true, true, false, true]) s (m24K2 M k)) (m24K2 M k)
noncomputable def m24K4 (M : Cut (List Int)) (k : Nat) : Exit → St → Option (List Int) := seqK (normAt 0 m24A false (m24c [true, true, false, true, false, true])) (cutK M m24A (m24c [true, true, false, true, false, true]) fun s => evC (m24E k) M (m24I k) 0 m24A (m24c [true, true, false, true, false, true]) s (m24K2 M k)) (m24K2 M k)
noncomputable def m24K5 (M : Cut (List Int)) (k : Nat) : Exit → St → Option (List Int) := seqK (normAt 0 m24A false (m24c [true, true, true, true])) (cutK M m24A (m24c [true, true, true, true]) fun s => evC (m24E k) M (m24I k) 0 m24A (m24c [true, true, true, true]) s (retK Try.prog Try.f24 [.leaf (.own (.int .i64) 3)])) (retK Try.prog Try.f24 [.leaf (.own (.int .i64) 3)])

noncomputable def m24X (k : Nat) (p0 : (List Int)) : Option (List Int) := (Option.bind (m29F k p0 1) fun (c3 : Int) => (if ltI c3 0 = true then some ([]) else (if leI 0 c3 = true then (if leI c3 (↑(List.length p0) : Int) = true then (Option.bind (m22F k (List.drop (Int.toNat c3) p0)) fun (c4 : (List Int)) => some c4) else none) else none)))

theorem m24x (M : Cut (List Int)) (k : Nat) (p0 : (List Int)) : evC (m24E k) M (m24I k) 0 m24A (m24c []) (stAt Try.f24 (argSs [.leaf (.val (.row (.int .i64)))] p0) (fun _ => none) 0) (retK Try.prog Try.f24 [.leaf (.own (.int .i64) 3)]) = m24X k p0 := by kernel_rfl

noncomputable def m24F (k : Nat) (p0 : (List Int)) : Option (List Int) := m24X k p0

theorem m24q (k : Nat) (p0 : (List Int)) : evC (m24E k) (fun _ f => f) (m24I k) 0 m24A (m24c []) (stAt Try.f24 (argSs [.leaf (.val (.row (.int .i64)))] p0) (fun _ => none) 0) (retK Try.prog Try.f24 [.leaf (.own (.int .i64) 3)]) = m24F k p0 := by
    show _ = m24X k p0
    exact m24x (fun _ f => f) k p0

noncomputable def m24sp : Spec := { ps := [.leaf (.val (.row (.int .i64)))], rs := [.leaf (.own (.int .i64) 3)], f := fun k a => m24F k a }

theorem m24ok (k : Nat) : EnvOk (m24E k) := envOk_of (l := [(22, m22sp), (29, m29sp)]) (lB := []) progNames progMixed rfl rfl (.cons ⟨m22con k, Try.f22, by kernel_rfl, by kernel_rfl⟩ (.cons ⟨m29con k, Try.f29, by kernel_rfl, by kernel_rfl⟩ (.nil))) (.nil)

theorem m24con (k : Nat) : Contract Try.prog k 24 m24sp := contract_of (E := m24E k) (m24ok k) (A := only 24 m24A) (d := 3) (c := m24c []) (by kernel_rfl) (by kernel_rfl) fun a _ h => (m24q k a).trans h

noncomputable def m9A : Anns := tabA [(12, { keep := [0, 1] })]
noncomputable def m9E (k : Nat) : Env := { P := Try.prog, k := k, G := tabG [(21, m21sp), (22, m22sp), (24, m24sp)], GB := tabGB [(23, m23sp)] }
noncomputable def m9c (p : List Bool) : Code := sub p (bodyOf Try.f9)
noncomputable def m9I (k : Nat) : Inl ((List Int) × Int) := inlOf (m9E k) (only 9 m9A) 3
noncomputable def m9K0 (M : Cut ((List Int) × Int)) (k : Nat) : Exit → St → Option ((List Int) × Int) := seqK (normAt 0 m9A false (m9c [true])) (cutK M m9A (m9c [true]) fun s => evC (m9E k) M (m9I k) 0 m9A (m9c [true]) s (retK Try.prog Try.f9 [.leaf (.own (.int .i64) 3), .leaf (.val (.int .i64))])) (retK Try.prog Try.f9 [.leaf (.own (.int .i64) 3), .leaf (.val (.int .i64))])
noncomputable def m9K1 (M : Cut ((List Int) × Int)) (k : Nat) : Exit → St → Option ((List Int) × Int) := seqK (normAt 0 m9A false (m9c [true, true])) (cutK M m9A (m9c [true, true]) fun s => evC (m9E k) M (m9I k) 0 m9A (m9c [true, true]) s (retK Try.prog Try.f9 [.leaf (.own (.int .i64) 3), .leaf (.val (.int .i64))])) (retK Try.prog Try.f9 [.leaf (.own (.int .i64) 3), .leaf (.val (.int .i64))])
noncomputable def m9K2 (M : Cut ((List Int) × Int)) (k : Nat) : Exit → St → Option ((List Int) × Int) := seqK (normAt 0 m9A false (m9c [true, true, true])) (cutK M m9A (m9c [true, true, true]) fun s => evC (m9E k) M (m9I k) 0 m9A (m9c [true, true, true]) s (retK Try.prog Try.f9 [.leaf (.own (.int .i64) 3), .leaf (.val (.int .i64))])) (retK Try.prog Try.f9 [.leaf (.own (.int .i64) 3), .leaf (.val (.int .i64))])
noncomputable def m9K3 (M : Cut ((List Int) × Int)) (k : Nat) : Exit → St → Option ((List Int) × Int) := seqK (normAt 0 m9A false (m9c [true, true, false, true])) (cutK M m9A (m9c [true, true, false, true]) fun s => evC (m9E k) M (m9I k) 0 m9A (m9c [true, true, false, true]) s (m9K2 M k)) (m9K2 M k)
noncomputable def m9K4 (M : Cut ((List Int) × Int)) (k : Nat) : Exit → St → Option ((List Int) × Int) := seqK (normAt 0 m9A false (m9c [true, true, false, true, false, true])) (cutK M m9A (m9c [true, true, false, true, false, true]) fun s => evC (m9E k) M (m9I k) 0 m9A (m9c [true, true, false, true, false, true]) s (m9K2 M k)) (m9K2 M k)
noncomputable def m9K5 (M : Cut ((List Int) × Int)) (k : Nat) : Exit → St → Option ((List Int) × Int) := seqK (normAt 0 m9A false (m9c [true, true, true, true])) (cutK M m9A (m9c [true, true, true, true]) fun s => evC (m9E k) M (m9I k) 0 m9A (m9c [true, true, true, true]) s (retK Try.prog Try.f9 [.leaf (.own (.int .i64) 3), .leaf (.val (.int .i64))])) (retK Try.prog Try.f9 [.leaf (.own (.int .i64) 3), .leaf (.val (.int .i64))])
noncomputable def m9K6 (M : Cut ((List Int) × Int)) (k : Nat) : Exit → St → Option ((List Int) × Int) := seqK (normAt 0 m9A false (m9c [true, true, true, false, true])) (cutK M m9A (m9c [true, true, true, false, true]) fun s => evC (m9E k) M (m9I k) 0 m9A (m9c [true, true, true, false, true]) s (m9K5 M k)) (m9K5 M k)
noncomputable def m9K7 (M : Cut ((List Int) × Int)) (k : Nat) : Exit → St → Option ((List Int) × Int) := seqK (normAt 0 m9A false (m9c [true, true, true, true, true])) (cutK M m9A (m9c [true, true, true, true, true]) fun s => evC (m9E k) M (m9I k) 0 m9A (m9c [true, true, true, true, true]) s (retK Try.prog Try.f9 [.leaf (.own (.int .i64) 3), .leaf (.val (.int .i64))])) (retK Try.prog Try.f9 [.leaf (.own (.int .i64) 3), .leaf (.val (.int .i64))])
noncomputable def m9K8 (M : Cut ((List Int) × Int)) (k : Nat) : Exit → St → Option ((List Int) × Int) := seqK (normAt 0 m9A false (m9c [true, true, true, true, true, true])) (cutK M m9A (m9c [true, true, true, true, true, true]) fun s => evC (m9E k) M (m9I k) 0 m9A (m9c [true, true, true, true, true, true]) s (retK Try.prog Try.f9 [.leaf (.own (.int .i64) 3), .leaf (.val (.int .i64))])) (retK Try.prog Try.f9 [.leaf (.own (.int .i64) 3), .leaf (.val (.int .i64))])
noncomputable def m9K9 (M : Cut ((List Int) × Int)) (k : Nat) : Exit → St → Option ((List Int) × Int) := seqK (normAt 0 m9A false (m9c [true, true, true, true, true, true, true])) (cutK M m9A (m9c [true, true, true, true, true, true, true]) fun s => evC (m9E k) M (m9I k) 0 m9A (m9c [true, true, true, true, true, true, true]) s (retK Try.prog Try.f9 [.leaf (.own (.int .i64) 3), .leaf (.val (.int .i64))])) (retK Try.prog Try.f9 [.leaf (.own (.int .i64) 3), .leaf (.val (.int .i64))])
noncomputable def m9S12 (t0 : List Int) (t1 : List Int) : St := { n := 29, tm := slots [(0, .row (.int .i64) t0), (1, .row (.int .i64) t1)], tab := blks [], nx := 0 }

noncomputable def m9X (X12 : List Int → List Int → Option ((List Int) × Int)) (k : Nat) (p0 : (List Int)) (p1 : (List Int)) : Option ((List Int) × Int) := (Option.bind (m21F k (List.set (List.set (List.replicate 2 []) 0 p0) 1 p1)) fun (c4 : Int) => (if (!eqI c4 0) = true then some (([], c4)) else (if ltI (↑(List.length p0) : Int) (↑(List.length p1) : Int) = true then X12 p1 p0 else X12 p0 p1)))

theorem m9x (M : Cut ((List Int) × Int)) (k : Nat) (p0 : (List Int)) (p1 : (List Int)) : evC (m9E k) M (m9I k) 0 m9A (m9c []) (stAt Try.f9 (argSs [.leaf (.val (.row (.int .i64))), .leaf (.val (.row (.int .i64)))] (p0, p1)) (fun _ => none) 0) (retK Try.prog Try.f9 [.leaf (.own (.int .i64) 3), .leaf (.val (.int .i64))]) = m9X (fun t0' t1' => M 12 (fun s => evC (m9E k) M (m9I k) 0 m9A (m9c [true, true, true, true]) s (retK Try.prog Try.f9 [.leaf (.own (.int .i64) 3), .leaf (.val (.int .i64))])) (m9S12 t0' t1')) k p0 p1 := by kernel_rfl

noncomputable def m9X12 (k : Nat) (t0 : List Int) (t1 : List Int) : Option ((List Int) × Int) := (Option.bind (m22F k t0) fun (c4 : (List Int)) => (Option.bind (m23F k c4 0 (List.length c4) t1) fun (c5 : (List Int)) => (Option.bind (m24F k c5) fun (c6 : (List Int)) => some ((c6, 0)))))

theorem m9x12 (M : Cut ((List Int) × Int)) (k : Nat) (t0 : List Int) (t1 : List Int) : evC (m9E k) M (m9I k) 0 m9A (m9c [true, true, true, true]) (m9S12 t0 t1) (retK Try.prog Try.f9 [.leaf (.own (.int .i64) 3), .leaf (.val (.int .i64))]) = m9X12 k t0 t1 := by kernel_rfl

noncomputable def m9F12 (k : Nat) (t0 : List Int) (t1 : List Int) : Option ((List Int) × Int) := m9X12 k t0 t1

theorem m9q12 (k : Nat) (t0 : List Int) (t1 : List Int) : evC (m9E k) (fun _ f => f) (m9I k) 0 m9A (m9c [true, true, true, true]) (m9S12 t0 t1) (retK Try.prog Try.f9 [.leaf (.own (.int .i64) 3), .leaf (.val (.int .i64))]) = m9F12 k t0 t1 := by
    show _ = m9X12 k t0 t1
    exact m9x12 (fun _ f => f) k t0 t1

noncomputable def m9F (k : Nat) (p0 : (List Int)) (p1 : (List Int)) : Option ((List Int) × Int) := m9X (m9F12 k) k p0 p1

theorem m9q (k : Nat) (p0 : (List Int)) (p1 : (List Int)) : evC (m9E k) (fun _ f => f) (m9I k) 0 m9A (m9c []) (stAt Try.f9 (argSs [.leaf (.val (.row (.int .i64))), .leaf (.val (.row (.int .i64)))] (p0, p1)) (fun _ => none) 0) (retK Try.prog Try.f9 [.leaf (.own (.int .i64) 3), .leaf (.val (.int .i64))]) = m9F k p0 p1 := by
    have e12 : m9F12 k = (fun t0' t1' => evC (m9E k) (fun _ f => f) (m9I k) 0 m9A (m9c [true, true, true, true]) (m9S12 t0' t1') (retK Try.prog Try.f9 [.leaf (.own (.int .i64) 3), .leaf (.val (.int .i64))])) := funext fun t0' => funext fun t1' => (m9q12 k t0' t1').symm
    show _ = m9X (m9F12 k) k p0 p1
    rw [e12]
    exact m9x (fun _ f => f) k p0 p1

noncomputable def m9sp : Spec := { ps := [.leaf (.val (.row (.int .i64))), .leaf (.val (.row (.int .i64)))], rs := [.leaf (.own (.int .i64) 3), .leaf (.val (.int .i64))], f := fun k a => m9F k a.1 a.2 }

theorem m9ok (k : Nat) : EnvOk (m9E k) := envOk_of (l := [(21, m21sp), (22, m22sp), (24, m24sp)]) (lB := [(23, m23sp)]) progNames progMixed rfl rfl (.cons ⟨m21con k, Try.f21, by kernel_rfl, by kernel_rfl⟩ (.cons ⟨m22con k, Try.f22, by kernel_rfl, by kernel_rfl⟩ (.cons ⟨m24con k, Try.f24, by kernel_rfl, by kernel_rfl⟩ (.nil)))) (.cons ⟨m23con k, Try.f23, by kernel_rfl, by kernel_rfl⟩ (.nil))

theorem m9con (k : Nat) : Contract Try.prog k 9 m9sp := contract_of (E := m9E k) (m9ok k) (A := only 9 m9A) (d := 3) (c := m9c []) (by kernel_rfl) (by kernel_rfl) fun a _ h => (m9q k a.1 a.2).trans h

noncomputable def m10A : Anns := tabA [(19, { keep := [0, 1, 7, 33, 34, 35] }), (28, { keep := [7] })]
noncomputable def m10E (k : Nat) : Env := { P := Try.prog, k := k, G := tabG [(21, m21sp), (24, m24sp)], GB := tabGB [(23, m23sp)] }
noncomputable def m10c (p : List Bool) : Code := sub p (bodyOf Try.f10)
noncomputable def m10I (k : Nat) : Inl ((List Int) × Int) := inlOf (m10E k) (only 10 m10A) 3
noncomputable def m10K0 (M : Cut ((List Int) × Int)) (k : Nat) : Exit → St → Option ((List Int) × Int) := seqK (normAt 0 m10A false (m10c [true])) (cutK M m10A (m10c [true]) fun s => evC (m10E k) M (m10I k) 0 m10A (m10c [true]) s (retK Try.prog Try.f10 [.leaf (.own (.int .i64) 3), .leaf (.val (.int .i64))])) (retK Try.prog Try.f10 [.leaf (.own (.int .i64) 3), .leaf (.val (.int .i64))])
noncomputable def m10K1 (M : Cut ((List Int) × Int)) (k : Nat) : Exit → St → Option ((List Int) × Int) := seqK (normAt 0 m10A false (m10c [true, true])) (cutK M m10A (m10c [true, true]) fun s => evC (m10E k) M (m10I k) 0 m10A (m10c [true, true]) s (retK Try.prog Try.f10 [.leaf (.own (.int .i64) 3), .leaf (.val (.int .i64))])) (retK Try.prog Try.f10 [.leaf (.own (.int .i64) 3), .leaf (.val (.int .i64))])
noncomputable def m10K2 (M : Cut ((List Int) × Int)) (k : Nat) : Exit → St → Option ((List Int) × Int) := seqK (normAt 0 m10A false (m10c [true, true, true])) (cutK M m10A (m10c [true, true, true]) fun s => evC (m10E k) M (m10I k) 0 m10A (m10c [true, true, true]) s (retK Try.prog Try.f10 [.leaf (.own (.int .i64) 3), .leaf (.val (.int .i64))])) (retK Try.prog Try.f10 [.leaf (.own (.int .i64) 3), .leaf (.val (.int .i64))])
noncomputable def m10K3 (M : Cut ((List Int) × Int)) (k : Nat) : Exit → St → Option ((List Int) × Int) := seqK (normAt 0 m10A false (m10c [true, true, false, true])) (cutK M m10A (m10c [true, true, false, true]) fun s => evC (m10E k) M (m10I k) 0 m10A (m10c [true, true, false, true]) s (m10K2 M k)) (m10K2 M k)
noncomputable def m10K4 (M : Cut ((List Int) × Int)) (k : Nat) : Exit → St → Option ((List Int) × Int) := seqK (normAt 0 m10A false (m10c [true, true, false, true, false, true])) (cutK M m10A (m10c [true, true, false, true, false, true]) fun s => evC (m10E k) M (m10I k) 0 m10A (m10c [true, true, false, true, false, true]) s (m10K2 M k)) (m10K2 M k)
noncomputable def m10K5 (M : Cut ((List Int) × Int)) (k : Nat) : Exit → St → Option ((List Int) × Int) := seqK (normAt 0 m10A false (m10c [true, true, true, true])) (cutK M m10A (m10c [true, true, true, true]) fun s => evC (m10E k) M (m10I k) 0 m10A (m10c [true, true, true, true]) s (retK Try.prog Try.f10 [.leaf (.own (.int .i64) 3), .leaf (.val (.int .i64))])) (retK Try.prog Try.f10 [.leaf (.own (.int .i64) 3), .leaf (.val (.int .i64))])
noncomputable def m10K6 (M : Cut ((List Int) × Int)) (k : Nat) : Exit → St → Option ((List Int) × Int) := seqK (normAt 0 m10A false (m10c [true, true, true, true, true])) (cutK M m10A (m10c [true, true, true, true, true]) fun s => evC (m10E k) M (m10I k) 0 m10A (m10c [true, true, true, true, true]) s (retK Try.prog Try.f10 [.leaf (.own (.int .i64) 3), .leaf (.val (.int .i64))])) (retK Try.prog Try.f10 [.leaf (.own (.int .i64) 3), .leaf (.val (.int .i64))])
noncomputable def m10K7 (M : Cut ((List Int) × Int)) (k : Nat) : Exit → St → Option ((List Int) × Int) := seqK (normAt 0 m10A false (m10c [true, true, true, true, false, true])) (cutK M m10A (m10c [true, true, true, true, false, true]) fun s => evC (m10E k) M (m10I k) 0 m10A (m10c [true, true, true, true, false, true]) s (m10K6 M k)) (m10K6 M k)
noncomputable def m10K8 (M : Cut ((List Int) × Int)) (k : Nat) : Exit → St → Option ((List Int) × Int) := seqK (normAt 0 m10A false (m10c [true, true, true, true, false, true, false, true])) (cutK M m10A (m10c [true, true, true, true, false, true, false, true]) fun s => evC (m10E k) M (m10I k) 0 m10A (m10c [true, true, true, true, false, true, false, true]) s (m10K6 M k)) (m10K6 M k)
noncomputable def m10K9 (M : Cut ((List Int) × Int)) (k : Nat) : Exit → St → Option ((List Int) × Int) := seqK (normAt 0 m10A false (m10c [true, true, true, true, true, true])) (cutK M m10A (m10c [true, true, true, true, true, true]) fun s => evC (m10E k) M (m10I k) 0 m10A (m10c [true, true, true, true, true, true]) s (retK Try.prog Try.f10 [.leaf (.own (.int .i64) 3), .leaf (.val (.int .i64))])) (retK Try.prog Try.f10 [.leaf (.own (.int .i64) 3), .leaf (.val (.int .i64))])
noncomputable def m10K10 (M : Cut ((List Int) × Int)) (k : Nat) : Exit → St → Option ((List Int) × Int) := seqK (normAt 0 m10A false (m10c [true, true, true, true, true, true, true])) (cutK M m10A (m10c [true, true, true, true, true, true, true]) fun s => evC (m10E k) M (m10I k) 0 m10A (m10c [true, true, true, true, true, true, true]) s (retK Try.prog Try.f10 [.leaf (.own (.int .i64) 3), .leaf (.val (.int .i64))])) (retK Try.prog Try.f10 [.leaf (.own (.int .i64) 3), .leaf (.val (.int .i64))])
noncomputable def m10K11 (M : Cut ((List Int) × Int)) (k : Nat) : Exit → St → Option ((List Int) × Int) := seqK (normAt 0 m10A false (m10c [true, true, true, true, true, true, false, true])) (cutK M m10A (m10c [true, true, true, true, true, true, false, true]) fun s => evC (m10E k) M (m10I k) 0 m10A (m10c [true, true, true, true, true, true, false, true]) s (m10K10 M k)) (m10K10 M k)
noncomputable def m10K12 (M : Cut ((List Int) × Int)) (k : Nat) : Exit → St → Option ((List Int) × Int) := blockK 0 (m10K10 M k)
noncomputable def m10K13 (M : Cut ((List Int) × Int)) (k : Nat) (L19 : St → Option ((List Int) × Int)) : Exit → St → Option ((List Int) × Int) := seqK (normAt 0 m10A true (m10c [true, true, true, true, true, true, false, true, true, true])) L19 (m10K12 M k)
noncomputable def m10K14 (M : Cut ((List Int) × Int)) (k : Nat) (L19 : St → Option ((List Int) × Int)) : Exit → St → Option ((List Int) × Int) := seqK (normAt 0 m10A false (m10c [true, true, true, true, true, true, false, true, true, true, true])) (cutK M m10A (m10c [true, true, true, true, true, true, false, true, true, true, true]) fun s => evC (m10E k) M (m10I k) 0 m10A (m10c [true, true, true, true, true, true, false, true, true, true, true]) s (m10K13 M k L19)) (m10K13 M k L19)
noncomputable def m10K15 (M : Cut ((List Int) × Int)) (k : Nat) (L19 : St → Option ((List Int) × Int)) : Exit → St → Option ((List Int) × Int) := seqK (normAt 0 m10A false (m10c [true, true, true, true, true, true, false, true, true, true, true, true])) (cutK M m10A (m10c [true, true, true, true, true, true, false, true, true, true, true, true]) fun s => evC (m10E k) M (m10I k) 0 m10A (m10c [true, true, true, true, true, true, false, true, true, true, true, true]) s (m10K13 M k L19)) (m10K13 M k L19)
noncomputable def m10K16 (M : Cut ((List Int) × Int)) (k : Nat) (L19 : St → Option ((List Int) × Int)) : Exit → St → Option ((List Int) × Int) := seqK (normAt 0 m10A false (m10c [true, true, true, true, true, true, false, true, true, true, true, true, true])) (cutK M m10A (m10c [true, true, true, true, true, true, false, true, true, true, true, true, true]) fun s => evC (m10E k) M (m10I k) 0 m10A (m10c [true, true, true, true, true, true, false, true, true, true, true, true, true]) s (m10K13 M k L19)) (m10K13 M k L19)
noncomputable def m10K17 (M : Cut ((List Int) × Int)) (k : Nat) (L19 : St → Option ((List Int) × Int)) : Exit → St → Option ((List Int) × Int) := blockK 1 (m10K16 M k L19)
noncomputable def m10K18 (M : Cut ((List Int) × Int)) (k : Nat) (L19 : St → Option ((List Int) × Int)) : Exit → St → Option ((List Int) × Int) := seqK (normAt 0 m10A false (m10c [true, true, true, true, true, true, false, true, true, true, true, true, false, true, true])) (cutK M m10A (m10c [true, true, true, true, true, true, false, true, true, true, true, true, false, true, true]) fun s => evC (m10E k) M (m10I k) 0 m10A (m10c [true, true, true, true, true, true, false, true, true, true, true, true, false, true, true]) s (m10K17 M k L19)) (m10K17 M k L19)
noncomputable def m10K19 (M : Cut ((List Int) × Int)) (k : Nat) (L19 : St → Option ((List Int) × Int)) : Exit → St → Option ((List Int) × Int) := seqK (normAt 0 m10A false (m10c [true, true, true, true, true, true, false, true, true, true, true, true, false, true, true, true])) (cutK M m10A (m10c [true, true, true, true, true, true, false, true, true, true, true, true, false, true, true, true]) fun s => evC (m10E k) M (m10I k) 0 m10A (m10c [true, true, true, true, true, true, false, true, true, true, true, true, false, true, true, true]) s (m10K17 M k L19)) (m10K17 M k L19)
noncomputable def m10K20 (M : Cut ((List Int) × Int)) (k : Nat) : Exit → St → Option ((List Int) × Int) := seqK (normAt 0 m10A false (m10c [true, true, true, true, true, true, true, true])) (cutK M m10A (m10c [true, true, true, true, true, true, true, true]) fun s => evC (m10E k) M (m10I k) 0 m10A (m10c [true, true, true, true, true, true, true, true]) s (retK Try.prog Try.f10 [.leaf (.own (.int .i64) 3), .leaf (.val (.int .i64))])) (retK Try.prog Try.f10 [.leaf (.own (.int .i64) 3), .leaf (.val (.int .i64))])
noncomputable def m10S19 (t34 : Int) (t35 : Int) (b0 : List Int) (b1 : List Int) (b2 : List Int) : St := { n := 57, tm := slots [(0, .own 0), (1, .own 1), (7, .own 2), (33, .own 0), (34, .int .i64 t34), (35, .int .i64 t35)], tab := blks [some (.row true (.int .i64) 3 b0), some (.row true (.int .i64) 3 b1), some (.row true (.int .i64) 3 b2)], nx := 3 }
noncomputable def m10S28 (b0 : List Int) : St := { n := 57, tm := slots [(7, .own 0)], tab := blks [some (.row true (.int .i64) 3 b0)], nx := 1 }

noncomputable def m10X (X19 : Int → Int → List Int → List Int → List Int → Option ((List Int) × Int)) (k : Nat) (p0 : (List Int)) (p1 : (List Int)) : Option ((List Int) × Int) := (Option.bind (m21F k (List.set (List.set (List.replicate 2 []) 0 p0) 1 p1)) fun (c4 : Int) => (if (!eqI c4 0) = true then some (([], c4)) else (Option.bind (m24F k p0) fun (c5 : (List Int)) => (Option.bind (m24F k p1) fun (c6 : (List Int)) => (if ltI 32768 (wr IntKind.i64 ((↑(List.length c5) : Int) + (↑(List.length c6) : Int))) = true then some (([], 2)) else (if leI 0 (wr IntKind.i64 ((↑(List.length c5) : Int) + (↑(List.length c6) : Int))) = true then (if leI (wr IntKind.i64 ((↑(List.length c5) : Int) + (↑(List.length c6) : Int)))
    (wr IntKind.i64 ((↑(List.length c5) : Int) + (↑(List.length c6) : Int))) =
  true then (if leI (wr IntKind.i64 ((↑(List.length c5) : Int) + (↑(List.length c6) : Int)) * (↑8 : Int)) 140737488355328 = true then (if leI (wr IntKind.i64 ((↑(List.length c5) : Int) + (↑(List.length c6) : Int))) 9223372036854775807 = true then X19 ((↑(List.length c5) : Int)) (0) c5 c6 (List.replicate (Int.toNat (wr IntKind.i64 ((↑(List.length c5) : Int) + (↑(List.length c6) : Int)))) 0) else none) else none) else none) else none))))))

theorem m10x (M : Cut ((List Int) × Int)) (k : Nat) (p0 : (List Int)) (p1 : (List Int)) : evC (m10E k) M (m10I k) 0 m10A (m10c []) (stAt Try.f10 (argSs [.leaf (.val (.row (.int .i64))), .leaf (.val (.row (.int .i64)))] (p0, p1)) (fun _ => none) 0) (retK Try.prog Try.f10 [.leaf (.own (.int .i64) 3), .leaf (.val (.int .i64))]) = m10X (fun t34' t35' b0' b1' b2' => loopN (normAt 0 m10A true (m10c [true, true, true, true, true, true, false, true, true, true])) (fun K s => evC (m10E k) M (m10I k) 0 m10A (m10c [true, true, true, true, true, true, false, true, true, true]) s K) (m10K12 M k) k (m10S19 t34' t35' b0' b1' b2')) k p0 p1 := by kernel_rfl

noncomputable def m10X19 (X28 : List Int → Option ((List Int) × Int)) (L19 : Int → Int → List Int → List Int → List Int → Option ((List Int) × Int)) (k : Nat) (t34 : Int) (t35 : Int) (b0 : List Int) (b1 : List Int) (b2 : List Int) : Option ((List Int) × Int) := (if ltI t35 t34 = true then (if leI 0 t35 = true then (if ltI t35 (↑(List.length b0) : Int) = true then (if eqI (List.getD b0 (Int.toNat t35) 0) 1 = true then (if leI 0
    (wr IntKind.i64
      ((↑(List.length b2) : Int) - wr IntKind.i64 (wr IntKind.i64 ((↑(List.length b0) : Int) - 1) - t35))) =
  true then (if leI (wr IntKind.i64 ((↑(List.length b2) : Int) - wr IntKind.i64 (wr IntKind.i64 ((↑(List.length b0) : Int) - 1) - t35)))
    (↑(List.length b2) : Int) =
  true then (Option.bind (m23F k b2 0
  (Int.toNat
    (wr IntKind.i64
      ((↑(List.length b2) : Int) - wr IntKind.i64 (wr IntKind.i64 ((↑(List.length b0) : Int) - 1) - t35))))
  b1) fun (c8 : (List Int)) => L19 t34 (wr IntKind.i64 (t35 + 1)) b0 b1 c8) else none) else none) else L19 t34 (wr IntKind.i64 (t35 + 1)) b0 b1 b2) else none) else none) else X28 b2)

theorem m10x19 (M : Cut ((List Int) × Int)) (k : Nat) (L19 : St → Option ((List Int) × Int)) (t34 : Int) (t35 : Int) (b0 : List Int) (b1 : List Int) (b2 : List Int) : evC (m10E k) M (m10I k) 0 m10A (m10c [true, true, true, true, true, true, false, true, true, true]) (m10S19 t34 t35 b0 b1 b2) (seqK (normAt 0 m10A true (m10c [true, true, true, true, true, true, false, true, true, true])) L19 (m10K12 M k)) = m10X19 (fun b0' => M 28 (fun s => evC (m10E k) M (m10I k) 0 m10A (m10c [true, true, true, true, true, true, true]) s (retK Try.prog Try.f10 [.leaf (.own (.int .i64) 3), .leaf (.val (.int .i64))])) (m10S28 b0')) (fun t34' t35' b0' b1' b2' => L19 (m10S19 t34' t35' b0' b1' b2')) k t34 t35 b0 b1 b2 := by kernel_rfl

noncomputable def m10X28 (k : Nat) (b0 : List Int) : Option ((List Int) × Int) := (Option.bind (m24F k b0) fun (c3 : (List Int)) => some ((c3, 0)))

theorem m10x28 (M : Cut ((List Int) × Int)) (k : Nat) (b0 : List Int) : evC (m10E k) M (m10I k) 0 m10A (m10c [true, true, true, true, true, true, true]) (m10S28 b0) (retK Try.prog Try.f10 [.leaf (.own (.int .i64) 3), .leaf (.val (.int .i64))]) = m10X28 k b0 := by kernel_rfl

noncomputable def m10F28 (k : Nat) (b0 : List Int) : Option ((List Int) × Int) := m10X28 k b0

theorem m10q28 (k : Nat) (b0 : List Int) : evC (m10E k) (fun _ f => f) (m10I k) 0 m10A (m10c [true, true, true, true, true, true, true]) (m10S28 b0) (retK Try.prog Try.f10 [.leaf (.own (.int .i64) 3), .leaf (.val (.int .i64))]) = m10F28 k b0 := by
    show _ = m10X28 k b0
    exact m10x28 (fun _ f => f) k b0

noncomputable def m10F19 (k : Nat) : Nat → Int → Int → List Int → List Int → List Int → Option ((List Int) × Int)
  | 0, _, _, _, _, _ => none
  | j + 1, t34, t35, b0, b1, b2 => m10X19 (m10F28 k) (m10F19 k j) k t34 t35 b0 b1 b2

theorem m10q19 (k : Nat) : ∀ (j : Nat) (t34 : Int) (t35 : Int) (b0 : List Int) (b1 : List Int) (b2 : List Int), loopN (normAt 0 m10A true (m10c [true, true, true, true, true, true, false, true, true, true])) (fun K s => evC (m10E k) (fun _ f => f) (m10I k) 0 m10A (m10c [true, true, true, true, true, true, false, true, true, true]) s K) (m10K12 (fun _ f => f) k) j (m10S19 t34 t35 b0 b1 b2) = m10F19 k j t34 t35 b0 b1 b2
  | 0, _, _, _, _, _ => rfl
  | j + 1, t34, t35, b0, b1, b2 => by
    have e0 : m10F19 k j = (fun t34' t35' b0' b1' b2' => loopN (normAt 0 m10A true (m10c [true, true, true, true, true, true, false, true, true, true])) (fun K s => evC (m10E k) (fun _ f => f) (m10I k) 0 m10A (m10c [true, true, true, true, true, true, false, true, true, true]) s K) (m10K12 (fun _ f => f) k) j (m10S19 t34' t35' b0' b1' b2')) := funext fun t34' => funext fun t35' => funext fun b0' => funext fun b1' => funext fun b2' => (m10q19 k j t34' t35' b0' b1' b2').symm
    have e28 : m10F28 k = (fun b0' => evC (m10E k) (fun _ f => f) (m10I k) 0 m10A (m10c [true, true, true, true, true, true, true]) (m10S28 b0') (retK Try.prog Try.f10 [.leaf (.own (.int .i64) 3), .leaf (.val (.int .i64))])) := funext fun b0' => (m10q28 k b0').symm
    show _ = m10X19 (m10F28 k) (m10F19 k j) k t34 t35 b0 b1 b2
    rw [e0, e28]
    exact m10x19 (fun _ f => f) k (loopN (normAt 0 m10A true (m10c [true, true, true, true, true, true, false, true, true, true])) (fun K s => evC (m10E k) (fun _ f => f) (m10I k) 0 m10A (m10c [true, true, true, true, true, true, false, true, true, true]) s K) (m10K12 (fun _ f => f) k) j) t34 t35 b0 b1 b2

noncomputable def m10F (k : Nat) (p0 : (List Int)) (p1 : (List Int)) : Option ((List Int) × Int) := m10X (m10F19 k k) k p0 p1

theorem m10q (k : Nat) (p0 : (List Int)) (p1 : (List Int)) : evC (m10E k) (fun _ f => f) (m10I k) 0 m10A (m10c []) (stAt Try.f10 (argSs [.leaf (.val (.row (.int .i64))), .leaf (.val (.row (.int .i64)))] (p0, p1)) (fun _ => none) 0) (retK Try.prog Try.f10 [.leaf (.own (.int .i64) 3), .leaf (.val (.int .i64))]) = m10F k p0 p1 := by
    have e19 : m10F19 k k = (fun t34' t35' b0' b1' b2' => loopN (normAt 0 m10A true (m10c [true, true, true, true, true, true, false, true, true, true])) (fun K s => evC (m10E k) (fun _ f => f) (m10I k) 0 m10A (m10c [true, true, true, true, true, true, false, true, true, true]) s K) (m10K12 (fun _ f => f) k) k (m10S19 t34' t35' b0' b1' b2')) := funext fun t34' => funext fun t35' => funext fun b0' => funext fun b1' => funext fun b2' => (m10q19 k k t34' t35' b0' b1' b2').symm
    show _ = m10X (m10F19 k k) k p0 p1
    rw [e19]
    exact m10x (fun _ f => f) k p0 p1

noncomputable def m10sp : Spec := { ps := [.leaf (.val (.row (.int .i64))), .leaf (.val (.row (.int .i64)))], rs := [.leaf (.own (.int .i64) 3), .leaf (.val (.int .i64))], f := fun k a => m10F k a.1 a.2 }

theorem m10ok (k : Nat) : EnvOk (m10E k) := envOk_of (l := [(21, m21sp), (24, m24sp)]) (lB := [(23, m23sp)]) progNames progMixed rfl rfl (.cons ⟨m21con k, Try.f21, by kernel_rfl, by kernel_rfl⟩ (.cons ⟨m24con k, Try.f24, by kernel_rfl, by kernel_rfl⟩ (.nil))) (.cons ⟨m23con k, Try.f23, by kernel_rfl, by kernel_rfl⟩ (.nil))

theorem m10con (k : Nat) : Contract Try.prog k 10 m10sp := contract_of (E := m10E k) (m10ok k) (A := only 10 m10A) (d := 3) (c := m10c []) (by kernel_rfl) (by kernel_rfl) fun a _ h => (m10q k a.1 a.2).trans h

noncomputable def m11A : Anns := tabA [(9, { keep := [0, 1, 5] })]
noncomputable def m11E (k : Nat) : Env := { P := Try.prog, k := k, G := tabG [], GB := tabGB [] }
noncomputable def m11c (p : List Bool) : Code := sub p (bodyOf Try.f11)
noncomputable def m11I (k : Nat) : Inl Bool := inlOf (m11E k) (only 11 m11A) 3
noncomputable def m11K0 (M : Cut Bool) (k : Nat) : Exit → St → Option Bool := seqK (normAt 0 m11A false (m11c [true])) (cutK M m11A (m11c [true]) fun s => evC (m11E k) M (m11I k) 0 m11A (m11c [true]) s (retK Try.prog Try.f11 [.leaf (.val .bool)])) (retK Try.prog Try.f11 [.leaf (.val .bool)])
noncomputable def m11K1 (M : Cut Bool) (k : Nat) : Exit → St → Option Bool := seqK (normAt 0 m11A false (m11c [true, true])) (cutK M m11A (m11c [true, true]) fun s => evC (m11E k) M (m11I k) 0 m11A (m11c [true, true]) s (retK Try.prog Try.f11 [.leaf (.val .bool)])) (retK Try.prog Try.f11 [.leaf (.val .bool)])
noncomputable def m11K2 (M : Cut Bool) (k : Nat) : Exit → St → Option Bool := seqK (normAt 0 m11A false (m11c [true, false, true])) (cutK M m11A (m11c [true, false, true]) fun s => evC (m11E k) M (m11I k) 0 m11A (m11c [true, false, true]) s (m11K1 M k)) (m11K1 M k)
noncomputable def m11K3 (M : Cut Bool) (k : Nat) : Exit → St → Option Bool := seqK (normAt 0 m11A false (m11c [true, false, true, false, true])) (cutK M m11A (m11c [true, false, true, false, true]) fun s => evC (m11E k) M (m11I k) 0 m11A (m11c [true, false, true, false, true]) s (m11K1 M k)) (m11K1 M k)
noncomputable def m11K4 (M : Cut Bool) (k : Nat) : Exit → St → Option Bool := seqK (normAt 0 m11A false (m11c [true, true, true])) (cutK M m11A (m11c [true, true, true]) fun s => evC (m11E k) M (m11I k) 0 m11A (m11c [true, true, true]) s (retK Try.prog Try.f11 [.leaf (.val .bool)])) (retK Try.prog Try.f11 [.leaf (.val .bool)])
noncomputable def m11K5 (M : Cut Bool) (k : Nat) : Exit → St → Option Bool := seqK (normAt 0 m11A false (m11c [true, true, false, true])) (cutK M m11A (m11c [true, true, false, true]) fun s => evC (m11E k) M (m11I k) 0 m11A (m11c [true, true, false, true]) s (m11K4 M k)) (m11K4 M k)
noncomputable def m11K6 (M : Cut Bool) (k : Nat) : Exit → St → Option Bool := blockK 0 (m11K4 M k)
noncomputable def m11K7 (M : Cut Bool) (k : Nat) (L9 : St → Option Bool) : Exit → St → Option Bool := seqK (normAt 0 m11A true (m11c [true, true, false, true, true, true])) L9 (m11K6 M k)
noncomputable def m11K8 (M : Cut Bool) (k : Nat) (L9 : St → Option Bool) : Exit → St → Option Bool := seqK (normAt 0 m11A false (m11c [true, true, false, true, true, true, true])) (cutK M m11A (m11c [true, true, false, true, true, true, true]) fun s => evC (m11E k) M (m11I k) 0 m11A (m11c [true, true, false, true, true, true, true]) s (m11K7 M k L9)) (m11K7 M k L9)
noncomputable def m11K9 (M : Cut Bool) (k : Nat) (L9 : St → Option Bool) : Exit → St → Option Bool := seqK (normAt 0 m11A false (m11c [true, true, false, true, true, true, false, true])) (cutK M m11A (m11c [true, true, false, true, true, true, false, true]) fun s => evC (m11E k) M (m11I k) 0 m11A (m11c [true, true, false, true, true, true, false, true]) s (m11K8 M k L9)) (m11K8 M k L9)
noncomputable def m11K10 (M : Cut Bool) (k : Nat) (L9 : St → Option Bool) : Exit → St → Option Bool := seqK (normAt 0 m11A false (m11c [true, true, false, true, true, true, true, true])) (cutK M m11A (m11c [true, true, false, true, true, true, true, true]) fun s => evC (m11E k) M (m11I k) 0 m11A (m11c [true, true, false, true, true, true, true, true]) s (m11K7 M k L9)) (m11K7 M k L9)
noncomputable def m11K11 (M : Cut Bool) (k : Nat) (L9 : St → Option Bool) : Exit → St → Option Bool := blockK 1 (m11K10 M k L9)
noncomputable def m11K12 (M : Cut Bool) (k : Nat) (L9 : St → Option Bool) : Exit → St → Option Bool := seqK (normAt 0 m11A false (m11c [true, true, false, true, true, true, true, false, true, true])) (cutK M m11A (m11c [true, true, false, true, true, true, true, false, true, true]) fun s => evC (m11E k) M (m11I k) 0 m11A (m11c [true, true, false, true, true, true, true, false, true, true]) s (m11K11 M k L9)) (m11K11 M k L9)
noncomputable def m11K13 (M : Cut Bool) (k : Nat) (L9 : St → Option Bool) : Exit → St → Option Bool := seqK (normAt 0 m11A false (m11c [true, true, false, true, true, true, true, false, true, true, false, true])) (cutK M m11A (m11c [true, true, false, true, true, true, true, false, true, true, false, true]) fun s => evC (m11E k) M (m11I k) 0 m11A (m11c [true, true, false, true, true, true, true, false, true, true, false, true]) s (m11K11 M k L9)) (m11K11 M k L9)
noncomputable def m11K14 (M : Cut Bool) (k : Nat) : Exit → St → Option Bool := seqK (normAt 0 m11A false (m11c [true, true, true, true])) (cutK M m11A (m11c [true, true, true, true]) fun s => evC (m11E k) M (m11I k) 0 m11A (m11c [true, true, true, true]) s (retK Try.prog Try.f11 [.leaf (.val .bool)])) (retK Try.prog Try.f11 [.leaf (.val .bool)])
noncomputable def m11S9 (t0 : List Int) (t1 : List Int) (t5 : Int) : St := { n := 26, tm := slots [(0, .row (.int .i64) t0), (1, .row (.int .i64) t1), (5, .int .i64 t5)], tab := blks [], nx := 0 }

noncomputable def m11X (X9 : List Int → List Int → Int → Option Bool) (k : Nat) (p0 : (List Int)) (p1 : (List Int)) : Option Bool := (if (!eqI (↑(List.length p0) : Int) (↑(List.length p1) : Int)) = true then some (false) else X9 p0 p1 (0))

theorem m11x (M : Cut Bool) (k : Nat) (p0 : (List Int)) (p1 : (List Int)) : evC (m11E k) M (m11I k) 0 m11A (m11c []) (stAt Try.f11 (argSs [.leaf (.val (.row (.int .i64))), .leaf (.val (.row (.int .i64)))] (p0, p1)) (fun _ => none) 0) (retK Try.prog Try.f11 [.leaf (.val .bool)]) = m11X (fun t0' t1' t5' => loopN (normAt 0 m11A true (m11c [true, true, false, true, true, true])) (fun K s => evC (m11E k) M (m11I k) 0 m11A (m11c [true, true, false, true, true, true]) s K) (m11K6 M k) k (m11S9 t0' t1' t5')) k p0 p1 := by kernel_rfl

noncomputable def m11X9 (L9 : List Int → List Int → Int → Option Bool) (k : Nat) (t0 : List Int) (t1 : List Int) (t5 : Int) : Option Bool := (if ltI t5 (↑(List.length t0) : Int) = true then (if leI 0 t5 = true then (if ltI t5 (↑(List.length t0) : Int) = true then (if leI 0 t5 = true then (if ltI t5 (↑(List.length t1) : Int) = true then (if (!eqI (List.getD t0 (Int.toNat t5) 0) (List.getD t1 (Int.toNat t5) 0)) = true then some (false) else L9 t0 t1 (wr IntKind.i64 (t5 + 1))) else none) else none) else none) else none) else some (true))

theorem m11x9 (M : Cut Bool) (k : Nat) (L9 : St → Option Bool) (t0 : List Int) (t1 : List Int) (t5 : Int) : evC (m11E k) M (m11I k) 0 m11A (m11c [true, true, false, true, true, true]) (m11S9 t0 t1 t5) (seqK (normAt 0 m11A true (m11c [true, true, false, true, true, true])) L9 (m11K6 M k)) = m11X9 (fun t0' t1' t5' => L9 (m11S9 t0' t1' t5')) k t0 t1 t5 := by kernel_rfl

noncomputable def m11F9 (k : Nat) : Nat → List Int → List Int → Int → Option Bool
  | 0, _, _, _ => none
  | j + 1, t0, t1, t5 => m11X9 (m11F9 k j) k t0 t1 t5

theorem m11q9 (k : Nat) : ∀ (j : Nat) (t0 : List Int) (t1 : List Int) (t5 : Int), loopN (normAt 0 m11A true (m11c [true, true, false, true, true, true])) (fun K s => evC (m11E k) (fun _ f => f) (m11I k) 0 m11A (m11c [true, true, false, true, true, true]) s K) (m11K6 (fun _ f => f) k) j (m11S9 t0 t1 t5) = m11F9 k j t0 t1 t5
  | 0, _, _, _ => rfl
  | j + 1, t0, t1, t5 => by
    have e0 : m11F9 k j = (fun t0' t1' t5' => loopN (normAt 0 m11A true (m11c [true, true, false, true, true, true])) (fun K s => evC (m11E k) (fun _ f => f) (m11I k) 0 m11A (m11c [true, true, false, true, true, true]) s K) (m11K6 (fun _ f => f) k) j (m11S9 t0' t1' t5')) := funext fun t0' => funext fun t1' => funext fun t5' => (m11q9 k j t0' t1' t5').symm
    show _ = m11X9 (m11F9 k j) k t0 t1 t5
    rw [e0]
    exact m11x9 (fun _ f => f) k (loopN (normAt 0 m11A true (m11c [true, true, false, true, true, true])) (fun K s => evC (m11E k) (fun _ f => f) (m11I k) 0 m11A (m11c [true, true, false, true, true, true]) s K) (m11K6 (fun _ f => f) k) j) t0 t1 t5

noncomputable def m11F (k : Nat) (p0 : (List Int)) (p1 : (List Int)) : Option Bool := m11X (m11F9 k k) k p0 p1

theorem m11q (k : Nat) (p0 : (List Int)) (p1 : (List Int)) : evC (m11E k) (fun _ f => f) (m11I k) 0 m11A (m11c []) (stAt Try.f11 (argSs [.leaf (.val (.row (.int .i64))), .leaf (.val (.row (.int .i64)))] (p0, p1)) (fun _ => none) 0) (retK Try.prog Try.f11 [.leaf (.val .bool)]) = m11F k p0 p1 := by
    have e9 : m11F9 k k = (fun t0' t1' t5' => loopN (normAt 0 m11A true (m11c [true, true, false, true, true, true])) (fun K s => evC (m11E k) (fun _ f => f) (m11I k) 0 m11A (m11c [true, true, false, true, true, true]) s K) (m11K6 (fun _ f => f) k) k (m11S9 t0' t1' t5')) := funext fun t0' => funext fun t1' => funext fun t5' => (m11q9 k k t0' t1' t5').symm
    show _ = m11X (m11F9 k k) k p0 p1
    rw [e9]
    exact m11x (fun _ f => f) k p0 p1

noncomputable def m11sp : Spec := { ps := [.leaf (.val (.row (.int .i64))), .leaf (.val (.row (.int .i64)))], rs := [.leaf (.val .bool)], f := fun k a => m11F k a.1 a.2 }

theorem m11ok (k : Nat) : EnvOk (m11E k) := envOk_of (l := []) (lB := []) progNames progMixed rfl rfl (.nil) (.nil)

theorem m11con (k : Nat) : Contract Try.prog k 11 m11sp := contract_of (E := m11E k) (m11ok k) (A := only 11 m11A) (d := 3) (c := m11c []) (by kernel_rfl) (by kernel_rfl) fun a _ h => (m11q k a.1 a.2).trans h

noncomputable def m17A : Anns := tabA [(19, { keep := [1, 4, 5, 7], mat := [(4, (.int .i64), 3)] }), (20, { keep := [1, 4, 5, 7] }), (28, { keep := [4, 5] })]
noncomputable def m17E (k : Nat) : Env := { P := Try.prog, k := k, G := tabG [(21, m21sp), (24, m24sp)], GB := tabGB [(23, m23sp)] }
noncomputable def m17c (p : List Bool) : Code := sub p (bodyOf Try.f17)
noncomputable def m17I (k : Nat) : Inl ((List Int) × (List Int) × Int) := inlOf (m17E k) (only 17 m17A) 3
noncomputable def m17K0 (M : Cut ((List Int) × (List Int) × Int)) (k : Nat) : Exit → St → Option ((List Int) × (List Int) × Int) := seqK (normAt 0 m17A false (m17c [true])) (cutK M m17A (m17c [true]) fun s => evC (m17E k) M (m17I k) 0 m17A (m17c [true]) s (retK Try.prog Try.f17 [.leaf (.own (.int .i64) 3), .leaf (.own (.int .i64) 3), .leaf (.val (.int .i64))])) (retK Try.prog Try.f17 [.leaf (.own (.int .i64) 3), .leaf (.own (.int .i64) 3), .leaf (.val (.int .i64))])
noncomputable def m17K1 (M : Cut ((List Int) × (List Int) × Int)) (k : Nat) : Exit → St → Option ((List Int) × (List Int) × Int) := seqK (normAt 0 m17A false (m17c [true, true])) (cutK M m17A (m17c [true, true]) fun s => evC (m17E k) M (m17I k) 0 m17A (m17c [true, true]) s (retK Try.prog Try.f17 [.leaf (.own (.int .i64) 3), .leaf (.own (.int .i64) 3), .leaf (.val (.int .i64))])) (retK Try.prog Try.f17 [.leaf (.own (.int .i64) 3), .leaf (.own (.int .i64) 3), .leaf (.val (.int .i64))])
noncomputable def m17K2 (M : Cut ((List Int) × (List Int) × Int)) (k : Nat) : Exit → St → Option ((List Int) × (List Int) × Int) := seqK (normAt 0 m17A false (m17c [true, true, true])) (cutK M m17A (m17c [true, true, true]) fun s => evC (m17E k) M (m17I k) 0 m17A (m17c [true, true, true]) s (retK Try.prog Try.f17 [.leaf (.own (.int .i64) 3), .leaf (.own (.int .i64) 3), .leaf (.val (.int .i64))])) (retK Try.prog Try.f17 [.leaf (.own (.int .i64) 3), .leaf (.own (.int .i64) 3), .leaf (.val (.int .i64))])
noncomputable def m17K3 (M : Cut ((List Int) × (List Int) × Int)) (k : Nat) : Exit → St → Option ((List Int) × (List Int) × Int) := seqK (normAt 0 m17A false (m17c [true, true, false, true])) (cutK M m17A (m17c [true, true, false, true]) fun s => evC (m17E k) M (m17I k) 0 m17A (m17c [true, true, false, true]) s (m17K2 M k)) (m17K2 M k)
noncomputable def m17K4 (M : Cut ((List Int) × (List Int) × Int)) (k : Nat) : Exit → St → Option ((List Int) × (List Int) × Int) := seqK (normAt 0 m17A false (m17c [true, true, false, true, false, true])) (cutK M m17A (m17c [true, true, false, true, false, true]) fun s => evC (m17E k) M (m17I k) 0 m17A (m17c [true, true, false, true, false, true]) s (m17K2 M k)) (m17K2 M k)
noncomputable def m17K5 (M : Cut ((List Int) × (List Int) × Int)) (k : Nat) : Exit → St → Option ((List Int) × (List Int) × Int) := seqK (normAt 0 m17A false (m17c [true, true, true, true])) (cutK M m17A (m17c [true, true, true, true]) fun s => evC (m17E k) M (m17I k) 0 m17A (m17c [true, true, true, true]) s (retK Try.prog Try.f17 [.leaf (.own (.int .i64) 3), .leaf (.own (.int .i64) 3), .leaf (.val (.int .i64))])) (retK Try.prog Try.f17 [.leaf (.own (.int .i64) 3), .leaf (.own (.int .i64) 3), .leaf (.val (.int .i64))])
noncomputable def m17K6 (M : Cut ((List Int) × (List Int) × Int)) (k : Nat) : Exit → St → Option ((List Int) × (List Int) × Int) := seqK (normAt 0 m17A false (m17c [true, true, true, true, true])) (cutK M m17A (m17c [true, true, true, true, true]) fun s => evC (m17E k) M (m17I k) 0 m17A (m17c [true, true, true, true, true]) s (retK Try.prog Try.f17 [.leaf (.own (.int .i64) 3), .leaf (.own (.int .i64) 3), .leaf (.val (.int .i64))])) (retK Try.prog Try.f17 [.leaf (.own (.int .i64) 3), .leaf (.own (.int .i64) 3), .leaf (.val (.int .i64))])
noncomputable def m17K7 (M : Cut ((List Int) × (List Int) × Int)) (k : Nat) : Exit → St → Option ((List Int) × (List Int) × Int) := seqK (normAt 0 m17A false (m17c [true, true, true, true, false, true])) (cutK M m17A (m17c [true, true, true, true, false, true]) fun s => evC (m17E k) M (m17I k) 0 m17A (m17c [true, true, true, true, false, true]) s (m17K6 M k)) (m17K6 M k)
noncomputable def m17K8 (M : Cut ((List Int) × (List Int) × Int)) (k : Nat) : Exit → St → Option ((List Int) × (List Int) × Int) := seqK (normAt 0 m17A false (m17c [true, true, true, true, false, true, false, true])) (cutK M m17A (m17c [true, true, true, true, false, true, false, true]) fun s => evC (m17E k) M (m17I k) 0 m17A (m17c [true, true, true, true, false, true, false, true]) s (m17K6 M k)) (m17K6 M k)
noncomputable def m17K9 (M : Cut ((List Int) × (List Int) × Int)) (k : Nat) : Exit → St → Option ((List Int) × (List Int) × Int) := seqK (normAt 0 m17A false (m17c [true, true, true, true, true, true])) (cutK M m17A (m17c [true, true, true, true, true, true]) fun s => evC (m17E k) M (m17I k) 0 m17A (m17c [true, true, true, true, true, true]) s (retK Try.prog Try.f17 [.leaf (.own (.int .i64) 3), .leaf (.own (.int .i64) 3), .leaf (.val (.int .i64))])) (retK Try.prog Try.f17 [.leaf (.own (.int .i64) 3), .leaf (.own (.int .i64) 3), .leaf (.val (.int .i64))])
noncomputable def m17K10 (M : Cut ((List Int) × (List Int) × Int)) (k : Nat) : Exit → St → Option ((List Int) × (List Int) × Int) := seqK (normAt 0 m17A false (m17c [true, true, true, true, true, true, true])) (cutK M m17A (m17c [true, true, true, true, true, true, true]) fun s => evC (m17E k) M (m17I k) 0 m17A (m17c [true, true, true, true, true, true, true]) s (retK Try.prog Try.f17 [.leaf (.own (.int .i64) 3), .leaf (.own (.int .i64) 3), .leaf (.val (.int .i64))])) (retK Try.prog Try.f17 [.leaf (.own (.int .i64) 3), .leaf (.own (.int .i64) 3), .leaf (.val (.int .i64))])
noncomputable def m17K11 (M : Cut ((List Int) × (List Int) × Int)) (k : Nat) : Exit → St → Option ((List Int) × (List Int) × Int) := seqK (normAt 0 m17A false (m17c [true, true, true, true, true, true, false, true])) (cutK M m17A (m17c [true, true, true, true, true, true, false, true]) fun s => evC (m17E k) M (m17I k) 0 m17A (m17c [true, true, true, true, true, true, false, true]) s (m17K10 M k)) (m17K10 M k)
noncomputable def m17K12 (M : Cut ((List Int) × (List Int) × Int)) (k : Nat) : Exit → St → Option ((List Int) × (List Int) × Int) := blockK 0 (m17K10 M k)
noncomputable def m17K13 (M : Cut ((List Int) × (List Int) × Int)) (k : Nat) (L19 : St → Option ((List Int) × (List Int) × Int)) : Exit → St → Option ((List Int) × (List Int) × Int) := seqK (normAt 0 m17A true (m17c [true, true, true, true, true, true, false, true, true, true])) L19 (m17K12 M k)
noncomputable def m17K14 (M : Cut ((List Int) × (List Int) × Int)) (k : Nat) (L19 : St → Option ((List Int) × (List Int) × Int)) : Exit → St → Option ((List Int) × (List Int) × Int) := seqK (normAt 0 m17A false (m17c [true, true, true, true, true, true, false, true, true, true, true])) (cutK M m17A (m17c [true, true, true, true, true, true, false, true, true, true, true]) fun s => evC (m17E k) M (m17I k) 0 m17A (m17c [true, true, true, true, true, true, false, true, true, true, true]) s (m17K13 M k L19)) (m17K13 M k L19)
noncomputable def m17K15 (M : Cut ((List Int) × (List Int) × Int)) (k : Nat) (L19 : St → Option ((List Int) × (List Int) × Int)) : Exit → St → Option ((List Int) × (List Int) × Int) := seqK (normAt 0 m17A false (m17c [true, true, true, true, true, true, false, true, true, true, false, true])) (cutK M m17A (m17c [true, true, true, true, true, true, false, true, true, true, false, true]) fun s => evC (m17E k) M (m17I k) 0 m17A (m17c [true, true, true, true, true, true, false, true, true, true, false, true]) s (m17K14 M k L19)) (m17K14 M k L19)
noncomputable def m17K16 (M : Cut ((List Int) × (List Int) × Int)) (k : Nat) (L19 : St → Option ((List Int) × (List Int) × Int)) : Exit → St → Option ((List Int) × (List Int) × Int) := seqK (normAt 0 m17A false (m17c [true, true, true, true, true, true, false, true, true, true, true, true])) (cutK M m17A (m17c [true, true, true, true, true, true, false, true, true, true, true, true]) fun s => evC (m17E k) M (m17I k) 0 m17A (m17c [true, true, true, true, true, true, false, true, true, true, true, true]) s (m17K13 M k L19)) (m17K13 M k L19)
noncomputable def m17K17 (M : Cut ((List Int) × (List Int) × Int)) (k : Nat) (L19 : St → Option ((List Int) × (List Int) × Int)) : Exit → St → Option ((List Int) × (List Int) × Int) := blockK 1 (m17K16 M k L19)
noncomputable def m17K18 (M : Cut ((List Int) × (List Int) × Int)) (k : Nat) (L19 : St → Option ((List Int) × (List Int) × Int)) : Exit → St → Option ((List Int) × (List Int) × Int) := seqK (normAt 0 m17A false (m17c [true, true, true, true, true, true, false, true, true, true, true, false, true, true])) (cutK M m17A (m17c [true, true, true, true, true, true, false, true, true, true, true, false, true, true]) fun s => evC (m17E k) M (m17I k) 0 m17A (m17c [true, true, true, true, true, true, false, true, true, true, true, false, true, true]) s (m17K17 M k L19)) (m17K17 M k L19)
noncomputable def m17K19 (M : Cut ((List Int) × (List Int) × Int)) (k : Nat) (L19 : St → Option ((List Int) × (List Int) × Int)) : Exit → St → Option ((List Int) × (List Int) × Int) := seqK (normAt 0 m17A false (m17c [true, true, true, true, true, true, false, true, true, true, true, false, true, true, true])) (cutK M m17A (m17c [true, true, true, true, true, true, false, true, true, true, true, false, true, true, true]) fun s => evC (m17E k) M (m17I k) 0 m17A (m17c [true, true, true, true, true, true, false, true, true, true, true, false, true, true, true]) s (m17K17 M k L19)) (m17K17 M k L19)
noncomputable def m17K20 (M : Cut ((List Int) × (List Int) × Int)) (k : Nat) : Exit → St → Option ((List Int) × (List Int) × Int) := seqK (normAt 0 m17A false (m17c [true, true, true, true, true, true, true, true])) (cutK M m17A (m17c [true, true, true, true, true, true, true, true]) fun s => evC (m17E k) M (m17I k) 0 m17A (m17c [true, true, true, true, true, true, true, true]) s (retK Try.prog Try.f17 [.leaf (.own (.int .i64) 3), .leaf (.own (.int .i64) 3), .leaf (.val (.int .i64))])) (retK Try.prog Try.f17 [.leaf (.own (.int .i64) 3), .leaf (.own (.int .i64) 3), .leaf (.val (.int .i64))])
noncomputable def m17S19 (t7 : Int) (b0 : List Int) (b1 : List Int) (b2 : List Int) : St := { n := 55, tm := slots [(1, .own 0), (4, .own 1), (5, .own 2), (7, .int .i64 t7)], tab := blks [some (.row true (.int .i64) 3 b0), some (.row true (.int .i64) 3 b1), some (.row true (.int .i64) 3 b2)], nx := 3 }
noncomputable def m17S20 (t7 : Int) (b0 : List Int) (b1 : List Int) (b2 : List Int) : St := { n := 55, tm := slots [(1, .own 0), (4, .own 1), (5, .own 2), (7, .int .i64 t7)], tab := blks [some (.row true (.int .i64) 3 b0), some (.row true (.int .i64) 3 b1), some (.row true (.int .i64) 3 b2)], nx := 3 }
noncomputable def m17S28 (b0 : List Int) (b1 : List Int) : St := { n := 55, tm := slots [(4, .own 0), (5, .own 1)], tab := blks [some (.row true (.int .i64) 3 b0), some (.row true (.int .i64) 3 b1)], nx := 2 }

noncomputable def m17X (X19 : Int → List Int → List Int → List Int → Option ((List Int) × (List Int) × Int)) (k : Nat) (p0 : (List Int)) (p1 : (List Int)) : Option ((List Int) × (List Int) × Int) := (Option.bind (m21F k (List.set (List.set (List.replicate 2 []) 0 p0) 1 p1)) fun (c4 : Int) => (if (!eqI c4 0) = true then some (([], [], c4)) else (Option.bind (m24F k p1) fun (c5 : (List Int)) => (if eqI (↑(List.length c5) : Int) 0 = true then some (([], [], 1)) else (Option.bind (m24F k p0) fun (c6 : (List Int)) => X19 (0) c5 ([]) c6)))))

theorem m17x (M : Cut ((List Int) × (List Int) × Int)) (k : Nat) (p0 : (List Int)) (p1 : (List Int)) : evC (m17E k) M (m17I k) 0 m17A (m17c []) (stAt Try.f17 (argSs [.leaf (.val (.row (.int .i64))), .leaf (.val (.row (.int .i64)))] (p0, p1)) (fun _ => none) 0) (retK Try.prog Try.f17 [.leaf (.own (.int .i64) 3), .leaf (.own (.int .i64) 3), .leaf (.val (.int .i64))]) = m17X (fun t7' b0' b1' b2' => loopN (normAt 0 m17A true (m17c [true, true, true, true, true, true, false, true, true, true])) (fun K s => evC (m17E k) M (m17I k) 0 m17A (m17c [true, true, true, true, true, true, false, true, true, true]) s K) (m17K12 M k) k (m17S19 t7' b0' b1' b2')) k p0 p1 := by kernel_rfl

noncomputable def m17X19 (X20 : Int → List Int → List Int → List Int → Option ((List Int) × (List Int) × Int)) (X28 : List Int → List Int → Option ((List Int) × (List Int) × Int)) (k : Nat) (t7 : Int) (b0 : List Int) (b1 : List Int) (b2 : List Int) : Option ((List Int) × (List Int) × Int) := (if leI (wr IntKind.i64 (t7 + (↑(List.length b0) : Int))) (↑(List.length b2) : Int) = true then (if leI 0 t7 = true then (if ltI t7 (↑(List.length b2) : Int) = true then (if leI (↑((List.length b1 + List.length (List.set (List.replicate 1 0) 0 (List.getD b2 (Int.toNat t7) 0))) * 8) : Int)
    140737488355328 =
  true then (if leI 0 t7 = true then (if ltI t7 (↑(List.length b2) : Int) = true then (if eqI (List.getD b2 (Int.toNat t7) 0) 1 = true then (if leI 0 (wr IntKind.i64 (t7 + (↑(List.length b0) : Int))) = true then (if leI (wr IntKind.i64 (t7 + (↑(List.length b0) : Int))) (↑(List.length b2) : Int) = true then (Option.bind (m23F k b2 0 (Int.toNat (wr IntKind.i64 (t7 + (↑(List.length b0) : Int)))) b0) fun (c7 : (List Int)) => X20 t7 b0 (b1 ++ List.set (List.replicate 1 0) 0 (List.getD b2 (Int.toNat t7) 0)) c7) else none) else none) else X20 t7 b0 (b1 ++ List.set (List.replicate 1 0) 0 (List.getD b2 (Int.toNat t7) 0)) b2) else none) else none) else none) else none) else none) else X28 b1 b2)

theorem m17x19 (M : Cut ((List Int) × (List Int) × Int)) (k : Nat) (L19 : St → Option ((List Int) × (List Int) × Int)) (t7 : Int) (b0 : List Int) (b1 : List Int) (b2 : List Int) : evC (m17E k) M (m17I k) 0 m17A (m17c [true, true, true, true, true, true, false, true, true, true]) (m17S19 t7 b0 b1 b2) (seqK (normAt 0 m17A true (m17c [true, true, true, true, true, true, false, true, true, true])) L19 (m17K12 M k)) = m17X19 (fun t7' b0' b1' b2' => M 20 (fun s => evC (m17E k) M (m17I k) 0 m17A (m17c [true, true, true, true, true, true, false, true, true, true, true, true]) s (m17K13 M k L19)) (m17S20 t7' b0' b1' b2')) (fun b0' b1' => M 28 (fun s => evC (m17E k) M (m17I k) 0 m17A (m17c [true, true, true, true, true, true, true]) s (retK Try.prog Try.f17 [.leaf (.own (.int .i64) 3), .leaf (.own (.int .i64) 3), .leaf (.val (.int .i64))])) (m17S28 b0' b1')) k t7 b0 b1 b2 := by kernel_rfl

noncomputable def m17X20 (L19 : Int → List Int → List Int → List Int → Option ((List Int) × (List Int) × Int)) (k : Nat) (t7 : Int) (b0 : List Int) (b1 : List Int) (b2 : List Int) : Option ((List Int) × (List Int) × Int) := L19 (wr IntKind.i64 (t7 + 1)) b0 b1 b2

theorem m17x20 (M : Cut ((List Int) × (List Int) × Int)) (k : Nat) (L19 : St → Option ((List Int) × (List Int) × Int)) (t7 : Int) (b0 : List Int) (b1 : List Int) (b2 : List Int) : evC (m17E k) M (m17I k) 0 m17A (m17c [true, true, true, true, true, true, false, true, true, true, true, true]) (m17S20 t7 b0 b1 b2) (m17K13 M k L19) = m17X20 (fun t7' b0' b1' b2' => L19 (m17S19 t7' b0' b1' b2')) k t7 b0 b1 b2 := by kernel_rfl

noncomputable def m17X28 (k : Nat) (b0 : List Int) (b1 : List Int) : Option ((List Int) × (List Int) × Int) := (Option.bind (m24F k b0) fun (c4 : (List Int)) => (Option.bind (m24F k b1) fun (c5 : (List Int)) => some ((c4, c5, 0))))

theorem m17x28 (M : Cut ((List Int) × (List Int) × Int)) (k : Nat) (b0 : List Int) (b1 : List Int) : evC (m17E k) M (m17I k) 0 m17A (m17c [true, true, true, true, true, true, true]) (m17S28 b0 b1) (retK Try.prog Try.f17 [.leaf (.own (.int .i64) 3), .leaf (.own (.int .i64) 3), .leaf (.val (.int .i64))]) = m17X28 k b0 b1 := by kernel_rfl

noncomputable def m17F20 (k : Nat) (L19 : Int → List Int → List Int → List Int → Option ((List Int) × (List Int) × Int)) (t7 : Int) (b0 : List Int) (b1 : List Int) (b2 : List Int) : Option ((List Int) × (List Int) × Int) := m17X20 L19 k t7 b0 b1 b2

theorem m17q20 (k : Nat) (L19 : St → Option ((List Int) × (List Int) × Int)) (t7 : Int) (b0 : List Int) (b1 : List Int) (b2 : List Int) : evC (m17E k) (fun _ f => f) (m17I k) 0 m17A (m17c [true, true, true, true, true, true, false, true, true, true, true, true]) (m17S20 t7 b0 b1 b2) (m17K13 (fun _ f => f) k L19) = m17F20 k (fun t7' b0' b1' b2' => L19 (m17S19 t7' b0' b1' b2')) t7 b0 b1 b2 := by
    show _ = m17X20 (fun t7' b0' b1' b2' => L19 (m17S19 t7' b0' b1' b2')) k t7 b0 b1 b2
    exact m17x20 (fun _ f => f) k L19 t7 b0 b1 b2

noncomputable def m17F28 (k : Nat) (b0 : List Int) (b1 : List Int) : Option ((List Int) × (List Int) × Int) := m17X28 k b0 b1

theorem m17q28 (k : Nat) (b0 : List Int) (b1 : List Int) : evC (m17E k) (fun _ f => f) (m17I k) 0 m17A (m17c [true, true, true, true, true, true, true]) (m17S28 b0 b1) (retK Try.prog Try.f17 [.leaf (.own (.int .i64) 3), .leaf (.own (.int .i64) 3), .leaf (.val (.int .i64))]) = m17F28 k b0 b1 := by
    show _ = m17X28 k b0 b1
    exact m17x28 (fun _ f => f) k b0 b1

noncomputable def m17F19 (k : Nat) : Nat → Int → List Int → List Int → List Int → Option ((List Int) × (List Int) × Int)
  | 0, _, _, _, _ => none
  | j + 1, t7, b0, b1, b2 => m17X19 (m17F20 k (m17F19 k j)) (m17F28 k) k t7 b0 b1 b2

theorem m17q19 (k : Nat) : ∀ (j : Nat) (t7 : Int) (b0 : List Int) (b1 : List Int) (b2 : List Int), loopN (normAt 0 m17A true (m17c [true, true, true, true, true, true, false, true, true, true])) (fun K s => evC (m17E k) (fun _ f => f) (m17I k) 0 m17A (m17c [true, true, true, true, true, true, false, true, true, true]) s K) (m17K12 (fun _ f => f) k) j (m17S19 t7 b0 b1 b2) = m17F19 k j t7 b0 b1 b2
  | 0, _, _, _, _ => rfl
  | j + 1, t7, b0, b1, b2 => by
    have e0 : m17F19 k j = (fun t7' b0' b1' b2' => loopN (normAt 0 m17A true (m17c [true, true, true, true, true, true, false, true, true, true])) (fun K s => evC (m17E k) (fun _ f => f) (m17I k) 0 m17A (m17c [true, true, true, true, true, true, false, true, true, true]) s K) (m17K12 (fun _ f => f) k) j (m17S19 t7' b0' b1' b2')) := funext fun t7' => funext fun b0' => funext fun b1' => funext fun b2' => (m17q19 k j t7' b0' b1' b2').symm
    have e20 : m17F20 k (fun t7' b0' b1' b2' => loopN (normAt 0 m17A true (m17c [true, true, true, true, true, true, false, true, true, true])) (fun K s => evC (m17E k) (fun _ f => f) (m17I k) 0 m17A (m17c [true, true, true, true, true, true, false, true, true, true]) s K) (m17K12 (fun _ f => f) k) j (m17S19 t7' b0' b1' b2')) = (fun t7' b0' b1' b2' => evC (m17E k) (fun _ f => f) (m17I k) 0 m17A (m17c [true, true, true, true, true, true, false, true, true, true, true, true]) (m17S20 t7' b0' b1' b2') (m17K13 (fun _ f => f) k (loopN (normAt 0 m17A true (m17c [true, true, true, true, true, true, false, true, true, true])) (fun K s => evC (m17E k) (fun _ f => f) (m17I k) 0 m17A (m17c [true, true, true, true, true, true, false, true, true, true]) s K) (m17K12 (fun _ f => f) k) j))) := funext fun t7' => funext fun b0' => funext fun b1' => funext fun b2' => (m17q20 k (loopN (normAt 0 m17A true (m17c [true, true, true, true, true, true, false, true, true, true])) (fun K s => evC (m17E k) (fun _ f => f) (m17I k) 0 m17A (m17c [true, true, true, true, true, true, false, true, true, true]) s K) (m17K12 (fun _ f => f) k) j) t7' b0' b1' b2').symm
    have e28 : m17F28 k = (fun b0' b1' => evC (m17E k) (fun _ f => f) (m17I k) 0 m17A (m17c [true, true, true, true, true, true, true]) (m17S28 b0' b1') (retK Try.prog Try.f17 [.leaf (.own (.int .i64) 3), .leaf (.own (.int .i64) 3), .leaf (.val (.int .i64))])) := funext fun b0' => funext fun b1' => (m17q28 k b0' b1').symm
    show _ = m17X19 (m17F20 k (m17F19 k j)) (m17F28 k) k t7 b0 b1 b2
    rw [e0, e20, e28]
    exact m17x19 (fun _ f => f) k (loopN (normAt 0 m17A true (m17c [true, true, true, true, true, true, false, true, true, true])) (fun K s => evC (m17E k) (fun _ f => f) (m17I k) 0 m17A (m17c [true, true, true, true, true, true, false, true, true, true]) s K) (m17K12 (fun _ f => f) k) j) t7 b0 b1 b2

noncomputable def m17F (k : Nat) (p0 : (List Int)) (p1 : (List Int)) : Option ((List Int) × (List Int) × Int) := m17X (m17F19 k k) k p0 p1

theorem m17q (k : Nat) (p0 : (List Int)) (p1 : (List Int)) : evC (m17E k) (fun _ f => f) (m17I k) 0 m17A (m17c []) (stAt Try.f17 (argSs [.leaf (.val (.row (.int .i64))), .leaf (.val (.row (.int .i64)))] (p0, p1)) (fun _ => none) 0) (retK Try.prog Try.f17 [.leaf (.own (.int .i64) 3), .leaf (.own (.int .i64) 3), .leaf (.val (.int .i64))]) = m17F k p0 p1 := by
    have e19 : m17F19 k k = (fun t7' b0' b1' b2' => loopN (normAt 0 m17A true (m17c [true, true, true, true, true, true, false, true, true, true])) (fun K s => evC (m17E k) (fun _ f => f) (m17I k) 0 m17A (m17c [true, true, true, true, true, true, false, true, true, true]) s K) (m17K12 (fun _ f => f) k) k (m17S19 t7' b0' b1' b2')) := funext fun t7' => funext fun b0' => funext fun b1' => funext fun b2' => (m17q19 k k t7' b0' b1' b2').symm
    show _ = m17X (m17F19 k k) k p0 p1
    rw [e19]
    exact m17x (fun _ f => f) k p0 p1

noncomputable def m17sp : Spec := { ps := [.leaf (.val (.row (.int .i64))), .leaf (.val (.row (.int .i64)))], rs := [.leaf (.own (.int .i64) 3), .leaf (.own (.int .i64) 3), .leaf (.val (.int .i64))], f := fun k a => m17F k a.1 a.2 }

theorem m17ok (k : Nat) : EnvOk (m17E k) := envOk_of (l := [(21, m21sp), (24, m24sp)]) (lB := [(23, m23sp)]) progNames progMixed rfl rfl (.cons ⟨m21con k, Try.f21, by kernel_rfl, by kernel_rfl⟩ (.cons ⟨m24con k, Try.f24, by kernel_rfl, by kernel_rfl⟩ (.nil))) (.cons ⟨m23con k, Try.f23, by kernel_rfl, by kernel_rfl⟩ (.nil))

theorem m17con (k : Nat) : Contract Try.prog k 17 m17sp := contract_of (E := m17E k) (m17ok k) (A := only 17 m17A) (d := 3) (c := m17c []) (by kernel_rfl) (by kernel_rfl) fun a _ h => (m17q k a.1 a.2).trans h

noncomputable def m12A : Anns := tabA []
noncomputable def m12E (k : Nat) : Env := { P := Try.prog, k := k, G := tabG [(11, m11sp), (17, m17sp)], GB := tabGB [] }
noncomputable def m12c (p : List Bool) : Code := sub p (bodyOf Try.f12)
noncomputable def m12I (k : Nat) : Inl Bool := inlOf (m12E k) (only 12 m12A) 3
noncomputable def m12K0 (M : Cut Bool) (k : Nat) : Exit → St → Option Bool := seqK (normAt 0 m12A false (m12c [true])) (cutK M m12A (m12c [true]) fun s => evC (m12E k) M (m12I k) 0 m12A (m12c [true]) s (retK Try.prog Try.f12 [.leaf (.val .bool)])) (retK Try.prog Try.f12 [.leaf (.val .bool)])
noncomputable def m12K1 (M : Cut Bool) (k : Nat) : Exit → St → Option Bool := seqK (normAt 0 m12A false (m12c [true, true])) (cutK M m12A (m12c [true, true]) fun s => evC (m12E k) M (m12I k) 0 m12A (m12c [true, true]) s (retK Try.prog Try.f12 [.leaf (.val .bool)])) (retK Try.prog Try.f12 [.leaf (.val .bool)])
noncomputable def m12K2 (M : Cut Bool) (k : Nat) : Exit → St → Option Bool := seqK (normAt 0 m12A false (m12c [true, true, true])) (cutK M m12A (m12c [true, true, true]) fun s => evC (m12E k) M (m12I k) 0 m12A (m12c [true, true, true]) s (retK Try.prog Try.f12 [.leaf (.val .bool)])) (retK Try.prog Try.f12 [.leaf (.val .bool)])

noncomputable def m12X (k : Nat) : Option Bool := (Option.bind (m17F k (List.set (List.set (List.set (List.replicate 3 0) 0 1) 1 0) 2 1)
  (List.set (List.set (List.replicate 2 0) 0 1) 1 1)) fun (c2 : ((List Int) × ((List Int) × Int))) => (if eqI (Prod.snd (Prod.snd c2)) 0 = true then (Option.bind (m11F k (Prod.fst c2) (List.set (List.set (List.replicate 2 0) 0 1) 1 1)) fun (c3 : Bool) => (if c3 = true then some (eqI (↑(List.length (Prod.fst (Prod.snd c2))) : Int) 0) else some (false))) else some (false)))

theorem m12x (M : Cut Bool) (k : Nat) : evC (m12E k) M (m12I k) 0 m12A (m12c []) (stAt Try.f12 (argSs [] ()) (fun _ => none) 0) (retK Try.prog Try.f12 [.leaf (.val .bool)]) = m12X k := by kernel_rfl

noncomputable def m12F (k : Nat) : Option Bool := m12X k

theorem m12q (k : Nat) : evC (m12E k) (fun _ f => f) (m12I k) 0 m12A (m12c []) (stAt Try.f12 (argSs [] ()) (fun _ => none) 0) (retK Try.prog Try.f12 [.leaf (.val .bool)]) = m12F k := by
    show _ = m12X k
    exact m12x (fun _ f => f) k

noncomputable def m12sp : Spec := { ps := [], rs := [.leaf (.val .bool)], f := fun k a => m12F k }

theorem m12ok (k : Nat) : EnvOk (m12E k) := envOk_of (l := [(11, m11sp), (17, m17sp)]) (lB := []) progNames progMixed rfl rfl (.cons ⟨m11con k, Try.f11, by kernel_rfl, by kernel_rfl⟩ (.cons ⟨m17con k, Try.f17, by kernel_rfl, by kernel_rfl⟩ (.nil))) (.nil)

theorem m12con (k : Nat) : Contract Try.prog k 12 m12sp := contract_of (E := m12E k) (m12ok k) (A := only 12 m12A) (d := 3) (c := m12c []) (by kernel_rfl) (by kernel_rfl) fun a _ h => (m12q k).trans h

noncomputable def m13A : Anns := tabA []
noncomputable def m13E (k : Nat) : Env := { P := Try.prog, k := k, G := tabG [], GB := tabGB [] }
noncomputable def m13c (p : List Bool) : Code := sub p (bodyOf Try.f13)
noncomputable def m13I (k : Nat) : Inl (List Int) := inlOf (m13E k) (only 13 m13A) 3
noncomputable def m13K0 (M : Cut (List Int)) (k : Nat) : Exit → St → Option (List Int) := seqK (normAt 0 m13A false (m13c [true])) (cutK M m13A (m13c [true]) fun s => evC (m13E k) M (m13I k) 0 m13A (m13c [true]) s (retK Try.prog Try.f13 [.leaf (.own (.int .i64) 3)])) (retK Try.prog Try.f13 [.leaf (.own (.int .i64) 3)])
noncomputable def m13K1 (M : Cut (List Int)) (k : Nat) : Exit → St → Option (List Int) := seqK (normAt 0 m13A false (m13c [true, true])) (cutK M m13A (m13c [true, true]) fun s => evC (m13E k) M (m13I k) 0 m13A (m13c [true, true]) s (retK Try.prog Try.f13 [.leaf (.own (.int .i64) 3)])) (retK Try.prog Try.f13 [.leaf (.own (.int .i64) 3)])
noncomputable def m13K2 (M : Cut (List Int)) (k : Nat) : Exit → St → Option (List Int) := seqK (normAt 0 m13A false (m13c [true, true, true])) (cutK M m13A (m13c [true, true, true]) fun s => evC (m13E k) M (m13I k) 0 m13A (m13c [true, true, true]) s (retK Try.prog Try.f13 [.leaf (.own (.int .i64) 3)])) (retK Try.prog Try.f13 [.leaf (.own (.int .i64) 3)])

noncomputable def m13X (k : Nat) (p0 : (List Int)) : Option (List Int) := (if leI (↑(List.length p0 * 8) : Int) 140737488355328 = true then some p0 else none)

theorem m13x (M : Cut (List Int)) (k : Nat) (p0 : (List Int)) : evC (m13E k) M (m13I k) 0 m13A (m13c []) (stAt Try.f13 (argSs [.leaf (.val (.row (.int .i64)))] p0) (fun _ => none) 0) (retK Try.prog Try.f13 [.leaf (.own (.int .i64) 3)]) = m13X k p0 := by kernel_rfl

noncomputable def m13F (k : Nat) (p0 : (List Int)) : Option (List Int) := m13X k p0

theorem m13q (k : Nat) (p0 : (List Int)) : evC (m13E k) (fun _ f => f) (m13I k) 0 m13A (m13c []) (stAt Try.f13 (argSs [.leaf (.val (.row (.int .i64)))] p0) (fun _ => none) 0) (retK Try.prog Try.f13 [.leaf (.own (.int .i64) 3)]) = m13F k p0 := by
    show _ = m13X k p0
    exact m13x (fun _ f => f) k p0

noncomputable def m13sp : Spec := { ps := [.leaf (.val (.row (.int .i64)))], rs := [.leaf (.own (.int .i64) 3)], f := fun k a => m13F k a }

theorem m13ok (k : Nat) : EnvOk (m13E k) := envOk_of (l := []) (lB := []) progNames progMixed rfl rfl (.nil) (.nil)

theorem m13con (k : Nat) : Contract Try.prog k 13 m13sp := contract_of (E := m13E k) (m13ok k) (A := only 13 m13A) (d := 3) (c := m13c []) (by kernel_rfl) (by kernel_rfl) fun a _ h => (m13q k a).trans h

noncomputable def m25A : Anns := tabA [(5, { keep := [0, 1, 2, 7] })]
noncomputable def m25E (k : Nat) : Env := { P := Try.prog, k := k, G := tabG [], GB := tabGB [] }
noncomputable def m25c (p : List Bool) : Code := sub p (bodyOf Try.f25)
noncomputable def m25I (k : Nat) : Inl Bool := inlOf (m25E k) (only 25 m25A) 3
noncomputable def m25K0 (M : Cut Bool) (k : Nat) : Exit → St → Option Bool := seqK (normAt 0 m25A false (m25c [true])) (cutK M m25A (m25c [true]) fun s => evC (m25E k) M (m25I k) 0 m25A (m25c [true]) s (retK Try.prog Try.f25 [.leaf (.val .bool)])) (retK Try.prog Try.f25 [.leaf (.val .bool)])
noncomputable def m25K1 (M : Cut Bool) (k : Nat) : Exit → St → Option Bool := seqK (normAt 0 m25A false (m25c [true, true])) (cutK M m25A (m25c [true, true]) fun s => evC (m25E k) M (m25I k) 0 m25A (m25c [true, true]) s (retK Try.prog Try.f25 [.leaf (.val .bool)])) (retK Try.prog Try.f25 [.leaf (.val .bool)])
noncomputable def m25K2 (M : Cut Bool) (k : Nat) : Exit → St → Option Bool := seqK (normAt 0 m25A false (m25c [true, false, true])) (cutK M m25A (m25c [true, false, true]) fun s => evC (m25E k) M (m25I k) 0 m25A (m25c [true, false, true]) s (m25K1 M k)) (m25K1 M k)
noncomputable def m25K3 (M : Cut Bool) (k : Nat) : Exit → St → Option Bool := blockK 0 (m25K1 M k)
noncomputable def m25K4 (M : Cut Bool) (k : Nat) (L5 : St → Option Bool) : Exit → St → Option Bool := seqK (normAt 0 m25A true (m25c [true, false, true, true, true])) L5 (m25K3 M k)
noncomputable def m25K5 (M : Cut Bool) (k : Nat) (L5 : St → Option Bool) : Exit → St → Option Bool := seqK (normAt 0 m25A false (m25c [true, false, true, true, true, true])) (cutK M m25A (m25c [true, false, true, true, true, true]) fun s => evC (m25E k) M (m25I k) 0 m25A (m25c [true, false, true, true, true, true]) s (m25K4 M k L5)) (m25K4 M k L5)
noncomputable def m25K6 (M : Cut Bool) (k : Nat) (L5 : St → Option Bool) : Exit → St → Option Bool := seqK (normAt 0 m25A false (m25c [true, false, true, true, true, false, true])) (cutK M m25A (m25c [true, false, true, true, true, false, true]) fun s => evC (m25E k) M (m25I k) 0 m25A (m25c [true, false, true, true, true, false, true]) s (m25K5 M k L5)) (m25K5 M k L5)
noncomputable def m25K7 (M : Cut Bool) (k : Nat) (L5 : St → Option Bool) : Exit → St → Option Bool := seqK (normAt 0 m25A false (m25c [true, false, true, true, true, true, true])) (cutK M m25A (m25c [true, false, true, true, true, true, true]) fun s => evC (m25E k) M (m25I k) 0 m25A (m25c [true, false, true, true, true, true, true]) s (m25K4 M k L5)) (m25K4 M k L5)
noncomputable def m25K8 (M : Cut Bool) (k : Nat) (L5 : St → Option Bool) : Exit → St → Option Bool := blockK 1 (m25K7 M k L5)
noncomputable def m25K9 (M : Cut Bool) (k : Nat) (L5 : St → Option Bool) : Exit → St → Option Bool := seqK (normAt 0 m25A false (m25c [true, false, true, true, true, true, false, true, true])) (cutK M m25A (m25c [true, false, true, true, true, true, false, true, true]) fun s => evC (m25E k) M (m25I k) 0 m25A (m25c [true, false, true, true, true, true, false, true, true]) s (m25K8 M k L5)) (m25K8 M k L5)
noncomputable def m25K10 (M : Cut Bool) (k : Nat) (L5 : St → Option Bool) : Exit → St → Option Bool := seqK (normAt 0 m25A false (m25c [true, false, true, true, true, true, false, true, true, false, true])) (cutK M m25A (m25c [true, false, true, true, true, true, false, true, true, false, true]) fun s => evC (m25E k) M (m25I k) 0 m25A (m25c [true, false, true, true, true, true, false, true, true, false, true]) s (m25K8 M k L5)) (m25K8 M k L5)
noncomputable def m25K11 (M : Cut Bool) (k : Nat) : Exit → St → Option Bool := seqK (normAt 0 m25A false (m25c [true, true, true])) (cutK M m25A (m25c [true, true, true]) fun s => evC (m25E k) M (m25I k) 0 m25A (m25c [true, true, true]) s (retK Try.prog Try.f25 [.leaf (.val .bool)])) (retK Try.prog Try.f25 [.leaf (.val .bool)])
noncomputable def m25S5 (t0 : List Int) (t1 : Int) (t2 : Int) (t7 : Int) : St := { n := 28, tm := slots [(0, .row (.int .i64) t0), (1, .int .i64 t1), (2, .int .i64 t2), (7, .int .i64 t7)], tab := blks [], nx := 0 }

noncomputable def m25X (X5 : List Int → Int → Int → Int → Option Bool) (k : Nat) (p0 : (List Int)) (p1 : Int) (p2 : Int) : Option Bool := X5 p0 p1 p2 (0)

theorem m25x (M : Cut Bool) (k : Nat) (p0 : (List Int)) (p1 : Int) (p2 : Int) : evC (m25E k) M (m25I k) 0 m25A (m25c []) (stAt Try.f25 (argSs [.leaf (.val (.row (.int .i64))), .leaf (.val (.int .i64)), .leaf (.val (.int .i64))] (p0, p1, p2)) (fun _ => none) 0) (retK Try.prog Try.f25 [.leaf (.val .bool)]) = m25X (fun t0' t1' t2' t7' => loopN (normAt 0 m25A true (m25c [true, false, true, true, true])) (fun K s => evC (m25E k) M (m25I k) 0 m25A (m25c [true, false, true, true, true]) s K) (m25K3 M k) k (m25S5 t0' t1' t2' t7')) k p0 p1 p2 := by kernel_rfl

noncomputable def m25X5 (L5 : List Int → Int → Int → Int → Option Bool) (k : Nat) (t0 : List Int) (t1 : Int) (t2 : Int) (t7 : Int) : Option Bool := (if ltI t7 (↑(List.length t0) : Int) = true then (if leI 0 t7 = true then (if ltI t7 (↑(List.length t0) : Int) = true then (if ltI (List.getD t0 (Int.toNat t7) 0) t1 = true then some (false) else (if leI 0 t7 = true then (if ltI t7 (↑(List.length t0) : Int) = true then (if ltI t2 (List.getD t0 (Int.toNat t7) 0) = true then some (false) else L5 t0 t1 t2 (wr IntKind.i64 (t7 + 1))) else none) else none)) else none) else none) else some (true))

theorem m25x5 (M : Cut Bool) (k : Nat) (L5 : St → Option Bool) (t0 : List Int) (t1 : Int) (t2 : Int) (t7 : Int) : evC (m25E k) M (m25I k) 0 m25A (m25c [true, false, true, true, true]) (m25S5 t0 t1 t2 t7) (seqK (normAt 0 m25A true (m25c [true, false, true, true, true])) L5 (m25K3 M k)) = m25X5 (fun t0' t1' t2' t7' => L5 (m25S5 t0' t1' t2' t7')) k t0 t1 t2 t7 := by kernel_rfl

noncomputable def m25F5 (k : Nat) : Nat → List Int → Int → Int → Int → Option Bool
  | 0, _, _, _, _ => none
  | j + 1, t0, t1, t2, t7 => m25X5 (m25F5 k j) k t0 t1 t2 t7

theorem m25q5 (k : Nat) : ∀ (j : Nat) (t0 : List Int) (t1 : Int) (t2 : Int) (t7 : Int), loopN (normAt 0 m25A true (m25c [true, false, true, true, true])) (fun K s => evC (m25E k) (fun _ f => f) (m25I k) 0 m25A (m25c [true, false, true, true, true]) s K) (m25K3 (fun _ f => f) k) j (m25S5 t0 t1 t2 t7) = m25F5 k j t0 t1 t2 t7
  | 0, _, _, _, _ => rfl
  | j + 1, t0, t1, t2, t7 => by
    have e0 : m25F5 k j = (fun t0' t1' t2' t7' => loopN (normAt 0 m25A true (m25c [true, false, true, true, true])) (fun K s => evC (m25E k) (fun _ f => f) (m25I k) 0 m25A (m25c [true, false, true, true, true]) s K) (m25K3 (fun _ f => f) k) j (m25S5 t0' t1' t2' t7')) := funext fun t0' => funext fun t1' => funext fun t2' => funext fun t7' => (m25q5 k j t0' t1' t2' t7').symm
    show _ = m25X5 (m25F5 k j) k t0 t1 t2 t7
    rw [e0]
    exact m25x5 (fun _ f => f) k (loopN (normAt 0 m25A true (m25c [true, false, true, true, true])) (fun K s => evC (m25E k) (fun _ f => f) (m25I k) 0 m25A (m25c [true, false, true, true, true]) s K) (m25K3 (fun _ f => f) k) j) t0 t1 t2 t7

noncomputable def m25F (k : Nat) (p0 : (List Int)) (p1 : Int) (p2 : Int) : Option Bool := m25X (m25F5 k k) k p0 p1 p2

theorem m25q (k : Nat) (p0 : (List Int)) (p1 : Int) (p2 : Int) : evC (m25E k) (fun _ f => f) (m25I k) 0 m25A (m25c []) (stAt Try.f25 (argSs [.leaf (.val (.row (.int .i64))), .leaf (.val (.int .i64)), .leaf (.val (.int .i64))] (p0, p1, p2)) (fun _ => none) 0) (retK Try.prog Try.f25 [.leaf (.val .bool)]) = m25F k p0 p1 p2 := by
    have e5 : m25F5 k k = (fun t0' t1' t2' t7' => loopN (normAt 0 m25A true (m25c [true, false, true, true, true])) (fun K s => evC (m25E k) (fun _ f => f) (m25I k) 0 m25A (m25c [true, false, true, true, true]) s K) (m25K3 (fun _ f => f) k) k (m25S5 t0' t1' t2' t7')) := funext fun t0' => funext fun t1' => funext fun t2' => funext fun t7' => (m25q5 k k t0' t1' t2' t7').symm
    show _ = m25X (m25F5 k k) k p0 p1 p2
    rw [e5]
    exact m25x (fun _ f => f) k p0 p1 p2

noncomputable def m25sp : Spec := { ps := [.leaf (.val (.row (.int .i64))), .leaf (.val (.int .i64)), .leaf (.val (.int .i64))], rs := [.leaf (.val .bool)], f := fun k a => m25F k a.1 a.2.1 a.2.2 }

theorem m25ok (k : Nat) : EnvOk (m25E k) := envOk_of (l := []) (lB := []) progNames progMixed rfl rfl (.nil) (.nil)

theorem m25con (k : Nat) : Contract Try.prog k 25 m25sp := contract_of (E := m25E k) (m25ok k) (A := only 25 m25A) (d := 3) (c := m25c []) (by kernel_rfl) (by kernel_rfl) fun a _ h => (m25q k a.1 a.2.1 a.2.2).trans h

noncomputable def m14A : Anns := tabA []
noncomputable def m14E (k : Nat) : Env := { P := Try.prog, k := k, G := tabG [(25, m25sp)], GB := tabGB [] }
noncomputable def m14c (p : List Bool) : Code := sub p (bodyOf Try.f14)
noncomputable def m14I (k : Nat) : Inl Int := inlOf (m14E k) (only 14 m14A) 3
noncomputable def m14K0 (M : Cut Int) (k : Nat) : Exit → St → Option Int := seqK (normAt 0 m14A false (m14c [true])) (cutK M m14A (m14c [true]) fun s => evC (m14E k) M (m14I k) 0 m14A (m14c [true]) s (retK Try.prog Try.f14 [.leaf (.val (.int .i64))])) (retK Try.prog Try.f14 [.leaf (.val (.int .i64))])
noncomputable def m14K1 (M : Cut Int) (k : Nat) : Exit → St → Option Int := seqK (normAt 0 m14A false (m14c [true, true])) (cutK M m14A (m14c [true, true]) fun s => evC (m14E k) M (m14I k) 0 m14A (m14c [true, true]) s (retK Try.prog Try.f14 [.leaf (.val (.int .i64))])) (retK Try.prog Try.f14 [.leaf (.val (.int .i64))])
noncomputable def m14K2 (M : Cut Int) (k : Nat) : Exit → St → Option Int := seqK (normAt 0 m14A false (m14c [true, false, true])) (cutK M m14A (m14c [true, false, true]) fun s => evC (m14E k) M (m14I k) 0 m14A (m14c [true, false, true]) s (m14K1 M k)) (m14K1 M k)
noncomputable def m14K3 (M : Cut Int) (k : Nat) : Exit → St → Option Int := seqK (normAt 0 m14A false (m14c [true, false, true, false, true])) (cutK M m14A (m14c [true, false, true, false, true]) fun s => evC (m14E k) M (m14I k) 0 m14A (m14c [true, false, true, false, true]) s (m14K1 M k)) (m14K1 M k)
noncomputable def m14K4 (M : Cut Int) (k : Nat) : Exit → St → Option Int := seqK (normAt 0 m14A false (m14c [true, true, true])) (cutK M m14A (m14c [true, true, true]) fun s => evC (m14E k) M (m14I k) 0 m14A (m14c [true, true, true]) s (retK Try.prog Try.f14 [.leaf (.val (.int .i64))])) (retK Try.prog Try.f14 [.leaf (.val (.int .i64))])
noncomputable def m14K5 (M : Cut Int) (k : Nat) : Exit → St → Option Int := seqK (normAt 0 m14A false (m14c [true, true, false, true])) (cutK M m14A (m14c [true, true, false, true]) fun s => evC (m14E k) M (m14I k) 0 m14A (m14c [true, true, false, true]) s (m14K4 M k)) (m14K4 M k)
noncomputable def m14K6 (M : Cut Int) (k : Nat) : Exit → St → Option Int := seqK (normAt 0 m14A false (m14c [true, true, false, true, false, true])) (cutK M m14A (m14c [true, true, false, true, false, true]) fun s => evC (m14E k) M (m14I k) 0 m14A (m14c [true, true, false, true, false, true]) s (m14K4 M k)) (m14K4 M k)
noncomputable def m14K7 (M : Cut Int) (k : Nat) : Exit → St → Option Int := seqK (normAt 0 m14A false (m14c [true, true, true, true])) (cutK M m14A (m14c [true, true, true, true]) fun s => evC (m14E k) M (m14I k) 0 m14A (m14c [true, true, true, true]) s (retK Try.prog Try.f14 [.leaf (.val (.int .i64))])) (retK Try.prog Try.f14 [.leaf (.val (.int .i64))])

noncomputable def m14X (k : Nat) (p0 : (List Int)) : Option Int := (if ltI 32768 (↑(List.length p0) : Int) = true then some (2) else (Option.bind (m25F k p0 0 1) fun (c3 : Bool) => (if (!c3) = true then some (1) else some (0))))

theorem m14x (M : Cut Int) (k : Nat) (p0 : (List Int)) : evC (m14E k) M (m14I k) 0 m14A (m14c []) (stAt Try.f14 (argSs [.leaf (.val (.row (.int .i64)))] p0) (fun _ => none) 0) (retK Try.prog Try.f14 [.leaf (.val (.int .i64))]) = m14X k p0 := by kernel_rfl

noncomputable def m14F (k : Nat) (p0 : (List Int)) : Option Int := m14X k p0

theorem m14q (k : Nat) (p0 : (List Int)) : evC (m14E k) (fun _ f => f) (m14I k) 0 m14A (m14c []) (stAt Try.f14 (argSs [.leaf (.val (.row (.int .i64)))] p0) (fun _ => none) 0) (retK Try.prog Try.f14 [.leaf (.val (.int .i64))]) = m14F k p0 := by
    show _ = m14X k p0
    exact m14x (fun _ f => f) k p0

noncomputable def m14sp : Spec := { ps := [.leaf (.val (.row (.int .i64)))], rs := [.leaf (.val (.int .i64))], f := fun k a => m14F k a }

theorem m14ok (k : Nat) : EnvOk (m14E k) := envOk_of (l := [(25, m25sp)]) (lB := []) progNames progMixed rfl rfl (.cons ⟨m25con k, Try.f25, by kernel_rfl, by kernel_rfl⟩ (.nil)) (.nil)

theorem m14con (k : Nat) : Contract Try.prog k 14 m14sp := contract_of (E := m14E k) (m14ok k) (A := only 14 m14A) (d := 3) (c := m14c []) (by kernel_rfl) (by kernel_rfl) fun a _ h => (m14q k a).trans h

noncomputable def m15A : Anns := tabA []
noncomputable def m15E (k : Nat) : Env := { P := Try.prog, k := k, G := tabG [(21, m21sp), (24, m24sp)], GB := tabGB [] }
noncomputable def m15c (p : List Bool) : Code := sub p (bodyOf Try.f15)
noncomputable def m15I (k : Nat) : Inl ((List Int) × Int) := inlOf (m15E k) (only 15 m15A) 3
noncomputable def m15K0 (M : Cut ((List Int) × Int)) (k : Nat) : Exit → St → Option ((List Int) × Int) := seqK (normAt 0 m15A false (m15c [true])) (cutK M m15A (m15c [true]) fun s => evC (m15E k) M (m15I k) 0 m15A (m15c [true]) s (retK Try.prog Try.f15 [.leaf (.own (.int .i64) 3), .leaf (.val (.int .i64))])) (retK Try.prog Try.f15 [.leaf (.own (.int .i64) 3), .leaf (.val (.int .i64))])
noncomputable def m15K1 (M : Cut ((List Int) × Int)) (k : Nat) : Exit → St → Option ((List Int) × Int) := seqK (normAt 0 m15A false (m15c [true, true])) (cutK M m15A (m15c [true, true]) fun s => evC (m15E k) M (m15I k) 0 m15A (m15c [true, true]) s (retK Try.prog Try.f15 [.leaf (.own (.int .i64) 3), .leaf (.val (.int .i64))])) (retK Try.prog Try.f15 [.leaf (.own (.int .i64) 3), .leaf (.val (.int .i64))])
noncomputable def m15K2 (M : Cut ((List Int) × Int)) (k : Nat) : Exit → St → Option ((List Int) × Int) := seqK (normAt 0 m15A false (m15c [true, true, true])) (cutK M m15A (m15c [true, true, true]) fun s => evC (m15E k) M (m15I k) 0 m15A (m15c [true, true, true]) s (retK Try.prog Try.f15 [.leaf (.own (.int .i64) 3), .leaf (.val (.int .i64))])) (retK Try.prog Try.f15 [.leaf (.own (.int .i64) 3), .leaf (.val (.int .i64))])
noncomputable def m15K3 (M : Cut ((List Int) × Int)) (k : Nat) : Exit → St → Option ((List Int) × Int) := seqK (normAt 0 m15A false (m15c [true, true, false, true])) (cutK M m15A (m15c [true, true, false, true]) fun s => evC (m15E k) M (m15I k) 0 m15A (m15c [true, true, false, true]) s (m15K2 M k)) (m15K2 M k)
noncomputable def m15K4 (M : Cut ((List Int) × Int)) (k : Nat) : Exit → St → Option ((List Int) × Int) := seqK (normAt 0 m15A false (m15c [true, true, false, true, false, true])) (cutK M m15A (m15c [true, true, false, true, false, true]) fun s => evC (m15E k) M (m15I k) 0 m15A (m15c [true, true, false, true, false, true]) s (m15K2 M k)) (m15K2 M k)
noncomputable def m15K5 (M : Cut ((List Int) × Int)) (k : Nat) : Exit → St → Option ((List Int) × Int) := seqK (normAt 0 m15A false (m15c [true, true, true, true])) (cutK M m15A (m15c [true, true, true, true]) fun s => evC (m15E k) M (m15I k) 0 m15A (m15c [true, true, true, true]) s (retK Try.prog Try.f15 [.leaf (.own (.int .i64) 3), .leaf (.val (.int .i64))])) (retK Try.prog Try.f15 [.leaf (.own (.int .i64) 3), .leaf (.val (.int .i64))])

noncomputable def m15X (k : Nat) (p0 : (List Int)) : Option ((List Int) × Int) := (Option.bind (m21F k (List.set (List.replicate 1 []) 0 p0)) fun (c3 : Int) => (if (!eqI c3 0) = true then some (([], c3)) else (Option.bind (m24F k p0) fun (c4 : (List Int)) => some ((c4, 0)))))

theorem m15x (M : Cut ((List Int) × Int)) (k : Nat) (p0 : (List Int)) : evC (m15E k) M (m15I k) 0 m15A (m15c []) (stAt Try.f15 (argSs [.leaf (.val (.row (.int .i64)))] p0) (fun _ => none) 0) (retK Try.prog Try.f15 [.leaf (.own (.int .i64) 3), .leaf (.val (.int .i64))]) = m15X k p0 := by kernel_rfl

noncomputable def m15F (k : Nat) (p0 : (List Int)) : Option ((List Int) × Int) := m15X k p0

theorem m15q (k : Nat) (p0 : (List Int)) : evC (m15E k) (fun _ f => f) (m15I k) 0 m15A (m15c []) (stAt Try.f15 (argSs [.leaf (.val (.row (.int .i64)))] p0) (fun _ => none) 0) (retK Try.prog Try.f15 [.leaf (.own (.int .i64) 3), .leaf (.val (.int .i64))]) = m15F k p0 := by
    show _ = m15X k p0
    exact m15x (fun _ f => f) k p0

noncomputable def m15sp : Spec := { ps := [.leaf (.val (.row (.int .i64)))], rs := [.leaf (.own (.int .i64) 3), .leaf (.val (.int .i64))], f := fun k a => m15F k a }

theorem m15ok (k : Nat) : EnvOk (m15E k) := envOk_of (l := [(21, m21sp), (24, m24sp)]) (lB := []) progNames progMixed rfl rfl (.cons ⟨m21con k, Try.f21, by kernel_rfl, by kernel_rfl⟩ (.cons ⟨m24con k, Try.f24, by kernel_rfl, by kernel_rfl⟩ (.nil))) (.nil)

theorem m15con (k : Nat) : Contract Try.prog k 15 m15sp := contract_of (E := m15E k) (m15ok k) (A := only 15 m15A) (d := 3) (c := m15c []) (by kernel_rfl) (by kernel_rfl) fun a _ h => (m15q k a).trans h

noncomputable def m16A : Anns := tabA [(5, { keep := [0, 3] })]
noncomputable def m16E (k : Nat) : Env := { P := Try.prog, k := k, G := tabG [(13, m13sp)], GB := tabGB [] }
noncomputable def m16c (p : List Bool) : Code := sub p (bodyOf Try.f16)
noncomputable def m16I (k : Nat) : Inl (List Int) := inlOf (m16E k) (only 16 m16A) 3
noncomputable def m16K0 (M : Cut (List Int)) (k : Nat) : Exit → St → Option (List Int) := seqK (normAt 0 m16A false (m16c [true])) (cutK M m16A (m16c [true]) fun s => evC (m16E k) M (m16I k) 0 m16A (m16c [true]) s (retK Try.prog Try.f16 [.leaf (.own (.int .i64) 3)])) (retK Try.prog Try.f16 [.leaf (.own (.int .i64) 3)])
noncomputable def m16K1 (M : Cut (List Int)) (k : Nat) : Exit → St → Option (List Int) := seqK (normAt 0 m16A false (m16c [true, true])) (cutK M m16A (m16c [true, true]) fun s => evC (m16E k) M (m16I k) 0 m16A (m16c [true, true]) s (retK Try.prog Try.f16 [.leaf (.own (.int .i64) 3)])) (retK Try.prog Try.f16 [.leaf (.own (.int .i64) 3)])
noncomputable def m16K2 (M : Cut (List Int)) (k : Nat) : Exit → St → Option (List Int) := seqK (normAt 0 m16A false (m16c [true, false, true])) (cutK M m16A (m16c [true, false, true]) fun s => evC (m16E k) M (m16I k) 0 m16A (m16c [true, false, true]) s (m16K1 M k)) (m16K1 M k)
noncomputable def m16K3 (M : Cut (List Int)) (k : Nat) : Exit → St → Option (List Int) := blockK 0 (m16K1 M k)
noncomputable def m16K4 (M : Cut (List Int)) (k : Nat) (L5 : St → Option (List Int)) : Exit → St → Option (List Int) := seqK (normAt 0 m16A true (m16c [true, false, true, true, true])) L5 (m16K3 M k)
noncomputable def m16K5 (M : Cut (List Int)) (k : Nat) (L5 : St → Option (List Int)) : Exit → St → Option (List Int) := seqK (normAt 0 m16A false (m16c [true, false, true, true, true, true])) (cutK M m16A (m16c [true, false, true, true, true, true]) fun s => evC (m16E k) M (m16I k) 0 m16A (m16c [true, false, true, true, true, true]) s (m16K4 M k L5)) (m16K4 M k L5)
noncomputable def m16K6 (M : Cut (List Int)) (k : Nat) (L5 : St → Option (List Int)) : Exit → St → Option (List Int) := seqK (normAt 0 m16A false (m16c [true, false, true, true, true, false, true])) (cutK M m16A (m16c [true, false, true, true, true, false, true]) fun s => evC (m16E k) M (m16I k) 0 m16A (m16c [true, false, true, true, true, false, true]) s (m16K5 M k L5)) (m16K5 M k L5)
noncomputable def m16K7 (M : Cut (List Int)) (k : Nat) (L5 : St → Option (List Int)) : Exit → St → Option (List Int) := seqK (normAt 0 m16A false (m16c [true, false, true, true, true, true, true])) (cutK M m16A (m16c [true, false, true, true, true, true, true]) fun s => evC (m16E k) M (m16I k) 0 m16A (m16c [true, false, true, true, true, true, true]) s (m16K4 M k L5)) (m16K4 M k L5)
noncomputable def m16K8 (M : Cut (List Int)) (k : Nat) (L5 : St → Option (List Int)) : Exit → St → Option (List Int) := blockK 1 (m16K7 M k L5)
noncomputable def m16K9 (M : Cut (List Int)) (k : Nat) (L5 : St → Option (List Int)) : Exit → St → Option (List Int) := seqK (normAt 0 m16A false (m16c [true, false, true, true, true, true, false, true, true])) (cutK M m16A (m16c [true, false, true, true, true, true, false, true, true]) fun s => evC (m16E k) M (m16I k) 0 m16A (m16c [true, false, true, true, true, true, false, true, true]) s (m16K8 M k L5)) (m16K8 M k L5)
noncomputable def m16K10 (M : Cut (List Int)) (k : Nat) (L5 : St → Option (List Int)) : Exit → St → Option (List Int) := seqK (normAt 0 m16A false (m16c [true, false, true, true, true, true, false, true, true, false, true])) (cutK M m16A (m16c [true, false, true, true, true, true, false, true, true, false, true]) fun s => evC (m16E k) M (m16I k) 0 m16A (m16c [true, false, true, true, true, true, false, true, true, false, true]) s (m16K8 M k L5)) (m16K8 M k L5)
noncomputable def m16K11 (M : Cut (List Int)) (k : Nat) : Exit → St → Option (List Int) := seqK (normAt 0 m16A false (m16c [true, true, true])) (cutK M m16A (m16c [true, true, true]) fun s => evC (m16E k) M (m16I k) 0 m16A (m16c [true, true, true]) s (retK Try.prog Try.f16 [.leaf (.own (.int .i64) 3)])) (retK Try.prog Try.f16 [.leaf (.own (.int .i64) 3)])
noncomputable def m16S5 (t0 : List Int) (t3 : Int) : St := { n := 19, tm := slots [(0, .row (.int .i64) t0), (3, .int .i64 t3)], tab := blks [], nx := 0 }

noncomputable def m16X (X5 : List Int → Int → Option (List Int)) (k : Nat) (p0 : (List Int)) : Option (List Int) := X5 p0 (0)

theorem m16x (M : Cut (List Int)) (k : Nat) (p0 : (List Int)) : evC (m16E k) M (m16I k) 0 m16A (m16c []) (stAt Try.f16 (argSs [.leaf (.val (.row (.int .i64)))] p0) (fun _ => none) 0) (retK Try.prog Try.f16 [.leaf (.own (.int .i64) 3)]) = m16X (fun t0' t3' => loopN (normAt 0 m16A true (m16c [true, false, true, true, true])) (fun K s => evC (m16E k) M (m16I k) 0 m16A (m16c [true, false, true, true, true]) s K) (m16K3 M k) k (m16S5 t0' t3')) k p0 := by kernel_rfl

noncomputable def m16X5 (L5 : List Int → Int → Option (List Int)) (k : Nat) (t0 : List Int) (t3 : Int) : Option (List Int) := (if ltI t3 (↑(List.length t0) : Int) = true then (if leI 0 t3 = true then (if ltI t3 (↑(List.length t0) : Int) = true then (if eqI (List.getD t0 (Int.toNat t3) 0) 1 = true then (if leI 0 t3 = true then (if leI t3 (↑(List.length t0) : Int) = true then (Option.bind (m13F k (List.drop (Int.toNat t3) t0)) fun (c5 : (List Int)) => some c5) else none) else none) else L5 t0 (wr IntKind.i64 (t3 + 1))) else none) else none) else some ([]))

theorem m16x5 (M : Cut (List Int)) (k : Nat) (L5 : St → Option (List Int)) (t0 : List Int) (t3 : Int) : evC (m16E k) M (m16I k) 0 m16A (m16c [true, false, true, true, true]) (m16S5 t0 t3) (seqK (normAt 0 m16A true (m16c [true, false, true, true, true])) L5 (m16K3 M k)) = m16X5 (fun t0' t3' => L5 (m16S5 t0' t3')) k t0 t3 := by kernel_rfl

noncomputable def m16F5 (k : Nat) : Nat → List Int → Int → Option (List Int)
  | 0, _, _ => none
  | j + 1, t0, t3 => m16X5 (m16F5 k j) k t0 t3

theorem m16q5 (k : Nat) : ∀ (j : Nat) (t0 : List Int) (t3 : Int), loopN (normAt 0 m16A true (m16c [true, false, true, true, true])) (fun K s => evC (m16E k) (fun _ f => f) (m16I k) 0 m16A (m16c [true, false, true, true, true]) s K) (m16K3 (fun _ f => f) k) j (m16S5 t0 t3) = m16F5 k j t0 t3
  | 0, _, _ => rfl
  | j + 1, t0, t3 => by
    have e0 : m16F5 k j = (fun t0' t3' => loopN (normAt 0 m16A true (m16c [true, false, true, true, true])) (fun K s => evC (m16E k) (fun _ f => f) (m16I k) 0 m16A (m16c [true, false, true, true, true]) s K) (m16K3 (fun _ f => f) k) j (m16S5 t0' t3')) := funext fun t0' => funext fun t3' => (m16q5 k j t0' t3').symm
    show _ = m16X5 (m16F5 k j) k t0 t3
    rw [e0]
    exact m16x5 (fun _ f => f) k (loopN (normAt 0 m16A true (m16c [true, false, true, true, true])) (fun K s => evC (m16E k) (fun _ f => f) (m16I k) 0 m16A (m16c [true, false, true, true, true]) s K) (m16K3 (fun _ f => f) k) j) t0 t3

noncomputable def m16F (k : Nat) (p0 : (List Int)) : Option (List Int) := m16X (m16F5 k k) k p0

theorem m16q (k : Nat) (p0 : (List Int)) : evC (m16E k) (fun _ f => f) (m16I k) 0 m16A (m16c []) (stAt Try.f16 (argSs [.leaf (.val (.row (.int .i64)))] p0) (fun _ => none) 0) (retK Try.prog Try.f16 [.leaf (.own (.int .i64) 3)]) = m16F k p0 := by
    have e5 : m16F5 k k = (fun t0' t3' => loopN (normAt 0 m16A true (m16c [true, false, true, true, true])) (fun K s => evC (m16E k) (fun _ f => f) (m16I k) 0 m16A (m16c [true, false, true, true, true]) s K) (m16K3 (fun _ f => f) k) k (m16S5 t0' t3')) := funext fun t0' => funext fun t3' => (m16q5 k k t0' t3').symm
    show _ = m16X (m16F5 k k) k p0
    rw [e5]
    exact m16x (fun _ f => f) k p0

noncomputable def m16sp : Spec := { ps := [.leaf (.val (.row (.int .i64)))], rs := [.leaf (.own (.int .i64) 3)], f := fun k a => m16F k a }

theorem m16ok (k : Nat) : EnvOk (m16E k) := envOk_of (l := [(13, m13sp)]) (lB := []) progNames progMixed rfl rfl (.cons ⟨m13con k, Try.f13, by kernel_rfl, by kernel_rfl⟩ (.nil)) (.nil)

theorem m16con (k : Nat) : Contract Try.prog k 16 m16sp := contract_of (E := m16E k) (m16ok k) (A := only 16 m16A) (d := 3) (c := m16c []) (by kernel_rfl) (by kernel_rfl) fun a _ h => (m16q k a).trans h

noncomputable def m26A : Anns := tabA []
noncomputable def m26E (k : Nat) : Env := { P := Try.prog, k := k, G := tabG [], GB := tabGB [] }
noncomputable def m26c (p : List Bool) : Code := sub p (bodyOf Try.f26)
noncomputable def m26I (k : Nat) : Inl Int := inlOf (m26E k) (only 26 m26A) 3
noncomputable def m26K0 (M : Cut Int) (k : Nat) : Exit → St → Option Int := seqK (normAt 0 m26A false (m26c [true])) (cutK M m26A (m26c [true]) fun s => evC (m26E k) M (m26I k) 0 m26A (m26c [true]) s (retK Try.prog Try.f26 [.leaf (.val (.int .i64))])) (retK Try.prog Try.f26 [.leaf (.val (.int .i64))])
noncomputable def m26K1 (M : Cut Int) (k : Nat) : Exit → St → Option Int := seqK (normAt 0 m26A false (m26c [true, true])) (cutK M m26A (m26c [true, true]) fun s => evC (m26E k) M (m26I k) 0 m26A (m26c [true, true]) s (retK Try.prog Try.f26 [.leaf (.val (.int .i64))])) (retK Try.prog Try.f26 [.leaf (.val (.int .i64))])
noncomputable def m26K2 (M : Cut Int) (k : Nat) : Exit → St → Option Int := seqK (normAt 0 m26A false (m26c [true, false, true])) (cutK M m26A (m26c [true, false, true]) fun s => evC (m26E k) M (m26I k) 0 m26A (m26c [true, false, true]) s (m26K1 M k)) (m26K1 M k)
noncomputable def m26K3 (M : Cut Int) (k : Nat) : Exit → St → Option Int := seqK (normAt 0 m26A false (m26c [true, false, true, false, true])) (cutK M m26A (m26c [true, false, true, false, true]) fun s => evC (m26E k) M (m26I k) 0 m26A (m26c [true, false, true, false, true]) s (m26K1 M k)) (m26K1 M k)
noncomputable def m26K4 (M : Cut Int) (k : Nat) : Exit → St → Option Int := seqK (normAt 0 m26A false (m26c [true, true, true])) (cutK M m26A (m26c [true, true, true]) fun s => evC (m26E k) M (m26I k) 0 m26A (m26c [true, true, true]) s (retK Try.prog Try.f26 [.leaf (.val (.int .i64))])) (retK Try.prog Try.f26 [.leaf (.val (.int .i64))])

noncomputable def m26X (k : Nat) (p0 : (List Int)) (p1 : Int) : Option Int := (if ltI p1 (↑(List.length p0) : Int) = true then (if leI 0 (wr IntKind.i64 (wr IntKind.i64 ((↑(List.length p0) : Int) - 1) - p1)) = true then (if ltI (wr IntKind.i64 (wr IntKind.i64 ((↑(List.length p0) : Int) - 1) - p1)) (↑(List.length p0) : Int) = true then some (List.getD p0 (Int.toNat (wr IntKind.i64 (wr IntKind.i64 ((↑(List.length p0) : Int) - 1) - p1))) 0) else none) else none) else some (0))

theorem m26x (M : Cut Int) (k : Nat) (p0 : (List Int)) (p1 : Int) : evC (m26E k) M (m26I k) 0 m26A (m26c []) (stAt Try.f26 (argSs [.leaf (.val (.row (.int .i64))), .leaf (.val (.int .i64))] (p0, p1)) (fun _ => none) 0) (retK Try.prog Try.f26 [.leaf (.val (.int .i64))]) = m26X k p0 p1 := by kernel_rfl

noncomputable def m26F (k : Nat) (p0 : (List Int)) (p1 : Int) : Option Int := m26X k p0 p1

theorem m26q (k : Nat) (p0 : (List Int)) (p1 : Int) : evC (m26E k) (fun _ f => f) (m26I k) 0 m26A (m26c []) (stAt Try.f26 (argSs [.leaf (.val (.row (.int .i64))), .leaf (.val (.int .i64))] (p0, p1)) (fun _ => none) 0) (retK Try.prog Try.f26 [.leaf (.val (.int .i64))]) = m26F k p0 p1 := by
    show _ = m26X k p0 p1
    exact m26x (fun _ f => f) k p0 p1

noncomputable def m26sp : Spec := { ps := [.leaf (.val (.row (.int .i64))), .leaf (.val (.int .i64))], rs := [.leaf (.val (.int .i64))], f := fun k a => m26F k a.1 a.2 }

theorem m26ok (k : Nat) : EnvOk (m26E k) := envOk_of (l := []) (lB := []) progNames progMixed rfl rfl (.nil) (.nil)

theorem m26con (k : Nat) : Contract Try.prog k 26 m26sp := contract_of (E := m26E k) (m26ok k) (A := only 26 m26A) (d := 3) (c := m26c []) (by kernel_rfl) (by kernel_rfl) fun a _ h => (m26q k a.1 a.2).trans h

noncomputable def m18A : Anns := tabA [(9, { keep := [0, 1, 6, 7], mat := [(6, (.int .i64), 3)] }), (14, { keep := [6] })]
noncomputable def m18E (k : Nat) : Env := { P := Try.prog, k := k, G := tabG [(16, m16sp), (26, m26sp)], GB := tabGB [] }
noncomputable def m18c (p : List Bool) : Code := sub p (bodyOf Try.f18)
noncomputable def m18I (k : Nat) : Inl (List Int) := inlOf (m18E k) (only 18 m18A) 3
noncomputable def m18K0 (M : Cut (List Int)) (k : Nat) : Exit → St → Option (List Int) := seqK (normAt 0 m18A false (m18c [true])) (cutK M m18A (m18c [true]) fun s => evC (m18E k) M (m18I k) 0 m18A (m18c [true]) s (retK Try.prog Try.f18 [.leaf (.own (.int .i64) 3)])) (retK Try.prog Try.f18 [.leaf (.own (.int .i64) 3)])
noncomputable def m18K1 (M : Cut (List Int)) (k : Nat) : Exit → St → Option (List Int) := seqK (normAt 0 m18A false (m18c [true, true])) (cutK M m18A (m18c [true, true]) fun s => evC (m18E k) M (m18I k) 0 m18A (m18c [true, true]) s (retK Try.prog Try.f18 [.leaf (.own (.int .i64) 3)])) (retK Try.prog Try.f18 [.leaf (.own (.int .i64) 3)])
noncomputable def m18K2 (M : Cut (List Int)) (k : Nat) : Exit → St → Option (List Int) := seqK (normAt 0 m18A false (m18c [true, true, true])) (cutK M m18A (m18c [true, true, true]) fun s => evC (m18E k) M (m18I k) 0 m18A (m18c [true, true, true]) s (retK Try.prog Try.f18 [.leaf (.own (.int .i64) 3)])) (retK Try.prog Try.f18 [.leaf (.own (.int .i64) 3)])
noncomputable def m18K3 (M : Cut (List Int)) (k : Nat) : Exit → St → Option (List Int) := seqK (normAt 0 m18A false (m18c [true, true, true, true])) (cutK M m18A (m18c [true, true, true, true]) fun s => evC (m18E k) M (m18I k) 0 m18A (m18c [true, true, true, true]) s (retK Try.prog Try.f18 [.leaf (.own (.int .i64) 3)])) (retK Try.prog Try.f18 [.leaf (.own (.int .i64) 3)])
noncomputable def m18K4 (M : Cut (List Int)) (k : Nat) : Exit → St → Option (List Int) := seqK (normAt 0 m18A false (m18c [true, true, true, false, true])) (cutK M m18A (m18c [true, true, true, false, true]) fun s => evC (m18E k) M (m18I k) 0 m18A (m18c [true, true, true, false, true]) s (m18K3 M k)) (m18K3 M k)
noncomputable def m18K5 (M : Cut (List Int)) (k : Nat) : Exit → St → Option (List Int) := blockK 0 (m18K3 M k)
noncomputable def m18K6 (M : Cut (List Int)) (k : Nat) (L9 : St → Option (List Int)) : Exit → St → Option (List Int) := seqK (normAt 0 m18A true (m18c [true, true, true, false, true, true, true])) L9 (m18K5 M k)
noncomputable def m18K7 (M : Cut (List Int)) (k : Nat) (L9 : St → Option (List Int)) : Exit → St → Option (List Int) := seqK (normAt 0 m18A false (m18c [true, true, true, false, true, true, true, true])) (cutK M m18A (m18c [true, true, true, false, true, true, true, true]) fun s => evC (m18E k) M (m18I k) 0 m18A (m18c [true, true, true, false, true, true, true, true]) s (m18K6 M k L9)) (m18K6 M k L9)
noncomputable def m18K8 (M : Cut (List Int)) (k : Nat) (L9 : St → Option (List Int)) : Exit → St → Option (List Int) := seqK (normAt 0 m18A false (m18c [true, true, true, false, true, true, true, false, true])) (cutK M m18A (m18c [true, true, true, false, true, true, true, false, true]) fun s => evC (m18E k) M (m18I k) 0 m18A (m18c [true, true, true, false, true, true, true, false, true]) s (m18K7 M k L9)) (m18K7 M k L9)
noncomputable def m18K9 (M : Cut (List Int)) (k : Nat) (L9 : St → Option (List Int)) : Exit → St → Option (List Int) := seqK (normAt 0 m18A false (m18c [true, true, true, false, true, true, true, true, true])) (cutK M m18A (m18c [true, true, true, false, true, true, true, true, true]) fun s => evC (m18E k) M (m18I k) 0 m18A (m18c [true, true, true, false, true, true, true, true, true]) s (m18K6 M k L9)) (m18K6 M k L9)
noncomputable def m18K10 (M : Cut (List Int)) (k : Nat) (L9 : St → Option (List Int)) : Exit → St → Option (List Int) := blockK 1 (m18K9 M k L9)
noncomputable def m18K11 (M : Cut (List Int)) (k : Nat) : Exit → St → Option (List Int) := seqK (normAt 0 m18A false (m18c [true, true, true, true, true])) (cutK M m18A (m18c [true, true, true, true, true]) fun s => evC (m18E k) M (m18I k) 0 m18A (m18c [true, true, true, true, true]) s (retK Try.prog Try.f18 [.leaf (.own (.int .i64) 3)])) (retK Try.prog Try.f18 [.leaf (.own (.int .i64) 3)])
noncomputable def m18S9 (t0 : List Int) (t1 : List Int) (t7 : Int) (b0 : List Int) : St := { n := 32, tm := slots [(0, .row (.int .i64) t0), (1, .row (.int .i64) t1), (6, .own 0), (7, .int .i64 t7)], tab := blks [some (.row true (.int .i64) 3 b0)], nx := 1 }
noncomputable def m18S14 (b0 : List Int) : St := { n := 32, tm := slots [(6, .own 0)], tab := blks [some (.row true (.int .i64) 3 b0)], nx := 1 }

noncomputable def m18X (X9 : List Int → List Int → Int → List Int → Option (List Int)) (k : Nat) (p0 : (List Int)) (p1 : (List Int)) : Option (List Int) := X9 p0 p1 (wr IntKind.i64 (mx (↑(List.length p0) : Int) (↑(List.length p1) : Int) - 1)) ([])

theorem m18x (M : Cut (List Int)) (k : Nat) (p0 : (List Int)) (p1 : (List Int)) : evC (m18E k) M (m18I k) 0 m18A (m18c []) (stAt Try.f18 (argSs [.leaf (.val (.row (.int .i64))), .leaf (.val (.row (.int .i64)))] (p0, p1)) (fun _ => none) 0) (retK Try.prog Try.f18 [.leaf (.own (.int .i64) 3)]) = m18X (fun t0' t1' t7' b0' => loopN (normAt 0 m18A true (m18c [true, true, true, false, true, true, true])) (fun K s => evC (m18E k) M (m18I k) 0 m18A (m18c [true, true, true, false, true, true, true]) s K) (m18K5 M k) k (m18S9 t0' t1' t7' b0')) k p0 p1 := by kernel_rfl

noncomputable def m18X9 (X14 : List Int → Option (List Int)) (L9 : List Int → List Int → Int → List Int → Option (List Int)) (k : Nat) (t0 : List Int) (t1 : List Int) (t7 : Int) (b0 : List Int) : Option (List Int) := (if leI 0 t7 = true then (Option.bind (m26F k t0 t7) fun (c7 : Int) => (Option.bind (m26F k t1 t7) fun (c8 : Int) => (if (!eqI 2 0) = true then (if leI
    (↑((List.length b0 + List.length (List.set (List.replicate 1 0) 0 (Int.tmod (wr IntKind.i64 (c7 + c8)) 2))) * 8) :
      Int)
    140737488355328 =
  true then L9 t0 t1 (wr IntKind.i64 (t7 - 1)) (b0 ++ List.set (List.replicate 1 0) 0 (Int.tmod (wr IntKind.i64 (c7 + c8)) 2)) else none) else none))) else X14 b0)

theorem m18x9 (M : Cut (List Int)) (k : Nat) (L9 : St → Option (List Int)) (t0 : List Int) (t1 : List Int) (t7 : Int) (b0 : List Int) : evC (m18E k) M (m18I k) 0 m18A (m18c [true, true, true, false, true, true, true]) (m18S9 t0 t1 t7 b0) (seqK (normAt 0 m18A true (m18c [true, true, true, false, true, true, true])) L9 (m18K5 M k)) = m18X9 (fun b0' => M 14 (fun s => evC (m18E k) M (m18I k) 0 m18A (m18c [true, true, true, true]) s (retK Try.prog Try.f18 [.leaf (.own (.int .i64) 3)])) (m18S14 b0')) (fun t0' t1' t7' b0' => L9 (m18S9 t0' t1' t7' b0')) k t0 t1 t7 b0 := by kernel_rfl

noncomputable def m18X14 (k : Nat) (b0 : List Int) : Option (List Int) := (Option.bind (m16F k b0) fun (c3 : (List Int)) => some c3)

theorem m18x14 (M : Cut (List Int)) (k : Nat) (b0 : List Int) : evC (m18E k) M (m18I k) 0 m18A (m18c [true, true, true, true]) (m18S14 b0) (retK Try.prog Try.f18 [.leaf (.own (.int .i64) 3)]) = m18X14 k b0 := by kernel_rfl

noncomputable def m18F14 (k : Nat) (b0 : List Int) : Option (List Int) := m18X14 k b0

theorem m18q14 (k : Nat) (b0 : List Int) : evC (m18E k) (fun _ f => f) (m18I k) 0 m18A (m18c [true, true, true, true]) (m18S14 b0) (retK Try.prog Try.f18 [.leaf (.own (.int .i64) 3)]) = m18F14 k b0 := by
    show _ = m18X14 k b0
    exact m18x14 (fun _ f => f) k b0

noncomputable def m18F9 (k : Nat) : Nat → List Int → List Int → Int → List Int → Option (List Int)
  | 0, _, _, _, _ => none
  | j + 1, t0, t1, t7, b0 => m18X9 (m18F14 k) (m18F9 k j) k t0 t1 t7 b0

theorem m18q9 (k : Nat) : ∀ (j : Nat) (t0 : List Int) (t1 : List Int) (t7 : Int) (b0 : List Int), loopN (normAt 0 m18A true (m18c [true, true, true, false, true, true, true])) (fun K s => evC (m18E k) (fun _ f => f) (m18I k) 0 m18A (m18c [true, true, true, false, true, true, true]) s K) (m18K5 (fun _ f => f) k) j (m18S9 t0 t1 t7 b0) = m18F9 k j t0 t1 t7 b0
  | 0, _, _, _, _ => rfl
  | j + 1, t0, t1, t7, b0 => by
    have e0 : m18F9 k j = (fun t0' t1' t7' b0' => loopN (normAt 0 m18A true (m18c [true, true, true, false, true, true, true])) (fun K s => evC (m18E k) (fun _ f => f) (m18I k) 0 m18A (m18c [true, true, true, false, true, true, true]) s K) (m18K5 (fun _ f => f) k) j (m18S9 t0' t1' t7' b0')) := funext fun t0' => funext fun t1' => funext fun t7' => funext fun b0' => (m18q9 k j t0' t1' t7' b0').symm
    have e14 : m18F14 k = (fun b0' => evC (m18E k) (fun _ f => f) (m18I k) 0 m18A (m18c [true, true, true, true]) (m18S14 b0') (retK Try.prog Try.f18 [.leaf (.own (.int .i64) 3)])) := funext fun b0' => (m18q14 k b0').symm
    show _ = m18X9 (m18F14 k) (m18F9 k j) k t0 t1 t7 b0
    rw [e0, e14]
    exact m18x9 (fun _ f => f) k (loopN (normAt 0 m18A true (m18c [true, true, true, false, true, true, true])) (fun K s => evC (m18E k) (fun _ f => f) (m18I k) 0 m18A (m18c [true, true, true, false, true, true, true]) s K) (m18K5 (fun _ f => f) k) j) t0 t1 t7 b0

noncomputable def m18F (k : Nat) (p0 : (List Int)) (p1 : (List Int)) : Option (List Int) := m18X (m18F9 k k) k p0 p1

theorem m18q (k : Nat) (p0 : (List Int)) (p1 : (List Int)) : evC (m18E k) (fun _ f => f) (m18I k) 0 m18A (m18c []) (stAt Try.f18 (argSs [.leaf (.val (.row (.int .i64))), .leaf (.val (.row (.int .i64)))] (p0, p1)) (fun _ => none) 0) (retK Try.prog Try.f18 [.leaf (.own (.int .i64) 3)]) = m18F k p0 p1 := by
    have e9 : m18F9 k k = (fun t0' t1' t7' b0' => loopN (normAt 0 m18A true (m18c [true, true, true, false, true, true, true])) (fun K s => evC (m18E k) (fun _ f => f) (m18I k) 0 m18A (m18c [true, true, true, false, true, true, true]) s K) (m18K5 (fun _ f => f) k) k (m18S9 t0' t1' t7' b0')) := funext fun t0' => funext fun t1' => funext fun t7' => funext fun b0' => (m18q9 k k t0' t1' t7' b0').symm
    show _ = m18X (m18F9 k k) k p0 p1
    rw [e9]
    exact m18x (fun _ f => f) k p0 p1

noncomputable def m18sp : Spec := { ps := [.leaf (.val (.row (.int .i64))), .leaf (.val (.row (.int .i64)))], rs := [.leaf (.own (.int .i64) 3)], f := fun k a => m18F k a.1 a.2 }

theorem m18ok (k : Nat) : EnvOk (m18E k) := envOk_of (l := [(16, m16sp), (26, m26sp)]) (lB := []) progNames progMixed rfl rfl (.cons ⟨m16con k, Try.f16, by kernel_rfl, by kernel_rfl⟩ (.cons ⟨m26con k, Try.f26, by kernel_rfl, by kernel_rfl⟩ (.nil))) (.nil)

theorem m18con (k : Nat) : Contract Try.prog k 18 m18sp := contract_of (E := m18E k) (m18ok k) (A := only 18 m18A) (d := 3) (c := m18c []) (by kernel_rfl) (by kernel_rfl) fun a _ h => (m18q k a.1 a.2).trans h

noncomputable def m19A : Anns := tabA [(13, { keep := [0, 1, 5, 6] }), (14, { keep := [0, 1, 5, 6] }), (19, { keep := [0, 1, 5, 6, 7] })]
noncomputable def m19E (k : Nat) : Env := { P := Try.prog, k := k, G := tabG [(16, m16sp)], GB := tabGB [] }
noncomputable def m19c (p : List Bool) : Code := sub p (bodyOf Try.f19)
noncomputable def m19I (k : Nat) : Inl (List Int) := inlOf (m19E k) (only 19 m19A) 3
noncomputable def m19K0 (M : Cut (List Int)) (k : Nat) : Exit → St → Option (List Int) := seqK (normAt 0 m19A false (m19c [true])) (cutK M m19A (m19c [true]) fun s => evC (m19E k) M (m19I k) 0 m19A (m19c [true]) s (retK Try.prog Try.f19 [.leaf (.own (.int .i64) 3)])) (retK Try.prog Try.f19 [.leaf (.own (.int .i64) 3)])
noncomputable def m19K1 (M : Cut (List Int)) (k : Nat) : Exit → St → Option (List Int) := seqK (normAt 0 m19A false (m19c [true, true])) (cutK M m19A (m19c [true, true]) fun s => evC (m19E k) M (m19I k) 0 m19A (m19c [true, true]) s (retK Try.prog Try.f19 [.leaf (.own (.int .i64) 3)])) (retK Try.prog Try.f19 [.leaf (.own (.int .i64) 3)])
noncomputable def m19K2 (M : Cut (List Int)) (k : Nat) : Exit → St → Option (List Int) := seqK (normAt 0 m19A false (m19c [true, true, true])) (cutK M m19A (m19c [true, true, true]) fun s => evC (m19E k) M (m19I k) 0 m19A (m19c [true, true, true]) s (retK Try.prog Try.f19 [.leaf (.own (.int .i64) 3)])) (retK Try.prog Try.f19 [.leaf (.own (.int .i64) 3)])
noncomputable def m19K3 (M : Cut (List Int)) (k : Nat) : Exit → St → Option (List Int) := seqK (normAt 0 m19A false (m19c [true, true, false, true])) (cutK M m19A (m19c [true, true, false, true]) fun s => evC (m19E k) M (m19I k) 0 m19A (m19c [true, true, false, true]) s (m19K2 M k)) (m19K2 M k)
noncomputable def m19K4 (M : Cut (List Int)) (k : Nat) : Exit → St → Option (List Int) := seqK (normAt 0 m19A false (m19c [true, true, false, true, false, true])) (cutK M m19A (m19c [true, true, false, true, false, true]) fun s => evC (m19E k) M (m19I k) 0 m19A (m19c [true, true, false, true, false, true]) s (m19K2 M k)) (m19K2 M k)
noncomputable def m19K5 (M : Cut (List Int)) (k : Nat) : Exit → St → Option (List Int) := seqK (normAt 0 m19A false (m19c [true, true, true, true])) (cutK M m19A (m19c [true, true, true, true]) fun s => evC (m19E k) M (m19I k) 0 m19A (m19c [true, true, true, true]) s (retK Try.prog Try.f19 [.leaf (.own (.int .i64) 3)])) (retK Try.prog Try.f19 [.leaf (.own (.int .i64) 3)])
noncomputable def m19K6 (M : Cut (List Int)) (k : Nat) : Exit → St → Option (List Int) := seqK (normAt 0 m19A false (m19c [true, true, true, true, true])) (cutK M m19A (m19c [true, true, true, true, true]) fun s => evC (m19E k) M (m19I k) 0 m19A (m19c [true, true, true, true, true]) s (retK Try.prog Try.f19 [.leaf (.own (.int .i64) 3)])) (retK Try.prog Try.f19 [.leaf (.own (.int .i64) 3)])
noncomputable def m19K7 (M : Cut (List Int)) (k : Nat) : Exit → St → Option (List Int) := seqK (normAt 0 m19A false (m19c [true, true, true, true, false, true])) (cutK M m19A (m19c [true, true, true, true, false, true]) fun s => evC (m19E k) M (m19I k) 0 m19A (m19c [true, true, true, true, false, true]) s (m19K6 M k)) (m19K6 M k)
noncomputable def m19K8 (M : Cut (List Int)) (k : Nat) : Exit → St → Option (List Int) := blockK 0 (m19K6 M k)
noncomputable def m19K9 (M : Cut (List Int)) (k : Nat) (L13 : St → Option (List Int)) : Exit → St → Option (List Int) := seqK (normAt 0 m19A true (m19c [true, true, true, true, false, true, true, true])) L13 (m19K8 M k)
noncomputable def m19K10 (M : Cut (List Int)) (k : Nat) (L13 : St → Option (List Int)) : Exit → St → Option (List Int) := seqK (normAt 0 m19A false (m19c [true, true, true, true, false, true, true, true, true])) (cutK M m19A (m19c [true, true, true, true, false, true, true, true, true]) fun s => evC (m19E k) M (m19I k) 0 m19A (m19c [true, true, true, true, false, true, true, true, true]) s (m19K9 M k L13)) (m19K9 M k L13)
noncomputable def m19K11 (M : Cut (List Int)) (k : Nat) (L13 : St → Option (List Int)) : Exit → St → Option (List Int) := seqK (normAt 0 m19A false (m19c [true, true, true, true, false, true, true, true, false, true])) (cutK M m19A (m19c [true, true, true, true, false, true, true, true, false, true]) fun s => evC (m19E k) M (m19I k) 0 m19A (m19c [true, true, true, true, false, true, true, true, false, true]) s (m19K10 M k L13)) (m19K10 M k L13)
noncomputable def m19K12 (M : Cut (List Int)) (k : Nat) (L13 : St → Option (List Int)) : Exit → St → Option (List Int) := seqK (normAt 0 m19A false (m19c [true, true, true, true, false, true, true, true, true, true])) (cutK M m19A (m19c [true, true, true, true, false, true, true, true, true, true]) fun s => evC (m19E k) M (m19I k) 0 m19A (m19c [true, true, true, true, false, true, true, true, true, true]) s (m19K9 M k L13)) (m19K9 M k L13)
noncomputable def m19K13 (M : Cut (List Int)) (k : Nat) (L13 : St → Option (List Int)) : Exit → St → Option (List Int) := blockK 1 (m19K12 M k L13)
noncomputable def m19K14 (M : Cut (List Int)) (k : Nat) (L13 : St → Option (List Int)) : Exit → St → Option (List Int) := seqK (normAt 0 m19A false (m19c [true, true, true, true, false, true, true, true, true, false, true, true])) (cutK M m19A (m19c [true, true, true, true, false, true, true, true, true, false, true, true]) fun s => evC (m19E k) M (m19I k) 0 m19A (m19c [true, true, true, true, false, true, true, true, true, false, true, true]) s (m19K13 M k L13)) (m19K13 M k L13)
noncomputable def m19K15 (M : Cut (List Int)) (k : Nat) (L13 : St → Option (List Int)) : Exit → St → Option (List Int) := blockK 2 (m19K13 M k L13)
noncomputable def m19K16 (M : Cut (List Int)) (k : Nat) (L13 : St → Option (List Int)) (L19 : St → Option (List Int)) : Exit → St → Option (List Int) := seqK (normAt 0 m19A true (m19c [true, true, true, true, false, true, true, true, true, false, true, true, true, true])) L19 (m19K15 M k L13)
noncomputable def m19K17 (M : Cut (List Int)) (k : Nat) (L13 : St → Option (List Int)) (L19 : St → Option (List Int)) : Exit → St → Option (List Int) := seqK (normAt 0 m19A false (m19c [true, true, true, true, false, true, true, true, true, false, true, true, true, true, true])) (cutK M m19A (m19c [true, true, true, true, false, true, true, true, true, false, true, true, true, true, true]) fun s => evC (m19E k) M (m19I k) 0 m19A (m19c [true, true, true, true, false, true, true, true, true, false, true, true, true, true, true]) s (m19K16 M k L13 L19)) (m19K16 M k L13 L19)
noncomputable def m19K18 (M : Cut (List Int)) (k : Nat) (L13 : St → Option (List Int)) (L19 : St → Option (List Int)) : Exit → St → Option (List Int) := seqK (normAt 0 m19A false (m19c [true, true, true, true, false, true, true, true, true, false, true, true, true, true, false, true])) (cutK M m19A (m19c [true, true, true, true, false, true, true, true, true, false, true, true, true, true, false, true]) fun s => evC (m19E k) M (m19I k) 0 m19A (m19c [true, true, true, true, false, true, true, true, true, false, true, true, true, true, false, true]) s (m19K17 M k L13 L19)) (m19K17 M k L13 L19)
noncomputable def m19K19 (M : Cut (List Int)) (k : Nat) (L13 : St → Option (List Int)) (L19 : St → Option (List Int)) : Exit → St → Option (List Int) := seqK (normAt 0 m19A false (m19c [true, true, true, true, false, true, true, true, true, false, true, true, true, true, true, true])) (cutK M m19A (m19c [true, true, true, true, false, true, true, true, true, false, true, true, true, true, true, true]) fun s => evC (m19E k) M (m19I k) 0 m19A (m19c [true, true, true, true, false, true, true, true, true, false, true, true, true, true, true, true]) s (m19K16 M k L13 L19)) (m19K16 M k L13 L19)
noncomputable def m19K20 (M : Cut (List Int)) (k : Nat) (L13 : St → Option (List Int)) (L19 : St → Option (List Int)) : Exit → St → Option (List Int) := blockK 3 (m19K19 M k L13 L19)
noncomputable def m19K21 (M : Cut (List Int)) (k : Nat) : Exit → St → Option (List Int) := seqK (normAt 0 m19A false (m19c [true, true, true, true, true, true])) (cutK M m19A (m19c [true, true, true, true, true, true]) fun s => evC (m19E k) M (m19I k) 0 m19A (m19c [true, true, true, true, true, true]) s (retK Try.prog Try.f19 [.leaf (.own (.int .i64) 3)])) (retK Try.prog Try.f19 [.leaf (.own (.int .i64) 3)])
noncomputable def m19S13 (t6 : Int) (b0 : List Int) (b1 : List Int) (b2 : List Int) : St := { n := 64, tm := slots [(0, .own 0), (1, .own 1), (5, .own 2), (6, .int .i64 t6)], tab := blks [some (.row true (.int .i64) 3 b0), some (.row true (.int .i64) 3 b1), some (.row true (.int .i64) 3 b2)], nx := 3 }
noncomputable def m19S19 (t6 : Int) (t7 : Int) (b0 : List Int) (b1 : List Int) (b2 : List Int) : St := { n := 64, tm := slots [(0, .own 0), (1, .own 1), (5, .own 2), (6, .int .i64 t6), (7, .int .i64 t7)], tab := blks [some (.row true (.int .i64) 3 b0), some (.row true (.int .i64) 3 b1), some (.row true (.int .i64) 3 b2)], nx := 3 }
noncomputable def m19S14 (t6 : Int) (b0 : List Int) (b1 : List Int) (b2 : List Int) : St := { n := 64, tm := slots [(0, .own 0), (1, .own 1), (5, .own 2), (6, .int .i64 t6)], tab := blks [some (.row true (.int .i64) 3 b0), some (.row true (.int .i64) 3 b1), some (.row true (.int .i64) 3 b2)], nx := 3 }

noncomputable def m19X (X13 : Int → List Int → List Int → List Int → Option (List Int)) (k : Nat) (p0 : (List Int)) (p1 : (List Int)) : Option (List Int) := (Option.bind (m16F k p0) fun (c4 : (List Int)) => (Option.bind (m16F k p1) fun (c5 : (List Int)) => (if eqI (↑(List.length c4) : Int) 0 = true then some ([]) else (if eqI (↑(List.length c5) : Int) 0 = true then some ([]) else (if leI 0 (wr IntKind.i64 (wr IntKind.i64 ((↑(List.length c4) : Int) + (↑(List.length c5) : Int)) - 1)) = true then (if leI (wr IntKind.i64 (wr IntKind.i64 ((↑(List.length c4) : Int) + (↑(List.length c5) : Int)) - 1))
    (wr IntKind.i64 (wr IntKind.i64 ((↑(List.length c4) : Int) + (↑(List.length c5) : Int)) - 1)) =
  true then (if leI (wr IntKind.i64 (wr IntKind.i64 ((↑(List.length c4) : Int) + (↑(List.length c5) : Int)) - 1) * (↑8 : Int))
    140737488355328 =
  true then (if leI (wr IntKind.i64 (wr IntKind.i64 ((↑(List.length c4) : Int) + (↑(List.length c5) : Int)) - 1)) 9223372036854775807 =
  true then X13 (0) c4 c5 (List.replicate (Int.toNat (wr IntKind.i64 (wr IntKind.i64 ((↑(List.length c4) : Int) + (↑(List.length c5) : Int)) - 1)))
  0) else none) else none) else none) else none)))))

theorem m19x (M : Cut (List Int)) (k : Nat) (p0 : (List Int)) (p1 : (List Int)) : evC (m19E k) M (m19I k) 0 m19A (m19c []) (stAt Try.f19 (argSs [.leaf (.val (.row (.int .i64))), .leaf (.val (.row (.int .i64)))] (p0, p1)) (fun _ => none) 0) (retK Try.prog Try.f19 [.leaf (.own (.int .i64) 3)]) = m19X (fun t6' b0' b1' b2' => loopN (normAt 0 m19A true (m19c [true, true, true, true, false, true, true, true])) (fun K s => evC (m19E k) M (m19I k) 0 m19A (m19c [true, true, true, true, false, true, true, true]) s K) (m19K8 M k) k (m19S13 t6' b0' b1' b2')) k p0 p1 := by kernel_rfl

noncomputable def m19X13 (X19 : Int → Int → List Int → List Int → List Int → Option (List Int)) (k : Nat) (t6 : Int) (b0 : List Int) (b1 : List Int) (b2 : List Int) : Option (List Int) := (if ltI t6 (↑(List.length b0) : Int) = true then X19 t6 (0) b0 b1 b2 else some b2)

theorem m19x13 (M : Cut (List Int)) (k : Nat) (L13 : St → Option (List Int)) (t6 : Int) (b0 : List Int) (b1 : List Int) (b2 : List Int) : evC (m19E k) M (m19I k) 0 m19A (m19c [true, true, true, true, false, true, true, true]) (m19S13 t6 b0 b1 b2) (seqK (normAt 0 m19A true (m19c [true, true, true, true, false, true, true, true])) L13 (m19K8 M k)) = m19X13 (fun t6' t7' b0' b1' b2' => loopN (normAt 0 m19A true (m19c [true, true, true, true, false, true, true, true, true, false, true, true, true, true])) (fun K s => evC (m19E k) M (m19I k) 0 m19A (m19c [true, true, true, true, false, true, true, true, true, false, true, true, true, true]) s K) (m19K15 M k L13) k (m19S19 t6' t7' b0' b1' b2')) k t6 b0 b1 b2 := by kernel_rfl

noncomputable def m19X19 (X14 : Int → List Int → List Int → List Int → Option (List Int)) (L19 : Int → Int → List Int → List Int → List Int → Option (List Int)) (k : Nat) (t6 : Int) (t7 : Int) (b0 : List Int) (b1 : List Int) (b2 : List Int) : Option (List Int) := (if ltI t7 (↑(List.length b1) : Int) = true then (if leI 0 t6 = true then (if ltI t6 (↑(List.length b0) : Int) = true then (if eqI (List.getD b0 (Int.toNat t6) 0) 1 = true then (if leI 0 (wr IntKind.i64 (t6 + t7)) = true then (if ltI (wr IntKind.i64 (t6 + t7)) (↑(List.length b2) : Int) = true then (if leI 0 t7 = true then (if ltI t7 (↑(List.length b1) : Int) = true then (if (!eqI 2 0) = true then (if leI 0 (wr IntKind.i64 (t6 + t7)) = true then (if ltI (wr IntKind.i64 (t6 + t7)) (↑(List.length b2) : Int) = true then L19 t6 (wr IntKind.i64 (t7 + 1)) b0 b1 (List.set b2 (Int.toNat (wr IntKind.i64 (t6 + t7)))
  (Int.tmod (wr IntKind.i64 (List.getD b2 (Int.toNat (wr IntKind.i64 (t6 + t7))) 0 + List.getD b1 (Int.toNat t7) 0)) 2)) else none) else none) else none) else none) else none) else none) else none) else X14 t6 b0 b1 b2) else none) else none) else X14 t6 b0 b1 b2)

theorem m19x19 (M : Cut (List Int)) (k : Nat) (L13 : St → Option (List Int)) (L19 : St → Option (List Int)) (t6 : Int) (t7 : Int) (b0 : List Int) (b1 : List Int) (b2 : List Int) : evC (m19E k) M (m19I k) 0 m19A (m19c [true, true, true, true, false, true, true, true, true, false, true, true, true, true]) (m19S19 t6 t7 b0 b1 b2) (seqK (normAt 0 m19A true (m19c [true, true, true, true, false, true, true, true, true, false, true, true, true, true])) L19 (m19K15 M k L13)) = m19X19 (fun t6' b0' b1' b2' => M 14 (fun s => evC (m19E k) M (m19I k) 0 m19A (m19c [true, true, true, true, false, true, true, true, true, true]) s (m19K9 M k L13)) (m19S14 t6' b0' b1' b2')) (fun t6' t7' b0' b1' b2' => L19 (m19S19 t6' t7' b0' b1' b2')) k t6 t7 b0 b1 b2 := by kernel_rfl

noncomputable def m19X14 (L13 : Int → List Int → List Int → List Int → Option (List Int)) (k : Nat) (t6 : Int) (b0 : List Int) (b1 : List Int) (b2 : List Int) : Option (List Int) := L13 (wr IntKind.i64 (t6 + 1)) b0 b1 b2

theorem m19x14 (M : Cut (List Int)) (k : Nat) (L13 : St → Option (List Int)) (t6 : Int) (b0 : List Int) (b1 : List Int) (b2 : List Int) : evC (m19E k) M (m19I k) 0 m19A (m19c [true, true, true, true, false, true, true, true, true, true]) (m19S14 t6 b0 b1 b2) (m19K9 M k L13) = m19X14 (fun t6' b0' b1' b2' => L13 (m19S13 t6' b0' b1' b2')) k t6 b0 b1 b2 := by kernel_rfl

noncomputable def m19F14 (k : Nat) (L13 : Int → List Int → List Int → List Int → Option (List Int)) (t6 : Int) (b0 : List Int) (b1 : List Int) (b2 : List Int) : Option (List Int) := m19X14 L13 k t6 b0 b1 b2

theorem m19q14 (k : Nat) (L13 : St → Option (List Int)) (t6 : Int) (b0 : List Int) (b1 : List Int) (b2 : List Int) : evC (m19E k) (fun _ f => f) (m19I k) 0 m19A (m19c [true, true, true, true, false, true, true, true, true, true]) (m19S14 t6 b0 b1 b2) (m19K9 (fun _ f => f) k L13) = m19F14 k (fun t6' b0' b1' b2' => L13 (m19S13 t6' b0' b1' b2')) t6 b0 b1 b2 := by
    show _ = m19X14 (fun t6' b0' b1' b2' => L13 (m19S13 t6' b0' b1' b2')) k t6 b0 b1 b2
    exact m19x14 (fun _ f => f) k L13 t6 b0 b1 b2

noncomputable def m19F19 (k : Nat) (L13 : Int → List Int → List Int → List Int → Option (List Int)) : Nat → Int → Int → List Int → List Int → List Int → Option (List Int)
  | 0, _, _, _, _, _ => none
  | j + 1, t6, t7, b0, b1, b2 => m19X19 (m19F14 k L13) (m19F19 k L13 j) k t6 t7 b0 b1 b2

theorem m19q19 (k : Nat) (L13 : St → Option (List Int)) : ∀ (j : Nat) (t6 : Int) (t7 : Int) (b0 : List Int) (b1 : List Int) (b2 : List Int), loopN (normAt 0 m19A true (m19c [true, true, true, true, false, true, true, true, true, false, true, true, true, true])) (fun K s => evC (m19E k) (fun _ f => f) (m19I k) 0 m19A (m19c [true, true, true, true, false, true, true, true, true, false, true, true, true, true]) s K) (m19K15 (fun _ f => f) k L13) j (m19S19 t6 t7 b0 b1 b2) = m19F19 k (fun t6' b0' b1' b2' => L13 (m19S13 t6' b0' b1' b2')) j t6 t7 b0 b1 b2
  | 0, _, _, _, _, _ => rfl
  | j + 1, t6, t7, b0, b1, b2 => by
    have e0 : m19F19 k (fun t6' b0' b1' b2' => L13 (m19S13 t6' b0' b1' b2')) j = (fun t6' t7' b0' b1' b2' => loopN (normAt 0 m19A true (m19c [true, true, true, true, false, true, true, true, true, false, true, true, true, true])) (fun K s => evC (m19E k) (fun _ f => f) (m19I k) 0 m19A (m19c [true, true, true, true, false, true, true, true, true, false, true, true, true, true]) s K) (m19K15 (fun _ f => f) k L13) j (m19S19 t6' t7' b0' b1' b2')) := funext fun t6' => funext fun t7' => funext fun b0' => funext fun b1' => funext fun b2' => (m19q19 k L13 j t6' t7' b0' b1' b2').symm
    have e14 : m19F14 k (fun t6' b0' b1' b2' => L13 (m19S13 t6' b0' b1' b2')) = (fun t6' b0' b1' b2' => evC (m19E k) (fun _ f => f) (m19I k) 0 m19A (m19c [true, true, true, true, false, true, true, true, true, true]) (m19S14 t6' b0' b1' b2') (m19K9 (fun _ f => f) k L13)) := funext fun t6' => funext fun b0' => funext fun b1' => funext fun b2' => (m19q14 k L13 t6' b0' b1' b2').symm
    show _ = m19X19 (m19F14 k (fun t6' b0' b1' b2' => L13 (m19S13 t6' b0' b1' b2'))) (m19F19 k (fun t6' b0' b1' b2' => L13 (m19S13 t6' b0' b1' b2')) j) k t6 t7 b0 b1 b2
    rw [e0, e14]
    exact m19x19 (fun _ f => f) k L13 (loopN (normAt 0 m19A true (m19c [true, true, true, true, false, true, true, true, true, false, true, true, true, true])) (fun K s => evC (m19E k) (fun _ f => f) (m19I k) 0 m19A (m19c [true, true, true, true, false, true, true, true, true, false, true, true, true, true]) s K) (m19K15 (fun _ f => f) k L13) j) t6 t7 b0 b1 b2

noncomputable def m19F13 (k : Nat) : Nat → Int → List Int → List Int → List Int → Option (List Int)
  | 0, _, _, _, _ => none
  | j + 1, t6, b0, b1, b2 => m19X13 (m19F19 k (m19F13 k j) k) k t6 b0 b1 b2

theorem m19q13 (k : Nat) : ∀ (j : Nat) (t6 : Int) (b0 : List Int) (b1 : List Int) (b2 : List Int), loopN (normAt 0 m19A true (m19c [true, true, true, true, false, true, true, true])) (fun K s => evC (m19E k) (fun _ f => f) (m19I k) 0 m19A (m19c [true, true, true, true, false, true, true, true]) s K) (m19K8 (fun _ f => f) k) j (m19S13 t6 b0 b1 b2) = m19F13 k j t6 b0 b1 b2
  | 0, _, _, _, _ => rfl
  | j + 1, t6, b0, b1, b2 => by
    have e0 : m19F13 k j = (fun t6' b0' b1' b2' => loopN (normAt 0 m19A true (m19c [true, true, true, true, false, true, true, true])) (fun K s => evC (m19E k) (fun _ f => f) (m19I k) 0 m19A (m19c [true, true, true, true, false, true, true, true]) s K) (m19K8 (fun _ f => f) k) j (m19S13 t6' b0' b1' b2')) := funext fun t6' => funext fun b0' => funext fun b1' => funext fun b2' => (m19q13 k j t6' b0' b1' b2').symm
    have e19 : m19F19 k (fun t6' b0' b1' b2' => loopN (normAt 0 m19A true (m19c [true, true, true, true, false, true, true, true])) (fun K s => evC (m19E k) (fun _ f => f) (m19I k) 0 m19A (m19c [true, true, true, true, false, true, true, true]) s K) (m19K8 (fun _ f => f) k) j (m19S13 t6' b0' b1' b2')) k = (fun t6' t7' b0' b1' b2' => loopN (normAt 0 m19A true (m19c [true, true, true, true, false, true, true, true, true, false, true, true, true, true])) (fun K s => evC (m19E k) (fun _ f => f) (m19I k) 0 m19A (m19c [true, true, true, true, false, true, true, true, true, false, true, true, true, true]) s K) (m19K15 (fun _ f => f) k (loopN (normAt 0 m19A true (m19c [true, true, true, true, false, true, true, true])) (fun K s => evC (m19E k) (fun _ f => f) (m19I k) 0 m19A (m19c [true, true, true, true, false, true, true, true]) s K) (m19K8 (fun _ f => f) k) j)) k (m19S19 t6' t7' b0' b1' b2')) := funext fun t6' => funext fun t7' => funext fun b0' => funext fun b1' => funext fun b2' => (m19q19 k (loopN (normAt 0 m19A true (m19c [true, true, true, true, false, true, true, true])) (fun K s => evC (m19E k) (fun _ f => f) (m19I k) 0 m19A (m19c [true, true, true, true, false, true, true, true]) s K) (m19K8 (fun _ f => f) k) j) k t6' t7' b0' b1' b2').symm
    show _ = m19X13 (m19F19 k (m19F13 k j) k) k t6 b0 b1 b2
    rw [e0, e19]
    exact m19x13 (fun _ f => f) k (loopN (normAt 0 m19A true (m19c [true, true, true, true, false, true, true, true])) (fun K s => evC (m19E k) (fun _ f => f) (m19I k) 0 m19A (m19c [true, true, true, true, false, true, true, true]) s K) (m19K8 (fun _ f => f) k) j) t6 b0 b1 b2

noncomputable def m19F (k : Nat) (p0 : (List Int)) (p1 : (List Int)) : Option (List Int) := m19X (m19F13 k k) k p0 p1

theorem m19q (k : Nat) (p0 : (List Int)) (p1 : (List Int)) : evC (m19E k) (fun _ f => f) (m19I k) 0 m19A (m19c []) (stAt Try.f19 (argSs [.leaf (.val (.row (.int .i64))), .leaf (.val (.row (.int .i64)))] (p0, p1)) (fun _ => none) 0) (retK Try.prog Try.f19 [.leaf (.own (.int .i64) 3)]) = m19F k p0 p1 := by
    have e13 : m19F13 k k = (fun t6' b0' b1' b2' => loopN (normAt 0 m19A true (m19c [true, true, true, true, false, true, true, true])) (fun K s => evC (m19E k) (fun _ f => f) (m19I k) 0 m19A (m19c [true, true, true, true, false, true, true, true]) s K) (m19K8 (fun _ f => f) k) k (m19S13 t6' b0' b1' b2')) := funext fun t6' => funext fun b0' => funext fun b1' => funext fun b2' => (m19q13 k k t6' b0' b1' b2').symm
    show _ = m19X (m19F13 k k) k p0 p1
    rw [e13]
    exact m19x (fun _ f => f) k p0 p1

noncomputable def m19sp : Spec := { ps := [.leaf (.val (.row (.int .i64))), .leaf (.val (.row (.int .i64)))], rs := [.leaf (.own (.int .i64) 3)], f := fun k a => m19F k a.1 a.2 }

theorem m19ok (k : Nat) : EnvOk (m19E k) := envOk_of (l := [(16, m16sp)]) (lB := []) progNames progMixed rfl rfl (.cons ⟨m16con k, Try.f16, by kernel_rfl, by kernel_rfl⟩ (.nil)) (.nil)

theorem m19con (k : Nat) : Contract Try.prog k 19 m19sp := contract_of (E := m19E k) (m19ok k) (A := only 19 m19A) (d := 3) (c := m19c []) (by kernel_rfl) (by kernel_rfl) fun a _ h => (m19q k a.1 a.2).trans h

noncomputable def m20A : Anns := tabA [(9, { keep := [1, 6, 7, 8], mat := [(7, (.int .i64), 3)] }), (10, { keep := [1, 6, 7, 8] }), (17, { keep := [1, 6, 7, 8, 9] }), (22, { keep := [6, 7] })]
noncomputable def m20E (k : Nat) : Env := { P := Try.prog, k := k, G := tabG [(13, m13sp), (16, m16sp)], GB := tabGB [] }
noncomputable def m20c (p : List Bool) : Code := sub p (bodyOf Try.f20)
noncomputable def m20I (k : Nat) : Inl ((List Int) × (List Int)) := inlOf (m20E k) (only 20 m20A) 3
noncomputable def m20K0 (M : Cut ((List Int) × (List Int))) (k : Nat) : Exit → St → Option ((List Int) × (List Int)) := seqK (normAt 0 m20A false (m20c [true])) (cutK M m20A (m20c [true]) fun s => evC (m20E k) M (m20I k) 0 m20A (m20c [true]) s (retK Try.prog Try.f20 [.leaf (.own (.int .i64) 3), .leaf (.own (.int .i64) 3)])) (retK Try.prog Try.f20 [.leaf (.own (.int .i64) 3), .leaf (.own (.int .i64) 3)])
noncomputable def m20K1 (M : Cut ((List Int) × (List Int))) (k : Nat) : Exit → St → Option ((List Int) × (List Int)) := seqK (normAt 0 m20A false (m20c [true, true])) (cutK M m20A (m20c [true, true]) fun s => evC (m20E k) M (m20I k) 0 m20A (m20c [true, true]) s (retK Try.prog Try.f20 [.leaf (.own (.int .i64) 3), .leaf (.own (.int .i64) 3)])) (retK Try.prog Try.f20 [.leaf (.own (.int .i64) 3), .leaf (.own (.int .i64) 3)])
noncomputable def m20K2 (M : Cut ((List Int) × (List Int))) (k : Nat) : Exit → St → Option ((List Int) × (List Int)) := seqK (normAt 0 m20A false (m20c [true, true, true])) (cutK M m20A (m20c [true, true, true]) fun s => evC (m20E k) M (m20I k) 0 m20A (m20c [true, true, true]) s (retK Try.prog Try.f20 [.leaf (.own (.int .i64) 3), .leaf (.own (.int .i64) 3)])) (retK Try.prog Try.f20 [.leaf (.own (.int .i64) 3), .leaf (.own (.int .i64) 3)])
noncomputable def m20K3 (M : Cut ((List Int) × (List Int))) (k : Nat) : Exit → St → Option ((List Int) × (List Int)) := seqK (normAt 0 m20A false (m20c [true, true, true, true])) (cutK M m20A (m20c [true, true, true, true]) fun s => evC (m20E k) M (m20I k) 0 m20A (m20c [true, true, true, true]) s (retK Try.prog Try.f20 [.leaf (.own (.int .i64) 3), .leaf (.own (.int .i64) 3)])) (retK Try.prog Try.f20 [.leaf (.own (.int .i64) 3), .leaf (.own (.int .i64) 3)])
noncomputable def m20K4 (M : Cut ((List Int) × (List Int))) (k : Nat) : Exit → St → Option ((List Int) × (List Int)) := seqK (normAt 0 m20A false (m20c [true, true, true, false, true])) (cutK M m20A (m20c [true, true, true, false, true]) fun s => evC (m20E k) M (m20I k) 0 m20A (m20c [true, true, true, false, true]) s (m20K3 M k)) (m20K3 M k)
noncomputable def m20K5 (M : Cut ((List Int) × (List Int))) (k : Nat) : Exit → St → Option ((List Int) × (List Int)) := blockK 0 (m20K3 M k)
noncomputable def m20K6 (M : Cut ((List Int) × (List Int))) (k : Nat) (L9 : St → Option ((List Int) × (List Int))) : Exit → St → Option ((List Int) × (List Int)) := seqK (normAt 0 m20A true (m20c [true, true, true, false, true, true, true])) L9 (m20K5 M k)
noncomputable def m20K7 (M : Cut ((List Int) × (List Int))) (k : Nat) (L9 : St → Option ((List Int) × (List Int))) : Exit → St → Option ((List Int) × (List Int)) := seqK (normAt 0 m20A false (m20c [true, true, true, false, true, true, true, true])) (cutK M m20A (m20c [true, true, true, false, true, true, true, true]) fun s => evC (m20E k) M (m20I k) 0 m20A (m20c [true, true, true, false, true, true, true, true]) s (m20K6 M k L9)) (m20K6 M k L9)
noncomputable def m20K8 (M : Cut ((List Int) × (List Int))) (k : Nat) (L9 : St → Option ((List Int) × (List Int))) : Exit → St → Option ((List Int) × (List Int)) := seqK (normAt 0 m20A false (m20c [true, true, true, false, true, true, true, false, true])) (cutK M m20A (m20c [true, true, true, false, true, true, true, false, true]) fun s => evC (m20E k) M (m20I k) 0 m20A (m20c [true, true, true, false, true, true, true, false, true]) s (m20K7 M k L9)) (m20K7 M k L9)
noncomputable def m20K9 (M : Cut ((List Int) × (List Int))) (k : Nat) (L9 : St → Option ((List Int) × (List Int))) : Exit → St → Option ((List Int) × (List Int)) := seqK (normAt 0 m20A false (m20c [true, true, true, false, true, true, true, true, true])) (cutK M m20A (m20c [true, true, true, false, true, true, true, true, true]) fun s => evC (m20E k) M (m20I k) 0 m20A (m20c [true, true, true, false, true, true, true, true, true]) s (m20K6 M k L9)) (m20K6 M k L9)
noncomputable def m20K10 (M : Cut ((List Int) × (List Int))) (k : Nat) (L9 : St → Option ((List Int) × (List Int))) : Exit → St → Option ((List Int) × (List Int)) := blockK 1 (m20K9 M k L9)
noncomputable def m20K11 (M : Cut ((List Int) × (List Int))) (k : Nat) (L9 : St → Option ((List Int) × (List Int))) : Exit → St → Option ((List Int) × (List Int)) := seqK (normAt 0 m20A false (m20c [true, true, true, false, true, true, true, true, false, true, true])) (cutK M m20A (m20c [true, true, true, false, true, true, true, true, false, true, true]) fun s => evC (m20E k) M (m20I k) 0 m20A (m20c [true, true, true, false, true, true, true, true, false, true, true]) s (m20K10 M k L9)) (m20K10 M k L9)
noncomputable def m20K12 (M : Cut ((List Int) × (List Int))) (k : Nat) (L9 : St → Option ((List Int) × (List Int))) : Exit → St → Option ((List Int) × (List Int)) := seqK (normAt 0 m20A false (m20c [true, true, true, false, true, true, true, true, false, true, true, true])) (cutK M m20A (m20c [true, true, true, false, true, true, true, true, false, true, true, true]) fun s => evC (m20E k) M (m20I k) 0 m20A (m20c [true, true, true, false, true, true, true, true, false, true, true, true]) s (m20K10 M k L9)) (m20K10 M k L9)
noncomputable def m20K13 (M : Cut ((List Int) × (List Int))) (k : Nat) (L9 : St → Option ((List Int) × (List Int))) : Exit → St → Option ((List Int) × (List Int)) := blockK 2 (m20K10 M k L9)
noncomputable def m20K14 (M : Cut ((List Int) × (List Int))) (k : Nat) (L9 : St → Option ((List Int) × (List Int))) (L17 : St → Option ((List Int) × (List Int))) : Exit → St → Option ((List Int) × (List Int)) := seqK (normAt 0 m20A true (m20c [true, true, true, false, true, true, true, true, false, true, true, true, true, true])) L17 (m20K13 M k L9)
noncomputable def m20K15 (M : Cut ((List Int) × (List Int))) (k : Nat) (L9 : St → Option ((List Int) × (List Int))) (L17 : St → Option ((List Int) × (List Int))) : Exit → St → Option ((List Int) × (List Int)) := seqK (normAt 0 m20A false (m20c [true, true, true, false, true, true, true, true, false, true, true, true, true, true, true])) (cutK M m20A (m20c [true, true, true, false, true, true, true, true, false, true, true, true, true, true, true]) fun s => evC (m20E k) M (m20I k) 0 m20A (m20c [true, true, true, false, true, true, true, true, false, true, true, true, true, true, true]) s (m20K14 M k L9 L17)) (m20K14 M k L9 L17)
noncomputable def m20K16 (M : Cut ((List Int) × (List Int))) (k : Nat) (L9 : St → Option ((List Int) × (List Int))) (L17 : St → Option ((List Int) × (List Int))) : Exit → St → Option ((List Int) × (List Int)) := seqK (normAt 0 m20A false (m20c [true, true, true, false, true, true, true, true, false, true, true, true, true, true, false, true])) (cutK M m20A (m20c [true, true, true, false, true, true, true, true, false, true, true, true, true, true, false, true]) fun s => evC (m20E k) M (m20I k) 0 m20A (m20c [true, true, true, false, true, true, true, true, false, true, true, true, true, true, false, true]) s (m20K15 M k L9 L17)) (m20K15 M k L9 L17)
noncomputable def m20K17 (M : Cut ((List Int) × (List Int))) (k : Nat) (L9 : St → Option ((List Int) × (List Int))) (L17 : St → Option ((List Int) × (List Int))) : Exit → St → Option ((List Int) × (List Int)) := seqK (normAt 0 m20A false (m20c [true, true, true, false, true, true, true, true, false, true, true, true, true, true, true, true])) (cutK M m20A (m20c [true, true, true, false, true, true, true, true, false, true, true, true, true, true, true, true]) fun s => evC (m20E k) M (m20I k) 0 m20A (m20c [true, true, true, false, true, true, true, true, false, true, true, true, true, true, true, true]) s (m20K14 M k L9 L17)) (m20K14 M k L9 L17)
noncomputable def m20K18 (M : Cut ((List Int) × (List Int))) (k : Nat) (L9 : St → Option ((List Int) × (List Int))) (L17 : St → Option ((List Int) × (List Int))) : Exit → St → Option ((List Int) × (List Int)) := blockK 3 (m20K17 M k L9 L17)
noncomputable def m20K19 (M : Cut ((List Int) × (List Int))) (k : Nat) : Exit → St → Option ((List Int) × (List Int)) := seqK (normAt 0 m20A false (m20c [true, true, true, true, true])) (cutK M m20A (m20c [true, true, true, true, true]) fun s => evC (m20E k) M (m20I k) 0 m20A (m20c [true, true, true, true, true]) s (retK Try.prog Try.f20 [.leaf (.own (.int .i64) 3), .leaf (.own (.int .i64) 3)])) (retK Try.prog Try.f20 [.leaf (.own (.int .i64) 3), .leaf (.own (.int .i64) 3)])
noncomputable def m20S9 (t8 : Int) (b0 : List Int) (b1 : List Int) (b2 : List Int) : St := { n := 64, tm := slots [(1, .own 0), (6, .own 1), (7, .own 2), (8, .int .i64 t8)], tab := blks [some (.row true (.int .i64) 3 b0), some (.row true (.int .i64) 3 b1), some (.row true (.int .i64) 3 b2)], nx := 3 }
noncomputable def m20S17 (t8 : Int) (t9 : Int) (b0 : List Int) (b1 : List Int) (b2 : List Int) : St := { n := 64, tm := slots [(1, .own 0), (6, .own 1), (7, .own 2), (8, .int .i64 t8), (9, .int .i64 t9)], tab := blks [some (.row true (.int .i64) 3 b0), some (.row true (.int .i64) 3 b1), some (.row true (.int .i64) 3 b2)], nx := 3 }
noncomputable def m20S22 (b0 : List Int) (b1 : List Int) : St := { n := 64, tm := slots [(6, .own 0), (7, .own 1)], tab := blks [some (.row true (.int .i64) 3 b0), some (.row true (.int .i64) 3 b1)], nx := 2 }
noncomputable def m20S10 (t8 : Int) (b0 : List Int) (b1 : List Int) (b2 : List Int) : St := { n := 64, tm := slots [(1, .own 0), (6, .own 1), (7, .own 2), (8, .int .i64 t8)], tab := blks [some (.row true (.int .i64) 3 b0), some (.row true (.int .i64) 3 b1), some (.row true (.int .i64) 3 b2)], nx := 3 }

noncomputable def m20X (X9 : Int → List Int → List Int → List Int → Option ((List Int) × (List Int))) (k : Nat) (p0 : (List Int)) (p1 : (List Int)) : Option ((List Int) × (List Int)) := (Option.bind (m13F k p0) fun (c4 : (List Int)) => (Option.bind (m16F k p1) fun (c5 : (List Int)) => X9 (0) c5 c4 ([])))

theorem m20x (M : Cut ((List Int) × (List Int))) (k : Nat) (p0 : (List Int)) (p1 : (List Int)) : evC (m20E k) M (m20I k) 0 m20A (m20c []) (stAt Try.f20 (argSs [.leaf (.val (.row (.int .i64))), .leaf (.val (.row (.int .i64)))] (p0, p1)) (fun _ => none) 0) (retK Try.prog Try.f20 [.leaf (.own (.int .i64) 3), .leaf (.own (.int .i64) 3)]) = m20X (fun t8' b0' b1' b2' => loopN (normAt 0 m20A true (m20c [true, true, true, false, true, true, true])) (fun K s => evC (m20E k) M (m20I k) 0 m20A (m20c [true, true, true, false, true, true, true]) s K) (m20K5 M k) k (m20S9 t8' b0' b1' b2')) k p0 p1 := by kernel_rfl

noncomputable def m20X9 (X17 : Int → Int → List Int → List Int → List Int → Option ((List Int) × (List Int))) (X22 : List Int → List Int → Option ((List Int) × (List Int))) (k : Nat) (t8 : Int) (b0 : List Int) (b1 : List Int) (b2 : List Int) : Option ((List Int) × (List Int)) := (if leI (wr IntKind.i64 (t8 + (↑(List.length b0) : Int))) (↑(List.length b1) : Int) = true then (if leI 0 t8 = true then (if ltI t8 (↑(List.length b1) : Int) = true then (if leI (↑((List.length b2 + List.length (List.set (List.replicate 1 0) 0 (List.getD b1 (Int.toNat t8) 0))) * 8) : Int)
    140737488355328 =
  true then X17 t8 (0) b0 b1 (b2 ++ List.set (List.replicate 1 0) 0 (List.getD b1 (Int.toNat t8) 0)) else none) else none) else none) else X22 b1 b2)

theorem m20x9 (M : Cut ((List Int) × (List Int))) (k : Nat) (L9 : St → Option ((List Int) × (List Int))) (t8 : Int) (b0 : List Int) (b1 : List Int) (b2 : List Int) : evC (m20E k) M (m20I k) 0 m20A (m20c [true, true, true, false, true, true, true]) (m20S9 t8 b0 b1 b2) (seqK (normAt 0 m20A true (m20c [true, true, true, false, true, true, true])) L9 (m20K5 M k)) = m20X9 (fun t8' t9' b0' b1' b2' => loopN (normAt 0 m20A true (m20c [true, true, true, false, true, true, true, true, false, true, true, true, true, true])) (fun K s => evC (m20E k) M (m20I k) 0 m20A (m20c [true, true, true, false, true, true, true, true, false, true, true, true, true, true]) s K) (m20K13 M k L9) k (m20S17 t8' t9' b0' b1' b2')) (fun b0' b1' => M 22 (fun s => evC (m20E k) M (m20I k) 0 m20A (m20c [true, true, true, true]) s (retK Try.prog Try.f20 [.leaf (.own (.int .i64) 3), .leaf (.own (.int .i64) 3)])) (m20S22 b0' b1')) k t8 b0 b1 b2 := by kernel_rfl

noncomputable def m20X17 (X10 : Int → List Int → List Int → List Int → Option ((List Int) × (List Int))) (L17 : Int → Int → List Int → List Int → List Int → Option ((List Int) × (List Int))) (k : Nat) (t8 : Int) (t9 : Int) (b0 : List Int) (b1 : List Int) (b2 : List Int) : Option ((List Int) × (List Int)) := (if ltI t9 (↑(List.length b0) : Int) = true then (if leI 0 t8 = true then (if ltI t8 (↑(List.length b2) : Int) = true then (if eqI (List.getD b2 (Int.toNat t8) 0) 1 = true then (if leI 0 (wr IntKind.i64 (t8 + t9)) = true then (if ltI (wr IntKind.i64 (t8 + t9)) (↑(List.length b1) : Int) = true then (if leI 0 t9 = true then (if ltI t9 (↑(List.length b0) : Int) = true then (if (!eqI 2 0) = true then (if leI 0 (wr IntKind.i64 (t8 + t9)) = true then (if ltI (wr IntKind.i64 (t8 + t9)) (↑(List.length b1) : Int) = true then L17 t8 (wr IntKind.i64 (t9 + 1)) b0 (List.set b1 (Int.toNat (wr IntKind.i64 (t8 + t9)))
  (Int.tmod (wr IntKind.i64 (List.getD b1 (Int.toNat (wr IntKind.i64 (t8 + t9))) 0 + List.getD b0 (Int.toNat t9) 0)) 2)) b2 else none) else none) else none) else none) else none) else none) else none) else X10 t8 b0 b1 b2) else none) else none) else X10 t8 b0 b1 b2)

theorem m20x17 (M : Cut ((List Int) × (List Int))) (k : Nat) (L9 : St → Option ((List Int) × (List Int))) (L17 : St → Option ((List Int) × (List Int))) (t8 : Int) (t9 : Int) (b0 : List Int) (b1 : List Int) (b2 : List Int) : evC (m20E k) M (m20I k) 0 m20A (m20c [true, true, true, false, true, true, true, true, false, true, true, true, true, true]) (m20S17 t8 t9 b0 b1 b2) (seqK (normAt 0 m20A true (m20c [true, true, true, false, true, true, true, true, false, true, true, true, true, true])) L17 (m20K13 M k L9)) = m20X17 (fun t8' b0' b1' b2' => M 10 (fun s => evC (m20E k) M (m20I k) 0 m20A (m20c [true, true, true, false, true, true, true, true, true]) s (m20K6 M k L9)) (m20S10 t8' b0' b1' b2')) (fun t8' t9' b0' b1' b2' => L17 (m20S17 t8' t9' b0' b1' b2')) k t8 t9 b0 b1 b2 := by kernel_rfl

noncomputable def m20X22 (k : Nat) (b0 : List Int) (b1 : List Int) : Option ((List Int) × (List Int)) := (Option.bind (m16F k b1) fun (c4 : (List Int)) => (Option.bind (m16F k b0) fun (c5 : (List Int)) => some ((c4, c5))))

theorem m20x22 (M : Cut ((List Int) × (List Int))) (k : Nat) (b0 : List Int) (b1 : List Int) : evC (m20E k) M (m20I k) 0 m20A (m20c [true, true, true, true]) (m20S22 b0 b1) (retK Try.prog Try.f20 [.leaf (.own (.int .i64) 3), .leaf (.own (.int .i64) 3)]) = m20X22 k b0 b1 := by kernel_rfl

noncomputable def m20X10 (L9 : Int → List Int → List Int → List Int → Option ((List Int) × (List Int))) (k : Nat) (t8 : Int) (b0 : List Int) (b1 : List Int) (b2 : List Int) : Option ((List Int) × (List Int)) := L9 (wr IntKind.i64 (t8 + 1)) b0 b1 b2

theorem m20x10 (M : Cut ((List Int) × (List Int))) (k : Nat) (L9 : St → Option ((List Int) × (List Int))) (t8 : Int) (b0 : List Int) (b1 : List Int) (b2 : List Int) : evC (m20E k) M (m20I k) 0 m20A (m20c [true, true, true, false, true, true, true, true, true]) (m20S10 t8 b0 b1 b2) (m20K6 M k L9) = m20X10 (fun t8' b0' b1' b2' => L9 (m20S9 t8' b0' b1' b2')) k t8 b0 b1 b2 := by kernel_rfl

noncomputable def m20F22 (k : Nat) (b0 : List Int) (b1 : List Int) : Option ((List Int) × (List Int)) := m20X22 k b0 b1

theorem m20q22 (k : Nat) (b0 : List Int) (b1 : List Int) : evC (m20E k) (fun _ f => f) (m20I k) 0 m20A (m20c [true, true, true, true]) (m20S22 b0 b1) (retK Try.prog Try.f20 [.leaf (.own (.int .i64) 3), .leaf (.own (.int .i64) 3)]) = m20F22 k b0 b1 := by
    show _ = m20X22 k b0 b1
    exact m20x22 (fun _ f => f) k b0 b1

noncomputable def m20F10 (k : Nat) (L9 : Int → List Int → List Int → List Int → Option ((List Int) × (List Int))) (t8 : Int) (b0 : List Int) (b1 : List Int) (b2 : List Int) : Option ((List Int) × (List Int)) := m20X10 L9 k t8 b0 b1 b2

theorem m20q10 (k : Nat) (L9 : St → Option ((List Int) × (List Int))) (t8 : Int) (b0 : List Int) (b1 : List Int) (b2 : List Int) : evC (m20E k) (fun _ f => f) (m20I k) 0 m20A (m20c [true, true, true, false, true, true, true, true, true]) (m20S10 t8 b0 b1 b2) (m20K6 (fun _ f => f) k L9) = m20F10 k (fun t8' b0' b1' b2' => L9 (m20S9 t8' b0' b1' b2')) t8 b0 b1 b2 := by
    show _ = m20X10 (fun t8' b0' b1' b2' => L9 (m20S9 t8' b0' b1' b2')) k t8 b0 b1 b2
    exact m20x10 (fun _ f => f) k L9 t8 b0 b1 b2

noncomputable def m20F17 (k : Nat) (L9 : Int → List Int → List Int → List Int → Option ((List Int) × (List Int))) : Nat → Int → Int → List Int → List Int → List Int → Option ((List Int) × (List Int))
  | 0, _, _, _, _, _ => none
  | j + 1, t8, t9, b0, b1, b2 => m20X17 (m20F10 k L9) (m20F17 k L9 j) k t8 t9 b0 b1 b2

theorem m20q17 (k : Nat) (L9 : St → Option ((List Int) × (List Int))) : ∀ (j : Nat) (t8 : Int) (t9 : Int) (b0 : List Int) (b1 : List Int) (b2 : List Int), loopN (normAt 0 m20A true (m20c [true, true, true, false, true, true, true, true, false, true, true, true, true, true])) (fun K s => evC (m20E k) (fun _ f => f) (m20I k) 0 m20A (m20c [true, true, true, false, true, true, true, true, false, true, true, true, true, true]) s K) (m20K13 (fun _ f => f) k L9) j (m20S17 t8 t9 b0 b1 b2) = m20F17 k (fun t8' b0' b1' b2' => L9 (m20S9 t8' b0' b1' b2')) j t8 t9 b0 b1 b2
  | 0, _, _, _, _, _ => rfl
  | j + 1, t8, t9, b0, b1, b2 => by
    have e0 : m20F17 k (fun t8' b0' b1' b2' => L9 (m20S9 t8' b0' b1' b2')) j = (fun t8' t9' b0' b1' b2' => loopN (normAt 0 m20A true (m20c [true, true, true, false, true, true, true, true, false, true, true, true, true, true])) (fun K s => evC (m20E k) (fun _ f => f) (m20I k) 0 m20A (m20c [true, true, true, false, true, true, true, true, false, true, true, true, true, true]) s K) (m20K13 (fun _ f => f) k L9) j (m20S17 t8' t9' b0' b1' b2')) := funext fun t8' => funext fun t9' => funext fun b0' => funext fun b1' => funext fun b2' => (m20q17 k L9 j t8' t9' b0' b1' b2').symm
    have e10 : m20F10 k (fun t8' b0' b1' b2' => L9 (m20S9 t8' b0' b1' b2')) = (fun t8' b0' b1' b2' => evC (m20E k) (fun _ f => f) (m20I k) 0 m20A (m20c [true, true, true, false, true, true, true, true, true]) (m20S10 t8' b0' b1' b2') (m20K6 (fun _ f => f) k L9)) := funext fun t8' => funext fun b0' => funext fun b1' => funext fun b2' => (m20q10 k L9 t8' b0' b1' b2').symm
    show _ = m20X17 (m20F10 k (fun t8' b0' b1' b2' => L9 (m20S9 t8' b0' b1' b2'))) (m20F17 k (fun t8' b0' b1' b2' => L9 (m20S9 t8' b0' b1' b2')) j) k t8 t9 b0 b1 b2
    rw [e0, e10]
    exact m20x17 (fun _ f => f) k L9 (loopN (normAt 0 m20A true (m20c [true, true, true, false, true, true, true, true, false, true, true, true, true, true])) (fun K s => evC (m20E k) (fun _ f => f) (m20I k) 0 m20A (m20c [true, true, true, false, true, true, true, true, false, true, true, true, true, true]) s K) (m20K13 (fun _ f => f) k L9) j) t8 t9 b0 b1 b2

noncomputable def m20F9 (k : Nat) : Nat → Int → List Int → List Int → List Int → Option ((List Int) × (List Int))
  | 0, _, _, _, _ => none
  | j + 1, t8, b0, b1, b2 => m20X9 (m20F17 k (m20F9 k j) k) (m20F22 k) k t8 b0 b1 b2

theorem m20q9 (k : Nat) : ∀ (j : Nat) (t8 : Int) (b0 : List Int) (b1 : List Int) (b2 : List Int), loopN (normAt 0 m20A true (m20c [true, true, true, false, true, true, true])) (fun K s => evC (m20E k) (fun _ f => f) (m20I k) 0 m20A (m20c [true, true, true, false, true, true, true]) s K) (m20K5 (fun _ f => f) k) j (m20S9 t8 b0 b1 b2) = m20F9 k j t8 b0 b1 b2
  | 0, _, _, _, _ => rfl
  | j + 1, t8, b0, b1, b2 => by
    have e0 : m20F9 k j = (fun t8' b0' b1' b2' => loopN (normAt 0 m20A true (m20c [true, true, true, false, true, true, true])) (fun K s => evC (m20E k) (fun _ f => f) (m20I k) 0 m20A (m20c [true, true, true, false, true, true, true]) s K) (m20K5 (fun _ f => f) k) j (m20S9 t8' b0' b1' b2')) := funext fun t8' => funext fun b0' => funext fun b1' => funext fun b2' => (m20q9 k j t8' b0' b1' b2').symm
    have e17 : m20F17 k (fun t8' b0' b1' b2' => loopN (normAt 0 m20A true (m20c [true, true, true, false, true, true, true])) (fun K s => evC (m20E k) (fun _ f => f) (m20I k) 0 m20A (m20c [true, true, true, false, true, true, true]) s K) (m20K5 (fun _ f => f) k) j (m20S9 t8' b0' b1' b2')) k = (fun t8' t9' b0' b1' b2' => loopN (normAt 0 m20A true (m20c [true, true, true, false, true, true, true, true, false, true, true, true, true, true])) (fun K s => evC (m20E k) (fun _ f => f) (m20I k) 0 m20A (m20c [true, true, true, false, true, true, true, true, false, true, true, true, true, true]) s K) (m20K13 (fun _ f => f) k (loopN (normAt 0 m20A true (m20c [true, true, true, false, true, true, true])) (fun K s => evC (m20E k) (fun _ f => f) (m20I k) 0 m20A (m20c [true, true, true, false, true, true, true]) s K) (m20K5 (fun _ f => f) k) j)) k (m20S17 t8' t9' b0' b1' b2')) := funext fun t8' => funext fun t9' => funext fun b0' => funext fun b1' => funext fun b2' => (m20q17 k (loopN (normAt 0 m20A true (m20c [true, true, true, false, true, true, true])) (fun K s => evC (m20E k) (fun _ f => f) (m20I k) 0 m20A (m20c [true, true, true, false, true, true, true]) s K) (m20K5 (fun _ f => f) k) j) k t8' t9' b0' b1' b2').symm
    have e22 : m20F22 k = (fun b0' b1' => evC (m20E k) (fun _ f => f) (m20I k) 0 m20A (m20c [true, true, true, true]) (m20S22 b0' b1') (retK Try.prog Try.f20 [.leaf (.own (.int .i64) 3), .leaf (.own (.int .i64) 3)])) := funext fun b0' => funext fun b1' => (m20q22 k b0' b1').symm
    show _ = m20X9 (m20F17 k (m20F9 k j) k) (m20F22 k) k t8 b0 b1 b2
    rw [e0, e17, e22]
    exact m20x9 (fun _ f => f) k (loopN (normAt 0 m20A true (m20c [true, true, true, false, true, true, true])) (fun K s => evC (m20E k) (fun _ f => f) (m20I k) 0 m20A (m20c [true, true, true, false, true, true, true]) s K) (m20K5 (fun _ f => f) k) j) t8 b0 b1 b2

noncomputable def m20F (k : Nat) (p0 : (List Int)) (p1 : (List Int)) : Option ((List Int) × (List Int)) := m20X (m20F9 k k) k p0 p1

theorem m20q (k : Nat) (p0 : (List Int)) (p1 : (List Int)) : evC (m20E k) (fun _ f => f) (m20I k) 0 m20A (m20c []) (stAt Try.f20 (argSs [.leaf (.val (.row (.int .i64))), .leaf (.val (.row (.int .i64)))] (p0, p1)) (fun _ => none) 0) (retK Try.prog Try.f20 [.leaf (.own (.int .i64) 3), .leaf (.own (.int .i64) 3)]) = m20F k p0 p1 := by
    have e9 : m20F9 k k = (fun t8' b0' b1' b2' => loopN (normAt 0 m20A true (m20c [true, true, true, false, true, true, true])) (fun K s => evC (m20E k) (fun _ f => f) (m20I k) 0 m20A (m20c [true, true, true, false, true, true, true]) s K) (m20K5 (fun _ f => f) k) k (m20S9 t8' b0' b1' b2')) := funext fun t8' => funext fun b0' => funext fun b1' => funext fun b2' => (m20q9 k k t8' b0' b1' b2').symm
    show _ = m20X (m20F9 k k) k p0 p1
    rw [e9]
    exact m20x (fun _ f => f) k p0 p1

noncomputable def m20sp : Spec := { ps := [.leaf (.val (.row (.int .i64))), .leaf (.val (.row (.int .i64)))], rs := [.leaf (.own (.int .i64) 3), .leaf (.own (.int .i64) 3)], f := fun k a => m20F k a.1 a.2 }

theorem m20ok (k : Nat) : EnvOk (m20E k) := envOk_of (l := [(13, m13sp), (16, m16sp)]) (lB := []) progNames progMixed rfl rfl (.cons ⟨m13con k, Try.f13, by kernel_rfl, by kernel_rfl⟩ (.cons ⟨m16con k, Try.f16, by kernel_rfl, by kernel_rfl⟩ (.nil))) (.nil)

theorem m20con (k : Nat) : Contract Try.prog k 20 m20sp := contract_of (E := m20E k) (m20ok k) (A := only 20 m20A) (d := 3) (c := m20c []) (by kernel_rfl) (by kernel_rfl) fun a _ h => (m20q k a.1 a.2).trans h

end Go.Proofs.Ytahglkaihhjimaa.Mini
