/- Printed by a program of this session's (MPrint, over wip/mini): plain functions of the program's, and that they are what it does. Lean checks it. -/
import Derived.Test.YtmioimcpiddgfaaXMO
import Derived.Test.YtmioimcpiddgfaaProg
import Derived.KernelRfl
set_option linter.unusedVariables false
namespace Go.Proofs.Ytmioimcpiddgfaa.Mini
open Go Go.RowKit Go.Proofs
theorem progNames : (Try.prog.funcs.all fun f => !(f.name == "runtime.NumGoroutine")) = true := by kernel_rfl
theorem progMixed : Try.prog.follows .mixedOrders = true := by kernel_rfl

noncomputable def m26A : Anns := tabA []
noncomputable def m26E (k : Nat) : Env := { P := Try.prog, k := k, G := tabG [] }
noncomputable def m26c (p : List Bool) : Code := sub p (bodyOf Try.f26)
noncomputable def m26I (k : Nat) : Inl (List Int) := inlOf (m26E k) (only 26 m26A) 3
noncomputable def m26K0 (M : Cut (List Int)) (k : Nat) : Exit → St → Option (List Int) := seqK (normAt 0 m26A false (m26c [true])) (cutK M m26A (m26c [true]) fun s => evC (m26E k) M (m26I k) 0 m26A (m26c [true]) s (retK Try.prog Try.f26 [.leaf (.own (.int .u8) 5)])) (retK Try.prog Try.f26 [.leaf (.own (.int .u8) 5)])
noncomputable def m26K1 (M : Cut (List Int)) (k : Nat) : Exit → St → Option (List Int) := seqK (normAt 0 m26A false (m26c [true, true])) (cutK M m26A (m26c [true, true]) fun s => evC (m26E k) M (m26I k) 0 m26A (m26c [true, true]) s (retK Try.prog Try.f26 [.leaf (.own (.int .u8) 5)])) (retK Try.prog Try.f26 [.leaf (.own (.int .u8) 5)])
noncomputable def m26K2 (M : Cut (List Int)) (k : Nat) : Exit → St → Option (List Int) := seqK (normAt 0 m26A false (m26c [true, false, true])) (cutK M m26A (m26c [true, false, true]) fun s => evC (m26E k) M (m26I k) 0 m26A (m26c [true, false, true]) s (m26K1 M k)) (m26K1 M k)
noncomputable def m26K3 (M : Cut (List Int)) (k : Nat) : Exit → St → Option (List Int) := seqK (normAt 0 m26A false (m26c [true, false, true, false, true])) (cutK M m26A (m26c [true, false, true, false, true]) fun s => evC (m26E k) M (m26I k) 0 m26A (m26c [true, false, true, false, true]) s (m26K1 M k)) (m26K1 M k)
noncomputable def m26K4 (M : Cut (List Int)) (k : Nat) : Exit → St → Option (List Int) := seqK (normAt 0 m26A false (m26c [true, true, true])) (cutK M m26A (m26c [true, true, true]) fun s => evC (m26E k) M (m26I k) 0 m26A (m26c [true, true, true]) s (retK Try.prog Try.f26 [.leaf (.own (.int .u8) 5)])) (retK Try.prog Try.f26 [.leaf (.own (.int .u8) 5)])

noncomputable def m26X (k : Nat) (p0 : (List Int)) : Option (List Int) := (nilK (List.isEmpty p0) (some ([])) ((if leI (↑((0 + List.length p0) * 1) : Int) 140737488355328 = true then some (List.replicate 0 0 ++ p0) else none)))

theorem m26x (M : Cut (List Int)) (k : Nat) (p0 : (List Int)) : evC (m26E k) M (m26I k) 0 m26A (m26c []) (stAt Try.f26 (argSs [.leaf (.val (.row (.int .u8)))] p0) (fun _ => none) 0) (retK Try.prog Try.f26 [.leaf (.own (.int .u8) 5)]) = m26X k p0 := by kernel_rfl

noncomputable def m26F (k : Nat) (p0 : (List Int)) : Option (List Int) := m26X k p0

theorem m26q (k : Nat) (p0 : (List Int)) : evC (m26E k) (fun _ f => f) (m26I k) 0 m26A (m26c []) (stAt Try.f26 (argSs [.leaf (.val (.row (.int .u8)))] p0) (fun _ => none) 0) (retK Try.prog Try.f26 [.leaf (.own (.int .u8) 5)]) = m26F k p0 := by
    show _ = m26X k p0
    exact m26x (fun _ f => f) k p0

noncomputable def m26sp : Spec := { ps := [.leaf (.val (.row (.int .u8)))], rs := [.leaf (.own (.int .u8) 5)], f := fun k a => m26F k a }

theorem m26ok (k : Nat) : EnvOk (m26E k) := envOk_of (l := []) progNames progMixed rfl (.nil)

theorem m26con (k : Nat) : Contract Try.prog k 26 m26sp := contract_of (E := m26E k) (m26ok k) (A := only 26 m26A) (d := 3) (c := m26c []) (by kernel_rfl) (by kernel_rfl) fun a _ h => (m26q k a).trans h

noncomputable def m18A : Anns := tabA [(15, { keep := [1, 8, 9] }), (20, { keep := [8] })]
noncomputable def m18E (k : Nat) : Env := { P := Try.prog, k := k, G := tabG [(26, m26sp)] }
noncomputable def m18c (p : List Bool) : Code := sub p (bodyOf Try.f18)
noncomputable def m18I (k : Nat) : Inl ((List Int) × Int) := inlOf (m18E k) (only 18 m18A) 3
noncomputable def m18K0 (M : Cut ((List Int) × Int)) (k : Nat) : Exit → St → Option ((List Int) × Int) := seqK (normAt 0 m18A false (m18c [true])) (cutK M m18A (m18c [true]) fun s => evC (m18E k) M (m18I k) 0 m18A (m18c [true]) s (retK Try.prog Try.f18 [.leaf (.own (.int .u8) 5), .leaf (.val (.int .i64))])) (retK Try.prog Try.f18 [.leaf (.own (.int .u8) 5), .leaf (.val (.int .i64))])
noncomputable def m18K1 (M : Cut ((List Int) × Int)) (k : Nat) : Exit → St → Option ((List Int) × Int) := seqK (normAt 0 m18A false (m18c [true, true])) (cutK M m18A (m18c [true, true]) fun s => evC (m18E k) M (m18I k) 0 m18A (m18c [true, true]) s (retK Try.prog Try.f18 [.leaf (.own (.int .u8) 5), .leaf (.val (.int .i64))])) (retK Try.prog Try.f18 [.leaf (.own (.int .u8) 5), .leaf (.val (.int .i64))])
noncomputable def m18K2 (M : Cut ((List Int) × Int)) (k : Nat) : Exit → St → Option ((List Int) × Int) := blockK 0 (m18K1 M k)
noncomputable def m18K3 (M : Cut ((List Int) × Int)) (k : Nat) : Exit → St → Option ((List Int) × Int) := seqK (normAt 0 m18A false (m18c [true, false, true, true])) (cutK M m18A (m18c [true, false, true, true]) fun s => evC (m18E k) M (m18I k) 0 m18A (m18c [true, false, true, true]) s (m18K2 M k)) (m18K2 M k)
noncomputable def m18K4 (M : Cut ((List Int) × Int)) (k : Nat) : Exit → St → Option ((List Int) × Int) := seqK (normAt 0 m18A false (m18c [true, false, true, true, false, true])) (cutK M m18A (m18c [true, false, true, true, false, true]) fun s => evC (m18E k) M (m18I k) 0 m18A (m18c [true, false, true, true, false, true]) s (m18K2 M k)) (m18K2 M k)
noncomputable def m18K5 (M : Cut ((List Int) × Int)) (k : Nat) : Exit → St → Option ((List Int) × Int) := seqK (normAt 0 m18A false (m18c [true, false, true, true, true, true])) (cutK M m18A (m18c [true, false, true, true, true, true]) fun s => evC (m18E k) M (m18I k) 0 m18A (m18c [true, false, true, true, true, true]) s (m18K2 M k)) (m18K2 M k)
noncomputable def m18K6 (M : Cut ((List Int) × Int)) (k : Nat) : Exit → St → Option ((List Int) × Int) := seqK (normAt 0 m18A false (m18c [true, false, true, true, true, true, false, true])) (cutK M m18A (m18c [true, false, true, true, true, true, false, true]) fun s => evC (m18E k) M (m18I k) 0 m18A (m18c [true, false, true, true, true, true, false, true]) s (m18K2 M k)) (m18K2 M k)
noncomputable def m18K7 (M : Cut ((List Int) × Int)) (k : Nat) : Exit → St → Option ((List Int) × Int) := seqK (normAt 0 m18A false (m18c [true, true, true])) (cutK M m18A (m18c [true, true, true]) fun s => evC (m18E k) M (m18I k) 0 m18A (m18c [true, true, true]) s (retK Try.prog Try.f18 [.leaf (.own (.int .u8) 5), .leaf (.val (.int .i64))])) (retK Try.prog Try.f18 [.leaf (.own (.int .u8) 5), .leaf (.val (.int .i64))])
noncomputable def m18K8 (M : Cut ((List Int) × Int)) (k : Nat) : Exit → St → Option ((List Int) × Int) := seqK (normAt 0 m18A false (m18c [true, true, true, true])) (cutK M m18A (m18c [true, true, true, true]) fun s => evC (m18E k) M (m18I k) 0 m18A (m18c [true, true, true, true]) s (retK Try.prog Try.f18 [.leaf (.own (.int .u8) 5), .leaf (.val (.int .i64))])) (retK Try.prog Try.f18 [.leaf (.own (.int .u8) 5), .leaf (.val (.int .i64))])
noncomputable def m18K9 (M : Cut ((List Int) × Int)) (k : Nat) : Exit → St → Option ((List Int) × Int) := seqK (normAt 0 m18A false (m18c [true, true, true, false, true])) (cutK M m18A (m18c [true, true, true, false, true]) fun s => evC (m18E k) M (m18I k) 0 m18A (m18c [true, true, true, false, true]) s (m18K8 M k)) (m18K8 M k)
noncomputable def m18K10 (M : Cut ((List Int) × Int)) (k : Nat) : Exit → St → Option ((List Int) × Int) := blockK 1 (m18K8 M k)
noncomputable def m18K11 (M : Cut ((List Int) × Int)) (k : Nat) (L15 : St → Option ((List Int) × Int)) : Exit → St → Option ((List Int) × Int) := seqK (normAt 0 m18A true (m18c [true, true, true, false, true, true, true])) L15 (m18K10 M k)
noncomputable def m18K12 (M : Cut ((List Int) × Int)) (k : Nat) (L15 : St → Option ((List Int) × Int)) : Exit → St → Option ((List Int) × Int) := seqK (normAt 0 m18A false (m18c [true, true, true, false, true, true, true, true])) (cutK M m18A (m18c [true, true, true, false, true, true, true, true]) fun s => evC (m18E k) M (m18I k) 0 m18A (m18c [true, true, true, false, true, true, true, true]) s (m18K11 M k L15)) (m18K11 M k L15)
noncomputable def m18K13 (M : Cut ((List Int) × Int)) (k : Nat) (L15 : St → Option ((List Int) × Int)) : Exit → St → Option ((List Int) × Int) := seqK (normAt 0 m18A false (m18c [true, true, true, false, true, true, true, false, true])) (cutK M m18A (m18c [true, true, true, false, true, true, true, false, true]) fun s => evC (m18E k) M (m18I k) 0 m18A (m18c [true, true, true, false, true, true, true, false, true]) s (m18K12 M k L15)) (m18K12 M k L15)
noncomputable def m18K14 (M : Cut ((List Int) × Int)) (k : Nat) (L15 : St → Option ((List Int) × Int)) : Exit → St → Option ((List Int) × Int) := seqK (normAt 0 m18A false (m18c [true, true, true, false, true, true, true, true, true])) (cutK M m18A (m18c [true, true, true, false, true, true, true, true, true]) fun s => evC (m18E k) M (m18I k) 0 m18A (m18c [true, true, true, false, true, true, true, true, true]) s (m18K11 M k L15)) (m18K11 M k L15)
noncomputable def m18K15 (M : Cut ((List Int) × Int)) (k : Nat) (L15 : St → Option ((List Int) × Int)) : Exit → St → Option ((List Int) × Int) := blockK 2 (m18K14 M k L15)
noncomputable def m18K16 (M : Cut ((List Int) × Int)) (k : Nat) : Exit → St → Option ((List Int) × Int) := seqK (normAt 0 m18A false (m18c [true, true, true, true, true])) (cutK M m18A (m18c [true, true, true, true, true]) fun s => evC (m18E k) M (m18I k) 0 m18A (m18c [true, true, true, true, true]) s (retK Try.prog Try.f18 [.leaf (.own (.int .u8) 5), .leaf (.val (.int .i64))])) (retK Try.prog Try.f18 [.leaf (.own (.int .u8) 5), .leaf (.val (.int .i64))])
noncomputable def m18S15 (t1 : Int) (t9 : Int) (b0 : List Int) : St := { n := 52, tm := slots [(1, .int .i64 t1), (8, .own 0), (9, .int .i64 t9)], tab := blks [some (.row true (.int .u8) 5 b0)], nx := 1 }
noncomputable def m18S20 (b0 : List Int) : St := { n := 52, tm := slots [(8, .own 0)], tab := blks [some (.row true (.int .u8) 5 b0)], nx := 1 }

noncomputable def m18X (X15 : Int → Int → List Int → Option ((List Int) × Int)) (k : Nat) (p0 : (List Int)) (p1 : Int) (p2 : Int) : Option ((List Int) × Int) := (if ltI p2 1 = true then some (([], 1)) else (if ltI 4 p2 = true then some (([], 1)) else (if ltI p1 0 = true then some (([], 1)) else (if leI 0 (wr IntKind.i64 (8 * p2)) = true then (if leI (wr IntKind.i64 (1 * Mini.p2 (min (Int.toNat (wr IntKind.i64 (8 * p2))) 64))) p1 = true then some (([], 1)) else (if ltI (wr IntKind.i64 (4096 - p2)) (↑(List.length p0) : Int) = true then some (([], 2)) else (Option.bind (m26F k p0) fun (c5 : (List Int)) => X15 p1 (wr IntKind.i64 (p2 - 1)) c5))) else none))))

theorem m18x (M : Cut ((List Int) × Int)) (k : Nat) (p0 : (List Int)) (p1 : Int) (p2 : Int) : evC (m18E k) M (m18I k) 0 m18A (m18c []) (stAt Try.f18 (argSs [.leaf (.val (.row (.int .u8))), .leaf (.val (.int .i64)), .leaf (.val (.int .i64))] (p0, p1, p2)) (fun _ => none) 0) (retK Try.prog Try.f18 [.leaf (.own (.int .u8) 5), .leaf (.val (.int .i64))]) = m18X (fun t1' t9' b0' => loopN (normAt 0 m18A true (m18c [true, true, true, false, true, true, true])) (fun K s => evC (m18E k) M (m18I k) 0 m18A (m18c [true, true, true, false, true, true, true]) s K) (m18K10 M k) k (m18S15 t1' t9' b0')) k p0 p1 p2 := by kernel_rfl

noncomputable def m18X15 (X20 : List Int → Option ((List Int) × Int)) (L15 : Int → Int → List Int → Option ((List Int) × Int)) (k : Nat) (t1 : Int) (t9 : Int) (b0 : List Int) : Option ((List Int) × Int) := (if leI 0 t9 = true then (if leI 0 (wr IntKind.i64 (8 * t9)) = true then (if leI
    (↑((List.length b0 +
            List.length
              (List.set (List.replicate 1 0) 0
                (wr IntKind.u8 (t1 / p2 (min (Int.toNat (wr IntKind.i64 (8 * t9))) 64))))) *
          1) :
      Int)
    140737488355328 =
  true then L15 t1 (wr IntKind.i64 (t9 - 1)) (b0 ++ List.set (List.replicate 1 0) 0 (wr IntKind.u8 (t1 / p2 (min (Int.toNat (wr IntKind.i64 (8 * t9))) 64)))) else none) else none) else X20 b0)

theorem m18x15 (M : Cut ((List Int) × Int)) (k : Nat) (L15 : St → Option ((List Int) × Int)) (t1 : Int) (t9 : Int) (b0 : List Int) : evC (m18E k) M (m18I k) 0 m18A (m18c [true, true, true, false, true, true, true]) (m18S15 t1 t9 b0) (seqK (normAt 0 m18A true (m18c [true, true, true, false, true, true, true])) L15 (m18K10 M k)) = m18X15 (fun b0' => M 20 (fun s => evC (m18E k) M (m18I k) 0 m18A (m18c [true, true, true, true]) s (retK Try.prog Try.f18 [.leaf (.own (.int .u8) 5), .leaf (.val (.int .i64))])) (m18S20 b0')) (fun t1' t9' b0' => L15 (m18S15 t1' t9' b0')) k t1 t9 b0 := by kernel_rfl

noncomputable def m18X20 (k : Nat) (b0 : List Int) : Option ((List Int) × Int) := (Option.bind (m26F k b0) fun (c3 : (List Int)) => some ((c3, 0)))

theorem m18x20 (M : Cut ((List Int) × Int)) (k : Nat) (b0 : List Int) : evC (m18E k) M (m18I k) 0 m18A (m18c [true, true, true, true]) (m18S20 b0) (retK Try.prog Try.f18 [.leaf (.own (.int .u8) 5), .leaf (.val (.int .i64))]) = m18X20 k b0 := by kernel_rfl

noncomputable def m18F20 (k : Nat) (b0 : List Int) : Option ((List Int) × Int) := m18X20 k b0

theorem m18q20 (k : Nat) (b0 : List Int) : evC (m18E k) (fun _ f => f) (m18I k) 0 m18A (m18c [true, true, true, true]) (m18S20 b0) (retK Try.prog Try.f18 [.leaf (.own (.int .u8) 5), .leaf (.val (.int .i64))]) = m18F20 k b0 := by
    show _ = m18X20 k b0
    exact m18x20 (fun _ f => f) k b0

noncomputable def m18F15 (k : Nat) : Nat → Int → Int → List Int → Option ((List Int) × Int)
  | 0, _, _, _ => none
  | j + 1, t1, t9, b0 => m18X15 (m18F20 k) (m18F15 k j) k t1 t9 b0

theorem m18q15 (k : Nat) : ∀ (j : Nat) (t1 : Int) (t9 : Int) (b0 : List Int), loopN (normAt 0 m18A true (m18c [true, true, true, false, true, true, true])) (fun K s => evC (m18E k) (fun _ f => f) (m18I k) 0 m18A (m18c [true, true, true, false, true, true, true]) s K) (m18K10 (fun _ f => f) k) j (m18S15 t1 t9 b0) = m18F15 k j t1 t9 b0
  | 0, _, _, _ => rfl
  | j + 1, t1, t9, b0 => by
    have e0 : m18F15 k j = (fun t1' t9' b0' => loopN (normAt 0 m18A true (m18c [true, true, true, false, true, true, true])) (fun K s => evC (m18E k) (fun _ f => f) (m18I k) 0 m18A (m18c [true, true, true, false, true, true, true]) s K) (m18K10 (fun _ f => f) k) j (m18S15 t1' t9' b0')) := funext fun t1' => funext fun t9' => funext fun b0' => (m18q15 k j t1' t9' b0').symm
    have e20 : m18F20 k = (fun b0' => evC (m18E k) (fun _ f => f) (m18I k) 0 m18A (m18c [true, true, true, true]) (m18S20 b0') (retK Try.prog Try.f18 [.leaf (.own (.int .u8) 5), .leaf (.val (.int .i64))])) := funext fun b0' => (m18q20 k b0').symm
    show _ = m18X15 (m18F20 k) (m18F15 k j) k t1 t9 b0
    rw [e0, e20]
    exact m18x15 (fun _ f => f) k (loopN (normAt 0 m18A true (m18c [true, true, true, false, true, true, true])) (fun K s => evC (m18E k) (fun _ f => f) (m18I k) 0 m18A (m18c [true, true, true, false, true, true, true]) s K) (m18K10 (fun _ f => f) k) j) t1 t9 b0

noncomputable def m18F (k : Nat) (p0 : (List Int)) (p1 : Int) (p2 : Int) : Option ((List Int) × Int) := m18X (m18F15 k k) k p0 p1 p2

theorem m18q (k : Nat) (p0 : (List Int)) (p1 : Int) (p2 : Int) : evC (m18E k) (fun _ f => f) (m18I k) 0 m18A (m18c []) (stAt Try.f18 (argSs [.leaf (.val (.row (.int .u8))), .leaf (.val (.int .i64)), .leaf (.val (.int .i64))] (p0, p1, p2)) (fun _ => none) 0) (retK Try.prog Try.f18 [.leaf (.own (.int .u8) 5), .leaf (.val (.int .i64))]) = m18F k p0 p1 p2 := by
    have e15 : m18F15 k k = (fun t1' t9' b0' => loopN (normAt 0 m18A true (m18c [true, true, true, false, true, true, true])) (fun K s => evC (m18E k) (fun _ f => f) (m18I k) 0 m18A (m18c [true, true, true, false, true, true, true]) s K) (m18K10 (fun _ f => f) k) k (m18S15 t1' t9' b0')) := funext fun t1' => funext fun t9' => funext fun b0' => (m18q15 k k t1' t9' b0').symm
    show _ = m18X (m18F15 k k) k p0 p1 p2
    rw [e15]
    exact m18x (fun _ f => f) k p0 p1 p2

noncomputable def m18sp : Spec := { ps := [.leaf (.val (.row (.int .u8))), .leaf (.val (.int .i64)), .leaf (.val (.int .i64))], rs := [.leaf (.own (.int .u8) 5), .leaf (.val (.int .i64))], f := fun k a => m18F k a.1 a.2.1 a.2.2 }

theorem m18ok (k : Nat) : EnvOk (m18E k) := envOk_of (l := [(26, m26sp)]) progNames progMixed rfl (.cons ⟨m26con k, Try.f26, by kernel_rfl, by kernel_rfl⟩ (.nil))

theorem m18con (k : Nat) : Contract Try.prog k 18 m18sp := contract_of (E := m18E k) (m18ok k) (A := only 18 m18A) (d := 3) (c := m18c []) (by kernel_rfl) (by kernel_rfl) fun a _ h => (m18q k a.1 a.2.1 a.2.2).trans h

noncomputable def m30A : Anns := tabA [(7, { keep := [1, 5], mat := [(1, (.int .i64), 3)] }), (15, { keep := [1, 3, 5, 9] }), (26, { keep := [1, 3, 5] })]
noncomputable def m30E (k : Nat) : Env := { P := Try.prog, k := k, G := tabG [] }
noncomputable def m30c (p : List Bool) : Code := sub p (bodyOf Try.f30)
noncomputable def m30I (k : Nat) : Inl (List Int) := inlOf (m30E k) (only 30 m30A) 3
noncomputable def m30K0 (M : Cut (List Int)) (k : Nat) : Exit → St → Option (List Int) := seqK (normAt 0 m30A false (m30c [true])) (cutK M m30A (m30c [true]) fun s => evC (m30E k) M (m30I k) 0 m30A (m30c [true]) s (retK Try.prog Try.f30 [.leaf (.own (.int .i64) 3)])) (retK Try.prog Try.f30 [.leaf (.own (.int .i64) 3)])
noncomputable def m30K1 (M : Cut (List Int)) (k : Nat) : Exit → St → Option (List Int) := seqK (normAt 0 m30A false (m30c [true, true])) (cutK M m30A (m30c [true, true]) fun s => evC (m30E k) M (m30I k) 0 m30A (m30c [true, true]) s (retK Try.prog Try.f30 [.leaf (.own (.int .i64) 3)])) (retK Try.prog Try.f30 [.leaf (.own (.int .i64) 3)])
noncomputable def m30K2 (M : Cut (List Int)) (k : Nat) : Exit → St → Option (List Int) := seqK (normAt 0 m30A false (m30c [true, true, true])) (cutK M m30A (m30c [true, true, true]) fun s => evC (m30E k) M (m30I k) 0 m30A (m30c [true, true, true]) s (retK Try.prog Try.f30 [.leaf (.own (.int .i64) 3)])) (retK Try.prog Try.f30 [.leaf (.own (.int .i64) 3)])
noncomputable def m30K3 (M : Cut (List Int)) (k : Nat) : Exit → St → Option (List Int) := seqK (normAt 0 m30A false (m30c [true, true, false, true])) (cutK M m30A (m30c [true, true, false, true]) fun s => evC (m30E k) M (m30I k) 0 m30A (m30c [true, true, false, true]) s (m30K2 M k)) (m30K2 M k)
noncomputable def m30K4 (M : Cut (List Int)) (k : Nat) : Exit → St → Option (List Int) := blockK 0 (m30K2 M k)
noncomputable def m30K5 (M : Cut (List Int)) (k : Nat) (L7 : St → Option (List Int)) : Exit → St → Option (List Int) := seqK (normAt 0 m30A true (m30c [true, true, false, true, true, true])) L7 (m30K4 M k)
noncomputable def m30K6 (M : Cut (List Int)) (k : Nat) (L7 : St → Option (List Int)) : Exit → St → Option (List Int) := seqK (normAt 0 m30A false (m30c [true, true, false, true, true, true, true])) (cutK M m30A (m30c [true, true, false, true, true, true, true]) fun s => evC (m30E k) M (m30I k) 0 m30A (m30c [true, true, false, true, true, true, true]) s (m30K5 M k L7)) (m30K5 M k L7)
noncomputable def m30K7 (M : Cut (List Int)) (k : Nat) (L7 : St → Option (List Int)) : Exit → St → Option (List Int) := seqK (normAt 0 m30A false (m30c [true, true, false, true, true, true, true, true])) (cutK M m30A (m30c [true, true, false, true, true, true, true, true]) fun s => evC (m30E k) M (m30I k) 0 m30A (m30c [true, true, false, true, true, true, true, true]) s (m30K5 M k L7)) (m30K5 M k L7)
noncomputable def m30K8 (M : Cut (List Int)) (k : Nat) (L7 : St → Option (List Int)) : Exit → St → Option (List Int) := seqK (normAt 0 m30A false (m30c [true, true, false, true, true, true, true, true, true])) (cutK M m30A (m30c [true, true, false, true, true, true, true, true, true]) fun s => evC (m30E k) M (m30I k) 0 m30A (m30c [true, true, false, true, true, true, true, true, true]) s (m30K5 M k L7)) (m30K5 M k L7)
noncomputable def m30K9 (M : Cut (List Int)) (k : Nat) (L7 : St → Option (List Int)) : Exit → St → Option (List Int) := blockK 1 (m30K8 M k L7)
noncomputable def m30K10 (M : Cut (List Int)) (k : Nat) (L7 : St → Option (List Int)) : Exit → St → Option (List Int) := seqK (normAt 0 m30A false (m30c [true, true, false, true, true, true, true, true, false, true, true])) (cutK M m30A (m30c [true, true, false, true, true, true, true, true, false, true, true]) fun s => evC (m30E k) M (m30I k) 0 m30A (m30c [true, true, false, true, true, true, true, true, false, true, true]) s (m30K9 M k L7)) (m30K9 M k L7)
noncomputable def m30K11 (M : Cut (List Int)) (k : Nat) (L7 : St → Option (List Int)) : Exit → St → Option (List Int) := seqK (normAt 0 m30A false (m30c [true, true, false, true, true, true, true, true, false, true, true, true])) (cutK M m30A (m30c [true, true, false, true, true, true, true, true, false, true, true, true]) fun s => evC (m30E k) M (m30I k) 0 m30A (m30c [true, true, false, true, true, true, true, true, false, true, true, true]) s (m30K9 M k L7)) (m30K9 M k L7)
noncomputable def m30K12 (M : Cut (List Int)) (k : Nat) (L7 : St → Option (List Int)) : Exit → St → Option (List Int) := seqK (normAt 0 m30A false (m30c [true, true, false, true, true, true, true, true, false, true, true, true, true])) (cutK M m30A (m30c [true, true, false, true, true, true, true, true, false, true, true, true, true]) fun s => evC (m30E k) M (m30I k) 0 m30A (m30c [true, true, false, true, true, true, true, true, false, true, true, true, true]) s (m30K9 M k L7)) (m30K9 M k L7)
noncomputable def m30K13 (M : Cut (List Int)) (k : Nat) (L7 : St → Option (List Int)) : Exit → St → Option (List Int) := seqK (normAt 0 m30A false (m30c [true, true, false, true, true, true, true, true, false, true, true, true, false, true])) (cutK M m30A (m30c [true, true, false, true, true, true, true, true, false, true, true, true, false, true]) fun s => evC (m30E k) M (m30I k) 0 m30A (m30c [true, true, false, true, true, true, true, true, false, true, true, true, false, true]) s (m30K12 M k L7)) (m30K12 M k L7)
noncomputable def m30K14 (M : Cut (List Int)) (k : Nat) (L7 : St → Option (List Int)) : Exit → St → Option (List Int) := blockK 2 (m30K12 M k L7)
noncomputable def m30K15 (M : Cut (List Int)) (k : Nat) (L7 : St → Option (List Int)) (L15 : St → Option (List Int)) : Exit → St → Option (List Int) := seqK (normAt 0 m30A true (m30c [true, true, false, true, true, true, true, true, false, true, true, true, false, true, true, true])) L15 (m30K14 M k L7)
noncomputable def m30K16 (M : Cut (List Int)) (k : Nat) (L7 : St → Option (List Int)) (L15 : St → Option (List Int)) : Exit → St → Option (List Int) := seqK (normAt 0 m30A false (m30c [true, true, false, true, true, true, true, true, false, true, true, true, false, true, true, true, true])) (cutK M m30A (m30c [true, true, false, true, true, true, true, true, false, true, true, true, false, true, true, true, true]) fun s => evC (m30E k) M (m30I k) 0 m30A (m30c [true, true, false, true, true, true, true, true, false, true, true, true, false, true, true, true, true]) s (m30K15 M k L7 L15)) (m30K15 M k L7 L15)
noncomputable def m30K17 (M : Cut (List Int)) (k : Nat) (L7 : St → Option (List Int)) (L15 : St → Option (List Int)) : Exit → St → Option (List Int) := seqK (normAt 0 m30A false (m30c [true, true, false, true, true, true, true, true, false, true, true, true, false, true, true, true, true, true])) (cutK M m30A (m30c [true, true, false, true, true, true, true, true, false, true, true, true, false, true, true, true, true, true]) fun s => evC (m30E k) M (m30I k) 0 m30A (m30c [true, true, false, true, true, true, true, true, false, true, true, true, false, true, true, true, true, true]) s (m30K15 M k L7 L15)) (m30K15 M k L7 L15)
noncomputable def m30K18 (M : Cut (List Int)) (k : Nat) (L7 : St → Option (List Int)) (L15 : St → Option (List Int)) : Exit → St → Option (List Int) := seqK (normAt 0 m30A false (m30c [true, true, false, true, true, true, true, true, false, true, true, true, false, true, true, true, true, true, true])) (cutK M m30A (m30c [true, true, false, true, true, true, true, true, false, true, true, true, false, true, true, true, true, true, true]) fun s => evC (m30E k) M (m30I k) 0 m30A (m30c [true, true, false, true, true, true, true, true, false, true, true, true, false, true, true, true, true, true, true]) s (m30K15 M k L7 L15)) (m30K15 M k L7 L15)
noncomputable def m30K19 (M : Cut (List Int)) (k : Nat) (L7 : St → Option (List Int)) (L15 : St → Option (List Int)) : Exit → St → Option (List Int) := blockK 3 (m30K18 M k L7 L15)
noncomputable def m30K20 (M : Cut (List Int)) (k : Nat) (L7 : St → Option (List Int)) (L15 : St → Option (List Int)) : Exit → St → Option (List Int) := seqK (normAt 0 m30A false (m30c [true, true, false, true, true, true, true, true, false, true, true, true, false, true, true, true, true, true, false, true, true])) (cutK M m30A (m30c [true, true, false, true, true, true, true, true, false, true, true, true, false, true, true, true, true, true, false, true, true]) fun s => evC (m30E k) M (m30I k) 0 m30A (m30c [true, true, false, true, true, true, true, true, false, true, true, true, false, true, true, true, true, true, false, true, true]) s (m30K19 M k L7 L15)) (m30K19 M k L7 L15)
noncomputable def m30K21 (M : Cut (List Int)) (k : Nat) (L7 : St → Option (List Int)) (L15 : St → Option (List Int)) : Exit → St → Option (List Int) := seqK (normAt 0 m30A false (m30c [true, true, false, true, true, true, true, true, false, true, true, true, false, true, true, true, true, true, false, true, true, true])) (cutK M m30A (m30c [true, true, false, true, true, true, true, true, false, true, true, true, false, true, true, true, true, true, false, true, true, true]) fun s => evC (m30E k) M (m30I k) 0 m30A (m30c [true, true, false, true, true, true, true, true, false, true, true, true, false, true, true, true, true, true, false, true, true, true]) s (m30K19 M k L7 L15)) (m30K19 M k L7 L15)
noncomputable def m30K22 (M : Cut (List Int)) (k : Nat) (L7 : St → Option (List Int)) (L15 : St → Option (List Int)) : Exit → St → Option (List Int) := seqK (normAt 0 m30A false (m30c [true, true, false, true, true, true, true, true, false, true, true, true, false, true, true, true, true, true, false, true, true, true, true])) (cutK M m30A (m30c [true, true, false, true, true, true, true, true, false, true, true, true, false, true, true, true, true, true, false, true, true, true, true]) fun s => evC (m30E k) M (m30I k) 0 m30A (m30c [true, true, false, true, true, true, true, true, false, true, true, true, false, true, true, true, true, true, false, true, true, true, true]) s (m30K19 M k L7 L15)) (m30K19 M k L7 L15)
noncomputable def m30K23 (M : Cut (List Int)) (k : Nat) : Exit → St → Option (List Int) := seqK (normAt 0 m30A false (m30c [true, true, true, true])) (cutK M m30A (m30c [true, true, true, true]) fun s => evC (m30E k) M (m30I k) 0 m30A (m30c [true, true, true, true]) s (retK Try.prog Try.f30 [.leaf (.own (.int .i64) 3)])) (retK Try.prog Try.f30 [.leaf (.own (.int .i64) 3)])
noncomputable def m30S7 (t5 : Int) (b0 : List Int) : St := { n := 26, tm := slots [(1, .own 0), (5, .int .i64 t5)], tab := blks [some (.row true (.int .i64) 3 b0)], nx := 1 }
noncomputable def m30S15 (t3 : Int) (t5 : Int) (t9 : Int) (b0 : List Int) : St := { n := 26, tm := slots [(1, .own 0), (3, .int .i64 t3), (5, .int .i64 t5), (9, .int .i64 t9)], tab := blks [some (.row true (.int .i64) 3 b0)], nx := 1 }
noncomputable def m30S26 (t3 : Int) (t5 : Int) (b0 : List Int) : St := { n := 26, tm := slots [(1, .own 0), (3, .int .i64 t3), (5, .int .i64 t5)], tab := blks [some (.row true (.int .i64) 3 b0)], nx := 1 }

noncomputable def m30X (X7 : Int → List Int → Option (List Int)) (k : Nat) : Option (List Int) := X7 (0) ([])

theorem m30x (M : Cut (List Int)) (k : Nat) : evC (m30E k) M (m30I k) 0 m30A (m30c []) (stAt Try.f30 (argSs [] ()) (fun _ => none) 0) (retK Try.prog Try.f30 [.leaf (.own (.int .i64) 3)]) = m30X (fun t5' b0' => loopN (normAt 0 m30A true (m30c [true, true, false, true, true, true])) (fun K s => evC (m30E k) M (m30I k) 0 m30A (m30c [true, true, false, true, true, true]) s K) (m30K4 M k) k (m30S7 t5' b0')) k := by kernel_rfl

noncomputable def m30X7 (X15 : Int → Int → Int → List Int → Option (List Int)) (k : Nat) (t5 : Int) (b0 : List Int) : Option (List Int) := (if ltI t5 256 = true then X15 t5 t5 (0) b0 else some b0)

theorem m30x7 (M : Cut (List Int)) (k : Nat) (L7 : St → Option (List Int)) (t5 : Int) (b0 : List Int) : evC (m30E k) M (m30I k) 0 m30A (m30c [true, true, false, true, true, true]) (m30S7 t5 b0) (seqK (normAt 0 m30A true (m30c [true, true, false, true, true, true])) L7 (m30K4 M k)) = m30X7 (fun t3' t5' t9' b0' => loopN (normAt 0 m30A true (m30c [true, true, false, true, true, true, true, true, false, true, true, true, false, true, true, true])) (fun K s => evC (m30E k) M (m30I k) 0 m30A (m30c [true, true, false, true, true, true, true, true, false, true, true, true, false, true, true, true]) s K) (m30K14 M k L7) k (m30S15 t3' t5' t9' b0')) k t5 b0 := by kernel_rfl

noncomputable def m30X15 (X26 : Int → Int → List Int → Option (List Int)) (L15 : Int → Int → Int → List Int → Option (List Int)) (k : Nat) (t3 : Int) (t5 : Int) (t9 : Int) (b0 : List Int) : Option (List Int) := (if ltI t9 8 = true then (if leI 0 1 = true then (if eqI (bits BinOp.and IntKind.i64 t3 1) 1 = true then L15 (bits BinOp.xor IntKind.i64 (t3 / 2) 3988292384) t5 (wr IntKind.i64 (t9 + 1)) b0 else L15 (t3 / 2) t5 (wr IntKind.i64 (t9 + 1)) b0) else none) else X26 t3 t5 b0)

theorem m30x15 (M : Cut (List Int)) (k : Nat) (L7 : St → Option (List Int)) (L15 : St → Option (List Int)) (t3 : Int) (t5 : Int) (t9 : Int) (b0 : List Int) : evC (m30E k) M (m30I k) 0 m30A (m30c [true, true, false, true, true, true, true, true, false, true, true, true, false, true, true, true]) (m30S15 t3 t5 t9 b0) (seqK (normAt 0 m30A true (m30c [true, true, false, true, true, true, true, true, false, true, true, true, false, true, true, true])) L15 (m30K14 M k L7)) = m30X15 (fun t3' t5' b0' => M 26 (fun s => evC (m30E k) M (m30I k) 0 m30A (m30c [true, true, false, true, true, true, true, true, false, true, true, true, true]) s (m30K9 M k L7)) (m30S26 t3' t5' b0')) (fun t3' t5' t9' b0' => L15 (m30S15 t3' t5' t9' b0')) k t3 t5 t9 b0 := by kernel_rfl

noncomputable def m30X26 (L7 : Int → List Int → Option (List Int)) (k : Nat) (t3 : Int) (t5 : Int) (b0 : List Int) : Option (List Int) := (if leI (↑((List.length b0 + List.length (List.set (List.replicate 1 0) 0 t3)) * 8) : Int) 140737488355328 = true then L7 (wr IntKind.i64 (t5 + 1)) (b0 ++ List.set (List.replicate 1 0) 0 t3) else none)

theorem m30x26 (M : Cut (List Int)) (k : Nat) (L7 : St → Option (List Int)) (t3 : Int) (t5 : Int) (b0 : List Int) : evC (m30E k) M (m30I k) 0 m30A (m30c [true, true, false, true, true, true, true, true, false, true, true, true, true]) (m30S26 t3 t5 b0) (m30K9 M k L7) = m30X26 (fun t5' b0' => L7 (m30S7 t5' b0')) k t3 t5 b0 := by kernel_rfl

noncomputable def m30F26 (k : Nat) (L7 : Int → List Int → Option (List Int)) (t3 : Int) (t5 : Int) (b0 : List Int) : Option (List Int) := m30X26 L7 k t3 t5 b0

theorem m30q26 (k : Nat) (L7 : St → Option (List Int)) (t3 : Int) (t5 : Int) (b0 : List Int) : evC (m30E k) (fun _ f => f) (m30I k) 0 m30A (m30c [true, true, false, true, true, true, true, true, false, true, true, true, true]) (m30S26 t3 t5 b0) (m30K9 (fun _ f => f) k L7) = m30F26 k (fun t5' b0' => L7 (m30S7 t5' b0')) t3 t5 b0 := by
    show _ = m30X26 (fun t5' b0' => L7 (m30S7 t5' b0')) k t3 t5 b0
    exact m30x26 (fun _ f => f) k L7 t3 t5 b0

noncomputable def m30F15 (k : Nat) (L7 : Int → List Int → Option (List Int)) : Nat → Int → Int → Int → List Int → Option (List Int)
  | 0, _, _, _, _ => none
  | j + 1, t3, t5, t9, b0 => m30X15 (m30F26 k L7) (m30F15 k L7 j) k t3 t5 t9 b0

theorem m30q15 (k : Nat) (L7 : St → Option (List Int)) : ∀ (j : Nat) (t3 : Int) (t5 : Int) (t9 : Int) (b0 : List Int), loopN (normAt 0 m30A true (m30c [true, true, false, true, true, true, true, true, false, true, true, true, false, true, true, true])) (fun K s => evC (m30E k) (fun _ f => f) (m30I k) 0 m30A (m30c [true, true, false, true, true, true, true, true, false, true, true, true, false, true, true, true]) s K) (m30K14 (fun _ f => f) k L7) j (m30S15 t3 t5 t9 b0) = m30F15 k (fun t5' b0' => L7 (m30S7 t5' b0')) j t3 t5 t9 b0
  | 0, _, _, _, _ => rfl
  | j + 1, t3, t5, t9, b0 => by
    have e0 : m30F15 k (fun t5' b0' => L7 (m30S7 t5' b0')) j = (fun t3' t5' t9' b0' => loopN (normAt 0 m30A true (m30c [true, true, false, true, true, true, true, true, false, true, true, true, false, true, true, true])) (fun K s => evC (m30E k) (fun _ f => f) (m30I k) 0 m30A (m30c [true, true, false, true, true, true, true, true, false, true, true, true, false, true, true, true]) s K) (m30K14 (fun _ f => f) k L7) j (m30S15 t3' t5' t9' b0')) := funext fun t3' => funext fun t5' => funext fun t9' => funext fun b0' => (m30q15 k L7 j t3' t5' t9' b0').symm
    have e26 : m30F26 k (fun t5' b0' => L7 (m30S7 t5' b0')) = (fun t3' t5' b0' => evC (m30E k) (fun _ f => f) (m30I k) 0 m30A (m30c [true, true, false, true, true, true, true, true, false, true, true, true, true]) (m30S26 t3' t5' b0') (m30K9 (fun _ f => f) k L7)) := funext fun t3' => funext fun t5' => funext fun b0' => (m30q26 k L7 t3' t5' b0').symm
    show _ = m30X15 (m30F26 k (fun t5' b0' => L7 (m30S7 t5' b0'))) (m30F15 k (fun t5' b0' => L7 (m30S7 t5' b0')) j) k t3 t5 t9 b0
    rw [e0, e26]
    exact m30x15 (fun _ f => f) k L7 (loopN (normAt 0 m30A true (m30c [true, true, false, true, true, true, true, true, false, true, true, true, false, true, true, true])) (fun K s => evC (m30E k) (fun _ f => f) (m30I k) 0 m30A (m30c [true, true, false, true, true, true, true, true, false, true, true, true, false, true, true, true]) s K) (m30K14 (fun _ f => f) k L7) j) t3 t5 t9 b0

noncomputable def m30F7 (k : Nat) : Nat → Int → List Int → Option (List Int)
  | 0, _, _ => none
  | j + 1, t5, b0 => m30X7 (m30F15 k (m30F7 k j) k) k t5 b0

theorem m30q7 (k : Nat) : ∀ (j : Nat) (t5 : Int) (b0 : List Int), loopN (normAt 0 m30A true (m30c [true, true, false, true, true, true])) (fun K s => evC (m30E k) (fun _ f => f) (m30I k) 0 m30A (m30c [true, true, false, true, true, true]) s K) (m30K4 (fun _ f => f) k) j (m30S7 t5 b0) = m30F7 k j t5 b0
  | 0, _, _ => rfl
  | j + 1, t5, b0 => by
    have e0 : m30F7 k j = (fun t5' b0' => loopN (normAt 0 m30A true (m30c [true, true, false, true, true, true])) (fun K s => evC (m30E k) (fun _ f => f) (m30I k) 0 m30A (m30c [true, true, false, true, true, true]) s K) (m30K4 (fun _ f => f) k) j (m30S7 t5' b0')) := funext fun t5' => funext fun b0' => (m30q7 k j t5' b0').symm
    have e15 : m30F15 k (fun t5' b0' => loopN (normAt 0 m30A true (m30c [true, true, false, true, true, true])) (fun K s => evC (m30E k) (fun _ f => f) (m30I k) 0 m30A (m30c [true, true, false, true, true, true]) s K) (m30K4 (fun _ f => f) k) j (m30S7 t5' b0')) k = (fun t3' t5' t9' b0' => loopN (normAt 0 m30A true (m30c [true, true, false, true, true, true, true, true, false, true, true, true, false, true, true, true])) (fun K s => evC (m30E k) (fun _ f => f) (m30I k) 0 m30A (m30c [true, true, false, true, true, true, true, true, false, true, true, true, false, true, true, true]) s K) (m30K14 (fun _ f => f) k (loopN (normAt 0 m30A true (m30c [true, true, false, true, true, true])) (fun K s => evC (m30E k) (fun _ f => f) (m30I k) 0 m30A (m30c [true, true, false, true, true, true]) s K) (m30K4 (fun _ f => f) k) j)) k (m30S15 t3' t5' t9' b0')) := funext fun t3' => funext fun t5' => funext fun t9' => funext fun b0' => (m30q15 k (loopN (normAt 0 m30A true (m30c [true, true, false, true, true, true])) (fun K s => evC (m30E k) (fun _ f => f) (m30I k) 0 m30A (m30c [true, true, false, true, true, true]) s K) (m30K4 (fun _ f => f) k) j) k t3' t5' t9' b0').symm
    show _ = m30X7 (m30F15 k (m30F7 k j) k) k t5 b0
    rw [e0, e15]
    exact m30x7 (fun _ f => f) k (loopN (normAt 0 m30A true (m30c [true, true, false, true, true, true])) (fun K s => evC (m30E k) (fun _ f => f) (m30I k) 0 m30A (m30c [true, true, false, true, true, true]) s K) (m30K4 (fun _ f => f) k) j) t5 b0

noncomputable def m30F (k : Nat) : Option (List Int) := m30X (m30F7 k k) k

theorem m30q (k : Nat) : evC (m30E k) (fun _ f => f) (m30I k) 0 m30A (m30c []) (stAt Try.f30 (argSs [] ()) (fun _ => none) 0) (retK Try.prog Try.f30 [.leaf (.own (.int .i64) 3)]) = m30F k := by
    have e7 : m30F7 k k = (fun t5' b0' => loopN (normAt 0 m30A true (m30c [true, true, false, true, true, true])) (fun K s => evC (m30E k) (fun _ f => f) (m30I k) 0 m30A (m30c [true, true, false, true, true, true]) s K) (m30K4 (fun _ f => f) k) k (m30S7 t5' b0')) := funext fun t5' => funext fun b0' => (m30q7 k k t5' b0').symm
    show _ = m30X (m30F7 k k) k
    rw [e7]
    exact m30x (fun _ f => f) k

noncomputable def m30sp : Spec := { ps := [], rs := [.leaf (.own (.int .i64) 3)], f := fun k a => m30F k }

theorem m30ok (k : Nat) : EnvOk (m30E k) := envOk_of (l := []) progNames progMixed rfl (.nil)

theorem m30con (k : Nat) : Contract Try.prog k 30 m30sp := contract_of (E := m30E k) (m30ok k) (A := only 30 m30A) (d := 3) (c := m30c []) (by kernel_rfl) (by kernel_rfl) fun a _ h => (m30q k).trans h

noncomputable def m27A : Anns := tabA [(11, { keep := [4, 5, 12, 13, 14] }), (18, { keep := [5] })]
noncomputable def m27E (k : Nat) : Env := { P := Try.prog, k := k, G := tabG [(30, m30sp)] }
noncomputable def m27c (p : List Bool) : Code := sub p (bodyOf Try.f27)
noncomputable def m27I (k : Nat) : Inl (Int × Int) := inlOf (m27E k) (only 27 m27A) 3
noncomputable def m27K0 (M : Cut (Int × Int)) (k : Nat) : Exit → St → Option (Int × Int) := seqK (normAt 0 m27A false (m27c [true])) (cutK M m27A (m27c [true]) fun s => evC (m27E k) M (m27I k) 0 m27A (m27c [true]) s (retK Try.prog Try.f27 [.leaf (.val (.int .i64)), .leaf (.val (.int .i64))])) (retK Try.prog Try.f27 [.leaf (.val (.int .i64)), .leaf (.val (.int .i64))])
noncomputable def m27K1 (M : Cut (Int × Int)) (k : Nat) : Exit → St → Option (Int × Int) := seqK (normAt 0 m27A false (m27c [true, true])) (cutK M m27A (m27c [true, true]) fun s => evC (m27E k) M (m27I k) 0 m27A (m27c [true, true]) s (retK Try.prog Try.f27 [.leaf (.val (.int .i64)), .leaf (.val (.int .i64))])) (retK Try.prog Try.f27 [.leaf (.val (.int .i64)), .leaf (.val (.int .i64))])
noncomputable def m27K2 (M : Cut (Int × Int)) (k : Nat) : Exit → St → Option (Int × Int) := seqK (normAt 0 m27A false (m27c [true, false, true])) (cutK M m27A (m27c [true, false, true]) fun s => evC (m27E k) M (m27I k) 0 m27A (m27c [true, false, true]) s (m27K1 M k)) (m27K1 M k)
noncomputable def m27K3 (M : Cut (Int × Int)) (k : Nat) : Exit → St → Option (Int × Int) := seqK (normAt 0 m27A false (m27c [true, false, true, false, true])) (cutK M m27A (m27c [true, false, true, false, true]) fun s => evC (m27E k) M (m27I k) 0 m27A (m27c [true, false, true, false, true]) s (m27K1 M k)) (m27K1 M k)
noncomputable def m27K4 (M : Cut (Int × Int)) (k : Nat) : Exit → St → Option (Int × Int) := seqK (normAt 0 m27A false (m27c [true, true, true])) (cutK M m27A (m27c [true, true, true]) fun s => evC (m27E k) M (m27I k) 0 m27A (m27c [true, true, true]) s (retK Try.prog Try.f27 [.leaf (.val (.int .i64)), .leaf (.val (.int .i64))])) (retK Try.prog Try.f27 [.leaf (.val (.int .i64)), .leaf (.val (.int .i64))])
noncomputable def m27K5 (M : Cut (Int × Int)) (k : Nat) : Exit → St → Option (Int × Int) := seqK (normAt 0 m27A false (m27c [true, true, true, true])) (cutK M m27A (m27c [true, true, true, true]) fun s => evC (m27E k) M (m27I k) 0 m27A (m27c [true, true, true, true]) s (retK Try.prog Try.f27 [.leaf (.val (.int .i64)), .leaf (.val (.int .i64))])) (retK Try.prog Try.f27 [.leaf (.val (.int .i64)), .leaf (.val (.int .i64))])
noncomputable def m27K6 (M : Cut (Int × Int)) (k : Nat) : Exit → St → Option (Int × Int) := seqK (normAt 0 m27A false (m27c [true, true, true, false, true])) (cutK M m27A (m27c [true, true, true, false, true]) fun s => evC (m27E k) M (m27I k) 0 m27A (m27c [true, true, true, false, true]) s (m27K5 M k)) (m27K5 M k)
noncomputable def m27K7 (M : Cut (Int × Int)) (k : Nat) : Exit → St → Option (Int × Int) := blockK 0 (m27K5 M k)
noncomputable def m27K8 (M : Cut (Int × Int)) (k : Nat) (L11 : St → Option (Int × Int)) : Exit → St → Option (Int × Int) := seqK (normAt 0 m27A true (m27c [true, true, true, false, true, true, true])) L11 (m27K7 M k)
noncomputable def m27K9 (M : Cut (Int × Int)) (k : Nat) (L11 : St → Option (Int × Int)) : Exit → St → Option (Int × Int) := seqK (normAt 0 m27A false (m27c [true, true, true, false, true, true, true, true])) (cutK M m27A (m27c [true, true, true, false, true, true, true, true]) fun s => evC (m27E k) M (m27I k) 0 m27A (m27c [true, true, true, false, true, true, true, true]) s (m27K8 M k L11)) (m27K8 M k L11)
noncomputable def m27K10 (M : Cut (Int × Int)) (k : Nat) (L11 : St → Option (Int × Int)) : Exit → St → Option (Int × Int) := seqK (normAt 0 m27A false (m27c [true, true, true, false, true, true, true, true, true])) (cutK M m27A (m27c [true, true, true, false, true, true, true, true, true]) fun s => evC (m27E k) M (m27I k) 0 m27A (m27c [true, true, true, false, true, true, true, true, true]) s (m27K8 M k L11)) (m27K8 M k L11)
noncomputable def m27K11 (M : Cut (Int × Int)) (k : Nat) (L11 : St → Option (Int × Int)) : Exit → St → Option (Int × Int) := seqK (normAt 0 m27A false (m27c [true, true, true, false, true, true, true, true, true, true])) (cutK M m27A (m27c [true, true, true, false, true, true, true, true, true, true]) fun s => evC (m27E k) M (m27I k) 0 m27A (m27c [true, true, true, false, true, true, true, true, true, true]) s (m27K8 M k L11)) (m27K8 M k L11)
noncomputable def m27K12 (M : Cut (Int × Int)) (k : Nat) (L11 : St → Option (Int × Int)) : Exit → St → Option (Int × Int) := blockK 1 (m27K11 M k L11)
noncomputable def m27K13 (M : Cut (Int × Int)) (k : Nat) (L11 : St → Option (Int × Int)) : Exit → St → Option (Int × Int) := seqK (normAt 0 m27A false (m27c [true, true, true, false, true, true, true, true, true, false, true, true])) (cutK M m27A (m27c [true, true, true, false, true, true, true, true, true, false, true, true]) fun s => evC (m27E k) M (m27I k) 0 m27A (m27c [true, true, true, false, true, true, true, true, true, false, true, true]) s (m27K12 M k L11)) (m27K12 M k L11)
noncomputable def m27K14 (M : Cut (Int × Int)) (k : Nat) : Exit → St → Option (Int × Int) := seqK (normAt 0 m27A false (m27c [true, true, true, true, true])) (cutK M m27A (m27c [true, true, true, true, true]) fun s => evC (m27E k) M (m27I k) 0 m27A (m27c [true, true, true, true, true]) s (retK Try.prog Try.f27 [.leaf (.val (.int .i64)), .leaf (.val (.int .i64))])) (retK Try.prog Try.f27 [.leaf (.val (.int .i64)), .leaf (.val (.int .i64))])
noncomputable def m27S11 (t5 : Int) (t12 : List Int) (t13 : Int) (t14 : Int) (b0 : List Int) : St := { n := 32, tm := slots [(4, .own 0), (5, .int .i64 t5), (12, .row (.int .u8) t12), (13, .int .i64 t13), (14, .int .i64 t14)], tab := blks [some (.row true (.int .i64) 3 b0)], nx := 1 }
noncomputable def m27S18 (t5 : Int) : St := { n := 32, tm := slots [(5, .int .i64 t5)], tab := blks [], nx := 0 }

noncomputable def m27X (X11 : Int → List Int → Int → Int → List Int → Option (Int × Int)) (k : Nat) (p0 : (List Int)) : Option (Int × Int) := (if ltI 4096 (↑(List.length p0) : Int) = true then some ((0, 2)) else (Option.bind (m30F k) fun (c3 : (List Int)) => X11 (4294967295) p0 ((↑(List.length p0) : Int)) (0) c3))

theorem m27x (M : Cut (Int × Int)) (k : Nat) (p0 : (List Int)) : evC (m27E k) M (m27I k) 0 m27A (m27c []) (stAt Try.f27 (argSs [.leaf (.val (.row (.int .u8)))] p0) (fun _ => none) 0) (retK Try.prog Try.f27 [.leaf (.val (.int .i64)), .leaf (.val (.int .i64))]) = m27X (fun t5' t12' t13' t14' b0' => loopN (normAt 0 m27A true (m27c [true, true, true, false, true, true, true])) (fun K s => evC (m27E k) M (m27I k) 0 m27A (m27c [true, true, true, false, true, true, true]) s K) (m27K7 M k) k (m27S11 t5' t12' t13' t14' b0')) k p0 := by kernel_rfl

noncomputable def m27X11 (X18 : Int → Option (Int × Int)) (L11 : Int → List Int → Int → Int → List Int → Option (Int × Int)) (k : Nat) (t5 : Int) (t12 : List Int) (t13 : Int) (t14 : Int) (b0 : List Int) : Option (Int × Int) := (if ltI t14 t13 = true then (if leI 0 t14 = true then (if ltI t14 (↑(List.length t12) : Int) = true then (if leI 0 8 = true then (if leI 0
    (bits BinOp.xor IntKind.i64 (bits BinOp.and IntKind.i64 t5 255)
      (wr IntKind.i64 (List.getD t12 (Int.toNat t14) 0))) =
  true then (if ltI (bits BinOp.xor IntKind.i64 (bits BinOp.and IntKind.i64 t5 255) (wr IntKind.i64 (List.getD t12 (Int.toNat t14) 0)))
    (↑(List.length b0) : Int) =
  true then L11 (bits BinOp.xor IntKind.i64 (t5 / 256)
  (List.getD b0
    (Int.toNat
      (bits BinOp.xor IntKind.i64 (bits BinOp.and IntKind.i64 t5 255)
        (wr IntKind.i64 (List.getD t12 (Int.toNat t14) 0))))
    0)) t12 t13 (wr IntKind.i64 (t14 + 1)) b0 else none) else none) else none) else none) else none) else X18 t5)

theorem m27x11 (M : Cut (Int × Int)) (k : Nat) (L11 : St → Option (Int × Int)) (t5 : Int) (t12 : List Int) (t13 : Int) (t14 : Int) (b0 : List Int) : evC (m27E k) M (m27I k) 0 m27A (m27c [true, true, true, false, true, true, true]) (m27S11 t5 t12 t13 t14 b0) (seqK (normAt 0 m27A true (m27c [true, true, true, false, true, true, true])) L11 (m27K7 M k)) = m27X11 (fun t5' => M 18 (fun s => evC (m27E k) M (m27I k) 0 m27A (m27c [true, true, true, true]) s (retK Try.prog Try.f27 [.leaf (.val (.int .i64)), .leaf (.val (.int .i64))])) (m27S18 t5')) (fun t5' t12' t13' t14' b0' => L11 (m27S11 t5' t12' t13' t14' b0')) k t5 t12 t13 t14 b0 := by kernel_rfl

noncomputable def m27X18 (k : Nat) (t5 : Int) : Option (Int × Int) := some ((bits BinOp.xor IntKind.i64 t5 4294967295, 0))

theorem m27x18 (M : Cut (Int × Int)) (k : Nat) (t5 : Int) : evC (m27E k) M (m27I k) 0 m27A (m27c [true, true, true, true]) (m27S18 t5) (retK Try.prog Try.f27 [.leaf (.val (.int .i64)), .leaf (.val (.int .i64))]) = m27X18 k t5 := by kernel_rfl

noncomputable def m27F18 (k : Nat) (t5 : Int) : Option (Int × Int) := m27X18 k t5

theorem m27q18 (k : Nat) (t5 : Int) : evC (m27E k) (fun _ f => f) (m27I k) 0 m27A (m27c [true, true, true, true]) (m27S18 t5) (retK Try.prog Try.f27 [.leaf (.val (.int .i64)), .leaf (.val (.int .i64))]) = m27F18 k t5 := by
    show _ = m27X18 k t5
    exact m27x18 (fun _ f => f) k t5

noncomputable def m27F11 (k : Nat) : Nat → Int → List Int → Int → Int → List Int → Option (Int × Int)
  | 0, _, _, _, _, _ => none
  | j + 1, t5, t12, t13, t14, b0 => m27X11 (m27F18 k) (m27F11 k j) k t5 t12 t13 t14 b0

theorem m27q11 (k : Nat) : ∀ (j : Nat) (t5 : Int) (t12 : List Int) (t13 : Int) (t14 : Int) (b0 : List Int), loopN (normAt 0 m27A true (m27c [true, true, true, false, true, true, true])) (fun K s => evC (m27E k) (fun _ f => f) (m27I k) 0 m27A (m27c [true, true, true, false, true, true, true]) s K) (m27K7 (fun _ f => f) k) j (m27S11 t5 t12 t13 t14 b0) = m27F11 k j t5 t12 t13 t14 b0
  | 0, _, _, _, _, _ => rfl
  | j + 1, t5, t12, t13, t14, b0 => by
    have e0 : m27F11 k j = (fun t5' t12' t13' t14' b0' => loopN (normAt 0 m27A true (m27c [true, true, true, false, true, true, true])) (fun K s => evC (m27E k) (fun _ f => f) (m27I k) 0 m27A (m27c [true, true, true, false, true, true, true]) s K) (m27K7 (fun _ f => f) k) j (m27S11 t5' t12' t13' t14' b0')) := funext fun t5' => funext fun t12' => funext fun t13' => funext fun t14' => funext fun b0' => (m27q11 k j t5' t12' t13' t14' b0').symm
    have e18 : m27F18 k = (fun t5' => evC (m27E k) (fun _ f => f) (m27I k) 0 m27A (m27c [true, true, true, true]) (m27S18 t5') (retK Try.prog Try.f27 [.leaf (.val (.int .i64)), .leaf (.val (.int .i64))])) := funext fun t5' => (m27q18 k t5').symm
    show _ = m27X11 (m27F18 k) (m27F11 k j) k t5 t12 t13 t14 b0
    rw [e0, e18]
    exact m27x11 (fun _ f => f) k (loopN (normAt 0 m27A true (m27c [true, true, true, false, true, true, true])) (fun K s => evC (m27E k) (fun _ f => f) (m27I k) 0 m27A (m27c [true, true, true, false, true, true, true]) s K) (m27K7 (fun _ f => f) k) j) t5 t12 t13 t14 b0

noncomputable def m27F (k : Nat) (p0 : (List Int)) : Option (Int × Int) := m27X (m27F11 k k) k p0

theorem m27q (k : Nat) (p0 : (List Int)) : evC (m27E k) (fun _ f => f) (m27I k) 0 m27A (m27c []) (stAt Try.f27 (argSs [.leaf (.val (.row (.int .u8)))] p0) (fun _ => none) 0) (retK Try.prog Try.f27 [.leaf (.val (.int .i64)), .leaf (.val (.int .i64))]) = m27F k p0 := by
    have e11 : m27F11 k k = (fun t5' t12' t13' t14' b0' => loopN (normAt 0 m27A true (m27c [true, true, true, false, true, true, true])) (fun K s => evC (m27E k) (fun _ f => f) (m27I k) 0 m27A (m27c [true, true, true, false, true, true, true]) s K) (m27K7 (fun _ f => f) k) k (m27S11 t5' t12' t13' t14' b0')) := funext fun t5' => funext fun t12' => funext fun t13' => funext fun t14' => funext fun b0' => (m27q11 k k t5' t12' t13' t14' b0').symm
    show _ = m27X (m27F11 k k) k p0
    rw [e11]
    exact m27x (fun _ f => f) k p0

noncomputable def m27sp : Spec := { ps := [.leaf (.val (.row (.int .u8)))], rs := [.leaf (.val (.int .i64)), .leaf (.val (.int .i64))], f := fun k a => m27F k a }

theorem m27ok (k : Nat) : EnvOk (m27E k) := envOk_of (l := [(30, m30sp)]) progNames progMixed rfl (.cons ⟨m30con k, Try.f30, by kernel_rfl, by kernel_rfl⟩ (.nil))

theorem m27con (k : Nat) : Contract Try.prog k 27 m27sp := contract_of (E := m27E k) (m27ok k) (A := only 27 m27A) (d := 3) (c := m27c []) (by kernel_rfl) (by kernel_rfl) fun a _ h => (m27q k a).trans h

noncomputable def m19A : Anns := tabA [(17, { keep := [4, 6, 20] }), (24, { keep := [6] })]
noncomputable def m19E (k : Nat) : Env := { P := Try.prog, k := k, G := tabG [(26, m26sp), (27, m27sp)] }
noncomputable def m19c (p : List Bool) : Code := sub p (bodyOf Try.f19)
noncomputable def m19I (k : Nat) : Inl ((List Int) × Int) := inlOf (m19E k) (only 19 m19A) 3
noncomputable def m19K0 (M : Cut ((List Int) × Int)) (k : Nat) : Exit → St → Option ((List Int) × Int) := seqK (normAt 0 m19A false (m19c [true])) (cutK M m19A (m19c [true]) fun s => evC (m19E k) M (m19I k) 0 m19A (m19c [true]) s (retK Try.prog Try.f19 [.leaf (.own (.int .u8) 5), .leaf (.val (.int .i64))])) (retK Try.prog Try.f19 [.leaf (.own (.int .u8) 5), .leaf (.val (.int .i64))])
noncomputable def m19K1 (M : Cut ((List Int) × Int)) (k : Nat) : Exit → St → Option ((List Int) × Int) := seqK (normAt 0 m19A false (m19c [true, true])) (cutK M m19A (m19c [true, true]) fun s => evC (m19E k) M (m19I k) 0 m19A (m19c [true, true]) s (retK Try.prog Try.f19 [.leaf (.own (.int .u8) 5), .leaf (.val (.int .i64))])) (retK Try.prog Try.f19 [.leaf (.own (.int .u8) 5), .leaf (.val (.int .i64))])
noncomputable def m19K2 (M : Cut ((List Int) × Int)) (k : Nat) : Exit → St → Option ((List Int) × Int) := seqK (normAt 0 m19A false (m19c [true, false, true])) (cutK M m19A (m19c [true, false, true]) fun s => evC (m19E k) M (m19I k) 0 m19A (m19c [true, false, true]) s (m19K1 M k)) (m19K1 M k)
noncomputable def m19K3 (M : Cut ((List Int) × Int)) (k : Nat) : Exit → St → Option ((List Int) × Int) := seqK (normAt 0 m19A false (m19c [true, false, true, false, true])) (cutK M m19A (m19c [true, false, true, false, true]) fun s => evC (m19E k) M (m19I k) 0 m19A (m19c [true, false, true, false, true]) s (m19K1 M k)) (m19K1 M k)
noncomputable def m19K4 (M : Cut ((List Int) × Int)) (k : Nat) : Exit → St → Option ((List Int) × Int) := seqK (normAt 0 m19A false (m19c [true, true, true])) (cutK M m19A (m19c [true, true, true]) fun s => evC (m19E k) M (m19I k) 0 m19A (m19c [true, true, true]) s (retK Try.prog Try.f19 [.leaf (.own (.int .u8) 5), .leaf (.val (.int .i64))])) (retK Try.prog Try.f19 [.leaf (.own (.int .u8) 5), .leaf (.val (.int .i64))])
noncomputable def m19K5 (M : Cut ((List Int) × Int)) (k : Nat) : Exit → St → Option ((List Int) × Int) := seqK (normAt 0 m19A false (m19c [true, true, true, true])) (cutK M m19A (m19c [true, true, true, true]) fun s => evC (m19E k) M (m19I k) 0 m19A (m19c [true, true, true, true]) s (retK Try.prog Try.f19 [.leaf (.own (.int .u8) 5), .leaf (.val (.int .i64))])) (retK Try.prog Try.f19 [.leaf (.own (.int .u8) 5), .leaf (.val (.int .i64))])
noncomputable def m19K6 (M : Cut ((List Int) × Int)) (k : Nat) : Exit → St → Option ((List Int) × Int) := seqK (normAt 0 m19A false (m19c [true, true, true, false, true])) (cutK M m19A (m19c [true, true, true, false, true]) fun s => evC (m19E k) M (m19I k) 0 m19A (m19c [true, true, true, false, true]) s (m19K5 M k)) (m19K5 M k)
noncomputable def m19K7 (M : Cut ((List Int) × Int)) (k : Nat) : Exit → St → Option ((List Int) × Int) := seqK (normAt 0 m19A false (m19c [true, true, true, false, true, false, true])) (cutK M m19A (m19c [true, true, true, false, true, false, true]) fun s => evC (m19E k) M (m19I k) 0 m19A (m19c [true, true, true, false, true, false, true]) s (m19K5 M k)) (m19K5 M k)
noncomputable def m19K8 (M : Cut ((List Int) × Int)) (k : Nat) : Exit → St → Option ((List Int) × Int) := seqK (normAt 0 m19A false (m19c [true, true, true, true, true])) (cutK M m19A (m19c [true, true, true, true, true]) fun s => evC (m19E k) M (m19I k) 0 m19A (m19c [true, true, true, true, true]) s (retK Try.prog Try.f19 [.leaf (.own (.int .u8) 5), .leaf (.val (.int .i64))])) (retK Try.prog Try.f19 [.leaf (.own (.int .u8) 5), .leaf (.val (.int .i64))])
noncomputable def m19K9 (M : Cut ((List Int) × Int)) (k : Nat) : Exit → St → Option ((List Int) × Int) := seqK (normAt 0 m19A false (m19c [true, true, true, true, true, true])) (cutK M m19A (m19c [true, true, true, true, true, true]) fun s => evC (m19E k) M (m19I k) 0 m19A (m19c [true, true, true, true, true, true]) s (retK Try.prog Try.f19 [.leaf (.own (.int .u8) 5), .leaf (.val (.int .i64))])) (retK Try.prog Try.f19 [.leaf (.own (.int .u8) 5), .leaf (.val (.int .i64))])
noncomputable def m19K10 (M : Cut ((List Int) × Int)) (k : Nat) : Exit → St → Option ((List Int) × Int) := seqK (normAt 0 m19A false (m19c [true, true, true, true, true, false, true])) (cutK M m19A (m19c [true, true, true, true, true, false, true]) fun s => evC (m19E k) M (m19I k) 0 m19A (m19c [true, true, true, true, true, false, true]) s (m19K9 M k)) (m19K9 M k)
noncomputable def m19K11 (M : Cut ((List Int) × Int)) (k : Nat) : Exit → St → Option ((List Int) × Int) := blockK 0 (m19K9 M k)
noncomputable def m19K12 (M : Cut ((List Int) × Int)) (k : Nat) (L17 : St → Option ((List Int) × Int)) : Exit → St → Option ((List Int) × Int) := seqK (normAt 0 m19A true (m19c [true, true, true, true, true, false, true, true, true])) L17 (m19K11 M k)
noncomputable def m19K13 (M : Cut ((List Int) × Int)) (k : Nat) (L17 : St → Option ((List Int) × Int)) : Exit → St → Option ((List Int) × Int) := seqK (normAt 0 m19A false (m19c [true, true, true, true, true, false, true, true, true, true])) (cutK M m19A (m19c [true, true, true, true, true, false, true, true, true, true]) fun s => evC (m19E k) M (m19I k) 0 m19A (m19c [true, true, true, true, true, false, true, true, true, true]) s (m19K12 M k L17)) (m19K12 M k L17)
noncomputable def m19K14 (M : Cut ((List Int) × Int)) (k : Nat) (L17 : St → Option ((List Int) × Int)) : Exit → St → Option ((List Int) × Int) := seqK (normAt 0 m19A false (m19c [true, true, true, true, true, false, true, true, true, true, true])) (cutK M m19A (m19c [true, true, true, true, true, false, true, true, true, true, true]) fun s => evC (m19E k) M (m19I k) 0 m19A (m19c [true, true, true, true, true, false, true, true, true, true, true]) s (m19K12 M k L17)) (m19K12 M k L17)
noncomputable def m19K15 (M : Cut ((List Int) × Int)) (k : Nat) (L17 : St → Option ((List Int) × Int)) : Exit → St → Option ((List Int) × Int) := seqK (normAt 0 m19A false (m19c [true, true, true, true, true, false, true, true, true, true, true, true])) (cutK M m19A (m19c [true, true, true, true, true, false, true, true, true, true, true, true]) fun s => evC (m19E k) M (m19I k) 0 m19A (m19c [true, true, true, true, true, false, true, true, true, true, true, true]) s (m19K12 M k L17)) (m19K12 M k L17)
noncomputable def m19K16 (M : Cut ((List Int) × Int)) (k : Nat) (L17 : St → Option ((List Int) × Int)) : Exit → St → Option ((List Int) × Int) := blockK 1 (m19K15 M k L17)
noncomputable def m19K17 (M : Cut ((List Int) × Int)) (k : Nat) (L17 : St → Option ((List Int) × Int)) : Exit → St → Option ((List Int) × Int) := seqK (normAt 0 m19A false (m19c [true, true, true, true, true, false, true, true, true, true, true, false, true, true])) (cutK M m19A (m19c [true, true, true, true, true, false, true, true, true, true, true, false, true, true]) fun s => evC (m19E k) M (m19I k) 0 m19A (m19c [true, true, true, true, true, false, true, true, true, true, true, false, true, true]) s (m19K16 M k L17)) (m19K16 M k L17)
noncomputable def m19K18 (M : Cut ((List Int) × Int)) (k : Nat) : Exit → St → Option ((List Int) × Int) := seqK (normAt 0 m19A false (m19c [true, true, true, true, true, true, true])) (cutK M m19A (m19c [true, true, true, true, true, true, true]) fun s => evC (m19E k) M (m19I k) 0 m19A (m19c [true, true, true, true, true, true, true]) s (retK Try.prog Try.f19 [.leaf (.own (.int .u8) 5), .leaf (.val (.int .i64))])) (retK Try.prog Try.f19 [.leaf (.own (.int .u8) 5), .leaf (.val (.int .i64))])
noncomputable def m19S17 (t4 : Int) (t20 : Int) (b0 : List Int) : St := { n := 32, tm := slots [(4, .int .i64 t4), (6, .own 0), (20, .int .i64 t20)], tab := blks [some (.row true (.int .u8) 5 b0)], nx := 1 }
noncomputable def m19S24 (b0 : List Int) : St := { n := 32, tm := slots [(6, .own 0)], tab := blks [some (.row true (.int .u8) 5 b0)], nx := 1 }

noncomputable def m19X (X17 : Int → Int → List Int → Option ((List Int) × Int)) (k : Nat) (p0 : (List Int)) : Option ((List Int) × Int) := (if ltI 4092 (↑(List.length p0) : Int) = true then some (([], 2)) else (Option.bind (m27F k p0) fun (c3 : (Int × Int)) => (if (!eqI (Prod.snd c3) 0) = true then some (([], Prod.snd c3)) else (Option.bind (m26F k p0) fun (c4 : (List Int)) => X17 (Prod.fst c3) (0) c4))))

theorem m19x (M : Cut ((List Int) × Int)) (k : Nat) (p0 : (List Int)) : evC (m19E k) M (m19I k) 0 m19A (m19c []) (stAt Try.f19 (argSs [.leaf (.val (.row (.int .u8)))] p0) (fun _ => none) 0) (retK Try.prog Try.f19 [.leaf (.own (.int .u8) 5), .leaf (.val (.int .i64))]) = m19X (fun t4' t20' b0' => loopN (normAt 0 m19A true (m19c [true, true, true, true, true, false, true, true, true])) (fun K s => evC (m19E k) M (m19I k) 0 m19A (m19c [true, true, true, true, true, false, true, true, true]) s K) (m19K11 M k) k (m19S17 t4' t20' b0')) k p0 := by kernel_rfl

noncomputable def m19X17 (X24 : List Int → Option ((List Int) × Int)) (L17 : Int → Int → List Int → Option ((List Int) × Int)) (k : Nat) (t4 : Int) (t20 : Int) (b0 : List Int) : Option ((List Int) × Int) := (if ltI t20 4 = true then (if leI (↑((List.length b0 + List.length (List.set (List.replicate 1 0) 0 (wr IntKind.u8 t4))) * 1) : Int) 140737488355328 =
  true then (if leI 0 8 = true then L17 (t4 / 256) (wr IntKind.i64 (t20 + 1)) (b0 ++ List.set (List.replicate 1 0) 0 (wr IntKind.u8 t4)) else none) else none) else X24 b0)

theorem m19x17 (M : Cut ((List Int) × Int)) (k : Nat) (L17 : St → Option ((List Int) × Int)) (t4 : Int) (t20 : Int) (b0 : List Int) : evC (m19E k) M (m19I k) 0 m19A (m19c [true, true, true, true, true, false, true, true, true]) (m19S17 t4 t20 b0) (seqK (normAt 0 m19A true (m19c [true, true, true, true, true, false, true, true, true])) L17 (m19K11 M k)) = m19X17 (fun b0' => M 24 (fun s => evC (m19E k) M (m19I k) 0 m19A (m19c [true, true, true, true, true, true]) s (retK Try.prog Try.f19 [.leaf (.own (.int .u8) 5), .leaf (.val (.int .i64))])) (m19S24 b0')) (fun t4' t20' b0' => L17 (m19S17 t4' t20' b0')) k t4 t20 b0 := by kernel_rfl

noncomputable def m19X24 (k : Nat) (b0 : List Int) : Option ((List Int) × Int) := (Option.bind (m26F k b0) fun (c3 : (List Int)) => some ((c3, 0)))

theorem m19x24 (M : Cut ((List Int) × Int)) (k : Nat) (b0 : List Int) : evC (m19E k) M (m19I k) 0 m19A (m19c [true, true, true, true, true, true]) (m19S24 b0) (retK Try.prog Try.f19 [.leaf (.own (.int .u8) 5), .leaf (.val (.int .i64))]) = m19X24 k b0 := by kernel_rfl

noncomputable def m19F24 (k : Nat) (b0 : List Int) : Option ((List Int) × Int) := m19X24 k b0

theorem m19q24 (k : Nat) (b0 : List Int) : evC (m19E k) (fun _ f => f) (m19I k) 0 m19A (m19c [true, true, true, true, true, true]) (m19S24 b0) (retK Try.prog Try.f19 [.leaf (.own (.int .u8) 5), .leaf (.val (.int .i64))]) = m19F24 k b0 := by
    show _ = m19X24 k b0
    exact m19x24 (fun _ f => f) k b0

noncomputable def m19F17 (k : Nat) : Nat → Int → Int → List Int → Option ((List Int) × Int)
  | 0, _, _, _ => none
  | j + 1, t4, t20, b0 => m19X17 (m19F24 k) (m19F17 k j) k t4 t20 b0

theorem m19q17 (k : Nat) : ∀ (j : Nat) (t4 : Int) (t20 : Int) (b0 : List Int), loopN (normAt 0 m19A true (m19c [true, true, true, true, true, false, true, true, true])) (fun K s => evC (m19E k) (fun _ f => f) (m19I k) 0 m19A (m19c [true, true, true, true, true, false, true, true, true]) s K) (m19K11 (fun _ f => f) k) j (m19S17 t4 t20 b0) = m19F17 k j t4 t20 b0
  | 0, _, _, _ => rfl
  | j + 1, t4, t20, b0 => by
    have e0 : m19F17 k j = (fun t4' t20' b0' => loopN (normAt 0 m19A true (m19c [true, true, true, true, true, false, true, true, true])) (fun K s => evC (m19E k) (fun _ f => f) (m19I k) 0 m19A (m19c [true, true, true, true, true, false, true, true, true]) s K) (m19K11 (fun _ f => f) k) j (m19S17 t4' t20' b0')) := funext fun t4' => funext fun t20' => funext fun b0' => (m19q17 k j t4' t20' b0').symm
    have e24 : m19F24 k = (fun b0' => evC (m19E k) (fun _ f => f) (m19I k) 0 m19A (m19c [true, true, true, true, true, true]) (m19S24 b0') (retK Try.prog Try.f19 [.leaf (.own (.int .u8) 5), .leaf (.val (.int .i64))])) := funext fun b0' => (m19q24 k b0').symm
    show _ = m19X17 (m19F24 k) (m19F17 k j) k t4 t20 b0
    rw [e0, e24]
    exact m19x17 (fun _ f => f) k (loopN (normAt 0 m19A true (m19c [true, true, true, true, true, false, true, true, true])) (fun K s => evC (m19E k) (fun _ f => f) (m19I k) 0 m19A (m19c [true, true, true, true, true, false, true, true, true]) s K) (m19K11 (fun _ f => f) k) j) t4 t20 b0

noncomputable def m19F (k : Nat) (p0 : (List Int)) : Option ((List Int) × Int) := m19X (m19F17 k k) k p0

theorem m19q (k : Nat) (p0 : (List Int)) : evC (m19E k) (fun _ f => f) (m19I k) 0 m19A (m19c []) (stAt Try.f19 (argSs [.leaf (.val (.row (.int .u8)))] p0) (fun _ => none) 0) (retK Try.prog Try.f19 [.leaf (.own (.int .u8) 5), .leaf (.val (.int .i64))]) = m19F k p0 := by
    have e17 : m19F17 k k = (fun t4' t20' b0' => loopN (normAt 0 m19A true (m19c [true, true, true, true, true, false, true, true, true])) (fun K s => evC (m19E k) (fun _ f => f) (m19I k) 0 m19A (m19c [true, true, true, true, true, false, true, true, true]) s K) (m19K11 (fun _ f => f) k) k (m19S17 t4' t20' b0')) := funext fun t4' => funext fun t20' => funext fun b0' => (m19q17 k k t4' t20' b0').symm
    show _ = m19X (m19F17 k k) k p0
    rw [e17]
    exact m19x (fun _ f => f) k p0

noncomputable def m19sp : Spec := { ps := [.leaf (.val (.row (.int .u8)))], rs := [.leaf (.own (.int .u8) 5), .leaf (.val (.int .i64))], f := fun k a => m19F k a }

theorem m19ok (k : Nat) : EnvOk (m19E k) := envOk_of (l := [(26, m26sp), (27, m27sp)]) progNames progMixed rfl (.cons ⟨m26con k, Try.f26, by kernel_rfl, by kernel_rfl⟩ (.cons ⟨m27con k, Try.f27, by kernel_rfl, by kernel_rfl⟩ (.nil)))

theorem m19con (k : Nat) : Contract Try.prog k 19 m19sp := contract_of (E := m19E k) (m19ok k) (A := only 19 m19A) (d := 3) (c := m19c []) (by kernel_rfl) (by kernel_rfl) fun a _ h => (m19q k a).trans h

noncomputable def m8A : Anns := tabA []
noncomputable def m8E (k : Nat) : Env := { P := Try.prog, k := k, G := tabG [(18, m18sp), (19, m19sp)] }
noncomputable def m8c (p : List Bool) : Code := sub p (bodyOf Try.f8)
noncomputable def m8I (k : Nat) : Inl ((List Int) × Int) := inlOf (m8E k) (only 8 m8A) 3
noncomputable def m8K0 (M : Cut ((List Int) × Int)) (k : Nat) : Exit → St → Option ((List Int) × Int) := seqK (normAt 0 m8A false (m8c [true])) (cutK M m8A (m8c [true]) fun s => evC (m8E k) M (m8I k) 0 m8A (m8c [true]) s (retK Try.prog Try.f8 [.leaf (.own (.int .u8) 5), .leaf (.val (.int .i64))])) (retK Try.prog Try.f8 [.leaf (.own (.int .u8) 5), .leaf (.val (.int .i64))])
noncomputable def m8K1 (M : Cut ((List Int) × Int)) (k : Nat) : Exit → St → Option ((List Int) × Int) := seqK (normAt 0 m8A false (m8c [true, true])) (cutK M m8A (m8c [true, true]) fun s => evC (m8E k) M (m8I k) 0 m8A (m8c [true, true]) s (retK Try.prog Try.f8 [.leaf (.own (.int .u8) 5), .leaf (.val (.int .i64))])) (retK Try.prog Try.f8 [.leaf (.own (.int .u8) 5), .leaf (.val (.int .i64))])
noncomputable def m8K2 (M : Cut ((List Int) × Int)) (k : Nat) : Exit → St → Option ((List Int) × Int) := seqK (normAt 0 m8A false (m8c [true, false, true])) (cutK M m8A (m8c [true, false, true]) fun s => evC (m8E k) M (m8I k) 0 m8A (m8c [true, false, true]) s (m8K1 M k)) (m8K1 M k)
noncomputable def m8K3 (M : Cut ((List Int) × Int)) (k : Nat) : Exit → St → Option ((List Int) × Int) := seqK (normAt 0 m8A false (m8c [true, false, true, false, true])) (cutK M m8A (m8c [true, false, true, false, true]) fun s => evC (m8E k) M (m8I k) 0 m8A (m8c [true, false, true, false, true]) s (m8K1 M k)) (m8K1 M k)
noncomputable def m8K4 (M : Cut ((List Int) × Int)) (k : Nat) : Exit → St → Option ((List Int) × Int) := seqK (normAt 0 m8A false (m8c [true, true, true])) (cutK M m8A (m8c [true, true, true]) fun s => evC (m8E k) M (m8I k) 0 m8A (m8c [true, true, true]) s (retK Try.prog Try.f8 [.leaf (.own (.int .u8) 5), .leaf (.val (.int .i64))])) (retK Try.prog Try.f8 [.leaf (.own (.int .u8) 5), .leaf (.val (.int .i64))])
noncomputable def m8K5 (M : Cut ((List Int) × Int)) (k : Nat) : Exit → St → Option ((List Int) × Int) := seqK (normAt 0 m8A false (m8c [true, true, true, true])) (cutK M m8A (m8c [true, true, true, true]) fun s => evC (m8E k) M (m8I k) 0 m8A (m8c [true, true, true, true]) s (retK Try.prog Try.f8 [.leaf (.own (.int .u8) 5), .leaf (.val (.int .i64))])) (retK Try.prog Try.f8 [.leaf (.own (.int .u8) 5), .leaf (.val (.int .i64))])
noncomputable def m8K6 (M : Cut ((List Int) × Int)) (k : Nat) : Exit → St → Option ((List Int) × Int) := seqK (normAt 0 m8A false (m8c [true, true, true, true, true])) (cutK M m8A (m8c [true, true, true, true, true]) fun s => evC (m8E k) M (m8I k) 0 m8A (m8c [true, true, true, true, true]) s (retK Try.prog Try.f8 [.leaf (.own (.int .u8) 5), .leaf (.val (.int .i64))])) (retK Try.prog Try.f8 [.leaf (.own (.int .u8) 5), .leaf (.val (.int .i64))])

noncomputable def m8X (k : Nat) (p0 : (Int × Int)) : Option ((List Int) × Int) := (if ltI (Prod.fst p0) 0 = true then some (([], 1)) else (if ltI 1073741824 (Prod.fst p0) = true then some (([], 1)) else (Option.bind (m18F k (List.set (List.replicate 1 0) 0 65) (Prod.fst p0) 4) fun (c3 : ((List Int) × Int)) => (Option.bind (m18F k (Prod.fst c3) (wr IntKind.i64 (Prod.snd p0)) 4) fun (c4 : ((List Int) × Int)) => (Option.bind (m19F k (Prod.fst c4)) fun (c5 : ((List Int) × Int)) => some ((Prod.fst c5, Prod.snd c5)))))))

theorem m8x (M : Cut ((List Int) × Int)) (k : Nat) (p0 : (Int × Int)) : evC (m8E k) M (m8I k) 0 m8A (m8c []) (stAt Try.f8 (argSs [.st (.pair (.int .i64) (.int .u32))] p0) (fun _ => none) 0) (retK Try.prog Try.f8 [.leaf (.own (.int .u8) 5), .leaf (.val (.int .i64))]) = m8X k p0 := by kernel_rfl

noncomputable def m8F (k : Nat) (p0 : (Int × Int)) : Option ((List Int) × Int) := m8X k p0

theorem m8q (k : Nat) (p0 : (Int × Int)) : evC (m8E k) (fun _ f => f) (m8I k) 0 m8A (m8c []) (stAt Try.f8 (argSs [.st (.pair (.int .i64) (.int .u32))] p0) (fun _ => none) 0) (retK Try.prog Try.f8 [.leaf (.own (.int .u8) 5), .leaf (.val (.int .i64))]) = m8F k p0 := by
    show _ = m8X k p0
    exact m8x (fun _ f => f) k p0

noncomputable def m8sp : Spec := { ps := [.st (.pair (.int .i64) (.int .u32))], rs := [.leaf (.own (.int .u8) 5), .leaf (.val (.int .i64))], f := fun k a => m8F k a }

theorem m8ok (k : Nat) : EnvOk (m8E k) := envOk_of (l := [(18, m18sp), (19, m19sp)]) progNames progMixed rfl (.cons ⟨m18con k, Try.f18, by kernel_rfl, by kernel_rfl⟩ (.cons ⟨m19con k, Try.f19, by kernel_rfl, by kernel_rfl⟩ (.nil)))

theorem m8con (k : Nat) : Contract Try.prog k 8 m8sp := contract_of (E := m8E k) (m8ok k) (A := only 8 m8A) (d := 3) (c := m8c []) (by kernel_rfl) (by kernel_rfl) fun a _ h => (m8q k a).trans h

noncomputable def m9A : Anns := tabA []
noncomputable def m9E (k : Nat) : Env := { P := Try.prog, k := k, G := tabG [] }
noncomputable def m9c (p : List Bool) : Code := sub p (bodyOf Try.f9)
noncomputable def m9I (k : Nat) : Inl Bool := inlOf (m9E k) (only 9 m9A) 3
noncomputable def m9K0 (M : Cut Bool) (k : Nat) : Exit → St → Option Bool := seqK (normAt 0 m9A false (m9c [true])) (cutK M m9A (m9c [true]) fun s => evC (m9E k) M (m9I k) 0 m9A (m9c [true]) s (retK Try.prog Try.f9 [.leaf (.val .bool)])) (retK Try.prog Try.f9 [.leaf (.val .bool)])
noncomputable def m9K1 (M : Cut Bool) (k : Nat) : Exit → St → Option Bool := seqK (normAt 0 m9A false (m9c [true, true])) (cutK M m9A (m9c [true, true]) fun s => evC (m9E k) M (m9I k) 0 m9A (m9c [true, true]) s (retK Try.prog Try.f9 [.leaf (.val .bool)])) (retK Try.prog Try.f9 [.leaf (.val .bool)])
noncomputable def m9K2 (M : Cut Bool) (k : Nat) : Exit → St → Option Bool := blockK 0 (m9K1 M k)
noncomputable def m9K3 (M : Cut Bool) (k : Nat) : Exit → St → Option Bool := seqK (normAt 0 m9A false (m9c [true, false, true, true])) (cutK M m9A (m9c [true, false, true, true]) fun s => evC (m9E k) M (m9I k) 0 m9A (m9c [true, false, true, true]) s (m9K2 M k)) (m9K2 M k)
noncomputable def m9K4 (M : Cut Bool) (k : Nat) : Exit → St → Option Bool := seqK (normAt 0 m9A false (m9c [true, false, true, true, false, true])) (cutK M m9A (m9c [true, false, true, true, false, true]) fun s => evC (m9E k) M (m9I k) 0 m9A (m9c [true, false, true, true, false, true]) s (m9K2 M k)) (m9K2 M k)
noncomputable def m9K5 (M : Cut Bool) (k : Nat) : Exit → St → Option Bool := seqK (normAt 0 m9A false (m9c [true, false, true, true, true, true])) (cutK M m9A (m9c [true, false, true, true, true, true]) fun s => evC (m9E k) M (m9I k) 0 m9A (m9c [true, false, true, true, true, true]) s (m9K2 M k)) (m9K2 M k)
noncomputable def m9K6 (M : Cut Bool) (k : Nat) : Exit → St → Option Bool := seqK (normAt 0 m9A false (m9c [true, false, true, true, true, true, false, true])) (cutK M m9A (m9c [true, false, true, true, true, true, false, true]) fun s => evC (m9E k) M (m9I k) 0 m9A (m9c [true, false, true, true, true, true, false, true]) s (m9K2 M k)) (m9K2 M k)
noncomputable def m9K7 (M : Cut Bool) (k : Nat) : Exit → St → Option Bool := seqK (normAt 0 m9A false (m9c [true, false, true, true, true, true, true, true])) (cutK M m9A (m9c [true, false, true, true, true, true, true, true]) fun s => evC (m9E k) M (m9I k) 0 m9A (m9c [true, false, true, true, true, true, true, true]) s (m9K2 M k)) (m9K2 M k)
noncomputable def m9K8 (M : Cut Bool) (k : Nat) : Exit → St → Option Bool := seqK (normAt 0 m9A false (m9c [true, false, true, true, true, true, true, true, false, true])) (cutK M m9A (m9c [true, false, true, true, true, true, true, true, false, true]) fun s => evC (m9E k) M (m9I k) 0 m9A (m9c [true, false, true, true, true, true, true, true, false, true]) s (m9K2 M k)) (m9K2 M k)
noncomputable def m9K9 (M : Cut Bool) (k : Nat) : Exit → St → Option Bool := seqK (normAt 0 m9A false (m9c [true, true, true])) (cutK M m9A (m9c [true, true, true]) fun s => evC (m9E k) M (m9I k) 0 m9A (m9c [true, true, true]) s (retK Try.prog Try.f9 [.leaf (.val .bool)])) (retK Try.prog Try.f9 [.leaf (.val .bool)])

noncomputable def m9X (k : Nat) (p0 : (Int × Int)) (p1 : Int) : Option Bool := (if ltI p1 0 = true then some (false) else (if ltI p1 (Prod.fst p0) = true then some (true) else (if ltI (Prod.fst p0) 0 = true then some (false) else (if ltI (wr IntKind.i64 (p1 - Prod.fst p0)) 32 = true then (if leI 0 (wr IntKind.i64 (p1 - Prod.fst p0)) = true then some (eqI (bits BinOp.and IntKind.u32 (Prod.snd p0 / p2 (min (Int.toNat (wr IntKind.i64 (p1 - Prod.fst p0))) 32)) 1) 1) else none) else some (false)))))

theorem m9x (M : Cut Bool) (k : Nat) (p0 : (Int × Int)) (p1 : Int) : evC (m9E k) M (m9I k) 0 m9A (m9c []) (stAt Try.f9 (argSs [.st (.pair (.int .i64) (.int .u32)), .leaf (.val (.int .i64))] (p0, p1)) (fun _ => none) 0) (retK Try.prog Try.f9 [.leaf (.val .bool)]) = m9X k p0 p1 := by kernel_rfl

noncomputable def m9F (k : Nat) (p0 : (Int × Int)) (p1 : Int) : Option Bool := m9X k p0 p1

theorem m9q (k : Nat) (p0 : (Int × Int)) (p1 : Int) : evC (m9E k) (fun _ f => f) (m9I k) 0 m9A (m9c []) (stAt Try.f9 (argSs [.st (.pair (.int .i64) (.int .u32)), .leaf (.val (.int .i64))] (p0, p1)) (fun _ => none) 0) (retK Try.prog Try.f9 [.leaf (.val .bool)]) = m9F k p0 p1 := by
    show _ = m9X k p0 p1
    exact m9x (fun _ f => f) k p0 p1

noncomputable def m9sp : Spec := { ps := [.st (.pair (.int .i64) (.int .u32)), .leaf (.val (.int .i64))], rs := [.leaf (.val .bool)], f := fun k a => m9F k a.1 a.2 }

theorem m9ok (k : Nat) : EnvOk (m9E k) := envOk_of (l := []) progNames progMixed rfl (.nil)

theorem m9con (k : Nat) : Contract Try.prog k 9 m9sp := contract_of (E := m9E k) (m9ok k) (A := only 9 m9A) (d := 3) (c := m9c []) (by kernel_rfl) (by kernel_rfl) fun a _ h => (m9q k a.1 a.2).trans h

noncomputable def m10A : Anns := tabA []
noncomputable def m10E (k : Nat) : Env := { P := Try.prog, k := k, G := tabG [] }
noncomputable def m10c (p : List Bool) : Code := sub p (bodyOf Try.f10)
noncomputable def m10I (k : Nat) : Inl Bool := inlOf (m10E k) (only 10 m10A) 3
noncomputable def m10K0 (M : Cut Bool) (k : Nat) : Exit → St → Option Bool := seqK (normAt 0 m10A false (m10c [true])) (cutK M m10A (m10c [true]) fun s => evC (m10E k) M (m10I k) 0 m10A (m10c [true]) s (retK Try.prog Try.f10 [.leaf (.val .bool)])) (retK Try.prog Try.f10 [.leaf (.val .bool)])
noncomputable def m10K1 (M : Cut Bool) (k : Nat) : Exit → St → Option Bool := seqK (normAt 0 m10A false (m10c [true, true])) (cutK M m10A (m10c [true, true]) fun s => evC (m10E k) M (m10I k) 0 m10A (m10c [true, true]) s (retK Try.prog Try.f10 [.leaf (.val .bool)])) (retK Try.prog Try.f10 [.leaf (.val .bool)])
noncomputable def m10K2 (M : Cut Bool) (k : Nat) : Exit → St → Option Bool := seqK (normAt 0 m10A false (m10c [true, false, true])) (cutK M m10A (m10c [true, false, true]) fun s => evC (m10E k) M (m10I k) 0 m10A (m10c [true, false, true]) s (m10K1 M k)) (m10K1 M k)
noncomputable def m10K3 (M : Cut Bool) (k : Nat) : Exit → St → Option Bool := seqK (normAt 0 m10A false (m10c [true, false, true, false, true])) (cutK M m10A (m10c [true, false, true, false, true]) fun s => evC (m10E k) M (m10I k) 0 m10A (m10c [true, false, true, false, true]) s (m10K1 M k)) (m10K1 M k)
noncomputable def m10K4 (M : Cut Bool) (k : Nat) : Exit → St → Option Bool := seqK (normAt 0 m10A false (m10c [true, true, true])) (cutK M m10A (m10c [true, true, true]) fun s => evC (m10E k) M (m10I k) 0 m10A (m10c [true, true, true]) s (retK Try.prog Try.f10 [.leaf (.val .bool)])) (retK Try.prog Try.f10 [.leaf (.val .bool)])
noncomputable def m10K5 (M : Cut Bool) (k : Nat) : Exit → St → Option Bool := seqK (normAt 0 m10A false (m10c [true, true, true, true])) (cutK M m10A (m10c [true, true, true, true]) fun s => evC (m10E k) M (m10I k) 0 m10A (m10c [true, true, true, true]) s (retK Try.prog Try.f10 [.leaf (.val .bool)])) (retK Try.prog Try.f10 [.leaf (.val .bool)])

noncomputable def m10X (k : Nat) (p0 : (Int × Int)) (p1 : Int) : Option Bool := (if ltI p1 0 = true then some (leI 0 p1) else (if ltI p1 (Prod.fst p0) = true then some (leI 0 p1) else (if leI 0 (wr IntKind.i64 (p1 - Prod.fst p0)) = true then (if ltI (wr IntKind.i64 (p1 - Prod.fst p0)) 32 = true then (if leI 0 (Prod.fst p0) = true then (if leI 0 (wr IntKind.u64 (wr IntKind.i64 (p1 - Prod.fst p0))) = true then some (eqI
  (bits BinOp.and IntKind.u32
    (Prod.snd p0 / p2 (min (Int.toNat (wr IntKind.u64 (wr IntKind.i64 (p1 - Prod.fst p0)))) 32)) 1)
  1) else none) else some (false)) else some (false)) else some (false))))

theorem m10x (M : Cut Bool) (k : Nat) (p0 : (Int × Int)) (p1 : Int) : evC (m10E k) M (m10I k) 0 m10A (m10c []) (stAt Try.f10 (argSs [.st (.pair (.int .i64) (.int .u32)), .leaf (.val (.int .i64))] (p0, p1)) (fun _ => none) 0) (retK Try.prog Try.f10 [.leaf (.val .bool)]) = m10X k p0 p1 := by kernel_rfl

noncomputable def m10F (k : Nat) (p0 : (Int × Int)) (p1 : Int) : Option Bool := m10X k p0 p1

theorem m10q (k : Nat) (p0 : (Int × Int)) (p1 : Int) : evC (m10E k) (fun _ f => f) (m10I k) 0 m10A (m10c []) (stAt Try.f10 (argSs [.st (.pair (.int .i64) (.int .u32)), .leaf (.val (.int .i64))] (p0, p1)) (fun _ => none) 0) (retK Try.prog Try.f10 [.leaf (.val .bool)]) = m10F k p0 p1 := by
    show _ = m10X k p0 p1
    exact m10x (fun _ f => f) k p0 p1

noncomputable def m10sp : Spec := { ps := [.st (.pair (.int .i64) (.int .u32)), .leaf (.val (.int .i64))], rs := [.leaf (.val .bool)], f := fun k a => m10F k a.1 a.2 }

theorem m10ok (k : Nat) : EnvOk (m10E k) := envOk_of (l := []) progNames progMixed rfl (.nil)

theorem m10con (k : Nat) : Contract Try.prog k 10 m10sp := contract_of (E := m10E k) (m10ok k) (A := only 10 m10A) (d := 3) (c := m10c []) (by kernel_rfl) (by kernel_rfl) fun a _ h => (m10q k a.1 a.2).trans h

noncomputable def m29A : Anns := tabA [(9, { keep := [0, 1, 12, 13] })]
noncomputable def m29E (k : Nat) : Env := { P := Try.prog, k := k, G := tabG [] }
noncomputable def m29c (p : List Bool) : Code := sub p (bodyOf Try.f29)
noncomputable def m29I (k : Nat) : Inl Bool := inlOf (m29E k) (only 29 m29A) 3
noncomputable def m29K0 (M : Cut Bool) (k : Nat) : Exit → St → Option Bool := seqK (normAt 0 m29A false (m29c [true])) (cutK M m29A (m29c [true]) fun s => evC (m29E k) M (m29I k) 0 m29A (m29c [true]) s (retK Try.prog Try.f29 [.leaf (.val .bool)])) (retK Try.prog Try.f29 [.leaf (.val .bool)])
noncomputable def m29K1 (M : Cut Bool) (k : Nat) : Exit → St → Option Bool := seqK (normAt 0 m29A false (m29c [true, true])) (cutK M m29A (m29c [true, true]) fun s => evC (m29E k) M (m29I k) 0 m29A (m29c [true, true]) s (retK Try.prog Try.f29 [.leaf (.val .bool)])) (retK Try.prog Try.f29 [.leaf (.val .bool)])
noncomputable def m29K2 (M : Cut Bool) (k : Nat) : Exit → St → Option Bool := seqK (normAt 0 m29A false (m29c [true, false, true])) (cutK M m29A (m29c [true, false, true]) fun s => evC (m29E k) M (m29I k) 0 m29A (m29c [true, false, true]) s (m29K1 M k)) (m29K1 M k)
noncomputable def m29K3 (M : Cut Bool) (k : Nat) : Exit → St → Option Bool := seqK (normAt 0 m29A false (m29c [true, false, true, false, true])) (cutK M m29A (m29c [true, false, true, false, true]) fun s => evC (m29E k) M (m29I k) 0 m29A (m29c [true, false, true, false, true]) s (m29K1 M k)) (m29K1 M k)
noncomputable def m29K4 (M : Cut Bool) (k : Nat) : Exit → St → Option Bool := seqK (normAt 0 m29A false (m29c [true, true, true])) (cutK M m29A (m29c [true, true, true]) fun s => evC (m29E k) M (m29I k) 0 m29A (m29c [true, true, true]) s (retK Try.prog Try.f29 [.leaf (.val .bool)])) (retK Try.prog Try.f29 [.leaf (.val .bool)])
noncomputable def m29K5 (M : Cut Bool) (k : Nat) : Exit → St → Option Bool := seqK (normAt 0 m29A false (m29c [true, true, false, true])) (cutK M m29A (m29c [true, true, false, true]) fun s => evC (m29E k) M (m29I k) 0 m29A (m29c [true, true, false, true]) s (m29K4 M k)) (m29K4 M k)
noncomputable def m29K6 (M : Cut Bool) (k : Nat) : Exit → St → Option Bool := blockK 0 (m29K4 M k)
noncomputable def m29K7 (M : Cut Bool) (k : Nat) (L9 : St → Option Bool) : Exit → St → Option Bool := seqK (normAt 0 m29A true (m29c [true, true, false, true, true, true])) L9 (m29K6 M k)
noncomputable def m29K8 (M : Cut Bool) (k : Nat) (L9 : St → Option Bool) : Exit → St → Option Bool := seqK (normAt 0 m29A false (m29c [true, true, false, true, true, true, true])) (cutK M m29A (m29c [true, true, false, true, true, true, true]) fun s => evC (m29E k) M (m29I k) 0 m29A (m29c [true, true, false, true, true, true, true]) s (m29K7 M k L9)) (m29K7 M k L9)
noncomputable def m29K9 (M : Cut Bool) (k : Nat) (L9 : St → Option Bool) : Exit → St → Option Bool := seqK (normAt 0 m29A false (m29c [true, true, false, true, true, true, true, true])) (cutK M m29A (m29c [true, true, false, true, true, true, true, true]) fun s => evC (m29E k) M (m29I k) 0 m29A (m29c [true, true, false, true, true, true, true, true]) s (m29K7 M k L9)) (m29K7 M k L9)
noncomputable def m29K10 (M : Cut Bool) (k : Nat) (L9 : St → Option Bool) : Exit → St → Option Bool := seqK (normAt 0 m29A false (m29c [true, true, false, true, true, true, true, true, true])) (cutK M m29A (m29c [true, true, false, true, true, true, true, true, true]) fun s => evC (m29E k) M (m29I k) 0 m29A (m29c [true, true, false, true, true, true, true, true, true]) s (m29K7 M k L9)) (m29K7 M k L9)
noncomputable def m29K11 (M : Cut Bool) (k : Nat) (L9 : St → Option Bool) : Exit → St → Option Bool := blockK 1 (m29K10 M k L9)
noncomputable def m29K12 (M : Cut Bool) (k : Nat) (L9 : St → Option Bool) : Exit → St → Option Bool := seqK (normAt 0 m29A false (m29c [true, true, false, true, true, true, true, true, false, true, true])) (cutK M m29A (m29c [true, true, false, true, true, true, true, true, false, true, true]) fun s => evC (m29E k) M (m29I k) 0 m29A (m29c [true, true, false, true, true, true, true, true, false, true, true]) s (m29K11 M k L9)) (m29K11 M k L9)
noncomputable def m29K13 (M : Cut Bool) (k : Nat) (L9 : St → Option Bool) : Exit → St → Option Bool := seqK (normAt 0 m29A false (m29c [true, true, false, true, true, true, true, true, false, true, true, true])) (cutK M m29A (m29c [true, true, false, true, true, true, true, true, false, true, true, true]) fun s => evC (m29E k) M (m29I k) 0 m29A (m29c [true, true, false, true, true, true, true, true, false, true, true, true]) s (m29K11 M k L9)) (m29K11 M k L9)
noncomputable def m29K14 (M : Cut Bool) (k : Nat) (L9 : St → Option Bool) : Exit → St → Option Bool := seqK (normAt 0 m29A false (m29c [true, true, false, true, true, true, true, true, false, true, true, true, false, true])) (cutK M m29A (m29c [true, true, false, true, true, true, true, true, false, true, true, true, false, true]) fun s => evC (m29E k) M (m29I k) 0 m29A (m29c [true, true, false, true, true, true, true, true, false, true, true, true, false, true]) s (m29K11 M k L9)) (m29K11 M k L9)
noncomputable def m29K15 (M : Cut Bool) (k : Nat) : Exit → St → Option Bool := seqK (normAt 0 m29A false (m29c [true, true, true, true])) (cutK M m29A (m29c [true, true, true, true]) fun s => evC (m29E k) M (m29I k) 0 m29A (m29c [true, true, true, true]) s (retK Try.prog Try.f29 [.leaf (.val .bool)])) (retK Try.prog Try.f29 [.leaf (.val .bool)])
noncomputable def m29S9 (t0 : List Int) (t1 : List Int) (t12 : Int) (t13 : Int) : St := { n := 26, tm := slots [(0, .row (.int .u8) t0), (1, .row (.int .u8) t1), (12, .int .i64 t12), (13, .int .i64 t13)], tab := blks [], nx := 0 }

noncomputable def m29X (X9 : List Int → List Int → Int → Int → Option Bool) (k : Nat) (p0 : (List Int)) (p1 : (List Int)) : Option Bool := (if (!eqI (↑(List.length p0) : Int) (↑(List.length p1) : Int)) = true then some (false) else X9 p0 p1 ((↑(List.length p0) : Int)) (0))

theorem m29x (M : Cut Bool) (k : Nat) (p0 : (List Int)) (p1 : (List Int)) : evC (m29E k) M (m29I k) 0 m29A (m29c []) (stAt Try.f29 (argSs [.leaf (.val (.row (.int .u8))), .leaf (.val (.row (.int .u8)))] (p0, p1)) (fun _ => none) 0) (retK Try.prog Try.f29 [.leaf (.val .bool)]) = m29X (fun t0' t1' t12' t13' => loopN (normAt 0 m29A true (m29c [true, true, false, true, true, true])) (fun K s => evC (m29E k) M (m29I k) 0 m29A (m29c [true, true, false, true, true, true]) s K) (m29K6 M k) k (m29S9 t0' t1' t12' t13')) k p0 p1 := by kernel_rfl

noncomputable def m29X9 (L9 : List Int → List Int → Int → Int → Option Bool) (k : Nat) (t0 : List Int) (t1 : List Int) (t12 : Int) (t13 : Int) : Option Bool := (if ltI t13 t12 = true then (if leI 0 t13 = true then (if ltI t13 (↑(List.length t0) : Int) = true then (if leI 0 t13 = true then (if ltI t13 (↑(List.length t1) : Int) = true then (if (!eqI (List.getD t0 (Int.toNat t13) 0) (List.getD t1 (Int.toNat t13) 0)) = true then some (false) else L9 t0 t1 t12 (wr IntKind.i64 (t13 + 1))) else none) else none) else none) else none) else some (true))

theorem m29x9 (M : Cut Bool) (k : Nat) (L9 : St → Option Bool) (t0 : List Int) (t1 : List Int) (t12 : Int) (t13 : Int) : evC (m29E k) M (m29I k) 0 m29A (m29c [true, true, false, true, true, true]) (m29S9 t0 t1 t12 t13) (seqK (normAt 0 m29A true (m29c [true, true, false, true, true, true])) L9 (m29K6 M k)) = m29X9 (fun t0' t1' t12' t13' => L9 (m29S9 t0' t1' t12' t13')) k t0 t1 t12 t13 := by kernel_rfl

noncomputable def m29F9 (k : Nat) : Nat → List Int → List Int → Int → Int → Option Bool
  | 0, _, _, _, _ => none
  | j + 1, t0, t1, t12, t13 => m29X9 (m29F9 k j) k t0 t1 t12 t13

theorem m29q9 (k : Nat) : ∀ (j : Nat) (t0 : List Int) (t1 : List Int) (t12 : Int) (t13 : Int), loopN (normAt 0 m29A true (m29c [true, true, false, true, true, true])) (fun K s => evC (m29E k) (fun _ f => f) (m29I k) 0 m29A (m29c [true, true, false, true, true, true]) s K) (m29K6 (fun _ f => f) k) j (m29S9 t0 t1 t12 t13) = m29F9 k j t0 t1 t12 t13
  | 0, _, _, _, _ => rfl
  | j + 1, t0, t1, t12, t13 => by
    have e0 : m29F9 k j = (fun t0' t1' t12' t13' => loopN (normAt 0 m29A true (m29c [true, true, false, true, true, true])) (fun K s => evC (m29E k) (fun _ f => f) (m29I k) 0 m29A (m29c [true, true, false, true, true, true]) s K) (m29K6 (fun _ f => f) k) j (m29S9 t0' t1' t12' t13')) := funext fun t0' => funext fun t1' => funext fun t12' => funext fun t13' => (m29q9 k j t0' t1' t12' t13').symm
    show _ = m29X9 (m29F9 k j) k t0 t1 t12 t13
    rw [e0]
    exact m29x9 (fun _ f => f) k (loopN (normAt 0 m29A true (m29c [true, true, false, true, true, true])) (fun K s => evC (m29E k) (fun _ f => f) (m29I k) 0 m29A (m29c [true, true, false, true, true, true]) s K) (m29K6 (fun _ f => f) k) j) t0 t1 t12 t13

noncomputable def m29F (k : Nat) (p0 : (List Int)) (p1 : (List Int)) : Option Bool := m29X (m29F9 k k) k p0 p1

theorem m29q (k : Nat) (p0 : (List Int)) (p1 : (List Int)) : evC (m29E k) (fun _ f => f) (m29I k) 0 m29A (m29c []) (stAt Try.f29 (argSs [.leaf (.val (.row (.int .u8))), .leaf (.val (.row (.int .u8)))] (p0, p1)) (fun _ => none) 0) (retK Try.prog Try.f29 [.leaf (.val .bool)]) = m29F k p0 p1 := by
    have e9 : m29F9 k k = (fun t0' t1' t12' t13' => loopN (normAt 0 m29A true (m29c [true, true, false, true, true, true])) (fun K s => evC (m29E k) (fun _ f => f) (m29I k) 0 m29A (m29c [true, true, false, true, true, true]) s K) (m29K6 (fun _ f => f) k) k (m29S9 t0' t1' t12' t13')) := funext fun t0' => funext fun t1' => funext fun t12' => funext fun t13' => (m29q9 k k t0' t1' t12' t13').symm
    show _ = m29X (m29F9 k k) k p0 p1
    rw [e9]
    exact m29x (fun _ f => f) k p0 p1

noncomputable def m29sp : Spec := { ps := [.leaf (.val (.row (.int .u8))), .leaf (.val (.row (.int .u8)))], rs := [.leaf (.val .bool)], f := fun k a => m29F k a.1 a.2 }

theorem m29ok (k : Nat) : EnvOk (m29E k) := envOk_of (l := []) progNames progMixed rfl (.nil)

theorem m29con (k : Nat) : Contract Try.prog k 29 m29sp := contract_of (E := m29E k) (m29ok k) (A := only 29 m29A) (d := 3) (c := m29c []) (by kernel_rfl) (by kernel_rfl) fun a _ h => (m29q k a.1 a.2).trans h

noncomputable def m22A : Anns := tabA []
noncomputable def m22E (k : Nat) : Env := { P := Try.prog, k := k, G := tabG [(19, m19sp), (29, m29sp)] }
noncomputable def m22c (p : List Bool) : Code := sub p (bodyOf Try.f22)
noncomputable def m22I (k : Nat) : Inl (Bool × Int) := inlOf (m22E k) (only 22 m22A) 3
noncomputable def m22K0 (M : Cut (Bool × Int)) (k : Nat) : Exit → St → Option (Bool × Int) := seqK (normAt 0 m22A false (m22c [true])) (cutK M m22A (m22c [true]) fun s => evC (m22E k) M (m22I k) 0 m22A (m22c [true]) s (retK Try.prog Try.f22 [.leaf (.val .bool), .leaf (.val (.int .i64))])) (retK Try.prog Try.f22 [.leaf (.val .bool), .leaf (.val (.int .i64))])
noncomputable def m22K1 (M : Cut (Bool × Int)) (k : Nat) : Exit → St → Option (Bool × Int) := seqK (normAt 0 m22A false (m22c [true, true])) (cutK M m22A (m22c [true, true]) fun s => evC (m22E k) M (m22I k) 0 m22A (m22c [true, true]) s (retK Try.prog Try.f22 [.leaf (.val .bool), .leaf (.val (.int .i64))])) (retK Try.prog Try.f22 [.leaf (.val .bool), .leaf (.val (.int .i64))])
noncomputable def m22K2 (M : Cut (Bool × Int)) (k : Nat) : Exit → St → Option (Bool × Int) := blockK 0 (m22K1 M k)
noncomputable def m22K3 (M : Cut (Bool × Int)) (k : Nat) : Exit → St → Option (Bool × Int) := seqK (normAt 0 m22A false (m22c [true, false, true, true])) (cutK M m22A (m22c [true, false, true, true]) fun s => evC (m22E k) M (m22I k) 0 m22A (m22c [true, false, true, true]) s (m22K2 M k)) (m22K2 M k)
noncomputable def m22K4 (M : Cut (Bool × Int)) (k : Nat) : Exit → St → Option (Bool × Int) := seqK (normAt 0 m22A false (m22c [true, false, true, true, false, true])) (cutK M m22A (m22c [true, false, true, true, false, true]) fun s => evC (m22E k) M (m22I k) 0 m22A (m22c [true, false, true, true, false, true]) s (m22K2 M k)) (m22K2 M k)
noncomputable def m22K5 (M : Cut (Bool × Int)) (k : Nat) : Exit → St → Option (Bool × Int) := seqK (normAt 0 m22A false (m22c [true, false, true, true, true, true])) (cutK M m22A (m22c [true, false, true, true, true, true]) fun s => evC (m22E k) M (m22I k) 0 m22A (m22c [true, false, true, true, true, true]) s (m22K2 M k)) (m22K2 M k)
noncomputable def m22K6 (M : Cut (Bool × Int)) (k : Nat) : Exit → St → Option (Bool × Int) := seqK (normAt 0 m22A false (m22c [true, false, true, true, true, true, false, true])) (cutK M m22A (m22c [true, false, true, true, true, true, false, true]) fun s => evC (m22E k) M (m22I k) 0 m22A (m22c [true, false, true, true, true, true, false, true]) s (m22K2 M k)) (m22K2 M k)
noncomputable def m22K7 (M : Cut (Bool × Int)) (k : Nat) : Exit → St → Option (Bool × Int) := seqK (normAt 0 m22A false (m22c [true, true, true])) (cutK M m22A (m22c [true, true, true]) fun s => evC (m22E k) M (m22I k) 0 m22A (m22c [true, true, true]) s (retK Try.prog Try.f22 [.leaf (.val .bool), .leaf (.val (.int .i64))])) (retK Try.prog Try.f22 [.leaf (.val .bool), .leaf (.val (.int .i64))])
noncomputable def m22K8 (M : Cut (Bool × Int)) (k : Nat) : Exit → St → Option (Bool × Int) := seqK (normAt 0 m22A false (m22c [true, true, true, true])) (cutK M m22A (m22c [true, true, true, true]) fun s => evC (m22E k) M (m22I k) 0 m22A (m22c [true, true, true, true]) s (retK Try.prog Try.f22 [.leaf (.val .bool), .leaf (.val (.int .i64))])) (retK Try.prog Try.f22 [.leaf (.val .bool), .leaf (.val (.int .i64))])

noncomputable def m22X (k : Nat) (p0 : (List Int)) : Option (Bool × Int) := (if ltI 4096 (↑(List.length p0) : Int) = true then some ((false, 2)) else (if ltI (↑(List.length p0) : Int) 4 = true then some ((false, 0)) else (if leI 0 (wr IntKind.i64 ((↑(List.length p0) : Int) - 4)) = true then (if leI (wr IntKind.i64 ((↑(List.length p0) : Int) - 4)) (↑(List.length p0) : Int) = true then (Option.bind (m19F k (List.take (Int.toNat (wr IntKind.i64 ((↑(List.length p0) : Int) - 4))) p0)) fun (c3 : ((List Int) × Int)) => (if eqI (Prod.snd c3) 0 = true then (Option.bind (m29F k (Prod.fst c3) p0) fun (c4 : Bool) => some ((c4, 0))) else some ((false, 0)))) else none) else none)))

theorem m22x (M : Cut (Bool × Int)) (k : Nat) (p0 : (List Int)) : evC (m22E k) M (m22I k) 0 m22A (m22c []) (stAt Try.f22 (argSs [.leaf (.val (.row (.int .u8)))] p0) (fun _ => none) 0) (retK Try.prog Try.f22 [.leaf (.val .bool), .leaf (.val (.int .i64))]) = m22X k p0 := by kernel_rfl

noncomputable def m22F (k : Nat) (p0 : (List Int)) : Option (Bool × Int) := m22X k p0

theorem m22q (k : Nat) (p0 : (List Int)) : evC (m22E k) (fun _ f => f) (m22I k) 0 m22A (m22c []) (stAt Try.f22 (argSs [.leaf (.val (.row (.int .u8)))] p0) (fun _ => none) 0) (retK Try.prog Try.f22 [.leaf (.val .bool), .leaf (.val (.int .i64))]) = m22F k p0 := by
    show _ = m22X k p0
    exact m22x (fun _ f => f) k p0

noncomputable def m22sp : Spec := { ps := [.leaf (.val (.row (.int .u8)))], rs := [.leaf (.val .bool), .leaf (.val (.int .i64))], f := fun k a => m22F k a }

theorem m22ok (k : Nat) : EnvOk (m22E k) := envOk_of (l := [(19, m19sp), (29, m29sp)]) progNames progMixed rfl (.cons ⟨m19con k, Try.f19, by kernel_rfl, by kernel_rfl⟩ (.cons ⟨m29con k, Try.f29, by kernel_rfl, by kernel_rfl⟩ (.nil)))

theorem m22con (k : Nat) : Contract Try.prog k 22 m22sp := contract_of (E := m22E k) (m22ok k) (A := only 22 m22A) (d := 3) (c := m22c []) (by kernel_rfl) (by kernel_rfl) fun a _ h => (m22q k a).trans h

noncomputable def m23A : Anns := tabA [(15, { keep := [8, 40, 41, 42] }), (22, { keep := [8] })]
noncomputable def m23E (k : Nat) : Env := { P := Try.prog, k := k, G := tabG [] }
noncomputable def m23c (p : List Bool) : Code := sub p (bodyOf Try.f23)
noncomputable def m23I (k : Nat) : Inl (Int × Int) := inlOf (m23E k) (only 23 m23A) 3
noncomputable def m23K0 (M : Cut (Int × Int)) (k : Nat) : Exit → St → Option (Int × Int) := seqK (normAt 0 m23A false (m23c [true])) (cutK M m23A (m23c [true]) fun s => evC (m23E k) M (m23I k) 0 m23A (m23c [true]) s (retK Try.prog Try.f23 [.leaf (.val (.int .i64)), .leaf (.val (.int .i64))])) (retK Try.prog Try.f23 [.leaf (.val (.int .i64)), .leaf (.val (.int .i64))])
noncomputable def m23K1 (M : Cut (Int × Int)) (k : Nat) : Exit → St → Option (Int × Int) := seqK (normAt 0 m23A false (m23c [true, true])) (cutK M m23A (m23c [true, true]) fun s => evC (m23E k) M (m23I k) 0 m23A (m23c [true, true]) s (retK Try.prog Try.f23 [.leaf (.val (.int .i64)), .leaf (.val (.int .i64))])) (retK Try.prog Try.f23 [.leaf (.val (.int .i64)), .leaf (.val (.int .i64))])
noncomputable def m23K2 (M : Cut (Int × Int)) (k : Nat) : Exit → St → Option (Int × Int) := blockK 0 (m23K1 M k)
noncomputable def m23K3 (M : Cut (Int × Int)) (k : Nat) : Exit → St → Option (Int × Int) := seqK (normAt 0 m23A false (m23c [true, false, true, true])) (cutK M m23A (m23c [true, false, true, true]) fun s => evC (m23E k) M (m23I k) 0 m23A (m23c [true, false, true, true]) s (m23K2 M k)) (m23K2 M k)
noncomputable def m23K4 (M : Cut (Int × Int)) (k : Nat) : Exit → St → Option (Int × Int) := seqK (normAt 0 m23A false (m23c [true, false, true, true, false, true])) (cutK M m23A (m23c [true, false, true, true, false, true]) fun s => evC (m23E k) M (m23I k) 0 m23A (m23c [true, false, true, true, false, true]) s (m23K2 M k)) (m23K2 M k)
noncomputable def m23K5 (M : Cut (Int × Int)) (k : Nat) : Exit → St → Option (Int × Int) := seqK (normAt 0 m23A false (m23c [true, false, true, true, true, true])) (cutK M m23A (m23c [true, false, true, true, true, true]) fun s => evC (m23E k) M (m23I k) 0 m23A (m23c [true, false, true, true, true, true]) s (m23K2 M k)) (m23K2 M k)
noncomputable def m23K6 (M : Cut (Int × Int)) (k : Nat) : Exit → St → Option (Int × Int) := seqK (normAt 0 m23A false (m23c [true, false, true, true, true, true, false, true])) (cutK M m23A (m23c [true, false, true, true, true, true, false, true]) fun s => evC (m23E k) M (m23I k) 0 m23A (m23c [true, false, true, true, true, true, false, true]) s (m23K2 M k)) (m23K2 M k)
noncomputable def m23K7 (M : Cut (Int × Int)) (k : Nat) : Exit → St → Option (Int × Int) := seqK (normAt 0 m23A false (m23c [true, true, true])) (cutK M m23A (m23c [true, true, true]) fun s => evC (m23E k) M (m23I k) 0 m23A (m23c [true, true, true]) s (retK Try.prog Try.f23 [.leaf (.val (.int .i64)), .leaf (.val (.int .i64))])) (retK Try.prog Try.f23 [.leaf (.val (.int .i64)), .leaf (.val (.int .i64))])
noncomputable def m23K8 (M : Cut (Int × Int)) (k : Nat) : Exit → St → Option (Int × Int) := seqK (normAt 0 m23A false (m23c [true, true, true, true])) (cutK M m23A (m23c [true, true, true, true]) fun s => evC (m23E k) M (m23I k) 0 m23A (m23c [true, true, true, true]) s (retK Try.prog Try.f23 [.leaf (.val (.int .i64)), .leaf (.val (.int .i64))])) (retK Try.prog Try.f23 [.leaf (.val (.int .i64)), .leaf (.val (.int .i64))])
noncomputable def m23K9 (M : Cut (Int × Int)) (k : Nat) : Exit → St → Option (Int × Int) := seqK (normAt 0 m23A false (m23c [true, true, true, false, true])) (cutK M m23A (m23c [true, true, true, false, true]) fun s => evC (m23E k) M (m23I k) 0 m23A (m23c [true, true, true, false, true]) s (m23K8 M k)) (m23K8 M k)
noncomputable def m23K10 (M : Cut (Int × Int)) (k : Nat) : Exit → St → Option (Int × Int) := blockK 1 (m23K8 M k)
noncomputable def m23K11 (M : Cut (Int × Int)) (k : Nat) (L15 : St → Option (Int × Int)) : Exit → St → Option (Int × Int) := seqK (normAt 0 m23A true (m23c [true, true, true, false, true, true, true])) L15 (m23K10 M k)
noncomputable def m23K12 (M : Cut (Int × Int)) (k : Nat) (L15 : St → Option (Int × Int)) : Exit → St → Option (Int × Int) := seqK (normAt 0 m23A false (m23c [true, true, true, false, true, true, true, true])) (cutK M m23A (m23c [true, true, true, false, true, true, true, true]) fun s => evC (m23E k) M (m23I k) 0 m23A (m23c [true, true, true, false, true, true, true, true]) s (m23K11 M k L15)) (m23K11 M k L15)
noncomputable def m23K13 (M : Cut (Int × Int)) (k : Nat) (L15 : St → Option (Int × Int)) : Exit → St → Option (Int × Int) := seqK (normAt 0 m23A false (m23c [true, true, true, false, true, true, true, true, true])) (cutK M m23A (m23c [true, true, true, false, true, true, true, true, true]) fun s => evC (m23E k) M (m23I k) 0 m23A (m23c [true, true, true, false, true, true, true, true, true]) s (m23K11 M k L15)) (m23K11 M k L15)
noncomputable def m23K14 (M : Cut (Int × Int)) (k : Nat) (L15 : St → Option (Int × Int)) : Exit → St → Option (Int × Int) := seqK (normAt 0 m23A false (m23c [true, true, true, false, true, true, true, true, true, true])) (cutK M m23A (m23c [true, true, true, false, true, true, true, true, true, true]) fun s => evC (m23E k) M (m23I k) 0 m23A (m23c [true, true, true, false, true, true, true, true, true, true]) s (m23K11 M k L15)) (m23K11 M k L15)
noncomputable def m23K15 (M : Cut (Int × Int)) (k : Nat) (L15 : St → Option (Int × Int)) : Exit → St → Option (Int × Int) := blockK 2 (m23K14 M k L15)
noncomputable def m23K16 (M : Cut (Int × Int)) (k : Nat) (L15 : St → Option (Int × Int)) : Exit → St → Option (Int × Int) := seqK (normAt 0 m23A false (m23c [true, true, true, false, true, true, true, true, true, false, true, true])) (cutK M m23A (m23c [true, true, true, false, true, true, true, true, true, false, true, true]) fun s => evC (m23E k) M (m23I k) 0 m23A (m23c [true, true, true, false, true, true, true, true, true, false, true, true]) s (m23K15 M k L15)) (m23K15 M k L15)
noncomputable def m23K17 (M : Cut (Int × Int)) (k : Nat) : Exit → St → Option (Int × Int) := seqK (normAt 0 m23A false (m23c [true, true, true, true, true])) (cutK M m23A (m23c [true, true, true, true, true]) fun s => evC (m23E k) M (m23I k) 0 m23A (m23c [true, true, true, true, true]) s (retK Try.prog Try.f23 [.leaf (.val (.int .i64)), .leaf (.val (.int .i64))])) (retK Try.prog Try.f23 [.leaf (.val (.int .i64)), .leaf (.val (.int .i64))])
noncomputable def m23S15 (t8 : Int) (t40 : List Int) (t41 : Int) (t42 : Int) : St := { n := 53, tm := slots [(8, .int .i64 t8), (40, .row (.int .u8) t40), (41, .int .i64 t41), (42, .int .i64 t42)], tab := blks [], nx := 0 }
noncomputable def m23S22 (t8 : Int) : St := { n := 53, tm := slots [(8, .int .i64 t8)], tab := blks [], nx := 0 }

noncomputable def m23X (X15 : Int → List Int → Int → Int → Option (Int × Int)) (k : Nat) (p0 : (List Int)) (p1 : Int) (p2 : Int) : Option (Int × Int) := (if ltI p2 1 = true then some ((0, 1)) else (if ltI 4 p2 = true then some ((0, 1)) else (if ltI p1 0 = true then some ((0, 1)) else (if ltI (↑(List.length p0) : Int) p1 = true then some ((0, 1)) else (if ltI (wr IntKind.i64 ((↑(List.length p0) : Int) - p1)) p2 = true then some ((0, 3)) else (if leI 0 (wr IntKind.i64 (p1 + p2)) = true then (if leI (wr IntKind.i64 (p1 + p2)) (↑(List.length p0) : Int) = true then (if leI 0 p1 = true then (if leI p1 (wr IntKind.i64 (p1 + p2)) = true then X15 (0) (List.drop (Int.toNat p1) (List.take (Int.toNat (wr IntKind.i64 (p1 + p2))) p0)) ((↑(List.length (List.drop (Int.toNat p1) (List.take (Int.toNat (wr IntKind.i64 (p1 + p2))) p0))) : Int)) (0) else none) else none) else none) else none))))))

theorem m23x (M : Cut (Int × Int)) (k : Nat) (p0 : (List Int)) (p1 : Int) (p2 : Int) : evC (m23E k) M (m23I k) 0 m23A (m23c []) (stAt Try.f23 (argSs [.leaf (.val (.row (.int .u8))), .leaf (.val (.int .i64)), .leaf (.val (.int .i64))] (p0, p1, p2)) (fun _ => none) 0) (retK Try.prog Try.f23 [.leaf (.val (.int .i64)), .leaf (.val (.int .i64))]) = m23X (fun t8' t40' t41' t42' => loopN (normAt 0 m23A true (m23c [true, true, true, false, true, true, true])) (fun K s => evC (m23E k) M (m23I k) 0 m23A (m23c [true, true, true, false, true, true, true]) s K) (m23K10 M k) k (m23S15 t8' t40' t41' t42')) k p0 p1 p2 := by kernel_rfl

noncomputable def m23X15 (X22 : Int → Option (Int × Int)) (L15 : Int → List Int → Int → Int → Option (Int × Int)) (k : Nat) (t8 : Int) (t40 : List Int) (t41 : Int) (t42 : Int) : Option (Int × Int) := (if ltI t42 t41 = true then (if leI 0 t42 = true then (if ltI t42 (↑(List.length t40) : Int) = true then (if leI 0 8 = true then L15 (bits BinOp.or IntKind.i64 (wr IntKind.i64 (t8 * 256)) (wr IntKind.i64 (List.getD t40 (Int.toNat t42) 0))) t40 t41 (wr IntKind.i64 (t42 + 1)) else none) else none) else none) else X22 t8)

theorem m23x15 (M : Cut (Int × Int)) (k : Nat) (L15 : St → Option (Int × Int)) (t8 : Int) (t40 : List Int) (t41 : Int) (t42 : Int) : evC (m23E k) M (m23I k) 0 m23A (m23c [true, true, true, false, true, true, true]) (m23S15 t8 t40 t41 t42) (seqK (normAt 0 m23A true (m23c [true, true, true, false, true, true, true])) L15 (m23K10 M k)) = m23X15 (fun t8' => M 22 (fun s => evC (m23E k) M (m23I k) 0 m23A (m23c [true, true, true, true]) s (retK Try.prog Try.f23 [.leaf (.val (.int .i64)), .leaf (.val (.int .i64))])) (m23S22 t8')) (fun t8' t40' t41' t42' => L15 (m23S15 t8' t40' t41' t42')) k t8 t40 t41 t42 := by kernel_rfl

noncomputable def m23X22 (k : Nat) (t8 : Int) : Option (Int × Int) := some ((t8, 0))

theorem m23x22 (M : Cut (Int × Int)) (k : Nat) (t8 : Int) : evC (m23E k) M (m23I k) 0 m23A (m23c [true, true, true, true]) (m23S22 t8) (retK Try.prog Try.f23 [.leaf (.val (.int .i64)), .leaf (.val (.int .i64))]) = m23X22 k t8 := by kernel_rfl

noncomputable def m23F22 (k : Nat) (t8 : Int) : Option (Int × Int) := m23X22 k t8

theorem m23q22 (k : Nat) (t8 : Int) : evC (m23E k) (fun _ f => f) (m23I k) 0 m23A (m23c [true, true, true, true]) (m23S22 t8) (retK Try.prog Try.f23 [.leaf (.val (.int .i64)), .leaf (.val (.int .i64))]) = m23F22 k t8 := by
    show _ = m23X22 k t8
    exact m23x22 (fun _ f => f) k t8

noncomputable def m23F15 (k : Nat) : Nat → Int → List Int → Int → Int → Option (Int × Int)
  | 0, _, _, _, _ => none
  | j + 1, t8, t40, t41, t42 => m23X15 (m23F22 k) (m23F15 k j) k t8 t40 t41 t42

theorem m23q15 (k : Nat) : ∀ (j : Nat) (t8 : Int) (t40 : List Int) (t41 : Int) (t42 : Int), loopN (normAt 0 m23A true (m23c [true, true, true, false, true, true, true])) (fun K s => evC (m23E k) (fun _ f => f) (m23I k) 0 m23A (m23c [true, true, true, false, true, true, true]) s K) (m23K10 (fun _ f => f) k) j (m23S15 t8 t40 t41 t42) = m23F15 k j t8 t40 t41 t42
  | 0, _, _, _, _ => rfl
  | j + 1, t8, t40, t41, t42 => by
    have e0 : m23F15 k j = (fun t8' t40' t41' t42' => loopN (normAt 0 m23A true (m23c [true, true, true, false, true, true, true])) (fun K s => evC (m23E k) (fun _ f => f) (m23I k) 0 m23A (m23c [true, true, true, false, true, true, true]) s K) (m23K10 (fun _ f => f) k) j (m23S15 t8' t40' t41' t42')) := funext fun t8' => funext fun t40' => funext fun t41' => funext fun t42' => (m23q15 k j t8' t40' t41' t42').symm
    have e22 : m23F22 k = (fun t8' => evC (m23E k) (fun _ f => f) (m23I k) 0 m23A (m23c [true, true, true, true]) (m23S22 t8') (retK Try.prog Try.f23 [.leaf (.val (.int .i64)), .leaf (.val (.int .i64))])) := funext fun t8' => (m23q22 k t8').symm
    show _ = m23X15 (m23F22 k) (m23F15 k j) k t8 t40 t41 t42
    rw [e0, e22]
    exact m23x15 (fun _ f => f) k (loopN (normAt 0 m23A true (m23c [true, true, true, false, true, true, true])) (fun K s => evC (m23E k) (fun _ f => f) (m23I k) 0 m23A (m23c [true, true, true, false, true, true, true]) s K) (m23K10 (fun _ f => f) k) j) t8 t40 t41 t42

noncomputable def m23F (k : Nat) (p0 : (List Int)) (p1 : Int) (p2 : Int) : Option (Int × Int) := m23X (m23F15 k k) k p0 p1 p2

theorem m23q (k : Nat) (p0 : (List Int)) (p1 : Int) (p2 : Int) : evC (m23E k) (fun _ f => f) (m23I k) 0 m23A (m23c []) (stAt Try.f23 (argSs [.leaf (.val (.row (.int .u8))), .leaf (.val (.int .i64)), .leaf (.val (.int .i64))] (p0, p1, p2)) (fun _ => none) 0) (retK Try.prog Try.f23 [.leaf (.val (.int .i64)), .leaf (.val (.int .i64))]) = m23F k p0 p1 p2 := by
    have e15 : m23F15 k k = (fun t8' t40' t41' t42' => loopN (normAt 0 m23A true (m23c [true, true, true, false, true, true, true])) (fun K s => evC (m23E k) (fun _ f => f) (m23I k) 0 m23A (m23c [true, true, true, false, true, true, true]) s K) (m23K10 (fun _ f => f) k) k (m23S15 t8' t40' t41' t42')) := funext fun t8' => funext fun t40' => funext fun t41' => funext fun t42' => (m23q15 k k t8' t40' t41' t42').symm
    show _ = m23X (m23F15 k k) k p0 p1 p2
    rw [e15]
    exact m23x (fun _ f => f) k p0 p1 p2

noncomputable def m23sp : Spec := { ps := [.leaf (.val (.row (.int .u8))), .leaf (.val (.int .i64)), .leaf (.val (.int .i64))], rs := [.leaf (.val (.int .i64)), .leaf (.val (.int .i64))], f := fun k a => m23F k a.1 a.2.1 a.2.2 }

theorem m23ok (k : Nat) : EnvOk (m23E k) := envOk_of (l := []) progNames progMixed rfl (.nil)

theorem m23con (k : Nat) : Contract Try.prog k 23 m23sp := contract_of (E := m23E k) (m23ok k) (A := only 23 m23A) (d := 3) (c := m23c []) (by kernel_rfl) (by kernel_rfl) fun a _ h => (m23q k a.1 a.2.1 a.2.2).trans h

noncomputable def m14A : Anns := tabA []
noncomputable def m14E (k : Nat) : Env := { P := Try.prog, k := k, G := tabG [(22, m22sp), (23, m23sp)] }
noncomputable def m14c (p : List Bool) : Code := sub p (bodyOf Try.f14)
noncomputable def m14I (k : Nat) : Inl ((Int × Int) × Int) := inlOf (m14E k) (only 14 m14A) 3
noncomputable def m14K0 (M : Cut ((Int × Int) × Int)) (k : Nat) : Exit → St → Option ((Int × Int) × Int) := seqK (normAt 0 m14A false (m14c [true])) (cutK M m14A (m14c [true]) fun s => evC (m14E k) M (m14I k) 0 m14A (m14c [true]) s (retK Try.prog Try.f14 [.st (.pair (.int .i64) (.int .u32)), .leaf (.val (.int .i64))])) (retK Try.prog Try.f14 [.st (.pair (.int .i64) (.int .u32)), .leaf (.val (.int .i64))])
noncomputable def m14K1 (M : Cut ((Int × Int) × Int)) (k : Nat) : Exit → St → Option ((Int × Int) × Int) := seqK (normAt 0 m14A false (m14c [true, true])) (cutK M m14A (m14c [true, true]) fun s => evC (m14E k) M (m14I k) 0 m14A (m14c [true, true]) s (retK Try.prog Try.f14 [.st (.pair (.int .i64) (.int .u32)), .leaf (.val (.int .i64))])) (retK Try.prog Try.f14 [.st (.pair (.int .i64) (.int .u32)), .leaf (.val (.int .i64))])
noncomputable def m14K2 (M : Cut ((Int × Int) × Int)) (k : Nat) : Exit → St → Option ((Int × Int) × Int) := blockK 0 (m14K1 M k)
noncomputable def m14K3 (M : Cut ((Int × Int) × Int)) (k : Nat) : Exit → St → Option ((Int × Int) × Int) := seqK (normAt 0 m14A false (m14c [true, false, true, true])) (cutK M m14A (m14c [true, false, true, true]) fun s => evC (m14E k) M (m14I k) 0 m14A (m14c [true, false, true, true]) s (m14K2 M k)) (m14K2 M k)
noncomputable def m14K4 (M : Cut ((Int × Int) × Int)) (k : Nat) : Exit → St → Option ((Int × Int) × Int) := seqK (normAt 0 m14A false (m14c [true, false, true, true, false, true])) (cutK M m14A (m14c [true, false, true, true, false, true]) fun s => evC (m14E k) M (m14I k) 0 m14A (m14c [true, false, true, true, false, true]) s (m14K2 M k)) (m14K2 M k)
noncomputable def m14K5 (M : Cut ((Int × Int) × Int)) (k : Nat) : Exit → St → Option ((Int × Int) × Int) := seqK (normAt 0 m14A false (m14c [true, false, true, true, true, true])) (cutK M m14A (m14c [true, false, true, true, true, true]) fun s => evC (m14E k) M (m14I k) 0 m14A (m14c [true, false, true, true, true, true]) s (m14K2 M k)) (m14K2 M k)
noncomputable def m14K6 (M : Cut ((Int × Int) × Int)) (k : Nat) : Exit → St → Option ((Int × Int) × Int) := seqK (normAt 0 m14A false (m14c [true, false, true, true, true, true, false, true])) (cutK M m14A (m14c [true, false, true, true, true, true, false, true]) fun s => evC (m14E k) M (m14I k) 0 m14A (m14c [true, false, true, true, true, true, false, true]) s (m14K2 M k)) (m14K2 M k)
noncomputable def m14K7 (M : Cut ((Int × Int) × Int)) (k : Nat) : Exit → St → Option ((Int × Int) × Int) := seqK (normAt 0 m14A false (m14c [true, true, true])) (cutK M m14A (m14c [true, true, true]) fun s => evC (m14E k) M (m14I k) 0 m14A (m14c [true, true, true]) s (retK Try.prog Try.f14 [.st (.pair (.int .i64) (.int .u32)), .leaf (.val (.int .i64))])) (retK Try.prog Try.f14 [.st (.pair (.int .i64) (.int .u32)), .leaf (.val (.int .i64))])
noncomputable def m14K8 (M : Cut ((Int × Int) × Int)) (k : Nat) : Exit → St → Option ((Int × Int) × Int) := seqK (normAt 0 m14A false (m14c [true, true, true, true])) (cutK M m14A (m14c [true, true, true, true]) fun s => evC (m14E k) M (m14I k) 0 m14A (m14c [true, true, true, true]) s (retK Try.prog Try.f14 [.st (.pair (.int .i64) (.int .u32)), .leaf (.val (.int .i64))])) (retK Try.prog Try.f14 [.st (.pair (.int .i64) (.int .u32)), .leaf (.val (.int .i64))])
noncomputable def m14K9 (M : Cut ((Int × Int) × Int)) (k : Nat) : Exit → St → Option ((Int × Int) × Int) := seqK (normAt 0 m14A false (m14c [true, true, true, false, true])) (cutK M m14A (m14c [true, true, true, false, true]) fun s => evC (m14E k) M (m14I k) 0 m14A (m14c [true, true, true, false, true]) s (m14K8 M k)) (m14K8 M k)
noncomputable def m14K10 (M : Cut ((Int × Int) × Int)) (k : Nat) : Exit → St → Option ((Int × Int) × Int) := seqK (normAt 0 m14A false (m14c [true, true, true, false, true, false, true])) (cutK M m14A (m14c [true, true, true, false, true, false, true]) fun s => evC (m14E k) M (m14I k) 0 m14A (m14c [true, true, true, false, true, false, true]) s (m14K8 M k)) (m14K8 M k)
noncomputable def m14K11 (M : Cut ((Int × Int) × Int)) (k : Nat) : Exit → St → Option ((Int × Int) × Int) := seqK (normAt 0 m14A false (m14c [true, true, true, true, true])) (cutK M m14A (m14c [true, true, true, true, true]) fun s => evC (m14E k) M (m14I k) 0 m14A (m14c [true, true, true, true, true]) s (retK Try.prog Try.f14 [.st (.pair (.int .i64) (.int .u32)), .leaf (.val (.int .i64))])) (retK Try.prog Try.f14 [.st (.pair (.int .i64) (.int .u32)), .leaf (.val (.int .i64))])
noncomputable def m14K12 (M : Cut ((Int × Int) × Int)) (k : Nat) : Exit → St → Option ((Int × Int) × Int) := seqK (normAt 0 m14A false (m14c [true, true, true, true, true, true])) (cutK M m14A (m14c [true, true, true, true, true, true]) fun s => evC (m14E k) M (m14I k) 0 m14A (m14c [true, true, true, true, true, true]) s (retK Try.prog Try.f14 [.st (.pair (.int .i64) (.int .u32)), .leaf (.val (.int .i64))])) (retK Try.prog Try.f14 [.st (.pair (.int .i64) (.int .u32)), .leaf (.val (.int .i64))])
noncomputable def m14K13 (M : Cut ((Int × Int) × Int)) (k : Nat) : Exit → St → Option ((Int × Int) × Int) := seqK (normAt 0 m14A false (m14c [true, true, true, true, true, true, true])) (cutK M m14A (m14c [true, true, true, true, true, true, true]) fun s => evC (m14E k) M (m14I k) 0 m14A (m14c [true, true, true, true, true, true, true]) s (retK Try.prog Try.f14 [.st (.pair (.int .i64) (.int .u32)), .leaf (.val (.int .i64))])) (retK Try.prog Try.f14 [.st (.pair (.int .i64) (.int .u32)), .leaf (.val (.int .i64))])
noncomputable def m14K14 (M : Cut ((Int × Int) × Int)) (k : Nat) : Exit → St → Option ((Int × Int) × Int) := seqK (normAt 0 m14A false (m14c [true, true, true, true, true, true, false, true])) (cutK M m14A (m14c [true, true, true, true, true, true, false, true]) fun s => evC (m14E k) M (m14I k) 0 m14A (m14c [true, true, true, true, true, true, false, true]) s (m14K13 M k)) (m14K13 M k)
noncomputable def m14K15 (M : Cut ((Int × Int) × Int)) (k : Nat) : Exit → St → Option ((Int × Int) × Int) := seqK (normAt 0 m14A false (m14c [true, true, true, true, true, true, false, true, false, true])) (cutK M m14A (m14c [true, true, true, true, true, true, false, true, false, true]) fun s => evC (m14E k) M (m14I k) 0 m14A (m14c [true, true, true, true, true, true, false, true, false, true]) s (m14K13 M k)) (m14K13 M k)
noncomputable def m14K16 (M : Cut ((Int × Int) × Int)) (k : Nat) : Exit → St → Option ((Int × Int) × Int) := seqK (normAt 0 m14A false (m14c [true, true, true, true, true, true, true, true])) (cutK M m14A (m14c [true, true, true, true, true, true, true, true]) fun s => evC (m14E k) M (m14I k) 0 m14A (m14c [true, true, true, true, true, true, true, true]) s (retK Try.prog Try.f14 [.st (.pair (.int .i64) (.int .u32)), .leaf (.val (.int .i64))])) (retK Try.prog Try.f14 [.st (.pair (.int .i64) (.int .u32)), .leaf (.val (.int .i64))])

noncomputable def m14X (k : Nat) (p0 : (List Int)) : Option ((Int × Int) × Int) := (if (!eqI (↑(List.length p0) : Int) 13) = true then some (((0, 0), 2)) else (if leI 0 0 = true then (if ltI 0 (↑(List.length p0) : Int) = true then (if (!eqI (List.getD p0 0 0) 65) = true then some (((0, 0), 12)) else (Option.bind (m22F k p0) fun (c3 : (Bool × Int)) => (if (!eqI (Prod.snd c3) 0) = true then some (((0, 0), 4)) else (if (!Prod.fst c3) = true then some (((0, 0), 4)) else (Option.bind (m23F k p0 1 4) fun (c4 : (Int × Int)) => (Option.bind (m23F k p0 5 4) fun (c5 : (Int × Int)) => (if ltI 1073741824 (Prod.fst c4) = true then some (((0, 0), 1)) else some (((Prod.fst c4, wr IntKind.u32 (Prod.fst c5)), 0))))))))) else none) else none))

theorem m14x (M : Cut ((Int × Int) × Int)) (k : Nat) (p0 : (List Int)) : evC (m14E k) M (m14I k) 0 m14A (m14c []) (stAt Try.f14 (argSs [.leaf (.val (.row (.int .u8)))] p0) (fun _ => none) 0) (retK Try.prog Try.f14 [.st (.pair (.int .i64) (.int .u32)), .leaf (.val (.int .i64))]) = m14X k p0 := by kernel_rfl

noncomputable def m14F (k : Nat) (p0 : (List Int)) : Option ((Int × Int) × Int) := m14X k p0

theorem m14q (k : Nat) (p0 : (List Int)) : evC (m14E k) (fun _ f => f) (m14I k) 0 m14A (m14c []) (stAt Try.f14 (argSs [.leaf (.val (.row (.int .u8)))] p0) (fun _ => none) 0) (retK Try.prog Try.f14 [.st (.pair (.int .i64) (.int .u32)), .leaf (.val (.int .i64))]) = m14F k p0 := by
    show _ = m14X k p0
    exact m14x (fun _ f => f) k p0

noncomputable def m14sp : Spec := { ps := [.leaf (.val (.row (.int .u8)))], rs := [.st (.pair (.int .i64) (.int .u32)), .leaf (.val (.int .i64))], f := fun k a => m14F k a }

theorem m14ok (k : Nat) : EnvOk (m14E k) := envOk_of (l := [(22, m22sp), (23, m23sp)]) progNames progMixed rfl (.cons ⟨m22con k, Try.f22, by kernel_rfl, by kernel_rfl⟩ (.cons ⟨m23con k, Try.f23, by kernel_rfl, by kernel_rfl⟩ (.nil)))

theorem m14con (k : Nat) : Contract Try.prog k 14 m14sp := contract_of (E := m14E k) (m14ok k) (A := only 14 m14A) (d := 3) (c := m14c []) (by kernel_rfl) (by kernel_rfl) fun a _ h => (m14q k a).trans h

noncomputable def m11A : Anns := tabA []
noncomputable def m11E (k : Nat) : Env := { P := Try.prog, k := k, G := tabG [(8, m8sp), (9, m9sp), (14, m14sp)] }
noncomputable def m11c (p : List Bool) : Code := sub p (bodyOf Try.f11)
noncomputable def m11I (k : Nat) : Inl Bool := inlOf (m11E k) (only 11 m11A) 3
noncomputable def m11K0 (M : Cut Bool) (k : Nat) : Exit → St → Option Bool := seqK (normAt 0 m11A false (m11c [true])) (cutK M m11A (m11c [true]) fun s => evC (m11E k) M (m11I k) 0 m11A (m11c [true]) s (retK Try.prog Try.f11 [.leaf (.val .bool)])) (retK Try.prog Try.f11 [.leaf (.val .bool)])
noncomputable def m11K1 (M : Cut Bool) (k : Nat) : Exit → St → Option Bool := seqK (normAt 0 m11A false (m11c [true, true])) (cutK M m11A (m11c [true, true]) fun s => evC (m11E k) M (m11I k) 0 m11A (m11c [true, true]) s (retK Try.prog Try.f11 [.leaf (.val .bool)])) (retK Try.prog Try.f11 [.leaf (.val .bool)])
noncomputable def m11K2 (M : Cut Bool) (k : Nat) : Exit → St → Option Bool := seqK (normAt 0 m11A false (m11c [true, true, true])) (cutK M m11A (m11c [true, true, true]) fun s => evC (m11E k) M (m11I k) 0 m11A (m11c [true, true, true]) s (retK Try.prog Try.f11 [.leaf (.val .bool)])) (retK Try.prog Try.f11 [.leaf (.val .bool)])
noncomputable def m11K3 (M : Cut Bool) (k : Nat) : Exit → St → Option Bool := seqK (normAt 0 m11A false (m11c [true, true, true, true])) (cutK M m11A (m11c [true, true, true, true]) fun s => evC (m11E k) M (m11I k) 0 m11A (m11c [true, true, true, true]) s (retK Try.prog Try.f11 [.leaf (.val .bool)])) (retK Try.prog Try.f11 [.leaf (.val .bool)])

noncomputable def m11X (k : Nat) : Option Bool := (Option.bind (m8F k (5, 2)) fun (c2 : ((List Int) × Int)) => (Option.bind (m14F k (Prod.fst c2)) fun (c3 : ((Int × Int) × Int)) => (if eqI (Prod.snd c2) 0 = true then (if eqI (Prod.snd c3) 0 = true then (if eqI (↑(List.length (Prod.fst c2)) : Int) 13 = true then (Option.bind (m9F k (Prod.fst (Prod.fst c3), Prod.snd (Prod.fst c3)) 4) fun (c4 : Bool) => (if c4 = true then (Option.bind (m9F k (Prod.fst (Prod.fst c3), Prod.snd (Prod.fst c3)) 5) fun (c5 : Bool) => (if (!c5) = true then (Option.bind (m9F k (Prod.fst (Prod.fst c3), Prod.snd (Prod.fst c3)) 6) fun (c6 : Bool) => some c6) else some (false))) else some (false))) else some (false)) else some (false)) else some (false))))

theorem m11x (M : Cut Bool) (k : Nat) : evC (m11E k) M (m11I k) 0 m11A (m11c []) (stAt Try.f11 (argSs [] ()) (fun _ => none) 0) (retK Try.prog Try.f11 [.leaf (.val .bool)]) = m11X k := by kernel_rfl

noncomputable def m11F (k : Nat) : Option Bool := m11X k

theorem m11q (k : Nat) : evC (m11E k) (fun _ f => f) (m11I k) 0 m11A (m11c []) (stAt Try.f11 (argSs [] ()) (fun _ => none) 0) (retK Try.prog Try.f11 [.leaf (.val .bool)]) = m11F k := by
    show _ = m11X k
    exact m11x (fun _ f => f) k

noncomputable def m11sp : Spec := { ps := [], rs := [.leaf (.val .bool)], f := fun k a => m11F k }

theorem m11ok (k : Nat) : EnvOk (m11E k) := envOk_of (l := [(8, m8sp), (9, m9sp), (14, m14sp)]) progNames progMixed rfl (.cons ⟨m8con k, Try.f8, by kernel_rfl, by kernel_rfl⟩ (.cons ⟨m9con k, Try.f9, by kernel_rfl, by kernel_rfl⟩ (.cons ⟨m14con k, Try.f14, by kernel_rfl, by kernel_rfl⟩ (.nil))))

theorem m11con (k : Nat) : Contract Try.prog k 11 m11sp := contract_of (E := m11E k) (m11ok k) (A := only 11 m11A) (d := 3) (c := m11c []) (by kernel_rfl) (by kernel_rfl) fun a _ h => (m11q k).trans h

noncomputable def m12A : Anns := tabA [(9, { keep := [0, 1, 5] })]
noncomputable def m12E (k : Nat) : Env := { P := Try.prog, k := k, G := tabG [] }
noncomputable def m12c (p : List Bool) : Code := sub p (bodyOf Try.f12)
noncomputable def m12I (k : Nat) : Inl Bool := inlOf (m12E k) (only 12 m12A) 3
noncomputable def m12K0 (M : Cut Bool) (k : Nat) : Exit → St → Option Bool := seqK (normAt 0 m12A false (m12c [true])) (cutK M m12A (m12c [true]) fun s => evC (m12E k) M (m12I k) 0 m12A (m12c [true]) s (retK Try.prog Try.f12 [.leaf (.val .bool)])) (retK Try.prog Try.f12 [.leaf (.val .bool)])
noncomputable def m12K1 (M : Cut Bool) (k : Nat) : Exit → St → Option Bool := seqK (normAt 0 m12A false (m12c [true, true])) (cutK M m12A (m12c [true, true]) fun s => evC (m12E k) M (m12I k) 0 m12A (m12c [true, true]) s (retK Try.prog Try.f12 [.leaf (.val .bool)])) (retK Try.prog Try.f12 [.leaf (.val .bool)])
noncomputable def m12K2 (M : Cut Bool) (k : Nat) : Exit → St → Option Bool := seqK (normAt 0 m12A false (m12c [true, false, true])) (cutK M m12A (m12c [true, false, true]) fun s => evC (m12E k) M (m12I k) 0 m12A (m12c [true, false, true]) s (m12K1 M k)) (m12K1 M k)
noncomputable def m12K3 (M : Cut Bool) (k : Nat) : Exit → St → Option Bool := seqK (normAt 0 m12A false (m12c [true, false, true, false, true])) (cutK M m12A (m12c [true, false, true, false, true]) fun s => evC (m12E k) M (m12I k) 0 m12A (m12c [true, false, true, false, true]) s (m12K1 M k)) (m12K1 M k)
noncomputable def m12K4 (M : Cut Bool) (k : Nat) : Exit → St → Option Bool := seqK (normAt 0 m12A false (m12c [true, true, true])) (cutK M m12A (m12c [true, true, true]) fun s => evC (m12E k) M (m12I k) 0 m12A (m12c [true, true, true]) s (retK Try.prog Try.f12 [.leaf (.val .bool)])) (retK Try.prog Try.f12 [.leaf (.val .bool)])
noncomputable def m12K5 (M : Cut Bool) (k : Nat) : Exit → St → Option Bool := seqK (normAt 0 m12A false (m12c [true, true, false, true])) (cutK M m12A (m12c [true, true, false, true]) fun s => evC (m12E k) M (m12I k) 0 m12A (m12c [true, true, false, true]) s (m12K4 M k)) (m12K4 M k)
noncomputable def m12K6 (M : Cut Bool) (k : Nat) : Exit → St → Option Bool := blockK 0 (m12K4 M k)
noncomputable def m12K7 (M : Cut Bool) (k : Nat) (L9 : St → Option Bool) : Exit → St → Option Bool := seqK (normAt 0 m12A true (m12c [true, true, false, true, true, true])) L9 (m12K6 M k)
noncomputable def m12K8 (M : Cut Bool) (k : Nat) (L9 : St → Option Bool) : Exit → St → Option Bool := seqK (normAt 0 m12A false (m12c [true, true, false, true, true, true, true])) (cutK M m12A (m12c [true, true, false, true, true, true, true]) fun s => evC (m12E k) M (m12I k) 0 m12A (m12c [true, true, false, true, true, true, true]) s (m12K7 M k L9)) (m12K7 M k L9)
noncomputable def m12K9 (M : Cut Bool) (k : Nat) (L9 : St → Option Bool) : Exit → St → Option Bool := seqK (normAt 0 m12A false (m12c [true, true, false, true, true, true, false, true])) (cutK M m12A (m12c [true, true, false, true, true, true, false, true]) fun s => evC (m12E k) M (m12I k) 0 m12A (m12c [true, true, false, true, true, true, false, true]) s (m12K8 M k L9)) (m12K8 M k L9)
noncomputable def m12K10 (M : Cut Bool) (k : Nat) (L9 : St → Option Bool) : Exit → St → Option Bool := seqK (normAt 0 m12A false (m12c [true, true, false, true, true, true, true, true])) (cutK M m12A (m12c [true, true, false, true, true, true, true, true]) fun s => evC (m12E k) M (m12I k) 0 m12A (m12c [true, true, false, true, true, true, true, true]) s (m12K7 M k L9)) (m12K7 M k L9)
noncomputable def m12K11 (M : Cut Bool) (k : Nat) (L9 : St → Option Bool) : Exit → St → Option Bool := blockK 1 (m12K10 M k L9)
noncomputable def m12K12 (M : Cut Bool) (k : Nat) (L9 : St → Option Bool) : Exit → St → Option Bool := seqK (normAt 0 m12A false (m12c [true, true, false, true, true, true, true, false, true, true])) (cutK M m12A (m12c [true, true, false, true, true, true, true, false, true, true]) fun s => evC (m12E k) M (m12I k) 0 m12A (m12c [true, true, false, true, true, true, true, false, true, true]) s (m12K11 M k L9)) (m12K11 M k L9)
noncomputable def m12K13 (M : Cut Bool) (k : Nat) (L9 : St → Option Bool) : Exit → St → Option Bool := seqK (normAt 0 m12A false (m12c [true, true, false, true, true, true, true, false, true, true, false, true])) (cutK M m12A (m12c [true, true, false, true, true, true, true, false, true, true, false, true]) fun s => evC (m12E k) M (m12I k) 0 m12A (m12c [true, true, false, true, true, true, true, false, true, true, false, true]) s (m12K11 M k L9)) (m12K11 M k L9)
noncomputable def m12K14 (M : Cut Bool) (k : Nat) : Exit → St → Option Bool := seqK (normAt 0 m12A false (m12c [true, true, true, true])) (cutK M m12A (m12c [true, true, true, true]) fun s => evC (m12E k) M (m12I k) 0 m12A (m12c [true, true, true, true]) s (retK Try.prog Try.f12 [.leaf (.val .bool)])) (retK Try.prog Try.f12 [.leaf (.val .bool)])
noncomputable def m12S9 (t0 : List Int) (t1 : List Int) (t5 : Int) : St := { n := 26, tm := slots [(0, .row (.int .u8) t0), (1, .row (.int .u8) t1), (5, .int .i64 t5)], tab := blks [], nx := 0 }

noncomputable def m12X (X9 : List Int → List Int → Int → Option Bool) (k : Nat) (p0 : (List Int)) (p1 : (List Int)) : Option Bool := (if (!eqI (↑(List.length p0) : Int) (↑(List.length p1) : Int)) = true then some (false) else X9 p0 p1 (0))

theorem m12x (M : Cut Bool) (k : Nat) (p0 : (List Int)) (p1 : (List Int)) : evC (m12E k) M (m12I k) 0 m12A (m12c []) (stAt Try.f12 (argSs [.leaf (.val (.row (.int .u8))), .leaf (.val (.row (.int .u8)))] (p0, p1)) (fun _ => none) 0) (retK Try.prog Try.f12 [.leaf (.val .bool)]) = m12X (fun t0' t1' t5' => loopN (normAt 0 m12A true (m12c [true, true, false, true, true, true])) (fun K s => evC (m12E k) M (m12I k) 0 m12A (m12c [true, true, false, true, true, true]) s K) (m12K6 M k) k (m12S9 t0' t1' t5')) k p0 p1 := by kernel_rfl

noncomputable def m12X9 (L9 : List Int → List Int → Int → Option Bool) (k : Nat) (t0 : List Int) (t1 : List Int) (t5 : Int) : Option Bool := (if ltI t5 (↑(List.length t0) : Int) = true then (if leI 0 t5 = true then (if ltI t5 (↑(List.length t0) : Int) = true then (if leI 0 t5 = true then (if ltI t5 (↑(List.length t1) : Int) = true then (if (!eqI (List.getD t0 (Int.toNat t5) 0) (List.getD t1 (Int.toNat t5) 0)) = true then some (false) else L9 t0 t1 (wr IntKind.i64 (t5 + 1))) else none) else none) else none) else none) else some (true))

theorem m12x9 (M : Cut Bool) (k : Nat) (L9 : St → Option Bool) (t0 : List Int) (t1 : List Int) (t5 : Int) : evC (m12E k) M (m12I k) 0 m12A (m12c [true, true, false, true, true, true]) (m12S9 t0 t1 t5) (seqK (normAt 0 m12A true (m12c [true, true, false, true, true, true])) L9 (m12K6 M k)) = m12X9 (fun t0' t1' t5' => L9 (m12S9 t0' t1' t5')) k t0 t1 t5 := by kernel_rfl

noncomputable def m12F9 (k : Nat) : Nat → List Int → List Int → Int → Option Bool
  | 0, _, _, _ => none
  | j + 1, t0, t1, t5 => m12X9 (m12F9 k j) k t0 t1 t5

theorem m12q9 (k : Nat) : ∀ (j : Nat) (t0 : List Int) (t1 : List Int) (t5 : Int), loopN (normAt 0 m12A true (m12c [true, true, false, true, true, true])) (fun K s => evC (m12E k) (fun _ f => f) (m12I k) 0 m12A (m12c [true, true, false, true, true, true]) s K) (m12K6 (fun _ f => f) k) j (m12S9 t0 t1 t5) = m12F9 k j t0 t1 t5
  | 0, _, _, _ => rfl
  | j + 1, t0, t1, t5 => by
    have e0 : m12F9 k j = (fun t0' t1' t5' => loopN (normAt 0 m12A true (m12c [true, true, false, true, true, true])) (fun K s => evC (m12E k) (fun _ f => f) (m12I k) 0 m12A (m12c [true, true, false, true, true, true]) s K) (m12K6 (fun _ f => f) k) j (m12S9 t0' t1' t5')) := funext fun t0' => funext fun t1' => funext fun t5' => (m12q9 k j t0' t1' t5').symm
    show _ = m12X9 (m12F9 k j) k t0 t1 t5
    rw [e0]
    exact m12x9 (fun _ f => f) k (loopN (normAt 0 m12A true (m12c [true, true, false, true, true, true])) (fun K s => evC (m12E k) (fun _ f => f) (m12I k) 0 m12A (m12c [true, true, false, true, true, true]) s K) (m12K6 (fun _ f => f) k) j) t0 t1 t5

noncomputable def m12F (k : Nat) (p0 : (List Int)) (p1 : (List Int)) : Option Bool := m12X (m12F9 k k) k p0 p1

theorem m12q (k : Nat) (p0 : (List Int)) (p1 : (List Int)) : evC (m12E k) (fun _ f => f) (m12I k) 0 m12A (m12c []) (stAt Try.f12 (argSs [.leaf (.val (.row (.int .u8))), .leaf (.val (.row (.int .u8)))] (p0, p1)) (fun _ => none) 0) (retK Try.prog Try.f12 [.leaf (.val .bool)]) = m12F k p0 p1 := by
    have e9 : m12F9 k k = (fun t0' t1' t5' => loopN (normAt 0 m12A true (m12c [true, true, false, true, true, true])) (fun K s => evC (m12E k) (fun _ f => f) (m12I k) 0 m12A (m12c [true, true, false, true, true, true]) s K) (m12K6 (fun _ f => f) k) k (m12S9 t0' t1' t5')) := funext fun t0' => funext fun t1' => funext fun t5' => (m12q9 k k t0' t1' t5').symm
    show _ = m12X (m12F9 k k) k p0 p1
    rw [e9]
    exact m12x (fun _ f => f) k p0 p1

noncomputable def m12sp : Spec := { ps := [.leaf (.val (.row (.int .u8))), .leaf (.val (.row (.int .u8)))], rs := [.leaf (.val .bool)], f := fun k a => m12F k a.1 a.2 }

theorem m12ok (k : Nat) : EnvOk (m12E k) := envOk_of (l := []) progNames progMixed rfl (.nil)

theorem m12con (k : Nat) : Contract Try.prog k 12 m12sp := contract_of (E := m12E k) (m12ok k) (A := only 12 m12A) (d := 3) (c := m12c []) (by kernel_rfl) (by kernel_rfl) fun a _ h => (m12q k a.1 a.2).trans h

noncomputable def m20A : Anns := tabA [(7, { keep := [0, 5, 6], mat := [(5, (.int .u8), 5)] })]
noncomputable def m20E (k : Nat) : Env := { P := Try.prog, k := k, G := tabG [] }
noncomputable def m20c (p : List Bool) : Code := sub p (bodyOf Try.f20)
noncomputable def m20I (k : Nat) : Inl (List Int) := inlOf (m20E k) (only 20 m20A) 3
noncomputable def m20K0 (M : Cut (List Int)) (k : Nat) : Exit → St → Option (List Int) := seqK (normAt 0 m20A false (m20c [true])) (cutK M m20A (m20c [true]) fun s => evC (m20E k) M (m20I k) 0 m20A (m20c [true]) s (retK Try.prog Try.f20 [.leaf (.own (.int .u8) 5)])) (retK Try.prog Try.f20 [.leaf (.own (.int .u8) 5)])
noncomputable def m20K1 (M : Cut (List Int)) (k : Nat) : Exit → St → Option (List Int) := seqK (normAt 0 m20A false (m20c [true, true])) (cutK M m20A (m20c [true, true]) fun s => evC (m20E k) M (m20I k) 0 m20A (m20c [true, true]) s (retK Try.prog Try.f20 [.leaf (.own (.int .u8) 5)])) (retK Try.prog Try.f20 [.leaf (.own (.int .u8) 5)])
noncomputable def m20K2 (M : Cut (List Int)) (k : Nat) : Exit → St → Option (List Int) := seqK (normAt 0 m20A false (m20c [true, true, true])) (cutK M m20A (m20c [true, true, true]) fun s => evC (m20E k) M (m20I k) 0 m20A (m20c [true, true, true]) s (retK Try.prog Try.f20 [.leaf (.own (.int .u8) 5)])) (retK Try.prog Try.f20 [.leaf (.own (.int .u8) 5)])
noncomputable def m20K3 (M : Cut (List Int)) (k : Nat) : Exit → St → Option (List Int) := seqK (normAt 0 m20A false (m20c [true, true, false, true])) (cutK M m20A (m20c [true, true, false, true]) fun s => evC (m20E k) M (m20I k) 0 m20A (m20c [true, true, false, true]) s (m20K2 M k)) (m20K2 M k)
noncomputable def m20K4 (M : Cut (List Int)) (k : Nat) : Exit → St → Option (List Int) := blockK 0 (m20K2 M k)
noncomputable def m20K5 (M : Cut (List Int)) (k : Nat) (L7 : St → Option (List Int)) : Exit → St → Option (List Int) := seqK (normAt 0 m20A true (m20c [true, true, false, true, true, true])) L7 (m20K4 M k)
noncomputable def m20K6 (M : Cut (List Int)) (k : Nat) (L7 : St → Option (List Int)) : Exit → St → Option (List Int) := seqK (normAt 0 m20A false (m20c [true, true, false, true, true, true, true])) (cutK M m20A (m20c [true, true, false, true, true, true, true]) fun s => evC (m20E k) M (m20I k) 0 m20A (m20c [true, true, false, true, true, true, true]) s (m20K5 M k L7)) (m20K5 M k L7)
noncomputable def m20K7 (M : Cut (List Int)) (k : Nat) (L7 : St → Option (List Int)) : Exit → St → Option (List Int) := seqK (normAt 0 m20A false (m20c [true, true, false, true, true, true, false, true])) (cutK M m20A (m20c [true, true, false, true, true, true, false, true]) fun s => evC (m20E k) M (m20I k) 0 m20A (m20c [true, true, false, true, true, true, false, true]) s (m20K6 M k L7)) (m20K6 M k L7)
noncomputable def m20K8 (M : Cut (List Int)) (k : Nat) (L7 : St → Option (List Int)) : Exit → St → Option (List Int) := seqK (normAt 0 m20A false (m20c [true, true, false, true, true, true, true, true])) (cutK M m20A (m20c [true, true, false, true, true, true, true, true]) fun s => evC (m20E k) M (m20I k) 0 m20A (m20c [true, true, false, true, true, true, true, true]) s (m20K5 M k L7)) (m20K5 M k L7)
noncomputable def m20K9 (M : Cut (List Int)) (k : Nat) (L7 : St → Option (List Int)) : Exit → St → Option (List Int) := blockK 1 (m20K8 M k L7)
noncomputable def m20K10 (M : Cut (List Int)) (k : Nat) : Exit → St → Option (List Int) := seqK (normAt 0 m20A false (m20c [true, true, true, true])) (cutK M m20A (m20c [true, true, true, true]) fun s => evC (m20E k) M (m20I k) 0 m20A (m20c [true, true, true, true]) s (retK Try.prog Try.f20 [.leaf (.own (.int .u8) 5)])) (retK Try.prog Try.f20 [.leaf (.own (.int .u8) 5)])
noncomputable def m20S7 (t0 : Int) (t6 : Int) (b0 : List Int) : St := { n := 23, tm := slots [(0, .int .i64 t0), (5, .own 0), (6, .int .i64 t6)], tab := blks [some (.row true (.int .u8) 5 b0)], nx := 1 }

noncomputable def m20X (X7 : Int → Int → List Int → Option (List Int)) (k : Nat) (p0 : Int) (p1 : Int) : Option (List Int) := X7 p0 (wr IntKind.i64 (p1 - 1)) ([])

theorem m20x (M : Cut (List Int)) (k : Nat) (p0 : Int) (p1 : Int) : evC (m20E k) M (m20I k) 0 m20A (m20c []) (stAt Try.f20 (argSs [.leaf (.val (.int .i64)), .leaf (.val (.int .i64))] (p0, p1)) (fun _ => none) 0) (retK Try.prog Try.f20 [.leaf (.own (.int .u8) 5)]) = m20X (fun t0' t6' b0' => loopN (normAt 0 m20A true (m20c [true, true, false, true, true, true])) (fun K s => evC (m20E k) M (m20I k) 0 m20A (m20c [true, true, false, true, true, true]) s K) (m20K4 M k) k (m20S7 t0' t6' b0')) k p0 p1 := by kernel_rfl

noncomputable def m20X7 (L7 : Int → Int → List Int → Option (List Int)) (k : Nat) (t0 : Int) (t6 : Int) (b0 : List Int) : Option (List Int) := (if leI 0 t6 = true then (if leI 0 (wr IntKind.u64 (wr IntKind.i64 (8 * t6))) = true then (if leI
    (↑((List.length b0 +
            List.length
              (List.set (List.replicate 1 0) 0
                (wr IntKind.u8 (t0 / p2 (min (Int.toNat (wr IntKind.u64 (wr IntKind.i64 (8 * t6)))) 64))))) *
          1) :
      Int)
    140737488355328 =
  true then L7 t0 (wr IntKind.i64 (t6 - 1)) (b0 ++
  List.set (List.replicate 1 0) 0
    (wr IntKind.u8 (t0 / p2 (min (Int.toNat (wr IntKind.u64 (wr IntKind.i64 (8 * t6)))) 64)))) else none) else none) else some b0)

theorem m20x7 (M : Cut (List Int)) (k : Nat) (L7 : St → Option (List Int)) (t0 : Int) (t6 : Int) (b0 : List Int) : evC (m20E k) M (m20I k) 0 m20A (m20c [true, true, false, true, true, true]) (m20S7 t0 t6 b0) (seqK (normAt 0 m20A true (m20c [true, true, false, true, true, true])) L7 (m20K4 M k)) = m20X7 (fun t0' t6' b0' => L7 (m20S7 t0' t6' b0')) k t0 t6 b0 := by kernel_rfl

noncomputable def m20F7 (k : Nat) : Nat → Int → Int → List Int → Option (List Int)
  | 0, _, _, _ => none
  | j + 1, t0, t6, b0 => m20X7 (m20F7 k j) k t0 t6 b0

theorem m20q7 (k : Nat) : ∀ (j : Nat) (t0 : Int) (t6 : Int) (b0 : List Int), loopN (normAt 0 m20A true (m20c [true, true, false, true, true, true])) (fun K s => evC (m20E k) (fun _ f => f) (m20I k) 0 m20A (m20c [true, true, false, true, true, true]) s K) (m20K4 (fun _ f => f) k) j (m20S7 t0 t6 b0) = m20F7 k j t0 t6 b0
  | 0, _, _, _ => rfl
  | j + 1, t0, t6, b0 => by
    have e0 : m20F7 k j = (fun t0' t6' b0' => loopN (normAt 0 m20A true (m20c [true, true, false, true, true, true])) (fun K s => evC (m20E k) (fun _ f => f) (m20I k) 0 m20A (m20c [true, true, false, true, true, true]) s K) (m20K4 (fun _ f => f) k) j (m20S7 t0' t6' b0')) := funext fun t0' => funext fun t6' => funext fun b0' => (m20q7 k j t0' t6' b0').symm
    show _ = m20X7 (m20F7 k j) k t0 t6 b0
    rw [e0]
    exact m20x7 (fun _ f => f) k (loopN (normAt 0 m20A true (m20c [true, true, false, true, true, true])) (fun K s => evC (m20E k) (fun _ f => f) (m20I k) 0 m20A (m20c [true, true, false, true, true, true]) s K) (m20K4 (fun _ f => f) k) j) t0 t6 b0

noncomputable def m20F (k : Nat) (p0 : Int) (p1 : Int) : Option (List Int) := m20X (m20F7 k k) k p0 p1

theorem m20q (k : Nat) (p0 : Int) (p1 : Int) : evC (m20E k) (fun _ f => f) (m20I k) 0 m20A (m20c []) (stAt Try.f20 (argSs [.leaf (.val (.int .i64)), .leaf (.val (.int .i64))] (p0, p1)) (fun _ => none) 0) (retK Try.prog Try.f20 [.leaf (.own (.int .u8) 5)]) = m20F k p0 p1 := by
    have e7 : m20F7 k k = (fun t0' t6' b0' => loopN (normAt 0 m20A true (m20c [true, true, false, true, true, true])) (fun K s => evC (m20E k) (fun _ f => f) (m20I k) 0 m20A (m20c [true, true, false, true, true, true]) s K) (m20K4 (fun _ f => f) k) k (m20S7 t0' t6' b0')) := funext fun t0' => funext fun t6' => funext fun b0' => (m20q7 k k t0' t6' b0').symm
    show _ = m20X (m20F7 k k) k p0 p1
    rw [e7]
    exact m20x (fun _ f => f) k p0 p1

noncomputable def m20sp : Spec := { ps := [.leaf (.val (.int .i64)), .leaf (.val (.int .i64))], rs := [.leaf (.own (.int .u8) 5)], f := fun k a => m20F k a.1 a.2 }

theorem m20ok (k : Nat) : EnvOk (m20E k) := envOk_of (l := []) progNames progMixed rfl (.nil)

theorem m20con (k : Nat) : Contract Try.prog k 20 m20sp := contract_of (E := m20E k) (m20ok k) (A := only 20 m20A) (d := 3) (c := m20c []) (by kernel_rfl) (by kernel_rfl) fun a _ h => (m20q k a.1 a.2).trans h

noncomputable def m16A : Anns := tabA []
noncomputable def m16E (k : Nat) : Env := { P := Try.prog, k := k, G := tabG [] }
noncomputable def m16c (p : List Bool) : Code := sub p (bodyOf Try.f16)
noncomputable def m16I (k : Nat) : Inl (List Int) := inlOf (m16E k) (only 16 m16A) 3
noncomputable def m16K0 (M : Cut (List Int)) (k : Nat) : Exit → St → Option (List Int) := seqK (normAt 0 m16A false (m16c [true])) (cutK M m16A (m16c [true]) fun s => evC (m16E k) M (m16I k) 0 m16A (m16c [true]) s (retK Try.prog Try.f16 [.leaf (.own (.int .u8) 5)])) (retK Try.prog Try.f16 [.leaf (.own (.int .u8) 5)])
noncomputable def m16K1 (M : Cut (List Int)) (k : Nat) : Exit → St → Option (List Int) := seqK (normAt 0 m16A false (m16c [true, true])) (cutK M m16A (m16c [true, true]) fun s => evC (m16E k) M (m16I k) 0 m16A (m16c [true, true]) s (retK Try.prog Try.f16 [.leaf (.own (.int .u8) 5)])) (retK Try.prog Try.f16 [.leaf (.own (.int .u8) 5)])
noncomputable def m16K2 (M : Cut (List Int)) (k : Nat) : Exit → St → Option (List Int) := seqK (normAt 0 m16A false (m16c [true, true, true])) (cutK M m16A (m16c [true, true, true]) fun s => evC (m16E k) M (m16I k) 0 m16A (m16c [true, true, true]) s (retK Try.prog Try.f16 [.leaf (.own (.int .u8) 5)])) (retK Try.prog Try.f16 [.leaf (.own (.int .u8) 5)])

noncomputable def m16X (k : Nat) (p0 : (List Int)) : Option (List Int) := (if leI (↑(List.length p0 * 1) : Int) 140737488355328 = true then some p0 else none)

theorem m16x (M : Cut (List Int)) (k : Nat) (p0 : (List Int)) : evC (m16E k) M (m16I k) 0 m16A (m16c []) (stAt Try.f16 (argSs [.leaf (.val (.row (.int .u8)))] p0) (fun _ => none) 0) (retK Try.prog Try.f16 [.leaf (.own (.int .u8) 5)]) = m16X k p0 := by kernel_rfl

noncomputable def m16F (k : Nat) (p0 : (List Int)) : Option (List Int) := m16X k p0

theorem m16q (k : Nat) (p0 : (List Int)) : evC (m16E k) (fun _ f => f) (m16I k) 0 m16A (m16c []) (stAt Try.f16 (argSs [.leaf (.val (.row (.int .u8)))] p0) (fun _ => none) 0) (retK Try.prog Try.f16 [.leaf (.own (.int .u8) 5)]) = m16F k p0 := by
    show _ = m16X k p0
    exact m16x (fun _ f => f) k p0

noncomputable def m16sp : Spec := { ps := [.leaf (.val (.row (.int .u8)))], rs := [.leaf (.own (.int .u8) 5)], f := fun k a => m16F k a }

theorem m16ok (k : Nat) : EnvOk (m16E k) := envOk_of (l := []) progNames progMixed rfl (.nil)

theorem m16con (k : Nat) : Contract Try.prog k 16 m16sp := contract_of (E := m16E k) (m16ok k) (A := only 16 m16A) (d := 3) (c := m16c []) (by kernel_rfl) (by kernel_rfl) fun a _ h => (m16q k a).trans h

noncomputable def m31A : Anns := tabA []
noncomputable def m31E (k : Nat) : Env := { P := Try.prog, k := k, G := tabG [] }
noncomputable def m31c (p : List Bool) : Code := sub p (bodyOf Try.f31)
noncomputable def m31I (k : Nat) : Inl Int := inlOf (m31E k) (only 31 m31A) 3
noncomputable def m31K0 (M : Cut Int) (k : Nat) : Exit → St → Option Int := seqK (normAt 0 m31A false (m31c [true])) (cutK M m31A (m31c [true]) fun s => evC (m31E k) M (m31I k) 0 m31A (m31c [true]) s (retK Try.prog Try.f31 [.leaf (.val (.int .i64))])) (retK Try.prog Try.f31 [.leaf (.val (.int .i64))])
noncomputable def m31K1 (M : Cut Int) (k : Nat) : Exit → St → Option Int := seqK (normAt 0 m31A false (m31c [true, true])) (cutK M m31A (m31c [true, true]) fun s => evC (m31E k) M (m31I k) 0 m31A (m31c [true, true]) s (retK Try.prog Try.f31 [.leaf (.val (.int .i64))])) (retK Try.prog Try.f31 [.leaf (.val (.int .i64))])
noncomputable def m31K2 (M : Cut Int) (k : Nat) : Exit → St → Option Int := seqK (normAt 0 m31A false (m31c [true, false, true])) (cutK M m31A (m31c [true, false, true]) fun s => evC (m31E k) M (m31I k) 0 m31A (m31c [true, false, true]) s (m31K1 M k)) (m31K1 M k)
noncomputable def m31K3 (M : Cut Int) (k : Nat) : Exit → St → Option Int := seqK (normAt 0 m31A false (m31c [true, false, true, false, true])) (cutK M m31A (m31c [true, false, true, false, true]) fun s => evC (m31E k) M (m31I k) 0 m31A (m31c [true, false, true, false, true]) s (m31K1 M k)) (m31K1 M k)
noncomputable def m31K4 (M : Cut Int) (k : Nat) : Exit → St → Option Int := seqK (normAt 0 m31A false (m31c [true, true, true])) (cutK M m31A (m31c [true, true, true]) fun s => evC (m31E k) M (m31I k) 0 m31A (m31c [true, true, true]) s (retK Try.prog Try.f31 [.leaf (.val (.int .i64))])) (retK Try.prog Try.f31 [.leaf (.val (.int .i64))])

noncomputable def m31X (k : Nat) (p0 : Int) (p1 : Int) : Option Int := (if (!eqI (bits BinOp.and IntKind.i64 p0 1) p1) = true then (if leI 0 1 = true then some (bits BinOp.xor IntKind.i64 (p0 / 2) 3988292384) else none) else (if leI 0 1 = true then some (p0 / 2) else none))

theorem m31x (M : Cut Int) (k : Nat) (p0 : Int) (p1 : Int) : evC (m31E k) M (m31I k) 0 m31A (m31c []) (stAt Try.f31 (argSs [.leaf (.val (.int .i64)), .leaf (.val (.int .i64))] (p0, p1)) (fun _ => none) 0) (retK Try.prog Try.f31 [.leaf (.val (.int .i64))]) = m31X k p0 p1 := by kernel_rfl

noncomputable def m31F (k : Nat) (p0 : Int) (p1 : Int) : Option Int := m31X k p0 p1

theorem m31q (k : Nat) (p0 : Int) (p1 : Int) : evC (m31E k) (fun _ f => f) (m31I k) 0 m31A (m31c []) (stAt Try.f31 (argSs [.leaf (.val (.int .i64)), .leaf (.val (.int .i64))] (p0, p1)) (fun _ => none) 0) (retK Try.prog Try.f31 [.leaf (.val (.int .i64))]) = m31F k p0 p1 := by
    show _ = m31X k p0 p1
    exact m31x (fun _ f => f) k p0 p1

noncomputable def m31sp : Spec := { ps := [.leaf (.val (.int .i64)), .leaf (.val (.int .i64))], rs := [.leaf (.val (.int .i64))], f := fun k a => m31F k a.1 a.2 }

theorem m31ok (k : Nat) : EnvOk (m31E k) := envOk_of (l := []) progNames progMixed rfl (.nil)

theorem m31con (k : Nat) : Contract Try.prog k 31 m31sp := contract_of (E := m31E k) (m31ok k) (A := only 31 m31A) (d := 3) (c := m31c []) (by kernel_rfl) (by kernel_rfl) fun a _ h => (m31q k a.1 a.2).trans h

noncomputable def m28A : Anns := tabA [(7, { keep := [0, 3, 4] }), (8, { keep := [0, 3, 4] }), (13, { keep := [0, 3, 4, 5] }), (18, { keep := [3] })]
noncomputable def m28E (k : Nat) : Env := { P := Try.prog, k := k, G := tabG [(31, m31sp)] }
noncomputable def m28c (p : List Bool) : Code := sub p (bodyOf Try.f28)
noncomputable def m28I (k : Nat) : Inl Int := inlOf (m28E k) (only 28 m28A) 3
noncomputable def m28K0 (M : Cut Int) (k : Nat) : Exit → St → Option Int := seqK (normAt 0 m28A false (m28c [true])) (cutK M m28A (m28c [true]) fun s => evC (m28E k) M (m28I k) 0 m28A (m28c [true]) s (retK Try.prog Try.f28 [.leaf (.val (.int .i64))])) (retK Try.prog Try.f28 [.leaf (.val (.int .i64))])
noncomputable def m28K1 (M : Cut Int) (k : Nat) : Exit → St → Option Int := seqK (normAt 0 m28A false (m28c [true, true])) (cutK M m28A (m28c [true, true]) fun s => evC (m28E k) M (m28I k) 0 m28A (m28c [true, true]) s (retK Try.prog Try.f28 [.leaf (.val (.int .i64))])) (retK Try.prog Try.f28 [.leaf (.val (.int .i64))])
noncomputable def m28K2 (M : Cut Int) (k : Nat) : Exit → St → Option Int := seqK (normAt 0 m28A false (m28c [true, true, true])) (cutK M m28A (m28c [true, true, true]) fun s => evC (m28E k) M (m28I k) 0 m28A (m28c [true, true, true]) s (retK Try.prog Try.f28 [.leaf (.val (.int .i64))])) (retK Try.prog Try.f28 [.leaf (.val (.int .i64))])
noncomputable def m28K3 (M : Cut Int) (k : Nat) : Exit → St → Option Int := seqK (normAt 0 m28A false (m28c [true, true, false, true])) (cutK M m28A (m28c [true, true, false, true]) fun s => evC (m28E k) M (m28I k) 0 m28A (m28c [true, true, false, true]) s (m28K2 M k)) (m28K2 M k)
noncomputable def m28K4 (M : Cut Int) (k : Nat) : Exit → St → Option Int := blockK 0 (m28K2 M k)
noncomputable def m28K5 (M : Cut Int) (k : Nat) (L7 : St → Option Int) : Exit → St → Option Int := seqK (normAt 0 m28A true (m28c [true, true, false, true, true, true])) L7 (m28K4 M k)
noncomputable def m28K6 (M : Cut Int) (k : Nat) (L7 : St → Option Int) : Exit → St → Option Int := seqK (normAt 0 m28A false (m28c [true, true, false, true, true, true, true])) (cutK M m28A (m28c [true, true, false, true, true, true, true]) fun s => evC (m28E k) M (m28I k) 0 m28A (m28c [true, true, false, true, true, true, true]) s (m28K5 M k L7)) (m28K5 M k L7)
noncomputable def m28K7 (M : Cut Int) (k : Nat) (L7 : St → Option Int) : Exit → St → Option Int := seqK (normAt 0 m28A false (m28c [true, true, false, true, true, true, false, true])) (cutK M m28A (m28c [true, true, false, true, true, true, false, true]) fun s => evC (m28E k) M (m28I k) 0 m28A (m28c [true, true, false, true, true, true, false, true]) s (m28K6 M k L7)) (m28K6 M k L7)
noncomputable def m28K8 (M : Cut Int) (k : Nat) (L7 : St → Option Int) : Exit → St → Option Int := seqK (normAt 0 m28A false (m28c [true, true, false, true, true, true, true, true])) (cutK M m28A (m28c [true, true, false, true, true, true, true, true]) fun s => evC (m28E k) M (m28I k) 0 m28A (m28c [true, true, false, true, true, true, true, true]) s (m28K5 M k L7)) (m28K5 M k L7)
noncomputable def m28K9 (M : Cut Int) (k : Nat) (L7 : St → Option Int) : Exit → St → Option Int := blockK 1 (m28K8 M k L7)
noncomputable def m28K10 (M : Cut Int) (k : Nat) (L7 : St → Option Int) : Exit → St → Option Int := seqK (normAt 0 m28A false (m28c [true, true, false, true, true, true, true, false, true, true])) (cutK M m28A (m28c [true, true, false, true, true, true, true, false, true, true]) fun s => evC (m28E k) M (m28I k) 0 m28A (m28c [true, true, false, true, true, true, true, false, true, true]) s (m28K9 M k L7)) (m28K9 M k L7)
noncomputable def m28K11 (M : Cut Int) (k : Nat) (L7 : St → Option Int) : Exit → St → Option Int := blockK 2 (m28K9 M k L7)
noncomputable def m28K12 (M : Cut Int) (k : Nat) (L7 : St → Option Int) (L13 : St → Option Int) : Exit → St → Option Int := seqK (normAt 0 m28A true (m28c [true, true, false, true, true, true, true, false, true, true, true, true])) L13 (m28K11 M k L7)
noncomputable def m28K13 (M : Cut Int) (k : Nat) (L7 : St → Option Int) (L13 : St → Option Int) : Exit → St → Option Int := seqK (normAt 0 m28A false (m28c [true, true, false, true, true, true, true, false, true, true, true, true, true])) (cutK M m28A (m28c [true, true, false, true, true, true, true, false, true, true, true, true, true]) fun s => evC (m28E k) M (m28I k) 0 m28A (m28c [true, true, false, true, true, true, true, false, true, true, true, true, true]) s (m28K12 M k L7 L13)) (m28K12 M k L7 L13)
noncomputable def m28K14 (M : Cut Int) (k : Nat) (L7 : St → Option Int) (L13 : St → Option Int) : Exit → St → Option Int := seqK (normAt 0 m28A false (m28c [true, true, false, true, true, true, true, false, true, true, true, true, false, true])) (cutK M m28A (m28c [true, true, false, true, true, true, true, false, true, true, true, true, false, true]) fun s => evC (m28E k) M (m28I k) 0 m28A (m28c [true, true, false, true, true, true, true, false, true, true, true, true, false, true]) s (m28K13 M k L7 L13)) (m28K13 M k L7 L13)
noncomputable def m28K15 (M : Cut Int) (k : Nat) (L7 : St → Option Int) (L13 : St → Option Int) : Exit → St → Option Int := seqK (normAt 0 m28A false (m28c [true, true, false, true, true, true, true, false, true, true, true, true, true, true])) (cutK M m28A (m28c [true, true, false, true, true, true, true, false, true, true, true, true, true, true]) fun s => evC (m28E k) M (m28I k) 0 m28A (m28c [true, true, false, true, true, true, true, false, true, true, true, true, true, true]) s (m28K12 M k L7 L13)) (m28K12 M k L7 L13)
noncomputable def m28K16 (M : Cut Int) (k : Nat) (L7 : St → Option Int) (L13 : St → Option Int) : Exit → St → Option Int := blockK 3 (m28K15 M k L7 L13)
noncomputable def m28K17 (M : Cut Int) (k : Nat) : Exit → St → Option Int := seqK (normAt 0 m28A false (m28c [true, true, true, true])) (cutK M m28A (m28c [true, true, true, true]) fun s => evC (m28E k) M (m28I k) 0 m28A (m28c [true, true, true, true]) s (retK Try.prog Try.f28 [.leaf (.val (.int .i64))])) (retK Try.prog Try.f28 [.leaf (.val (.int .i64))])
noncomputable def m28S7 (t0 : List Int) (t3 : Int) (t4 : Int) : St := { n := 29, tm := slots [(0, .row (.int .u8) t0), (3, .int .i64 t3), (4, .int .i64 t4)], tab := blks [], nx := 0 }
noncomputable def m28S13 (t0 : List Int) (t3 : Int) (t4 : Int) (t5 : Int) : St := { n := 29, tm := slots [(0, .row (.int .u8) t0), (3, .int .i64 t3), (4, .int .i64 t4), (5, .int .i64 t5)], tab := blks [], nx := 0 }
noncomputable def m28S18 (t3 : Int) : St := { n := 29, tm := slots [(3, .int .i64 t3)], tab := blks [], nx := 0 }
noncomputable def m28S8 (t0 : List Int) (t3 : Int) (t4 : Int) : St := { n := 29, tm := slots [(0, .row (.int .u8) t0), (3, .int .i64 t3), (4, .int .i64 t4)], tab := blks [], nx := 0 }

noncomputable def m28X (X7 : List Int → Int → Int → Option Int) (k : Nat) (p0 : (List Int)) : Option Int := X7 p0 (4294967295) (0)

theorem m28x (M : Cut Int) (k : Nat) (p0 : (List Int)) : evC (m28E k) M (m28I k) 0 m28A (m28c []) (stAt Try.f28 (argSs [.leaf (.val (.row (.int .u8)))] p0) (fun _ => none) 0) (retK Try.prog Try.f28 [.leaf (.val (.int .i64))]) = m28X (fun t0' t3' t4' => loopN (normAt 0 m28A true (m28c [true, true, false, true, true, true])) (fun K s => evC (m28E k) M (m28I k) 0 m28A (m28c [true, true, false, true, true, true]) s K) (m28K4 M k) k (m28S7 t0' t3' t4')) k p0 := by kernel_rfl

noncomputable def m28X7 (X13 : List Int → Int → Int → Int → Option Int) (X18 : Int → Option Int) (k : Nat) (t0 : List Int) (t3 : Int) (t4 : Int) : Option Int := (if ltI t4 (↑(List.length t0) : Int) = true then X13 t0 t3 t4 (0) else X18 t3)

theorem m28x7 (M : Cut Int) (k : Nat) (L7 : St → Option Int) (t0 : List Int) (t3 : Int) (t4 : Int) : evC (m28E k) M (m28I k) 0 m28A (m28c [true, true, false, true, true, true]) (m28S7 t0 t3 t4) (seqK (normAt 0 m28A true (m28c [true, true, false, true, true, true])) L7 (m28K4 M k)) = m28X7 (fun t0' t3' t4' t5' => loopN (normAt 0 m28A true (m28c [true, true, false, true, true, true, true, false, true, true, true, true])) (fun K s => evC (m28E k) M (m28I k) 0 m28A (m28c [true, true, false, true, true, true, true, false, true, true, true, true]) s K) (m28K11 M k L7) k (m28S13 t0' t3' t4' t5')) (fun t3' => M 18 (fun s => evC (m28E k) M (m28I k) 0 m28A (m28c [true, true, true]) s (retK Try.prog Try.f28 [.leaf (.val (.int .i64))])) (m28S18 t3')) k t0 t3 t4 := by kernel_rfl

noncomputable def m28X13 (X8 : List Int → Int → Int → Option Int) (L13 : List Int → Int → Int → Int → Option Int) (k : Nat) (t0 : List Int) (t3 : Int) (t4 : Int) (t5 : Int) : Option Int := (if ltI t5 8 = true then (if leI 0 t4 = true then (if ltI t4 (↑(List.length t0) : Int) = true then (if leI 0 (wr IntKind.u64 t5) = true then (Option.bind (m31F k t3
  (bits BinOp.and IntKind.i64
    (wr IntKind.i64 (List.getD t0 (Int.toNat t4) 0 / p2 (min (Int.toNat (wr IntKind.u64 t5)) 8))) 1)) fun (c8 : Int) => L13 t0 c8 t4 (wr IntKind.i64 (t5 + 1))) else none) else none) else none) else X8 t0 t3 t4)

theorem m28x13 (M : Cut Int) (k : Nat) (L7 : St → Option Int) (L13 : St → Option Int) (t0 : List Int) (t3 : Int) (t4 : Int) (t5 : Int) : evC (m28E k) M (m28I k) 0 m28A (m28c [true, true, false, true, true, true, true, false, true, true, true, true]) (m28S13 t0 t3 t4 t5) (seqK (normAt 0 m28A true (m28c [true, true, false, true, true, true, true, false, true, true, true, true])) L13 (m28K11 M k L7)) = m28X13 (fun t0' t3' t4' => M 8 (fun s => evC (m28E k) M (m28I k) 0 m28A (m28c [true, true, false, true, true, true, true, true]) s (m28K5 M k L7)) (m28S8 t0' t3' t4')) (fun t0' t3' t4' t5' => L13 (m28S13 t0' t3' t4' t5')) k t0 t3 t4 t5 := by kernel_rfl

noncomputable def m28X18 (k : Nat) (t3 : Int) : Option Int := some (bits BinOp.xor IntKind.i64 t3 4294967295)

theorem m28x18 (M : Cut Int) (k : Nat) (t3 : Int) : evC (m28E k) M (m28I k) 0 m28A (m28c [true, true, true]) (m28S18 t3) (retK Try.prog Try.f28 [.leaf (.val (.int .i64))]) = m28X18 k t3 := by kernel_rfl

noncomputable def m28X8 (L7 : List Int → Int → Int → Option Int) (k : Nat) (t0 : List Int) (t3 : Int) (t4 : Int) : Option Int := L7 t0 t3 (wr IntKind.i64 (t4 + 1))

theorem m28x8 (M : Cut Int) (k : Nat) (L7 : St → Option Int) (t0 : List Int) (t3 : Int) (t4 : Int) : evC (m28E k) M (m28I k) 0 m28A (m28c [true, true, false, true, true, true, true, true]) (m28S8 t0 t3 t4) (m28K5 M k L7) = m28X8 (fun t0' t3' t4' => L7 (m28S7 t0' t3' t4')) k t0 t3 t4 := by kernel_rfl

noncomputable def m28F18 (k : Nat) (t3 : Int) : Option Int := m28X18 k t3

theorem m28q18 (k : Nat) (t3 : Int) : evC (m28E k) (fun _ f => f) (m28I k) 0 m28A (m28c [true, true, true]) (m28S18 t3) (retK Try.prog Try.f28 [.leaf (.val (.int .i64))]) = m28F18 k t3 := by
    show _ = m28X18 k t3
    exact m28x18 (fun _ f => f) k t3

noncomputable def m28F8 (k : Nat) (L7 : List Int → Int → Int → Option Int) (t0 : List Int) (t3 : Int) (t4 : Int) : Option Int := m28X8 L7 k t0 t3 t4

theorem m28q8 (k : Nat) (L7 : St → Option Int) (t0 : List Int) (t3 : Int) (t4 : Int) : evC (m28E k) (fun _ f => f) (m28I k) 0 m28A (m28c [true, true, false, true, true, true, true, true]) (m28S8 t0 t3 t4) (m28K5 (fun _ f => f) k L7) = m28F8 k (fun t0' t3' t4' => L7 (m28S7 t0' t3' t4')) t0 t3 t4 := by
    show _ = m28X8 (fun t0' t3' t4' => L7 (m28S7 t0' t3' t4')) k t0 t3 t4
    exact m28x8 (fun _ f => f) k L7 t0 t3 t4

noncomputable def m28F13 (k : Nat) (L7 : List Int → Int → Int → Option Int) : Nat → List Int → Int → Int → Int → Option Int
  | 0, _, _, _, _ => none
  | j + 1, t0, t3, t4, t5 => m28X13 (m28F8 k L7) (m28F13 k L7 j) k t0 t3 t4 t5

theorem m28q13 (k : Nat) (L7 : St → Option Int) : ∀ (j : Nat) (t0 : List Int) (t3 : Int) (t4 : Int) (t5 : Int), loopN (normAt 0 m28A true (m28c [true, true, false, true, true, true, true, false, true, true, true, true])) (fun K s => evC (m28E k) (fun _ f => f) (m28I k) 0 m28A (m28c [true, true, false, true, true, true, true, false, true, true, true, true]) s K) (m28K11 (fun _ f => f) k L7) j (m28S13 t0 t3 t4 t5) = m28F13 k (fun t0' t3' t4' => L7 (m28S7 t0' t3' t4')) j t0 t3 t4 t5
  | 0, _, _, _, _ => rfl
  | j + 1, t0, t3, t4, t5 => by
    have e0 : m28F13 k (fun t0' t3' t4' => L7 (m28S7 t0' t3' t4')) j = (fun t0' t3' t4' t5' => loopN (normAt 0 m28A true (m28c [true, true, false, true, true, true, true, false, true, true, true, true])) (fun K s => evC (m28E k) (fun _ f => f) (m28I k) 0 m28A (m28c [true, true, false, true, true, true, true, false, true, true, true, true]) s K) (m28K11 (fun _ f => f) k L7) j (m28S13 t0' t3' t4' t5')) := funext fun t0' => funext fun t3' => funext fun t4' => funext fun t5' => (m28q13 k L7 j t0' t3' t4' t5').symm
    have e8 : m28F8 k (fun t0' t3' t4' => L7 (m28S7 t0' t3' t4')) = (fun t0' t3' t4' => evC (m28E k) (fun _ f => f) (m28I k) 0 m28A (m28c [true, true, false, true, true, true, true, true]) (m28S8 t0' t3' t4') (m28K5 (fun _ f => f) k L7)) := funext fun t0' => funext fun t3' => funext fun t4' => (m28q8 k L7 t0' t3' t4').symm
    show _ = m28X13 (m28F8 k (fun t0' t3' t4' => L7 (m28S7 t0' t3' t4'))) (m28F13 k (fun t0' t3' t4' => L7 (m28S7 t0' t3' t4')) j) k t0 t3 t4 t5
    rw [e0, e8]
    exact m28x13 (fun _ f => f) k L7 (loopN (normAt 0 m28A true (m28c [true, true, false, true, true, true, true, false, true, true, true, true])) (fun K s => evC (m28E k) (fun _ f => f) (m28I k) 0 m28A (m28c [true, true, false, true, true, true, true, false, true, true, true, true]) s K) (m28K11 (fun _ f => f) k L7) j) t0 t3 t4 t5

noncomputable def m28F7 (k : Nat) : Nat → List Int → Int → Int → Option Int
  | 0, _, _, _ => none
  | j + 1, t0, t3, t4 => m28X7 (m28F13 k (m28F7 k j) k) (m28F18 k) k t0 t3 t4

theorem m28q7 (k : Nat) : ∀ (j : Nat) (t0 : List Int) (t3 : Int) (t4 : Int), loopN (normAt 0 m28A true (m28c [true, true, false, true, true, true])) (fun K s => evC (m28E k) (fun _ f => f) (m28I k) 0 m28A (m28c [true, true, false, true, true, true]) s K) (m28K4 (fun _ f => f) k) j (m28S7 t0 t3 t4) = m28F7 k j t0 t3 t4
  | 0, _, _, _ => rfl
  | j + 1, t0, t3, t4 => by
    have e0 : m28F7 k j = (fun t0' t3' t4' => loopN (normAt 0 m28A true (m28c [true, true, false, true, true, true])) (fun K s => evC (m28E k) (fun _ f => f) (m28I k) 0 m28A (m28c [true, true, false, true, true, true]) s K) (m28K4 (fun _ f => f) k) j (m28S7 t0' t3' t4')) := funext fun t0' => funext fun t3' => funext fun t4' => (m28q7 k j t0' t3' t4').symm
    have e13 : m28F13 k (fun t0' t3' t4' => loopN (normAt 0 m28A true (m28c [true, true, false, true, true, true])) (fun K s => evC (m28E k) (fun _ f => f) (m28I k) 0 m28A (m28c [true, true, false, true, true, true]) s K) (m28K4 (fun _ f => f) k) j (m28S7 t0' t3' t4')) k = (fun t0' t3' t4' t5' => loopN (normAt 0 m28A true (m28c [true, true, false, true, true, true, true, false, true, true, true, true])) (fun K s => evC (m28E k) (fun _ f => f) (m28I k) 0 m28A (m28c [true, true, false, true, true, true, true, false, true, true, true, true]) s K) (m28K11 (fun _ f => f) k (loopN (normAt 0 m28A true (m28c [true, true, false, true, true, true])) (fun K s => evC (m28E k) (fun _ f => f) (m28I k) 0 m28A (m28c [true, true, false, true, true, true]) s K) (m28K4 (fun _ f => f) k) j)) k (m28S13 t0' t3' t4' t5')) := funext fun t0' => funext fun t3' => funext fun t4' => funext fun t5' => (m28q13 k (loopN (normAt 0 m28A true (m28c [true, true, false, true, true, true])) (fun K s => evC (m28E k) (fun _ f => f) (m28I k) 0 m28A (m28c [true, true, false, true, true, true]) s K) (m28K4 (fun _ f => f) k) j) k t0' t3' t4' t5').symm
    have e18 : m28F18 k = (fun t3' => evC (m28E k) (fun _ f => f) (m28I k) 0 m28A (m28c [true, true, true]) (m28S18 t3') (retK Try.prog Try.f28 [.leaf (.val (.int .i64))])) := funext fun t3' => (m28q18 k t3').symm
    show _ = m28X7 (m28F13 k (m28F7 k j) k) (m28F18 k) k t0 t3 t4
    rw [e0, e13, e18]
    exact m28x7 (fun _ f => f) k (loopN (normAt 0 m28A true (m28c [true, true, false, true, true, true])) (fun K s => evC (m28E k) (fun _ f => f) (m28I k) 0 m28A (m28c [true, true, false, true, true, true]) s K) (m28K4 (fun _ f => f) k) j) t0 t3 t4

noncomputable def m28F (k : Nat) (p0 : (List Int)) : Option Int := m28X (m28F7 k k) k p0

theorem m28q (k : Nat) (p0 : (List Int)) : evC (m28E k) (fun _ f => f) (m28I k) 0 m28A (m28c []) (stAt Try.f28 (argSs [.leaf (.val (.row (.int .u8)))] p0) (fun _ => none) 0) (retK Try.prog Try.f28 [.leaf (.val (.int .i64))]) = m28F k p0 := by
    have e7 : m28F7 k k = (fun t0' t3' t4' => loopN (normAt 0 m28A true (m28c [true, true, false, true, true, true])) (fun K s => evC (m28E k) (fun _ f => f) (m28I k) 0 m28A (m28c [true, true, false, true, true, true]) s K) (m28K4 (fun _ f => f) k) k (m28S7 t0' t3' t4')) := funext fun t0' => funext fun t3' => funext fun t4' => (m28q7 k k t0' t3' t4').symm
    show _ = m28X (m28F7 k k) k p0
    rw [e7]
    exact m28x (fun _ f => f) k p0

noncomputable def m28sp : Spec := { ps := [.leaf (.val (.row (.int .u8)))], rs := [.leaf (.val (.int .i64))], f := fun k a => m28F k a }

theorem m28ok (k : Nat) : EnvOk (m28E k) := envOk_of (l := [(31, m31sp)]) progNames progMixed rfl (.cons ⟨m31con k, Try.f31, by kernel_rfl, by kernel_rfl⟩ (.nil))

theorem m28con (k : Nat) : Contract Try.prog k 28 m28sp := contract_of (E := m28E k) (m28ok k) (A := only 28 m28A) (d := 3) (c := m28c []) (by kernel_rfl) (by kernel_rfl) fun a _ h => (m28q k a).trans h

noncomputable def m21A : Anns := tabA []
noncomputable def m21E (k : Nat) : Env := { P := Try.prog, k := k, G := tabG [(16, m16sp), (28, m28sp)] }
noncomputable def m21c (p : List Bool) : Code := sub p (bodyOf Try.f21)
noncomputable def m21I (k : Nat) : Inl (List Int) := inlOf (m21E k) (only 21 m21A) 3
noncomputable def m21K0 (M : Cut (List Int)) (k : Nat) : Exit → St → Option (List Int) := seqK (normAt 0 m21A false (m21c [true])) (cutK M m21A (m21c [true]) fun s => evC (m21E k) M (m21I k) 0 m21A (m21c [true]) s (retK Try.prog Try.f21 [.leaf (.own (.int .u8) 5)])) (retK Try.prog Try.f21 [.leaf (.own (.int .u8) 5)])
noncomputable def m21K1 (M : Cut (List Int)) (k : Nat) : Exit → St → Option (List Int) := seqK (normAt 0 m21A false (m21c [true, true])) (cutK M m21A (m21c [true, true]) fun s => evC (m21E k) M (m21I k) 0 m21A (m21c [true, true]) s (retK Try.prog Try.f21 [.leaf (.own (.int .u8) 5)])) (retK Try.prog Try.f21 [.leaf (.own (.int .u8) 5)])
noncomputable def m21K2 (M : Cut (List Int)) (k : Nat) : Exit → St → Option (List Int) := seqK (normAt 0 m21A false (m21c [true, true, true])) (cutK M m21A (m21c [true, true, true]) fun s => evC (m21E k) M (m21I k) 0 m21A (m21c [true, true, true]) s (retK Try.prog Try.f21 [.leaf (.own (.int .u8) 5)])) (retK Try.prog Try.f21 [.leaf (.own (.int .u8) 5)])

noncomputable def m21X (k : Nat) (p0 : (List Int)) : Option (List Int) := (Option.bind (m28F k p0) fun (c3 : Int) => (Option.bind (m16F k p0) fun (c4 : (List Int)) => (if leI 0 8 = true then (if leI 0 16 = true then (if leI 0 24 = true then (if leI
    (↑((List.length c4 +
            List.length
              (List.set
                (List.set (List.set (List.set (List.replicate 4 0) 0 (wr IntKind.u8 c3)) 1 (wr IntKind.u8 (c3 / 256))) 2
                  (wr IntKind.u8 (c3 / 65536)))
                3 (wr IntKind.u8 (c3 / 16777216)))) *
          1) :
      Int)
    140737488355328 =
  true then some (c4 ++
  List.set
    (List.set (List.set (List.set (List.replicate 4 0) 0 (wr IntKind.u8 c3)) 1 (wr IntKind.u8 (c3 / 256))) 2
      (wr IntKind.u8 (c3 / 65536)))
    3 (wr IntKind.u8 (c3 / 16777216))) else none) else none) else none) else none)))

theorem m21x (M : Cut (List Int)) (k : Nat) (p0 : (List Int)) : evC (m21E k) M (m21I k) 0 m21A (m21c []) (stAt Try.f21 (argSs [.leaf (.val (.row (.int .u8)))] p0) (fun _ => none) 0) (retK Try.prog Try.f21 [.leaf (.own (.int .u8) 5)]) = m21X k p0 := by kernel_rfl

noncomputable def m21F (k : Nat) (p0 : (List Int)) : Option (List Int) := m21X k p0

theorem m21q (k : Nat) (p0 : (List Int)) : evC (m21E k) (fun _ f => f) (m21I k) 0 m21A (m21c []) (stAt Try.f21 (argSs [.leaf (.val (.row (.int .u8)))] p0) (fun _ => none) 0) (retK Try.prog Try.f21 [.leaf (.own (.int .u8) 5)]) = m21F k p0 := by
    show _ = m21X k p0
    exact m21x (fun _ f => f) k p0

noncomputable def m21sp : Spec := { ps := [.leaf (.val (.row (.int .u8)))], rs := [.leaf (.own (.int .u8) 5)], f := fun k a => m21F k a }

theorem m21ok (k : Nat) : EnvOk (m21E k) := envOk_of (l := [(16, m16sp), (28, m28sp)]) progNames progMixed rfl (.cons ⟨m16con k, Try.f16, by kernel_rfl, by kernel_rfl⟩ (.cons ⟨m28con k, Try.f28, by kernel_rfl, by kernel_rfl⟩ (.nil)))

theorem m21con (k : Nat) : Contract Try.prog k 21 m21sp := contract_of (E := m21E k) (m21ok k) (A := only 21 m21A) (d := 3) (c := m21c []) (by kernel_rfl) (by kernel_rfl) fun a _ h => (m21q k a).trans h

noncomputable def m13A : Anns := tabA []
noncomputable def m13E (k : Nat) : Env := { P := Try.prog, k := k, G := tabG [(20, m20sp), (21, m21sp)] }
noncomputable def m13c (p : List Bool) : Code := sub p (bodyOf Try.f13)
noncomputable def m13I (k : Nat) : Inl (List Int) := inlOf (m13E k) (only 13 m13A) 3
noncomputable def m13K0 (M : Cut (List Int)) (k : Nat) : Exit → St → Option (List Int) := seqK (normAt 0 m13A false (m13c [true])) (cutK M m13A (m13c [true]) fun s => evC (m13E k) M (m13I k) 0 m13A (m13c [true]) s (retK Try.prog Try.f13 [.leaf (.own (.int .u8) 5)])) (retK Try.prog Try.f13 [.leaf (.own (.int .u8) 5)])
noncomputable def m13K1 (M : Cut (List Int)) (k : Nat) : Exit → St → Option (List Int) := seqK (normAt 0 m13A false (m13c [true, true])) (cutK M m13A (m13c [true, true]) fun s => evC (m13E k) M (m13I k) 0 m13A (m13c [true, true]) s (retK Try.prog Try.f13 [.leaf (.own (.int .u8) 5)])) (retK Try.prog Try.f13 [.leaf (.own (.int .u8) 5)])
noncomputable def m13K2 (M : Cut (List Int)) (k : Nat) : Exit → St → Option (List Int) := seqK (normAt 0 m13A false (m13c [true, true, true])) (cutK M m13A (m13c [true, true, true]) fun s => evC (m13E k) M (m13I k) 0 m13A (m13c [true, true, true]) s (retK Try.prog Try.f13 [.leaf (.own (.int .u8) 5)])) (retK Try.prog Try.f13 [.leaf (.own (.int .u8) 5)])

noncomputable def m13X (k : Nat) (p0 : (Int × Int)) : Option (List Int) := (Option.bind (m20F k (Prod.fst p0) 4) fun (c3 : (List Int)) => (if leI (↑((1 + List.length c3) * 1) : Int) 140737488355328 = true then (Option.bind (m20F k (wr IntKind.i64 (Prod.snd p0)) 4) fun (c4 : (List Int)) => (if leI (↑((List.length (List.set (List.replicate 1 0) 0 65 ++ c3) + List.length c4) * 1) : Int) 140737488355328 = true then (Option.bind (m21F k (List.set (List.replicate 1 0) 0 65 ++ c3 ++ c4)) fun (c5 : (List Int)) => some c5) else none)) else none))

theorem m13x (M : Cut (List Int)) (k : Nat) (p0 : (Int × Int)) : evC (m13E k) M (m13I k) 0 m13A (m13c []) (stAt Try.f13 (argSs [.st (.pair (.int .i64) (.int .u32))] p0) (fun _ => none) 0) (retK Try.prog Try.f13 [.leaf (.own (.int .u8) 5)]) = m13X k p0 := by kernel_rfl

noncomputable def m13F (k : Nat) (p0 : (Int × Int)) : Option (List Int) := m13X k p0

theorem m13q (k : Nat) (p0 : (Int × Int)) : evC (m13E k) (fun _ f => f) (m13I k) 0 m13A (m13c []) (stAt Try.f13 (argSs [.st (.pair (.int .i64) (.int .u32))] p0) (fun _ => none) 0) (retK Try.prog Try.f13 [.leaf (.own (.int .u8) 5)]) = m13F k p0 := by
    show _ = m13X k p0
    exact m13x (fun _ f => f) k p0

noncomputable def m13sp : Spec := { ps := [.st (.pair (.int .i64) (.int .u32))], rs := [.leaf (.own (.int .u8) 5)], f := fun k a => m13F k a }

theorem m13ok (k : Nat) : EnvOk (m13E k) := envOk_of (l := [(20, m20sp), (21, m21sp)]) progNames progMixed rfl (.cons ⟨m20con k, Try.f20, by kernel_rfl, by kernel_rfl⟩ (.cons ⟨m21con k, Try.f21, by kernel_rfl, by kernel_rfl⟩ (.nil)))

theorem m13con (k : Nat) : Contract Try.prog k 13 m13sp := contract_of (E := m13E k) (m13ok k) (A := only 13 m13A) (d := 3) (c := m13c []) (by kernel_rfl) (by kernel_rfl) fun a _ h => (m13q k a).trans h

noncomputable def m15A : Anns := tabA []
noncomputable def m15E (k : Nat) : Env := { P := Try.prog, k := k, G := tabG [] }
noncomputable def m15c (p : List Bool) : Code := sub p (bodyOf Try.f15)
noncomputable def m15I (k : Nat) : Inl Bool := inlOf (m15E k) (only 15 m15A) 3
noncomputable def m15K0 (M : Cut Bool) (k : Nat) : Exit → St → Option Bool := seqK (normAt 0 m15A false (m15c [true])) (cutK M m15A (m15c [true]) fun s => evC (m15E k) M (m15I k) 0 m15A (m15c [true]) s (retK Try.prog Try.f15 [.leaf (.val .bool)])) (retK Try.prog Try.f15 [.leaf (.val .bool)])
noncomputable def m15K1 (M : Cut Bool) (k : Nat) : Exit → St → Option Bool := seqK (normAt 0 m15A false (m15c [true, true])) (cutK M m15A (m15c [true, true]) fun s => evC (m15E k) M (m15I k) 0 m15A (m15c [true, true]) s (retK Try.prog Try.f15 [.leaf (.val .bool)])) (retK Try.prog Try.f15 [.leaf (.val .bool)])

noncomputable def m15X (k : Nat) (p0 : (Int × Int)) (p1 : (Int × Int)) : Option Bool := (if eqI (Prod.fst p0) (Prod.fst p1) = true then some (eqI (Prod.snd p0) (Prod.snd p1)) else some (false))

theorem m15x (M : Cut Bool) (k : Nat) (p0 : (Int × Int)) (p1 : (Int × Int)) : evC (m15E k) M (m15I k) 0 m15A (m15c []) (stAt Try.f15 (argSs [.st (.pair (.int .i64) (.int .u32)), .st (.pair (.int .i64) (.int .u32))] (p0, p1)) (fun _ => none) 0) (retK Try.prog Try.f15 [.leaf (.val .bool)]) = m15X k p0 p1 := by kernel_rfl

noncomputable def m15F (k : Nat) (p0 : (Int × Int)) (p1 : (Int × Int)) : Option Bool := m15X k p0 p1

theorem m15q (k : Nat) (p0 : (Int × Int)) (p1 : (Int × Int)) : evC (m15E k) (fun _ f => f) (m15I k) 0 m15A (m15c []) (stAt Try.f15 (argSs [.st (.pair (.int .i64) (.int .u32)), .st (.pair (.int .i64) (.int .u32))] (p0, p1)) (fun _ => none) 0) (retK Try.prog Try.f15 [.leaf (.val .bool)]) = m15F k p0 p1 := by
    show _ = m15X k p0 p1
    exact m15x (fun _ f => f) k p0 p1

noncomputable def m15sp : Spec := { ps := [.st (.pair (.int .i64) (.int .u32)), .st (.pair (.int .i64) (.int .u32))], rs := [.leaf (.val .bool)], f := fun k a => m15F k a.1 a.2 }

theorem m15ok (k : Nat) : EnvOk (m15E k) := envOk_of (l := []) progNames progMixed rfl (.nil)

theorem m15con (k : Nat) : Contract Try.prog k 15 m15sp := contract_of (E := m15E k) (m15ok k) (A := only 15 m15A) (d := 3) (c := m15c []) (by kernel_rfl) (by kernel_rfl) fun a _ h => (m15q k a.1 a.2).trans h

end Go.Proofs.Ytmioimcpiddgfaa.Mini
