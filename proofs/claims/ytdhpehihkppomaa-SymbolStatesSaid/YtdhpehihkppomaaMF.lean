/- Printed by a program of this session's (MPrint, over wip/mini): plain functions of the program's, and that they are what it does. Lean checks it. -/
import Derived.Test.YtdhpehihkppomaaXMO
import Derived.Test.YtdhpehihkppomaaProg
import Derived.KernelRfl
set_option linter.unusedVariables false
namespace Go.Proofs.Ytdhpehihkppomaa.Mini
open Go Go.RowKit Go.Proofs
theorem progNames : (Try.prog.funcs.all fun f => !(f.name == "runtime.NumGoroutine")) = true := by kernel_rfl
theorem progMixed : Try.prog.follows .mixedOrders = true := by kernel_rfl

noncomputable def m13A : Anns := tabA []
noncomputable def m13E (k : Nat) : Env := { P := Try.prog, k := k, G := tabG [] }
noncomputable def m13c (p : List Bool) : Code := sub p (bodyOf Try.f13)
noncomputable def m13I (k : Nat) : Inl Int := inlOf (m13E k) (only 13 m13A) 3
noncomputable def m13K0 (M : Cut Int) (k : Nat) : Exit → St → Option Int := seqK (normAt 0 m13A false (m13c [true])) (cutK M m13A (m13c [true]) fun s => evC (m13E k) M (m13I k) 0 m13A (m13c [true]) s (retK Try.prog Try.f13 [.leaf (.val (.int .u32))])) (retK Try.prog Try.f13 [.leaf (.val (.int .u32))])
noncomputable def m13K1 (M : Cut Int) (k : Nat) : Exit → St → Option Int := seqK (normAt 0 m13A false (m13c [true, true])) (cutK M m13A (m13c [true, true]) fun s => evC (m13E k) M (m13I k) 0 m13A (m13c [true, true]) s (retK Try.prog Try.f13 [.leaf (.val (.int .u32))])) (retK Try.prog Try.f13 [.leaf (.val (.int .u32))])
noncomputable def m13K2 (M : Cut Int) (k : Nat) : Exit → St → Option Int := seqK (normAt 0 m13A false (m13c [true, true, true])) (cutK M m13A (m13c [true, true, true]) fun s => evC (m13E k) M (m13I k) 0 m13A (m13c [true, true, true]) s (retK Try.prog Try.f13 [.leaf (.val (.int .u32))])) (retK Try.prog Try.f13 [.leaf (.val (.int .u32))])
noncomputable def m13K3 (M : Cut Int) (k : Nat) : Exit → St → Option Int := seqK (normAt 0 m13A false (m13c [true, true, true, true])) (cutK M m13A (m13c [true, true, true, true]) fun s => evC (m13E k) M (m13I k) 0 m13A (m13c [true, true, true, true]) s (retK Try.prog Try.f13 [.leaf (.val (.int .u32))])) (retK Try.prog Try.f13 [.leaf (.val (.int .u32))])
noncomputable def m13K4 (M : Cut Int) (k : Nat) : Exit → St → Option Int := seqK (normAt 0 m13A false (m13c [true, true, true, true, true])) (cutK M m13A (m13c [true, true, true, true, true]) fun s => evC (m13E k) M (m13I k) 0 m13A (m13c [true, true, true, true, true]) s (retK Try.prog Try.f13 [.leaf (.val (.int .u32))])) (retK Try.prog Try.f13 [.leaf (.val (.int .u32))])
noncomputable def m13K5 (M : Cut Int) (k : Nat) : Exit → St → Option Int := seqK (normAt 0 m13A false (m13c [true, true, true, true, true, true])) (cutK M m13A (m13c [true, true, true, true, true, true]) fun s => evC (m13E k) M (m13I k) 0 m13A (m13c [true, true, true, true, true, true]) s (retK Try.prog Try.f13 [.leaf (.val (.int .u32))])) (retK Try.prog Try.f13 [.leaf (.val (.int .u32))])
noncomputable def m13K6 (M : Cut Int) (k : Nat) : Exit → St → Option Int := seqK (normAt 0 m13A false (m13c [true, true, true, true, true, true, true])) (cutK M m13A (m13c [true, true, true, true, true, true, true]) fun s => evC (m13E k) M (m13I k) 0 m13A (m13c [true, true, true, true, true, true, true]) s (retK Try.prog Try.f13 [.leaf (.val (.int .u32))])) (retK Try.prog Try.f13 [.leaf (.val (.int .u32))])

noncomputable def m13X (k : Nat) (p0 : Int) : Option Int := (if leI 0 16 = true then (if leI 0 15 = true then (if leI 0 16 = true then some (bits BinOp.xor IntKind.u32
  (wr IntKind.u32
    (bits BinOp.xor IntKind.u32 (wr IntKind.u32 (bits BinOp.xor IntKind.u32 p0 (p0 / 65536) * 2146121005))
        (wr IntKind.u32 (bits BinOp.xor IntKind.u32 p0 (p0 / 65536) * 2146121005) / 32768) *
      2221713035))
  (wr IntKind.u32
      (bits BinOp.xor IntKind.u32 (wr IntKind.u32 (bits BinOp.xor IntKind.u32 p0 (p0 / 65536) * 2146121005))
          (wr IntKind.u32 (bits BinOp.xor IntKind.u32 p0 (p0 / 65536) * 2146121005) / 32768) *
        2221713035) /
    65536)) else none) else none) else none)

theorem m13x (M : Cut Int) (k : Nat) (p0 : Int) : evC (m13E k) M (m13I k) 0 m13A (m13c []) (stAt Try.f13 (argSs [.leaf (.val (.int .u32))] p0) (fun _ => none) 0) (retK Try.prog Try.f13 [.leaf (.val (.int .u32))]) = m13X k p0 := by kernel_rfl

noncomputable def m13F (k : Nat) (p0 : Int) : Option Int := m13X k p0

theorem m13q (k : Nat) (p0 : Int) : evC (m13E k) (fun _ f => f) (m13I k) 0 m13A (m13c []) (stAt Try.f13 (argSs [.leaf (.val (.int .u32))] p0) (fun _ => none) 0) (retK Try.prog Try.f13 [.leaf (.val (.int .u32))]) = m13F k p0 := by
    show _ = m13X k p0
    exact m13x (fun _ f => f) k p0

noncomputable def m13sp : Spec := { ps := [.leaf (.val (.int .u32))], rs := [.leaf (.val (.int .u32))], f := fun k a => m13F k a }

theorem m13ok (k : Nat) : EnvOk (m13E k) := envOk_of (l := []) progNames progMixed rfl (.nil)

theorem m13con (k : Nat) : Contract Try.prog k 13 m13sp := contract_of (E := m13E k) (m13ok k) (A := only 13 m13A) (d := 3) (c := m13c []) (by kernel_rfl) (by kernel_rfl) fun a _ h => (m13q k a).trans h

noncomputable def m14A : Anns := tabA []
noncomputable def m14E (k : Nat) : Env := { P := Try.prog, k := k, G := tabG [] }
noncomputable def m14c (p : List Bool) : Code := sub p (bodyOf Try.f14)
noncomputable def m14I (k : Nat) : Inl Int := inlOf (m14E k) (only 14 m14A) 3
noncomputable def m14K0 (M : Cut Int) (k : Nat) : Exit → St → Option Int := seqK (normAt 0 m14A false (m14c [true])) (cutK M m14A (m14c [true]) fun s => evC (m14E k) M (m14I k) 0 m14A (m14c [true]) s (retK Try.prog Try.f14 [.leaf (.val (.int .u32))])) (retK Try.prog Try.f14 [.leaf (.val (.int .u32))])
noncomputable def m14K1 (M : Cut Int) (k : Nat) : Exit → St → Option Int := seqK (normAt 0 m14A false (m14c [true, true])) (cutK M m14A (m14c [true, true]) fun s => evC (m14E k) M (m14I k) 0 m14A (m14c [true, true]) s (retK Try.prog Try.f14 [.leaf (.val (.int .u32))])) (retK Try.prog Try.f14 [.leaf (.val (.int .u32))])
noncomputable def m14K2 (M : Cut Int) (k : Nat) : Exit → St → Option Int := seqK (normAt 0 m14A false (m14c [true, true, true])) (cutK M m14A (m14c [true, true, true]) fun s => evC (m14E k) M (m14I k) 0 m14A (m14c [true, true, true]) s (retK Try.prog Try.f14 [.leaf (.val (.int .u32))])) (retK Try.prog Try.f14 [.leaf (.val (.int .u32))])
noncomputable def m14K3 (M : Cut Int) (k : Nat) : Exit → St → Option Int := seqK (normAt 0 m14A false (m14c [true, true, true, true])) (cutK M m14A (m14c [true, true, true, true]) fun s => evC (m14E k) M (m14I k) 0 m14A (m14c [true, true, true, true]) s (retK Try.prog Try.f14 [.leaf (.val (.int .u32))])) (retK Try.prog Try.f14 [.leaf (.val (.int .u32))])
noncomputable def m14K4 (M : Cut Int) (k : Nat) : Exit → St → Option Int := seqK (normAt 0 m14A false (m14c [true, true, true, true, true])) (cutK M m14A (m14c [true, true, true, true, true]) fun s => evC (m14E k) M (m14I k) 0 m14A (m14c [true, true, true, true, true]) s (retK Try.prog Try.f14 [.leaf (.val (.int .u32))])) (retK Try.prog Try.f14 [.leaf (.val (.int .u32))])
noncomputable def m14K5 (M : Cut Int) (k : Nat) : Exit → St → Option Int := seqK (normAt 0 m14A false (m14c [true, true, true, true, true, true])) (cutK M m14A (m14c [true, true, true, true, true, true]) fun s => evC (m14E k) M (m14I k) 0 m14A (m14c [true, true, true, true, true, true]) s (retK Try.prog Try.f14 [.leaf (.val (.int .u32))])) (retK Try.prog Try.f14 [.leaf (.val (.int .u32))])

noncomputable def m14X (k : Nat) (p0 : Int) : Option Int := (if leI 0 16 = true then (if leI 0 15 = true then (if leI 0 16 = true then some (bits BinOp.xor IntKind.u32
  (wr IntKind.u32
    (bits BinOp.xor IntKind.u32 (wr IntKind.u32 (bits BinOp.xor IntKind.u32 p0 (p0 / 65536) * 2146121005))
        (wr IntKind.u32 (bits BinOp.xor IntKind.u32 p0 (p0 / 65536) * 2146121005) / 32768) *
      2221713035))
  (wr IntKind.u32
      (bits BinOp.xor IntKind.u32 (wr IntKind.u32 (bits BinOp.xor IntKind.u32 p0 (p0 / 65536) * 2146121005))
          (wr IntKind.u32 (bits BinOp.xor IntKind.u32 p0 (p0 / 65536) * 2146121005) / 32768) *
        2221713035) /
    65536)) else none) else none) else none)

theorem m14x (M : Cut Int) (k : Nat) (p0 : Int) : evC (m14E k) M (m14I k) 0 m14A (m14c []) (stAt Try.f14 (argSs [.leaf (.val (.int .u32))] p0) (fun _ => none) 0) (retK Try.prog Try.f14 [.leaf (.val (.int .u32))]) = m14X k p0 := by kernel_rfl

noncomputable def m14F (k : Nat) (p0 : Int) : Option Int := m14X k p0

theorem m14q (k : Nat) (p0 : Int) : evC (m14E k) (fun _ f => f) (m14I k) 0 m14A (m14c []) (stAt Try.f14 (argSs [.leaf (.val (.int .u32))] p0) (fun _ => none) 0) (retK Try.prog Try.f14 [.leaf (.val (.int .u32))]) = m14F k p0 := by
    show _ = m14X k p0
    exact m14x (fun _ f => f) k p0

noncomputable def m14sp : Spec := { ps := [.leaf (.val (.int .u32))], rs := [.leaf (.val (.int .u32))], f := fun k a => m14F k a }

theorem m14ok (k : Nat) : EnvOk (m14E k) := envOk_of (l := []) progNames progMixed rfl (.nil)

theorem m14con (k : Nat) : Contract Try.prog k 14 m14sp := contract_of (E := m14E k) (m14ok k) (A := only 14 m14A) (d := 3) (c := m14c []) (by kernel_rfl) (by kernel_rfl) fun a _ h => (m14q k a).trans h

noncomputable def m17A : Anns := tabA []
noncomputable def m17E (k : Nat) : Env := { P := Try.prog, k := k, G := tabG [(13, m13sp)] }
noncomputable def m17c (p : List Bool) : Code := sub p (bodyOf Try.f17)
noncomputable def m17I (k : Nat) : Inl (Int × Int) := inlOf (m17E k) (only 17 m17A) 3
noncomputable def m17K0 (M : Cut (Int × Int)) (k : Nat) : Exit → St → Option (Int × Int) := seqK (normAt 0 m17A false (m17c [true])) (cutK M m17A (m17c [true]) fun s => evC (m17E k) M (m17I k) 0 m17A (m17c [true]) s (retK Try.prog Try.f17 [.leaf (.val (.int .i64)), .leaf (.val (.int .i64))])) (retK Try.prog Try.f17 [.leaf (.val (.int .i64)), .leaf (.val (.int .i64))])
noncomputable def m17K1 (M : Cut (Int × Int)) (k : Nat) : Exit → St → Option (Int × Int) := seqK (normAt 0 m17A false (m17c [true, true])) (cutK M m17A (m17c [true, true]) fun s => evC (m17E k) M (m17I k) 0 m17A (m17c [true, true]) s (retK Try.prog Try.f17 [.leaf (.val (.int .i64)), .leaf (.val (.int .i64))])) (retK Try.prog Try.f17 [.leaf (.val (.int .i64)), .leaf (.val (.int .i64))])
noncomputable def m17K2 (M : Cut (Int × Int)) (k : Nat) : Exit → St → Option (Int × Int) := blockK 0 (m17K1 M k)
noncomputable def m17K3 (M : Cut (Int × Int)) (k : Nat) : Exit → St → Option (Int × Int) := seqK (normAt 0 m17A false (m17c [true, false, true, true])) (cutK M m17A (m17c [true, false, true, true]) fun s => evC (m17E k) M (m17I k) 0 m17A (m17c [true, false, true, true]) s (m17K2 M k)) (m17K2 M k)
noncomputable def m17K4 (M : Cut (Int × Int)) (k : Nat) : Exit → St → Option (Int × Int) := seqK (normAt 0 m17A false (m17c [true, false, true, true, false, true])) (cutK M m17A (m17c [true, false, true, true, false, true]) fun s => evC (m17E k) M (m17I k) 0 m17A (m17c [true, false, true, true, false, true]) s (m17K2 M k)) (m17K2 M k)
noncomputable def m17K5 (M : Cut (Int × Int)) (k : Nat) : Exit → St → Option (Int × Int) := seqK (normAt 0 m17A false (m17c [true, false, true, true, true, true])) (cutK M m17A (m17c [true, false, true, true, true, true]) fun s => evC (m17E k) M (m17I k) 0 m17A (m17c [true, false, true, true, true, true]) s (m17K2 M k)) (m17K2 M k)
noncomputable def m17K6 (M : Cut (Int × Int)) (k : Nat) : Exit → St → Option (Int × Int) := seqK (normAt 0 m17A false (m17c [true, false, true, true, true, true, false, true])) (cutK M m17A (m17c [true, false, true, true, true, true, false, true]) fun s => evC (m17E k) M (m17I k) 0 m17A (m17c [true, false, true, true, true, true, false, true]) s (m17K2 M k)) (m17K2 M k)
noncomputable def m17K7 (M : Cut (Int × Int)) (k : Nat) : Exit → St → Option (Int × Int) := seqK (normAt 0 m17A false (m17c [true, true, true])) (cutK M m17A (m17c [true, true, true]) fun s => evC (m17E k) M (m17I k) 0 m17A (m17c [true, true, true]) s (retK Try.prog Try.f17 [.leaf (.val (.int .i64)), .leaf (.val (.int .i64))])) (retK Try.prog Try.f17 [.leaf (.val (.int .i64)), .leaf (.val (.int .i64))])

noncomputable def m17X (k : Nat) (p0 : Int) (p1 : Int) : Option (Int × Int) := (if ltI p1 0 = true then some ((0, 1)) else (if ltI 255 p1 = true then some ((0, 1)) else (if ltI p1 4 = true then (if leI 0 (wr IntKind.i64 (8 * p1)) = true then some ((wr IntKind.i64 (bits BinOp.and IntKind.u32 (p0 / p2 (min (Int.toNat (wr IntKind.i64 (8 * p1))) 32)) 255), 0)) else none) else (Option.bind (m13F k (wr IntKind.u32 (p0 + wr IntKind.u32 (wr IntKind.u32 p1 * 2654435769)))) fun (c4 : Int) => some ((wr IntKind.i64 (bits BinOp.and IntKind.u32 c4 255), 0))))))

theorem m17x (M : Cut (Int × Int)) (k : Nat) (p0 : Int) (p1 : Int) : evC (m17E k) M (m17I k) 0 m17A (m17c []) (stAt Try.f17 (argSs [.leaf (.val (.int .u32)), .leaf (.val (.int .i64))] (p0, p1)) (fun _ => none) 0) (retK Try.prog Try.f17 [.leaf (.val (.int .i64)), .leaf (.val (.int .i64))]) = m17X k p0 p1 := by kernel_rfl

noncomputable def m17F (k : Nat) (p0 : Int) (p1 : Int) : Option (Int × Int) := m17X k p0 p1

theorem m17q (k : Nat) (p0 : Int) (p1 : Int) : evC (m17E k) (fun _ f => f) (m17I k) 0 m17A (m17c []) (stAt Try.f17 (argSs [.leaf (.val (.int .u32)), .leaf (.val (.int .i64))] (p0, p1)) (fun _ => none) 0) (retK Try.prog Try.f17 [.leaf (.val (.int .i64)), .leaf (.val (.int .i64))]) = m17F k p0 p1 := by
    show _ = m17X k p0 p1
    exact m17x (fun _ f => f) k p0 p1

noncomputable def m17sp : Spec := { ps := [.leaf (.val (.int .u32)), .leaf (.val (.int .i64))], rs := [.leaf (.val (.int .i64)), .leaf (.val (.int .i64))], f := fun k a => m17F k a.1 a.2 }

theorem m17ok (k : Nat) : EnvOk (m17E k) := envOk_of (l := [(13, m13sp)]) progNames progMixed rfl (.cons ⟨m13con k, Try.f13, by kernel_rfl, by kernel_rfl⟩ (.nil))

theorem m17con (k : Nat) : Contract Try.prog k 17 m17sp := contract_of (E := m17E k) (m17ok k) (A := only 17 m17A) (d := 3) (c := m17c []) (by kernel_rfl) (by kernel_rfl) fun a _ h => (m17q k a.1 a.2).trans h

noncomputable def m31A : Anns := tabA []
noncomputable def m31E (k : Nat) : Env := { P := Try.prog, k := k, G := tabG [] }
noncomputable def m31c (p : List Bool) : Code := sub p (bodyOf Try.f31)
noncomputable def m31I (k : Nat) : Inl Bool := inlOf (m31E k) (only 31 m31A) 3
noncomputable def m31K0 (M : Cut Bool) (k : Nat) : Exit → St → Option Bool := seqK (normAt 0 m31A false (m31c [true])) (cutK M m31A (m31c [true]) fun s => evC (m31E k) M (m31I k) 0 m31A (m31c [true]) s (retK Try.prog Try.f31 [.leaf (.val .bool)])) (retK Try.prog Try.f31 [.leaf (.val .bool)])
noncomputable def m31K1 (M : Cut Bool) (k : Nat) : Exit → St → Option Bool := seqK (normAt 0 m31A false (m31c [true, true])) (cutK M m31A (m31c [true, true]) fun s => evC (m31E k) M (m31I k) 0 m31A (m31c [true, true]) s (retK Try.prog Try.f31 [.leaf (.val .bool)])) (retK Try.prog Try.f31 [.leaf (.val .bool)])

noncomputable def m31X (k : Nat) (p0 : Int) : Option Bool := (if ltI p0 0 = true then some (true) else some (ltI 255 p0))

theorem m31x (M : Cut Bool) (k : Nat) (p0 : Int) : evC (m31E k) M (m31I k) 0 m31A (m31c []) (stAt Try.f31 (argSs [.leaf (.val (.int .i64))] p0) (fun _ => none) 0) (retK Try.prog Try.f31 [.leaf (.val .bool)]) = m31X k p0 := by kernel_rfl

noncomputable def m31F (k : Nat) (p0 : Int) : Option Bool := m31X k p0

theorem m31q (k : Nat) (p0 : Int) : evC (m31E k) (fun _ f => f) (m31I k) 0 m31A (m31c []) (stAt Try.f31 (argSs [.leaf (.val (.int .i64))] p0) (fun _ => none) 0) (retK Try.prog Try.f31 [.leaf (.val .bool)]) = m31F k p0 := by
    show _ = m31X k p0
    exact m31x (fun _ f => f) k p0

noncomputable def m31sp : Spec := { ps := [.leaf (.val (.int .i64))], rs := [.leaf (.val .bool)], f := fun k a => m31F k a }

theorem m31ok (k : Nat) : EnvOk (m31E k) := envOk_of (l := []) progNames progMixed rfl (.nil)

theorem m31con (k : Nat) : Contract Try.prog k 31 m31sp := contract_of (E := m31E k) (m31ok k) (A := only 31 m31A) (d := 3) (c := m31c []) (by kernel_rfl) (by kernel_rfl) fun a _ h => (m31q k a).trans h

noncomputable def m34A : Anns := tabA [(5, { keep := [0, 1, 7, 8] })]
noncomputable def m34E (k : Nat) : Env := { P := Try.prog, k := k, G := tabG [(31, m31sp)] }
noncomputable def m34c (p : List Bool) : Code := sub p (bodyOf Try.f34)
noncomputable def m34I (k : Nat) : Inl Int := inlOf (m34E k) (only 34 m34A) 3
noncomputable def m34K0 (M : Cut Int) (k : Nat) : Exit → St → Option Int := seqK (normAt 0 m34A false (m34c [true])) (cutK M m34A (m34c [true]) fun s => evC (m34E k) M (m34I k) 0 m34A (m34c [true]) s (retK Try.prog Try.f34 [.leaf (.val (.int .i64))])) (retK Try.prog Try.f34 [.leaf (.val (.int .i64))])
noncomputable def m34K1 (M : Cut Int) (k : Nat) : Exit → St → Option Int := seqK (normAt 0 m34A false (m34c [true, true])) (cutK M m34A (m34c [true, true]) fun s => evC (m34E k) M (m34I k) 0 m34A (m34c [true, true]) s (retK Try.prog Try.f34 [.leaf (.val (.int .i64))])) (retK Try.prog Try.f34 [.leaf (.val (.int .i64))])
noncomputable def m34K2 (M : Cut Int) (k : Nat) : Exit → St → Option Int := seqK (normAt 0 m34A false (m34c [true, false, true])) (cutK M m34A (m34c [true, false, true]) fun s => evC (m34E k) M (m34I k) 0 m34A (m34c [true, false, true]) s (m34K1 M k)) (m34K1 M k)
noncomputable def m34K3 (M : Cut Int) (k : Nat) : Exit → St → Option Int := blockK 0 (m34K1 M k)
noncomputable def m34K4 (M : Cut Int) (k : Nat) (L5 : St → Option Int) : Exit → St → Option Int := seqK (normAt 0 m34A true (m34c [true, false, true, true, true])) L5 (m34K3 M k)
noncomputable def m34K5 (M : Cut Int) (k : Nat) (L5 : St → Option Int) : Exit → St → Option Int := seqK (normAt 0 m34A false (m34c [true, false, true, true, true, true])) (cutK M m34A (m34c [true, false, true, true, true, true]) fun s => evC (m34E k) M (m34I k) 0 m34A (m34c [true, false, true, true, true, true]) s (m34K4 M k L5)) (m34K4 M k L5)
noncomputable def m34K6 (M : Cut Int) (k : Nat) (L5 : St → Option Int) : Exit → St → Option Int := seqK (normAt 0 m34A false (m34c [true, false, true, true, true, true, true])) (cutK M m34A (m34c [true, false, true, true, true, true, true]) fun s => evC (m34E k) M (m34I k) 0 m34A (m34c [true, false, true, true, true, true, true]) s (m34K4 M k L5)) (m34K4 M k L5)
noncomputable def m34K7 (M : Cut Int) (k : Nat) (L5 : St → Option Int) : Exit → St → Option Int := seqK (normAt 0 m34A false (m34c [true, false, true, true, true, true, true, true])) (cutK M m34A (m34c [true, false, true, true, true, true, true, true]) fun s => evC (m34E k) M (m34I k) 0 m34A (m34c [true, false, true, true, true, true, true, true]) s (m34K4 M k L5)) (m34K4 M k L5)
noncomputable def m34K8 (M : Cut Int) (k : Nat) (L5 : St → Option Int) : Exit → St → Option Int := blockK 1 (m34K7 M k L5)
noncomputable def m34K9 (M : Cut Int) (k : Nat) (L5 : St → Option Int) : Exit → St → Option Int := seqK (normAt 0 m34A false (m34c [true, false, true, true, true, true, true, false, true, true])) (cutK M m34A (m34c [true, false, true, true, true, true, true, false, true, true]) fun s => evC (m34E k) M (m34I k) 0 m34A (m34c [true, false, true, true, true, true, true, false, true, true]) s (m34K8 M k L5)) (m34K8 M k L5)
noncomputable def m34K10 (M : Cut Int) (k : Nat) (L5 : St → Option Int) : Exit → St → Option Int := seqK (normAt 0 m34A false (m34c [true, false, true, true, true, true, true, false, true, true, true])) (cutK M m34A (m34c [true, false, true, true, true, true, true, false, true, true, true]) fun s => evC (m34E k) M (m34I k) 0 m34A (m34c [true, false, true, true, true, true, true, false, true, true, true]) s (m34K8 M k L5)) (m34K8 M k L5)
noncomputable def m34K11 (M : Cut Int) (k : Nat) (L5 : St → Option Int) : Exit → St → Option Int := seqK (normAt 0 m34A false (m34c [true, false, true, true, true, true, true, false, true, true, true, false, true])) (cutK M m34A (m34c [true, false, true, true, true, true, true, false, true, true, true, false, true]) fun s => evC (m34E k) M (m34I k) 0 m34A (m34c [true, false, true, true, true, true, true, false, true, true, true, false, true]) s (m34K8 M k L5)) (m34K8 M k L5)
noncomputable def m34K12 (M : Cut Int) (k : Nat) : Exit → St → Option Int := seqK (normAt 0 m34A false (m34c [true, true, true])) (cutK M m34A (m34c [true, true, true]) fun s => evC (m34E k) M (m34I k) 0 m34A (m34c [true, true, true]) s (retK Try.prog Try.f34 [.leaf (.val (.int .i64))])) (retK Try.prog Try.f34 [.leaf (.val (.int .i64))])
noncomputable def m34S5 (t0 : List Int) (t7 : Int) (t8 : Int) : St := { n := 19, tm := slots [(0, .row (.int .i64) t0), (1, .fn (.func 31) []), (7, .int .i64 t7), (8, .int .i64 t8)], tab := blks [], nx := 0 }

noncomputable def m34X (X5 : List Int → Int → Int → Option Int) (k : Nat) (p0 : (List Int)) (p1 : Unit) : Option Int := X5 p0 ((↑(List.length p0) : Int)) (0)

theorem m34x (M : Cut Int) (k : Nat) (p0 : (List Int)) (p1 : Unit) : evC (m34E k) M (m34I k) 0 m34A (m34c []) (stAt Try.f34 (argSs [.leaf (.val (.row (.int .i64))), .fn 31 []] (p0, p1)) (fun _ => none) 0) (retK Try.prog Try.f34 [.leaf (.val (.int .i64))]) = m34X (fun t0' t7' t8' => loopN (normAt 0 m34A true (m34c [true, false, true, true, true])) (fun K s => evC (m34E k) M (m34I k) 0 m34A (m34c [true, false, true, true, true]) s K) (m34K3 M k) k (m34S5 t0' t7' t8')) k p0 p1 := by kernel_rfl

noncomputable def m34X5 (L5 : List Int → Int → Int → Option Int) (k : Nat) (t0 : List Int) (t7 : Int) (t8 : Int) : Option Int := (if ltI t8 t7 = true then (if leI 0 t8 = true then (if ltI t8 (↑(List.length t0) : Int) = true then (Option.bind (m31F k (List.getD t0 (Int.toNat t8) 0)) fun (c6 : Bool) => (if c6 = true then some t8 else L5 t0 t7 (wr IntKind.i64 (t8 + 1)))) else none) else none) else some (-1))

theorem m34x5 (M : Cut Int) (k : Nat) (L5 : St → Option Int) (t0 : List Int) (t7 : Int) (t8 : Int) : evC (m34E k) M (m34I k) 0 m34A (m34c [true, false, true, true, true]) (m34S5 t0 t7 t8) (seqK (normAt 0 m34A true (m34c [true, false, true, true, true])) L5 (m34K3 M k)) = m34X5 (fun t0' t7' t8' => L5 (m34S5 t0' t7' t8')) k t0 t7 t8 := by kernel_rfl

noncomputable def m34F5 (k : Nat) : Nat → List Int → Int → Int → Option Int
  | 0, _, _, _ => none
  | j + 1, t0, t7, t8 => m34X5 (m34F5 k j) k t0 t7 t8

theorem m34q5 (k : Nat) : ∀ (j : Nat) (t0 : List Int) (t7 : Int) (t8 : Int), loopN (normAt 0 m34A true (m34c [true, false, true, true, true])) (fun K s => evC (m34E k) (fun _ f => f) (m34I k) 0 m34A (m34c [true, false, true, true, true]) s K) (m34K3 (fun _ f => f) k) j (m34S5 t0 t7 t8) = m34F5 k j t0 t7 t8
  | 0, _, _, _ => rfl
  | j + 1, t0, t7, t8 => by
    have e0 : m34F5 k j = (fun t0' t7' t8' => loopN (normAt 0 m34A true (m34c [true, false, true, true, true])) (fun K s => evC (m34E k) (fun _ f => f) (m34I k) 0 m34A (m34c [true, false, true, true, true]) s K) (m34K3 (fun _ f => f) k) j (m34S5 t0' t7' t8')) := funext fun t0' => funext fun t7' => funext fun t8' => (m34q5 k j t0' t7' t8').symm
    show _ = m34X5 (m34F5 k j) k t0 t7 t8
    rw [e0]
    exact m34x5 (fun _ f => f) k (loopN (normAt 0 m34A true (m34c [true, false, true, true, true])) (fun K s => evC (m34E k) (fun _ f => f) (m34I k) 0 m34A (m34c [true, false, true, true, true]) s K) (m34K3 (fun _ f => f) k) j) t0 t7 t8

noncomputable def m34F (k : Nat) (p0 : (List Int)) (p1 : Unit) : Option Int := m34X (m34F5 k k) k p0 p1

theorem m34q (k : Nat) (p0 : (List Int)) (p1 : Unit) : evC (m34E k) (fun _ f => f) (m34I k) 0 m34A (m34c []) (stAt Try.f34 (argSs [.leaf (.val (.row (.int .i64))), .fn 31 []] (p0, p1)) (fun _ => none) 0) (retK Try.prog Try.f34 [.leaf (.val (.int .i64))]) = m34F k p0 p1 := by
    have e5 : m34F5 k k = (fun t0' t7' t8' => loopN (normAt 0 m34A true (m34c [true, false, true, true, true])) (fun K s => evC (m34E k) (fun _ f => f) (m34I k) 0 m34A (m34c [true, false, true, true, true]) s K) (m34K3 (fun _ f => f) k) k (m34S5 t0' t7' t8')) := funext fun t0' => funext fun t7' => funext fun t8' => (m34q5 k k t0' t7' t8').symm
    show _ = m34X (m34F5 k k) k p0 p1
    rw [e5]
    exact m34x (fun _ f => f) k p0 p1

noncomputable def m34sp : Spec := { ps := [.leaf (.val (.row (.int .i64))), .fn 31 []], rs := [.leaf (.val (.int .i64))], f := fun k a => m34F k a.1 a.2 }

theorem m34ok (k : Nat) : EnvOk (m34E k) := envOk_of (l := [(31, m31sp)]) progNames progMixed rfl (.cons ⟨m31con k, Try.f31, by kernel_rfl, by kernel_rfl⟩ (.nil))

theorem m34con (k : Nat) : Contract Try.prog k 34 m34sp := contract_of (E := m34E k) (m34ok k) (A := only 34 m34A) (d := 3) (c := m34c []) (by kernel_rfl) (by kernel_rfl) fun a _ h => (m34q k a.1 a.2).trans h

noncomputable def m30A : Anns := tabA []
noncomputable def m30E (k : Nat) : Env := { P := Try.prog, k := k, G := tabG [(31, m31sp), (34, m34sp)] }
noncomputable def m30c (p : List Bool) : Code := sub p (bodyOf Try.f30)
noncomputable def m30I (k : Nat) : Inl Bool := inlOf (m30E k) (only 30 m30A) 3
noncomputable def m30K0 (M : Cut Bool) (k : Nat) : Exit → St → Option Bool := seqK (normAt 0 m30A false (m30c [true])) (cutK M m30A (m30c [true]) fun s => evC (m30E k) M (m30I k) 0 m30A (m30c [true]) s (retK Try.prog Try.f30 [.leaf (.val .bool)])) (retK Try.prog Try.f30 [.leaf (.val .bool)])
noncomputable def m30K1 (M : Cut Bool) (k : Nat) : Exit → St → Option Bool := seqK (normAt 0 m30A false (m30c [true, true])) (cutK M m30A (m30c [true, true]) fun s => evC (m30E k) M (m30I k) 0 m30A (m30c [true, true]) s (retK Try.prog Try.f30 [.leaf (.val .bool)])) (retK Try.prog Try.f30 [.leaf (.val .bool)])

noncomputable def m30X (k : Nat) (p0 : (List Int)) (p1 : Unit) : Option Bool := (Option.bind (m34F k p0 PUnit.unit) fun (c4 : Int) => some (leI 0 c4))

theorem m30x (M : Cut Bool) (k : Nat) (p0 : (List Int)) (p1 : Unit) : evC (m30E k) M (m30I k) 0 m30A (m30c []) (stAt Try.f30 (argSs [.leaf (.val (.row (.int .i64))), .fn 31 []] (p0, p1)) (fun _ => none) 0) (retK Try.prog Try.f30 [.leaf (.val .bool)]) = m30X k p0 p1 := by kernel_rfl

noncomputable def m30F (k : Nat) (p0 : (List Int)) (p1 : Unit) : Option Bool := m30X k p0 p1

theorem m30q (k : Nat) (p0 : (List Int)) (p1 : Unit) : evC (m30E k) (fun _ f => f) (m30I k) 0 m30A (m30c []) (stAt Try.f30 (argSs [.leaf (.val (.row (.int .i64))), .fn 31 []] (p0, p1)) (fun _ => none) 0) (retK Try.prog Try.f30 [.leaf (.val .bool)]) = m30F k p0 p1 := by
    show _ = m30X k p0 p1
    exact m30x (fun _ f => f) k p0 p1

noncomputable def m30sp : Spec := { ps := [.leaf (.val (.row (.int .i64))), .fn 31 []], rs := [.leaf (.val .bool)], f := fun k a => m30F k a.1 a.2 }

theorem m30ok (k : Nat) : EnvOk (m30E k) := envOk_of (l := [(31, m31sp), (34, m34sp)]) progNames progMixed rfl (.cons ⟨m31con k, Try.f31, by kernel_rfl, by kernel_rfl⟩ (.cons ⟨m34con k, Try.f34, by kernel_rfl, by kernel_rfl⟩ (.nil)))

theorem m30con (k : Nat) : Contract Try.prog k 30 m30sp := contract_of (E := m30E k) (m30ok k) (A := only 30 m30A) (d := 3) (c := m30c []) (by kernel_rfl) (by kernel_rfl) fun a _ h => (m30q k a.1 a.2).trans h

noncomputable def m20A : Anns := tabA [(15, { keep := [4, 14, 15, 16] }), (22, { keep := [4] })]
noncomputable def m20E (k : Nat) : Env := { P := Try.prog, k := k, G := tabG [(30, m30sp), (31, m31sp)] }
noncomputable def m20c (p : List Bool) : Code := sub p (bodyOf Try.f20)
noncomputable def m20I (k : Nat) : Inl (Int × Int) := inlOf (m20E k) (only 20 m20A) 3
noncomputable def m20K0 (M : Cut (Int × Int)) (k : Nat) : Exit → St → Option (Int × Int) := seqK (normAt 0 m20A false (m20c [true])) (cutK M m20A (m20c [true]) fun s => evC (m20E k) M (m20I k) 0 m20A (m20c [true]) s (retK Try.prog Try.f20 [.leaf (.val (.int .u32)), .leaf (.val (.int .i64))])) (retK Try.prog Try.f20 [.leaf (.val (.int .u32)), .leaf (.val (.int .i64))])
noncomputable def m20K1 (M : Cut (Int × Int)) (k : Nat) : Exit → St → Option (Int × Int) := seqK (normAt 0 m20A false (m20c [true, true])) (cutK M m20A (m20c [true, true]) fun s => evC (m20E k) M (m20I k) 0 m20A (m20c [true, true]) s (retK Try.prog Try.f20 [.leaf (.val (.int .u32)), .leaf (.val (.int .i64))])) (retK Try.prog Try.f20 [.leaf (.val (.int .u32)), .leaf (.val (.int .i64))])
noncomputable def m20K2 (M : Cut (Int × Int)) (k : Nat) : Exit → St → Option (Int × Int) := blockK 0 (m20K1 M k)
noncomputable def m20K3 (M : Cut (Int × Int)) (k : Nat) : Exit → St → Option (Int × Int) := seqK (normAt 0 m20A false (m20c [true, false, true, true])) (cutK M m20A (m20c [true, false, true, true]) fun s => evC (m20E k) M (m20I k) 0 m20A (m20c [true, false, true, true]) s (m20K2 M k)) (m20K2 M k)
noncomputable def m20K4 (M : Cut (Int × Int)) (k : Nat) : Exit → St → Option (Int × Int) := seqK (normAt 0 m20A false (m20c [true, false, true, true, false, true])) (cutK M m20A (m20c [true, false, true, true, false, true]) fun s => evC (m20E k) M (m20I k) 0 m20A (m20c [true, false, true, true, false, true]) s (m20K2 M k)) (m20K2 M k)
noncomputable def m20K5 (M : Cut (Int × Int)) (k : Nat) : Exit → St → Option (Int × Int) := seqK (normAt 0 m20A false (m20c [true, false, true, true, true, true])) (cutK M m20A (m20c [true, false, true, true, true, true]) fun s => evC (m20E k) M (m20I k) 0 m20A (m20c [true, false, true, true, true, true]) s (m20K2 M k)) (m20K2 M k)
noncomputable def m20K6 (M : Cut (Int × Int)) (k : Nat) : Exit → St → Option (Int × Int) := seqK (normAt 0 m20A false (m20c [true, false, true, true, true, true, false, true])) (cutK M m20A (m20c [true, false, true, true, true, true, false, true]) fun s => evC (m20E k) M (m20I k) 0 m20A (m20c [true, false, true, true, true, true, false, true]) s (m20K2 M k)) (m20K2 M k)
noncomputable def m20K7 (M : Cut (Int × Int)) (k : Nat) : Exit → St → Option (Int × Int) := seqK (normAt 0 m20A false (m20c [true, true, true])) (cutK M m20A (m20c [true, true, true]) fun s => evC (m20E k) M (m20I k) 0 m20A (m20c [true, true, true]) s (retK Try.prog Try.f20 [.leaf (.val (.int .u32)), .leaf (.val (.int .i64))])) (retK Try.prog Try.f20 [.leaf (.val (.int .u32)), .leaf (.val (.int .i64))])
noncomputable def m20K8 (M : Cut (Int × Int)) (k : Nat) : Exit → St → Option (Int × Int) := seqK (normAt 0 m20A false (m20c [true, true, true, true])) (cutK M m20A (m20c [true, true, true, true]) fun s => evC (m20E k) M (m20I k) 0 m20A (m20c [true, true, true, true]) s (retK Try.prog Try.f20 [.leaf (.val (.int .u32)), .leaf (.val (.int .i64))])) (retK Try.prog Try.f20 [.leaf (.val (.int .u32)), .leaf (.val (.int .i64))])
noncomputable def m20K9 (M : Cut (Int × Int)) (k : Nat) : Exit → St → Option (Int × Int) := seqK (normAt 0 m20A false (m20c [true, true, true, false, true])) (cutK M m20A (m20c [true, true, true, false, true]) fun s => evC (m20E k) M (m20I k) 0 m20A (m20c [true, true, true, false, true]) s (m20K8 M k)) (m20K8 M k)
noncomputable def m20K10 (M : Cut (Int × Int)) (k : Nat) : Exit → St → Option (Int × Int) := blockK 1 (m20K8 M k)
noncomputable def m20K11 (M : Cut (Int × Int)) (k : Nat) (L15 : St → Option (Int × Int)) : Exit → St → Option (Int × Int) := seqK (normAt 0 m20A true (m20c [true, true, true, false, true, true, true])) L15 (m20K10 M k)
noncomputable def m20K12 (M : Cut (Int × Int)) (k : Nat) (L15 : St → Option (Int × Int)) : Exit → St → Option (Int × Int) := seqK (normAt 0 m20A false (m20c [true, true, true, false, true, true, true, true])) (cutK M m20A (m20c [true, true, true, false, true, true, true, true]) fun s => evC (m20E k) M (m20I k) 0 m20A (m20c [true, true, true, false, true, true, true, true]) s (m20K11 M k L15)) (m20K11 M k L15)
noncomputable def m20K13 (M : Cut (Int × Int)) (k : Nat) (L15 : St → Option (Int × Int)) : Exit → St → Option (Int × Int) := seqK (normAt 0 m20A false (m20c [true, true, true, false, true, true, true, true, true])) (cutK M m20A (m20c [true, true, true, false, true, true, true, true, true]) fun s => evC (m20E k) M (m20I k) 0 m20A (m20c [true, true, true, false, true, true, true, true, true]) s (m20K11 M k L15)) (m20K11 M k L15)
noncomputable def m20K14 (M : Cut (Int × Int)) (k : Nat) (L15 : St → Option (Int × Int)) : Exit → St → Option (Int × Int) := seqK (normAt 0 m20A false (m20c [true, true, true, false, true, true, true, true, true, true])) (cutK M m20A (m20c [true, true, true, false, true, true, true, true, true, true]) fun s => evC (m20E k) M (m20I k) 0 m20A (m20c [true, true, true, false, true, true, true, true, true, true]) s (m20K11 M k L15)) (m20K11 M k L15)
noncomputable def m20K15 (M : Cut (Int × Int)) (k : Nat) (L15 : St → Option (Int × Int)) : Exit → St → Option (Int × Int) := blockK 2 (m20K14 M k L15)
noncomputable def m20K16 (M : Cut (Int × Int)) (k : Nat) (L15 : St → Option (Int × Int)) : Exit → St → Option (Int × Int) := seqK (normAt 0 m20A false (m20c [true, true, true, false, true, true, true, true, true, false, true, true])) (cutK M m20A (m20c [true, true, true, false, true, true, true, true, true, false, true, true]) fun s => evC (m20E k) M (m20I k) 0 m20A (m20c [true, true, true, false, true, true, true, true, true, false, true, true]) s (m20K15 M k L15)) (m20K15 M k L15)
noncomputable def m20K17 (M : Cut (Int × Int)) (k : Nat) : Exit → St → Option (Int × Int) := seqK (normAt 0 m20A false (m20c [true, true, true, true, true])) (cutK M m20A (m20c [true, true, true, true, true]) fun s => evC (m20E k) M (m20I k) 0 m20A (m20c [true, true, true, true, true]) s (retK Try.prog Try.f20 [.leaf (.val (.int .u32)), .leaf (.val (.int .i64))])) (retK Try.prog Try.f20 [.leaf (.val (.int .u32)), .leaf (.val (.int .i64))])
noncomputable def m20S15 (t4 : Int) (t14 : List Int) (t15 : Int) (t16 : Int) : St := { n := 30, tm := slots [(4, .int .u32 t4), (14, .row (.int .i64) t14), (15, .int .i64 t15), (16, .int .i64 t16)], tab := blks [], nx := 0 }
noncomputable def m20S22 (t4 : Int) : St := { n := 30, tm := slots [(4, .int .u32 t4)], tab := blks [], nx := 0 }

noncomputable def m20X (X15 : Int → List Int → Int → Int → Option (Int × Int)) (k : Nat) (p0 : (List Int)) : Option (Int × Int) := (if (!eqI (↑(List.length p0) : Int) 4) = true then some ((0, 2)) else (Option.bind (m30F k p0 PUnit.unit) fun (c3 : Bool) => (if c3 = true then some ((0, 1)) else X15 (0) p0 ((↑(List.length p0) : Int)) (0))))

theorem m20x (M : Cut (Int × Int)) (k : Nat) (p0 : (List Int)) : evC (m20E k) M (m20I k) 0 m20A (m20c []) (stAt Try.f20 (argSs [.leaf (.val (.row (.int .i64)))] p0) (fun _ => none) 0) (retK Try.prog Try.f20 [.leaf (.val (.int .u32)), .leaf (.val (.int .i64))]) = m20X (fun t4' t14' t15' t16' => loopN (normAt 0 m20A true (m20c [true, true, true, false, true, true, true])) (fun K s => evC (m20E k) M (m20I k) 0 m20A (m20c [true, true, true, false, true, true, true]) s K) (m20K10 M k) k (m20S15 t4' t14' t15' t16')) k p0 := by kernel_rfl

noncomputable def m20X15 (X22 : Int → Option (Int × Int)) (L15 : Int → List Int → Int → Int → Option (Int × Int)) (k : Nat) (t4 : Int) (t14 : List Int) (t15 : Int) (t16 : Int) : Option (Int × Int) := (if ltI t16 t15 = true then (if leI 0 t16 = true then (if ltI t16 (↑(List.length t14) : Int) = true then (if leI 0 (wr IntKind.i64 (8 * t16)) = true then L15 (bits BinOp.or IntKind.u32 t4
  (wr IntKind.u32
    (wr IntKind.u32 (List.getD t14 (Int.toNat t16) 0) * p2 (min (Int.toNat (wr IntKind.i64 (8 * t16))) 32)))) t14 t15 (wr IntKind.i64 (t16 + 1)) else none) else none) else none) else X22 t4)

theorem m20x15 (M : Cut (Int × Int)) (k : Nat) (L15 : St → Option (Int × Int)) (t4 : Int) (t14 : List Int) (t15 : Int) (t16 : Int) : evC (m20E k) M (m20I k) 0 m20A (m20c [true, true, true, false, true, true, true]) (m20S15 t4 t14 t15 t16) (seqK (normAt 0 m20A true (m20c [true, true, true, false, true, true, true])) L15 (m20K10 M k)) = m20X15 (fun t4' => M 22 (fun s => evC (m20E k) M (m20I k) 0 m20A (m20c [true, true, true, true]) s (retK Try.prog Try.f20 [.leaf (.val (.int .u32)), .leaf (.val (.int .i64))])) (m20S22 t4')) (fun t4' t14' t15' t16' => L15 (m20S15 t4' t14' t15' t16')) k t4 t14 t15 t16 := by kernel_rfl

noncomputable def m20X22 (k : Nat) (t4 : Int) : Option (Int × Int) := some ((t4, 0))

theorem m20x22 (M : Cut (Int × Int)) (k : Nat) (t4 : Int) : evC (m20E k) M (m20I k) 0 m20A (m20c [true, true, true, true]) (m20S22 t4) (retK Try.prog Try.f20 [.leaf (.val (.int .u32)), .leaf (.val (.int .i64))]) = m20X22 k t4 := by kernel_rfl

noncomputable def m20F22 (k : Nat) (t4 : Int) : Option (Int × Int) := m20X22 k t4

theorem m20q22 (k : Nat) (t4 : Int) : evC (m20E k) (fun _ f => f) (m20I k) 0 m20A (m20c [true, true, true, true]) (m20S22 t4) (retK Try.prog Try.f20 [.leaf (.val (.int .u32)), .leaf (.val (.int .i64))]) = m20F22 k t4 := by
    show _ = m20X22 k t4
    exact m20x22 (fun _ f => f) k t4

noncomputable def m20F15 (k : Nat) : Nat → Int → List Int → Int → Int → Option (Int × Int)
  | 0, _, _, _, _ => none
  | j + 1, t4, t14, t15, t16 => m20X15 (m20F22 k) (m20F15 k j) k t4 t14 t15 t16

theorem m20q15 (k : Nat) : ∀ (j : Nat) (t4 : Int) (t14 : List Int) (t15 : Int) (t16 : Int), loopN (normAt 0 m20A true (m20c [true, true, true, false, true, true, true])) (fun K s => evC (m20E k) (fun _ f => f) (m20I k) 0 m20A (m20c [true, true, true, false, true, true, true]) s K) (m20K10 (fun _ f => f) k) j (m20S15 t4 t14 t15 t16) = m20F15 k j t4 t14 t15 t16
  | 0, _, _, _, _ => rfl
  | j + 1, t4, t14, t15, t16 => by
    have e0 : m20F15 k j = (fun t4' t14' t15' t16' => loopN (normAt 0 m20A true (m20c [true, true, true, false, true, true, true])) (fun K s => evC (m20E k) (fun _ f => f) (m20I k) 0 m20A (m20c [true, true, true, false, true, true, true]) s K) (m20K10 (fun _ f => f) k) j (m20S15 t4' t14' t15' t16')) := funext fun t4' => funext fun t14' => funext fun t15' => funext fun t16' => (m20q15 k j t4' t14' t15' t16').symm
    have e22 : m20F22 k = (fun t4' => evC (m20E k) (fun _ f => f) (m20I k) 0 m20A (m20c [true, true, true, true]) (m20S22 t4') (retK Try.prog Try.f20 [.leaf (.val (.int .u32)), .leaf (.val (.int .i64))])) := funext fun t4' => (m20q22 k t4').symm
    show _ = m20X15 (m20F22 k) (m20F15 k j) k t4 t14 t15 t16
    rw [e0, e22]
    exact m20x15 (fun _ f => f) k (loopN (normAt 0 m20A true (m20c [true, true, true, false, true, true, true])) (fun K s => evC (m20E k) (fun _ f => f) (m20I k) 0 m20A (m20c [true, true, true, false, true, true, true]) s K) (m20K10 (fun _ f => f) k) j) t4 t14 t15 t16

noncomputable def m20F (k : Nat) (p0 : (List Int)) : Option (Int × Int) := m20X (m20F15 k k) k p0

theorem m20q (k : Nat) (p0 : (List Int)) : evC (m20E k) (fun _ f => f) (m20I k) 0 m20A (m20c []) (stAt Try.f20 (argSs [.leaf (.val (.row (.int .i64)))] p0) (fun _ => none) 0) (retK Try.prog Try.f20 [.leaf (.val (.int .u32)), .leaf (.val (.int .i64))]) = m20F k p0 := by
    have e15 : m20F15 k k = (fun t4' t14' t15' t16' => loopN (normAt 0 m20A true (m20c [true, true, true, false, true, true, true])) (fun K s => evC (m20E k) (fun _ f => f) (m20I k) 0 m20A (m20c [true, true, true, false, true, true, true]) s K) (m20K10 (fun _ f => f) k) k (m20S15 t4' t14' t15' t16')) := funext fun t4' => funext fun t14' => funext fun t15' => funext fun t16' => (m20q15 k k t4' t14' t15' t16').symm
    show _ = m20X (m20F15 k k) k p0
    rw [e15]
    exact m20x (fun _ f => f) k p0

noncomputable def m20sp : Spec := { ps := [.leaf (.val (.row (.int .i64)))], rs := [.leaf (.val (.int .u32)), .leaf (.val (.int .i64))], f := fun k a => m20F k a }

theorem m20ok (k : Nat) : EnvOk (m20E k) := envOk_of (l := [(30, m30sp), (31, m31sp)]) progNames progMixed rfl (.cons ⟨m30con k, Try.f30, by kernel_rfl, by kernel_rfl⟩ (.cons ⟨m31con k, Try.f31, by kernel_rfl, by kernel_rfl⟩ (.nil)))

theorem m20con (k : Nat) : Contract Try.prog k 20 m20sp := contract_of (E := m20E k) (m20ok k) (A := only 20 m20A) (d := 3) (c := m20c []) (by kernel_rfl) (by kernel_rfl) fun a _ h => (m20q k a).trans h

noncomputable def m18A : Anns := tabA []
noncomputable def m18E (k : Nat) : Env := { P := Try.prog, k := k, G := tabG [(17, m17sp), (20, m20sp)] }
noncomputable def m18c (p : List Bool) : Code := sub p (bodyOf Try.f18)
noncomputable def m18I (k : Nat) : Inl Bool := inlOf (m18E k) (only 18 m18A) 3
noncomputable def m18K0 (M : Cut Bool) (k : Nat) : Exit → St → Option Bool := seqK (normAt 0 m18A false (m18c [true])) (cutK M m18A (m18c [true]) fun s => evC (m18E k) M (m18I k) 0 m18A (m18c [true]) s (retK Try.prog Try.f18 [.leaf (.val .bool)])) (retK Try.prog Try.f18 [.leaf (.val .bool)])
noncomputable def m18K1 (M : Cut Bool) (k : Nat) : Exit → St → Option Bool := seqK (normAt 0 m18A false (m18c [true, true])) (cutK M m18A (m18c [true, true]) fun s => evC (m18E k) M (m18I k) 0 m18A (m18c [true, true]) s (retK Try.prog Try.f18 [.leaf (.val .bool)])) (retK Try.prog Try.f18 [.leaf (.val .bool)])
noncomputable def m18K2 (M : Cut Bool) (k : Nat) : Exit → St → Option Bool := seqK (normAt 0 m18A false (m18c [true, true, true])) (cutK M m18A (m18c [true, true, true]) fun s => evC (m18E k) M (m18I k) 0 m18A (m18c [true, true, true]) s (retK Try.prog Try.f18 [.leaf (.val .bool)])) (retK Try.prog Try.f18 [.leaf (.val .bool)])
noncomputable def m18K3 (M : Cut Bool) (k : Nat) : Exit → St → Option Bool := seqK (normAt 0 m18A false (m18c [true, true, true, true])) (cutK M m18A (m18c [true, true, true, true]) fun s => evC (m18E k) M (m18I k) 0 m18A (m18c [true, true, true, true]) s (retK Try.prog Try.f18 [.leaf (.val .bool)])) (retK Try.prog Try.f18 [.leaf (.val .bool)])

noncomputable def m18X (k : Nat) : Option Bool := (Option.bind (m17F k 67305985 0) fun (c2 : (Int × Int)) => (Option.bind (m20F k (List.set (List.set (List.set (List.set (List.replicate 4 0) 0 1) 1 2) 2 3) 3 4)) fun (c3 : (Int × Int)) => (if eqI (Prod.snd c2) 0 = true then (if eqI (Prod.snd c3) 0 = true then (if eqI (Prod.fst c2) 1 = true then some (eqI (Prod.fst c3) 67305985) else some (false)) else some (false)) else some (false))))

theorem m18x (M : Cut Bool) (k : Nat) : evC (m18E k) M (m18I k) 0 m18A (m18c []) (stAt Try.f18 (argSs [] ()) (fun _ => none) 0) (retK Try.prog Try.f18 [.leaf (.val .bool)]) = m18X k := by kernel_rfl

noncomputable def m18F (k : Nat) : Option Bool := m18X k

theorem m18q (k : Nat) : evC (m18E k) (fun _ f => f) (m18I k) 0 m18A (m18c []) (stAt Try.f18 (argSs [] ()) (fun _ => none) 0) (retK Try.prog Try.f18 [.leaf (.val .bool)]) = m18F k := by
    show _ = m18X k
    exact m18x (fun _ f => f) k

noncomputable def m18sp : Spec := { ps := [], rs := [.leaf (.val .bool)], f := fun k a => m18F k }

theorem m18ok (k : Nat) : EnvOk (m18E k) := envOk_of (l := [(17, m17sp), (20, m20sp)]) progNames progMixed rfl (.cons ⟨m17con k, Try.f17, by kernel_rfl, by kernel_rfl⟩ (.cons ⟨m20con k, Try.f20, by kernel_rfl, by kernel_rfl⟩ (.nil)))

theorem m18con (k : Nat) : Contract Try.prog k 18 m18sp := contract_of (E := m18E k) (m18ok k) (A := only 18 m18A) (d := 3) (c := m18c []) (by kernel_rfl) (by kernel_rfl) fun a _ h => (m18q k).trans h

noncomputable def m19A : Anns := tabA []
noncomputable def m19E (k : Nat) : Env := { P := Try.prog, k := k, G := tabG [(14, m14sp)] }
noncomputable def m19c (p : List Bool) : Code := sub p (bodyOf Try.f19)
noncomputable def m19I (k : Nat) : Inl Int := inlOf (m19E k) (only 19 m19A) 3
noncomputable def m19K0 (M : Cut Int) (k : Nat) : Exit → St → Option Int := seqK (normAt 0 m19A false (m19c [true])) (cutK M m19A (m19c [true]) fun s => evC (m19E k) M (m19I k) 0 m19A (m19c [true]) s (retK Try.prog Try.f19 [.leaf (.val (.int .i64))])) (retK Try.prog Try.f19 [.leaf (.val (.int .i64))])
noncomputable def m19K1 (M : Cut Int) (k : Nat) : Exit → St → Option Int := seqK (normAt 0 m19A false (m19c [true, true])) (cutK M m19A (m19c [true, true]) fun s => evC (m19E k) M (m19I k) 0 m19A (m19c [true, true]) s (retK Try.prog Try.f19 [.leaf (.val (.int .i64))])) (retK Try.prog Try.f19 [.leaf (.val (.int .i64))])
noncomputable def m19K2 (M : Cut Int) (k : Nat) : Exit → St → Option Int := seqK (normAt 0 m19A false (m19c [true, false, true])) (cutK M m19A (m19c [true, false, true]) fun s => evC (m19E k) M (m19I k) 0 m19A (m19c [true, false, true]) s (m19K1 M k)) (m19K1 M k)
noncomputable def m19K3 (M : Cut Int) (k : Nat) : Exit → St → Option Int := seqK (normAt 0 m19A false (m19c [true, false, true, false, true])) (cutK M m19A (m19c [true, false, true, false, true]) fun s => evC (m19E k) M (m19I k) 0 m19A (m19c [true, false, true, false, true]) s (m19K1 M k)) (m19K1 M k)
noncomputable def m19K4 (M : Cut Int) (k : Nat) : Exit → St → Option Int := seqK (normAt 0 m19A false (m19c [true, true, true])) (cutK M m19A (m19c [true, true, true]) fun s => evC (m19E k) M (m19I k) 0 m19A (m19c [true, true, true]) s (retK Try.prog Try.f19 [.leaf (.val (.int .i64))])) (retK Try.prog Try.f19 [.leaf (.val (.int .i64))])

noncomputable def m19X (k : Nat) (p0 : Int) (p1 : Int) : Option Int := (if ltI p1 4 = true then (if leI 0 (wr IntKind.u64 (wr IntKind.i64 (8 * p1))) = true then some (wr IntKind.i64
  (bits BinOp.and IntKind.u32 (p0 / p2 (min (Int.toNat (wr IntKind.u64 (wr IntKind.i64 (8 * p1)))) 32)) 255)) else none) else (Option.bind (m14F k (wr IntKind.u32 (p0 + wr IntKind.u32 (wr IntKind.u32 p1 * 2654435769)))) fun (c4 : Int) => some (wr IntKind.i64 (bits BinOp.and IntKind.u32 c4 255))))

theorem m19x (M : Cut Int) (k : Nat) (p0 : Int) (p1 : Int) : evC (m19E k) M (m19I k) 0 m19A (m19c []) (stAt Try.f19 (argSs [.leaf (.val (.int .u32)), .leaf (.val (.int .i64))] (p0, p1)) (fun _ => none) 0) (retK Try.prog Try.f19 [.leaf (.val (.int .i64))]) = m19X k p0 p1 := by kernel_rfl

noncomputable def m19F (k : Nat) (p0 : Int) (p1 : Int) : Option Int := m19X k p0 p1

theorem m19q (k : Nat) (p0 : Int) (p1 : Int) : evC (m19E k) (fun _ f => f) (m19I k) 0 m19A (m19c []) (stAt Try.f19 (argSs [.leaf (.val (.int .u32)), .leaf (.val (.int .i64))] (p0, p1)) (fun _ => none) 0) (retK Try.prog Try.f19 [.leaf (.val (.int .i64))]) = m19F k p0 p1 := by
    show _ = m19X k p0 p1
    exact m19x (fun _ f => f) k p0 p1

noncomputable def m19sp : Spec := { ps := [.leaf (.val (.int .u32)), .leaf (.val (.int .i64))], rs := [.leaf (.val (.int .i64))], f := fun k a => m19F k a.1 a.2 }

theorem m19ok (k : Nat) : EnvOk (m19E k) := envOk_of (l := [(14, m14sp)]) progNames progMixed rfl (.cons ⟨m14con k, Try.f14, by kernel_rfl, by kernel_rfl⟩ (.nil))

theorem m19con (k : Nat) : Contract Try.prog k 19 m19sp := contract_of (E := m19E k) (m19ok k) (A := only 19 m19A) (d := 3) (c := m19c []) (by kernel_rfl) (by kernel_rfl) fun a _ h => (m19q k a.1 a.2).trans h

noncomputable def m21A : Anns := tabA []
noncomputable def m21E (k : Nat) : Env := { P := Try.prog, k := k, G := tabG [] }
noncomputable def m21c (p : List Bool) : Code := sub p (bodyOf Try.f21)
noncomputable def m21I (k : Nat) : Inl (List Int) := inlOf (m21E k) (only 21 m21A) 3
noncomputable def m21K0 (M : Cut (List Int)) (k : Nat) : Exit → St → Option (List Int) := seqK (normAt 0 m21A false (m21c [true])) (cutK M m21A (m21c [true]) fun s => evC (m21E k) M (m21I k) 0 m21A (m21c [true]) s (retK Try.prog Try.f21 [.leaf (.own (.int .i64) 3)])) (retK Try.prog Try.f21 [.leaf (.own (.int .i64) 3)])
noncomputable def m21K1 (M : Cut (List Int)) (k : Nat) : Exit → St → Option (List Int) := seqK (normAt 0 m21A false (m21c [true, true])) (cutK M m21A (m21c [true, true]) fun s => evC (m21E k) M (m21I k) 0 m21A (m21c [true, true]) s (retK Try.prog Try.f21 [.leaf (.own (.int .i64) 3)])) (retK Try.prog Try.f21 [.leaf (.own (.int .i64) 3)])
noncomputable def m21K2 (M : Cut (List Int)) (k : Nat) : Exit → St → Option (List Int) := seqK (normAt 0 m21A false (m21c [true, true, true])) (cutK M m21A (m21c [true, true, true]) fun s => evC (m21E k) M (m21I k) 0 m21A (m21c [true, true, true]) s (retK Try.prog Try.f21 [.leaf (.own (.int .i64) 3)])) (retK Try.prog Try.f21 [.leaf (.own (.int .i64) 3)])

noncomputable def m21X (k : Nat) (p0 : (List Int)) : Option (List Int) := (if leI (↑(List.length p0 * 8) : Int) 140737488355328 = true then some p0 else none)

theorem m21x (M : Cut (List Int)) (k : Nat) (p0 : (List Int)) : evC (m21E k) M (m21I k) 0 m21A (m21c []) (stAt Try.f21 (argSs [.leaf (.val (.row (.int .i64)))] p0) (fun _ => none) 0) (retK Try.prog Try.f21 [.leaf (.own (.int .i64) 3)]) = m21X k p0 := by kernel_rfl

noncomputable def m21F (k : Nat) (p0 : (List Int)) : Option (List Int) := m21X k p0

theorem m21q (k : Nat) (p0 : (List Int)) : evC (m21E k) (fun _ f => f) (m21I k) 0 m21A (m21c []) (stAt Try.f21 (argSs [.leaf (.val (.row (.int .i64)))] p0) (fun _ => none) 0) (retK Try.prog Try.f21 [.leaf (.own (.int .i64) 3)]) = m21F k p0 := by
    show _ = m21X k p0
    exact m21x (fun _ f => f) k p0

noncomputable def m21sp : Spec := { ps := [.leaf (.val (.row (.int .i64)))], rs := [.leaf (.own (.int .i64) 3)], f := fun k a => m21F k a }

theorem m21ok (k : Nat) : EnvOk (m21E k) := envOk_of (l := []) progNames progMixed rfl (.nil)

theorem m21con (k : Nat) : Contract Try.prog k 21 m21sp := contract_of (E := m21E k) (m21ok k) (A := only 21 m21A) (d := 3) (c := m21c []) (by kernel_rfl) (by kernel_rfl) fun a _ h => (m21q k a).trans h

noncomputable def m22A : Anns := tabA [(9, { keep := [0, 1, 5] })]
noncomputable def m22E (k : Nat) : Env := { P := Try.prog, k := k, G := tabG [] }
noncomputable def m22c (p : List Bool) : Code := sub p (bodyOf Try.f22)
noncomputable def m22I (k : Nat) : Inl Bool := inlOf (m22E k) (only 22 m22A) 3
noncomputable def m22K0 (M : Cut Bool) (k : Nat) : Exit → St → Option Bool := seqK (normAt 0 m22A false (m22c [true])) (cutK M m22A (m22c [true]) fun s => evC (m22E k) M (m22I k) 0 m22A (m22c [true]) s (retK Try.prog Try.f22 [.leaf (.val .bool)])) (retK Try.prog Try.f22 [.leaf (.val .bool)])
noncomputable def m22K1 (M : Cut Bool) (k : Nat) : Exit → St → Option Bool := seqK (normAt 0 m22A false (m22c [true, true])) (cutK M m22A (m22c [true, true]) fun s => evC (m22E k) M (m22I k) 0 m22A (m22c [true, true]) s (retK Try.prog Try.f22 [.leaf (.val .bool)])) (retK Try.prog Try.f22 [.leaf (.val .bool)])
noncomputable def m22K2 (M : Cut Bool) (k : Nat) : Exit → St → Option Bool := seqK (normAt 0 m22A false (m22c [true, false, true])) (cutK M m22A (m22c [true, false, true]) fun s => evC (m22E k) M (m22I k) 0 m22A (m22c [true, false, true]) s (m22K1 M k)) (m22K1 M k)
noncomputable def m22K3 (M : Cut Bool) (k : Nat) : Exit → St → Option Bool := seqK (normAt 0 m22A false (m22c [true, false, true, false, true])) (cutK M m22A (m22c [true, false, true, false, true]) fun s => evC (m22E k) M (m22I k) 0 m22A (m22c [true, false, true, false, true]) s (m22K1 M k)) (m22K1 M k)
noncomputable def m22K4 (M : Cut Bool) (k : Nat) : Exit → St → Option Bool := seqK (normAt 0 m22A false (m22c [true, true, true])) (cutK M m22A (m22c [true, true, true]) fun s => evC (m22E k) M (m22I k) 0 m22A (m22c [true, true, true]) s (retK Try.prog Try.f22 [.leaf (.val .bool)])) (retK Try.prog Try.f22 [.leaf (.val .bool)])
noncomputable def m22K5 (M : Cut Bool) (k : Nat) : Exit → St → Option Bool := seqK (normAt 0 m22A false (m22c [true, true, false, true])) (cutK M m22A (m22c [true, true, false, true]) fun s => evC (m22E k) M (m22I k) 0 m22A (m22c [true, true, false, true]) s (m22K4 M k)) (m22K4 M k)
noncomputable def m22K6 (M : Cut Bool) (k : Nat) : Exit → St → Option Bool := blockK 0 (m22K4 M k)
noncomputable def m22K7 (M : Cut Bool) (k : Nat) (L9 : St → Option Bool) : Exit → St → Option Bool := seqK (normAt 0 m22A true (m22c [true, true, false, true, true, true])) L9 (m22K6 M k)
noncomputable def m22K8 (M : Cut Bool) (k : Nat) (L9 : St → Option Bool) : Exit → St → Option Bool := seqK (normAt 0 m22A false (m22c [true, true, false, true, true, true, true])) (cutK M m22A (m22c [true, true, false, true, true, true, true]) fun s => evC (m22E k) M (m22I k) 0 m22A (m22c [true, true, false, true, true, true, true]) s (m22K7 M k L9)) (m22K7 M k L9)
noncomputable def m22K9 (M : Cut Bool) (k : Nat) (L9 : St → Option Bool) : Exit → St → Option Bool := seqK (normAt 0 m22A false (m22c [true, true, false, true, true, true, false, true])) (cutK M m22A (m22c [true, true, false, true, true, true, false, true]) fun s => evC (m22E k) M (m22I k) 0 m22A (m22c [true, true, false, true, true, true, false, true]) s (m22K8 M k L9)) (m22K8 M k L9)
noncomputable def m22K10 (M : Cut Bool) (k : Nat) (L9 : St → Option Bool) : Exit → St → Option Bool := seqK (normAt 0 m22A false (m22c [true, true, false, true, true, true, true, true])) (cutK M m22A (m22c [true, true, false, true, true, true, true, true]) fun s => evC (m22E k) M (m22I k) 0 m22A (m22c [true, true, false, true, true, true, true, true]) s (m22K7 M k L9)) (m22K7 M k L9)
noncomputable def m22K11 (M : Cut Bool) (k : Nat) (L9 : St → Option Bool) : Exit → St → Option Bool := blockK 1 (m22K10 M k L9)
noncomputable def m22K12 (M : Cut Bool) (k : Nat) (L9 : St → Option Bool) : Exit → St → Option Bool := seqK (normAt 0 m22A false (m22c [true, true, false, true, true, true, true, false, true, true])) (cutK M m22A (m22c [true, true, false, true, true, true, true, false, true, true]) fun s => evC (m22E k) M (m22I k) 0 m22A (m22c [true, true, false, true, true, true, true, false, true, true]) s (m22K11 M k L9)) (m22K11 M k L9)
noncomputable def m22K13 (M : Cut Bool) (k : Nat) (L9 : St → Option Bool) : Exit → St → Option Bool := seqK (normAt 0 m22A false (m22c [true, true, false, true, true, true, true, false, true, true, false, true])) (cutK M m22A (m22c [true, true, false, true, true, true, true, false, true, true, false, true]) fun s => evC (m22E k) M (m22I k) 0 m22A (m22c [true, true, false, true, true, true, true, false, true, true, false, true]) s (m22K11 M k L9)) (m22K11 M k L9)
noncomputable def m22K14 (M : Cut Bool) (k : Nat) : Exit → St → Option Bool := seqK (normAt 0 m22A false (m22c [true, true, true, true])) (cutK M m22A (m22c [true, true, true, true]) fun s => evC (m22E k) M (m22I k) 0 m22A (m22c [true, true, true, true]) s (retK Try.prog Try.f22 [.leaf (.val .bool)])) (retK Try.prog Try.f22 [.leaf (.val .bool)])
noncomputable def m22S9 (t0 : List Int) (t1 : List Int) (t5 : Int) : St := { n := 26, tm := slots [(0, .row (.int .i64) t0), (1, .row (.int .i64) t1), (5, .int .i64 t5)], tab := blks [], nx := 0 }

noncomputable def m22X (X9 : List Int → List Int → Int → Option Bool) (k : Nat) (p0 : (List Int)) (p1 : (List Int)) : Option Bool := (if (!eqI (↑(List.length p0) : Int) (↑(List.length p1) : Int)) = true then some (false) else X9 p0 p1 (0))

theorem m22x (M : Cut Bool) (k : Nat) (p0 : (List Int)) (p1 : (List Int)) : evC (m22E k) M (m22I k) 0 m22A (m22c []) (stAt Try.f22 (argSs [.leaf (.val (.row (.int .i64))), .leaf (.val (.row (.int .i64)))] (p0, p1)) (fun _ => none) 0) (retK Try.prog Try.f22 [.leaf (.val .bool)]) = m22X (fun t0' t1' t5' => loopN (normAt 0 m22A true (m22c [true, true, false, true, true, true])) (fun K s => evC (m22E k) M (m22I k) 0 m22A (m22c [true, true, false, true, true, true]) s K) (m22K6 M k) k (m22S9 t0' t1' t5')) k p0 p1 := by kernel_rfl

noncomputable def m22X9 (L9 : List Int → List Int → Int → Option Bool) (k : Nat) (t0 : List Int) (t1 : List Int) (t5 : Int) : Option Bool := (if ltI t5 (↑(List.length t0) : Int) = true then (if leI 0 t5 = true then (if ltI t5 (↑(List.length t0) : Int) = true then (if leI 0 t5 = true then (if ltI t5 (↑(List.length t1) : Int) = true then (if (!eqI (List.getD t0 (Int.toNat t5) 0) (List.getD t1 (Int.toNat t5) 0)) = true then some (false) else L9 t0 t1 (wr IntKind.i64 (t5 + 1))) else none) else none) else none) else none) else some (true))

theorem m22x9 (M : Cut Bool) (k : Nat) (L9 : St → Option Bool) (t0 : List Int) (t1 : List Int) (t5 : Int) : evC (m22E k) M (m22I k) 0 m22A (m22c [true, true, false, true, true, true]) (m22S9 t0 t1 t5) (seqK (normAt 0 m22A true (m22c [true, true, false, true, true, true])) L9 (m22K6 M k)) = m22X9 (fun t0' t1' t5' => L9 (m22S9 t0' t1' t5')) k t0 t1 t5 := by kernel_rfl

noncomputable def m22F9 (k : Nat) : Nat → List Int → List Int → Int → Option Bool
  | 0, _, _, _ => none
  | j + 1, t0, t1, t5 => m22X9 (m22F9 k j) k t0 t1 t5

theorem m22q9 (k : Nat) : ∀ (j : Nat) (t0 : List Int) (t1 : List Int) (t5 : Int), loopN (normAt 0 m22A true (m22c [true, true, false, true, true, true])) (fun K s => evC (m22E k) (fun _ f => f) (m22I k) 0 m22A (m22c [true, true, false, true, true, true]) s K) (m22K6 (fun _ f => f) k) j (m22S9 t0 t1 t5) = m22F9 k j t0 t1 t5
  | 0, _, _, _ => rfl
  | j + 1, t0, t1, t5 => by
    have e0 : m22F9 k j = (fun t0' t1' t5' => loopN (normAt 0 m22A true (m22c [true, true, false, true, true, true])) (fun K s => evC (m22E k) (fun _ f => f) (m22I k) 0 m22A (m22c [true, true, false, true, true, true]) s K) (m22K6 (fun _ f => f) k) j (m22S9 t0' t1' t5')) := funext fun t0' => funext fun t1' => funext fun t5' => (m22q9 k j t0' t1' t5').symm
    show _ = m22X9 (m22F9 k j) k t0 t1 t5
    rw [e0]
    exact m22x9 (fun _ f => f) k (loopN (normAt 0 m22A true (m22c [true, true, false, true, true, true])) (fun K s => evC (m22E k) (fun _ f => f) (m22I k) 0 m22A (m22c [true, true, false, true, true, true]) s K) (m22K6 (fun _ f => f) k) j) t0 t1 t5

noncomputable def m22F (k : Nat) (p0 : (List Int)) (p1 : (List Int)) : Option Bool := m22X (m22F9 k k) k p0 p1

theorem m22q (k : Nat) (p0 : (List Int)) (p1 : (List Int)) : evC (m22E k) (fun _ f => f) (m22I k) 0 m22A (m22c []) (stAt Try.f22 (argSs [.leaf (.val (.row (.int .i64))), .leaf (.val (.row (.int .i64)))] (p0, p1)) (fun _ => none) 0) (retK Try.prog Try.f22 [.leaf (.val .bool)]) = m22F k p0 p1 := by
    have e9 : m22F9 k k = (fun t0' t1' t5' => loopN (normAt 0 m22A true (m22c [true, true, false, true, true, true])) (fun K s => evC (m22E k) (fun _ f => f) (m22I k) 0 m22A (m22c [true, true, false, true, true, true]) s K) (m22K6 (fun _ f => f) k) k (m22S9 t0' t1' t5')) := funext fun t0' => funext fun t1' => funext fun t5' => (m22q9 k k t0' t1' t5').symm
    show _ = m22X (m22F9 k k) k p0 p1
    rw [e9]
    exact m22x (fun _ f => f) k p0 p1

noncomputable def m22sp : Spec := { ps := [.leaf (.val (.row (.int .i64))), .leaf (.val (.row (.int .i64)))], rs := [.leaf (.val .bool)], f := fun k a => m22F k a.1 a.2 }

theorem m22ok (k : Nat) : EnvOk (m22E k) := envOk_of (l := []) progNames progMixed rfl (.nil)

theorem m22con (k : Nat) : Contract Try.prog k 22 m22sp := contract_of (E := m22E k) (m22ok k) (A := only 22 m22A) (d := 3) (c := m22c []) (by kernel_rfl) (by kernel_rfl) fun a _ h => (m22q k a.1 a.2).trans h

noncomputable def m36A : Anns := tabA []
noncomputable def m36E (k : Nat) : Env := { P := Try.prog, k := k, G := tabG [] }
noncomputable def m36c (p : List Bool) : Code := sub p (bodyOf Try.f36)
noncomputable def m36I (k : Nat) : Inl Int := inlOf (m36E k) (only 36 m36A) 3
noncomputable def m36K0 (M : Cut Int) (k : Nat) : Exit → St → Option Int := seqK (normAt 0 m36A false (m36c [true])) (cutK M m36A (m36c [true]) fun s => evC (m36E k) M (m36I k) 0 m36A (m36c [true]) s (retK Try.prog Try.f36 [.leaf (.val (.int .i64))])) (retK Try.prog Try.f36 [.leaf (.val (.int .i64))])
noncomputable def m36K1 (M : Cut Int) (k : Nat) : Exit → St → Option Int := seqK (normAt 0 m36A false (m36c [true, true])) (cutK M m36A (m36c [true, true]) fun s => evC (m36E k) M (m36I k) 0 m36A (m36c [true, true]) s (retK Try.prog Try.f36 [.leaf (.val (.int .i64))])) (retK Try.prog Try.f36 [.leaf (.val (.int .i64))])

noncomputable def m36X (k : Nat) (p0 : Int) : Option Int := (if leI 0 24 = true then (if leI 0 (p0 / 16777216) = true then (Option.bind ((ByteArray.mk
    (List.toArray
      (List.append
        (List.append
          [0, 1, 1, 2, 1, 2, 2, 3, 1, 2, 2, 3, 2, 3, 3, 4, 1, 2, 2, 3, 2, 3, 3, 4, 2, 3, 3, 4, 3, 4, 4, 5, 1, 2, 2, 3,
            2, 3, 3, 4, 2, 3, 3, 4, 3, 4, 4, 5, 2, 3, 3, 4, 3, 4, 4, 5, 3, 4, 4, 5, 4, 5, 5, 6]
          [1, 2, 2, 3, 2, 3, 3, 4, 2, 3, 3, 4, 3, 4, 4, 5, 2, 3, 3, 4, 3, 4, 4, 5, 3, 4, 4, 5, 4, 5, 5, 6, 2, 3, 3, 4,
            3, 4, 4, 5, 3, 4, 4, 5, 4, 5, 5, 6, 3, 4, 4, 5, 4, 5, 5, 6, 4, 5, 5, 6, 5, 6, 6, 7])
        (List.append
          [1, 2, 2, 3, 2, 3, 3, 4, 2, 3, 3, 4, 3, 4, 4, 5, 2, 3, 3, 4, 3, 4, 4, 5, 3, 4, 4, 5, 4, 5, 5, 6, 2, 3, 3, 4,
            3, 4, 4, 5, 3, 4, 4, 5, 4, 5, 5, 6, 3, 4, 4, 5, 4, 5, 5, 6, 4, 5, 5, 6, 5, 6, 6, 7]
          [2, 3, 3, 4, 3, 4, 4, 5, 3, 4, 4, 5, 4, 5, 5, 6, 3, 4, 4, 5, 4, 5, 5, 6, 4, 5, 5, 6, 5, 6, 6, 7, 3, 4, 4, 5,
            4, 5, 5, 6, 4, 5, 5, 6, 5, 6, 6, 7, 4, 5, 5, 6, 5, 6, 6, 7, 5, 6, 6, 7, 6, 7, 7,
            8]))))[Int.toNat (p0 / 16777216)]?) fun (c3 : UInt8) => (if leI 0 16 = true then (if leI 0 (bits BinOp.and IntKind.u32 (p0 / 65536) 255) = true then (Option.bind ((ByteArray.mk
    (List.toArray
      (List.append
        (List.append
          [0, 1, 1, 2, 1, 2, 2, 3, 1, 2, 2, 3, 2, 3, 3, 4, 1, 2, 2, 3, 2, 3, 3, 4, 2, 3, 3, 4, 3, 4, 4, 5, 1, 2, 2, 3,
            2, 3, 3, 4, 2, 3, 3, 4, 3, 4, 4, 5, 2, 3, 3, 4, 3, 4, 4, 5, 3, 4, 4, 5, 4, 5, 5, 6]
          [1, 2, 2, 3, 2, 3, 3, 4, 2, 3, 3, 4, 3, 4, 4, 5, 2, 3, 3, 4, 3, 4, 4, 5, 3, 4, 4, 5, 4, 5, 5, 6, 2, 3, 3, 4,
            3, 4, 4, 5, 3, 4, 4, 5, 4, 5, 5, 6, 3, 4, 4, 5, 4, 5, 5, 6, 4, 5, 5, 6, 5, 6, 6, 7])
        (List.append
          [1, 2, 2, 3, 2, 3, 3, 4, 2, 3, 3, 4, 3, 4, 4, 5, 2, 3, 3, 4, 3, 4, 4, 5, 3, 4, 4, 5, 4, 5, 5, 6, 2, 3, 3, 4,
            3, 4, 4, 5, 3, 4, 4, 5, 4, 5, 5, 6, 3, 4, 4, 5, 4, 5, 5, 6, 4, 5, 5, 6, 5, 6, 6, 7]
          [2, 3, 3, 4, 3, 4, 4, 5, 3, 4, 4, 5, 4, 5, 5, 6, 3, 4, 4, 5, 4, 5, 5, 6, 4, 5, 5, 6, 5, 6, 6, 7, 3, 4, 4, 5,
            4, 5, 5, 6, 4, 5, 5, 6, 5, 6, 6, 7, 4, 5, 5, 6, 5, 6, 6, 7, 5, 6, 6, 7, 6, 7, 7,
            8]))))[Int.toNat (bits BinOp.and IntKind.u32 (p0 / 65536) 255)]?) fun (c4 : UInt8) => (if leI 0 8 = true then (if leI 0 (bits BinOp.and IntKind.u32 (p0 / 256) 255) = true then (Option.bind ((ByteArray.mk
    (List.toArray
      (List.append
        (List.append
          [0, 1, 1, 2, 1, 2, 2, 3, 1, 2, 2, 3, 2, 3, 3, 4, 1, 2, 2, 3, 2, 3, 3, 4, 2, 3, 3, 4, 3, 4, 4, 5, 1, 2, 2, 3,
            2, 3, 3, 4, 2, 3, 3, 4, 3, 4, 4, 5, 2, 3, 3, 4, 3, 4, 4, 5, 3, 4, 4, 5, 4, 5, 5, 6]
          [1, 2, 2, 3, 2, 3, 3, 4, 2, 3, 3, 4, 3, 4, 4, 5, 2, 3, 3, 4, 3, 4, 4, 5, 3, 4, 4, 5, 4, 5, 5, 6, 2, 3, 3, 4,
            3, 4, 4, 5, 3, 4, 4, 5, 4, 5, 5, 6, 3, 4, 4, 5, 4, 5, 5, 6, 4, 5, 5, 6, 5, 6, 6, 7])
        (List.append
          [1, 2, 2, 3, 2, 3, 3, 4, 2, 3, 3, 4, 3, 4, 4, 5, 2, 3, 3, 4, 3, 4, 4, 5, 3, 4, 4, 5, 4, 5, 5, 6, 2, 3, 3, 4,
            3, 4, 4, 5, 3, 4, 4, 5, 4, 5, 5, 6, 3, 4, 4, 5, 4, 5, 5, 6, 4, 5, 5, 6, 5, 6, 6, 7]
          [2, 3, 3, 4, 3, 4, 4, 5, 3, 4, 4, 5, 4, 5, 5, 6, 3, 4, 4, 5, 4, 5, 5, 6, 4, 5, 5, 6, 5, 6, 6, 7, 3, 4, 4, 5,
            4, 5, 5, 6, 4, 5, 5, 6, 5, 6, 6, 7, 4, 5, 5, 6, 5, 6, 6, 7, 5, 6, 6, 7, 6, 7, 7,
            8]))))[Int.toNat (bits BinOp.and IntKind.u32 (p0 / 256) 255)]?) fun (c5 : UInt8) => (if leI 0 (bits BinOp.and IntKind.u32 p0 255) = true then (Option.bind ((ByteArray.mk
    (List.toArray
      (List.append
        (List.append
          [0, 1, 1, 2, 1, 2, 2, 3, 1, 2, 2, 3, 2, 3, 3, 4, 1, 2, 2, 3, 2, 3, 3, 4, 2, 3, 3, 4, 3, 4, 4, 5, 1, 2, 2, 3,
            2, 3, 3, 4, 2, 3, 3, 4, 3, 4, 4, 5, 2, 3, 3, 4, 3, 4, 4, 5, 3, 4, 4, 5, 4, 5, 5, 6]
          [1, 2, 2, 3, 2, 3, 3, 4, 2, 3, 3, 4, 3, 4, 4, 5, 2, 3, 3, 4, 3, 4, 4, 5, 3, 4, 4, 5, 4, 5, 5, 6, 2, 3, 3, 4,
            3, 4, 4, 5, 3, 4, 4, 5, 4, 5, 5, 6, 3, 4, 4, 5, 4, 5, 5, 6, 4, 5, 5, 6, 5, 6, 6, 7])
        (List.append
          [1, 2, 2, 3, 2, 3, 3, 4, 2, 3, 3, 4, 3, 4, 4, 5, 2, 3, 3, 4, 3, 4, 4, 5, 3, 4, 4, 5, 4, 5, 5, 6, 2, 3, 3, 4,
            3, 4, 4, 5, 3, 4, 4, 5, 4, 5, 5, 6, 3, 4, 4, 5, 4, 5, 5, 6, 4, 5, 5, 6, 5, 6, 6, 7]
          [2, 3, 3, 4, 3, 4, 4, 5, 3, 4, 4, 5, 4, 5, 5, 6, 3, 4, 4, 5, 4, 5, 5, 6, 4, 5, 5, 6, 5, 6, 6, 7, 3, 4, 4, 5,
            4, 5, 5, 6, 4, 5, 5, 6, 5, 6, 6, 7, 4, 5, 5, 6, 5, 6, 6, 7, 5, 6, 6, 7, 6, 7, 7,
            8]))))[Int.toNat (bits BinOp.and IntKind.u32 p0 255)]?) fun (c6 : UInt8) => some (wr IntKind.i64
  (wr IntKind.u8
    (wr IntKind.u8 (wr IntKind.u8 ((↑(UInt8.toNat c3) : Int) + (↑(UInt8.toNat c4) : Int)) + (↑(UInt8.toNat c5) : Int)) +
      (↑(UInt8.toNat c6) : Int))))) else none)) else none) else none)) else none) else none)) else none) else none)

theorem m36x (M : Cut Int) (k : Nat) (p0 : Int) : evC (m36E k) M (m36I k) 0 m36A (m36c []) (stAt Try.f36 (argSs [.leaf (.val (.int .u32))] p0) (fun _ => none) 0) (retK Try.prog Try.f36 [.leaf (.val (.int .i64))]) = m36X k p0 := by kernel_rfl

noncomputable def m36F (k : Nat) (p0 : Int) : Option Int := m36X k p0

theorem m36q (k : Nat) (p0 : Int) : evC (m36E k) (fun _ f => f) (m36I k) 0 m36A (m36c []) (stAt Try.f36 (argSs [.leaf (.val (.int .u32))] p0) (fun _ => none) 0) (retK Try.prog Try.f36 [.leaf (.val (.int .i64))]) = m36F k p0 := by
    show _ = m36X k p0
    exact m36x (fun _ f => f) k p0

noncomputable def m36sp : Spec := { ps := [.leaf (.val (.int .u32))], rs := [.leaf (.val (.int .i64))], f := fun k a => m36F k a }

theorem m36ok (k : Nat) : EnvOk (m36E k) := envOk_of (l := []) progNames progMixed rfl (.nil)

theorem m36con (k : Nat) : Contract Try.prog k 36 m36sp := contract_of (E := m36E k) (m36ok k) (A := only 36 m36A) (d := 3) (c := m36c []) (by kernel_rfl) (by kernel_rfl) fun a _ h => (m36q k a).trans h

noncomputable def m35A : Anns := tabA []
noncomputable def m35E (k : Nat) : Env := { P := Try.prog, k := k, G := tabG [(36, m36sp)] }
noncomputable def m35c (p : List Bool) : Code := sub p (bodyOf Try.f35)
noncomputable def m35I (k : Nat) : Inl Int := inlOf (m35E k) (only 35 m35A) 3
noncomputable def m35K0 (M : Cut Int) (k : Nat) : Exit → St → Option Int := seqK (normAt 0 m35A false (m35c [true])) (cutK M m35A (m35c [true]) fun s => evC (m35E k) M (m35I k) 0 m35A (m35c [true]) s (retK Try.prog Try.f35 [.leaf (.val (.int .i64))])) (retK Try.prog Try.f35 [.leaf (.val (.int .i64))])
noncomputable def m35K1 (M : Cut Int) (k : Nat) : Exit → St → Option Int := seqK (normAt 0 m35A false (m35c [true, true])) (cutK M m35A (m35c [true, true]) fun s => evC (m35E k) M (m35I k) 0 m35A (m35c [true, true]) s (retK Try.prog Try.f35 [.leaf (.val (.int .i64))])) (retK Try.prog Try.f35 [.leaf (.val (.int .i64))])
noncomputable def m35K2 (M : Cut Int) (k : Nat) : Exit → St → Option Int := seqK (normAt 0 m35A false (m35c [true, false, true])) (cutK M m35A (m35c [true, false, true]) fun s => evC (m35E k) M (m35I k) 0 m35A (m35c [true, false, true]) s (m35K1 M k)) (m35K1 M k)
noncomputable def m35K3 (M : Cut Int) (k : Nat) : Exit → St → Option Int := seqK (normAt 0 m35A false (m35c [true, false, true, false, true])) (cutK M m35A (m35c [true, false, true, false, true]) fun s => evC (m35E k) M (m35I k) 0 m35A (m35c [true, false, true, false, true]) s (m35K1 M k)) (m35K1 M k)
noncomputable def m35K4 (M : Cut Int) (k : Nat) : Exit → St → Option Int := seqK (normAt 0 m35A false (m35c [true, true, true])) (cutK M m35A (m35c [true, true, true]) fun s => evC (m35E k) M (m35I k) 0 m35A (m35c [true, true, true]) s (retK Try.prog Try.f35 [.leaf (.val (.int .i64))])) (retK Try.prog Try.f35 [.leaf (.val (.int .i64))])

noncomputable def m35X (k : Nat) (p0 : Int) : Option Int := (if ltI p0 0 = true then some (0) else (Option.bind (m36F k (wr IntKind.u32 p0)) fun (c3 : Int) => some c3))

theorem m35x (M : Cut Int) (k : Nat) (p0 : Int) : evC (m35E k) M (m35I k) 0 m35A (m35c []) (stAt Try.f35 (argSs [.leaf (.val (.int .i64))] p0) (fun _ => none) 0) (retK Try.prog Try.f35 [.leaf (.val (.int .i64))]) = m35X k p0 := by kernel_rfl

noncomputable def m35F (k : Nat) (p0 : Int) : Option Int := m35X k p0

theorem m35q (k : Nat) (p0 : Int) : evC (m35E k) (fun _ f => f) (m35I k) 0 m35A (m35c []) (stAt Try.f35 (argSs [.leaf (.val (.int .i64))] p0) (fun _ => none) 0) (retK Try.prog Try.f35 [.leaf (.val (.int .i64))]) = m35F k p0 := by
    show _ = m35X k p0
    exact m35x (fun _ f => f) k p0

noncomputable def m35sp : Spec := { ps := [.leaf (.val (.int .i64))], rs := [.leaf (.val (.int .i64))], f := fun k a => m35F k a }

theorem m35ok (k : Nat) : EnvOk (m35E k) := envOk_of (l := [(36, m36sp)]) progNames progMixed rfl (.cons ⟨m36con k, Try.f36, by kernel_rfl, by kernel_rfl⟩ (.nil))

theorem m35con (k : Nat) : Contract Try.prog k 35 m35sp := contract_of (E := m35E k) (m35ok k) (A := only 35 m35A) (d := 3) (c := m35c []) (by kernel_rfl) (by kernel_rfl) fun a _ h => (m35q k a).trans h

noncomputable def m32A : Anns := tabA [(7, { keep := [0, 5, 10, 11, 12] })]
noncomputable def m32E (k : Nat) : Env := { P := Try.prog, k := k, G := tabG [(17, m17sp), (35, m35sp)] }
noncomputable def m32c (p : List Bool) : Code := sub p (bodyOf Try.f32)
noncomputable def m32I (k : Nat) : Inl Int := inlOf (m32E k) (only 32 m32A) 3
noncomputable def m32K0 (M : Cut Int) (k : Nat) : Exit → St → Option Int := seqK (normAt 0 m32A false (m32c [true])) (cutK M m32A (m32c [true]) fun s => evC (m32E k) M (m32I k) 0 m32A (m32c [true]) s (retK Try.prog Try.f32 [.leaf (.val (.int .i64))])) (retK Try.prog Try.f32 [.leaf (.val (.int .i64))])
noncomputable def m32K1 (M : Cut Int) (k : Nat) : Exit → St → Option Int := seqK (normAt 0 m32A false (m32c [true, true])) (cutK M m32A (m32c [true, true]) fun s => evC (m32E k) M (m32I k) 0 m32A (m32c [true, true]) s (retK Try.prog Try.f32 [.leaf (.val (.int .i64))])) (retK Try.prog Try.f32 [.leaf (.val (.int .i64))])
noncomputable def m32K2 (M : Cut Int) (k : Nat) : Exit → St → Option Int := seqK (normAt 0 m32A false (m32c [true, true, true])) (cutK M m32A (m32c [true, true, true]) fun s => evC (m32E k) M (m32I k) 0 m32A (m32c [true, true, true]) s (retK Try.prog Try.f32 [.leaf (.val (.int .i64))])) (retK Try.prog Try.f32 [.leaf (.val (.int .i64))])
noncomputable def m32K3 (M : Cut Int) (k : Nat) : Exit → St → Option Int := seqK (normAt 0 m32A false (m32c [true, true, false, true])) (cutK M m32A (m32c [true, true, false, true]) fun s => evC (m32E k) M (m32I k) 0 m32A (m32c [true, true, false, true]) s (m32K2 M k)) (m32K2 M k)
noncomputable def m32K4 (M : Cut Int) (k : Nat) : Exit → St → Option Int := blockK 0 (m32K2 M k)
noncomputable def m32K5 (M : Cut Int) (k : Nat) (L7 : St → Option Int) : Exit → St → Option Int := seqK (normAt 0 m32A true (m32c [true, true, false, true, true, true])) L7 (m32K4 M k)
noncomputable def m32K6 (M : Cut Int) (k : Nat) (L7 : St → Option Int) : Exit → St → Option Int := seqK (normAt 0 m32A false (m32c [true, true, false, true, true, true, true])) (cutK M m32A (m32c [true, true, false, true, true, true, true]) fun s => evC (m32E k) M (m32I k) 0 m32A (m32c [true, true, false, true, true, true, true]) s (m32K5 M k L7)) (m32K5 M k L7)
noncomputable def m32K7 (M : Cut Int) (k : Nat) (L7 : St → Option Int) : Exit → St → Option Int := seqK (normAt 0 m32A false (m32c [true, true, false, true, true, true, true, true])) (cutK M m32A (m32c [true, true, false, true, true, true, true, true]) fun s => evC (m32E k) M (m32I k) 0 m32A (m32c [true, true, false, true, true, true, true, true]) s (m32K5 M k L7)) (m32K5 M k L7)
noncomputable def m32K8 (M : Cut Int) (k : Nat) (L7 : St → Option Int) : Exit → St → Option Int := seqK (normAt 0 m32A false (m32c [true, true, false, true, true, true, true, true, true])) (cutK M m32A (m32c [true, true, false, true, true, true, true, true, true]) fun s => evC (m32E k) M (m32I k) 0 m32A (m32c [true, true, false, true, true, true, true, true, true]) s (m32K5 M k L7)) (m32K5 M k L7)
noncomputable def m32K9 (M : Cut Int) (k : Nat) (L7 : St → Option Int) : Exit → St → Option Int := blockK 1 (m32K8 M k L7)
noncomputable def m32K10 (M : Cut Int) (k : Nat) (L7 : St → Option Int) : Exit → St → Option Int := seqK (normAt 0 m32A false (m32c [true, true, false, true, true, true, true, true, false, true, true])) (cutK M m32A (m32c [true, true, false, true, true, true, true, true, false, true, true]) fun s => evC (m32E k) M (m32I k) 0 m32A (m32c [true, true, false, true, true, true, true, true, false, true, true]) s (m32K9 M k L7)) (m32K9 M k L7)
noncomputable def m32K11 (M : Cut Int) (k : Nat) (L7 : St → Option Int) : Exit → St → Option Int := seqK (normAt 0 m32A false (m32c [true, true, false, true, true, true, true, true, false, true, true, true])) (cutK M m32A (m32c [true, true, false, true, true, true, true, true, false, true, true, true]) fun s => evC (m32E k) M (m32I k) 0 m32A (m32c [true, true, false, true, true, true, true, true, false, true, true, true]) s (m32K9 M k L7)) (m32K9 M k L7)
noncomputable def m32K12 (M : Cut Int) (k : Nat) : Exit → St → Option Int := seqK (normAt 0 m32A false (m32c [true, true, true, true])) (cutK M m32A (m32c [true, true, true, true]) fun s => evC (m32E k) M (m32I k) 0 m32A (m32c [true, true, true, true]) s (retK Try.prog Try.f32 [.leaf (.val (.int .i64))])) (retK Try.prog Try.f32 [.leaf (.val (.int .i64))])
noncomputable def m32S7 (t0 : Int) (t5 : Int) (t10 : List (Int × Int)) (t11 : Int) (t12 : Int) : St := { n := 32, tm := slots [(0, .int .u32 t0), (5, .int .i64 t5), (10, .row (.pair (.int .i64) (.int .i64)) t10), (11, .int .i64 t11), (12, .int .i64 t12)], tab := blks [], nx := 0 }

noncomputable def m32X (X7 : Int → Int → List (Int × Int) → Int → Int → Option Int) (k : Nat) (p0 : Int) (p1 : (List (Int × Int))) : Option Int := X7 p0 (0) p1 ((↑(List.length p1) : Int)) (0)

theorem m32x (M : Cut Int) (k : Nat) (p0 : Int) (p1 : (List (Int × Int))) : evC (m32E k) M (m32I k) 0 m32A (m32c []) (stAt Try.f32 (argSs [.leaf (.val (.int .u32)), .leaf (.val (.row (.pair (.int .i64) (.int .i64))))] (p0, p1)) (fun _ => none) 0) (retK Try.prog Try.f32 [.leaf (.val (.int .i64))]) = m32X (fun t0' t5' t10' t11' t12' => loopN (normAt 0 m32A true (m32c [true, true, false, true, true, true])) (fun K s => evC (m32E k) M (m32I k) 0 m32A (m32c [true, true, false, true, true, true]) s K) (m32K4 M k) k (m32S7 t0' t5' t10' t11' t12')) k p0 p1 := by kernel_rfl

noncomputable def m32X7 (L7 : Int → Int → List (Int × Int) → Int → Int → Option Int) (k : Nat) (t0 : Int) (t5 : Int) (t10 : List (Int × Int)) (t11 : Int) (t12 : Int) : Option Int := (if ltI t12 t11 = true then (if leI 0 t12 = true then (if ltI t12 (↑(List.length t10) : Int) = true then (Option.bind (m17F k t0 (Prod.fst (List.getD t10 (Int.toNat t12) (0, 0)))) fun (c8 : (Int × Int)) => (Option.bind (m35F k (bits BinOp.xor IntKind.i64 (Prod.fst c8) (Prod.snd (List.getD t10 (Int.toNat t12) (0, 0))))) fun (c9 : Int) => L7 t0 (wr IntKind.i64 (t5 + c9)) t10 t11 (wr IntKind.i64 (t12 + 1)))) else none) else none) else some t5)

theorem m32x7 (M : Cut Int) (k : Nat) (L7 : St → Option Int) (t0 : Int) (t5 : Int) (t10 : List (Int × Int)) (t11 : Int) (t12 : Int) : evC (m32E k) M (m32I k) 0 m32A (m32c [true, true, false, true, true, true]) (m32S7 t0 t5 t10 t11 t12) (seqK (normAt 0 m32A true (m32c [true, true, false, true, true, true])) L7 (m32K4 M k)) = m32X7 (fun t0' t5' t10' t11' t12' => L7 (m32S7 t0' t5' t10' t11' t12')) k t0 t5 t10 t11 t12 := by kernel_rfl

noncomputable def m32F7 (k : Nat) : Nat → Int → Int → List (Int × Int) → Int → Int → Option Int
  | 0, _, _, _, _, _ => none
  | j + 1, t0, t5, t10, t11, t12 => m32X7 (m32F7 k j) k t0 t5 t10 t11 t12

theorem m32q7 (k : Nat) : ∀ (j : Nat) (t0 : Int) (t5 : Int) (t10 : List (Int × Int)) (t11 : Int) (t12 : Int), loopN (normAt 0 m32A true (m32c [true, true, false, true, true, true])) (fun K s => evC (m32E k) (fun _ f => f) (m32I k) 0 m32A (m32c [true, true, false, true, true, true]) s K) (m32K4 (fun _ f => f) k) j (m32S7 t0 t5 t10 t11 t12) = m32F7 k j t0 t5 t10 t11 t12
  | 0, _, _, _, _, _ => rfl
  | j + 1, t0, t5, t10, t11, t12 => by
    have e0 : m32F7 k j = (fun t0' t5' t10' t11' t12' => loopN (normAt 0 m32A true (m32c [true, true, false, true, true, true])) (fun K s => evC (m32E k) (fun _ f => f) (m32I k) 0 m32A (m32c [true, true, false, true, true, true]) s K) (m32K4 (fun _ f => f) k) j (m32S7 t0' t5' t10' t11' t12')) := funext fun t0' => funext fun t5' => funext fun t10' => funext fun t11' => funext fun t12' => (m32q7 k j t0' t5' t10' t11' t12').symm
    show _ = m32X7 (m32F7 k j) k t0 t5 t10 t11 t12
    rw [e0]
    exact m32x7 (fun _ f => f) k (loopN (normAt 0 m32A true (m32c [true, true, false, true, true, true])) (fun K s => evC (m32E k) (fun _ f => f) (m32I k) 0 m32A (m32c [true, true, false, true, true, true]) s K) (m32K4 (fun _ f => f) k) j) t0 t5 t10 t11 t12

noncomputable def m32F (k : Nat) (p0 : Int) (p1 : (List (Int × Int))) : Option Int := m32X (m32F7 k k) k p0 p1

theorem m32q (k : Nat) (p0 : Int) (p1 : (List (Int × Int))) : evC (m32E k) (fun _ f => f) (m32I k) 0 m32A (m32c []) (stAt Try.f32 (argSs [.leaf (.val (.int .u32)), .leaf (.val (.row (.pair (.int .i64) (.int .i64))))] (p0, p1)) (fun _ => none) 0) (retK Try.prog Try.f32 [.leaf (.val (.int .i64))]) = m32F k p0 p1 := by
    have e7 : m32F7 k k = (fun t0' t5' t10' t11' t12' => loopN (normAt 0 m32A true (m32c [true, true, false, true, true, true])) (fun K s => evC (m32E k) (fun _ f => f) (m32I k) 0 m32A (m32c [true, true, false, true, true, true]) s K) (m32K4 (fun _ f => f) k) k (m32S7 t0' t5' t10' t11' t12')) := funext fun t0' => funext fun t5' => funext fun t10' => funext fun t11' => funext fun t12' => (m32q7 k k t0' t5' t10' t11' t12').symm
    show _ = m32X (m32F7 k k) k p0 p1
    rw [e7]
    exact m32x (fun _ f => f) k p0 p1

noncomputable def m32sp : Spec := { ps := [.leaf (.val (.int .u32)), .leaf (.val (.row (.pair (.int .i64) (.int .i64))))], rs := [.leaf (.val (.int .i64))], f := fun k a => m32F k a.1 a.2 }

theorem m32ok (k : Nat) : EnvOk (m32E k) := envOk_of (l := [(17, m17sp), (35, m35sp)]) progNames progMixed rfl (.cons ⟨m17con k, Try.f17, by kernel_rfl, by kernel_rfl⟩ (.cons ⟨m35con k, Try.f35, by kernel_rfl, by kernel_rfl⟩ (.nil)))

theorem m32con (k : Nat) : Contract Try.prog k 32 m32sp := contract_of (E := m32E k) (m32ok k) (A := only 32 m32A) (d := 3) (c := m32c []) (by kernel_rfl) (by kernel_rfl) fun a _ h => (m32q k a.1 a.2).trans h

noncomputable def m24A : Anns := tabA [(9, { keep := [0, 1, 11, 12, 13] }), (18, { keep := [0, 1] })]
noncomputable def m24E (k : Nat) : Env := { P := Try.prog, k := k, G := tabG [(32, m32sp)] }
noncomputable def m24c (p : List Bool) : Code := sub p (bodyOf Try.f24)
noncomputable def m24I (k : Nat) : Inl (Int × Int) := inlOf (m24E k) (only 24 m24A) 3
noncomputable def m24K0 (M : Cut (Int × Int)) (k : Nat) : Exit → St → Option (Int × Int) := seqK (normAt 0 m24A false (m24c [true])) (cutK M m24A (m24c [true]) fun s => evC (m24E k) M (m24I k) 0 m24A (m24c [true]) s (retK Try.prog Try.f24 [.leaf (.val (.int .i64)), .leaf (.val (.int .i64))])) (retK Try.prog Try.f24 [.leaf (.val (.int .i64)), .leaf (.val (.int .i64))])
noncomputable def m24K1 (M : Cut (Int × Int)) (k : Nat) : Exit → St → Option (Int × Int) := seqK (normAt 0 m24A false (m24c [true, true])) (cutK M m24A (m24c [true, true]) fun s => evC (m24E k) M (m24I k) 0 m24A (m24c [true, true]) s (retK Try.prog Try.f24 [.leaf (.val (.int .i64)), .leaf (.val (.int .i64))])) (retK Try.prog Try.f24 [.leaf (.val (.int .i64)), .leaf (.val (.int .i64))])
noncomputable def m24K2 (M : Cut (Int × Int)) (k : Nat) : Exit → St → Option (Int × Int) := seqK (normAt 0 m24A false (m24c [true, false, true])) (cutK M m24A (m24c [true, false, true]) fun s => evC (m24E k) M (m24I k) 0 m24A (m24c [true, false, true]) s (m24K1 M k)) (m24K1 M k)
noncomputable def m24K3 (M : Cut (Int × Int)) (k : Nat) : Exit → St → Option (Int × Int) := seqK (normAt 0 m24A false (m24c [true, false, true, false, true])) (cutK M m24A (m24c [true, false, true, false, true]) fun s => evC (m24E k) M (m24I k) 0 m24A (m24c [true, false, true, false, true]) s (m24K1 M k)) (m24K1 M k)
noncomputable def m24K4 (M : Cut (Int × Int)) (k : Nat) : Exit → St → Option (Int × Int) := seqK (normAt 0 m24A false (m24c [true, true, true])) (cutK M m24A (m24c [true, true, true]) fun s => evC (m24E k) M (m24I k) 0 m24A (m24c [true, true, true]) s (retK Try.prog Try.f24 [.leaf (.val (.int .i64)), .leaf (.val (.int .i64))])) (retK Try.prog Try.f24 [.leaf (.val (.int .i64)), .leaf (.val (.int .i64))])
noncomputable def m24K5 (M : Cut (Int × Int)) (k : Nat) : Exit → St → Option (Int × Int) := seqK (normAt 0 m24A false (m24c [true, true, false, true])) (cutK M m24A (m24c [true, true, false, true]) fun s => evC (m24E k) M (m24I k) 0 m24A (m24c [true, true, false, true]) s (m24K4 M k)) (m24K4 M k)
noncomputable def m24K6 (M : Cut (Int × Int)) (k : Nat) : Exit → St → Option (Int × Int) := blockK 0 (m24K4 M k)
noncomputable def m24K7 (M : Cut (Int × Int)) (k : Nat) (L9 : St → Option (Int × Int)) : Exit → St → Option (Int × Int) := seqK (normAt 0 m24A true (m24c [true, true, false, true, true, true])) L9 (m24K6 M k)
noncomputable def m24K8 (M : Cut (Int × Int)) (k : Nat) (L9 : St → Option (Int × Int)) : Exit → St → Option (Int × Int) := seqK (normAt 0 m24A false (m24c [true, true, false, true, true, true, true])) (cutK M m24A (m24c [true, true, false, true, true, true, true]) fun s => evC (m24E k) M (m24I k) 0 m24A (m24c [true, true, false, true, true, true, true]) s (m24K7 M k L9)) (m24K7 M k L9)
noncomputable def m24K9 (M : Cut (Int × Int)) (k : Nat) (L9 : St → Option (Int × Int)) : Exit → St → Option (Int × Int) := seqK (normAt 0 m24A false (m24c [true, true, false, true, true, true, true, true])) (cutK M m24A (m24c [true, true, false, true, true, true, true, true]) fun s => evC (m24E k) M (m24I k) 0 m24A (m24c [true, true, false, true, true, true, true, true]) s (m24K7 M k L9)) (m24K7 M k L9)
noncomputable def m24K10 (M : Cut (Int × Int)) (k : Nat) (L9 : St → Option (Int × Int)) : Exit → St → Option (Int × Int) := seqK (normAt 0 m24A false (m24c [true, true, false, true, true, true, true, true, true])) (cutK M m24A (m24c [true, true, false, true, true, true, true, true, true]) fun s => evC (m24E k) M (m24I k) 0 m24A (m24c [true, true, false, true, true, true, true, true, true]) s (m24K7 M k L9)) (m24K7 M k L9)
noncomputable def m24K11 (M : Cut (Int × Int)) (k : Nat) (L9 : St → Option (Int × Int)) : Exit → St → Option (Int × Int) := blockK 1 (m24K10 M k L9)
noncomputable def m24K12 (M : Cut (Int × Int)) (k : Nat) (L9 : St → Option (Int × Int)) : Exit → St → Option (Int × Int) := seqK (normAt 0 m24A false (m24c [true, true, false, true, true, true, true, true, false, true, true])) (cutK M m24A (m24c [true, true, false, true, true, true, true, true, false, true, true]) fun s => evC (m24E k) M (m24I k) 0 m24A (m24c [true, true, false, true, true, true, true, true, false, true, true]) s (m24K11 M k L9)) (m24K11 M k L9)
noncomputable def m24K13 (M : Cut (Int × Int)) (k : Nat) (L9 : St → Option (Int × Int)) : Exit → St → Option (Int × Int) := seqK (normAt 0 m24A false (m24c [true, true, false, true, true, true, true, true, false, true, true, true])) (cutK M m24A (m24c [true, true, false, true, true, true, true, true, false, true, true, true]) fun s => evC (m24E k) M (m24I k) 0 m24A (m24c [true, true, false, true, true, true, true, true, false, true, true, true]) s (m24K11 M k L9)) (m24K11 M k L9)
noncomputable def m24K14 (M : Cut (Int × Int)) (k : Nat) (L9 : St → Option (Int × Int)) : Exit → St → Option (Int × Int) := seqK (normAt 0 m24A false (m24c [true, true, false, true, true, true, true, true, false, true, true, true, false, true])) (cutK M m24A (m24c [true, true, false, true, true, true, true, true, false, true, true, true, false, true]) fun s => evC (m24E k) M (m24I k) 0 m24A (m24c [true, true, false, true, true, true, true, true, false, true, true, true, false, true]) s (m24K11 M k L9)) (m24K11 M k L9)
noncomputable def m24K15 (M : Cut (Int × Int)) (k : Nat) : Exit → St → Option (Int × Int) := seqK (normAt 0 m24A false (m24c [true, true, true, true])) (cutK M m24A (m24c [true, true, true, true]) fun s => evC (m24E k) M (m24I k) 0 m24A (m24c [true, true, true, true]) s (retK Try.prog Try.f24 [.leaf (.val (.int .i64)), .leaf (.val (.int .i64))])) (retK Try.prog Try.f24 [.leaf (.val (.int .i64)), .leaf (.val (.int .i64))])
noncomputable def m24S9 (t0 : Int) (t1 : List (Int × Int)) (t11 : List (Int × Int)) (t12 : Int) (t13 : Int) : St := { n := 39, tm := slots [(0, .int .u32 t0), (1, .row (.pair (.int .i64) (.int .i64)) t1), (11, .row (.pair (.int .i64) (.int .i64)) t11), (12, .int .i64 t12), (13, .int .i64 t13)], tab := blks [], nx := 0 }
noncomputable def m24S18 (t0 : Int) (t1 : List (Int × Int)) : St := { n := 39, tm := slots [(0, .int .u32 t0), (1, .row (.pair (.int .i64) (.int .i64)) t1)], tab := blks [], nx := 0 }

noncomputable def m24X (X9 : Int → List (Int × Int) → List (Int × Int) → Int → Int → Option (Int × Int)) (k : Nat) (p0 : Int) (p1 : (List (Int × Int))) : Option (Int × Int) := (if ltI 16 (↑(List.length p1) : Int) = true then some ((0, 2)) else X9 p0 p1 p1 ((↑(List.length p1) : Int)) (0))

theorem m24x (M : Cut (Int × Int)) (k : Nat) (p0 : Int) (p1 : (List (Int × Int))) : evC (m24E k) M (m24I k) 0 m24A (m24c []) (stAt Try.f24 (argSs [.leaf (.val (.int .u32)), .leaf (.val (.row (.pair (.int .i64) (.int .i64))))] (p0, p1)) (fun _ => none) 0) (retK Try.prog Try.f24 [.leaf (.val (.int .i64)), .leaf (.val (.int .i64))]) = m24X (fun t0' t1' t11' t12' t13' => loopN (normAt 0 m24A true (m24c [true, true, false, true, true, true])) (fun K s => evC (m24E k) M (m24I k) 0 m24A (m24c [true, true, false, true, true, true]) s K) (m24K6 M k) k (m24S9 t0' t1' t11' t12' t13')) k p0 p1 := by kernel_rfl

noncomputable def m24X9 (X18 : Int → List (Int × Int) → Option (Int × Int)) (L9 : Int → List (Int × Int) → List (Int × Int) → Int → Int → Option (Int × Int)) (k : Nat) (t0 : Int) (t1 : List (Int × Int)) (t11 : List (Int × Int)) (t12 : Int) (t13 : Int) : Option (Int × Int) := (if ltI t13 t12 = true then (if leI 0 t13 = true then (if ltI t13 (↑(List.length t11) : Int) = true then (if ltI (Prod.fst (List.getD t11 (Int.toNat t13) (0, 0))) 0 = true then some ((0, 1)) else (if ltI 255 (Prod.fst (List.getD t11 (Int.toNat t13) (0, 0))) = true then some ((0, 1)) else (if ltI (Prod.snd (List.getD t11 (Int.toNat t13) (0, 0))) 0 = true then some ((0, 1)) else (if ltI 255 (Prod.snd (List.getD t11 (Int.toNat t13) (0, 0))) = true then some ((0, 1)) else L9 t0 t1 t11 t12 (wr IntKind.i64 (t13 + 1)))))) else none) else none) else X18 t0 t1)

theorem m24x9 (M : Cut (Int × Int)) (k : Nat) (L9 : St → Option (Int × Int)) (t0 : Int) (t1 : List (Int × Int)) (t11 : List (Int × Int)) (t12 : Int) (t13 : Int) : evC (m24E k) M (m24I k) 0 m24A (m24c [true, true, false, true, true, true]) (m24S9 t0 t1 t11 t12 t13) (seqK (normAt 0 m24A true (m24c [true, true, false, true, true, true])) L9 (m24K6 M k)) = m24X9 (fun t0' t1' => M 18 (fun s => evC (m24E k) M (m24I k) 0 m24A (m24c [true, true, true]) s (retK Try.prog Try.f24 [.leaf (.val (.int .i64)), .leaf (.val (.int .i64))])) (m24S18 t0' t1')) (fun t0' t1' t11' t12' t13' => L9 (m24S9 t0' t1' t11' t12' t13')) k t0 t1 t11 t12 t13 := by kernel_rfl

noncomputable def m24X18 (k : Nat) (t0 : Int) (t1 : List (Int × Int)) : Option (Int × Int) := (Option.bind (m32F k t0 t1) fun (c4 : Int) => some ((c4, 0)))

theorem m24x18 (M : Cut (Int × Int)) (k : Nat) (t0 : Int) (t1 : List (Int × Int)) : evC (m24E k) M (m24I k) 0 m24A (m24c [true, true, true]) (m24S18 t0 t1) (retK Try.prog Try.f24 [.leaf (.val (.int .i64)), .leaf (.val (.int .i64))]) = m24X18 k t0 t1 := by kernel_rfl

noncomputable def m24F18 (k : Nat) (t0 : Int) (t1 : List (Int × Int)) : Option (Int × Int) := m24X18 k t0 t1

theorem m24q18 (k : Nat) (t0 : Int) (t1 : List (Int × Int)) : evC (m24E k) (fun _ f => f) (m24I k) 0 m24A (m24c [true, true, true]) (m24S18 t0 t1) (retK Try.prog Try.f24 [.leaf (.val (.int .i64)), .leaf (.val (.int .i64))]) = m24F18 k t0 t1 := by
    show _ = m24X18 k t0 t1
    exact m24x18 (fun _ f => f) k t0 t1

noncomputable def m24F9 (k : Nat) : Nat → Int → List (Int × Int) → List (Int × Int) → Int → Int → Option (Int × Int)
  | 0, _, _, _, _, _ => none
  | j + 1, t0, t1, t11, t12, t13 => m24X9 (m24F18 k) (m24F9 k j) k t0 t1 t11 t12 t13

theorem m24q9 (k : Nat) : ∀ (j : Nat) (t0 : Int) (t1 : List (Int × Int)) (t11 : List (Int × Int)) (t12 : Int) (t13 : Int), loopN (normAt 0 m24A true (m24c [true, true, false, true, true, true])) (fun K s => evC (m24E k) (fun _ f => f) (m24I k) 0 m24A (m24c [true, true, false, true, true, true]) s K) (m24K6 (fun _ f => f) k) j (m24S9 t0 t1 t11 t12 t13) = m24F9 k j t0 t1 t11 t12 t13
  | 0, _, _, _, _, _ => rfl
  | j + 1, t0, t1, t11, t12, t13 => by
    have e0 : m24F9 k j = (fun t0' t1' t11' t12' t13' => loopN (normAt 0 m24A true (m24c [true, true, false, true, true, true])) (fun K s => evC (m24E k) (fun _ f => f) (m24I k) 0 m24A (m24c [true, true, false, true, true, true]) s K) (m24K6 (fun _ f => f) k) j (m24S9 t0' t1' t11' t12' t13')) := funext fun t0' => funext fun t1' => funext fun t11' => funext fun t12' => funext fun t13' => (m24q9 k j t0' t1' t11' t12' t13').symm
    have e18 : m24F18 k = (fun t0' t1' => evC (m24E k) (fun _ f => f) (m24I k) 0 m24A (m24c [true, true, true]) (m24S18 t0' t1') (retK Try.prog Try.f24 [.leaf (.val (.int .i64)), .leaf (.val (.int .i64))])) := funext fun t0' => funext fun t1' => (m24q18 k t0' t1').symm
    show _ = m24X9 (m24F18 k) (m24F9 k j) k t0 t1 t11 t12 t13
    rw [e0, e18]
    exact m24x9 (fun _ f => f) k (loopN (normAt 0 m24A true (m24c [true, true, false, true, true, true])) (fun K s => evC (m24E k) (fun _ f => f) (m24I k) 0 m24A (m24c [true, true, false, true, true, true]) s K) (m24K6 (fun _ f => f) k) j) t0 t1 t11 t12 t13

noncomputable def m24F (k : Nat) (p0 : Int) (p1 : (List (Int × Int))) : Option (Int × Int) := m24X (m24F9 k k) k p0 p1

theorem m24q (k : Nat) (p0 : Int) (p1 : (List (Int × Int))) : evC (m24E k) (fun _ f => f) (m24I k) 0 m24A (m24c []) (stAt Try.f24 (argSs [.leaf (.val (.int .u32)), .leaf (.val (.row (.pair (.int .i64) (.int .i64))))] (p0, p1)) (fun _ => none) 0) (retK Try.prog Try.f24 [.leaf (.val (.int .i64)), .leaf (.val (.int .i64))]) = m24F k p0 p1 := by
    have e9 : m24F9 k k = (fun t0' t1' t11' t12' t13' => loopN (normAt 0 m24A true (m24c [true, true, false, true, true, true])) (fun K s => evC (m24E k) (fun _ f => f) (m24I k) 0 m24A (m24c [true, true, false, true, true, true]) s K) (m24K6 (fun _ f => f) k) k (m24S9 t0' t1' t11' t12' t13')) := funext fun t0' => funext fun t1' => funext fun t11' => funext fun t12' => funext fun t13' => (m24q9 k k t0' t1' t11' t12' t13').symm
    show _ = m24X (m24F9 k k) k p0 p1
    rw [e9]
    exact m24x (fun _ f => f) k p0 p1

noncomputable def m24sp : Spec := { ps := [.leaf (.val (.int .u32)), .leaf (.val (.row (.pair (.int .i64) (.int .i64))))], rs := [.leaf (.val (.int .i64)), .leaf (.val (.int .i64))], f := fun k a => m24F k a.1 a.2 }

theorem m24ok (k : Nat) : EnvOk (m24E k) := envOk_of (l := [(32, m32sp)]) progNames progMixed rfl (.cons ⟨m32con k, Try.f32, by kernel_rfl, by kernel_rfl⟩ (.nil))

theorem m24con (k : Nat) : Contract Try.prog k 24 m24sp := contract_of (E := m24E k) (m24ok k) (A := only 24 m24A) (d := 3) (c := m24c []) (by kernel_rfl) (by kernel_rfl) fun a _ h => (m24q k a.1 a.2).trans h

noncomputable def m26A : Anns := tabA []
noncomputable def m26E (k : Nat) : Env := { P := Try.prog, k := k, G := tabG [(24, m24sp)] }
noncomputable def m26c (p : List Bool) : Code := sub p (bodyOf Try.f26)
noncomputable def m26I (k : Nat) : Inl Bool := inlOf (m26E k) (only 26 m26A) 3
noncomputable def m26K0 (M : Cut Bool) (k : Nat) : Exit → St → Option Bool := seqK (normAt 0 m26A false (m26c [true])) (cutK M m26A (m26c [true]) fun s => evC (m26E k) M (m26I k) 0 m26A (m26c [true]) s (retK Try.prog Try.f26 [.leaf (.val .bool)])) (retK Try.prog Try.f26 [.leaf (.val .bool)])
noncomputable def m26K1 (M : Cut Bool) (k : Nat) : Exit → St → Option Bool := seqK (normAt 0 m26A false (m26c [true, true])) (cutK M m26A (m26c [true, true]) fun s => evC (m26E k) M (m26I k) 0 m26A (m26c [true, true]) s (retK Try.prog Try.f26 [.leaf (.val .bool)])) (retK Try.prog Try.f26 [.leaf (.val .bool)])
noncomputable def m26K2 (M : Cut Bool) (k : Nat) : Exit → St → Option Bool := seqK (normAt 0 m26A false (m26c [true, true, true])) (cutK M m26A (m26c [true, true, true]) fun s => evC (m26E k) M (m26I k) 0 m26A (m26c [true, true, true]) s (retK Try.prog Try.f26 [.leaf (.val .bool)])) (retK Try.prog Try.f26 [.leaf (.val .bool)])

noncomputable def m26X (k : Nat) : Option Bool := (Option.bind (m24F k 0 (List.set (List.replicate 1 (0, 0)) 0 (0, 255))) fun (c2 : (Int × Int)) => (if eqI (Prod.snd c2) 0 = true then some (eqI (Prod.fst c2) 8) else some (false)))

theorem m26x (M : Cut Bool) (k : Nat) : evC (m26E k) M (m26I k) 0 m26A (m26c []) (stAt Try.f26 (argSs [] ()) (fun _ => none) 0) (retK Try.prog Try.f26 [.leaf (.val .bool)]) = m26X k := by kernel_rfl

noncomputable def m26F (k : Nat) : Option Bool := m26X k

theorem m26q (k : Nat) : evC (m26E k) (fun _ f => f) (m26I k) 0 m26A (m26c []) (stAt Try.f26 (argSs [] ()) (fun _ => none) 0) (retK Try.prog Try.f26 [.leaf (.val .bool)]) = m26F k := by
    show _ = m26X k
    exact m26x (fun _ f => f) k

noncomputable def m26sp : Spec := { ps := [], rs := [.leaf (.val .bool)], f := fun k a => m26F k }

theorem m26ok (k : Nat) : EnvOk (m26E k) := envOk_of (l := [(24, m24sp)]) progNames progMixed rfl (.cons ⟨m24con k, Try.f24, by kernel_rfl, by kernel_rfl⟩ (.nil))

theorem m26con (k : Nat) : Contract Try.prog k 26 m26sp := contract_of (E := m26E k) (m26ok k) (A := only 26 m26A) (d := 3) (c := m26c []) (by kernel_rfl) (by kernel_rfl) fun a _ h => (m26q k).trans h

end Go.Proofs.Ytdhpehihkppomaa.Mini
