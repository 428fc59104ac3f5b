/- Printed by a program of this session's (MPrint, over wip/mini): plain functions of the program's, and that they are what it does. Lean checks it. -/
import Derived.Test.YtmjbjlhjpdebjaaXMO
import Derived.Test.YtmjbjlhjpdebjaaProg
import Derived.KernelRfl
set_option linter.unusedVariables false
namespace Go.Proofs.Ytmjbjlhjpdebjaa.Mini
open Go Go.RowKit Go.Proofs
theorem progNames : (Try.prog.funcs.all fun f => !(f.name == "runtime.NumGoroutine")) = true := by kernel_rfl
theorem progMixed : Try.prog.follows .mixedOrders = true := by kernel_rfl

noncomputable def m33A : Anns := tabA []
noncomputable def m33E (k : Nat) : Env := { P := Try.prog, k := k, G := tabG [], GB := tabGB [], GG := tabGG [] }
noncomputable def m33c (p : List Bool) : Code := sub p (bodyOf Try.f33)
noncomputable def m33I (k : Nat) : Inl Int := inlOf (m33E k) (only 33 m33A) 3
noncomputable def m33K0 (M : Cut Int) (k : Nat) : Exit → St → Option Int := seqK (normAt 0 m33A false (m33c [true])) (cutK M m33A (m33c [true]) fun s => evC (m33E k) M (m33I k) 0 m33A (m33c [true]) s (retK Try.prog Try.f33 [.leaf (.val (.int .i64))])) (retK Try.prog Try.f33 [.leaf (.val (.int .i64))])
noncomputable def m33K1 (M : Cut Int) (k : Nat) : Exit → St → Option Int := seqK (normAt 0 m33A false (m33c [true, true])) (cutK M m33A (m33c [true, true]) fun s => evC (m33E k) M (m33I k) 0 m33A (m33c [true, true]) s (retK Try.prog Try.f33 [.leaf (.val (.int .i64))])) (retK Try.prog Try.f33 [.leaf (.val (.int .i64))])

noncomputable def m33X (k : Nat) (p0 : Int) : Option Int := (if leI 0 24 = true then (if leI 0 (p0 / 16777216) = true then (Option.bind ((ByteArray.mk
    (List.toArray
      (List.append
        (List.append
          [0, 1, 1, 2, 1, 2, 2, 3, 1, 2, 2, 3, 2, 3, 3, 4, 1, 2, 2, 3, 2, 3, 3, 4, 2, 3, 3, 4, 3, 4, 4, 5, 1, 2, 2, 3,
            2, 3, 3, 4, 2, 3, 3, 4, 3, 4, 4, 5, 2, 3, 3, 4, 3, 4, 4, 5, 3, 4, 4, 5, 4, 5, 5, 6]
          [1, 2, 2, 3, 2, 3, 3, 4, 2, 3, 3, 4, 3, 4, 4, 5, 2, 3, 3, 4, 3, 4, 4, 5, 3, 4, 4, 5, 4, 5, 5, 6, 2, 3, 3, 4,
            3, 4, 4, 5, 3, 4, 4, 5, 4, 5, 5, 6, 3, 4, 4, 5, 4, 5, 5, 6, 4, 5, 5, 6, 5, 6, 6, 7])
        (List.append
          [1, 2, 2, 3, 2, 3, 3, 4, 2, 3, 3, 4, 3, 4, 4, 5, 2, 3, 3, 4, 3, 4, 4, 5, 3, 4, 4, 5, 4, 5, 5, 6, 2, 3, 3, 4,
            3, 4, 4, 5, 3, 4, 4, 5, 4, 5, 5, 6, 3, 4, 4, 5, 4, 5, 5, 6, 4, 5, 5, 6, 5, 6, 6, 7]
          [2, 3, 3, 4, 3, 4, 4, 5, 3, 4, 4, 5, 4, 5, 5, 6, 3, 4, 4, 5, 4, 5, 5, 6, 4, 5, 5, 6, 5, 6, 6, 7, 3, 4, 4, 5,
            4, 5, 5, 6, 4, 5, 5, 6, 5, 6, 6, 7, 4, 5, 5, 6, 5, 6, 6, 7, 5, 6, 6, 7, 6, 7, 7,
            8]))))[Int.toNat (p0 / 16777216)]?) fun (c3 : UInt8) => (if leI 0 16 = true then (if leI 0 (bits BinOp.and IntKind.u32 (p0 / 65536) 255) = true then (Option.bind ((ByteArray.mk
    (List.toArray
      (List.append
        (List.append
          [0, 1, 1, 2, 1, 2, 2, 3, 1, 2, 2, 3, 2, 3, 3, 4, 1, 2, 2, 3, 2, 3, 3, 4, 2, 3, 3, 4, 3, 4, 4, 5, 1, 2, 2, 3,
            2, 3, 3, 4, 2, 3, 3, 4, 3, 4, 4, 5, 2, 3, 3, 4, 3, 4, 4, 5, 3, 4, 4, 5, 4, 5, 5, 6]
          [1, 2, 2, 3, 2, 3, 3, 4, 2, 3, 3, 4, 3, 4, 4, 5, 2, 3, 3, 4, 3, 4, 4, 5, 3, 4, 4, 5, 4, 5, 5, 6, 2, 3, 3, 4,
            3, 4, 4, 5, 3, 4, 4, 5, 4, 5, 5, 6, 3, 4, 4, 5, 4, 5, 5, 6, 4, 5, 5, 6, 5, 6, 6, 7])
        (List.append
          [1, 2, 2, 3, 2, 3, 3, 4, 2, 3, 3, 4, 3, 4, 4, 5, 2, 3, 3, 4, 3, 4, 4, 5, 3, 4, 4, 5, 4, 5, 5, 6, 2, 3, 3, 4,
            3, 4, 4, 5, 3, 4, 4, 5, 4, 5, 5, 6, 3, 4, 4, 5, 4, 5, 5, 6, 4, 5, 5, 6, 5, 6, 6, 7]
          [2, 3, 3, 4, 3, 4, 4, 5, 3, 4, 4, 5, 4, 5, 5, 6, 3, 4, 4, 5, 4, 5, 5, 6, 4, 5, 5, 6, 5, 6, 6, 7, 3, 4, 4, 5,
            4, 5, 5, 6, 4, 5, 5, 6, 5, 6, 6, 7, 4, 5, 5, 6, 5, 6, 6, 7, 5, 6, 6, 7, 6, 7, 7,
            8]))))[Int.toNat (bits BinOp.and IntKind.u32 (p0 / 65536) 255)]?) fun (c4 : UInt8) => (if leI 0 8 = true then (if leI 0 (bits BinOp.and IntKind.u32 (p0 / 256) 255) = true then (Option.bind ((ByteArray.mk
    (List.toArray
      (List.append
        (List.append
          [0, 1, 1, 2, 1, 2, 2, 3, 1, 2, 2, 3, 2, 3, 3, 4, 1, 2, 2, 3, 2, 3, 3, 4, 2, 3, 3, 4, 3, 4, 4, 5, 1, 2, 2, 3,
            2, 3, 3, 4, 2, 3, 3, 4, 3, 4, 4, 5, 2, 3, 3, 4, 3, 4, 4, 5, 3, 4, 4, 5, 4, 5, 5, 6]
          [1, 2, 2, 3, 2, 3, 3, 4, 2, 3, 3, 4, 3, 4, 4, 5, 2, 3, 3, 4, 3, 4, 4, 5, 3, 4, 4, 5, 4, 5, 5, 6, 2, 3, 3, 4,
            3, 4, 4, 5, 3, 4, 4, 5, 4, 5, 5, 6, 3, 4, 4, 5, 4, 5, 5, 6, 4, 5, 5, 6, 5, 6, 6, 7])
        (List.append
          [1, 2, 2, 3, 2, 3, 3, 4, 2, 3, 3, 4, 3, 4, 4, 5, 2, 3, 3, 4, 3, 4, 4, 5, 3, 4, 4, 5, 4, 5, 5, 6, 2, 3, 3, 4,
            3, 4, 4, 5, 3, 4, 4, 5, 4, 5, 5, 6, 3, 4, 4, 5, 4, 5, 5, 6, 4, 5, 5, 6, 5, 6, 6, 7]
          [2, 3, 3, 4, 3, 4, 4, 5, 3, 4, 4, 5, 4, 5, 5, 6, 3, 4, 4, 5, 4, 5, 5, 6, 4, 5, 5, 6, 5, 6, 6, 7, 3, 4, 4, 5,
            4, 5, 5, 6, 4, 5, 5, 6, 5, 6, 6, 7, 4, 5, 5, 6, 5, 6, 6, 7, 5, 6, 6, 7, 6, 7, 7,
            8]))))[Int.toNat (bits BinOp.and IntKind.u32 (p0 / 256) 255)]?) fun (c5 : UInt8) => (if leI 0 (bits BinOp.and IntKind.u32 p0 255) = true then (Option.bind ((ByteArray.mk
    (List.toArray
      (List.append
        (List.append
          [0, 1, 1, 2, 1, 2, 2, 3, 1, 2, 2, 3, 2, 3, 3, 4, 1, 2, 2, 3, 2, 3, 3, 4, 2, 3, 3, 4, 3, 4, 4, 5, 1, 2, 2, 3,
            2, 3, 3, 4, 2, 3, 3, 4, 3, 4, 4, 5, 2, 3, 3, 4, 3, 4, 4, 5, 3, 4, 4, 5, 4, 5, 5, 6]
          [1, 2, 2, 3, 2, 3, 3, 4, 2, 3, 3, 4, 3, 4, 4, 5, 2, 3, 3, 4, 3, 4, 4, 5, 3, 4, 4, 5, 4, 5, 5, 6, 2, 3, 3, 4,
            3, 4, 4, 5, 3, 4, 4, 5, 4, 5, 5, 6, 3, 4, 4, 5, 4, 5, 5, 6, 4, 5, 5, 6, 5, 6, 6, 7])
        (List.append
          [1, 2, 2, 3, 2, 3, 3, 4, 2, 3, 3, 4, 3, 4, 4, 5, 2, 3, 3, 4, 3, 4, 4, 5, 3, 4, 4, 5, 4, 5, 5, 6, 2, 3, 3, 4,
            3, 4, 4, 5, 3, 4, 4, 5, 4, 5, 5, 6, 3, 4, 4, 5, 4, 5, 5, 6, 4, 5, 5, 6, 5, 6, 6, 7]
          [2, 3, 3, 4, 3, 4, 4, 5, 3, 4, 4, 5, 4, 5, 5, 6, 3, 4, 4, 5, 4, 5, 5, 6, 4, 5, 5, 6, 5, 6, 6, 7, 3, 4, 4, 5,
            4, 5, 5, 6, 4, 5, 5, 6, 5, 6, 6, 7, 4, 5, 5, 6, 5, 6, 6, 7, 5, 6, 6, 7, 6, 7, 7,
            8]))))[Int.toNat (bits BinOp.and IntKind.u32 p0 255)]?) fun (c6 : UInt8) => some (wr IntKind.i64
  (wr IntKind.u8
    (wr IntKind.u8 (wr IntKind.u8 ((↑(UInt8.toNat c3) : Int) + (↑(UInt8.toNat c4) : Int)) + (↑(UInt8.toNat c5) : Int)) +
      (↑(UInt8.toNat c6) : Int))))) else none)) else none) else none)) else none) else none)) else none) else none)

theorem m33x (M : Cut Int) (k : Nat) (p0 : Int) : evC (m33E k) M (m33I k) 0 m33A (m33c []) (stAt Try.f33 (argSs [.leaf (.val (.int .u32))] p0) (fun _ => none) 0) (retK Try.prog Try.f33 [.leaf (.val (.int .i64))]) = m33X k p0 := by kernel_rfl

noncomputable def m33F (k : Nat) (p0 : Int) : Option Int := m33X k p0

theorem m33q (k : Nat) (p0 : Int) : evC (m33E k) (fun _ f => f) (m33I k) 0 m33A (m33c []) (stAt Try.f33 (argSs [.leaf (.val (.int .u32))] p0) (fun _ => none) 0) (retK Try.prog Try.f33 [.leaf (.val (.int .i64))]) = m33F k p0 := by
    show _ = m33X k p0
    exact m33x (fun _ f => f) k p0

noncomputable def m33sp : Spec := { ps := [.leaf (.val (.int .u32))], rs := [.leaf (.val (.int .i64))], f := fun k a => m33F k a }

theorem m33ok (k : Nat) : EnvOk (m33E k) := envOk_of (l := []) (lB := []) (lG := []) progNames progMixed rfl rfl rfl (.nil) (.nil) (.nil)

theorem m33con (k : Nat) : Contract Try.prog k 33 m33sp := contract_of (E := m33E k) (m33ok k) (A := only 33 m33A) (d := 3) (c := m33c []) (by kernel_rfl) (by kernel_rfl) fun a _ h => (m33q k a).trans h

noncomputable def m10A : Anns := tabA []
noncomputable def m10E (k : Nat) : Env := { P := Try.prog, k := k, G := tabG [(33, m33sp)], GB := tabGB [], GG := tabGG [] }
noncomputable def m10c (p : List Bool) : Code := sub p (bodyOf Try.f10)
noncomputable def m10I (k : Nat) : Inl Int := inlOf (m10E k) (only 10 m10A) 3
noncomputable def m10K0 (M : Cut Int) (k : Nat) : Exit → St → Option Int := seqK (normAt 0 m10A false (m10c [true])) (cutK M m10A (m10c [true]) fun s => evC (m10E k) M (m10I k) 0 m10A (m10c [true]) s (retK Try.prog Try.f10 [.leaf (.val (.int .i64))])) (retK Try.prog Try.f10 [.leaf (.val (.int .i64))])
noncomputable def m10K1 (M : Cut Int) (k : Nat) : Exit → St → Option Int := seqK (normAt 0 m10A false (m10c [true, true])) (cutK M m10A (m10c [true, true]) fun s => evC (m10E k) M (m10I k) 0 m10A (m10c [true, true]) s (retK Try.prog Try.f10 [.leaf (.val (.int .i64))])) (retK Try.prog Try.f10 [.leaf (.val (.int .i64))])
noncomputable def m10K2 (M : Cut Int) (k : Nat) : Exit → St → Option Int := seqK (normAt 0 m10A false (m10c [true, false, true])) (cutK M m10A (m10c [true, false, true]) fun s => evC (m10E k) M (m10I k) 0 m10A (m10c [true, false, true]) s (m10K1 M k)) (m10K1 M k)
noncomputable def m10K3 (M : Cut Int) (k : Nat) : Exit → St → Option Int := seqK (normAt 0 m10A false (m10c [true, false, true, false, true])) (cutK M m10A (m10c [true, false, true, false, true]) fun s => evC (m10E k) M (m10I k) 0 m10A (m10c [true, false, true, false, true]) s (m10K1 M k)) (m10K1 M k)
noncomputable def m10K4 (M : Cut Int) (k : Nat) : Exit → St → Option Int := seqK (normAt 0 m10A false (m10c [true, true, true])) (cutK M m10A (m10c [true, true, true]) fun s => evC (m10E k) M (m10I k) 0 m10A (m10c [true, true, true]) s (retK Try.prog Try.f10 [.leaf (.val (.int .i64))])) (retK Try.prog Try.f10 [.leaf (.val (.int .i64))])

noncomputable def m10X (k : Nat) (p0 : Int) : Option Int := (if ltI p0 0 = true then some (0) else (Option.bind (m33F k (wr IntKind.u32 p0)) fun (c3 : Int) => some c3))

theorem m10x (M : Cut Int) (k : Nat) (p0 : Int) : evC (m10E k) M (m10I k) 0 m10A (m10c []) (stAt Try.f10 (argSs [.leaf (.val (.int .i64))] p0) (fun _ => none) 0) (retK Try.prog Try.f10 [.leaf (.val (.int .i64))]) = m10X k p0 := by kernel_rfl

noncomputable def m10F (k : Nat) (p0 : Int) : Option Int := m10X k p0

theorem m10q (k : Nat) (p0 : Int) : evC (m10E k) (fun _ f => f) (m10I k) 0 m10A (m10c []) (stAt Try.f10 (argSs [.leaf (.val (.int .i64))] p0) (fun _ => none) 0) (retK Try.prog Try.f10 [.leaf (.val (.int .i64))]) = m10F k p0 := by
    show _ = m10X k p0
    exact m10x (fun _ f => f) k p0

noncomputable def m10sp : Spec := { ps := [.leaf (.val (.int .i64))], rs := [.leaf (.val (.int .i64))], f := fun k a => m10F k a }

theorem m10ok (k : Nat) : EnvOk (m10E k) := envOk_of (l := [(33, m33sp)]) (lB := []) (lG := []) progNames progMixed rfl rfl rfl (.cons ⟨m33con k, Try.f33, by kernel_rfl, by kernel_rfl⟩ (.nil)) (.nil) (.nil)

theorem m10con (k : Nat) : Contract Try.prog k 10 m10sp := contract_of (E := m10E k) (m10ok k) (A := only 10 m10A) (d := 3) (c := m10c []) (by kernel_rfl) (by kernel_rfl) fun a _ h => (m10q k a).trans h

noncomputable def m42A : Anns := tabA [(3, { keep := [0, 2, 7, 8, 9] }), (9, { keep := [0, 2, 5, 6, 7, 8, 9] })]
noncomputable def m42E (k : Nat) : Env := { P := Try.prog, k := k, G := tabG [], GB := tabGB [], GG := tabGG [] }
noncomputable def m42c (p : List Bool) : Code := sub p (bodyOf Try.f42)
noncomputable def m42I (k : Nat) : Inl (List Int) := genI [.leaf (.val (.int .i64))] (inlOf (m42E k) (only 42 m42A) 3)
noncomputable def m42K0 (M : Cut (List Int)) (k : Nat) : Exit → St → Option (List Int) := seqK (normAt 0 m42A false (m42c [true])) (cutK M m42A (m42c [true]) fun s => evC (m42E k) M (m42I k) 0 m42A (m42c [true]) s (retG Try.prog Try.f42)) (retG Try.prog Try.f42)
noncomputable def m42K1 (M : Cut (List Int)) (k : Nat) : Exit → St → Option (List Int) := blockK 0 (retG Try.prog Try.f42)
noncomputable def m42K2 (M : Cut (List Int)) (k : Nat) (L3 : St → Option (List Int)) : Exit → St → Option (List Int) := seqK (normAt 0 m42A true (m42c [true, true, true])) L3 (m42K1 M k)
noncomputable def m42K3 (M : Cut (List Int)) (k : Nat) (L3 : St → Option (List Int)) : Exit → St → Option (List Int) := seqK (normAt 0 m42A false (m42c [true, true, true, true])) (cutK M m42A (m42c [true, true, true, true]) fun s => evC (m42E k) M (m42I k) 0 m42A (m42c [true, true, true, true]) s (m42K2 M k L3)) (m42K2 M k L3)
noncomputable def m42K4 (M : Cut (List Int)) (k : Nat) (L3 : St → Option (List Int)) : Exit → St → Option (List Int) := seqK (normAt 0 m42A false (m42c [true, true, true, true, true])) (cutK M m42A (m42c [true, true, true, true, true]) fun s => evC (m42E k) M (m42I k) 0 m42A (m42c [true, true, true, true, true]) s (m42K2 M k L3)) (m42K2 M k L3)
noncomputable def m42K5 (M : Cut (List Int)) (k : Nat) (L3 : St → Option (List Int)) : Exit → St → Option (List Int) := seqK (normAt 0 m42A false (m42c [true, true, true, true, true, true])) (cutK M m42A (m42c [true, true, true, true, true, true]) fun s => evC (m42E k) M (m42I k) 0 m42A (m42c [true, true, true, true, true, true]) s (m42K2 M k L3)) (m42K2 M k L3)
noncomputable def m42K6 (M : Cut (List Int)) (k : Nat) (L3 : St → Option (List Int)) : Exit → St → Option (List Int) := blockK 1 (m42K5 M k L3)
noncomputable def m42K7 (M : Cut (List Int)) (k : Nat) (L3 : St → Option (List Int)) : Exit → St → Option (List Int) := seqK (normAt 0 m42A false (m42c [true, true, true, true, true, false, true, true])) (cutK M m42A (m42c [true, true, true, true, true, false, true, true]) fun s => evC (m42E k) M (m42I k) 0 m42A (m42c [true, true, true, true, true, false, true, true]) s (m42K6 M k L3)) (m42K6 M k L3)
noncomputable def m42K8 (M : Cut (List Int)) (k : Nat) (L3 : St → Option (List Int)) : Exit → St → Option (List Int) := seqK (normAt 0 m42A false (m42c [true, true, true, true, true, false, true, true, true])) (cutK M m42A (m42c [true, true, true, true, true, false, true, true, true]) fun s => evC (m42E k) M (m42I k) 0 m42A (m42c [true, true, true, true, true, false, true, true, true]) s (m42K6 M k L3)) (m42K6 M k L3)
noncomputable def m42K9 (M : Cut (List Int)) (k : Nat) (L3 : St → Option (List Int)) : Exit → St → Option (List Int) := blockK 2 (m42K6 M k L3)
noncomputable def m42K10 (M : Cut (List Int)) (k : Nat) (L3 : St → Option (List Int)) (L9 : St → Option (List Int)) : Exit → St → Option (List Int) := seqK (normAt 0 m42A true (m42c [true, true, true, true, true, false, true, true, true, true, true])) L9 (m42K9 M k L3)
noncomputable def m42K11 (M : Cut (List Int)) (k : Nat) (L3 : St → Option (List Int)) (L9 : St → Option (List Int)) : Exit → St → Option (List Int) := seqK (normAt 0 m42A false (m42c [true, true, true, true, true, false, true, true, true, true, true, true])) (cutK M m42A (m42c [true, true, true, true, true, false, true, true, true, true, true, true]) fun s => evC (m42E k) M (m42I k) 0 m42A (m42c [true, true, true, true, true, false, true, true, true, true, true, true]) s (m42K10 M k L3 L9)) (m42K10 M k L3 L9)
noncomputable def m42K12 (M : Cut (List Int)) (k : Nat) (L3 : St → Option (List Int)) (L9 : St → Option (List Int)) : Exit → St → Option (List Int) := seqK (normAt 0 m42A false (m42c [true, true, true, true, true, false, true, true, true, true, true, false, true])) (cutK M m42A (m42c [true, true, true, true, true, false, true, true, true, true, true, false, true]) fun s => evC (m42E k) M (m42I k) 0 m42A (m42c [true, true, true, true, true, false, true, true, true, true, true, false, true]) s (m42K11 M k L3 L9)) (m42K11 M k L3 L9)
noncomputable def m42K13 (M : Cut (List Int)) (k : Nat) (L3 : St → Option (List Int)) (L9 : St → Option (List Int)) : Exit → St → Option (List Int) := seqK (normAt 0 m42A false (m42c [true, true, true, true, true, false, true, true, true, true, true, true, true])) (cutK M m42A (m42c [true, true, true, true, true, false, true, true, true, true, true, true, true]) fun s => evC (m42E k) M (m42I k) 0 m42A (m42c [true, true, true, true, true, false, true, true, true, true, true, true, true]) s (m42K10 M k L3 L9)) (m42K10 M k L3 L9)
noncomputable def m42K14 (M : Cut (List Int)) (k : Nat) (L3 : St → Option (List Int)) (L9 : St → Option (List Int)) : Exit → St → Option (List Int) := blockK 3 (m42K13 M k L3 L9)
noncomputable def m42K15 (M : Cut (List Int)) (k : Nat) (L3 : St → Option (List Int)) (L9 : St → Option (List Int)) : Exit → St → Option (List Int) := seqK (normAt 0 m42A false (m42c [true, true, true, true, true, false, true, true, true, true, true, true, false, true, true])) (cutK M m42A (m42c [true, true, true, true, true, false, true, true, true, true, true, true, false, true, true]) fun s => evC (m42E k) M (m42I k) 0 m42A (m42c [true, true, true, true, true, false, true, true, true, true, true, true, false, true, true]) s (m42K14 M k L3 L9)) (m42K14 M k L3 L9)
noncomputable def m42S3 (t2_0 : Int) (t7 : List Int) (t8 : Int) (t9 : Int) : St := { n := 32, tm := slots [(0, .fn (.yield 0) []), (2, .iptr [.int .i64 t2_0]), (7, .row (.int .u8) t7), (8, .int .i64 t8), (9, .int .i64 t9)], tab := blks [], nx := 0 }
noncomputable def m42S9 (t2_0 : Int) (t5 : Int) (t6 : Int) (t7 : List Int) (t8 : Int) (t9 : Int) : St := { n := 32, tm := slots [(0, .fn (.yield 0) []), (2, .iptr [.int .i64 t2_0]), (5, .int .u8 t5), (6, .int .i64 t6), (7, .row (.int .u8) t7), (8, .int .i64 t8), (9, .int .i64 t9)], tab := blks [], nx := 0 }

noncomputable def m42X (X3 : Int → List Int → Int → Int → Option (List Int)) (k : Nat) (p0 : (List Int)) (p1 : Int) : Option (List Int) := X3 p1 p0 ((↑(List.length p0) : Int)) (0)

theorem m42x (M : Cut (List Int)) (k : Nat) (p0 : (List Int)) (p1 : Int) : evC (m42E k) M (m42I k) 0 m42A (m42c []) (stAt Try.f42 (.fn (.yield 0) [] :: argPs [(.row (.int .u8)), (.int .i64)] (p0, p1)) (fun _ => none) 0) (retG Try.prog Try.f42) = m42X (fun t2_0' t7' t8' t9' => loopN (normAt 0 m42A true (m42c [true, true, true])) (fun K s => evC (m42E k) M (m42I k) 0 m42A (m42c [true, true, true]) s K) (m42K1 M k) k (m42S3 t2_0' t7' t8' t9')) k p0 p1 := by kernel_rfl

noncomputable def m42X3 (X9 : Int → Int → Int → List Int → Int → Int → Option (List Int)) (k : Nat) (t2_0 : Int) (t7 : List Int) (t8 : Int) (t9 : Int) : Option (List Int) := (if ltI t9 t8 = true then (if leI 0 t9 = true then (if ltI t9 (↑(List.length t7) : Int) = true then X9 t2_0 (List.getD t7 (Int.toNat t9) 0) (wr IntKind.i64 (8 - t2_0)) t7 t8 t9 else none) else none) else some ([]))

theorem m42x3 (M : Cut (List Int)) (k : Nat) (L3 : St → Option (List Int)) (t2_0 : Int) (t7 : List Int) (t8 : Int) (t9 : Int) : evC (m42E k) M (m42I k) 0 m42A (m42c [true, true, true]) (m42S3 t2_0 t7 t8 t9) (seqK (normAt 0 m42A true (m42c [true, true, true])) L3 (m42K1 M k)) = m42X3 (fun t2_0' t5' t6' t7' t8' t9' => loopN (normAt 0 m42A true (m42c [true, true, true, true, true, false, true, true, true, true, true])) (fun K s => evC (m42E k) M (m42I k) 0 m42A (m42c [true, true, true, true, true, false, true, true, true, true, true]) s K) (m42K9 M k L3) k (m42S9 t2_0' t5' t6' t7' t8' t9')) k t2_0 t7 t8 t9 := by kernel_rfl

noncomputable def m42X9 (L9 : Int → Int → Int → List Int → Int → Int → Option (List Int)) (L3 : Int → List Int → Int → Int → Option (List Int)) (k : Nat) (t2_0 : Int) (t5 : Int) (t6 : Int) (t7 : List Int) (t8 : Int) (t9 : Int) : Option (List Int) := (if leI 0 t6 = true then (if leI 0 t6 = true then (if leI 0 t2_0 = true then (gcons (bits BinOp.and IntKind.i64 (wr IntKind.i64 t5 / p2 (min (Int.toNat t6) 64))
  (wr IntKind.i64 (wr IntKind.i64 (1 * p2 (min (Int.toNat t2_0) 64)) - 1))) (L9 t2_0 t5 (wr IntKind.i64 (t6 - t2_0)) t7 t8 t9) (some ([]))) else none) else none) else L3 t2_0 t7 t8 (wr IntKind.i64 (t9 + 1)))

theorem m42x9 (M : Cut (List Int)) (k : Nat) (L3 : St → Option (List Int)) (L9 : St → Option (List Int)) (t2_0 : Int) (t5 : Int) (t6 : Int) (t7 : List Int) (t8 : Int) (t9 : Int) : evC (m42E k) M (m42I k) 0 m42A (m42c [true, true, true, true, true, false, true, true, true, true, true]) (m42S9 t2_0 t5 t6 t7 t8 t9) (seqK (normAt 0 m42A true (m42c [true, true, true, true, true, false, true, true, true, true, true])) L9 (m42K9 M k L3)) = m42X9 (fun t2_0' t5' t6' t7' t8' t9' => L9 (m42S9 t2_0' t5' t6' t7' t8' t9')) (fun t2_0' t7' t8' t9' => L3 (m42S3 t2_0' t7' t8' t9')) k t2_0 t5 t6 t7 t8 t9 := by kernel_rfl

noncomputable def m42F9 (k : Nat) (L3 : Int → List Int → Int → Int → Option (List Int)) : Nat → Int → Int → Int → List Int → Int → Int → Option (List Int)
  | 0, _, _, _, _, _, _ => none
  | j + 1, t2_0, t5, t6, t7, t8, t9 => m42X9 (m42F9 k L3 j) L3 k t2_0 t5 t6 t7 t8 t9

theorem m42q9 (k : Nat) (L3 : St → Option (List Int)) : ∀ (j : Nat) (t2_0 : Int) (t5 : Int) (t6 : Int) (t7 : List Int) (t8 : Int) (t9 : Int), loopN (normAt 0 m42A true (m42c [true, true, true, true, true, false, true, true, true, true, true])) (fun K s => evC (m42E k) (fun _ f => f) (m42I k) 0 m42A (m42c [true, true, true, true, true, false, true, true, true, true, true]) s K) (m42K9 (fun _ f => f) k L3) j (m42S9 t2_0 t5 t6 t7 t8 t9) = m42F9 k (fun t2_0' t7' t8' t9' => L3 (m42S3 t2_0' t7' t8' t9')) j t2_0 t5 t6 t7 t8 t9
  | 0, _, _, _, _, _, _ => rfl
  | j + 1, t2_0, t5, t6, t7, t8, t9 => by
    have e0 : m42F9 k (fun t2_0' t7' t8' t9' => L3 (m42S3 t2_0' t7' t8' t9')) j = (fun t2_0' t5' t6' t7' t8' t9' => loopN (normAt 0 m42A true (m42c [true, true, true, true, true, false, true, true, true, true, true])) (fun K s => evC (m42E k) (fun _ f => f) (m42I k) 0 m42A (m42c [true, true, true, true, true, false, true, true, true, true, true]) s K) (m42K9 (fun _ f => f) k L3) j (m42S9 t2_0' t5' t6' t7' t8' t9')) := funext fun t2_0' => funext fun t5' => funext fun t6' => funext fun t7' => funext fun t8' => funext fun t9' => (m42q9 k L3 j t2_0' t5' t6' t7' t8' t9').symm
    show _ = m42X9 (m42F9 k (fun t2_0' t7' t8' t9' => L3 (m42S3 t2_0' t7' t8' t9')) j) (fun t2_0' t7' t8' t9' => L3 (m42S3 t2_0' t7' t8' t9')) k t2_0 t5 t6 t7 t8 t9
    rw [e0]
    exact m42x9 (fun _ f => f) k L3 (loopN (normAt 0 m42A true (m42c [true, true, true, true, true, false, true, true, true, true, true])) (fun K s => evC (m42E k) (fun _ f => f) (m42I k) 0 m42A (m42c [true, true, true, true, true, false, true, true, true, true, true]) s K) (m42K9 (fun _ f => f) k L3) j) t2_0 t5 t6 t7 t8 t9

noncomputable def m42F3 (k : Nat) : Nat → Int → List Int → Int → Int → Option (List Int)
  | 0, _, _, _, _ => none
  | j + 1, t2_0, t7, t8, t9 => m42X3 (m42F9 k (m42F3 k j) k) k t2_0 t7 t8 t9

theorem m42q3 (k : Nat) : ∀ (j : Nat) (t2_0 : Int) (t7 : List Int) (t8 : Int) (t9 : Int), loopN (normAt 0 m42A true (m42c [true, true, true])) (fun K s => evC (m42E k) (fun _ f => f) (m42I k) 0 m42A (m42c [true, true, true]) s K) (m42K1 (fun _ f => f) k) j (m42S3 t2_0 t7 t8 t9) = m42F3 k j t2_0 t7 t8 t9
  | 0, _, _, _, _ => rfl
  | j + 1, t2_0, t7, t8, t9 => by
    have e0 : m42F3 k j = (fun t2_0' t7' t8' t9' => loopN (normAt 0 m42A true (m42c [true, true, true])) (fun K s => evC (m42E k) (fun _ f => f) (m42I k) 0 m42A (m42c [true, true, true]) s K) (m42K1 (fun _ f => f) k) j (m42S3 t2_0' t7' t8' t9')) := funext fun t2_0' => funext fun t7' => funext fun t8' => funext fun t9' => (m42q3 k j t2_0' t7' t8' t9').symm
    have e9 : m42F9 k (fun t2_0' t7' t8' t9' => loopN (normAt 0 m42A true (m42c [true, true, true])) (fun K s => evC (m42E k) (fun _ f => f) (m42I k) 0 m42A (m42c [true, true, true]) s K) (m42K1 (fun _ f => f) k) j (m42S3 t2_0' t7' t8' t9')) k = (fun t2_0' t5' t6' t7' t8' t9' => loopN (normAt 0 m42A true (m42c [true, true, true, true, true, false, true, true, true, true, true])) (fun K s => evC (m42E k) (fun _ f => f) (m42I k) 0 m42A (m42c [true, true, true, true, true, false, true, true, true, true, true]) s K) (m42K9 (fun _ f => f) k (loopN (normAt 0 m42A true (m42c [true, true, true])) (fun K s => evC (m42E k) (fun _ f => f) (m42I k) 0 m42A (m42c [true, true, true]) s K) (m42K1 (fun _ f => f) k) j)) k (m42S9 t2_0' t5' t6' t7' t8' t9')) := funext fun t2_0' => funext fun t5' => funext fun t6' => funext fun t7' => funext fun t8' => funext fun t9' => (m42q9 k (loopN (normAt 0 m42A true (m42c [true, true, true])) (fun K s => evC (m42E k) (fun _ f => f) (m42I k) 0 m42A (m42c [true, true, true]) s K) (m42K1 (fun _ f => f) k) j) k t2_0' t5' t6' t7' t8' t9').symm
    show _ = m42X3 (m42F9 k (m42F3 k j) k) k t2_0 t7 t8 t9
    rw [e0, e9]
    exact m42x3 (fun _ f => f) k (loopN (normAt 0 m42A true (m42c [true, true, true])) (fun K s => evC (m42E k) (fun _ f => f) (m42I k) 0 m42A (m42c [true, true, true]) s K) (m42K1 (fun _ f => f) k) j) t2_0 t7 t8 t9

noncomputable def m42F (k : Nat) (p0 : (List Int)) (p1 : Int) : Option (List Int) := m42X (m42F3 k k) k p0 p1

theorem m42q (k : Nat) (p0 : (List Int)) (p1 : Int) : evC (m42E k) (fun _ f => f) (m42I k) 0 m42A (m42c []) (stAt Try.f42 (.fn (.yield 0) [] :: argPs [(.row (.int .u8)), (.int .i64)] (p0, p1)) (fun _ => none) 0) (retG Try.prog Try.f42) = m42F k p0 p1 := by
    have e3 : m42F3 k k = (fun t2_0' t7' t8' t9' => loopN (normAt 0 m42A true (m42c [true, true, true])) (fun K s => evC (m42E k) (fun _ f => f) (m42I k) 0 m42A (m42c [true, true, true]) s K) (m42K1 (fun _ f => f) k) k (m42S3 t2_0' t7' t8' t9')) := funext fun t2_0' => funext fun t7' => funext fun t8' => funext fun t9' => (m42q3 k k t2_0' t7' t8' t9').symm
    show _ = m42X (m42F3 k k) k p0 p1
    rw [e3]
    exact m42x (fun _ f => f) k p0 p1

noncomputable def m42sp : GSpec := { ks := [(.row (.int .u8)), (.int .i64)], ys := [.leaf (.val (.int .i64))], f := fun k a => m42F k a.1 a.2 }

theorem m42ok (k : Nat) : EnvOk (m42E k) := envOk_of (l := []) (lB := []) (lG := []) progNames progMixed rfl rfl rfl (.nil) (.nil) (.nil)

theorem m42con (k : Nat) : GContract Try.prog k 42 m42sp := gcontract_of (E := m42E k) (m42ok k) (A := only 42 m42A) (d := 3) (c := m42c []) (by kernel_rfl) (by kernel_rfl) fun a _ h => (m42q k a.1 a.2).trans h

noncomputable def m34A : Anns := tabA [(13, { keep := [4, 5, 6], matc := [(6, 0, (.int .i64), 3)] }), (14, { keep := [6] })]
noncomputable def m34E (k : Nat) : Env := { P := Try.prog, k := k, G := tabG [], GB := tabGB [], GG := tabGG [(42, m42sp)] }
noncomputable def m34c (p : List Bool) : Code := sub p (bodyOf Try.f34)
noncomputable def m34I (k : Nat) : Inl ((List Int) × Int) := inlOf (m34E k) (only 34 m34A) 3
noncomputable def m34K0 (M : Cut ((List Int) × Int)) (k : Nat) : Exit → St → Option ((List Int) × Int) := seqK (normAt 0 m34A false (m34c [true])) (cutK M m34A (m34c [true]) fun s => evC (m34E k) M (m34I k) 0 m34A (m34c [true]) s (retK Try.prog Try.f34 [.leaf (.own (.int .i64) 3), .leaf (.val (.int .i64))])) (retK Try.prog Try.f34 [.leaf (.own (.int .i64) 3), .leaf (.val (.int .i64))])
noncomputable def m34K1 (M : Cut ((List Int) × Int)) (k : Nat) : Exit → St → Option ((List Int) × Int) := seqK (normAt 0 m34A false (m34c [true, true])) (cutK M m34A (m34c [true, true]) fun s => evC (m34E k) M (m34I k) 0 m34A (m34c [true, true]) s (retK Try.prog Try.f34 [.leaf (.own (.int .i64) 3), .leaf (.val (.int .i64))])) (retK Try.prog Try.f34 [.leaf (.own (.int .i64) 3), .leaf (.val (.int .i64))])
noncomputable def m34K2 (M : Cut ((List Int) × Int)) (k : Nat) : Exit → St → Option ((List Int) × Int) := seqK (normAt 0 m34A false (m34c [true, false, true])) (cutK M m34A (m34c [true, false, true]) fun s => evC (m34E k) M (m34I k) 0 m34A (m34c [true, false, true]) s (m34K1 M k)) (m34K1 M k)
noncomputable def m34K3 (M : Cut ((List Int) × Int)) (k : Nat) : Exit → St → Option ((List Int) × Int) := seqK (normAt 0 m34A false (m34c [true, false, true, false, true])) (cutK M m34A (m34c [true, false, true, false, true]) fun s => evC (m34E k) M (m34I k) 0 m34A (m34c [true, false, true, false, true]) s (m34K1 M k)) (m34K1 M k)
noncomputable def m34K4 (M : Cut ((List Int) × Int)) (k : Nat) : Exit → St → Option ((List Int) × Int) := seqK (normAt 0 m34A false (m34c [true, true, true])) (cutK M m34A (m34c [true, true, true]) fun s => evC (m34E k) M (m34I k) 0 m34A (m34c [true, true, true]) s (retK Try.prog Try.f34 [.leaf (.own (.int .i64) 3), .leaf (.val (.int .i64))])) (retK Try.prog Try.f34 [.leaf (.own (.int .i64) 3), .leaf (.val (.int .i64))])
noncomputable def m34K5 (M : Cut ((List Int) × Int)) (k : Nat) : Exit → St → Option ((List Int) × Int) := seqK (normAt 0 m34A false (m34c [true, true, true, true])) (cutK M m34A (m34c [true, true, true, true]) fun s => evC (m34E k) M (m34I k) 0 m34A (m34c [true, true, true, true]) s (retK Try.prog Try.f34 [.leaf (.own (.int .i64) 3), .leaf (.val (.int .i64))])) (retK Try.prog Try.f34 [.leaf (.own (.int .i64) 3), .leaf (.val (.int .i64))])
noncomputable def m34K6 (M : Cut ((List Int) × Int)) (k : Nat) : Exit → St → Option ((List Int) × Int) := seqK (normAt 0 m34A false (m34c [true, true, true, false, true])) (cutK M m34A (m34c [true, true, true, false, true]) fun s => evC (m34E k) M (m34I k) 0 m34A (m34c [true, true, true, false, true]) s (m34K5 M k)) (m34K5 M k)
noncomputable def m34K7 (M : Cut ((List Int) × Int)) (k : Nat) : Exit → St → Option ((List Int) × Int) := blockK 0 (m34K5 M k)
noncomputable def m34K8 (M : Cut ((List Int) × Int)) (k : Nat) (L13 : St → Option ((List Int) × Int)) (s13 : St) : Exit → St → Option ((List Int) × Int) := roundK L13 (normAt 0 m34A true (m34c [true, true, true, false, true, true, true])) s13 (m34K7 M k)
noncomputable def m34K9 (M : Cut ((List Int) × Int)) (k : Nat) (L13 : St → Option ((List Int) × Int)) (s13 : St) : Exit → St → Option ((List Int) × Int) := blockK 1 (m34K8 M k L13 s13)
noncomputable def m34K10 (M : Cut ((List Int) × Int)) (k : Nat) : Exit → St → Option ((List Int) × Int) := seqK (normAt 0 m34A false (m34c [true, true, true, true, true])) (cutK M m34A (m34c [true, true, true, true, true]) fun s => evC (m34E k) M (m34I k) 0 m34A (m34c [true, true, true, true, true]) s (retK Try.prog Try.f34 [.leaf (.own (.int .i64) 3), .leaf (.val (.int .i64))])) (retK Try.prog Try.f34 [.leaf (.own (.int .i64) 3), .leaf (.val (.int .i64))])
noncomputable def m34S13 (t5 : Int) (b1 : List Int) : St := { n := 20, tm := slots [(4, .nils), (5, .int .i64 t5), (6, .ptr 0 0)], tab := blks [some (.cells 28 [.own 1]), some (.row true (.int .i64) 3 b1)], nx := 2 }
noncomputable def m34S14 (b1 : List Int) : St := { n := 20, tm := slots [(6, .ptr 0 0)], tab := blks [some (.cells 28 [.own 1]), some (.row true (.int .i64) 3 b1)], nx := 2 }

noncomputable def m34X (X13 : List Int → Int → List Int → Option ((List Int) × Int)) (k : Nat) (p0 : (List Int)) (p1 : Int) : Option ((List Int) × Int) := (if ltI 4096 (↑(List.length p0) : Int) = true then some (([], 2)) else (Option.bind (m42F k p0 p1) fun (c4 : (List Int)) => X13 c4 (0) ([])))

theorem m34x (M : Cut ((List Int) × Int)) (k : Nat) (p0 : (List Int)) (p1 : Int) : evC (m34E k) M (m34I k) 0 m34A (m34c []) (stAt Try.f34 (argSs [.leaf (.val (.row (.int .u8))), .leaf (.val (.int .i64))] (p0, p1)) (fun _ => none) 0) (retK Try.prog Try.f34 [.leaf (.own (.int .i64) 3), .leaf (.val (.int .i64))]) = m34X (fun l13' t5' b1' => rangeL [.leaf (.val (.int .i64))] [14] (normAt 0 m34A true (m34c [true, true, true, false, true, true, true])) (fun s s1 K1 => evC (m34E k) M (m34I k) s.nx m34A (m34c [true, true, true, false, true, true, false]) s1 (asK fun s2 => evC (m34E k) M (m34I k) s.nx m34A (m34c [true, true, true, false, true, true, true]) s2 K1)) (m34K7 M k) l13' (m34S13 t5' b1')) k p0 p1 := by kernel_rfl

noncomputable def m34X13 (X14 : List Int → Option ((List Int) × Int)) (L13 : Int → List Int → Option ((List Int) × Int)) (k : Nat) (l13 : List Int) (t5 : Int) (b1 : List Int) : Option ((List Int) × Int) := (uncH l13 (X14 b1) fun (c6 : Int) => (if leI (↑((List.length b1 + List.length (List.set (List.replicate 1 0) 0 c6)) * 8) : Int) 140737488355328 = true then L13 t5 (b1 ++ List.set (List.replicate 1 0) 0 c6) else none))

theorem m34x13 (M : Cut ((List Int) × Int)) (k : Nat) (L13 : St → Option ((List Int) × Int)) (l13 : List Int) (t5 : Int) (b1 : List Int) : rangeS [.leaf (.val (.int .i64))] [14] (normAt 0 m34A true (m34c [true, true, true, false, true, true, true])) (fun s s1 K1 => evC (m34E k) M (m34I k) s.nx m34A (m34c [true, true, true, false, true, true, false]) s1 (asK fun s2 => evC (m34E k) M (m34I k) s.nx m34A (m34c [true, true, true, false, true, true, true]) s2 K1)) (m34K7 M k) L13 l13 (m34S13 t5 b1) = m34X13 (fun b1' => M 14 (fun s => evC (m34E k) M (m34I k) 0 m34A (m34c [true, true, true, true]) s (retK Try.prog Try.f34 [.leaf (.own (.int .i64) 3), .leaf (.val (.int .i64))])) (m34S14 b1')) (fun t5' b1' => L13 (m34S13 t5' b1')) k l13 t5 b1 := by kernel_rfl

noncomputable def m34X14 (k : Nat) (b1 : List Int) : Option ((List Int) × Int) := some ((b1, 0))

theorem m34x14 (M : Cut ((List Int) × Int)) (k : Nat) (b1 : List Int) : evC (m34E k) M (m34I k) 0 m34A (m34c [true, true, true, true]) (m34S14 b1) (retK Try.prog Try.f34 [.leaf (.own (.int .i64) 3), .leaf (.val (.int .i64))]) = m34X14 k b1 := by kernel_rfl

noncomputable def m34F14 (k : Nat) (b1 : List Int) : Option ((List Int) × Int) := m34X14 k b1

theorem m34q14 (k : Nat) (b1 : List Int) : evC (m34E k) (fun _ f => f) (m34I k) 0 m34A (m34c [true, true, true, true]) (m34S14 b1) (retK Try.prog Try.f34 [.leaf (.own (.int .i64) 3), .leaf (.val (.int .i64))]) = m34F14 k b1 := by
    show _ = m34X14 k b1
    exact m34x14 (fun _ f => f) k b1

noncomputable def m34F13 (k : Nat) : List Int → Int → List Int → Option ((List Int) × Int)
  | [], t5, b1 => m34X13 (m34F14 k) ((fun _ _ => none)) k [] t5 b1
  | y :: l, t5, b1 => m34X13 (m34F14 k) (m34F13 k l) k (y :: l) t5 b1

theorem m34q13 (k : Nat) : ∀ (l : List Int) (t5 : Int) (b1 : List Int), rangeL [.leaf (.val (.int .i64))] [14] (normAt 0 m34A true (m34c [true, true, true, false, true, true, true])) (fun s s1 K1 => evC (m34E k) (fun _ f => f) (m34I k) s.nx m34A (m34c [true, true, true, false, true, true, false]) s1 (asK fun s2 => evC (m34E k) (fun _ f => f) (m34I k) s.nx m34A (m34c [true, true, true, false, true, true, true]) s2 K1)) (m34K7 (fun _ f => f) k) l (m34S13 t5 b1) = m34F13 k l t5 b1
  | [], t5, b1 => by
    have e14 : m34F14 k = (fun b1' => evC (m34E k) (fun _ f => f) (m34I k) 0 m34A (m34c [true, true, true, true]) (m34S14 b1') (retK Try.prog Try.f34 [.leaf (.own (.int .i64) 3), .leaf (.val (.int .i64))])) := funext fun b1' => (m34q14 k b1').symm
    show _ = m34X13 (m34F14 k) ((fun t5' b1' => none)) k [] t5 b1
    rw [e14]
    exact m34x13 (fun _ f => f) k (fun _ => none) [] t5 b1
  | y :: l, t5, b1 => by
    have e0 : m34F13 k l = (fun t5' b1' => rangeL [.leaf (.val (.int .i64))] [14] (normAt 0 m34A true (m34c [true, true, true, false, true, true, true])) (fun s s1 K1 => evC (m34E k) (fun _ f => f) (m34I k) s.nx m34A (m34c [true, true, true, false, true, true, false]) s1 (asK fun s2 => evC (m34E k) (fun _ f => f) (m34I k) s.nx m34A (m34c [true, true, true, false, true, true, true]) s2 K1)) (m34K7 (fun _ f => f) k) l (m34S13 t5' b1')) := funext fun t5' => funext fun b1' => (m34q13 k l t5' b1').symm
    have e14 : m34F14 k = (fun b1' => evC (m34E k) (fun _ f => f) (m34I k) 0 m34A (m34c [true, true, true, true]) (m34S14 b1') (retK Try.prog Try.f34 [.leaf (.own (.int .i64) 3), .leaf (.val (.int .i64))])) := funext fun b1' => (m34q14 k b1').symm
    show _ = m34X13 (m34F14 k) (m34F13 k l) k (y :: l) t5 b1
    rw [e0, e14]
    exact m34x13 (fun _ f => f) k (rangeL [.leaf (.val (.int .i64))] [14] (normAt 0 m34A true (m34c [true, true, true, false, true, true, true])) (fun s s1 K1 => evC (m34E k) (fun _ f => f) (m34I k) s.nx m34A (m34c [true, true, true, false, true, true, false]) s1 (asK fun s2 => evC (m34E k) (fun _ f => f) (m34I k) s.nx m34A (m34c [true, true, true, false, true, true, true]) s2 K1)) (m34K7 (fun _ f => f) k) l) (y :: l) t5 b1

noncomputable def m34F (k : Nat) (p0 : (List Int)) (p1 : Int) : Option ((List Int) × Int) := m34X (m34F13 k) k p0 p1

theorem m34q (k : Nat) (p0 : (List Int)) (p1 : Int) : evC (m34E k) (fun _ f => f) (m34I k) 0 m34A (m34c []) (stAt Try.f34 (argSs [.leaf (.val (.row (.int .u8))), .leaf (.val (.int .i64))] (p0, p1)) (fun _ => none) 0) (retK Try.prog Try.f34 [.leaf (.own (.int .i64) 3), .leaf (.val (.int .i64))]) = m34F k p0 p1 := by
    have e13 : m34F13 k = (fun l13' t5' b1' => rangeL [.leaf (.val (.int .i64))] [14] (normAt 0 m34A true (m34c [true, true, true, false, true, true, true])) (fun s s1 K1 => evC (m34E k) (fun _ f => f) (m34I k) s.nx m34A (m34c [true, true, true, false, true, true, false]) s1 (asK fun s2 => evC (m34E k) (fun _ f => f) (m34I k) s.nx m34A (m34c [true, true, true, false, true, true, true]) s2 K1)) (m34K7 (fun _ f => f) k) l13' (m34S13 t5' b1')) := funext fun l13' => funext fun t5' => funext fun b1' => (m34q13 k l13' t5' b1').symm
    show _ = m34X (m34F13 k) k p0 p1
    rw [e13]
    exact m34x (fun _ f => f) k p0 p1

noncomputable def m34sp : Spec := { ps := [.leaf (.val (.row (.int .u8))), .leaf (.val (.int .i64))], rs := [.leaf (.own (.int .i64) 3), .leaf (.val (.int .i64))], f := fun k a => m34F k a.1 a.2 }

theorem m34ok (k : Nat) : EnvOk (m34E k) := envOk_of (l := []) (lB := []) (lG := [(42, m42sp)]) progNames progMixed rfl rfl rfl (.nil) (.nil) (.cons ⟨m42con k, Try.f42, by kernel_rfl, by kernel_rfl⟩ (.nil))

theorem m34con (k : Nat) : Contract Try.prog k 34 m34sp := contract_of (E := m34E k) (m34ok k) (A := only 34 m34A) (d := 3) (c := m34c []) (by kernel_rfl) (by kernel_rfl) fun a _ h => (m34q k a.1 a.2).trans h

noncomputable def m15A : Anns := tabA []
noncomputable def m15E (k : Nat) : Env := { P := Try.prog, k := k, G := tabG [(34, m34sp)], GB := tabGB [], GG := tabGG [] }
noncomputable def m15c (p : List Bool) : Code := sub p (bodyOf Try.f15)
noncomputable def m15I (k : Nat) : Inl ((List Int) × Int) := inlOf (m15E k) (only 15 m15A) 3
noncomputable def m15K0 (M : Cut ((List Int) × Int)) (k : Nat) : Exit → St → Option ((List Int) × Int) := seqK (normAt 0 m15A false (m15c [true])) (cutK M m15A (m15c [true]) fun s => evC (m15E k) M (m15I k) 0 m15A (m15c [true]) s (retK Try.prog Try.f15 [.leaf (.own (.int .i64) 3), .leaf (.val (.int .i64))])) (retK Try.prog Try.f15 [.leaf (.own (.int .i64) 3), .leaf (.val (.int .i64))])
noncomputable def m15K1 (M : Cut ((List Int) × Int)) (k : Nat) : Exit → St → Option ((List Int) × Int) := seqK (normAt 0 m15A false (m15c [true, true])) (cutK M m15A (m15c [true, true]) fun s => evC (m15E k) M (m15I k) 0 m15A (m15c [true, true]) s (retK Try.prog Try.f15 [.leaf (.own (.int .i64) 3), .leaf (.val (.int .i64))])) (retK Try.prog Try.f15 [.leaf (.own (.int .i64) 3), .leaf (.val (.int .i64))])

noncomputable def m15X (k : Nat) (p0 : (List Int)) : Option ((List Int) × Int) := (Option.bind (m34F k p0 4) fun (c3 : ((List Int) × Int)) => some ((Prod.fst c3, Prod.snd c3)))

theorem m15x (M : Cut ((List Int) × Int)) (k : Nat) (p0 : (List Int)) : evC (m15E k) M (m15I k) 0 m15A (m15c []) (stAt Try.f15 (argSs [.leaf (.val (.row (.int .u8)))] p0) (fun _ => none) 0) (retK Try.prog Try.f15 [.leaf (.own (.int .i64) 3), .leaf (.val (.int .i64))]) = m15X k p0 := by kernel_rfl

noncomputable def m15F (k : Nat) (p0 : (List Int)) : Option ((List Int) × Int) := m15X k p0

theorem m15q (k : Nat) (p0 : (List Int)) : evC (m15E k) (fun _ f => f) (m15I k) 0 m15A (m15c []) (stAt Try.f15 (argSs [.leaf (.val (.row (.int .u8)))] p0) (fun _ => none) 0) (retK Try.prog Try.f15 [.leaf (.own (.int .i64) 3), .leaf (.val (.int .i64))]) = m15F k p0 := by
    show _ = m15X k p0
    exact m15x (fun _ f => f) k p0

noncomputable def m15sp : Spec := { ps := [.leaf (.val (.row (.int .u8)))], rs := [.leaf (.own (.int .i64) 3), .leaf (.val (.int .i64))], f := fun k a => m15F k a }

theorem m15ok (k : Nat) : EnvOk (m15E k) := envOk_of (l := [(34, m34sp)]) (lB := []) (lG := []) progNames progMixed rfl rfl rfl (.cons ⟨m34con k, Try.f34, by kernel_rfl, by kernel_rfl⟩ (.nil)) (.nil) (.nil)

theorem m15con (k : Nat) : Contract Try.prog k 15 m15sp := contract_of (E := m15E k) (m15ok k) (A := only 15 m15A) (d := 3) (c := m15c []) (by kernel_rfl) (by kernel_rfl) fun a _ h => (m15q k a).trans h

noncomputable def m16A : Anns := tabA [(9, { keep := [0, 1, 5] })]
noncomputable def m16E (k : Nat) : Env := { P := Try.prog, k := k, G := tabG [], GB := tabGB [], GG := tabGG [] }
noncomputable def m16c (p : List Bool) : Code := sub p (bodyOf Try.f16)
noncomputable def m16I (k : Nat) : Inl Bool := inlOf (m16E k) (only 16 m16A) 3
noncomputable def m16K0 (M : Cut Bool) (k : Nat) : Exit → St → Option Bool := seqK (normAt 0 m16A false (m16c [true])) (cutK M m16A (m16c [true]) fun s => evC (m16E k) M (m16I k) 0 m16A (m16c [true]) s (retK Try.prog Try.f16 [.leaf (.val .bool)])) (retK Try.prog Try.f16 [.leaf (.val .bool)])
noncomputable def m16K1 (M : Cut Bool) (k : Nat) : Exit → St → Option Bool := seqK (normAt 0 m16A false (m16c [true, true])) (cutK M m16A (m16c [true, true]) fun s => evC (m16E k) M (m16I k) 0 m16A (m16c [true, true]) s (retK Try.prog Try.f16 [.leaf (.val .bool)])) (retK Try.prog Try.f16 [.leaf (.val .bool)])
noncomputable def m16K2 (M : Cut Bool) (k : Nat) : Exit → St → Option Bool := seqK (normAt 0 m16A false (m16c [true, false, true])) (cutK M m16A (m16c [true, false, true]) fun s => evC (m16E k) M (m16I k) 0 m16A (m16c [true, false, true]) s (m16K1 M k)) (m16K1 M k)
noncomputable def m16K3 (M : Cut Bool) (k : Nat) : Exit → St → Option Bool := seqK (normAt 0 m16A false (m16c [true, false, true, false, true])) (cutK M m16A (m16c [true, false, true, false, true]) fun s => evC (m16E k) M (m16I k) 0 m16A (m16c [true, false, true, false, true]) s (m16K1 M k)) (m16K1 M k)
noncomputable def m16K4 (M : Cut Bool) (k : Nat) : Exit → St → Option Bool := seqK (normAt 0 m16A false (m16c [true, true, true])) (cutK M m16A (m16c [true, true, true]) fun s => evC (m16E k) M (m16I k) 0 m16A (m16c [true, true, true]) s (retK Try.prog Try.f16 [.leaf (.val .bool)])) (retK Try.prog Try.f16 [.leaf (.val .bool)])
noncomputable def m16K5 (M : Cut Bool) (k : Nat) : Exit → St → Option Bool := seqK (normAt 0 m16A false (m16c [true, true, false, true])) (cutK M m16A (m16c [true, true, false, true]) fun s => evC (m16E k) M (m16I k) 0 m16A (m16c [true, true, false, true]) s (m16K4 M k)) (m16K4 M k)
noncomputable def m16K6 (M : Cut Bool) (k : Nat) : Exit → St → Option Bool := blockK 0 (m16K4 M k)
noncomputable def m16K7 (M : Cut Bool) (k : Nat) (L9 : St → Option Bool) : Exit → St → Option Bool := seqK (normAt 0 m16A true (m16c [true, true, false, true, true, true])) L9 (m16K6 M k)
noncomputable def m16K8 (M : Cut Bool) (k : Nat) (L9 : St → Option Bool) : Exit → St → Option Bool := seqK (normAt 0 m16A false (m16c [true, true, false, true, true, true, true])) (cutK M m16A (m16c [true, true, false, true, true, true, true]) fun s => evC (m16E k) M (m16I k) 0 m16A (m16c [true, true, false, true, true, true, true]) s (m16K7 M k L9)) (m16K7 M k L9)
noncomputable def m16K9 (M : Cut Bool) (k : Nat) (L9 : St → Option Bool) : Exit → St → Option Bool := seqK (normAt 0 m16A false (m16c [true, true, false, true, true, true, false, true])) (cutK M m16A (m16c [true, true, false, true, true, true, false, true]) fun s => evC (m16E k) M (m16I k) 0 m16A (m16c [true, true, false, true, true, true, false, true]) s (m16K8 M k L9)) (m16K8 M k L9)
noncomputable def m16K10 (M : Cut Bool) (k : Nat) (L9 : St → Option Bool) : Exit → St → Option Bool := seqK (normAt 0 m16A false (m16c [true, true, false, true, true, true, true, true])) (cutK M m16A (m16c [true, true, false, true, true, true, true, true]) fun s => evC (m16E k) M (m16I k) 0 m16A (m16c [true, true, false, true, true, true, true, true]) s (m16K7 M k L9)) (m16K7 M k L9)
noncomputable def m16K11 (M : Cut Bool) (k : Nat) (L9 : St → Option Bool) : Exit → St → Option Bool := blockK 1 (m16K10 M k L9)
noncomputable def m16K12 (M : Cut Bool) (k : Nat) (L9 : St → Option Bool) : Exit → St → Option Bool := seqK (normAt 0 m16A false (m16c [true, true, false, true, true, true, true, false, true, true])) (cutK M m16A (m16c [true, true, false, true, true, true, true, false, true, true]) fun s => evC (m16E k) M (m16I k) 0 m16A (m16c [true, true, false, true, true, true, true, false, true, true]) s (m16K11 M k L9)) (m16K11 M k L9)
noncomputable def m16K13 (M : Cut Bool) (k : Nat) (L9 : St → Option Bool) : Exit → St → Option Bool := seqK (normAt 0 m16A false (m16c [true, true, false, true, true, true, true, false, true, true, false, true])) (cutK M m16A (m16c [true, true, false, true, true, true, true, false, true, true, false, true]) fun s => evC (m16E k) M (m16I k) 0 m16A (m16c [true, true, false, true, true, true, true, false, true, true, false, true]) s (m16K11 M k L9)) (m16K11 M k L9)
noncomputable def m16K14 (M : Cut Bool) (k : Nat) : Exit → St → Option Bool := seqK (normAt 0 m16A false (m16c [true, true, true, true])) (cutK M m16A (m16c [true, true, true, true]) fun s => evC (m16E k) M (m16I k) 0 m16A (m16c [true, true, true, true]) s (retK Try.prog Try.f16 [.leaf (.val .bool)])) (retK Try.prog Try.f16 [.leaf (.val .bool)])
noncomputable def m16S9 (t0 : List Int) (t1 : List Int) (t5 : Int) : St := { n := 26, tm := slots [(0, .row (.int .i64) t0), (1, .row (.int .i64) t1), (5, .int .i64 t5)], tab := blks [], nx := 0 }

noncomputable def m16X (X9 : List Int → List Int → Int → Option Bool) (k : Nat) (p0 : (List Int)) (p1 : (List Int)) : Option Bool := (if (!eqI (↑(List.length p0) : Int) (↑(List.length p1) : Int)) = true then some (false) else X9 p0 p1 (0))

theorem m16x (M : Cut Bool) (k : Nat) (p0 : (List Int)) (p1 : (List Int)) : evC (m16E k) M (m16I k) 0 m16A (m16c []) (stAt Try.f16 (argSs [.leaf (.val (.row (.int .i64))), .leaf (.val (.row (.int .i64)))] (p0, p1)) (fun _ => none) 0) (retK Try.prog Try.f16 [.leaf (.val .bool)]) = m16X (fun t0' t1' t5' => loopN (normAt 0 m16A true (m16c [true, true, false, true, true, true])) (fun K s => evC (m16E k) M (m16I k) 0 m16A (m16c [true, true, false, true, true, true]) s K) (m16K6 M k) k (m16S9 t0' t1' t5')) k p0 p1 := by kernel_rfl

noncomputable def m16X9 (L9 : List Int → List Int → Int → Option Bool) (k : Nat) (t0 : List Int) (t1 : List Int) (t5 : Int) : Option Bool := (if ltI t5 (↑(List.length t0) : Int) = true then (if leI 0 t5 = true then (if ltI t5 (↑(List.length t0) : Int) = true then (if leI 0 t5 = true then (if ltI t5 (↑(List.length t1) : Int) = true then (if (!eqI (List.getD t0 (Int.toNat t5) 0) (List.getD t1 (Int.toNat t5) 0)) = true then some (false) else L9 t0 t1 (wr IntKind.i64 (t5 + 1))) else none) else none) else none) else none) else some (true))

theorem m16x9 (M : Cut Bool) (k : Nat) (L9 : St → Option Bool) (t0 : List Int) (t1 : List Int) (t5 : Int) : evC (m16E k) M (m16I k) 0 m16A (m16c [true, true, false, true, true, true]) (m16S9 t0 t1 t5) (seqK (normAt 0 m16A true (m16c [true, true, false, true, true, true])) L9 (m16K6 M k)) = m16X9 (fun t0' t1' t5' => L9 (m16S9 t0' t1' t5')) k t0 t1 t5 := by kernel_rfl

noncomputable def m16F9 (k : Nat) : Nat → List Int → List Int → Int → Option Bool
  | 0, _, _, _ => none
  | j + 1, t0, t1, t5 => m16X9 (m16F9 k j) k t0 t1 t5

theorem m16q9 (k : Nat) : ∀ (j : Nat) (t0 : List Int) (t1 : List Int) (t5 : Int), loopN (normAt 0 m16A true (m16c [true, true, false, true, true, true])) (fun K s => evC (m16E k) (fun _ f => f) (m16I k) 0 m16A (m16c [true, true, false, true, true, true]) s K) (m16K6 (fun _ f => f) k) j (m16S9 t0 t1 t5) = m16F9 k j t0 t1 t5
  | 0, _, _, _ => rfl
  | j + 1, t0, t1, t5 => by
    have e0 : m16F9 k j = (fun t0' t1' t5' => loopN (normAt 0 m16A true (m16c [true, true, false, true, true, true])) (fun K s => evC (m16E k) (fun _ f => f) (m16I k) 0 m16A (m16c [true, true, false, true, true, true]) s K) (m16K6 (fun _ f => f) k) j (m16S9 t0' t1' t5')) := funext fun t0' => funext fun t1' => funext fun t5' => (m16q9 k j t0' t1' t5').symm
    show _ = m16X9 (m16F9 k j) k t0 t1 t5
    rw [e0]
    exact m16x9 (fun _ f => f) k (loopN (normAt 0 m16A true (m16c [true, true, false, true, true, true])) (fun K s => evC (m16E k) (fun _ f => f) (m16I k) 0 m16A (m16c [true, true, false, true, true, true]) s K) (m16K6 (fun _ f => f) k) j) t0 t1 t5

noncomputable def m16F (k : Nat) (p0 : (List Int)) (p1 : (List Int)) : Option Bool := m16X (m16F9 k k) k p0 p1

theorem m16q (k : Nat) (p0 : (List Int)) (p1 : (List Int)) : evC (m16E k) (fun _ f => f) (m16I k) 0 m16A (m16c []) (stAt Try.f16 (argSs [.leaf (.val (.row (.int .i64))), .leaf (.val (.row (.int .i64)))] (p0, p1)) (fun _ => none) 0) (retK Try.prog Try.f16 [.leaf (.val .bool)]) = m16F k p0 p1 := by
    have e9 : m16F9 k k = (fun t0' t1' t5' => loopN (normAt 0 m16A true (m16c [true, true, false, true, true, true])) (fun K s => evC (m16E k) (fun _ f => f) (m16I k) 0 m16A (m16c [true, true, false, true, true, true]) s K) (m16K6 (fun _ f => f) k) k (m16S9 t0' t1' t5')) := funext fun t0' => funext fun t1' => funext fun t5' => (m16q9 k k t0' t1' t5').symm
    show _ = m16X (m16F9 k k) k p0 p1
    rw [e9]
    exact m16x (fun _ f => f) k p0 p1

noncomputable def m16sp : Spec := { ps := [.leaf (.val (.row (.int .i64))), .leaf (.val (.row (.int .i64)))], rs := [.leaf (.val .bool)], f := fun k a => m16F k a.1 a.2 }

theorem m16ok (k : Nat) : EnvOk (m16E k) := envOk_of (l := []) (lB := []) (lG := []) progNames progMixed rfl rfl rfl (.nil) (.nil) (.nil)

theorem m16con (k : Nat) : Contract Try.prog k 16 m16sp := contract_of (E := m16E k) (m16ok k) (A := only 16 m16A) (d := 3) (c := m16c []) (by kernel_rfl) (by kernel_rfl) fun a _ h => (m16q k a.1 a.2).trans h

noncomputable def m12A : Anns := tabA []
noncomputable def m12E (k : Nat) : Env := { P := Try.prog, k := k, G := tabG [(10, m10sp), (15, m15sp), (16, m16sp)], GB := tabGB [], GG := tabGG [] }
noncomputable def m12c (p : List Bool) : Code := sub p (bodyOf Try.f12)
noncomputable def m12I (k : Nat) : Inl Bool := inlOf (m12E k) (only 12 m12A) 3
noncomputable def m12K0 (M : Cut Bool) (k : Nat) : Exit → St → Option Bool := seqK (normAt 0 m12A false (m12c [true])) (cutK M m12A (m12c [true]) fun s => evC (m12E k) M (m12I k) 0 m12A (m12c [true]) s (retK Try.prog Try.f12 [.leaf (.val .bool)])) (retK Try.prog Try.f12 [.leaf (.val .bool)])
noncomputable def m12K1 (M : Cut Bool) (k : Nat) : Exit → St → Option Bool := seqK (normAt 0 m12A false (m12c [true, true])) (cutK M m12A (m12c [true, true]) fun s => evC (m12E k) M (m12I k) 0 m12A (m12c [true, true]) s (retK Try.prog Try.f12 [.leaf (.val .bool)])) (retK Try.prog Try.f12 [.leaf (.val .bool)])
noncomputable def m12K2 (M : Cut Bool) (k : Nat) : Exit → St → Option Bool := seqK (normAt 0 m12A false (m12c [true, true, true])) (cutK M m12A (m12c [true, true, true]) fun s => evC (m12E k) M (m12I k) 0 m12A (m12c [true, true, true]) s (retK Try.prog Try.f12 [.leaf (.val .bool)])) (retK Try.prog Try.f12 [.leaf (.val .bool)])

noncomputable def m12X (k : Nat) : Option Bool := (Option.bind (m15F k (List.set (List.replicate 1 0) 0 165)) fun (c2 : ((List Int) × Int)) => (if eqI (Prod.snd c2) 0 = true then (Option.bind (m16F k (Prod.fst c2) (List.set (List.set (List.replicate 2 0) 0 10) 1 5)) fun (c3 : Bool) => (if c3 = true then (Option.bind (m10F k 7) fun (c4 : Int) => some (eqI c4 3)) else some (false))) else some (false)))

theorem m12x (M : Cut Bool) (k : Nat) : evC (m12E k) M (m12I k) 0 m12A (m12c []) (stAt Try.f12 (argSs [] ()) (fun _ => none) 0) (retK Try.prog Try.f12 [.leaf (.val .bool)]) = m12X k := by kernel_rfl

noncomputable def m12F (k : Nat) : Option Bool := m12X k

theorem m12q (k : Nat) : evC (m12E k) (fun _ f => f) (m12I k) 0 m12A (m12c []) (stAt Try.f12 (argSs [] ()) (fun _ => none) 0) (retK Try.prog Try.f12 [.leaf (.val .bool)]) = m12F k := by
    show _ = m12X k
    exact m12x (fun _ f => f) k

noncomputable def m12sp : Spec := { ps := [], rs := [.leaf (.val .bool)], f := fun k a => m12F k }

theorem m12ok (k : Nat) : EnvOk (m12E k) := envOk_of (l := [(10, m10sp), (15, m15sp), (16, m16sp)]) (lB := []) (lG := []) progNames progMixed rfl rfl rfl (.cons ⟨m10con k, Try.f10, by kernel_rfl, by kernel_rfl⟩ (.cons ⟨m15con k, Try.f15, by kernel_rfl, by kernel_rfl⟩ (.cons ⟨m16con k, Try.f16, by kernel_rfl, by kernel_rfl⟩ (.nil)))) (.nil) (.nil)

theorem m12con (k : Nat) : Contract Try.prog k 12 m12sp := contract_of (E := m12E k) (m12ok k) (A := only 12 m12A) (d := 3) (c := m12c []) (by kernel_rfl) (by kernel_rfl) fun a _ h => (m12q k).trans h

noncomputable def m13A : Anns := tabA []
noncomputable def m13E (k : Nat) : Env := { P := Try.prog, k := k, G := tabG [], GB := tabGB [], GG := tabGG [] }
noncomputable def m13c (p : List Bool) : Code := sub p (bodyOf Try.f13)
noncomputable def m13I (k : Nat) : Inl (List Int) := inlOf (m13E k) (only 13 m13A) 3
noncomputable def m13K0 (M : Cut (List Int)) (k : Nat) : Exit → St → Option (List Int) := seqK (normAt 0 m13A false (m13c [true])) (cutK M m13A (m13c [true]) fun s => evC (m13E k) M (m13I k) 0 m13A (m13c [true]) s (retK Try.prog Try.f13 [.leaf (.own (.int .u8) 5)])) (retK Try.prog Try.f13 [.leaf (.own (.int .u8) 5)])
noncomputable def m13K1 (M : Cut (List Int)) (k : Nat) : Exit → St → Option (List Int) := seqK (normAt 0 m13A false (m13c [true, true])) (cutK M m13A (m13c [true, true]) fun s => evC (m13E k) M (m13I k) 0 m13A (m13c [true, true]) s (retK Try.prog Try.f13 [.leaf (.own (.int .u8) 5)])) (retK Try.prog Try.f13 [.leaf (.own (.int .u8) 5)])
noncomputable def m13K2 (M : Cut (List Int)) (k : Nat) : Exit → St → Option (List Int) := seqK (normAt 0 m13A false (m13c [true, true, true])) (cutK M m13A (m13c [true, true, true]) fun s => evC (m13E k) M (m13I k) 0 m13A (m13c [true, true, true]) s (retK Try.prog Try.f13 [.leaf (.own (.int .u8) 5)])) (retK Try.prog Try.f13 [.leaf (.own (.int .u8) 5)])

noncomputable def m13X (k : Nat) (p0 : (List Int)) : Option (List Int) := (if leI (↑(List.length p0 * 1) : Int) 140737488355328 = true then some p0 else none)

theorem m13x (M : Cut (List Int)) (k : Nat) (p0 : (List Int)) : evC (m13E k) M (m13I k) 0 m13A (m13c []) (stAt Try.f13 (argSs [.leaf (.val (.row (.int .u8)))] p0) (fun _ => none) 0) (retK Try.prog Try.f13 [.leaf (.own (.int .u8) 5)]) = m13X k p0 := by kernel_rfl

noncomputable def m13F (k : Nat) (p0 : (List Int)) : Option (List Int) := m13X k p0

theorem m13q (k : Nat) (p0 : (List Int)) : evC (m13E k) (fun _ f => f) (m13I k) 0 m13A (m13c []) (stAt Try.f13 (argSs [.leaf (.val (.row (.int .u8)))] p0) (fun _ => none) 0) (retK Try.prog Try.f13 [.leaf (.own (.int .u8) 5)]) = m13F k p0 := by
    show _ = m13X k p0
    exact m13x (fun _ f => f) k p0

noncomputable def m13sp : Spec := { ps := [.leaf (.val (.row (.int .u8)))], rs := [.leaf (.own (.int .u8) 5)], f := fun k a => m13F k a }

theorem m13ok (k : Nat) : EnvOk (m13E k) := envOk_of (l := []) (lB := []) (lG := []) progNames progMixed rfl rfl rfl (.nil) (.nil) (.nil)

theorem m13con (k : Nat) : Contract Try.prog k 13 m13sp := contract_of (E := m13E k) (m13ok k) (A := only 13 m13A) (d := 3) (c := m13c []) (by kernel_rfl) (by kernel_rfl) fun a _ h => (m13q k a).trans h

noncomputable def m14A : Anns := tabA []
noncomputable def m14E (k : Nat) : Env := { P := Try.prog, k := k, G := tabG [(34, m34sp)], GB := tabGB [], GG := tabGG [] }
noncomputable def m14c (p : List Bool) : Code := sub p (bodyOf Try.f14)
noncomputable def m14I (k : Nat) : Inl ((List Int) × Int) := inlOf (m14E k) (only 14 m14A) 3
noncomputable def m14K0 (M : Cut ((List Int) × Int)) (k : Nat) : Exit → St → Option ((List Int) × Int) := seqK (normAt 0 m14A false (m14c [true])) (cutK M m14A (m14c [true]) fun s => evC (m14E k) M (m14I k) 0 m14A (m14c [true]) s (retK Try.prog Try.f14 [.leaf (.own (.int .i64) 3), .leaf (.val (.int .i64))])) (retK Try.prog Try.f14 [.leaf (.own (.int .i64) 3), .leaf (.val (.int .i64))])
noncomputable def m14K1 (M : Cut ((List Int) × Int)) (k : Nat) : Exit → St → Option ((List Int) × Int) := seqK (normAt 0 m14A false (m14c [true, true])) (cutK M m14A (m14c [true, true]) fun s => evC (m14E k) M (m14I k) 0 m14A (m14c [true, true]) s (retK Try.prog Try.f14 [.leaf (.own (.int .i64) 3), .leaf (.val (.int .i64))])) (retK Try.prog Try.f14 [.leaf (.own (.int .i64) 3), .leaf (.val (.int .i64))])

noncomputable def m14X (k : Nat) (p0 : (List Int)) : Option ((List Int) × Int) := (Option.bind (m34F k p0 1) fun (c3 : ((List Int) × Int)) => some ((Prod.fst c3, Prod.snd c3)))

theorem m14x (M : Cut ((List Int) × Int)) (k : Nat) (p0 : (List Int)) : evC (m14E k) M (m14I k) 0 m14A (m14c []) (stAt Try.f14 (argSs [.leaf (.val (.row (.int .u8)))] p0) (fun _ => none) 0) (retK Try.prog Try.f14 [.leaf (.own (.int .i64) 3), .leaf (.val (.int .i64))]) = m14X k p0 := by kernel_rfl

noncomputable def m14F (k : Nat) (p0 : (List Int)) : Option ((List Int) × Int) := m14X k p0

theorem m14q (k : Nat) (p0 : (List Int)) : evC (m14E k) (fun _ f => f) (m14I k) 0 m14A (m14c []) (stAt Try.f14 (argSs [.leaf (.val (.row (.int .u8)))] p0) (fun _ => none) 0) (retK Try.prog Try.f14 [.leaf (.own (.int .i64) 3), .leaf (.val (.int .i64))]) = m14F k p0 := by
    show _ = m14X k p0
    exact m14x (fun _ f => f) k p0

noncomputable def m14sp : Spec := { ps := [.leaf (.val (.row (.int .u8)))], rs := [.leaf (.own (.int .i64) 3), .leaf (.val (.int .i64))], f := fun k a => m14F k a }

theorem m14ok (k : Nat) : EnvOk (m14E k) := envOk_of (l := [(34, m34sp)]) (lB := []) (lG := []) progNames progMixed rfl rfl rfl (.cons ⟨m34con k, Try.f34, by kernel_rfl, by kernel_rfl⟩ (.nil)) (.nil) (.nil)

theorem m14con (k : Nat) : Contract Try.prog k 14 m14sp := contract_of (E := m14E k) (m14ok k) (A := only 14 m14A) (d := 3) (c := m14c []) (by kernel_rfl) (by kernel_rfl) fun a _ h => (m14q k a).trans h

noncomputable def m17A : Anns := tabA []
noncomputable def m17E (k : Nat) : Env := { P := Try.prog, k := k, G := tabG [], GB := tabGB [], GG := tabGG [] }
noncomputable def m17c (p : List Bool) : Code := sub p (bodyOf Try.f17)
noncomputable def m17I (k : Nat) : Inl (List Int) := inlOf (m17E k) (only 17 m17A) 3
noncomputable def m17K0 (M : Cut (List Int)) (k : Nat) : Exit → St → Option (List Int) := seqK (normAt 0 m17A false (m17c [true])) (cutK M m17A (m17c [true]) fun s => evC (m17E k) M (m17I k) 0 m17A (m17c [true]) s (retK Try.prog Try.f17 [.leaf (.own (.int .i64) 3)])) (retK Try.prog Try.f17 [.leaf (.own (.int .i64) 3)])
noncomputable def m17K1 (M : Cut (List Int)) (k : Nat) : Exit → St → Option (List Int) := seqK (normAt 0 m17A false (m17c [true, true])) (cutK M m17A (m17c [true, true]) fun s => evC (m17E k) M (m17I k) 0 m17A (m17c [true, true]) s (retK Try.prog Try.f17 [.leaf (.own (.int .i64) 3)])) (retK Try.prog Try.f17 [.leaf (.own (.int .i64) 3)])
noncomputable def m17K2 (M : Cut (List Int)) (k : Nat) : Exit → St → Option (List Int) := seqK (normAt 0 m17A false (m17c [true, true, true])) (cutK M m17A (m17c [true, true, true]) fun s => evC (m17E k) M (m17I k) 0 m17A (m17c [true, true, true]) s (retK Try.prog Try.f17 [.leaf (.own (.int .i64) 3)])) (retK Try.prog Try.f17 [.leaf (.own (.int .i64) 3)])

noncomputable def m17X (k : Nat) (p0 : (List Int)) : Option (List Int) := (if leI (↑(List.length p0 * 8) : Int) 140737488355328 = true then some p0 else none)

theorem m17x (M : Cut (List Int)) (k : Nat) (p0 : (List Int)) : evC (m17E k) M (m17I k) 0 m17A (m17c []) (stAt Try.f17 (argSs [.leaf (.val (.row (.int .i64)))] p0) (fun _ => none) 0) (retK Try.prog Try.f17 [.leaf (.own (.int .i64) 3)]) = m17X k p0 := by kernel_rfl

noncomputable def m17F (k : Nat) (p0 : (List Int)) : Option (List Int) := m17X k p0

theorem m17q (k : Nat) (p0 : (List Int)) : evC (m17E k) (fun _ f => f) (m17I k) 0 m17A (m17c []) (stAt Try.f17 (argSs [.leaf (.val (.row (.int .i64)))] p0) (fun _ => none) 0) (retK Try.prog Try.f17 [.leaf (.own (.int .i64) 3)]) = m17F k p0 := by
    show _ = m17X k p0
    exact m17x (fun _ f => f) k p0

noncomputable def m17sp : Spec := { ps := [.leaf (.val (.row (.int .i64)))], rs := [.leaf (.own (.int .i64) 3)], f := fun k a => m17F k a }

theorem m17ok (k : Nat) : EnvOk (m17E k) := envOk_of (l := []) (lB := []) (lG := []) progNames progMixed rfl rfl rfl (.nil) (.nil) (.nil)

theorem m17con (k : Nat) : Contract Try.prog k 17 m17sp := contract_of (E := m17E k) (m17ok k) (A := only 17 m17A) (d := 3) (c := m17c []) (by kernel_rfl) (by kernel_rfl) fun a _ h => (m17q k a).trans h

noncomputable def m35A : Anns := tabA []
noncomputable def m35E (k : Nat) : Env := { P := Try.prog, k := k, G := tabG [], GB := tabGB [], GG := tabGG [] }
noncomputable def m35c (p : List Bool) : Code := sub p (bodyOf Try.f35)
noncomputable def m35I (k : Nat) : Inl (List Int) := inlOf (m35E k) (only 35 m35A) 3
noncomputable def m35K0 (M : Cut (List Int)) (k : Nat) : Exit → St → Option (List Int) := seqK (normAt 0 m35A false (m35c [true])) (cutK M m35A (m35c [true]) fun s => evC (m35E k) M (m35I k) 0 m35A (m35c [true]) s (retK Try.prog Try.f35 [.leaf (.own (.int .u8) 5)])) (retK Try.prog Try.f35 [.leaf (.own (.int .u8) 5)])
noncomputable def m35K1 (M : Cut (List Int)) (k : Nat) : Exit → St → Option (List Int) := seqK (normAt 0 m35A false (m35c [true, true])) (cutK M m35A (m35c [true, true]) fun s => evC (m35E k) M (m35I k) 0 m35A (m35c [true, true]) s (retK Try.prog Try.f35 [.leaf (.own (.int .u8) 5)])) (retK Try.prog Try.f35 [.leaf (.own (.int .u8) 5)])
noncomputable def m35K2 (M : Cut (List Int)) (k : Nat) : Exit → St → Option (List Int) := seqK (normAt 0 m35A false (m35c [true, false, true])) (cutK M m35A (m35c [true, false, true]) fun s => evC (m35E k) M (m35I k) 0 m35A (m35c [true, false, true]) s (m35K1 M k)) (m35K1 M k)
noncomputable def m35K3 (M : Cut (List Int)) (k : Nat) : Exit → St → Option (List Int) := seqK (normAt 0 m35A false (m35c [true, false, true, false, true])) (cutK M m35A (m35c [true, false, true, false, true]) fun s => evC (m35E k) M (m35I k) 0 m35A (m35c [true, false, true, false, true]) s (m35K1 M k)) (m35K1 M k)
noncomputable def m35K4 (M : Cut (List Int)) (k : Nat) : Exit → St → Option (List Int) := seqK (normAt 0 m35A false (m35c [true, true, true])) (cutK M m35A (m35c [true, true, true]) fun s => evC (m35E k) M (m35I k) 0 m35A (m35c [true, true, true]) s (retK Try.prog Try.f35 [.leaf (.own (.int .u8) 5)])) (retK Try.prog Try.f35 [.leaf (.own (.int .u8) 5)])

noncomputable def m35X (k : Nat) (p0 : (List Int)) : Option (List Int) := (nilK (List.isEmpty p0) (some ([])) ((if leI (↑((0 + List.length p0) * 1) : Int) 140737488355328 = true then some (List.replicate 0 0 ++ p0) else none)))

theorem m35x (M : Cut (List Int)) (k : Nat) (p0 : (List Int)) : evC (m35E k) M (m35I k) 0 m35A (m35c []) (stAt Try.f35 (argSs [.leaf (.val (.row (.int .u8)))] p0) (fun _ => none) 0) (retK Try.prog Try.f35 [.leaf (.own (.int .u8) 5)]) = m35X k p0 := by kernel_rfl

noncomputable def m35F (k : Nat) (p0 : (List Int)) : Option (List Int) := m35X k p0

theorem m35q (k : Nat) (p0 : (List Int)) : evC (m35E k) (fun _ f => f) (m35I k) 0 m35A (m35c []) (stAt Try.f35 (argSs [.leaf (.val (.row (.int .u8)))] p0) (fun _ => none) 0) (retK Try.prog Try.f35 [.leaf (.own (.int .u8) 5)]) = m35F k p0 := by
    show _ = m35X k p0
    exact m35x (fun _ f => f) k p0

noncomputable def m35sp : Spec := { ps := [.leaf (.val (.row (.int .u8)))], rs := [.leaf (.own (.int .u8) 5)], f := fun k a => m35F k a }

theorem m35ok (k : Nat) : EnvOk (m35E k) := envOk_of (l := []) (lB := []) (lG := []) progNames progMixed rfl rfl rfl (.nil) (.nil) (.nil)

theorem m35con (k : Nat) : Contract Try.prog k 35 m35sp := contract_of (E := m35E k) (m35ok k) (A := only 35 m35A) (d := 3) (c := m35c []) (by kernel_rfl) (by kernel_rfl) fun a _ h => (m35q k a).trans h

noncomputable def m18A : Anns := tabA [(11, { keep := [1, 6, 22, 23] }), (18, { keep := [6] })]
noncomputable def m18E (k : Nat) : Env := { P := Try.prog, k := k, G := tabG [(35, m35sp)], GB := tabGB [], GG := tabGG [] }
noncomputable def m18c (p : List Bool) : Code := sub p (bodyOf Try.f18)
noncomputable def m18I (k : Nat) : Inl ((List Int) × Int) := inlOf (m18E k) (only 18 m18A) 3
noncomputable def m18K0 (M : Cut ((List Int) × Int)) (k : Nat) : Exit → St → Option ((List Int) × Int) := seqK (normAt 0 m18A false (m18c [true])) (cutK M m18A (m18c [true]) fun s => evC (m18E k) M (m18I k) 0 m18A (m18c [true]) s (retK Try.prog Try.f18 [.leaf (.own (.int .u8) 5), .leaf (.val (.int .i64))])) (retK Try.prog Try.f18 [.leaf (.own (.int .u8) 5), .leaf (.val (.int .i64))])
noncomputable def m18K1 (M : Cut ((List Int) × Int)) (k : Nat) : Exit → St → Option ((List Int) × Int) := seqK (normAt 0 m18A false (m18c [true, true])) (cutK M m18A (m18c [true, true]) fun s => evC (m18E k) M (m18I k) 0 m18A (m18c [true, true]) s (retK Try.prog Try.f18 [.leaf (.own (.int .u8) 5), .leaf (.val (.int .i64))])) (retK Try.prog Try.f18 [.leaf (.own (.int .u8) 5), .leaf (.val (.int .i64))])
noncomputable def m18K2 (M : Cut ((List Int) × Int)) (k : Nat) : Exit → St → Option ((List Int) × Int) := seqK (normAt 0 m18A false (m18c [true, false, true])) (cutK M m18A (m18c [true, false, true]) fun s => evC (m18E k) M (m18I k) 0 m18A (m18c [true, false, true]) s (m18K1 M k)) (m18K1 M k)
noncomputable def m18K3 (M : Cut ((List Int) × Int)) (k : Nat) : Exit → St → Option ((List Int) × Int) := seqK (normAt 0 m18A false (m18c [true, false, true, false, true])) (cutK M m18A (m18c [true, false, true, false, true]) fun s => evC (m18E k) M (m18I k) 0 m18A (m18c [true, false, true, false, true]) s (m18K1 M k)) (m18K1 M k)
noncomputable def m18K4 (M : Cut ((List Int) × Int)) (k : Nat) : Exit → St → Option ((List Int) × Int) := seqK (normAt 0 m18A false (m18c [true, true, true])) (cutK M m18A (m18c [true, true, true]) fun s => evC (m18E k) M (m18I k) 0 m18A (m18c [true, true, true]) s (retK Try.prog Try.f18 [.leaf (.own (.int .u8) 5), .leaf (.val (.int .i64))])) (retK Try.prog Try.f18 [.leaf (.own (.int .u8) 5), .leaf (.val (.int .i64))])
noncomputable def m18K5 (M : Cut ((List Int) × Int)) (k : Nat) : Exit → St → Option ((List Int) × Int) := seqK (normAt 0 m18A false (m18c [true, true, true, true])) (cutK M m18A (m18c [true, true, true, true]) fun s => evC (m18E k) M (m18I k) 0 m18A (m18c [true, true, true, true]) s (retK Try.prog Try.f18 [.leaf (.own (.int .u8) 5), .leaf (.val (.int .i64))])) (retK Try.prog Try.f18 [.leaf (.own (.int .u8) 5), .leaf (.val (.int .i64))])
noncomputable def m18K6 (M : Cut ((List Int) × Int)) (k : Nat) : Exit → St → Option ((List Int) × Int) := seqK (normAt 0 m18A false (m18c [true, true, true, false, true])) (cutK M m18A (m18c [true, true, true, false, true]) fun s => evC (m18E k) M (m18I k) 0 m18A (m18c [true, true, true, false, true]) s (m18K5 M k)) (m18K5 M k)
noncomputable def m18K7 (M : Cut ((List Int) × Int)) (k : Nat) : Exit → St → Option ((List Int) × Int) := blockK 0 (m18K5 M k)
noncomputable def m18K8 (M : Cut ((List Int) × Int)) (k : Nat) (L11 : St → Option ((List Int) × Int)) : Exit → St → Option ((List Int) × Int) := seqK (normAt 0 m18A true (m18c [true, true, true, false, true, true, true])) L11 (m18K7 M k)
noncomputable def m18K9 (M : Cut ((List Int) × Int)) (k : Nat) (L11 : St → Option ((List Int) × Int)) : Exit → St → Option ((List Int) × Int) := seqK (normAt 0 m18A false (m18c [true, true, true, false, true, true, true, true])) (cutK M m18A (m18c [true, true, true, false, true, true, true, true]) fun s => evC (m18E k) M (m18I k) 0 m18A (m18c [true, true, true, false, true, true, true, true]) s (m18K8 M k L11)) (m18K8 M k L11)
noncomputable def m18K10 (M : Cut ((List Int) × Int)) (k : Nat) (L11 : St → Option ((List Int) × Int)) : Exit → St → Option ((List Int) × Int) := seqK (normAt 0 m18A false (m18c [true, true, true, false, true, true, true, true, true])) (cutK M m18A (m18c [true, true, true, false, true, true, true, true, true]) fun s => evC (m18E k) M (m18I k) 0 m18A (m18c [true, true, true, false, true, true, true, true, true]) s (m18K8 M k L11)) (m18K8 M k L11)
noncomputable def m18K11 (M : Cut ((List Int) × Int)) (k : Nat) (L11 : St → Option ((List Int) × Int)) : Exit → St → Option ((List Int) × Int) := seqK (normAt 0 m18A false (m18c [true, true, true, false, true, true, true, true, true, true])) (cutK M m18A (m18c [true, true, true, false, true, true, true, true, true, true]) fun s => evC (m18E k) M (m18I k) 0 m18A (m18c [true, true, true, false, true, true, true, true, true, true]) s (m18K8 M k L11)) (m18K8 M k L11)
noncomputable def m18K12 (M : Cut ((List Int) × Int)) (k : Nat) (L11 : St → Option ((List Int) × Int)) : Exit → St → Option ((List Int) × Int) := blockK 1 (m18K11 M k L11)
noncomputable def m18K13 (M : Cut ((List Int) × Int)) (k : Nat) (L11 : St → Option ((List Int) × Int)) : Exit → St → Option ((List Int) × Int) := seqK (normAt 0 m18A false (m18c [true, true, true, false, true, true, true, true, true, false, true, true])) (cutK M m18A (m18c [true, true, true, false, true, true, true, true, true, false, true, true]) fun s => evC (m18E k) M (m18I k) 0 m18A (m18c [true, true, true, false, true, true, true, true, true, false, true, true]) s (m18K12 M k L11)) (m18K12 M k L11)
noncomputable def m18K14 (M : Cut ((List Int) × Int)) (k : Nat) : Exit → St → Option ((List Int) × Int) := seqK (normAt 0 m18A false (m18c [true, true, true, true, true])) (cutK M m18A (m18c [true, true, true, true, true]) fun s => evC (m18E k) M (m18I k) 0 m18A (m18c [true, true, true, true, true]) s (retK Try.prog Try.f18 [.leaf (.own (.int .u8) 5), .leaf (.val (.int .i64))])) (retK Try.prog Try.f18 [.leaf (.own (.int .u8) 5), .leaf (.val (.int .i64))])
noncomputable def m18S11 (t1 : List Int) (t22 : Int) (t23 : Int) (b0 : List Int) : St := { n := 38, tm := slots [(1, .row (.int .u8) t1), (6, .own 0), (22, .int .i64 t22), (23, .int .i64 t23)], tab := blks [some (.row true (.int .u8) 5 b0)], nx := 1 }
noncomputable def m18S18 (b0 : List Int) : St := { n := 38, tm := slots [(6, .own 0)], tab := blks [some (.row true (.int .u8) 5 b0)], nx := 1 }

noncomputable def m18X (X11 : List Int → Int → Int → List Int → Option ((List Int) × Int)) (k : Nat) (p0 : (List Int)) (p1 : (List Int)) : Option ((List Int) × Int) := (if ltI 4096 (↑(List.length p0) : Int) = true then some (([], 2)) else (if ltI 4096 (↑(List.length p1) : Int) = true then some (([], 2)) else (Option.bind (m35F k p0) fun (c4 : (List Int)) => X11 p1 (mn (↑(List.length p0) : Int) (↑(List.length p1) : Int)) (0) c4)))

theorem m18x (M : Cut ((List Int) × Int)) (k : Nat) (p0 : (List Int)) (p1 : (List Int)) : evC (m18E k) M (m18I k) 0 m18A (m18c []) (stAt Try.f18 (argSs [.leaf (.val (.row (.int .u8))), .leaf (.val (.row (.int .u8)))] (p0, p1)) (fun _ => none) 0) (retK Try.prog Try.f18 [.leaf (.own (.int .u8) 5), .leaf (.val (.int .i64))]) = m18X (fun t1' t22' t23' b0' => loopN (normAt 0 m18A true (m18c [true, true, true, false, true, true, true])) (fun K s => evC (m18E k) M (m18I k) 0 m18A (m18c [true, true, true, false, true, true, true]) s K) (m18K7 M k) k (m18S11 t1' t22' t23' b0')) k p0 p1 := by kernel_rfl

noncomputable def m18X11 (X18 : List Int → Option ((List Int) × Int)) (L11 : List Int → Int → Int → List Int → Option ((List Int) × Int)) (k : Nat) (t1 : List Int) (t22 : Int) (t23 : Int) (b0 : List Int) : Option ((List Int) × Int) := (if ltI t23 t22 = true then (if leI 0 t23 = true then (if ltI t23 (↑(List.length b0) : Int) = true then (if leI 0 t23 = true then (if ltI t23 (↑(List.length t1) : Int) = true then (if leI 0 t23 = true then (if ltI t23 (↑(List.length b0) : Int) = true then L11 t1 t22 (wr IntKind.i64 (t23 + 1)) (List.set b0 (Int.toNat t23)
  (bits BinOp.xor IntKind.u8 (List.getD b0 (Int.toNat t23) 0) (List.getD t1 (Int.toNat t23) 0))) else none) else none) else none) else none) else none) else none) else X18 b0)

theorem m18x11 (M : Cut ((List Int) × Int)) (k : Nat) (L11 : St → Option ((List Int) × Int)) (t1 : List Int) (t22 : Int) (t23 : Int) (b0 : List Int) : evC (m18E k) M (m18I k) 0 m18A (m18c [true, true, true, false, true, true, true]) (m18S11 t1 t22 t23 b0) (seqK (normAt 0 m18A true (m18c [true, true, true, false, true, true, true])) L11 (m18K7 M k)) = m18X11 (fun b0' => M 18 (fun s => evC (m18E k) M (m18I k) 0 m18A (m18c [true, true, true, true]) s (retK Try.prog Try.f18 [.leaf (.own (.int .u8) 5), .leaf (.val (.int .i64))])) (m18S18 b0')) (fun t1' t22' t23' b0' => L11 (m18S11 t1' t22' t23' b0')) k t1 t22 t23 b0 := by kernel_rfl

noncomputable def m18X18 (k : Nat) (b0 : List Int) : Option ((List Int) × Int) := some ((b0, 0))

theorem m18x18 (M : Cut ((List Int) × Int)) (k : Nat) (b0 : List Int) : evC (m18E k) M (m18I k) 0 m18A (m18c [true, true, true, true]) (m18S18 b0) (retK Try.prog Try.f18 [.leaf (.own (.int .u8) 5), .leaf (.val (.int .i64))]) = m18X18 k b0 := by kernel_rfl

noncomputable def m18F18 (k : Nat) (b0 : List Int) : Option ((List Int) × Int) := m18X18 k b0

theorem m18q18 (k : Nat) (b0 : List Int) : evC (m18E k) (fun _ f => f) (m18I k) 0 m18A (m18c [true, true, true, true]) (m18S18 b0) (retK Try.prog Try.f18 [.leaf (.own (.int .u8) 5), .leaf (.val (.int .i64))]) = m18F18 k b0 := by
    show _ = m18X18 k b0
    exact m18x18 (fun _ f => f) k b0

noncomputable def m18F11 (k : Nat) : Nat → List Int → Int → Int → List Int → Option ((List Int) × Int)
  | 0, _, _, _, _ => none
  | j + 1, t1, t22, t23, b0 => m18X11 (m18F18 k) (m18F11 k j) k t1 t22 t23 b0

theorem m18q11 (k : Nat) : ∀ (j : Nat) (t1 : List Int) (t22 : Int) (t23 : Int) (b0 : List Int), loopN (normAt 0 m18A true (m18c [true, true, true, false, true, true, true])) (fun K s => evC (m18E k) (fun _ f => f) (m18I k) 0 m18A (m18c [true, true, true, false, true, true, true]) s K) (m18K7 (fun _ f => f) k) j (m18S11 t1 t22 t23 b0) = m18F11 k j t1 t22 t23 b0
  | 0, _, _, _, _ => rfl
  | j + 1, t1, t22, t23, b0 => by
    have e0 : m18F11 k j = (fun t1' t22' t23' b0' => loopN (normAt 0 m18A true (m18c [true, true, true, false, true, true, true])) (fun K s => evC (m18E k) (fun _ f => f) (m18I k) 0 m18A (m18c [true, true, true, false, true, true, true]) s K) (m18K7 (fun _ f => f) k) j (m18S11 t1' t22' t23' b0')) := funext fun t1' => funext fun t22' => funext fun t23' => funext fun b0' => (m18q11 k j t1' t22' t23' b0').symm
    have e18 : m18F18 k = (fun b0' => evC (m18E k) (fun _ f => f) (m18I k) 0 m18A (m18c [true, true, true, true]) (m18S18 b0') (retK Try.prog Try.f18 [.leaf (.own (.int .u8) 5), .leaf (.val (.int .i64))])) := funext fun b0' => (m18q18 k b0').symm
    show _ = m18X11 (m18F18 k) (m18F11 k j) k t1 t22 t23 b0
    rw [e0, e18]
    exact m18x11 (fun _ f => f) k (loopN (normAt 0 m18A true (m18c [true, true, true, false, true, true, true])) (fun K s => evC (m18E k) (fun _ f => f) (m18I k) 0 m18A (m18c [true, true, true, false, true, true, true]) s K) (m18K7 (fun _ f => f) k) j) t1 t22 t23 b0

noncomputable def m18F (k : Nat) (p0 : (List Int)) (p1 : (List Int)) : Option ((List Int) × Int) := m18X (m18F11 k k) k p0 p1

theorem m18q (k : Nat) (p0 : (List Int)) (p1 : (List Int)) : evC (m18E k) (fun _ f => f) (m18I k) 0 m18A (m18c []) (stAt Try.f18 (argSs [.leaf (.val (.row (.int .u8))), .leaf (.val (.row (.int .u8)))] (p0, p1)) (fun _ => none) 0) (retK Try.prog Try.f18 [.leaf (.own (.int .u8) 5), .leaf (.val (.int .i64))]) = m18F k p0 p1 := by
    have e11 : m18F11 k k = (fun t1' t22' t23' b0' => loopN (normAt 0 m18A true (m18c [true, true, true, false, true, true, true])) (fun K s => evC (m18E k) (fun _ f => f) (m18I k) 0 m18A (m18c [true, true, true, false, true, true, true]) s K) (m18K7 (fun _ f => f) k) k (m18S11 t1' t22' t23' b0')) := funext fun t1' => funext fun t22' => funext fun t23' => funext fun b0' => (m18q11 k k t1' t22' t23' b0').symm
    show _ = m18X (m18F11 k k) k p0 p1
    rw [e11]
    exact m18x (fun _ f => f) k p0 p1

noncomputable def m18sp : Spec := { ps := [.leaf (.val (.row (.int .u8))), .leaf (.val (.row (.int .u8)))], rs := [.leaf (.own (.int .u8) 5), .leaf (.val (.int .i64))], f := fun k a => m18F k a.1 a.2 }

theorem m18ok (k : Nat) : EnvOk (m18E k) := envOk_of (l := [(35, m35sp)]) (lB := []) (lG := []) progNames progMixed rfl rfl rfl (.cons ⟨m35con k, Try.f35, by kernel_rfl, by kernel_rfl⟩ (.nil)) (.nil) (.nil)

theorem m18con (k : Nat) : Contract Try.prog k 18 m18sp := contract_of (E := m18E k) (m18ok k) (A := only 18 m18A) (d := 3) (c := m18c []) (by kernel_rfl) (by kernel_rfl) fun a _ h => (m18q k a.1 a.2).trans h

noncomputable def m20A : Anns := tabA [(9, { keep := [0, 1, 5] })]
noncomputable def m20E (k : Nat) : Env := { P := Try.prog, k := k, G := tabG [], GB := tabGB [], GG := tabGG [] }
noncomputable def m20c (p : List Bool) : Code := sub p (bodyOf Try.f20)
noncomputable def m20I (k : Nat) : Inl Bool := inlOf (m20E k) (only 20 m20A) 3
noncomputable def m20K0 (M : Cut Bool) (k : Nat) : Exit → St → Option Bool := seqK (normAt 0 m20A false (m20c [true])) (cutK M m20A (m20c [true]) fun s => evC (m20E k) M (m20I k) 0 m20A (m20c [true]) s (retK Try.prog Try.f20 [.leaf (.val .bool)])) (retK Try.prog Try.f20 [.leaf (.val .bool)])
noncomputable def m20K1 (M : Cut Bool) (k : Nat) : Exit → St → Option Bool := seqK (normAt 0 m20A false (m20c [true, true])) (cutK M m20A (m20c [true, true]) fun s => evC (m20E k) M (m20I k) 0 m20A (m20c [true, true]) s (retK Try.prog Try.f20 [.leaf (.val .bool)])) (retK Try.prog Try.f20 [.leaf (.val .bool)])
noncomputable def m20K2 (M : Cut Bool) (k : Nat) : Exit → St → Option Bool := seqK (normAt 0 m20A false (m20c [true, false, true])) (cutK M m20A (m20c [true, false, true]) fun s => evC (m20E k) M (m20I k) 0 m20A (m20c [true, false, true]) s (m20K1 M k)) (m20K1 M k)
noncomputable def m20K3 (M : Cut Bool) (k : Nat) : Exit → St → Option Bool := seqK (normAt 0 m20A false (m20c [true, false, true, false, true])) (cutK M m20A (m20c [true, false, true, false, true]) fun s => evC (m20E k) M (m20I k) 0 m20A (m20c [true, false, true, false, true]) s (m20K1 M k)) (m20K1 M k)
noncomputable def m20K4 (M : Cut Bool) (k : Nat) : Exit → St → Option Bool := seqK (normAt 0 m20A false (m20c [true, true, true])) (cutK M m20A (m20c [true, true, true]) fun s => evC (m20E k) M (m20I k) 0 m20A (m20c [true, true, true]) s (retK Try.prog Try.f20 [.leaf (.val .bool)])) (retK Try.prog Try.f20 [.leaf (.val .bool)])
noncomputable def m20K5 (M : Cut Bool) (k : Nat) : Exit → St → Option Bool := seqK (normAt 0 m20A false (m20c [true, true, false, true])) (cutK M m20A (m20c [true, true, false, true]) fun s => evC (m20E k) M (m20I k) 0 m20A (m20c [true, true, false, true]) s (m20K4 M k)) (m20K4 M k)
noncomputable def m20K6 (M : Cut Bool) (k : Nat) : Exit → St → Option Bool := blockK 0 (m20K4 M k)
noncomputable def m20K7 (M : Cut Bool) (k : Nat) (L9 : St → Option Bool) : Exit → St → Option Bool := seqK (normAt 0 m20A true (m20c [true, true, false, true, true, true])) L9 (m20K6 M k)
noncomputable def m20K8 (M : Cut Bool) (k : Nat) (L9 : St → Option Bool) : Exit → St → Option Bool := seqK (normAt 0 m20A false (m20c [true, true, false, true, true, true, true])) (cutK M m20A (m20c [true, true, false, true, true, true, true]) fun s => evC (m20E k) M (m20I k) 0 m20A (m20c [true, true, false, true, true, true, true]) s (m20K7 M k L9)) (m20K7 M k L9)
noncomputable def m20K9 (M : Cut Bool) (k : Nat) (L9 : St → Option Bool) : Exit → St → Option Bool := seqK (normAt 0 m20A false (m20c [true, true, false, true, true, true, false, true])) (cutK M m20A (m20c [true, true, false, true, true, true, false, true]) fun s => evC (m20E k) M (m20I k) 0 m20A (m20c [true, true, false, true, true, true, false, true]) s (m20K8 M k L9)) (m20K8 M k L9)
noncomputable def m20K10 (M : Cut Bool) (k : Nat) (L9 : St → Option Bool) : Exit → St → Option Bool := seqK (normAt 0 m20A false (m20c [true, true, false, true, true, true, true, true])) (cutK M m20A (m20c [true, true, false, true, true, true, true, true]) fun s => evC (m20E k) M (m20I k) 0 m20A (m20c [true, true, false, true, true, true, true, true]) s (m20K7 M k L9)) (m20K7 M k L9)
noncomputable def m20K11 (M : Cut Bool) (k : Nat) (L9 : St → Option Bool) : Exit → St → Option Bool := blockK 1 (m20K10 M k L9)
noncomputable def m20K12 (M : Cut Bool) (k : Nat) (L9 : St → Option Bool) : Exit → St → Option Bool := seqK (normAt 0 m20A false (m20c [true, true, false, true, true, true, true, false, true, true])) (cutK M m20A (m20c [true, true, false, true, true, true, true, false, true, true]) fun s => evC (m20E k) M (m20I k) 0 m20A (m20c [true, true, false, true, true, true, true, false, true, true]) s (m20K11 M k L9)) (m20K11 M k L9)
noncomputable def m20K13 (M : Cut Bool) (k : Nat) (L9 : St → Option Bool) : Exit → St → Option Bool := seqK (normAt 0 m20A false (m20c [true, true, false, true, true, true, true, false, true, true, false, true])) (cutK M m20A (m20c [true, true, false, true, true, true, true, false, true, true, false, true]) fun s => evC (m20E k) M (m20I k) 0 m20A (m20c [true, true, false, true, true, true, true, false, true, true, false, true]) s (m20K11 M k L9)) (m20K11 M k L9)
noncomputable def m20K14 (M : Cut Bool) (k : Nat) : Exit → St → Option Bool := seqK (normAt 0 m20A false (m20c [true, true, true, true])) (cutK M m20A (m20c [true, true, true, true]) fun s => evC (m20E k) M (m20I k) 0 m20A (m20c [true, true, true, true]) s (retK Try.prog Try.f20 [.leaf (.val .bool)])) (retK Try.prog Try.f20 [.leaf (.val .bool)])
noncomputable def m20S9 (t0 : List Int) (t1 : List Int) (t5 : Int) : St := { n := 26, tm := slots [(0, .row (.int .u8) t0), (1, .row (.int .u8) t1), (5, .int .i64 t5)], tab := blks [], nx := 0 }

noncomputable def m20X (X9 : List Int → List Int → Int → Option Bool) (k : Nat) (p0 : (List Int)) (p1 : (List Int)) : Option Bool := (if (!eqI (↑(List.length p0) : Int) (↑(List.length p1) : Int)) = true then some (false) else X9 p0 p1 (0))

theorem m20x (M : Cut Bool) (k : Nat) (p0 : (List Int)) (p1 : (List Int)) : evC (m20E k) M (m20I k) 0 m20A (m20c []) (stAt Try.f20 (argSs [.leaf (.val (.row (.int .u8))), .leaf (.val (.row (.int .u8)))] (p0, p1)) (fun _ => none) 0) (retK Try.prog Try.f20 [.leaf (.val .bool)]) = m20X (fun t0' t1' t5' => loopN (normAt 0 m20A true (m20c [true, true, false, true, true, true])) (fun K s => evC (m20E k) M (m20I k) 0 m20A (m20c [true, true, false, true, true, true]) s K) (m20K6 M k) k (m20S9 t0' t1' t5')) k p0 p1 := by kernel_rfl

noncomputable def m20X9 (L9 : List Int → List Int → Int → Option Bool) (k : Nat) (t0 : List Int) (t1 : List Int) (t5 : Int) : Option Bool := (if ltI t5 (↑(List.length t0) : Int) = true then (if leI 0 t5 = true then (if ltI t5 (↑(List.length t0) : Int) = true then (if leI 0 t5 = true then (if ltI t5 (↑(List.length t1) : Int) = true then (if (!eqI (List.getD t0 (Int.toNat t5) 0) (List.getD t1 (Int.toNat t5) 0)) = true then some (false) else L9 t0 t1 (wr IntKind.i64 (t5 + 1))) else none) else none) else none) else none) else some (true))

theorem m20x9 (M : Cut Bool) (k : Nat) (L9 : St → Option Bool) (t0 : List Int) (t1 : List Int) (t5 : Int) : evC (m20E k) M (m20I k) 0 m20A (m20c [true, true, false, true, true, true]) (m20S9 t0 t1 t5) (seqK (normAt 0 m20A true (m20c [true, true, false, true, true, true])) L9 (m20K6 M k)) = m20X9 (fun t0' t1' t5' => L9 (m20S9 t0' t1' t5')) k t0 t1 t5 := by kernel_rfl

noncomputable def m20F9 (k : Nat) : Nat → List Int → List Int → Int → Option Bool
  | 0, _, _, _ => none
  | j + 1, t0, t1, t5 => m20X9 (m20F9 k j) k t0 t1 t5

theorem m20q9 (k : Nat) : ∀ (j : Nat) (t0 : List Int) (t1 : List Int) (t5 : Int), loopN (normAt 0 m20A true (m20c [true, true, false, true, true, true])) (fun K s => evC (m20E k) (fun _ f => f) (m20I k) 0 m20A (m20c [true, true, false, true, true, true]) s K) (m20K6 (fun _ f => f) k) j (m20S9 t0 t1 t5) = m20F9 k j t0 t1 t5
  | 0, _, _, _ => rfl
  | j + 1, t0, t1, t5 => by
    have e0 : m20F9 k j = (fun t0' t1' t5' => loopN (normAt 0 m20A true (m20c [true, true, false, true, true, true])) (fun K s => evC (m20E k) (fun _ f => f) (m20I k) 0 m20A (m20c [true, true, false, true, true, true]) s K) (m20K6 (fun _ f => f) k) j (m20S9 t0' t1' t5')) := funext fun t0' => funext fun t1' => funext fun t5' => (m20q9 k j t0' t1' t5').symm
    show _ = m20X9 (m20F9 k j) k t0 t1 t5
    rw [e0]
    exact m20x9 (fun _ f => f) k (loopN (normAt 0 m20A true (m20c [true, true, false, true, true, true])) (fun K s => evC (m20E k) (fun _ f => f) (m20I k) 0 m20A (m20c [true, true, false, true, true, true]) s K) (m20K6 (fun _ f => f) k) j) t0 t1 t5

noncomputable def m20F (k : Nat) (p0 : (List Int)) (p1 : (List Int)) : Option Bool := m20X (m20F9 k k) k p0 p1

theorem m20q (k : Nat) (p0 : (List Int)) (p1 : (List Int)) : evC (m20E k) (fun _ f => f) (m20I k) 0 m20A (m20c []) (stAt Try.f20 (argSs [.leaf (.val (.row (.int .u8))), .leaf (.val (.row (.int .u8)))] (p0, p1)) (fun _ => none) 0) (retK Try.prog Try.f20 [.leaf (.val .bool)]) = m20F k p0 p1 := by
    have e9 : m20F9 k k = (fun t0' t1' t5' => loopN (normAt 0 m20A true (m20c [true, true, false, true, true, true])) (fun K s => evC (m20E k) (fun _ f => f) (m20I k) 0 m20A (m20c [true, true, false, true, true, true]) s K) (m20K6 (fun _ f => f) k) k (m20S9 t0' t1' t5')) := funext fun t0' => funext fun t1' => funext fun t5' => (m20q9 k k t0' t1' t5').symm
    show _ = m20X (m20F9 k k) k p0 p1
    rw [e9]
    exact m20x (fun _ f => f) k p0 p1

noncomputable def m20sp : Spec := { ps := [.leaf (.val (.row (.int .u8))), .leaf (.val (.row (.int .u8)))], rs := [.leaf (.val .bool)], f := fun k a => m20F k a.1 a.2 }

theorem m20ok (k : Nat) : EnvOk (m20E k) := envOk_of (l := []) (lB := []) (lG := []) progNames progMixed rfl rfl rfl (.nil) (.nil) (.nil)

theorem m20con (k : Nat) : Contract Try.prog k 20 m20sp := contract_of (E := m20E k) (m20ok k) (A := only 20 m20A) (d := 3) (c := m20c []) (by kernel_rfl) (by kernel_rfl) fun a _ h => (m20q k a.1 a.2).trans h

noncomputable def m21A : Anns := tabA [(15, { keep := [1, 8, 9] }), (20, { keep := [8] })]
noncomputable def m21E (k : Nat) : Env := { P := Try.prog, k := k, G := tabG [(35, m35sp)], GB := tabGB [], GG := tabGG [] }
noncomputable def m21c (p : List Bool) : Code := sub p (bodyOf Try.f21)
noncomputable def m21I (k : Nat) : Inl ((List Int) × Int) := inlOf (m21E k) (only 21 m21A) 3
noncomputable def m21K0 (M : Cut ((List Int) × Int)) (k : Nat) : Exit → St → Option ((List Int) × Int) := seqK (normAt 0 m21A false (m21c [true])) (cutK M m21A (m21c [true]) fun s => evC (m21E k) M (m21I k) 0 m21A (m21c [true]) s (retK Try.prog Try.f21 [.leaf (.own (.int .u8) 5), .leaf (.val (.int .i64))])) (retK Try.prog Try.f21 [.leaf (.own (.int .u8) 5), .leaf (.val (.int .i64))])
noncomputable def m21K1 (M : Cut ((List Int) × Int)) (k : Nat) : Exit → St → Option ((List Int) × Int) := seqK (normAt 0 m21A false (m21c [true, true])) (cutK M m21A (m21c [true, true]) fun s => evC (m21E k) M (m21I k) 0 m21A (m21c [true, true]) s (retK Try.prog Try.f21 [.leaf (.own (.int .u8) 5), .leaf (.val (.int .i64))])) (retK Try.prog Try.f21 [.leaf (.own (.int .u8) 5), .leaf (.val (.int .i64))])
noncomputable def m21K2 (M : Cut ((List Int) × Int)) (k : Nat) : Exit → St → Option ((List Int) × Int) := blockK 0 (m21K1 M k)
noncomputable def m21K3 (M : Cut ((List Int) × Int)) (k : Nat) : Exit → St → Option ((List Int) × Int) := seqK (normAt 0 m21A false (m21c [true, false, true, true])) (cutK M m21A (m21c [true, false, true, true]) fun s => evC (m21E k) M (m21I k) 0 m21A (m21c [true, false, true, true]) s (m21K2 M k)) (m21K2 M k)
noncomputable def m21K4 (M : Cut ((List Int) × Int)) (k : Nat) : Exit → St → Option ((List Int) × Int) := seqK (normAt 0 m21A false (m21c [true, false, true, true, false, true])) (cutK M m21A (m21c [true, false, true, true, false, true]) fun s => evC (m21E k) M (m21I k) 0 m21A (m21c [true, false, true, true, false, true]) s (m21K2 M k)) (m21K2 M k)
noncomputable def m21K5 (M : Cut ((List Int) × Int)) (k : Nat) : Exit → St → Option ((List Int) × Int) := seqK (normAt 0 m21A false (m21c [true, false, true, true, true, true])) (cutK M m21A (m21c [true, false, true, true, true, true]) fun s => evC (m21E k) M (m21I k) 0 m21A (m21c [true, false, true, true, true, true]) s (m21K2 M k)) (m21K2 M k)
noncomputable def m21K6 (M : Cut ((List Int) × Int)) (k : Nat) : Exit → St → Option ((List Int) × Int) := seqK (normAt 0 m21A false (m21c [true, false, true, true, true, true, false, true])) (cutK M m21A (m21c [true, false, true, true, true, true, false, true]) fun s => evC (m21E k) M (m21I k) 0 m21A (m21c [true, false, true, true, true, true, false, true]) s (m21K2 M k)) (m21K2 M k)
noncomputable def m21K7 (M : Cut ((List Int) × Int)) (k : Nat) : Exit → St → Option ((List Int) × Int) := seqK (normAt 0 m21A false (m21c [true, true, true])) (cutK M m21A (m21c [true, true, true]) fun s => evC (m21E k) M (m21I k) 0 m21A (m21c [true, true, true]) s (retK Try.prog Try.f21 [.leaf (.own (.int .u8) 5), .leaf (.val (.int .i64))])) (retK Try.prog Try.f21 [.leaf (.own (.int .u8) 5), .leaf (.val (.int .i64))])
noncomputable def m21K8 (M : Cut ((List Int) × Int)) (k : Nat) : Exit → St → Option ((List Int) × Int) := seqK (normAt 0 m21A false (m21c [true, true, true, true])) (cutK M m21A (m21c [true, true, true, true]) fun s => evC (m21E k) M (m21I k) 0 m21A (m21c [true, true, true, true]) s (retK Try.prog Try.f21 [.leaf (.own (.int .u8) 5), .leaf (.val (.int .i64))])) (retK Try.prog Try.f21 [.leaf (.own (.int .u8) 5), .leaf (.val (.int .i64))])
noncomputable def m21K9 (M : Cut ((List Int) × Int)) (k : Nat) : Exit → St → Option ((List Int) × Int) := seqK (normAt 0 m21A false (m21c [true, true, true, false, true])) (cutK M m21A (m21c [true, true, true, false, true]) fun s => evC (m21E k) M (m21I k) 0 m21A (m21c [true, true, true, false, true]) s (m21K8 M k)) (m21K8 M k)
noncomputable def m21K10 (M : Cut ((List Int) × Int)) (k : Nat) : Exit → St → Option ((List Int) × Int) := blockK 1 (m21K8 M k)
noncomputable def m21K11 (M : Cut ((List Int) × Int)) (k : Nat) (L15 : St → Option ((List Int) × Int)) : Exit → St → Option ((List Int) × Int) := seqK (normAt 0 m21A true (m21c [true, true, true, false, true, true, true])) L15 (m21K10 M k)
noncomputable def m21K12 (M : Cut ((List Int) × Int)) (k : Nat) (L15 : St → Option ((List Int) × Int)) : Exit → St → Option ((List Int) × Int) := seqK (normAt 0 m21A false (m21c [true, true, true, false, true, true, true, true])) (cutK M m21A (m21c [true, true, true, false, true, true, true, true]) fun s => evC (m21E k) M (m21I k) 0 m21A (m21c [true, true, true, false, true, true, true, true]) s (m21K11 M k L15)) (m21K11 M k L15)
noncomputable def m21K13 (M : Cut ((List Int) × Int)) (k : Nat) (L15 : St → Option ((List Int) × Int)) : Exit → St → Option ((List Int) × Int) := seqK (normAt 0 m21A false (m21c [true, true, true, false, true, true, true, false, true])) (cutK M m21A (m21c [true, true, true, false, true, true, true, false, true]) fun s => evC (m21E k) M (m21I k) 0 m21A (m21c [true, true, true, false, true, true, true, false, true]) s (m21K12 M k L15)) (m21K12 M k L15)
noncomputable def m21K14 (M : Cut ((List Int) × Int)) (k : Nat) (L15 : St → Option ((List Int) × Int)) : Exit → St → Option ((List Int) × Int) := seqK (normAt 0 m21A false (m21c [true, true, true, false, true, true, true, true, true])) (cutK M m21A (m21c [true, true, true, false, true, true, true, true, true]) fun s => evC (m21E k) M (m21I k) 0 m21A (m21c [true, true, true, false, true, true, true, true, true]) s (m21K11 M k L15)) (m21K11 M k L15)
noncomputable def m21K15 (M : Cut ((List Int) × Int)) (k : Nat) (L15 : St → Option ((List Int) × Int)) : Exit → St → Option ((List Int) × Int) := blockK 2 (m21K14 M k L15)
noncomputable def m21K16 (M : Cut ((List Int) × Int)) (k : Nat) : Exit → St → Option ((List Int) × Int) := seqK (normAt 0 m21A false (m21c [true, true, true, true, true])) (cutK M m21A (m21c [true, true, true, true, true]) fun s => evC (m21E k) M (m21I k) 0 m21A (m21c [true, true, true, true, true]) s (retK Try.prog Try.f21 [.leaf (.own (.int .u8) 5), .leaf (.val (.int .i64))])) (retK Try.prog Try.f21 [.leaf (.own (.int .u8) 5), .leaf (.val (.int .i64))])
noncomputable def m21S15 (t1 : Int) (t9 : Int) (b0 : List Int) : St := { n := 52, tm := slots [(1, .int .i64 t1), (8, .own 0), (9, .int .i64 t9)], tab := blks [some (.row true (.int .u8) 5 b0)], nx := 1 }
noncomputable def m21S20 (b0 : List Int) : St := { n := 52, tm := slots [(8, .own 0)], tab := blks [some (.row true (.int .u8) 5 b0)], nx := 1 }

noncomputable def m21X (X15 : Int → Int → List Int → Option ((List Int) × Int)) (k : Nat) (p0 : (List Int)) (p1 : Int) (p2 : Int) : Option ((List Int) × Int) := (if ltI p2 1 = true then some (([], 1)) else (if ltI 4 p2 = true then some (([], 1)) else (if ltI p1 0 = true then some (([], 1)) else (if leI 0 (wr IntKind.i64 (8 * p2)) = true then (if leI (wr IntKind.i64 (1 * Mini.p2 (min (Int.toNat (wr IntKind.i64 (8 * p2))) 64))) p1 = true then some (([], 1)) else (if ltI (wr IntKind.i64 (4096 - p2)) (↑(List.length p0) : Int) = true then some (([], 2)) else (Option.bind (m35F k p0) fun (c5 : (List Int)) => X15 p1 (wr IntKind.i64 (p2 - 1)) c5))) else none))))

theorem m21x (M : Cut ((List Int) × Int)) (k : Nat) (p0 : (List Int)) (p1 : Int) (p2 : Int) : evC (m21E k) M (m21I k) 0 m21A (m21c []) (stAt Try.f21 (argSs [.leaf (.val (.row (.int .u8))), .leaf (.val (.int .i64)), .leaf (.val (.int .i64))] (p0, p1, p2)) (fun _ => none) 0) (retK Try.prog Try.f21 [.leaf (.own (.int .u8) 5), .leaf (.val (.int .i64))]) = m21X (fun t1' t9' b0' => loopN (normAt 0 m21A true (m21c [true, true, true, false, true, true, true])) (fun K s => evC (m21E k) M (m21I k) 0 m21A (m21c [true, true, true, false, true, true, true]) s K) (m21K10 M k) k (m21S15 t1' t9' b0')) k p0 p1 p2 := by kernel_rfl

noncomputable def m21X15 (X20 : List Int → Option ((List Int) × Int)) (L15 : Int → Int → List Int → Option ((List Int) × Int)) (k : Nat) (t1 : Int) (t9 : Int) (b0 : List Int) : Option ((List Int) × Int) := (if leI 0 t9 = true then (if leI 0 (wr IntKind.i64 (8 * t9)) = true then (if leI
    (↑((List.length b0 +
            List.length
              (List.set (List.replicate 1 0) 0
                (wr IntKind.u8 (t1 / p2 (min (Int.toNat (wr IntKind.i64 (8 * t9))) 64))))) *
          1) :
      Int)
    140737488355328 =
  true then L15 t1 (wr IntKind.i64 (t9 - 1)) (b0 ++ List.set (List.replicate 1 0) 0 (wr IntKind.u8 (t1 / p2 (min (Int.toNat (wr IntKind.i64 (8 * t9))) 64)))) else none) else none) else X20 b0)

theorem m21x15 (M : Cut ((List Int) × Int)) (k : Nat) (L15 : St → Option ((List Int) × Int)) (t1 : Int) (t9 : Int) (b0 : List Int) : evC (m21E k) M (m21I k) 0 m21A (m21c [true, true, true, false, true, true, true]) (m21S15 t1 t9 b0) (seqK (normAt 0 m21A true (m21c [true, true, true, false, true, true, true])) L15 (m21K10 M k)) = m21X15 (fun b0' => M 20 (fun s => evC (m21E k) M (m21I k) 0 m21A (m21c [true, true, true, true]) s (retK Try.prog Try.f21 [.leaf (.own (.int .u8) 5), .leaf (.val (.int .i64))])) (m21S20 b0')) (fun t1' t9' b0' => L15 (m21S15 t1' t9' b0')) k t1 t9 b0 := by kernel_rfl

noncomputable def m21X20 (k : Nat) (b0 : List Int) : Option ((List Int) × Int) := (Option.bind (m35F k b0) fun (c3 : (List Int)) => some ((c3, 0)))

theorem m21x20 (M : Cut ((List Int) × Int)) (k : Nat) (b0 : List Int) : evC (m21E k) M (m21I k) 0 m21A (m21c [true, true, true, true]) (m21S20 b0) (retK Try.prog Try.f21 [.leaf (.own (.int .u8) 5), .leaf (.val (.int .i64))]) = m21X20 k b0 := by kernel_rfl

noncomputable def m21F20 (k : Nat) (b0 : List Int) : Option ((List Int) × Int) := m21X20 k b0

theorem m21q20 (k : Nat) (b0 : List Int) : evC (m21E k) (fun _ f => f) (m21I k) 0 m21A (m21c [true, true, true, true]) (m21S20 b0) (retK Try.prog Try.f21 [.leaf (.own (.int .u8) 5), .leaf (.val (.int .i64))]) = m21F20 k b0 := by
    show _ = m21X20 k b0
    exact m21x20 (fun _ f => f) k b0

noncomputable def m21F15 (k : Nat) : Nat → Int → Int → List Int → Option ((List Int) × Int)
  | 0, _, _, _ => none
  | j + 1, t1, t9, b0 => m21X15 (m21F20 k) (m21F15 k j) k t1 t9 b0

theorem m21q15 (k : Nat) : ∀ (j : Nat) (t1 : Int) (t9 : Int) (b0 : List Int), loopN (normAt 0 m21A true (m21c [true, true, true, false, true, true, true])) (fun K s => evC (m21E k) (fun _ f => f) (m21I k) 0 m21A (m21c [true, true, true, false, true, true, true]) s K) (m21K10 (fun _ f => f) k) j (m21S15 t1 t9 b0) = m21F15 k j t1 t9 b0
  | 0, _, _, _ => rfl
  | j + 1, t1, t9, b0 => by
    have e0 : m21F15 k j = (fun t1' t9' b0' => loopN (normAt 0 m21A true (m21c [true, true, true, false, true, true, true])) (fun K s => evC (m21E k) (fun _ f => f) (m21I k) 0 m21A (m21c [true, true, true, false, true, true, true]) s K) (m21K10 (fun _ f => f) k) j (m21S15 t1' t9' b0')) := funext fun t1' => funext fun t9' => funext fun b0' => (m21q15 k j t1' t9' b0').symm
    have e20 : m21F20 k = (fun b0' => evC (m21E k) (fun _ f => f) (m21I k) 0 m21A (m21c [true, true, true, true]) (m21S20 b0') (retK Try.prog Try.f21 [.leaf (.own (.int .u8) 5), .leaf (.val (.int .i64))])) := funext fun b0' => (m21q20 k b0').symm
    show _ = m21X15 (m21F20 k) (m21F15 k j) k t1 t9 b0
    rw [e0, e20]
    exact m21x15 (fun _ f => f) k (loopN (normAt 0 m21A true (m21c [true, true, true, false, true, true, true])) (fun K s => evC (m21E k) (fun _ f => f) (m21I k) 0 m21A (m21c [true, true, true, false, true, true, true]) s K) (m21K10 (fun _ f => f) k) j) t1 t9 b0

noncomputable def m21F (k : Nat) (p0 : (List Int)) (p1 : Int) (p2 : Int) : Option ((List Int) × Int) := m21X (m21F15 k k) k p0 p1 p2

theorem m21q (k : Nat) (p0 : (List Int)) (p1 : Int) (p2 : Int) : evC (m21E k) (fun _ f => f) (m21I k) 0 m21A (m21c []) (stAt Try.f21 (argSs [.leaf (.val (.row (.int .u8))), .leaf (.val (.int .i64)), .leaf (.val (.int .i64))] (p0, p1, p2)) (fun _ => none) 0) (retK Try.prog Try.f21 [.leaf (.own (.int .u8) 5), .leaf (.val (.int .i64))]) = m21F k p0 p1 p2 := by
    have e15 : m21F15 k k = (fun t1' t9' b0' => loopN (normAt 0 m21A true (m21c [true, true, true, false, true, true, true])) (fun K s => evC (m21E k) (fun _ f => f) (m21I k) 0 m21A (m21c [true, true, true, false, true, true, true]) s K) (m21K10 (fun _ f => f) k) k (m21S15 t1' t9' b0')) := funext fun t1' => funext fun t9' => funext fun b0' => (m21q15 k k t1' t9' b0').symm
    show _ = m21X (m21F15 k k) k p0 p1 p2
    rw [e15]
    exact m21x (fun _ f => f) k p0 p1 p2

noncomputable def m21sp : Spec := { ps := [.leaf (.val (.row (.int .u8))), .leaf (.val (.int .i64)), .leaf (.val (.int .i64))], rs := [.leaf (.own (.int .u8) 5), .leaf (.val (.int .i64))], f := fun k a => m21F k a.1 a.2.1 a.2.2 }

theorem m21ok (k : Nat) : EnvOk (m21E k) := envOk_of (l := [(35, m35sp)]) (lB := []) (lG := []) progNames progMixed rfl rfl rfl (.cons ⟨m35con k, Try.f35, by kernel_rfl, by kernel_rfl⟩ (.nil)) (.nil) (.nil)

theorem m21con (k : Nat) : Contract Try.prog k 21 m21sp := contract_of (E := m21E k) (m21ok k) (A := only 21 m21A) (d := 3) (c := m21c []) (by kernel_rfl) (by kernel_rfl) fun a _ h => (m21q k a.1 a.2.1 a.2.2).trans h

noncomputable def m23A : Anns := tabA [(3, { keep := [0, 2] })]
noncomputable def m23E (k : Nat) : Env := { P := Try.prog, k := k, G := tabG [], GB := tabGB [], GG := tabGG [] }
noncomputable def m23c (p : List Bool) : Code := sub p (bodyOf Try.f23)
noncomputable def m23I (k : Nat) : Inl (List Int) := inlOf (m23E k) (only 23 m23A) 3
noncomputable def m23K0 (M : Cut (List Int)) (k : Nat) : Exit → St → Option (List Int) := seqK (normAt 1 m23A false (m23c [true])) (cutK M m23A (m23c [true]) fun s => evC (m23E k) M (m23I k) 1 m23A (m23c [true]) s (retB Try.prog Try.f23 (.int .u8) 5)) (retB Try.prog Try.f23 (.int .u8) 5)
noncomputable def m23K1 (M : Cut (List Int)) (k : Nat) : Exit → St → Option (List Int) := blockK 0 (retB Try.prog Try.f23 (.int .u8) 5)
noncomputable def m23K2 (M : Cut (List Int)) (k : Nat) (L3 : St → Option (List Int)) : Exit → St → Option (List Int) := seqK (normAt 1 m23A true (m23c [true, true, true])) L3 (m23K1 M k)
noncomputable def m23K3 (M : Cut (List Int)) (k : Nat) (L3 : St → Option (List Int)) : Exit → St → Option (List Int) := seqK (normAt 1 m23A false (m23c [true, true, true, true])) (cutK M m23A (m23c [true, true, true, true]) fun s => evC (m23E k) M (m23I k) 1 m23A (m23c [true, true, true, true]) s (m23K2 M k L3)) (m23K2 M k L3)
noncomputable def m23K4 (M : Cut (List Int)) (k : Nat) (L3 : St → Option (List Int)) : Exit → St → Option (List Int) := seqK (normAt 1 m23A false (m23c [true, true, true, false, true])) (cutK M m23A (m23c [true, true, true, false, true]) fun s => evC (m23E k) M (m23I k) 1 m23A (m23c [true, true, true, false, true]) s (m23K3 M k L3)) (m23K3 M k L3)
noncomputable def m23K5 (M : Cut (List Int)) (k : Nat) (L3 : St → Option (List Int)) : Exit → St → Option (List Int) := seqK (normAt 1 m23A false (m23c [true, true, true, true, true])) (cutK M m23A (m23c [true, true, true, true, true]) fun s => evC (m23E k) M (m23I k) 1 m23A (m23c [true, true, true, true, true]) s (m23K2 M k L3)) (m23K2 M k L3)
noncomputable def m23K6 (M : Cut (List Int)) (k : Nat) (L3 : St → Option (List Int)) : Exit → St → Option (List Int) := blockK 1 (m23K5 M k L3)
noncomputable def m23S3 (t0o : Nat) (t0n : Nat) (t2 : Int) (b0 : List Int) : St := { n := 17, tm := slots [(0, .sl 0 t0o t0n), (2, .int .i64 t2)], tab := blks [some (.row false (.int .u8) 5 b0)], nx := 1 }

noncomputable def m23X (X3 : Nat → Nat → Int → List Int → Option (List Int)) (k : Nat) (b0 : (List Int)) (o0 : Nat) (n0 : Nat) : Option (List Int) := X3 o0 n0 (0) b0

theorem m23x (M : Cut (List Int)) (k : Nat) (b0 : (List Int)) (o0 : Nat) (n0 : Nat) : evC (m23E k) M (m23I k) 1 m23A (m23c []) (stAt Try.f23 (.sl 0 o0 n0 :: argSs [] ()) (tabB (.int .u8) 5 b0) 1) (retB Try.prog Try.f23 (.int .u8) 5) = m23X (fun t0o' t0n' t2' b0' => loopN (normAt 1 m23A true (m23c [true, true, true])) (fun K s => evC (m23E k) M (m23I k) 1 m23A (m23c [true, true, true]) s K) (m23K1 M k) k (m23S3 t0o' t0n' t2' b0')) k b0 o0 n0 := by kernel_rfl

noncomputable def m23X3 (L3 : Nat → Nat → Int → List Int → Option (List Int)) (k : Nat) (t0o : Nat) (t0n : Nat) (t2 : Int) (b0 : List Int) : Option (List Int) := (if ltI t2 (↑t0n : Int) = true then (if leI 0 t2 = true then (if ltI t2 (↑t0n : Int) = true then (if leI 0 t2 = true then (if ltI t2 (↑t0n : Int) = true then L3 t0o t0n (wr IntKind.i64 (t2 + 1)) (List.set b0 (Int.toNat t2 + t0o) (wr IntKind.u8 (List.getD b0 (Int.toNat t2 + t0o) 0 + 101))) else none) else none) else none) else none) else some b0)

theorem m23x3 (M : Cut (List Int)) (k : Nat) (L3 : St → Option (List Int)) (t0o : Nat) (t0n : Nat) (t2 : Int) (b0 : List Int) : evC (m23E k) M (m23I k) 1 m23A (m23c [true, true, true]) (m23S3 t0o t0n t2 b0) (seqK (normAt 1 m23A true (m23c [true, true, true])) L3 (m23K1 M k)) = m23X3 (fun t0o' t0n' t2' b0' => L3 (m23S3 t0o' t0n' t2' b0')) k t0o t0n t2 b0 := by kernel_rfl

noncomputable def m23F3 (k : Nat) : Nat → Nat → Nat → Int → List Int → Option (List Int)
  | 0, _, _, _, _ => none
  | j + 1, t0o, t0n, t2, b0 => m23X3 (m23F3 k j) k t0o t0n t2 b0

theorem m23q3 (k : Nat) : ∀ (j : Nat) (t0o : Nat) (t0n : Nat) (t2 : Int) (b0 : List Int), loopN (normAt 1 m23A true (m23c [true, true, true])) (fun K s => evC (m23E k) (fun _ f => f) (m23I k) 1 m23A (m23c [true, true, true]) s K) (m23K1 (fun _ f => f) k) j (m23S3 t0o t0n t2 b0) = m23F3 k j t0o t0n t2 b0
  | 0, _, _, _, _ => rfl
  | j + 1, t0o, t0n, t2, b0 => by
    have e0 : m23F3 k j = (fun t0o' t0n' t2' b0' => loopN (normAt 1 m23A true (m23c [true, true, true])) (fun K s => evC (m23E k) (fun _ f => f) (m23I k) 1 m23A (m23c [true, true, true]) s K) (m23K1 (fun _ f => f) k) j (m23S3 t0o' t0n' t2' b0')) := funext fun t0o' => funext fun t0n' => funext fun t2' => funext fun b0' => (m23q3 k j t0o' t0n' t2' b0').symm
    show _ = m23X3 (m23F3 k j) k t0o t0n t2 b0
    rw [e0]
    exact m23x3 (fun _ f => f) k (loopN (normAt 1 m23A true (m23c [true, true, true])) (fun K s => evC (m23E k) (fun _ f => f) (m23I k) 1 m23A (m23c [true, true, true]) s K) (m23K1 (fun _ f => f) k) j) t0o t0n t2 b0

noncomputable def m23F (k : Nat) (b0 : (List Int)) (o0 : Nat) (n0 : Nat) : Option (List Int) := m23X (m23F3 k k) k b0 o0 n0

theorem m23q (k : Nat) (b0 : (List Int)) (o0 : Nat) (n0 : Nat) : evC (m23E k) (fun _ f => f) (m23I k) 1 m23A (m23c []) (stAt Try.f23 (.sl 0 o0 n0 :: argSs [] ()) (tabB (.int .u8) 5 b0) 1) (retB Try.prog Try.f23 (.int .u8) 5) = m23F k b0 o0 n0 := by
    have e3 : m23F3 k k = (fun t0o' t0n' t2' b0' => loopN (normAt 1 m23A true (m23c [true, true, true])) (fun K s => evC (m23E k) (fun _ f => f) (m23I k) 1 m23A (m23c [true, true, true]) s K) (m23K1 (fun _ f => f) k) k (m23S3 t0o' t0n' t2' b0')) := funext fun t0o' => funext fun t0n' => funext fun t2' => funext fun b0' => (m23q3 k k t0o' t0n' t2' b0').symm
    show _ = m23X (m23F3 k k) k b0 o0 n0
    rw [e3]
    exact m23x (fun _ f => f) k b0 o0 n0

noncomputable def m23sp : BSpec := { k := (.int .u8), T := 5, ps := [], f := fun k xs off len a => m23F k xs off len }

theorem m23ok (k : Nat) : EnvOk (m23E k) := envOk_of (l := []) (lB := []) (lG := []) progNames progMixed rfl rfl rfl (.nil) (.nil) (.nil)

theorem m23con (k : Nat) : ContractB Try.prog k 23 m23sp := contractB_of (E := m23E k) (m23ok k) (A := only 23 m23A) (d := 3) (c := m23c []) (by kernel_rfl) (by kernel_rfl) fun xs off len a _ h => (m23q k xs off len).trans h

noncomputable def m24A : Anns := tabA [(15, { keep := [8, 40, 41, 42] }), (22, { keep := [8] })]
noncomputable def m24E (k : Nat) : Env := { P := Try.prog, k := k, G := tabG [], GB := tabGB [], GG := tabGG [] }
noncomputable def m24c (p : List Bool) : Code := sub p (bodyOf Try.f24)
noncomputable def m24I (k : Nat) : Inl (Int × Int) := inlOf (m24E k) (only 24 m24A) 3
noncomputable def m24K0 (M : Cut (Int × Int)) (k : Nat) : Exit → St → Option (Int × Int) := seqK (normAt 0 m24A false (m24c [true])) (cutK M m24A (m24c [true]) fun s => evC (m24E k) M (m24I k) 0 m24A (m24c [true]) s (retK Try.prog Try.f24 [.leaf (.val (.int .i64)), .leaf (.val (.int .i64))])) (retK Try.prog Try.f24 [.leaf (.val (.int .i64)), .leaf (.val (.int .i64))])
noncomputable def m24K1 (M : Cut (Int × Int)) (k : Nat) : Exit → St → Option (Int × Int) := seqK (normAt 0 m24A false (m24c [true, true])) (cutK M m24A (m24c [true, true]) fun s => evC (m24E k) M (m24I k) 0 m24A (m24c [true, true]) s (retK Try.prog Try.f24 [.leaf (.val (.int .i64)), .leaf (.val (.int .i64))])) (retK Try.prog Try.f24 [.leaf (.val (.int .i64)), .leaf (.val (.int .i64))])
noncomputable def m24K2 (M : Cut (Int × Int)) (k : Nat) : Exit → St → Option (Int × Int) := blockK 0 (m24K1 M k)
noncomputable def m24K3 (M : Cut (Int × Int)) (k : Nat) : Exit → St → Option (Int × Int) := seqK (normAt 0 m24A false (m24c [true, false, true, true])) (cutK M m24A (m24c [true, false, true, true]) fun s => evC (m24E k) M (m24I k) 0 m24A (m24c [true, false, true, true]) s (m24K2 M k)) (m24K2 M k)
noncomputable def m24K4 (M : Cut (Int × Int)) (k : Nat) : Exit → St → Option (Int × Int) := seqK (normAt 0 m24A false (m24c [true, false, true, true, false, true])) (cutK M m24A (m24c [true, false, true, true, false, true]) fun s => evC (m24E k) M (m24I k) 0 m24A (m24c [true, false, true, true, false, true]) s (m24K2 M k)) (m24K2 M k)
noncomputable def m24K5 (M : Cut (Int × Int)) (k : Nat) : Exit → St → Option (Int × Int) := seqK (normAt 0 m24A false (m24c [true, false, true, true, true, true])) (cutK M m24A (m24c [true, false, true, true, true, true]) fun s => evC (m24E k) M (m24I k) 0 m24A (m24c [true, false, true, true, true, true]) s (m24K2 M k)) (m24K2 M k)
noncomputable def m24K6 (M : Cut (Int × Int)) (k : Nat) : Exit → St → Option (Int × Int) := seqK (normAt 0 m24A false (m24c [true, false, true, true, true, true, false, true])) (cutK M m24A (m24c [true, false, true, true, true, true, false, true]) fun s => evC (m24E k) M (m24I k) 0 m24A (m24c [true, false, true, true, true, true, false, true]) s (m24K2 M k)) (m24K2 M k)
noncomputable def m24K7 (M : Cut (Int × Int)) (k : Nat) : Exit → St → Option (Int × Int) := seqK (normAt 0 m24A false (m24c [true, true, true])) (cutK M m24A (m24c [true, true, true]) fun s => evC (m24E k) M (m24I k) 0 m24A (m24c [true, true, true]) s (retK Try.prog Try.f24 [.leaf (.val (.int .i64)), .leaf (.val (.int .i64))])) (retK Try.prog Try.f24 [.leaf (.val (.int .i64)), .leaf (.val (.int .i64))])
noncomputable def m24K8 (M : Cut (Int × Int)) (k : Nat) : Exit → St → Option (Int × Int) := seqK (normAt 0 m24A false (m24c [true, true, true, true])) (cutK M m24A (m24c [true, true, true, true]) fun s => evC (m24E k) M (m24I k) 0 m24A (m24c [true, true, true, true]) s (retK Try.prog Try.f24 [.leaf (.val (.int .i64)), .leaf (.val (.int .i64))])) (retK Try.prog Try.f24 [.leaf (.val (.int .i64)), .leaf (.val (.int .i64))])
noncomputable def m24K9 (M : Cut (Int × Int)) (k : Nat) : Exit → St → Option (Int × Int) := seqK (normAt 0 m24A false (m24c [true, true, true, false, true])) (cutK M m24A (m24c [true, true, true, false, true]) fun s => evC (m24E k) M (m24I k) 0 m24A (m24c [true, true, true, false, true]) s (m24K8 M k)) (m24K8 M k)
noncomputable def m24K10 (M : Cut (Int × Int)) (k : Nat) : Exit → St → Option (Int × Int) := blockK 1 (m24K8 M k)
noncomputable def m24K11 (M : Cut (Int × Int)) (k : Nat) (L15 : St → Option (Int × Int)) : Exit → St → Option (Int × Int) := seqK (normAt 0 m24A true (m24c [true, true, true, false, true, true, true])) L15 (m24K10 M k)
noncomputable def m24K12 (M : Cut (Int × Int)) (k : Nat) (L15 : St → Option (Int × Int)) : Exit → St → Option (Int × Int) := seqK (normAt 0 m24A false (m24c [true, true, true, false, true, true, true, true])) (cutK M m24A (m24c [true, true, true, false, true, true, true, true]) fun s => evC (m24E k) M (m24I k) 0 m24A (m24c [true, true, true, false, true, true, true, true]) s (m24K11 M k L15)) (m24K11 M k L15)
noncomputable def m24K13 (M : Cut (Int × Int)) (k : Nat) (L15 : St → Option (Int × Int)) : Exit → St → Option (Int × Int) := seqK (normAt 0 m24A false (m24c [true, true, true, false, true, true, true, true, true])) (cutK M m24A (m24c [true, true, true, false, true, true, true, true, true]) fun s => evC (m24E k) M (m24I k) 0 m24A (m24c [true, true, true, false, true, true, true, true, true]) s (m24K11 M k L15)) (m24K11 M k L15)
noncomputable def m24K14 (M : Cut (Int × Int)) (k : Nat) (L15 : St → Option (Int × Int)) : Exit → St → Option (Int × Int) := seqK (normAt 0 m24A false (m24c [true, true, true, false, true, true, true, true, true, true])) (cutK M m24A (m24c [true, true, true, false, true, true, true, true, true, true]) fun s => evC (m24E k) M (m24I k) 0 m24A (m24c [true, true, true, false, true, true, true, true, true, true]) s (m24K11 M k L15)) (m24K11 M k L15)
noncomputable def m24K15 (M : Cut (Int × Int)) (k : Nat) (L15 : St → Option (Int × Int)) : Exit → St → Option (Int × Int) := blockK 2 (m24K14 M k L15)
noncomputable def m24K16 (M : Cut (Int × Int)) (k : Nat) (L15 : St → Option (Int × Int)) : Exit → St → Option (Int × Int) := seqK (normAt 0 m24A false (m24c [true, true, true, false, true, true, true, true, true, false, true, true])) (cutK M m24A (m24c [true, true, true, false, true, true, true, true, true, false, true, true]) fun s => evC (m24E k) M (m24I k) 0 m24A (m24c [true, true, true, false, true, true, true, true, true, false, true, true]) s (m24K15 M k L15)) (m24K15 M k L15)
noncomputable def m24K17 (M : Cut (Int × Int)) (k : Nat) : Exit → St → Option (Int × Int) := seqK (normAt 0 m24A false (m24c [true, true, true, true, true])) (cutK M m24A (m24c [true, true, true, true, true]) fun s => evC (m24E k) M (m24I k) 0 m24A (m24c [true, true, true, true, true]) s (retK Try.prog Try.f24 [.leaf (.val (.int .i64)), .leaf (.val (.int .i64))])) (retK Try.prog Try.f24 [.leaf (.val (.int .i64)), .leaf (.val (.int .i64))])
noncomputable def m24S15 (t8 : Int) (t40 : List Int) (t41 : Int) (t42 : Int) : St := { n := 53, tm := slots [(8, .int .i64 t8), (40, .row (.int .u8) t40), (41, .int .i64 t41), (42, .int .i64 t42)], tab := blks [], nx := 0 }
noncomputable def m24S22 (t8 : Int) : St := { n := 53, tm := slots [(8, .int .i64 t8)], tab := blks [], nx := 0 }

noncomputable def m24X (X15 : Int → List Int → Int → Int → Option (Int × Int)) (k : Nat) (p0 : (List Int)) (p1 : Int) (p2 : Int) : Option (Int × Int) := (if ltI p2 1 = true then some ((0, 1)) else (if ltI 4 p2 = true then some ((0, 1)) else (if ltI p1 0 = true then some ((0, 1)) else (if ltI (↑(List.length p0) : Int) p1 = true then some ((0, 1)) else (if ltI (wr IntKind.i64 ((↑(List.length p0) : Int) - p1)) p2 = true then some ((0, 3)) else (if leI 0 (wr IntKind.i64 (p1 + p2)) = true then (if leI (wr IntKind.i64 (p1 + p2)) (↑(List.length p0) : Int) = true then (if leI 0 p1 = true then (if leI p1 (wr IntKind.i64 (p1 + p2)) = true then X15 (0) (List.drop (Int.toNat p1) (List.take (Int.toNat (wr IntKind.i64 (p1 + p2))) p0)) ((↑(List.length (List.drop (Int.toNat p1) (List.take (Int.toNat (wr IntKind.i64 (p1 + p2))) p0))) : Int)) (0) else none) else none) else none) else none))))))

theorem m24x (M : Cut (Int × Int)) (k : Nat) (p0 : (List Int)) (p1 : Int) (p2 : Int) : evC (m24E k) M (m24I k) 0 m24A (m24c []) (stAt Try.f24 (argSs [.leaf (.val (.row (.int .u8))), .leaf (.val (.int .i64)), .leaf (.val (.int .i64))] (p0, p1, p2)) (fun _ => none) 0) (retK Try.prog Try.f24 [.leaf (.val (.int .i64)), .leaf (.val (.int .i64))]) = m24X (fun t8' t40' t41' t42' => loopN (normAt 0 m24A true (m24c [true, true, true, false, true, true, true])) (fun K s => evC (m24E k) M (m24I k) 0 m24A (m24c [true, true, true, false, true, true, true]) s K) (m24K10 M k) k (m24S15 t8' t40' t41' t42')) k p0 p1 p2 := by kernel_rfl

noncomputable def m24X15 (X22 : Int → Option (Int × Int)) (L15 : Int → List Int → Int → Int → Option (Int × Int)) (k : Nat) (t8 : Int) (t40 : List Int) (t41 : Int) (t42 : Int) : Option (Int × Int) := (if ltI t42 t41 = true then (if leI 0 t42 = true then (if ltI t42 (↑(List.length t40) : Int) = true then (if leI 0 8 = true then L15 (bits BinOp.or IntKind.i64 (wr IntKind.i64 (t8 * 256)) (wr IntKind.i64 (List.getD t40 (Int.toNat t42) 0))) t40 t41 (wr IntKind.i64 (t42 + 1)) else none) else none) else none) else X22 t8)

theorem m24x15 (M : Cut (Int × Int)) (k : Nat) (L15 : St → Option (Int × Int)) (t8 : Int) (t40 : List Int) (t41 : Int) (t42 : Int) : evC (m24E k) M (m24I k) 0 m24A (m24c [true, true, true, false, true, true, true]) (m24S15 t8 t40 t41 t42) (seqK (normAt 0 m24A true (m24c [true, true, true, false, true, true, true])) L15 (m24K10 M k)) = m24X15 (fun t8' => M 22 (fun s => evC (m24E k) M (m24I k) 0 m24A (m24c [true, true, true, true]) s (retK Try.prog Try.f24 [.leaf (.val (.int .i64)), .leaf (.val (.int .i64))])) (m24S22 t8')) (fun t8' t40' t41' t42' => L15 (m24S15 t8' t40' t41' t42')) k t8 t40 t41 t42 := by kernel_rfl

noncomputable def m24X22 (k : Nat) (t8 : Int) : Option (Int × Int) := some ((t8, 0))

theorem m24x22 (M : Cut (Int × Int)) (k : Nat) (t8 : Int) : evC (m24E k) M (m24I k) 0 m24A (m24c [true, true, true, true]) (m24S22 t8) (retK Try.prog Try.f24 [.leaf (.val (.int .i64)), .leaf (.val (.int .i64))]) = m24X22 k t8 := by kernel_rfl

noncomputable def m24F22 (k : Nat) (t8 : Int) : Option (Int × Int) := m24X22 k t8

theorem m24q22 (k : Nat) (t8 : Int) : evC (m24E k) (fun _ f => f) (m24I k) 0 m24A (m24c [true, true, true, true]) (m24S22 t8) (retK Try.prog Try.f24 [.leaf (.val (.int .i64)), .leaf (.val (.int .i64))]) = m24F22 k t8 := by
    show _ = m24X22 k t8
    exact m24x22 (fun _ f => f) k t8

noncomputable def m24F15 (k : Nat) : Nat → Int → List Int → Int → Int → Option (Int × Int)
  | 0, _, _, _, _ => none
  | j + 1, t8, t40, t41, t42 => m24X15 (m24F22 k) (m24F15 k j) k t8 t40 t41 t42

theorem m24q15 (k : Nat) : ∀ (j : Nat) (t8 : Int) (t40 : List Int) (t41 : Int) (t42 : Int), loopN (normAt 0 m24A true (m24c [true, true, true, false, true, true, true])) (fun K s => evC (m24E k) (fun _ f => f) (m24I k) 0 m24A (m24c [true, true, true, false, true, true, true]) s K) (m24K10 (fun _ f => f) k) j (m24S15 t8 t40 t41 t42) = m24F15 k j t8 t40 t41 t42
  | 0, _, _, _, _ => rfl
  | j + 1, t8, t40, t41, t42 => by
    have e0 : m24F15 k j = (fun t8' t40' t41' t42' => loopN (normAt 0 m24A true (m24c [true, true, true, false, true, true, true])) (fun K s => evC (m24E k) (fun _ f => f) (m24I k) 0 m24A (m24c [true, true, true, false, true, true, true]) s K) (m24K10 (fun _ f => f) k) j (m24S15 t8' t40' t41' t42')) := funext fun t8' => funext fun t40' => funext fun t41' => funext fun t42' => (m24q15 k j t8' t40' t41' t42').symm
    have e22 : m24F22 k = (fun t8' => evC (m24E k) (fun _ f => f) (m24I k) 0 m24A (m24c [true, true, true, true]) (m24S22 t8') (retK Try.prog Try.f24 [.leaf (.val (.int .i64)), .leaf (.val (.int .i64))])) := funext fun t8' => (m24q22 k t8').symm
    show _ = m24X15 (m24F22 k) (m24F15 k j) k t8 t40 t41 t42
    rw [e0, e22]
    exact m24x15 (fun _ f => f) k (loopN (normAt 0 m24A true (m24c [true, true, true, false, true, true, true])) (fun K s => evC (m24E k) (fun _ f => f) (m24I k) 0 m24A (m24c [true, true, true, false, true, true, true]) s K) (m24K10 (fun _ f => f) k) j) t8 t40 t41 t42

noncomputable def m24F (k : Nat) (p0 : (List Int)) (p1 : Int) (p2 : Int) : Option (Int × Int) := m24X (m24F15 k k) k p0 p1 p2

theorem m24q (k : Nat) (p0 : (List Int)) (p1 : Int) (p2 : Int) : evC (m24E k) (fun _ f => f) (m24I k) 0 m24A (m24c []) (stAt Try.f24 (argSs [.leaf (.val (.row (.int .u8))), .leaf (.val (.int .i64)), .leaf (.val (.int .i64))] (p0, p1, p2)) (fun _ => none) 0) (retK Try.prog Try.f24 [.leaf (.val (.int .i64)), .leaf (.val (.int .i64))]) = m24F k p0 p1 p2 := by
    have e15 : m24F15 k k = (fun t8' t40' t41' t42' => loopN (normAt 0 m24A true (m24c [true, true, true, false, true, true, true])) (fun K s => evC (m24E k) (fun _ f => f) (m24I k) 0 m24A (m24c [true, true, true, false, true, true, true]) s K) (m24K10 (fun _ f => f) k) k (m24S15 t8' t40' t41' t42')) := funext fun t8' => funext fun t40' => funext fun t41' => funext fun t42' => (m24q15 k k t8' t40' t41' t42').symm
    show _ = m24X (m24F15 k k) k p0 p1 p2
    rw [e15]
    exact m24x (fun _ f => f) k p0 p1 p2

noncomputable def m24sp : Spec := { ps := [.leaf (.val (.row (.int .u8))), .leaf (.val (.int .i64)), .leaf (.val (.int .i64))], rs := [.leaf (.val (.int .i64)), .leaf (.val (.int .i64))], f := fun k a => m24F k a.1 a.2.1 a.2.2 }

theorem m24ok (k : Nat) : EnvOk (m24E k) := envOk_of (l := []) (lB := []) (lG := []) progNames progMixed rfl rfl rfl (.nil) (.nil) (.nil)

theorem m24con (k : Nat) : Contract Try.prog k 24 m24sp := contract_of (E := m24E k) (m24ok k) (A := only 24 m24A) (d := 3) (c := m24c []) (by kernel_rfl) (by kernel_rfl) fun a _ h => (m24q k a.1 a.2.1 a.2.2).trans h

noncomputable def m26A : Anns := tabA [(7, { keep := [0, 3, 4], mat := [(3, (.int .i64), 3)] })]
noncomputable def m26E (k : Nat) : Env := { P := Try.prog, k := k, G := tabG [], GB := tabGB [], GG := tabGG [] }
noncomputable def m26c (p : List Bool) : Code := sub p (bodyOf Try.f26)
noncomputable def m26I (k : Nat) : Inl (List Int) := inlOf (m26E k) (only 26 m26A) 3
noncomputable def m26K0 (M : Cut (List Int)) (k : Nat) : Exit → St → Option (List Int) := seqK (normAt 0 m26A false (m26c [true])) (cutK M m26A (m26c [true]) fun s => evC (m26E k) M (m26I k) 0 m26A (m26c [true]) s (retK Try.prog Try.f26 [.leaf (.own (.int .i64) 3)])) (retK Try.prog Try.f26 [.leaf (.own (.int .i64) 3)])
noncomputable def m26K1 (M : Cut (List Int)) (k : Nat) : Exit → St → Option (List Int) := seqK (normAt 0 m26A false (m26c [true, true])) (cutK M m26A (m26c [true, true]) fun s => evC (m26E k) M (m26I k) 0 m26A (m26c [true, true]) s (retK Try.prog Try.f26 [.leaf (.own (.int .i64) 3)])) (retK Try.prog Try.f26 [.leaf (.own (.int .i64) 3)])
noncomputable def m26K2 (M : Cut (List Int)) (k : Nat) : Exit → St → Option (List Int) := seqK (normAt 0 m26A false (m26c [true, true, true])) (cutK M m26A (m26c [true, true, true]) fun s => evC (m26E k) M (m26I k) 0 m26A (m26c [true, true, true]) s (retK Try.prog Try.f26 [.leaf (.own (.int .i64) 3)])) (retK Try.prog Try.f26 [.leaf (.own (.int .i64) 3)])
noncomputable def m26K3 (M : Cut (List Int)) (k : Nat) : Exit → St → Option (List Int) := seqK (normAt 0 m26A false (m26c [true, true, false, true])) (cutK M m26A (m26c [true, true, false, true]) fun s => evC (m26E k) M (m26I k) 0 m26A (m26c [true, true, false, true]) s (m26K2 M k)) (m26K2 M k)
noncomputable def m26K4 (M : Cut (List Int)) (k : Nat) : Exit → St → Option (List Int) := blockK 0 (m26K2 M k)
noncomputable def m26K5 (M : Cut (List Int)) (k : Nat) (L7 : St → Option (List Int)) : Exit → St → Option (List Int) := seqK (normAt 0 m26A true (m26c [true, true, false, true, true, true])) L7 (m26K4 M k)
noncomputable def m26K6 (M : Cut (List Int)) (k : Nat) (L7 : St → Option (List Int)) : Exit → St → Option (List Int) := seqK (normAt 0 m26A false (m26c [true, true, false, true, true, true, true])) (cutK M m26A (m26c [true, true, false, true, true, true, true]) fun s => evC (m26E k) M (m26I k) 0 m26A (m26c [true, true, false, true, true, true, true]) s (m26K5 M k L7)) (m26K5 M k L7)
noncomputable def m26K7 (M : Cut (List Int)) (k : Nat) (L7 : St → Option (List Int)) : Exit → St → Option (List Int) := seqK (normAt 0 m26A false (m26c [true, true, false, true, true, true, false, true])) (cutK M m26A (m26c [true, true, false, true, true, true, false, true]) fun s => evC (m26E k) M (m26I k) 0 m26A (m26c [true, true, false, true, true, true, false, true]) s (m26K6 M k L7)) (m26K6 M k L7)
noncomputable def m26K8 (M : Cut (List Int)) (k : Nat) (L7 : St → Option (List Int)) : Exit → St → Option (List Int) := seqK (normAt 0 m26A false (m26c [true, true, false, true, true, true, true, true])) (cutK M m26A (m26c [true, true, false, true, true, true, true, true]) fun s => evC (m26E k) M (m26I k) 0 m26A (m26c [true, true, false, true, true, true, true, true]) s (m26K5 M k L7)) (m26K5 M k L7)
noncomputable def m26K9 (M : Cut (List Int)) (k : Nat) (L7 : St → Option (List Int)) : Exit → St → Option (List Int) := blockK 1 (m26K8 M k L7)
noncomputable def m26K10 (M : Cut (List Int)) (k : Nat) : Exit → St → Option (List Int) := seqK (normAt 0 m26A false (m26c [true, true, true, true])) (cutK M m26A (m26c [true, true, true, true]) fun s => evC (m26E k) M (m26I k) 0 m26A (m26c [true, true, true, true]) s (retK Try.prog Try.f26 [.leaf (.own (.int .i64) 3)])) (retK Try.prog Try.f26 [.leaf (.own (.int .i64) 3)])
noncomputable def m26S7 (t0 : List Int) (t4 : Int) (b0 : List Int) : St := { n := 28, tm := slots [(0, .row (.int .u8) t0), (3, .own 0), (4, .int .i64 t4)], tab := blks [some (.row true (.int .i64) 3 b0)], nx := 1 }

noncomputable def m26X (X7 : List Int → Int → List Int → Option (List Int)) (k : Nat) (p0 : (List Int)) : Option (List Int) := X7 p0 (0) ([])

theorem m26x (M : Cut (List Int)) (k : Nat) (p0 : (List Int)) : evC (m26E k) M (m26I k) 0 m26A (m26c []) (stAt Try.f26 (argSs [.leaf (.val (.row (.int .u8)))] p0) (fun _ => none) 0) (retK Try.prog Try.f26 [.leaf (.own (.int .i64) 3)]) = m26X (fun t0' t4' b0' => loopN (normAt 0 m26A true (m26c [true, true, false, true, true, true])) (fun K s => evC (m26E k) M (m26I k) 0 m26A (m26c [true, true, false, true, true, true]) s K) (m26K4 M k) k (m26S7 t0' t4' b0')) k p0 := by kernel_rfl

noncomputable def m26X7 (L7 : List Int → Int → List Int → Option (List Int)) (k : Nat) (t0 : List Int) (t4 : Int) (b0 : List Int) : Option (List Int) := (if ltI t4 (wr IntKind.i64 (8 * (↑(List.length t0) : Int))) = true then (if (!eqI 8 0) = true then (if leI 0 (wr IntKind.i64 (Int.tdiv t4 8)) = true then (if ltI (wr IntKind.i64 (Int.tdiv t4 8)) (↑(List.length t0) : Int) = true then (if (!eqI 8 0) = true then (if leI 0 (wr IntKind.u64 (wr IntKind.i64 (7 - Int.tmod t4 8))) = true then (if leI
    (↑((List.length b0 +
            List.length
              (List.set (List.replicate 1 0) 0
                (bits BinOp.and IntKind.i64
                  (wr IntKind.i64
                    (List.getD t0 (Int.toNat (wr IntKind.i64 (Int.tdiv t4 8))) 0 /
                      p2 (min (Int.toNat (wr IntKind.u64 (wr IntKind.i64 (7 - Int.tmod t4 8)))) 8)))
                  1))) *
          8) :
      Int)
    140737488355328 =
  true then L7 t0 (wr IntKind.i64 (t4 + 1)) (b0 ++
  List.set (List.replicate 1 0) 0
    (bits BinOp.and IntKind.i64
      (wr IntKind.i64
        (List.getD t0 (Int.toNat (wr IntKind.i64 (Int.tdiv t4 8))) 0 /
          p2 (min (Int.toNat (wr IntKind.u64 (wr IntKind.i64 (7 - Int.tmod t4 8)))) 8)))
      1)) else none) else none) else none) else none) else none) else none) else some b0)

theorem m26x7 (M : Cut (List Int)) (k : Nat) (L7 : St → Option (List Int)) (t0 : List Int) (t4 : Int) (b0 : List Int) : evC (m26E k) M (m26I k) 0 m26A (m26c [true, true, false, true, true, true]) (m26S7 t0 t4 b0) (seqK (normAt 0 m26A true (m26c [true, true, false, true, true, true])) L7 (m26K4 M k)) = m26X7 (fun t0' t4' b0' => L7 (m26S7 t0' t4' b0')) k t0 t4 b0 := by kernel_rfl

noncomputable def m26F7 (k : Nat) : Nat → List Int → Int → List Int → Option (List Int)
  | 0, _, _, _ => none
  | j + 1, t0, t4, b0 => m26X7 (m26F7 k j) k t0 t4 b0

theorem m26q7 (k : Nat) : ∀ (j : Nat) (t0 : List Int) (t4 : Int) (b0 : List Int), loopN (normAt 0 m26A true (m26c [true, true, false, true, true, true])) (fun K s => evC (m26E k) (fun _ f => f) (m26I k) 0 m26A (m26c [true, true, false, true, true, true]) s K) (m26K4 (fun _ f => f) k) j (m26S7 t0 t4 b0) = m26F7 k j t0 t4 b0
  | 0, _, _, _ => rfl
  | j + 1, t0, t4, b0 => by
    have e0 : m26F7 k j = (fun t0' t4' b0' => loopN (normAt 0 m26A true (m26c [true, true, false, true, true, true])) (fun K s => evC (m26E k) (fun _ f => f) (m26I k) 0 m26A (m26c [true, true, false, true, true, true]) s K) (m26K4 (fun _ f => f) k) j (m26S7 t0' t4' b0')) := funext fun t0' => funext fun t4' => funext fun b0' => (m26q7 k j t0' t4' b0').symm
    show _ = m26X7 (m26F7 k j) k t0 t4 b0
    rw [e0]
    exact m26x7 (fun _ f => f) k (loopN (normAt 0 m26A true (m26c [true, true, false, true, true, true])) (fun K s => evC (m26E k) (fun _ f => f) (m26I k) 0 m26A (m26c [true, true, false, true, true, true]) s K) (m26K4 (fun _ f => f) k) j) t0 t4 b0

noncomputable def m26F (k : Nat) (p0 : (List Int)) : Option (List Int) := m26X (m26F7 k k) k p0

theorem m26q (k : Nat) (p0 : (List Int)) : evC (m26E k) (fun _ f => f) (m26I k) 0 m26A (m26c []) (stAt Try.f26 (argSs [.leaf (.val (.row (.int .u8)))] p0) (fun _ => none) 0) (retK Try.prog Try.f26 [.leaf (.own (.int .i64) 3)]) = m26F k p0 := by
    have e7 : m26F7 k k = (fun t0' t4' b0' => loopN (normAt 0 m26A true (m26c [true, true, false, true, true, true])) (fun K s => evC (m26E k) (fun _ f => f) (m26I k) 0 m26A (m26c [true, true, false, true, true, true]) s K) (m26K4 (fun _ f => f) k) k (m26S7 t0' t4' b0')) := funext fun t0' => funext fun t4' => funext fun b0' => (m26q7 k k t0' t4' b0').symm
    show _ = m26X (m26F7 k k) k p0
    rw [e7]
    exact m26x (fun _ f => f) k p0

noncomputable def m26sp : Spec := { ps := [.leaf (.val (.row (.int .u8)))], rs := [.leaf (.own (.int .i64) 3)], f := fun k a => m26F k a }

theorem m26ok (k : Nat) : EnvOk (m26E k) := envOk_of (l := []) (lB := []) (lG := []) progNames progMixed rfl rfl rfl (.nil) (.nil) (.nil)

theorem m26con (k : Nat) : Contract Try.prog k 26 m26sp := contract_of (E := m26E k) (m26ok k) (A := only 26 m26A) (d := 3) (c := m26c []) (by kernel_rfl) (by kernel_rfl) fun a _ h => (m26q k a).trans h

noncomputable def m27A : Anns := tabA [(7, { keep := [0, 3, 4], mat := [(3, (.int .i64), 3)] })]
noncomputable def m27E (k : Nat) : Env := { P := Try.prog, k := k, G := tabG [], GB := tabGB [], GG := tabGG [] }
noncomputable def m27c (p : List Bool) : Code := sub p (bodyOf Try.f27)
noncomputable def m27I (k : Nat) : Inl (List Int) := inlOf (m27E k) (only 27 m27A) 3
noncomputable def m27K0 (M : Cut (List Int)) (k : Nat) : Exit → St → Option (List Int) := seqK (normAt 0 m27A false (m27c [true])) (cutK M m27A (m27c [true]) fun s => evC (m27E k) M (m27I k) 0 m27A (m27c [true]) s (retK Try.prog Try.f27 [.leaf (.own (.int .i64) 3)])) (retK Try.prog Try.f27 [.leaf (.own (.int .i64) 3)])
noncomputable def m27K1 (M : Cut (List Int)) (k : Nat) : Exit → St → Option (List Int) := seqK (normAt 0 m27A false (m27c [true, true])) (cutK M m27A (m27c [true, true]) fun s => evC (m27E k) M (m27I k) 0 m27A (m27c [true, true]) s (retK Try.prog Try.f27 [.leaf (.own (.int .i64) 3)])) (retK Try.prog Try.f27 [.leaf (.own (.int .i64) 3)])
noncomputable def m27K2 (M : Cut (List Int)) (k : Nat) : Exit → St → Option (List Int) := seqK (normAt 0 m27A false (m27c [true, true, true])) (cutK M m27A (m27c [true, true, true]) fun s => evC (m27E k) M (m27I k) 0 m27A (m27c [true, true, true]) s (retK Try.prog Try.f27 [.leaf (.own (.int .i64) 3)])) (retK Try.prog Try.f27 [.leaf (.own (.int .i64) 3)])
noncomputable def m27K3 (M : Cut (List Int)) (k : Nat) : Exit → St → Option (List Int) := seqK (normAt 0 m27A false (m27c [true, true, false, true])) (cutK M m27A (m27c [true, true, false, true]) fun s => evC (m27E k) M (m27I k) 0 m27A (m27c [true, true, false, true]) s (m27K2 M k)) (m27K2 M k)
noncomputable def m27K4 (M : Cut (List Int)) (k : Nat) : Exit → St → Option (List Int) := blockK 0 (m27K2 M k)
noncomputable def m27K5 (M : Cut (List Int)) (k : Nat) (L7 : St → Option (List Int)) : Exit → St → Option (List Int) := seqK (normAt 0 m27A true (m27c [true, true, false, true, true, true])) L7 (m27K4 M k)
noncomputable def m27K6 (M : Cut (List Int)) (k : Nat) (L7 : St → Option (List Int)) : Exit → St → Option (List Int) := seqK (normAt 0 m27A false (m27c [true, true, false, true, true, true, true])) (cutK M m27A (m27c [true, true, false, true, true, true, true]) fun s => evC (m27E k) M (m27I k) 0 m27A (m27c [true, true, false, true, true, true, true]) s (m27K5 M k L7)) (m27K5 M k L7)
noncomputable def m27K7 (M : Cut (List Int)) (k : Nat) (L7 : St → Option (List Int)) : Exit → St → Option (List Int) := seqK (normAt 0 m27A false (m27c [true, true, false, true, true, true, false, true])) (cutK M m27A (m27c [true, true, false, true, true, true, false, true]) fun s => evC (m27E k) M (m27I k) 0 m27A (m27c [true, true, false, true, true, true, false, true]) s (m27K6 M k L7)) (m27K6 M k L7)
noncomputable def m27K8 (M : Cut (List Int)) (k : Nat) (L7 : St → Option (List Int)) : Exit → St → Option (List Int) := seqK (normAt 0 m27A false (m27c [true, true, false, true, true, true, true, true])) (cutK M m27A (m27c [true, true, false, true, true, true, true, true]) fun s => evC (m27E k) M (m27I k) 0 m27A (m27c [true, true, false, true, true, true, true, true]) s (m27K5 M k L7)) (m27K5 M k L7)
noncomputable def m27K9 (M : Cut (List Int)) (k : Nat) (L7 : St → Option (List Int)) : Exit → St → Option (List Int) := blockK 1 (m27K8 M k L7)
noncomputable def m27K10 (M : Cut (List Int)) (k : Nat) : Exit → St → Option (List Int) := seqK (normAt 0 m27A false (m27c [true, true, true, true])) (cutK M m27A (m27c [true, true, true, true]) fun s => evC (m27E k) M (m27I k) 0 m27A (m27c [true, true, true, true]) s (retK Try.prog Try.f27 [.leaf (.own (.int .i64) 3)])) (retK Try.prog Try.f27 [.leaf (.own (.int .i64) 3)])
noncomputable def m27S7 (t0 : List Int) (t4 : Int) (b0 : List Int) : St := { n := 27, tm := slots [(0, .row (.int .u8) t0), (3, .own 0), (4, .int .i64 t4)], tab := blks [some (.row true (.int .i64) 3 b0)], nx := 1 }

noncomputable def m27X (X7 : List Int → Int → List Int → Option (List Int)) (k : Nat) (p0 : (List Int)) : Option (List Int) := X7 p0 (0) ([])

theorem m27x (M : Cut (List Int)) (k : Nat) (p0 : (List Int)) : evC (m27E k) M (m27I k) 0 m27A (m27c []) (stAt Try.f27 (argSs [.leaf (.val (.row (.int .u8)))] p0) (fun _ => none) 0) (retK Try.prog Try.f27 [.leaf (.own (.int .i64) 3)]) = m27X (fun t0' t4' b0' => loopN (normAt 0 m27A true (m27c [true, true, false, true, true, true])) (fun K s => evC (m27E k) M (m27I k) 0 m27A (m27c [true, true, false, true, true, true]) s K) (m27K4 M k) k (m27S7 t0' t4' b0')) k p0 := by kernel_rfl

noncomputable def m27X7 (L7 : List Int → Int → List Int → Option (List Int)) (k : Nat) (t0 : List Int) (t4 : Int) (b0 : List Int) : Option (List Int) := (if ltI t4 (↑(List.length t0) : Int) = true then (if leI 0 t4 = true then (if ltI t4 (↑(List.length t0) : Int) = true then (if leI 0 4 = true then (if leI 0 t4 = true then (if ltI t4 (↑(List.length t0) : Int) = true then (if leI
    (↑((List.length b0 +
            List.length
              (List.set (List.set (List.replicate 2 0) 0 (wr IntKind.i64 (List.getD t0 (Int.toNat t4) 0 / 16))) 1
                (wr IntKind.i64 (bits BinOp.and IntKind.u8 (List.getD t0 (Int.toNat t4) 0) 15)))) *
          8) :
      Int)
    140737488355328 =
  true then L7 t0 (wr IntKind.i64 (t4 + 1)) (b0 ++
  List.set (List.set (List.replicate 2 0) 0 (wr IntKind.i64 (List.getD t0 (Int.toNat t4) 0 / 16))) 1
    (wr IntKind.i64 (bits BinOp.and IntKind.u8 (List.getD t0 (Int.toNat t4) 0) 15))) else none) else none) else none) else none) else none) else none) else some b0)

theorem m27x7 (M : Cut (List Int)) (k : Nat) (L7 : St → Option (List Int)) (t0 : List Int) (t4 : Int) (b0 : List Int) : evC (m27E k) M (m27I k) 0 m27A (m27c [true, true, false, true, true, true]) (m27S7 t0 t4 b0) (seqK (normAt 0 m27A true (m27c [true, true, false, true, true, true])) L7 (m27K4 M k)) = m27X7 (fun t0' t4' b0' => L7 (m27S7 t0' t4' b0')) k t0 t4 b0 := by kernel_rfl

noncomputable def m27F7 (k : Nat) : Nat → List Int → Int → List Int → Option (List Int)
  | 0, _, _, _ => none
  | j + 1, t0, t4, b0 => m27X7 (m27F7 k j) k t0 t4 b0

theorem m27q7 (k : Nat) : ∀ (j : Nat) (t0 : List Int) (t4 : Int) (b0 : List Int), loopN (normAt 0 m27A true (m27c [true, true, false, true, true, true])) (fun K s => evC (m27E k) (fun _ f => f) (m27I k) 0 m27A (m27c [true, true, false, true, true, true]) s K) (m27K4 (fun _ f => f) k) j (m27S7 t0 t4 b0) = m27F7 k j t0 t4 b0
  | 0, _, _, _ => rfl
  | j + 1, t0, t4, b0 => by
    have e0 : m27F7 k j = (fun t0' t4' b0' => loopN (normAt 0 m27A true (m27c [true, true, false, true, true, true])) (fun K s => evC (m27E k) (fun _ f => f) (m27I k) 0 m27A (m27c [true, true, false, true, true, true]) s K) (m27K4 (fun _ f => f) k) j (m27S7 t0' t4' b0')) := funext fun t0' => funext fun t4' => funext fun b0' => (m27q7 k j t0' t4' b0').symm
    show _ = m27X7 (m27F7 k j) k t0 t4 b0
    rw [e0]
    exact m27x7 (fun _ f => f) k (loopN (normAt 0 m27A true (m27c [true, true, false, true, true, true])) (fun K s => evC (m27E k) (fun _ f => f) (m27I k) 0 m27A (m27c [true, true, false, true, true, true]) s K) (m27K4 (fun _ f => f) k) j) t0 t4 b0

noncomputable def m27F (k : Nat) (p0 : (List Int)) : Option (List Int) := m27X (m27F7 k k) k p0

theorem m27q (k : Nat) (p0 : (List Int)) : evC (m27E k) (fun _ f => f) (m27I k) 0 m27A (m27c []) (stAt Try.f27 (argSs [.leaf (.val (.row (.int .u8)))] p0) (fun _ => none) 0) (retK Try.prog Try.f27 [.leaf (.own (.int .i64) 3)]) = m27F k p0 := by
    have e7 : m27F7 k k = (fun t0' t4' b0' => loopN (normAt 0 m27A true (m27c [true, true, false, true, true, true])) (fun K s => evC (m27E k) (fun _ f => f) (m27I k) 0 m27A (m27c [true, true, false, true, true, true]) s K) (m27K4 (fun _ f => f) k) k (m27S7 t0' t4' b0')) := funext fun t0' => funext fun t4' => funext fun b0' => (m27q7 k k t0' t4' b0').symm
    show _ = m27X (m27F7 k k) k p0
    rw [e7]
    exact m27x (fun _ f => f) k p0

noncomputable def m27sp : Spec := { ps := [.leaf (.val (.row (.int .u8)))], rs := [.leaf (.own (.int .i64) 3)], f := fun k a => m27F k a }

theorem m27ok (k : Nat) : EnvOk (m27E k) := envOk_of (l := []) (lB := []) (lG := []) progNames progMixed rfl rfl rfl (.nil) (.nil) (.nil)

theorem m27con (k : Nat) : Contract Try.prog k 27 m27sp := contract_of (E := m27E k) (m27ok k) (A := only 27 m27A) (d := 3) (c := m27c []) (by kernel_rfl) (by kernel_rfl) fun a _ h => (m27q k a).trans h

noncomputable def m28A : Anns := tabA [(3, { keep := [0, 2] })]
noncomputable def m28E (k : Nat) : Env := { P := Try.prog, k := k, G := tabG [], GB := tabGB [], GG := tabGG [] }
noncomputable def m28c (p : List Bool) : Code := sub p (bodyOf Try.f28)
noncomputable def m28I (k : Nat) : Inl (List Int) := inlOf (m28E k) (only 28 m28A) 3
noncomputable def m28K0 (M : Cut (List Int)) (k : Nat) : Exit → St → Option (List Int) := seqK (normAt 1 m28A false (m28c [true])) (cutK M m28A (m28c [true]) fun s => evC (m28E k) M (m28I k) 1 m28A (m28c [true]) s (retB Try.prog Try.f28 (.int .i64) 3)) (retB Try.prog Try.f28 (.int .i64) 3)
noncomputable def m28K1 (M : Cut (List Int)) (k : Nat) : Exit → St → Option (List Int) := blockK 0 (retB Try.prog Try.f28 (.int .i64) 3)
noncomputable def m28K2 (M : Cut (List Int)) (k : Nat) (L3 : St → Option (List Int)) : Exit → St → Option (List Int) := seqK (normAt 1 m28A true (m28c [true, true, true])) L3 (m28K1 M k)
noncomputable def m28K3 (M : Cut (List Int)) (k : Nat) (L3 : St → Option (List Int)) : Exit → St → Option (List Int) := seqK (normAt 1 m28A false (m28c [true, true, true, true])) (cutK M m28A (m28c [true, true, true, true]) fun s => evC (m28E k) M (m28I k) 1 m28A (m28c [true, true, true, true]) s (m28K2 M k L3)) (m28K2 M k L3)
noncomputable def m28K4 (M : Cut (List Int)) (k : Nat) (L3 : St → Option (List Int)) : Exit → St → Option (List Int) := seqK (normAt 1 m28A false (m28c [true, true, true, false, true])) (cutK M m28A (m28c [true, true, true, false, true]) fun s => evC (m28E k) M (m28I k) 1 m28A (m28c [true, true, true, false, true]) s (m28K3 M k L3)) (m28K3 M k L3)
noncomputable def m28K5 (M : Cut (List Int)) (k : Nat) (L3 : St → Option (List Int)) : Exit → St → Option (List Int) := seqK (normAt 1 m28A false (m28c [true, true, true, true, true])) (cutK M m28A (m28c [true, true, true, true, true]) fun s => evC (m28E k) M (m28I k) 1 m28A (m28c [true, true, true, true, true]) s (m28K2 M k L3)) (m28K2 M k L3)
noncomputable def m28K6 (M : Cut (List Int)) (k : Nat) (L3 : St → Option (List Int)) : Exit → St → Option (List Int) := blockK 1 (m28K5 M k L3)
noncomputable def m28S3 (t0o : Nat) (t0n : Nat) (t2 : Int) (b0 : List Int) : St := { n := 12, tm := slots [(0, .sl 0 t0o t0n), (2, .int .i64 t2)], tab := blks [some (.row false (.int .i64) 3 b0)], nx := 1 }

noncomputable def m28X (X3 : Nat → Nat → Int → List Int → Option (List Int)) (k : Nat) (b0 : (List Int)) (o0 : Nat) (n0 : Nat) : Option (List Int) := X3 o0 n0 (0) b0

theorem m28x (M : Cut (List Int)) (k : Nat) (b0 : (List Int)) (o0 : Nat) (n0 : Nat) : evC (m28E k) M (m28I k) 1 m28A (m28c []) (stAt Try.f28 (.sl 0 o0 n0 :: argSs [] ()) (tabB (.int .i64) 3 b0) 1) (retB Try.prog Try.f28 (.int .i64) 3) = m28X (fun t0o' t0n' t2' b0' => loopN (normAt 1 m28A true (m28c [true, true, true])) (fun K s => evC (m28E k) M (m28I k) 1 m28A (m28c [true, true, true]) s K) (m28K1 M k) k (m28S3 t0o' t0n' t2' b0')) k b0 o0 n0 := by kernel_rfl

noncomputable def m28X3 (L3 : Nat → Nat → Int → List Int → Option (List Int)) (k : Nat) (t0o : Nat) (t0n : Nat) (t2 : Int) (b0 : List Int) : Option (List Int) := (if ltI t2 (↑t0n : Int) = true then (if leI 0 t2 = true then (if ltI t2 (↑t0n : Int) = true then L3 t0o t0n (wr IntKind.i64 (t2 + 1)) (List.set b0 (Int.toNat t2 + t0o) (-7777)) else none) else none) else some b0)

theorem m28x3 (M : Cut (List Int)) (k : Nat) (L3 : St → Option (List Int)) (t0o : Nat) (t0n : Nat) (t2 : Int) (b0 : List Int) : evC (m28E k) M (m28I k) 1 m28A (m28c [true, true, true]) (m28S3 t0o t0n t2 b0) (seqK (normAt 1 m28A true (m28c [true, true, true])) L3 (m28K1 M k)) = m28X3 (fun t0o' t0n' t2' b0' => L3 (m28S3 t0o' t0n' t2' b0')) k t0o t0n t2 b0 := by kernel_rfl

noncomputable def m28F3 (k : Nat) : Nat → Nat → Nat → Int → List Int → Option (List Int)
  | 0, _, _, _, _ => none
  | j + 1, t0o, t0n, t2, b0 => m28X3 (m28F3 k j) k t0o t0n t2 b0

theorem m28q3 (k : Nat) : ∀ (j : Nat) (t0o : Nat) (t0n : Nat) (t2 : Int) (b0 : List Int), loopN (normAt 1 m28A true (m28c [true, true, true])) (fun K s => evC (m28E k) (fun _ f => f) (m28I k) 1 m28A (m28c [true, true, true]) s K) (m28K1 (fun _ f => f) k) j (m28S3 t0o t0n t2 b0) = m28F3 k j t0o t0n t2 b0
  | 0, _, _, _, _ => rfl
  | j + 1, t0o, t0n, t2, b0 => by
    have e0 : m28F3 k j = (fun t0o' t0n' t2' b0' => loopN (normAt 1 m28A true (m28c [true, true, true])) (fun K s => evC (m28E k) (fun _ f => f) (m28I k) 1 m28A (m28c [true, true, true]) s K) (m28K1 (fun _ f => f) k) j (m28S3 t0o' t0n' t2' b0')) := funext fun t0o' => funext fun t0n' => funext fun t2' => funext fun b0' => (m28q3 k j t0o' t0n' t2' b0').symm
    show _ = m28X3 (m28F3 k j) k t0o t0n t2 b0
    rw [e0]
    exact m28x3 (fun _ f => f) k (loopN (normAt 1 m28A true (m28c [true, true, true])) (fun K s => evC (m28E k) (fun _ f => f) (m28I k) 1 m28A (m28c [true, true, true]) s K) (m28K1 (fun _ f => f) k) j) t0o t0n t2 b0

noncomputable def m28F (k : Nat) (b0 : (List Int)) (o0 : Nat) (n0 : Nat) : Option (List Int) := m28X (m28F3 k k) k b0 o0 n0

theorem m28q (k : Nat) (b0 : (List Int)) (o0 : Nat) (n0 : Nat) : evC (m28E k) (fun _ f => f) (m28I k) 1 m28A (m28c []) (stAt Try.f28 (.sl 0 o0 n0 :: argSs [] ()) (tabB (.int .i64) 3 b0) 1) (retB Try.prog Try.f28 (.int .i64) 3) = m28F k b0 o0 n0 := by
    have e3 : m28F3 k k = (fun t0o' t0n' t2' b0' => loopN (normAt 1 m28A true (m28c [true, true, true])) (fun K s => evC (m28E k) (fun _ f => f) (m28I k) 1 m28A (m28c [true, true, true]) s K) (m28K1 (fun _ f => f) k) k (m28S3 t0o' t0n' t2' b0')) := funext fun t0o' => funext fun t0n' => funext fun t2' => funext fun b0' => (m28q3 k k t0o' t0n' t2' b0').symm
    show _ = m28X (m28F3 k k) k b0 o0 n0
    rw [e3]
    exact m28x (fun _ f => f) k b0 o0 n0

noncomputable def m28sp : BSpec := { k := (.int .i64), T := 3, ps := [], f := fun k xs off len a => m28F k xs off len }

theorem m28ok (k : Nat) : EnvOk (m28E k) := envOk_of (l := []) (lB := []) (lG := []) progNames progMixed rfl rfl rfl (.nil) (.nil) (.nil)

theorem m28con (k : Nat) : ContractB Try.prog k 28 m28sp := contractB_of (E := m28E k) (m28ok k) (A := only 28 m28A) (d := 3) (c := m28c []) (by kernel_rfl) (by kernel_rfl) fun xs off len a _ h => (m28q k xs off len).trans h

noncomputable def m40A : Anns := tabA []
noncomputable def m40E (k : Nat) : Env := { P := Try.prog, k := k, G := tabG [], GB := tabGB [], GG := tabGG [] }
noncomputable def m40c (p : List Bool) : Code := sub p (bodyOf Try.f40)
noncomputable def m40I (k : Nat) : Inl Bool := inlOf (m40E k) (only 40 m40A) 3
noncomputable def m40K0 (M : Cut Bool) (k : Nat) : Exit → St → Option Bool := seqK (normAt 0 m40A false (m40c [true])) (cutK M m40A (m40c [true]) fun s => evC (m40E k) M (m40I k) 0 m40A (m40c [true]) s (retK Try.prog Try.f40 [.leaf (.val .bool)])) (retK Try.prog Try.f40 [.leaf (.val .bool)])
noncomputable def m40K1 (M : Cut Bool) (k : Nat) : Exit → St → Option Bool := seqK (normAt 0 m40A false (m40c [true, true])) (cutK M m40A (m40c [true, true]) fun s => evC (m40E k) M (m40I k) 0 m40A (m40c [true, true]) s (retK Try.prog Try.f40 [.leaf (.val .bool)])) (retK Try.prog Try.f40 [.leaf (.val .bool)])

noncomputable def m40X (k : Nat) (p0 : Int) (p1 : Int) : Option Bool := (if ltI p0 0 = true then some (true) else (if leI 0 p1 = true then some (leI (wr IntKind.i64 (1 * p2 (min (Int.toNat p1) 64))) p0) else none))

theorem m40x (M : Cut Bool) (k : Nat) (p0 : Int) (p1 : Int) : evC (m40E k) M (m40I k) 0 m40A (m40c []) (stAt Try.f40 (argSs [.leaf (.val (.int .i64)), .ptr (.int .i64)] (p0, p1)) (fun _ => none) 0) (retK Try.prog Try.f40 [.leaf (.val .bool)]) = m40X k p0 p1 := by kernel_rfl

noncomputable def m40F (k : Nat) (p0 : Int) (p1 : Int) : Option Bool := m40X k p0 p1

theorem m40q (k : Nat) (p0 : Int) (p1 : Int) : evC (m40E k) (fun _ f => f) (m40I k) 0 m40A (m40c []) (stAt Try.f40 (argSs [.leaf (.val (.int .i64)), .ptr (.int .i64)] (p0, p1)) (fun _ => none) 0) (retK Try.prog Try.f40 [.leaf (.val .bool)]) = m40F k p0 p1 := by
    show _ = m40X k p0 p1
    exact m40x (fun _ f => f) k p0 p1

noncomputable def m40sp : Spec := { ps := [.leaf (.val (.int .i64)), .ptr (.int .i64)], rs := [.leaf (.val .bool)], f := fun k a => m40F k a.1 a.2 }

theorem m40ok (k : Nat) : EnvOk (m40E k) := envOk_of (l := []) (lB := []) (lG := []) progNames progMixed rfl rfl rfl (.nil) (.nil) (.nil)

theorem m40con (k : Nat) : Contract Try.prog k 40 m40sp := contract_of (E := m40E k) (m40ok k) (A := only 40 m40A) (d := 3) (c := m40c []) (by kernel_rfl) (by kernel_rfl) fun a _ h => (m40q k a.1 a.2).trans h

noncomputable def m43c40A : Anns := tabA [(5, { keep := [0, 1, 7, 8] })]
noncomputable def m43c40E (k : Nat) : Env := { P := Try.prog, k := k, G := tabG [(40, m40sp)], GB := tabGB [], GG := tabGG [] }
noncomputable def m43c40c (p : List Bool) : Code := sub p (bodyOf Try.f43)
noncomputable def m43c40I (k : Nat) : Inl Int := inlOf (m43c40E k) (only 43 m43c40A) 3
noncomputable def m43c40K0 (M : Cut Int) (k : Nat) : Exit → St → Option Int := seqK (normAt 0 m43c40A false (m43c40c [true])) (cutK M m43c40A (m43c40c [true]) fun s => evC (m43c40E k) M (m43c40I k) 0 m43c40A (m43c40c [true]) s (retK Try.prog Try.f43 [.leaf (.val (.int .i64))])) (retK Try.prog Try.f43 [.leaf (.val (.int .i64))])
noncomputable def m43c40K1 (M : Cut Int) (k : Nat) : Exit → St → Option Int := seqK (normAt 0 m43c40A false (m43c40c [true, true])) (cutK M m43c40A (m43c40c [true, true]) fun s => evC (m43c40E k) M (m43c40I k) 0 m43c40A (m43c40c [true, true]) s (retK Try.prog Try.f43 [.leaf (.val (.int .i64))])) (retK Try.prog Try.f43 [.leaf (.val (.int .i64))])
noncomputable def m43c40K2 (M : Cut Int) (k : Nat) : Exit → St → Option Int := seqK (normAt 0 m43c40A false (m43c40c [true, false, true])) (cutK M m43c40A (m43c40c [true, false, true]) fun s => evC (m43c40E k) M (m43c40I k) 0 m43c40A (m43c40c [true, false, true]) s (m43c40K1 M k)) (m43c40K1 M k)
noncomputable def m43c40K3 (M : Cut Int) (k : Nat) : Exit → St → Option Int := blockK 0 (m43c40K1 M k)
noncomputable def m43c40K4 (M : Cut Int) (k : Nat) (L5 : St → Option Int) : Exit → St → Option Int := seqK (normAt 0 m43c40A true (m43c40c [true, false, true, true, true])) L5 (m43c40K3 M k)
noncomputable def m43c40K5 (M : Cut Int) (k : Nat) (L5 : St → Option Int) : Exit → St → Option Int := seqK (normAt 0 m43c40A false (m43c40c [true, false, true, true, true, true])) (cutK M m43c40A (m43c40c [true, false, true, true, true, true]) fun s => evC (m43c40E k) M (m43c40I k) 0 m43c40A (m43c40c [true, false, true, true, true, true]) s (m43c40K4 M k L5)) (m43c40K4 M k L5)
noncomputable def m43c40K6 (M : Cut Int) (k : Nat) (L5 : St → Option Int) : Exit → St → Option Int := seqK (normAt 0 m43c40A false (m43c40c [true, false, true, true, true, true, true])) (cutK M m43c40A (m43c40c [true, false, true, true, true, true, true]) fun s => evC (m43c40E k) M (m43c40I k) 0 m43c40A (m43c40c [true, false, true, true, true, true, true]) s (m43c40K4 M k L5)) (m43c40K4 M k L5)
noncomputable def m43c40K7 (M : Cut Int) (k : Nat) (L5 : St → Option Int) : Exit → St → Option Int := seqK (normAt 0 m43c40A false (m43c40c [true, false, true, true, true, true, true, true])) (cutK M m43c40A (m43c40c [true, false, true, true, true, true, true, true]) fun s => evC (m43c40E k) M (m43c40I k) 0 m43c40A (m43c40c [true, false, true, true, true, true, true, true]) s (m43c40K4 M k L5)) (m43c40K4 M k L5)
noncomputable def m43c40K8 (M : Cut Int) (k : Nat) (L5 : St → Option Int) : Exit → St → Option Int := blockK 1 (m43c40K7 M k L5)
noncomputable def m43c40K9 (M : Cut Int) (k : Nat) (L5 : St → Option Int) : Exit → St → Option Int := seqK (normAt 0 m43c40A false (m43c40c [true, false, true, true, true, true, true, false, true, true])) (cutK M m43c40A (m43c40c [true, false, true, true, true, true, true, false, true, true]) fun s => evC (m43c40E k) M (m43c40I k) 0 m43c40A (m43c40c [true, false, true, true, true, true, true, false, true, true]) s (m43c40K8 M k L5)) (m43c40K8 M k L5)
noncomputable def m43c40K10 (M : Cut Int) (k : Nat) (L5 : St → Option Int) : Exit → St → Option Int := seqK (normAt 0 m43c40A false (m43c40c [true, false, true, true, true, true, true, false, true, true, true])) (cutK M m43c40A (m43c40c [true, false, true, true, true, true, true, false, true, true, true]) fun s => evC (m43c40E k) M (m43c40I k) 0 m43c40A (m43c40c [true, false, true, true, true, true, true, false, true, true, true]) s (m43c40K8 M k L5)) (m43c40K8 M k L5)
noncomputable def m43c40K11 (M : Cut Int) (k : Nat) (L5 : St → Option Int) : Exit → St → Option Int := seqK (normAt 0 m43c40A false (m43c40c [true, false, true, true, true, true, true, false, true, true, true, false, true])) (cutK M m43c40A (m43c40c [true, false, true, true, true, true, true, false, true, true, true, false, true]) fun s => evC (m43c40E k) M (m43c40I k) 0 m43c40A (m43c40c [true, false, true, true, true, true, true, false, true, true, true, false, true]) s (m43c40K8 M k L5)) (m43c40K8 M k L5)
noncomputable def m43c40K12 (M : Cut Int) (k : Nat) : Exit → St → Option Int := seqK (normAt 0 m43c40A false (m43c40c [true, true, true])) (cutK M m43c40A (m43c40c [true, true, true]) fun s => evC (m43c40E k) M (m43c40I k) 0 m43c40A (m43c40c [true, true, true]) s (retK Try.prog Try.f43 [.leaf (.val (.int .i64))])) (retK Try.prog Try.f43 [.leaf (.val (.int .i64))])
noncomputable def m43c40S5 (t0 : List Int) (t1_0_0 : Int) (t7 : Int) (t8 : Int) : St := { n := 19, tm := slots [(0, .row (.int .i64) t0), (1, .fn (.func 40) [.iptr [.int .i64 t1_0_0]]), (7, .int .i64 t7), (8, .int .i64 t8)], tab := blks [], nx := 0 }

noncomputable def m43c40X (X5 : List Int → Int → Int → Int → Option Int) (k : Nat) (p0 : (List Int)) (p1 : Int) : Option Int := X5 p0 p1 ((↑(List.length p0) : Int)) (0)

theorem m43c40x (M : Cut Int) (k : Nat) (p0 : (List Int)) (p1 : Int) : evC (m43c40E k) M (m43c40I k) 0 m43c40A (m43c40c []) (stAt Try.f43 (argSs [.leaf (.val (.row (.int .i64))), .fn 40 [(.int .i64)]] (p0, p1)) (fun _ => none) 0) (retK Try.prog Try.f43 [.leaf (.val (.int .i64))]) = m43c40X (fun t0' t1_0_0' t7' t8' => loopN (normAt 0 m43c40A true (m43c40c [true, false, true, true, true])) (fun K s => evC (m43c40E k) M (m43c40I k) 0 m43c40A (m43c40c [true, false, true, true, true]) s K) (m43c40K3 M k) k (m43c40S5 t0' t1_0_0' t7' t8')) k p0 p1 := by kernel_rfl

noncomputable def m43c40X5 (L5 : List Int → Int → Int → Int → Option Int) (k : Nat) (t0 : List Int) (t1_0_0 : Int) (t7 : Int) (t8 : Int) : Option Int := (if ltI t8 t7 = true then (if leI 0 t8 = true then (if ltI t8 (↑(List.length t0) : Int) = true then (Option.bind (m40F k (List.getD t0 (Int.toNat t8) 0) t1_0_0) fun (c7 : Bool) => (if c7 = true then some t8 else L5 t0 t1_0_0 t7 (wr IntKind.i64 (t8 + 1)))) else none) else none) else some (-1))

theorem m43c40x5 (M : Cut Int) (k : Nat) (L5 : St → Option Int) (t0 : List Int) (t1_0_0 : Int) (t7 : Int) (t8 : Int) : evC (m43c40E k) M (m43c40I k) 0 m43c40A (m43c40c [true, false, true, true, true]) (m43c40S5 t0 t1_0_0 t7 t8) (seqK (normAt 0 m43c40A true (m43c40c [true, false, true, true, true])) L5 (m43c40K3 M k)) = m43c40X5 (fun t0' t1_0_0' t7' t8' => L5 (m43c40S5 t0' t1_0_0' t7' t8')) k t0 t1_0_0 t7 t8 := by kernel_rfl

noncomputable def m43c40F5 (k : Nat) : Nat → List Int → Int → Int → Int → Option Int
  | 0, _, _, _, _ => none
  | j + 1, t0, t1_0_0, t7, t8 => m43c40X5 (m43c40F5 k j) k t0 t1_0_0 t7 t8

theorem m43c40q5 (k : Nat) : ∀ (j : Nat) (t0 : List Int) (t1_0_0 : Int) (t7 : Int) (t8 : Int), loopN (normAt 0 m43c40A true (m43c40c [true, false, true, true, true])) (fun K s => evC (m43c40E k) (fun _ f => f) (m43c40I k) 0 m43c40A (m43c40c [true, false, true, true, true]) s K) (m43c40K3 (fun _ f => f) k) j (m43c40S5 t0 t1_0_0 t7 t8) = m43c40F5 k j t0 t1_0_0 t7 t8
  | 0, _, _, _, _ => rfl
  | j + 1, t0, t1_0_0, t7, t8 => by
    have e0 : m43c40F5 k j = (fun t0' t1_0_0' t7' t8' => loopN (normAt 0 m43c40A true (m43c40c [true, false, true, true, true])) (fun K s => evC (m43c40E k) (fun _ f => f) (m43c40I k) 0 m43c40A (m43c40c [true, false, true, true, true]) s K) (m43c40K3 (fun _ f => f) k) j (m43c40S5 t0' t1_0_0' t7' t8')) := funext fun t0' => funext fun t1_0_0' => funext fun t7' => funext fun t8' => (m43c40q5 k j t0' t1_0_0' t7' t8').symm
    show _ = m43c40X5 (m43c40F5 k j) k t0 t1_0_0 t7 t8
    rw [e0]
    exact m43c40x5 (fun _ f => f) k (loopN (normAt 0 m43c40A true (m43c40c [true, false, true, true, true])) (fun K s => evC (m43c40E k) (fun _ f => f) (m43c40I k) 0 m43c40A (m43c40c [true, false, true, true, true]) s K) (m43c40K3 (fun _ f => f) k) j) t0 t1_0_0 t7 t8

noncomputable def m43c40F (k : Nat) (p0 : (List Int)) (p1 : Int) : Option Int := m43c40X (m43c40F5 k k) k p0 p1

theorem m43c40q (k : Nat) (p0 : (List Int)) (p1 : Int) : evC (m43c40E k) (fun _ f => f) (m43c40I k) 0 m43c40A (m43c40c []) (stAt Try.f43 (argSs [.leaf (.val (.row (.int .i64))), .fn 40 [(.int .i64)]] (p0, p1)) (fun _ => none) 0) (retK Try.prog Try.f43 [.leaf (.val (.int .i64))]) = m43c40F k p0 p1 := by
    have e5 : m43c40F5 k k = (fun t0' t1_0_0' t7' t8' => loopN (normAt 0 m43c40A true (m43c40c [true, false, true, true, true])) (fun K s => evC (m43c40E k) (fun _ f => f) (m43c40I k) 0 m43c40A (m43c40c [true, false, true, true, true]) s K) (m43c40K3 (fun _ f => f) k) k (m43c40S5 t0' t1_0_0' t7' t8')) := funext fun t0' => funext fun t1_0_0' => funext fun t7' => funext fun t8' => (m43c40q5 k k t0' t1_0_0' t7' t8').symm
    show _ = m43c40X (m43c40F5 k k) k p0 p1
    rw [e5]
    exact m43c40x (fun _ f => f) k p0 p1

noncomputable def m43c40sp : Spec := { ps := [.leaf (.val (.row (.int .i64))), .fn 40 [(.int .i64)]], rs := [.leaf (.val (.int .i64))], f := fun k a => m43c40F k a.1 a.2 }

theorem m43c40ok (k : Nat) : EnvOk (m43c40E k) := envOk_of (l := [(40, m40sp)]) (lB := []) (lG := []) progNames progMixed rfl rfl rfl (.cons ⟨m40con k, Try.f40, by kernel_rfl, by kernel_rfl⟩ (.nil)) (.nil) (.nil)

theorem m43c40con (k : Nat) : Contract Try.prog k 43 m43c40sp := contract_of (E := m43c40E k) (m43c40ok k) (A := only 43 m43c40A) (d := 3) (c := m43c40c []) (by kernel_rfl) (by kernel_rfl) fun a _ h => (m43c40q k a.1 a.2).trans h

noncomputable def m39c40A : Anns := tabA []
noncomputable def m39c40E (k : Nat) : Env := { P := Try.prog, k := k, G := tabG [(40, m40sp), (41000043, m43c40sp)], GB := tabGB [], GG := tabGG [] }
noncomputable def m39c40c (p : List Bool) : Code := sub p (bodyOf Try.f39)
noncomputable def m39c40I (k : Nat) : Inl Bool := inlOf (m39c40E k) (only 39 m39c40A) 3
noncomputable def m39c40K0 (M : Cut Bool) (k : Nat) : Exit → St → Option Bool := seqK (normAt 0 m39c40A false (m39c40c [true])) (cutK M m39c40A (m39c40c [true]) fun s => evC (m39c40E k) M (m39c40I k) 0 m39c40A (m39c40c [true]) s (retK Try.prog Try.f39 [.leaf (.val .bool)])) (retK Try.prog Try.f39 [.leaf (.val .bool)])
noncomputable def m39c40K1 (M : Cut Bool) (k : Nat) : Exit → St → Option Bool := seqK (normAt 0 m39c40A false (m39c40c [true, true])) (cutK M m39c40A (m39c40c [true, true]) fun s => evC (m39c40E k) M (m39c40I k) 0 m39c40A (m39c40c [true, true]) s (retK Try.prog Try.f39 [.leaf (.val .bool)])) (retK Try.prog Try.f39 [.leaf (.val .bool)])

noncomputable def m39c40X (k : Nat) (p0 : (List Int)) (p1 : Int) : Option Bool := (Option.bind (m43c40F k p0 p1) fun (c4 : Int) => some (leI 0 c4))

theorem m39c40x (M : Cut Bool) (k : Nat) (p0 : (List Int)) (p1 : Int) : evC (m39c40E k) M (m39c40I k) 0 m39c40A (m39c40c []) (stAt Try.f39 (argSs [.leaf (.val (.row (.int .i64))), .fn 40 [(.int .i64)]] (p0, p1)) (fun _ => none) 0) (retK Try.prog Try.f39 [.leaf (.val .bool)]) = m39c40X k p0 p1 := by kernel_rfl

noncomputable def m39c40F (k : Nat) (p0 : (List Int)) (p1 : Int) : Option Bool := m39c40X k p0 p1

theorem m39c40q (k : Nat) (p0 : (List Int)) (p1 : Int) : evC (m39c40E k) (fun _ f => f) (m39c40I k) 0 m39c40A (m39c40c []) (stAt Try.f39 (argSs [.leaf (.val (.row (.int .i64))), .fn 40 [(.int .i64)]] (p0, p1)) (fun _ => none) 0) (retK Try.prog Try.f39 [.leaf (.val .bool)]) = m39c40F k p0 p1 := by
    show _ = m39c40X k p0 p1
    exact m39c40x (fun _ f => f) k p0 p1

noncomputable def m39c40sp : Spec := { ps := [.leaf (.val (.row (.int .i64))), .fn 40 [(.int .i64)]], rs := [.leaf (.val .bool)], f := fun k a => m39c40F k a.1 a.2 }

theorem m39c40ok (k : Nat) : EnvOk (m39c40E k) := envOk_of (l := [(40, m40sp), (41000043, m43c40sp)]) (lB := []) (lG := []) progNames progMixed rfl rfl rfl (.cons ⟨m40con k, Try.f40, by kernel_rfl, by kernel_rfl⟩ (.cons ⟨m43c40con k, Try.f43, by kernel_rfl, by kernel_rfl⟩ (.nil))) (.nil) (.nil)

theorem m39c40con (k : Nat) : Contract Try.prog k 39 m39c40sp := contract_of (E := m39c40E k) (m39c40ok k) (A := only 39 m39c40A) (d := 3) (c := m39c40c []) (by kernel_rfl) (by kernel_rfl) fun a _ h => (m39c40q k a.1 a.2).trans h

noncomputable def m46A : Anns := tabA [(3, { keep := [0, 1, 2, 4] })]
noncomputable def m46E (k : Nat) : Env := { P := Try.prog, k := k, G := tabG [], GB := tabGB [], GG := tabGG [] }
noncomputable def m46c (p : List Bool) : Code := sub p (bodyOf Try.f46)
noncomputable def m46I (k : Nat) : Inl (List (List Int)) := genI [.leaf (.val (.row (.int .i64)))] (inlOf (m46E k) (only 46 m46A) 3)
noncomputable def m46K0 (M : Cut (List (List Int))) (k : Nat) : Exit → St → Option (List (List Int)) := seqK (normAt 0 m46A false (m46c [true])) (cutK M m46A (m46c [true]) fun s => evC (m46E k) M (m46I k) 0 m46A (m46c [true]) s (retG Try.prog Try.f46)) (retG Try.prog Try.f46)
noncomputable def m46K1 (M : Cut (List (List Int))) (k : Nat) : Exit → St → Option (List (List Int)) := blockK 0 (retG Try.prog Try.f46)
noncomputable def m46K2 (M : Cut (List (List Int))) (k : Nat) (L3 : St → Option (List (List Int))) : Exit → St → Option (List (List Int)) := seqK (normAt 0 m46A true (m46c [true, true, true])) L3 (m46K1 M k)
noncomputable def m46K3 (M : Cut (List (List Int))) (k : Nat) (L3 : St → Option (List (List Int))) : Exit → St → Option (List (List Int)) := seqK (normAt 0 m46A false (m46c [true, true, true, true])) (cutK M m46A (m46c [true, true, true, true]) fun s => evC (m46E k) M (m46I k) 0 m46A (m46c [true, true, true, true]) s (m46K2 M k L3)) (m46K2 M k L3)
noncomputable def m46K4 (M : Cut (List (List Int))) (k : Nat) (L3 : St → Option (List (List Int))) : Exit → St → Option (List (List Int)) := seqK (normAt 0 m46A false (m46c [true, true, true, false, true])) (cutK M m46A (m46c [true, true, true, false, true]) fun s => evC (m46E k) M (m46I k) 0 m46A (m46c [true, true, true, false, true]) s (m46K3 M k L3)) (m46K3 M k L3)
noncomputable def m46K5 (M : Cut (List (List Int))) (k : Nat) (L3 : St → Option (List (List Int))) : Exit → St → Option (List (List Int)) := seqK (normAt 0 m46A false (m46c [true, true, true, true, true])) (cutK M m46A (m46c [true, true, true, true, true]) fun s => evC (m46E k) M (m46I k) 0 m46A (m46c [true, true, true, true, true]) s (m46K2 M k L3)) (m46K2 M k L3)
noncomputable def m46K6 (M : Cut (List (List Int))) (k : Nat) (L3 : St → Option (List (List Int))) : Exit → St → Option (List (List Int)) := blockK 1 (m46K5 M k L3)
noncomputable def m46K7 (M : Cut (List (List Int))) (k : Nat) (L3 : St → Option (List (List Int))) : Exit → St → Option (List (List Int)) := seqK (normAt 0 m46A false (m46c [true, true, true, true, false, true, true])) (cutK M m46A (m46c [true, true, true, true, false, true, true]) fun s => evC (m46E k) M (m46I k) 0 m46A (m46c [true, true, true, true, false, true, true]) s (m46K6 M k L3)) (m46K6 M k L3)
noncomputable def m46K8 (M : Cut (List (List Int))) (k : Nat) (L3 : St → Option (List (List Int))) : Exit → St → Option (List (List Int)) := seqK (normAt 0 m46A false (m46c [true, true, true, true, false, true, true, true])) (cutK M m46A (m46c [true, true, true, true, false, true, true, true]) fun s => evC (m46E k) M (m46I k) 0 m46A (m46c [true, true, true, true, false, true, true, true]) s (m46K6 M k L3)) (m46K6 M k L3)
noncomputable def m46S3 (t1_0 : List Int) (t2_0 : Int) (t4 : Int) : St := { n := 31, tm := slots [(0, .fn (.yield 0) []), (1, .iptr [.row (.int .i64) t1_0]), (2, .iptr [.int .i64 t2_0]), (4, .int .i64 t4)], tab := blks [], nx := 0 }

noncomputable def m46X (X3 : List Int → Int → Int → Option (List (List Int))) (k : Nat) (p0 : (List Int)) (p1 : Int) : Option (List (List Int)) := X3 p0 p1 (0)

theorem m46x (M : Cut (List (List Int))) (k : Nat) (p0 : (List Int)) (p1 : Int) : evC (m46E k) M (m46I k) 0 m46A (m46c []) (stAt Try.f46 (.fn (.yield 0) [] :: argPs [(.row (.int .i64)), (.int .i64)] (p0, p1)) (fun _ => none) 0) (retG Try.prog Try.f46) = m46X (fun t1_0' t2_0' t4' => loopN (normAt 0 m46A true (m46c [true, true, true])) (fun K s => evC (m46E k) M (m46I k) 0 m46A (m46c [true, true, true]) s K) (m46K1 M k) k (m46S3 t1_0' t2_0' t4')) k p0 p1 := by kernel_rfl

noncomputable def m46X3 (L3 : List Int → Int → Int → Option (List (List Int))) (k : Nat) (t1_0 : List Int) (t2_0 : Int) (t4 : Int) : Option (List (List Int)) := (if ltI t4 (↑(List.length t1_0) : Int) = true then (if leI 0 t4 = true then (if leI t4 (↑(List.length t1_0) : Int) = true then (if leI 0 (wr IntKind.i64 (t4 + mn t2_0 (↑(List.length (List.drop (Int.toNat t4) t1_0)) : Int))) = true then (if leI (wr IntKind.i64 (t4 + mn t2_0 (↑(List.length (List.drop (Int.toNat t4) t1_0)) : Int))) (↑(List.length t1_0) : Int) =
  true then (if leI 0 (wr IntKind.i64 (t4 + mn t2_0 (↑(List.length (List.drop (Int.toNat t4) t1_0)) : Int))) = true then (if leI (wr IntKind.i64 (t4 + mn t2_0 (↑(List.length (List.drop (Int.toNat t4) t1_0)) : Int)))
    (wr IntKind.i64 (t4 + mn t2_0 (↑(List.length (List.drop (Int.toNat t4) t1_0)) : Int))) =
  true then (if leI 0 t4 = true then (if leI t4 (wr IntKind.i64 (t4 + mn t2_0 (↑(List.length (List.drop (Int.toNat t4) t1_0)) : Int))) = true then (gcons (List.drop (Int.toNat t4)
  (List.take (Int.toNat (wr IntKind.i64 (t4 + mn t2_0 (↑(List.length (List.drop (Int.toNat t4) t1_0)) : Int)))) t1_0)) (L3 t1_0 t2_0 (wr IntKind.i64 (t4 + t2_0))) (some ([]))) else none) else none) else none) else none) else none) else none) else none) else none) else some ([]))

theorem m46x3 (M : Cut (List (List Int))) (k : Nat) (L3 : St → Option (List (List Int))) (t1_0 : List Int) (t2_0 : Int) (t4 : Int) : evC (m46E k) M (m46I k) 0 m46A (m46c [true, true, true]) (m46S3 t1_0 t2_0 t4) (seqK (normAt 0 m46A true (m46c [true, true, true])) L3 (m46K1 M k)) = m46X3 (fun t1_0' t2_0' t4' => L3 (m46S3 t1_0' t2_0' t4')) k t1_0 t2_0 t4 := by kernel_rfl

noncomputable def m46F3 (k : Nat) : Nat → List Int → Int → Int → Option (List (List Int))
  | 0, _, _, _ => none
  | j + 1, t1_0, t2_0, t4 => m46X3 (m46F3 k j) k t1_0 t2_0 t4

theorem m46q3 (k : Nat) : ∀ (j : Nat) (t1_0 : List Int) (t2_0 : Int) (t4 : Int), loopN (normAt 0 m46A true (m46c [true, true, true])) (fun K s => evC (m46E k) (fun _ f => f) (m46I k) 0 m46A (m46c [true, true, true]) s K) (m46K1 (fun _ f => f) k) j (m46S3 t1_0 t2_0 t4) = m46F3 k j t1_0 t2_0 t4
  | 0, _, _, _ => rfl
  | j + 1, t1_0, t2_0, t4 => by
    have e0 : m46F3 k j = (fun t1_0' t2_0' t4' => loopN (normAt 0 m46A true (m46c [true, true, true])) (fun K s => evC (m46E k) (fun _ f => f) (m46I k) 0 m46A (m46c [true, true, true]) s K) (m46K1 (fun _ f => f) k) j (m46S3 t1_0' t2_0' t4')) := funext fun t1_0' => funext fun t2_0' => funext fun t4' => (m46q3 k j t1_0' t2_0' t4').symm
    show _ = m46X3 (m46F3 k j) k t1_0 t2_0 t4
    rw [e0]
    exact m46x3 (fun _ f => f) k (loopN (normAt 0 m46A true (m46c [true, true, true])) (fun K s => evC (m46E k) (fun _ f => f) (m46I k) 0 m46A (m46c [true, true, true]) s K) (m46K1 (fun _ f => f) k) j) t1_0 t2_0 t4

noncomputable def m46F (k : Nat) (p0 : (List Int)) (p1 : Int) : Option (List (List Int)) := m46X (m46F3 k k) k p0 p1

theorem m46q (k : Nat) (p0 : (List Int)) (p1 : Int) : evC (m46E k) (fun _ f => f) (m46I k) 0 m46A (m46c []) (stAt Try.f46 (.fn (.yield 0) [] :: argPs [(.row (.int .i64)), (.int .i64)] (p0, p1)) (fun _ => none) 0) (retG Try.prog Try.f46) = m46F k p0 p1 := by
    have e3 : m46F3 k k = (fun t1_0' t2_0' t4' => loopN (normAt 0 m46A true (m46c [true, true, true])) (fun K s => evC (m46E k) (fun _ f => f) (m46I k) 0 m46A (m46c [true, true, true]) s K) (m46K1 (fun _ f => f) k) k (m46S3 t1_0' t2_0' t4')) := funext fun t1_0' => funext fun t2_0' => funext fun t4' => (m46q3 k k t1_0' t2_0' t4').symm
    show _ = m46X (m46F3 k k) k p0 p1
    rw [e3]
    exact m46x (fun _ f => f) k p0 p1

noncomputable def m46sp : GSpec := { ks := [(.row (.int .i64)), (.int .i64)], ys := [.leaf (.val (.row (.int .i64)))], f := fun k a => m46F k a.1 a.2 }

theorem m46ok (k : Nat) : EnvOk (m46E k) := envOk_of (l := []) (lB := []) (lG := []) progNames progMixed rfl rfl rfl (.nil) (.nil) (.nil)

theorem m46con (k : Nat) : GContract Try.prog k 46 m46sp := gcontract_of (E := m46E k) (m46ok k) (A := only 46 m46A) (d := 3) (c := m46c []) (by kernel_rfl) (by kernel_rfl) fun a _ h => (m46q k a.1 a.2).trans h

noncomputable def m44A : Anns := tabA [(7, { keep := [2, 3] }), (11, { keep := [2, 3, 5, 13, 14, 15] }), (18, { keep := [3, 5] })]
noncomputable def m44E (k : Nat) : Env := { P := Try.prog, k := k, G := tabG [], GB := tabGB [], GG := tabGG [(46, m46sp)] }
noncomputable def m44c (p : List Bool) : Code := sub p (bodyOf Try.f44)
noncomputable def m44I (k : Nat) : Inl (List Int) := genI [.leaf (.val (.int .u8))] (inlOf (m44E k) (only 44 m44A) 3)
noncomputable def m44K0 (M : Cut (List Int)) (k : Nat) : Exit → St → Option (List Int) := seqK (normAt 0 m44A false (m44c [true])) (cutK M m44A (m44c [true]) fun s => evC (m44E k) M (m44I k) 0 m44A (m44c [true]) s (retG Try.prog Try.f44)) (retG Try.prog Try.f44)
noncomputable def m44K1 (M : Cut (List Int)) (k : Nat) : Exit → St → Option (List Int) := seqK (normAt 0 m44A false (m44c [true, true])) (cutK M m44A (m44c [true, true]) fun s => evC (m44E k) M (m44I k) 0 m44A (m44c [true, true]) s (retG Try.prog Try.f44)) (retG Try.prog Try.f44)
noncomputable def m44K2 (M : Cut (List Int)) (k : Nat) : Exit → St → Option (List Int) := blockK 0 (retG Try.prog Try.f44)
noncomputable def m44K3 (M : Cut (List Int)) (k : Nat) (L7 : St → Option (List Int)) (s7 : St) : Exit → St → Option (List Int) := roundK L7 (normAt 0 m44A true (m44c [true, true, true, true])) s7 (m44K2 M k)
noncomputable def m44K4 (M : Cut (List Int)) (k : Nat) (L7 : St → Option (List Int)) (s7 : St) : Exit → St → Option (List Int) := blockK 1 (m44K3 M k L7 s7)
noncomputable def m44K5 (M : Cut (List Int)) (k : Nat) (L7 : St → Option (List Int)) (s7 : St) : Exit → St → Option (List Int) := seqK (normAt (St.nx s7) m44A false (m44c [true, true, true, true, true, true])) (cutK M m44A (m44c [true, true, true, true, true, true]) fun s => evC (m44E k) M (m44I k) (St.nx s7) m44A (m44c [true, true, true, true, true, true]) s (m44K4 M k L7 s7)) (m44K4 M k L7 s7)
noncomputable def m44K6 (M : Cut (List Int)) (k : Nat) (L7 : St → Option (List Int)) (s7 : St) : Exit → St → Option (List Int) := seqK (normAt (St.nx s7) m44A false (m44c [true, true, true, true, true, true, true])) (cutK M m44A (m44c [true, true, true, true, true, true, true]) fun s => evC (m44E k) M (m44I k) (St.nx s7) m44A (m44c [true, true, true, true, true, true, true]) s (m44K4 M k L7 s7)) (m44K4 M k L7 s7)
noncomputable def m44K7 (M : Cut (List Int)) (k : Nat) (L7 : St → Option (List Int)) (s7 : St) : Exit → St → Option (List Int) := seqK (normAt (St.nx s7) m44A false (m44c [true, true, true, true, true, true, false, true])) (cutK M m44A (m44c [true, true, true, true, true, true, false, true]) fun s => evC (m44E k) M (m44I k) (St.nx s7) m44A (m44c [true, true, true, true, true, true, false, true]) s (m44K6 M k L7 s7)) (m44K6 M k L7 s7)
noncomputable def m44K8 (M : Cut (List Int)) (k : Nat) (L7 : St → Option (List Int)) (s7 : St) : Exit → St → Option (List Int) := blockK 2 (m44K6 M k L7 s7)
noncomputable def m44K9 (M : Cut (List Int)) (k : Nat) (L7 : St → Option (List Int)) (L11 : St → Option (List Int)) (s7 : St) : Exit → St → Option (List Int) := seqK (normAt (St.nx s7) m44A true (m44c [true, true, true, true, true, true, false, true, true, true])) L11 (m44K8 M k L7 s7)
noncomputable def m44K10 (M : Cut (List Int)) (k : Nat) (L7 : St → Option (List Int)) (L11 : St → Option (List Int)) (s7 : St) : Exit → St → Option (List Int) := seqK (normAt (St.nx s7) m44A false (m44c [true, true, true, true, true, true, false, true, true, true, true])) (cutK M m44A (m44c [true, true, true, true, true, true, false, true, true, true, true]) fun s => evC (m44E k) M (m44I k) (St.nx s7) m44A (m44c [true, true, true, true, true, true, false, true, true, true, true]) s (m44K9 M k L7 L11 s7)) (m44K9 M k L7 L11 s7)
noncomputable def m44K11 (M : Cut (List Int)) (k : Nat) (L7 : St → Option (List Int)) (L11 : St → Option (List Int)) (s7 : St) : Exit → St → Option (List Int) := seqK (normAt (St.nx s7) m44A false (m44c [true, true, true, true, true, true, false, true, true, true, true, true])) (cutK M m44A (m44c [true, true, true, true, true, true, false, true, true, true, true, true]) fun s => evC (m44E k) M (m44I k) (St.nx s7) m44A (m44c [true, true, true, true, true, true, false, true, true, true, true, true]) s (m44K9 M k L7 L11 s7)) (m44K9 M k L7 L11 s7)
noncomputable def m44K12 (M : Cut (List Int)) (k : Nat) (L7 : St → Option (List Int)) (L11 : St → Option (List Int)) (s7 : St) : Exit → St → Option (List Int) := seqK (normAt (St.nx s7) m44A false (m44c [true, true, true, true, true, true, false, true, true, true, true, true, true])) (cutK M m44A (m44c [true, true, true, true, true, true, false, true, true, true, true, true, true]) fun s => evC (m44E k) M (m44I k) (St.nx s7) m44A (m44c [true, true, true, true, true, true, false, true, true, true, true, true, true]) s (m44K9 M k L7 L11 s7)) (m44K9 M k L7 L11 s7)
noncomputable def m44K13 (M : Cut (List Int)) (k : Nat) (L7 : St → Option (List Int)) (L11 : St → Option (List Int)) (s7 : St) : Exit → St → Option (List Int) := blockK 3 (m44K12 M k L7 L11 s7)
noncomputable def m44K14 (M : Cut (List Int)) (k : Nat) (L7 : St → Option (List Int)) (L11 : St → Option (List Int)) (s7 : St) : Exit → St → Option (List Int) := seqK (normAt (St.nx s7) m44A false (m44c [true, true, true, true, true, true, false, true, true, true, true, true, false, true, true])) (cutK M m44A (m44c [true, true, true, true, true, true, false, true, true, true, true, true, false, true, true]) fun s => evC (m44E k) M (m44I k) (St.nx s7) m44A (m44c [true, true, true, true, true, true, false, true, true, true, true, true, false, true, true]) s (m44K13 M k L7 L11 s7)) (m44K13 M k L7 L11 s7)
noncomputable def m44K15 (M : Cut (List Int)) (k : Nat) (L7 : St → Option (List Int)) (s7 : St) : Exit → St → Option (List Int) := seqK (normAt (St.nx s7) m44A false (m44c [true, true, true, true, true, true, true, true])) (cutK M m44A (m44c [true, true, true, true, true, true, true, true]) fun s => evC (m44E k) M (m44I k) (St.nx s7) m44A (m44c [true, true, true, true, true, true, true, true]) s (m44K4 M k L7 s7)) (m44K4 M k L7 s7)
noncomputable def m44S7 (t2_0 : Int) : St := { n := 30, tm := slots [(2, .iptr [.int .i64 t2_0]), (3, .ptr 0 0)], tab := blks [some (.cells 61 [.fn (.yield 0) []])], nx := 1 }
noncomputable def m44S11 (t2_0 : Int) (t5 : Int) (t13 : List Int) (t14 : Int) (t15 : Int) : St := { n := 30, tm := slots [(2, .iptr [.int .i64 t2_0]), (3, .ptr 0 0), (5, .int .i64 t5), (13, .row (.int .i64) t13), (14, .int .i64 t14), (15, .int .i64 t15)], tab := blks [some (.cells 61 [.fn (.yield 0) []])], nx := 1 }
noncomputable def m44S18 (t5 : Int) : St := { n := 30, tm := slots [(3, .ptr 0 0), (5, .int .i64 t5)], tab := blks [some (.cells 61 [.fn (.yield 0) []])], nx := 1 }

noncomputable def m44X (X7 : List (List Int) → Int → Option (List Int)) (k : Nat) (p0 : (List Int)) (p1 : Int) : Option (List Int) := (if (!eqI p1 0) = true then (if ltI (wr IntKind.i64 (Int.tdiv 8 p1)) 1 = true then none else (Option.bind (m46F k p0 (wr IntKind.i64 (Int.tdiv 8 p1))) fun (c4 : (List (List Int))) => X7 c4 p1)) else none)

theorem m44x (M : Cut (List Int)) (k : Nat) (p0 : (List Int)) (p1 : Int) : evC (m44E k) M (m44I k) 0 m44A (m44c []) (stAt Try.f44 (.fn (.yield 0) [] :: argPs [(.row (.int .i64)), (.int .i64)] (p0, p1)) (fun _ => none) 0) (retG Try.prog Try.f44) = m44X (fun l7' t2_0' => rangeL [.leaf (.val (.row (.int .i64)))] [12] (normAt 0 m44A true (m44c [true, true, true, true])) (fun s s1 K1 => evC (m44E k) M (m44I k) s.nx m44A (m44c [true, true, true, false]) s1 (asK fun s2 => evC (m44E k) M (m44I k) s.nx m44A (m44c [true, true, true, true]) s2 K1)) (m44K2 M k) l7' (m44S7 t2_0')) k p0 p1 := by kernel_rfl

noncomputable def m44X7 (X11 : Int → Int → List Int → Int → Int → Option (List Int)) (k : Nat) (l7 : List (List Int)) (t2_0 : Int) : Option (List Int) := (uncH l7 (some ([])) fun (c5 : (List Int)) => X11 t2_0 (0) c5 ((↑(List.length c5) : Int)) (0))

theorem m44x7 (M : Cut (List Int)) (k : Nat) (L7 : St → Option (List Int)) (l7 : List (List Int)) (t2_0 : Int) : rangeS [.leaf (.val (.row (.int .i64)))] [12] (normAt 0 m44A true (m44c [true, true, true, true])) (fun s s1 K1 => evC (m44E k) M (m44I k) s.nx m44A (m44c [true, true, true, false]) s1 (asK fun s2 => evC (m44E k) M (m44I k) s.nx m44A (m44c [true, true, true, true]) s2 K1)) (m44K2 M k) L7 l7 (m44S7 t2_0) = m44X7 (fun t2_0' t5' t13' t14' t15' => loopN (normAt (St.nx (m44S7 t2_0)) m44A true (m44c [true, true, true, true, true, true, false, true, true, true])) (fun K s => evC (m44E k) M (m44I k) (St.nx (m44S7 t2_0)) m44A (m44c [true, true, true, true, true, true, false, true, true, true]) s K) (m44K8 M k L7 (m44S7 t2_0)) k (m44S11 t2_0' t5' t13' t14' t15')) k l7 t2_0 := by kernel_rfl

noncomputable def m44X11 (X18 : Int → Option (List Int)) (L11 : Int → Int → List Int → Int → Int → Option (List Int)) (k : Nat) (h7_t2_0 : Int) (t2_0 : Int) (t5 : Int) (t13 : List Int) (t14 : Int) (t15 : Int) : Option (List Int) := (if ltI t15 t14 = true then (if leI 0 t15 = true then (if ltI t15 (↑(List.length t13) : Int) = true then (if leI 0 t2_0 = true then L11 t2_0 (bits BinOp.or IntKind.i64 (wr IntKind.i64 (t5 * p2 (min (Int.toNat t2_0) 64))) (List.getD t13 (Int.toNat t15) 0)) t13 t14 (wr IntKind.i64 (t15 + 1)) else none) else none) else none) else X18 t5)

theorem m44x11 (M : Cut (List Int)) (k : Nat) (L7 : St → Option (List Int)) (L11 : St → Option (List Int)) (h7_t2_0 : Int) (t2_0 : Int) (t5 : Int) (t13 : List Int) (t14 : Int) (t15 : Int) : evC (m44E k) M (m44I k) (St.nx (m44S7 h7_t2_0)) m44A (m44c [true, true, true, true, true, true, false, true, true, true]) (m44S11 t2_0 t5 t13 t14 t15) (seqK (normAt (St.nx (m44S7 h7_t2_0)) m44A true (m44c [true, true, true, true, true, true, false, true, true, true])) L11 (m44K8 M k L7 (m44S7 h7_t2_0))) = m44X11 (fun t5' => M 18 (fun s => evC (m44E k) M (m44I k) (St.nx (m44S7 h7_t2_0)) m44A (m44c [true, true, true, true, true, true, true]) s (m44K4 M k L7 (m44S7 h7_t2_0))) (m44S18 t5')) (fun t2_0' t5' t13' t14' t15' => L11 (m44S11 t2_0' t5' t13' t14' t15')) k h7_t2_0 t2_0 t5 t13 t14 t15 := by kernel_rfl

noncomputable def m44X18 (L7 : Int → Option (List Int)) (k : Nat) (h7_t2_0 : Int) (t5 : Int) : Option (List Int) := (gcons (wr IntKind.u8 t5) (L7 h7_t2_0) (some ([])))

theorem m44x18 (M : Cut (List Int)) (k : Nat) (L7 : St → Option (List Int)) (h7_t2_0 : Int) (t5 : Int) : evC (m44E k) M (m44I k) (St.nx (m44S7 h7_t2_0)) m44A (m44c [true, true, true, true, true, true, true]) (m44S18 t5) (m44K4 M k L7 (m44S7 h7_t2_0)) = m44X18 (fun t2_0' => L7 (m44S7 t2_0')) k h7_t2_0 t5 := by kernel_rfl

noncomputable def m44F18 (k : Nat) (L7 : Int → Option (List Int)) (h7_t2_0 : Int) (t5 : Int) : Option (List Int) := m44X18 L7 k h7_t2_0 t5

theorem m44q18 (k : Nat) (L7 : St → Option (List Int)) (h7_t2_0 : Int) (t5 : Int) : evC (m44E k) (fun _ f => f) (m44I k) (St.nx (m44S7 h7_t2_0)) m44A (m44c [true, true, true, true, true, true, true]) (m44S18 t5) (m44K4 (fun _ f => f) k L7 (m44S7 h7_t2_0)) = m44F18 k (fun t2_0' => L7 (m44S7 t2_0')) h7_t2_0 t5 := by
    show _ = m44X18 (fun t2_0' => L7 (m44S7 t2_0')) k h7_t2_0 t5
    exact m44x18 (fun _ f => f) k L7 h7_t2_0 t5

noncomputable def m44F11 (k : Nat) (L7 : Int → Option (List Int)) (h7_t2_0 : Int) : Nat → Int → Int → List Int → Int → Int → Option (List Int)
  | 0, _, _, _, _, _ => none
  | j + 1, t2_0, t5, t13, t14, t15 => m44X11 (m44F18 k L7 h7_t2_0) (m44F11 k L7 h7_t2_0 j) k h7_t2_0 t2_0 t5 t13 t14 t15

theorem m44q11 (k : Nat) (L7 : St → Option (List Int)) (h7_t2_0 : Int) : ∀ (j : Nat) (t2_0 : Int) (t5 : Int) (t13 : List Int) (t14 : Int) (t15 : Int), loopN (normAt (St.nx (m44S7 h7_t2_0)) m44A true (m44c [true, true, true, true, true, true, false, true, true, true])) (fun K s => evC (m44E k) (fun _ f => f) (m44I k) (St.nx (m44S7 h7_t2_0)) m44A (m44c [true, true, true, true, true, true, false, true, true, true]) s K) (m44K8 (fun _ f => f) k L7 (m44S7 h7_t2_0)) j (m44S11 t2_0 t5 t13 t14 t15) = m44F11 k (fun t2_0' => L7 (m44S7 t2_0')) h7_t2_0 j t2_0 t5 t13 t14 t15
  | 0, _, _, _, _, _ => rfl
  | j + 1, t2_0, t5, t13, t14, t15 => by
    have e0 : m44F11 k (fun t2_0' => L7 (m44S7 t2_0')) h7_t2_0 j = (fun t2_0' t5' t13' t14' t15' => loopN (normAt (St.nx (m44S7 h7_t2_0)) m44A true (m44c [true, true, true, true, true, true, false, true, true, true])) (fun K s => evC (m44E k) (fun _ f => f) (m44I k) (St.nx (m44S7 h7_t2_0)) m44A (m44c [true, true, true, true, true, true, false, true, true, true]) s K) (m44K8 (fun _ f => f) k L7 (m44S7 h7_t2_0)) j (m44S11 t2_0' t5' t13' t14' t15')) := funext fun t2_0' => funext fun t5' => funext fun t13' => funext fun t14' => funext fun t15' => (m44q11 k L7 h7_t2_0 j t2_0' t5' t13' t14' t15').symm
    have e18 : m44F18 k (fun t2_0' => L7 (m44S7 t2_0')) h7_t2_0 = (fun t5' => evC (m44E k) (fun _ f => f) (m44I k) (St.nx (m44S7 h7_t2_0)) m44A (m44c [true, true, true, true, true, true, true]) (m44S18 t5') (m44K4 (fun _ f => f) k L7 (m44S7 h7_t2_0))) := funext fun t5' => (m44q18 k L7 h7_t2_0 t5').symm
    show _ = m44X11 (m44F18 k (fun t2_0' => L7 (m44S7 t2_0')) h7_t2_0) (m44F11 k (fun t2_0' => L7 (m44S7 t2_0')) h7_t2_0 j) k h7_t2_0 t2_0 t5 t13 t14 t15
    rw [e0, e18]
    exact m44x11 (fun _ f => f) k L7 (loopN (normAt (St.nx (m44S7 h7_t2_0)) m44A true (m44c [true, true, true, true, true, true, false, true, true, true])) (fun K s => evC (m44E k) (fun _ f => f) (m44I k) (St.nx (m44S7 h7_t2_0)) m44A (m44c [true, true, true, true, true, true, false, true, true, true]) s K) (m44K8 (fun _ f => f) k L7 (m44S7 h7_t2_0)) j) h7_t2_0 t2_0 t5 t13 t14 t15

noncomputable def m44F7 (k : Nat) : List (List Int) → Int → Option (List Int)
  | [], t2_0 => m44X7 (m44F11 k ((fun _ => none)) t2_0 k) k [] t2_0
  | y :: l, t2_0 => m44X7 (m44F11 k (m44F7 k l) t2_0 k) k (y :: l) t2_0

theorem m44q7 (k : Nat) : ∀ (l : List (List Int)) (t2_0 : Int), rangeL [.leaf (.val (.row (.int .i64)))] [12] (normAt 0 m44A true (m44c [true, true, true, true])) (fun s s1 K1 => evC (m44E k) (fun _ f => f) (m44I k) s.nx m44A (m44c [true, true, true, false]) s1 (asK fun s2 => evC (m44E k) (fun _ f => f) (m44I k) s.nx m44A (m44c [true, true, true, true]) s2 K1)) (m44K2 (fun _ f => f) k) l (m44S7 t2_0) = m44F7 k l t2_0
  | [], t2_0 => by
    have e11 : m44F11 k (fun t2_0' => none) t2_0 k = (fun t2_0' t5' t13' t14' t15' => loopN (normAt (St.nx (m44S7 t2_0)) m44A true (m44c [true, true, true, true, true, true, false, true, true, true])) (fun K s => evC (m44E k) (fun _ f => f) (m44I k) (St.nx (m44S7 t2_0)) m44A (m44c [true, true, true, true, true, true, false, true, true, true]) s K) (m44K8 (fun _ f => f) k (fun _ => none) (m44S7 t2_0)) k (m44S11 t2_0' t5' t13' t14' t15')) := funext fun t2_0' => funext fun t5' => funext fun t13' => funext fun t14' => funext fun t15' => (m44q11 k (fun _ => none) t2_0 k t2_0' t5' t13' t14' t15').symm
    show _ = m44X7 (m44F11 k ((fun t2_0' => none)) t2_0 k) k [] t2_0
    rw [e11]
    exact m44x7 (fun _ f => f) k (fun _ => none) [] t2_0
  | y :: l, t2_0 => by
    have e0 : m44F7 k l = (fun t2_0' => rangeL [.leaf (.val (.row (.int .i64)))] [12] (normAt 0 m44A true (m44c [true, true, true, true])) (fun s s1 K1 => evC (m44E k) (fun _ f => f) (m44I k) s.nx m44A (m44c [true, true, true, false]) s1 (asK fun s2 => evC (m44E k) (fun _ f => f) (m44I k) s.nx m44A (m44c [true, true, true, true]) s2 K1)) (m44K2 (fun _ f => f) k) l (m44S7 t2_0')) := funext fun t2_0' => (m44q7 k l t2_0').symm
    have e11 : m44F11 k (fun t2_0' => rangeL [.leaf (.val (.row (.int .i64)))] [12] (normAt 0 m44A true (m44c [true, true, true, true])) (fun s s1 K1 => evC (m44E k) (fun _ f => f) (m44I k) s.nx m44A (m44c [true, true, true, false]) s1 (asK fun s2 => evC (m44E k) (fun _ f => f) (m44I k) s.nx m44A (m44c [true, true, true, true]) s2 K1)) (m44K2 (fun _ f => f) k) l (m44S7 t2_0')) t2_0 k = (fun t2_0' t5' t13' t14' t15' => loopN (normAt (St.nx (m44S7 t2_0)) m44A true (m44c [true, true, true, true, true, true, false, true, true, true])) (fun K s => evC (m44E k) (fun _ f => f) (m44I k) (St.nx (m44S7 t2_0)) m44A (m44c [true, true, true, true, true, true, false, true, true, true]) s K) (m44K8 (fun _ f => f) k (rangeL [.leaf (.val (.row (.int .i64)))] [12] (normAt 0 m44A true (m44c [true, true, true, true])) (fun s s1 K1 => evC (m44E k) (fun _ f => f) (m44I k) s.nx m44A (m44c [true, true, true, false]) s1 (asK fun s2 => evC (m44E k) (fun _ f => f) (m44I k) s.nx m44A (m44c [true, true, true, true]) s2 K1)) (m44K2 (fun _ f => f) k) l) (m44S7 t2_0)) k (m44S11 t2_0' t5' t13' t14' t15')) := funext fun t2_0' => funext fun t5' => funext fun t13' => funext fun t14' => funext fun t15' => (m44q11 k (rangeL [.leaf (.val (.row (.int .i64)))] [12] (normAt 0 m44A true (m44c [true, true, true, true])) (fun s s1 K1 => evC (m44E k) (fun _ f => f) (m44I k) s.nx m44A (m44c [true, true, true, false]) s1 (asK fun s2 => evC (m44E k) (fun _ f => f) (m44I k) s.nx m44A (m44c [true, true, true, true]) s2 K1)) (m44K2 (fun _ f => f) k) l) t2_0 k t2_0' t5' t13' t14' t15').symm
    show _ = m44X7 (m44F11 k (m44F7 k l) t2_0 k) k (y :: l) t2_0
    rw [e0, e11]
    exact m44x7 (fun _ f => f) k (rangeL [.leaf (.val (.row (.int .i64)))] [12] (normAt 0 m44A true (m44c [true, true, true, true])) (fun s s1 K1 => evC (m44E k) (fun _ f => f) (m44I k) s.nx m44A (m44c [true, true, true, false]) s1 (asK fun s2 => evC (m44E k) (fun _ f => f) (m44I k) s.nx m44A (m44c [true, true, true, true]) s2 K1)) (m44K2 (fun _ f => f) k) l) (y :: l) t2_0

noncomputable def m44F (k : Nat) (p0 : (List Int)) (p1 : Int) : Option (List Int) := m44X (m44F7 k) k p0 p1

theorem m44q (k : Nat) (p0 : (List Int)) (p1 : Int) : evC (m44E k) (fun _ f => f) (m44I k) 0 m44A (m44c []) (stAt Try.f44 (.fn (.yield 0) [] :: argPs [(.row (.int .i64)), (.int .i64)] (p0, p1)) (fun _ => none) 0) (retG Try.prog Try.f44) = m44F k p0 p1 := by
    have e7 : m44F7 k = (fun l7' t2_0' => rangeL [.leaf (.val (.row (.int .i64)))] [12] (normAt 0 m44A true (m44c [true, true, true, true])) (fun s s1 K1 => evC (m44E k) (fun _ f => f) (m44I k) s.nx m44A (m44c [true, true, true, false]) s1 (asK fun s2 => evC (m44E k) (fun _ f => f) (m44I k) s.nx m44A (m44c [true, true, true, true]) s2 K1)) (m44K2 (fun _ f => f) k) l7' (m44S7 t2_0')) := funext fun l7' => funext fun t2_0' => (m44q7 k l7' t2_0').symm
    show _ = m44X (m44F7 k) k p0 p1
    rw [e7]
    exact m44x (fun _ f => f) k p0 p1

noncomputable def m44sp : GSpec := { ks := [(.row (.int .i64)), (.int .i64)], ys := [.leaf (.val (.int .u8))], f := fun k a => m44F k a.1 a.2 }

theorem m44ok (k : Nat) : EnvOk (m44E k) := envOk_of (l := []) (lB := []) (lG := [(46, m46sp)]) progNames progMixed rfl rfl rfl (.nil) (.nil) (.cons ⟨m46con k, Try.f46, by kernel_rfl, by kernel_rfl⟩ (.nil))

theorem m44con (k : Nat) : GContract Try.prog k 44 m44sp := gcontract_of (E := m44E k) (m44ok k) (A := only 44 m44A) (d := 3) (c := m44c []) (by kernel_rfl) (by kernel_rfl) fun a _ h => (m44q k a.1 a.2).trans h

noncomputable def m36A : Anns := tabA [(17, { keep := [4, 5, 6], matc := [(6, 0, (.int .u8), 5)] }), (18, { keep := [6] })]
noncomputable def m36E (k : Nat) : Env := { P := Try.prog, k := k, G := tabG [(41000039, m39c40sp)], GB := tabGB [], GG := tabGG [(44, m44sp)] }
noncomputable def m36c (p : List Bool) : Code := sub p (bodyOf Try.f36)
noncomputable def m36I (k : Nat) : Inl ((List Int) × Int) := inlOf (m36E k) (only 36 m36A) 3
noncomputable def m36K0 (M : Cut ((List Int) × Int)) (k : Nat) : Exit → St → Option ((List Int) × Int) := seqK (normAt 0 m36A false (m36c [true])) (cutK M m36A (m36c [true]) fun s => evC (m36E k) M (m36I k) 0 m36A (m36c [true]) s (retK Try.prog Try.f36 [.leaf (.own (.int .u8) 5), .leaf (.val (.int .i64))])) (retK Try.prog Try.f36 [.leaf (.own (.int .u8) 5), .leaf (.val (.int .i64))])
noncomputable def m36K1 (M : Cut ((List Int) × Int)) (k : Nat) : Exit → St → Option ((List Int) × Int) := seqK (normAt 0 m36A false (m36c [true, true])) (cutK M m36A (m36c [true, true]) fun s => evC (m36E k) M (m36I k) 0 m36A (m36c [true, true]) s (retK Try.prog Try.f36 [.leaf (.own (.int .u8) 5), .leaf (.val (.int .i64))])) (retK Try.prog Try.f36 [.leaf (.own (.int .u8) 5), .leaf (.val (.int .i64))])
noncomputable def m36K2 (M : Cut ((List Int) × Int)) (k : Nat) : Exit → St → Option ((List Int) × Int) := blockK 0 (m36K1 M k)
noncomputable def m36K3 (M : Cut ((List Int) × Int)) (k : Nat) : Exit → St → Option ((List Int) × Int) := seqK (normAt 0 m36A false (m36c [true, false, true, true])) (cutK M m36A (m36c [true, false, true, true]) fun s => evC (m36E k) M (m36I k) 0 m36A (m36c [true, false, true, true]) s (m36K2 M k)) (m36K2 M k)
noncomputable def m36K4 (M : Cut ((List Int) × Int)) (k : Nat) : Exit → St → Option ((List Int) × Int) := seqK (normAt 0 m36A false (m36c [true, false, true, true, false, true])) (cutK M m36A (m36c [true, false, true, true, false, true]) fun s => evC (m36E k) M (m36I k) 0 m36A (m36c [true, false, true, true, false, true]) s (m36K2 M k)) (m36K2 M k)
noncomputable def m36K5 (M : Cut ((List Int) × Int)) (k : Nat) : Exit → St → Option ((List Int) × Int) := seqK (normAt 0 m36A false (m36c [true, false, true, true, true, true])) (cutK M m36A (m36c [true, false, true, true, true, true]) fun s => evC (m36E k) M (m36I k) 0 m36A (m36c [true, false, true, true, true, true]) s (m36K2 M k)) (m36K2 M k)
noncomputable def m36K6 (M : Cut ((List Int) × Int)) (k : Nat) : Exit → St → Option ((List Int) × Int) := seqK (normAt 0 m36A false (m36c [true, false, true, true, true, true, false, true])) (cutK M m36A (m36c [true, false, true, true, true, true, false, true]) fun s => evC (m36E k) M (m36I k) 0 m36A (m36c [true, false, true, true, true, true, false, true]) s (m36K2 M k)) (m36K2 M k)
noncomputable def m36K7 (M : Cut ((List Int) × Int)) (k : Nat) : Exit → St → Option ((List Int) × Int) := seqK (normAt 0 m36A false (m36c [true, true, true])) (cutK M m36A (m36c [true, true, true]) fun s => evC (m36E k) M (m36I k) 0 m36A (m36c [true, true, true]) s (retK Try.prog Try.f36 [.leaf (.own (.int .u8) 5), .leaf (.val (.int .i64))])) (retK Try.prog Try.f36 [.leaf (.own (.int .u8) 5), .leaf (.val (.int .i64))])
noncomputable def m36K8 (M : Cut ((List Int) × Int)) (k : Nat) : Exit → St → Option ((List Int) × Int) := seqK (normAt 0 m36A false (m36c [true, true, true, true])) (cutK M m36A (m36c [true, true, true, true]) fun s => evC (m36E k) M (m36I k) 0 m36A (m36c [true, true, true, true]) s (retK Try.prog Try.f36 [.leaf (.own (.int .u8) 5), .leaf (.val (.int .i64))])) (retK Try.prog Try.f36 [.leaf (.own (.int .u8) 5), .leaf (.val (.int .i64))])
noncomputable def m36K9 (M : Cut ((List Int) × Int)) (k : Nat) : Exit → St → Option ((List Int) × Int) := seqK (normAt 0 m36A false (m36c [true, true, true, false, true])) (cutK M m36A (m36c [true, true, true, false, true]) fun s => evC (m36E k) M (m36I k) 0 m36A (m36c [true, true, true, false, true]) s (m36K8 M k)) (m36K8 M k)
noncomputable def m36K10 (M : Cut ((List Int) × Int)) (k : Nat) : Exit → St → Option ((List Int) × Int) := blockK 1 (m36K8 M k)
noncomputable def m36K11 (M : Cut ((List Int) × Int)) (k : Nat) (L17 : St → Option ((List Int) × Int)) (s17 : St) : Exit → St → Option ((List Int) × Int) := roundK L17 (normAt 0 m36A true (m36c [true, true, true, false, true, true, true])) s17 (m36K10 M k)
noncomputable def m36K12 (M : Cut ((List Int) × Int)) (k : Nat) (L17 : St → Option ((List Int) × Int)) (s17 : St) : Exit → St → Option ((List Int) × Int) := blockK 2 (m36K11 M k L17 s17)
noncomputable def m36K13 (M : Cut ((List Int) × Int)) (k : Nat) : Exit → St → Option ((List Int) × Int) := seqK (normAt 0 m36A false (m36c [true, true, true, true, true])) (cutK M m36A (m36c [true, true, true, true, true]) fun s => evC (m36E k) M (m36I k) 0 m36A (m36c [true, true, true, true, true]) s (retK Try.prog Try.f36 [.leaf (.own (.int .u8) 5), .leaf (.val (.int .i64))])) (retK Try.prog Try.f36 [.leaf (.own (.int .u8) 5), .leaf (.val (.int .i64))])
noncomputable def m36S17 (t5 : Int) (b1 : List Int) : St := { n := 33, tm := slots [(4, .nils), (5, .int .i64 t5), (6, .ptr 0 0)], tab := blks [some (.cells 26 [.own 1]), some (.row true (.int .u8) 5 b1)], nx := 2 }
noncomputable def m36S18 (b1 : List Int) : St := { n := 33, tm := slots [(6, .ptr 0 0)], tab := blks [some (.cells 26 [.own 1]), some (.row true (.int .u8) 5 b1)], nx := 2 }

noncomputable def m36X (X17 : List Int → Int → List Int → Option ((List Int) × Int)) (k : Nat) (p0 : (List Int)) (p1 : Int) : Option ((List Int) × Int) := (if ltI 32768 (↑(List.length p0) : Int) = true then some (([], 2)) else (if (!eqI p1 0) = true then (if (!eqI (wr IntKind.i64 (Int.tdiv 8 p1)) 0) = true then (if (!eqI (Int.tmod (↑(List.length p0) : Int) (wr IntKind.i64 (Int.tdiv 8 p1))) 0) = true then some (([], 2)) else (Option.bind (m39c40F k p0 p1) fun (c4 : Bool) => (if c4 = true then some (([], 1)) else (Option.bind (m44F k p0 p1) fun (c5 : (List Int)) => X17 c5 (0) ([]))))) else none) else none))

theorem m36x (M : Cut ((List Int) × Int)) (k : Nat) (p0 : (List Int)) (p1 : Int) : evC (m36E k) M (m36I k) 0 m36A (m36c []) (stAt Try.f36 (argSs [.leaf (.val (.row (.int .i64))), .leaf (.val (.int .i64))] (p0, p1)) (fun _ => none) 0) (retK Try.prog Try.f36 [.leaf (.own (.int .u8) 5), .leaf (.val (.int .i64))]) = m36X (fun l17' t5' b1' => rangeL [.leaf (.val (.int .u8))] [27] (normAt 0 m36A true (m36c [true, true, true, false, true, true, true])) (fun s s1 K1 => evC (m36E k) M (m36I k) s.nx m36A (m36c [true, true, true, false, true, true, false]) s1 (asK fun s2 => evC (m36E k) M (m36I k) s.nx m36A (m36c [true, true, true, false, true, true, true]) s2 K1)) (m36K10 M k) l17' (m36S17 t5' b1')) k p0 p1 := by kernel_rfl

noncomputable def m36X17 (X18 : List Int → Option ((List Int) × Int)) (L17 : Int → List Int → Option ((List Int) × Int)) (k : Nat) (l17 : List Int) (t5 : Int) (b1 : List Int) : Option ((List Int) × Int) := (uncH l17 (X18 b1) fun (c6 : Int) => (if leI (↑((List.length b1 + List.length (List.set (List.replicate 1 0) 0 c6)) * 1) : Int) 140737488355328 = true then L17 t5 (b1 ++ List.set (List.replicate 1 0) 0 c6) else none))

theorem m36x17 (M : Cut ((List Int) × Int)) (k : Nat) (L17 : St → Option ((List Int) × Int)) (l17 : List Int) (t5 : Int) (b1 : List Int) : rangeS [.leaf (.val (.int .u8))] [27] (normAt 0 m36A true (m36c [true, true, true, false, true, true, true])) (fun s s1 K1 => evC (m36E k) M (m36I k) s.nx m36A (m36c [true, true, true, false, true, true, false]) s1 (asK fun s2 => evC (m36E k) M (m36I k) s.nx m36A (m36c [true, true, true, false, true, true, true]) s2 K1)) (m36K10 M k) L17 l17 (m36S17 t5 b1) = m36X17 (fun b1' => M 18 (fun s => evC (m36E k) M (m36I k) 0 m36A (m36c [true, true, true, true]) s (retK Try.prog Try.f36 [.leaf (.own (.int .u8) 5), .leaf (.val (.int .i64))])) (m36S18 b1')) (fun t5' b1' => L17 (m36S17 t5' b1')) k l17 t5 b1 := by kernel_rfl

noncomputable def m36X18 (k : Nat) (b1 : List Int) : Option ((List Int) × Int) := some ((b1, 0))

theorem m36x18 (M : Cut ((List Int) × Int)) (k : Nat) (b1 : List Int) : evC (m36E k) M (m36I k) 0 m36A (m36c [true, true, true, true]) (m36S18 b1) (retK Try.prog Try.f36 [.leaf (.own (.int .u8) 5), .leaf (.val (.int .i64))]) = m36X18 k b1 := by kernel_rfl

noncomputable def m36F18 (k : Nat) (b1 : List Int) : Option ((List Int) × Int) := m36X18 k b1

theorem m36q18 (k : Nat) (b1 : List Int) : evC (m36E k) (fun _ f => f) (m36I k) 0 m36A (m36c [true, true, true, true]) (m36S18 b1) (retK Try.prog Try.f36 [.leaf (.own (.int .u8) 5), .leaf (.val (.int .i64))]) = m36F18 k b1 := by
    show _ = m36X18 k b1
    exact m36x18 (fun _ f => f) k b1

noncomputable def m36F17 (k : Nat) : List Int → Int → List Int → Option ((List Int) × Int)
  | [], t5, b1 => m36X17 (m36F18 k) ((fun _ _ => none)) k [] t5 b1
  | y :: l, t5, b1 => m36X17 (m36F18 k) (m36F17 k l) k (y :: l) t5 b1

theorem m36q17 (k : Nat) : ∀ (l : List Int) (t5 : Int) (b1 : List Int), rangeL [.leaf (.val (.int .u8))] [27] (normAt 0 m36A true (m36c [true, true, true, false, true, true, true])) (fun s s1 K1 => evC (m36E k) (fun _ f => f) (m36I k) s.nx m36A (m36c [true, true, true, false, true, true, false]) s1 (asK fun s2 => evC (m36E k) (fun _ f => f) (m36I k) s.nx m36A (m36c [true, true, true, false, true, true, true]) s2 K1)) (m36K10 (fun _ f => f) k) l (m36S17 t5 b1) = m36F17 k l t5 b1
  | [], t5, b1 => by
    have e18 : m36F18 k = (fun b1' => evC (m36E k) (fun _ f => f) (m36I k) 0 m36A (m36c [true, true, true, true]) (m36S18 b1') (retK Try.prog Try.f36 [.leaf (.own (.int .u8) 5), .leaf (.val (.int .i64))])) := funext fun b1' => (m36q18 k b1').symm
    show _ = m36X17 (m36F18 k) ((fun t5' b1' => none)) k [] t5 b1
    rw [e18]
    exact m36x17 (fun _ f => f) k (fun _ => none) [] t5 b1
  | y :: l, t5, b1 => by
    have e0 : m36F17 k l = (fun t5' b1' => rangeL [.leaf (.val (.int .u8))] [27] (normAt 0 m36A true (m36c [true, true, true, false, true, true, true])) (fun s s1 K1 => evC (m36E k) (fun _ f => f) (m36I k) s.nx m36A (m36c [true, true, true, false, true, true, false]) s1 (asK fun s2 => evC (m36E k) (fun _ f => f) (m36I k) s.nx m36A (m36c [true, true, true, false, true, true, true]) s2 K1)) (m36K10 (fun _ f => f) k) l (m36S17 t5' b1')) := funext fun t5' => funext fun b1' => (m36q17 k l t5' b1').symm
    have e18 : m36F18 k = (fun b1' => evC (m36E k) (fun _ f => f) (m36I k) 0 m36A (m36c [true, true, true, true]) (m36S18 b1') (retK Try.prog Try.f36 [.leaf (.own (.int .u8) 5), .leaf (.val (.int .i64))])) := funext fun b1' => (m36q18 k b1').symm
    show _ = m36X17 (m36F18 k) (m36F17 k l) k (y :: l) t5 b1
    rw [e0, e18]
    exact m36x17 (fun _ f => f) k (rangeL [.leaf (.val (.int .u8))] [27] (normAt 0 m36A true (m36c [true, true, true, false, true, true, true])) (fun s s1 K1 => evC (m36E k) (fun _ f => f) (m36I k) s.nx m36A (m36c [true, true, true, false, true, true, false]) s1 (asK fun s2 => evC (m36E k) (fun _ f => f) (m36I k) s.nx m36A (m36c [true, true, true, false, true, true, true]) s2 K1)) (m36K10 (fun _ f => f) k) l) (y :: l) t5 b1

noncomputable def m36F (k : Nat) (p0 : (List Int)) (p1 : Int) : Option ((List Int) × Int) := m36X (m36F17 k) k p0 p1

theorem m36q (k : Nat) (p0 : (List Int)) (p1 : Int) : evC (m36E k) (fun _ f => f) (m36I k) 0 m36A (m36c []) (stAt Try.f36 (argSs [.leaf (.val (.row (.int .i64))), .leaf (.val (.int .i64))] (p0, p1)) (fun _ => none) 0) (retK Try.prog Try.f36 [.leaf (.own (.int .u8) 5), .leaf (.val (.int .i64))]) = m36F k p0 p1 := by
    have e17 : m36F17 k = (fun l17' t5' b1' => rangeL [.leaf (.val (.int .u8))] [27] (normAt 0 m36A true (m36c [true, true, true, false, true, true, true])) (fun s s1 K1 => evC (m36E k) (fun _ f => f) (m36I k) s.nx m36A (m36c [true, true, true, false, true, true, false]) s1 (asK fun s2 => evC (m36E k) (fun _ f => f) (m36I k) s.nx m36A (m36c [true, true, true, false, true, true, true]) s2 K1)) (m36K10 (fun _ f => f) k) l17' (m36S17 t5' b1')) := funext fun l17' => funext fun t5' => funext fun b1' => (m36q17 k l17' t5' b1').symm
    show _ = m36X (m36F17 k) k p0 p1
    rw [e17]
    exact m36x (fun _ f => f) k p0 p1

noncomputable def m36sp : Spec := { ps := [.leaf (.val (.row (.int .i64))), .leaf (.val (.int .i64))], rs := [.leaf (.own (.int .u8) 5), .leaf (.val (.int .i64))], f := fun k a => m36F k a.1 a.2 }

theorem m36ok (k : Nat) : EnvOk (m36E k) := envOk_of (l := [(41000039, m39c40sp)]) (lB := []) (lG := [(44, m44sp)]) progNames progMixed rfl rfl rfl (.cons ⟨m39c40con k, Try.f39, by kernel_rfl, by kernel_rfl⟩ (.nil)) (.nil) (.cons ⟨m44con k, Try.f44, by kernel_rfl, by kernel_rfl⟩ (.nil))

theorem m36con (k : Nat) : Contract Try.prog k 36 m36sp := contract_of (E := m36E k) (m36ok k) (A := only 36 m36A) (d := 3) (c := m36c []) (by kernel_rfl) (by kernel_rfl) fun a _ h => (m36q k a.1 a.2).trans h

noncomputable def m29A : Anns := tabA []
noncomputable def m29E (k : Nat) : Env := { P := Try.prog, k := k, G := tabG [(36, m36sp)], GB := tabGB [], GG := tabGG [] }
noncomputable def m29c (p : List Bool) : Code := sub p (bodyOf Try.f29)
noncomputable def m29I (k : Nat) : Inl ((List Int) × Int) := inlOf (m29E k) (only 29 m29A) 3
noncomputable def m29K0 (M : Cut ((List Int) × Int)) (k : Nat) : Exit → St → Option ((List Int) × Int) := seqK (normAt 0 m29A false (m29c [true])) (cutK M m29A (m29c [true]) fun s => evC (m29E k) M (m29I k) 0 m29A (m29c [true]) s (retK Try.prog Try.f29 [.leaf (.own (.int .u8) 5), .leaf (.val (.int .i64))])) (retK Try.prog Try.f29 [.leaf (.own (.int .u8) 5), .leaf (.val (.int .i64))])
noncomputable def m29K1 (M : Cut ((List Int) × Int)) (k : Nat) : Exit → St → Option ((List Int) × Int) := seqK (normAt 0 m29A false (m29c [true, true])) (cutK M m29A (m29c [true, true]) fun s => evC (m29E k) M (m29I k) 0 m29A (m29c [true, true]) s (retK Try.prog Try.f29 [.leaf (.own (.int .u8) 5), .leaf (.val (.int .i64))])) (retK Try.prog Try.f29 [.leaf (.own (.int .u8) 5), .leaf (.val (.int .i64))])

noncomputable def m29X (k : Nat) (p0 : (List Int)) : Option ((List Int) × Int) := (Option.bind (m36F k p0 1) fun (c3 : ((List Int) × Int)) => some ((Prod.fst c3, Prod.snd c3)))

theorem m29x (M : Cut ((List Int) × Int)) (k : Nat) (p0 : (List Int)) : evC (m29E k) M (m29I k) 0 m29A (m29c []) (stAt Try.f29 (argSs [.leaf (.val (.row (.int .i64)))] p0) (fun _ => none) 0) (retK Try.prog Try.f29 [.leaf (.own (.int .u8) 5), .leaf (.val (.int .i64))]) = m29X k p0 := by kernel_rfl

noncomputable def m29F (k : Nat) (p0 : (List Int)) : Option ((List Int) × Int) := m29X k p0

theorem m29q (k : Nat) (p0 : (List Int)) : evC (m29E k) (fun _ f => f) (m29I k) 0 m29A (m29c []) (stAt Try.f29 (argSs [.leaf (.val (.row (.int .i64)))] p0) (fun _ => none) 0) (retK Try.prog Try.f29 [.leaf (.own (.int .u8) 5), .leaf (.val (.int .i64))]) = m29F k p0 := by
    show _ = m29X k p0
    exact m29x (fun _ f => f) k p0

noncomputable def m29sp : Spec := { ps := [.leaf (.val (.row (.int .i64)))], rs := [.leaf (.own (.int .u8) 5), .leaf (.val (.int .i64))], f := fun k a => m29F k a }

theorem m29ok (k : Nat) : EnvOk (m29E k) := envOk_of (l := [(36, m36sp)]) (lB := []) (lG := []) progNames progMixed rfl rfl rfl (.cons ⟨m36con k, Try.f36, by kernel_rfl, by kernel_rfl⟩ (.nil)) (.nil) (.nil)

theorem m29con (k : Nat) : Contract Try.prog k 29 m29sp := contract_of (E := m29E k) (m29ok k) (A := only 29 m29A) (d := 3) (c := m29c []) (by kernel_rfl) (by kernel_rfl) fun a _ h => (m29q k a).trans h

noncomputable def m37A : Anns := tabA [(5, { keep := [0, 1, 2, 7] })]
noncomputable def m37E (k : Nat) : Env := { P := Try.prog, k := k, G := tabG [], GB := tabGB [], GG := tabGG [] }
noncomputable def m37c (p : List Bool) : Code := sub p (bodyOf Try.f37)
noncomputable def m37I (k : Nat) : Inl Bool := inlOf (m37E k) (only 37 m37A) 3
noncomputable def m37K0 (M : Cut Bool) (k : Nat) : Exit → St → Option Bool := seqK (normAt 0 m37A false (m37c [true])) (cutK M m37A (m37c [true]) fun s => evC (m37E k) M (m37I k) 0 m37A (m37c [true]) s (retK Try.prog Try.f37 [.leaf (.val .bool)])) (retK Try.prog Try.f37 [.leaf (.val .bool)])
noncomputable def m37K1 (M : Cut Bool) (k : Nat) : Exit → St → Option Bool := seqK (normAt 0 m37A false (m37c [true, true])) (cutK M m37A (m37c [true, true]) fun s => evC (m37E k) M (m37I k) 0 m37A (m37c [true, true]) s (retK Try.prog Try.f37 [.leaf (.val .bool)])) (retK Try.prog Try.f37 [.leaf (.val .bool)])
noncomputable def m37K2 (M : Cut Bool) (k : Nat) : Exit → St → Option Bool := seqK (normAt 0 m37A false (m37c [true, false, true])) (cutK M m37A (m37c [true, false, true]) fun s => evC (m37E k) M (m37I k) 0 m37A (m37c [true, false, true]) s (m37K1 M k)) (m37K1 M k)
noncomputable def m37K3 (M : Cut Bool) (k : Nat) : Exit → St → Option Bool := blockK 0 (m37K1 M k)
noncomputable def m37K4 (M : Cut Bool) (k : Nat) (L5 : St → Option Bool) : Exit → St → Option Bool := seqK (normAt 0 m37A true (m37c [true, false, true, true, true])) L5 (m37K3 M k)
noncomputable def m37K5 (M : Cut Bool) (k : Nat) (L5 : St → Option Bool) : Exit → St → Option Bool := seqK (normAt 0 m37A false (m37c [true, false, true, true, true, true])) (cutK M m37A (m37c [true, false, true, true, true, true]) fun s => evC (m37E k) M (m37I k) 0 m37A (m37c [true, false, true, true, true, true]) s (m37K4 M k L5)) (m37K4 M k L5)
noncomputable def m37K6 (M : Cut Bool) (k : Nat) (L5 : St → Option Bool) : Exit → St → Option Bool := seqK (normAt 0 m37A false (m37c [true, false, true, true, true, false, true])) (cutK M m37A (m37c [true, false, true, true, true, false, true]) fun s => evC (m37E k) M (m37I k) 0 m37A (m37c [true, false, true, true, true, false, true]) s (m37K5 M k L5)) (m37K5 M k L5)
noncomputable def m37K7 (M : Cut Bool) (k : Nat) (L5 : St → Option Bool) : Exit → St → Option Bool := seqK (normAt 0 m37A false (m37c [true, false, true, true, true, true, true])) (cutK M m37A (m37c [true, false, true, true, true, true, true]) fun s => evC (m37E k) M (m37I k) 0 m37A (m37c [true, false, true, true, true, true, true]) s (m37K4 M k L5)) (m37K4 M k L5)
noncomputable def m37K8 (M : Cut Bool) (k : Nat) (L5 : St → Option Bool) : Exit → St → Option Bool := blockK 1 (m37K7 M k L5)
noncomputable def m37K9 (M : Cut Bool) (k : Nat) (L5 : St → Option Bool) : Exit → St → Option Bool := seqK (normAt 0 m37A false (m37c [true, false, true, true, true, true, false, true, true])) (cutK M m37A (m37c [true, false, true, true, true, true, false, true, true]) fun s => evC (m37E k) M (m37I k) 0 m37A (m37c [true, false, true, true, true, true, false, true, true]) s (m37K8 M k L5)) (m37K8 M k L5)
noncomputable def m37K10 (M : Cut Bool) (k : Nat) (L5 : St → Option Bool) : Exit → St → Option Bool := seqK (normAt 0 m37A false (m37c [true, false, true, true, true, true, false, true, true, false, true])) (cutK M m37A (m37c [true, false, true, true, true, true, false, true, true, false, true]) fun s => evC (m37E k) M (m37I k) 0 m37A (m37c [true, false, true, true, true, true, false, true, true, false, true]) s (m37K8 M k L5)) (m37K8 M k L5)
noncomputable def m37K11 (M : Cut Bool) (k : Nat) : Exit → St → Option Bool := seqK (normAt 0 m37A false (m37c [true, true, true])) (cutK M m37A (m37c [true, true, true]) fun s => evC (m37E k) M (m37I k) 0 m37A (m37c [true, true, true]) s (retK Try.prog Try.f37 [.leaf (.val .bool)])) (retK Try.prog Try.f37 [.leaf (.val .bool)])
noncomputable def m37S5 (t0 : List Int) (t1 : Int) (t2 : Int) (t7 : Int) : St := { n := 28, tm := slots [(0, .row (.int .i64) t0), (1, .int .i64 t1), (2, .int .i64 t2), (7, .int .i64 t7)], tab := blks [], nx := 0 }

noncomputable def m37X (X5 : List Int → Int → Int → Int → Option Bool) (k : Nat) (p0 : (List Int)) (p1 : Int) (p2 : Int) : Option Bool := X5 p0 p1 p2 (0)

theorem m37x (M : Cut Bool) (k : Nat) (p0 : (List Int)) (p1 : Int) (p2 : Int) : evC (m37E k) M (m37I k) 0 m37A (m37c []) (stAt Try.f37 (argSs [.leaf (.val (.row (.int .i64))), .leaf (.val (.int .i64)), .leaf (.val (.int .i64))] (p0, p1, p2)) (fun _ => none) 0) (retK Try.prog Try.f37 [.leaf (.val .bool)]) = m37X (fun t0' t1' t2' t7' => loopN (normAt 0 m37A true (m37c [true, false, true, true, true])) (fun K s => evC (m37E k) M (m37I k) 0 m37A (m37c [true, false, true, true, true]) s K) (m37K3 M k) k (m37S5 t0' t1' t2' t7')) k p0 p1 p2 := by kernel_rfl

noncomputable def m37X5 (L5 : List Int → Int → Int → Int → Option Bool) (k : Nat) (t0 : List Int) (t1 : Int) (t2 : Int) (t7 : Int) : Option Bool := (if ltI t7 (↑(List.length t0) : Int) = true then (if leI 0 t7 = true then (if ltI t7 (↑(List.length t0) : Int) = true then (if ltI (List.getD t0 (Int.toNat t7) 0) t1 = true then some (false) else (if leI 0 t7 = true then (if ltI t7 (↑(List.length t0) : Int) = true then (if ltI t2 (List.getD t0 (Int.toNat t7) 0) = true then some (false) else L5 t0 t1 t2 (wr IntKind.i64 (t7 + 1))) else none) else none)) else none) else none) else some (true))

theorem m37x5 (M : Cut Bool) (k : Nat) (L5 : St → Option Bool) (t0 : List Int) (t1 : Int) (t2 : Int) (t7 : Int) : evC (m37E k) M (m37I k) 0 m37A (m37c [true, false, true, true, true]) (m37S5 t0 t1 t2 t7) (seqK (normAt 0 m37A true (m37c [true, false, true, true, true])) L5 (m37K3 M k)) = m37X5 (fun t0' t1' t2' t7' => L5 (m37S5 t0' t1' t2' t7')) k t0 t1 t2 t7 := by kernel_rfl

noncomputable def m37F5 (k : Nat) : Nat → List Int → Int → Int → Int → Option Bool
  | 0, _, _, _, _ => none
  | j + 1, t0, t1, t2, t7 => m37X5 (m37F5 k j) k t0 t1 t2 t7

theorem m37q5 (k : Nat) : ∀ (j : Nat) (t0 : List Int) (t1 : Int) (t2 : Int) (t7 : Int), loopN (normAt 0 m37A true (m37c [true, false, true, true, true])) (fun K s => evC (m37E k) (fun _ f => f) (m37I k) 0 m37A (m37c [true, false, true, true, true]) s K) (m37K3 (fun _ f => f) k) j (m37S5 t0 t1 t2 t7) = m37F5 k j t0 t1 t2 t7
  | 0, _, _, _, _ => rfl
  | j + 1, t0, t1, t2, t7 => by
    have e0 : m37F5 k j = (fun t0' t1' t2' t7' => loopN (normAt 0 m37A true (m37c [true, false, true, true, true])) (fun K s => evC (m37E k) (fun _ f => f) (m37I k) 0 m37A (m37c [true, false, true, true, true]) s K) (m37K3 (fun _ f => f) k) j (m37S5 t0' t1' t2' t7')) := funext fun t0' => funext fun t1' => funext fun t2' => funext fun t7' => (m37q5 k j t0' t1' t2' t7').symm
    show _ = m37X5 (m37F5 k j) k t0 t1 t2 t7
    rw [e0]
    exact m37x5 (fun _ f => f) k (loopN (normAt 0 m37A true (m37c [true, false, true, true, true])) (fun K s => evC (m37E k) (fun _ f => f) (m37I k) 0 m37A (m37c [true, false, true, true, true]) s K) (m37K3 (fun _ f => f) k) j) t0 t1 t2 t7

noncomputable def m37F (k : Nat) (p0 : (List Int)) (p1 : Int) (p2 : Int) : Option Bool := m37X (m37F5 k k) k p0 p1 p2

theorem m37q (k : Nat) (p0 : (List Int)) (p1 : Int) (p2 : Int) : evC (m37E k) (fun _ f => f) (m37I k) 0 m37A (m37c []) (stAt Try.f37 (argSs [.leaf (.val (.row (.int .i64))), .leaf (.val (.int .i64)), .leaf (.val (.int .i64))] (p0, p1, p2)) (fun _ => none) 0) (retK Try.prog Try.f37 [.leaf (.val .bool)]) = m37F k p0 p1 p2 := by
    have e5 : m37F5 k k = (fun t0' t1' t2' t7' => loopN (normAt 0 m37A true (m37c [true, false, true, true, true])) (fun K s => evC (m37E k) (fun _ f => f) (m37I k) 0 m37A (m37c [true, false, true, true, true]) s K) (m37K3 (fun _ f => f) k) k (m37S5 t0' t1' t2' t7')) := funext fun t0' => funext fun t1' => funext fun t2' => funext fun t7' => (m37q5 k k t0' t1' t2' t7').symm
    show _ = m37X (m37F5 k k) k p0 p1 p2
    rw [e5]
    exact m37x (fun _ f => f) k p0 p1 p2

noncomputable def m37sp : Spec := { ps := [.leaf (.val (.row (.int .i64))), .leaf (.val (.int .i64)), .leaf (.val (.int .i64))], rs := [.leaf (.val .bool)], f := fun k a => m37F k a.1 a.2.1 a.2.2 }

theorem m37ok (k : Nat) : EnvOk (m37E k) := envOk_of (l := []) (lB := []) (lG := []) progNames progMixed rfl rfl rfl (.nil) (.nil) (.nil)

theorem m37con (k : Nat) : Contract Try.prog k 37 m37sp := contract_of (E := m37E k) (m37ok k) (A := only 37 m37A) (d := 3) (c := m37c []) (by kernel_rfl) (by kernel_rfl) fun a _ h => (m37q k a.1 a.2.1 a.2.2).trans h

noncomputable def m30A : Anns := tabA [(15, { keep := [0, 4, 5] }), (20, { keep := [4] })]
noncomputable def m30E (k : Nat) : Env := { P := Try.prog, k := k, G := tabG [(37, m37sp)], GB := tabGB [], GG := tabGG [] }
noncomputable def m30c (p : List Bool) : Code := sub p (bodyOf Try.f30)
noncomputable def m30I (k : Nat) : Inl ((List Int) × Int) := inlOf (m30E k) (only 30 m30A) 3
noncomputable def m30K0 (M : Cut ((List Int) × Int)) (k : Nat) : Exit → St → Option ((List Int) × Int) := seqK (normAt 0 m30A false (m30c [true])) (cutK M m30A (m30c [true]) fun s => evC (m30E k) M (m30I k) 0 m30A (m30c [true]) s (retK Try.prog Try.f30 [.leaf (.own (.int .u8) 5), .leaf (.val (.int .i64))])) (retK Try.prog Try.f30 [.leaf (.own (.int .u8) 5), .leaf (.val (.int .i64))])
noncomputable def m30K1 (M : Cut ((List Int) × Int)) (k : Nat) : Exit → St → Option ((List Int) × Int) := seqK (normAt 0 m30A false (m30c [true, true])) (cutK M m30A (m30c [true, true]) fun s => evC (m30E k) M (m30I k) 0 m30A (m30c [true, true]) s (retK Try.prog Try.f30 [.leaf (.own (.int .u8) 5), .leaf (.val (.int .i64))])) (retK Try.prog Try.f30 [.leaf (.own (.int .u8) 5), .leaf (.val (.int .i64))])
noncomputable def m30K2 (M : Cut ((List Int) × Int)) (k : Nat) : Exit → St → Option ((List Int) × Int) := seqK (normAt 0 m30A false (m30c [true, false, true])) (cutK M m30A (m30c [true, false, true]) fun s => evC (m30E k) M (m30I k) 0 m30A (m30c [true, false, true]) s (m30K1 M k)) (m30K1 M k)
noncomputable def m30K3 (M : Cut ((List Int) × Int)) (k : Nat) : Exit → St → Option ((List Int) × Int) := seqK (normAt 0 m30A false (m30c [true, false, true, false, true])) (cutK M m30A (m30c [true, false, true, false, true]) fun s => evC (m30E k) M (m30I k) 0 m30A (m30c [true, false, true, false, true]) s (m30K1 M k)) (m30K1 M k)
noncomputable def m30K4 (M : Cut ((List Int) × Int)) (k : Nat) : Exit → St → Option ((List Int) × Int) := seqK (normAt 0 m30A false (m30c [true, true, true])) (cutK M m30A (m30c [true, true, true]) fun s => evC (m30E k) M (m30I k) 0 m30A (m30c [true, true, true]) s (retK Try.prog Try.f30 [.leaf (.own (.int .u8) 5), .leaf (.val (.int .i64))])) (retK Try.prog Try.f30 [.leaf (.own (.int .u8) 5), .leaf (.val (.int .i64))])
noncomputable def m30K5 (M : Cut ((List Int) × Int)) (k : Nat) : Exit → St → Option ((List Int) × Int) := seqK (normAt 0 m30A false (m30c [true, true, false, true])) (cutK M m30A (m30c [true, true, false, true]) fun s => evC (m30E k) M (m30I k) 0 m30A (m30c [true, true, false, true]) s (m30K4 M k)) (m30K4 M k)
noncomputable def m30K6 (M : Cut ((List Int) × Int)) (k : Nat) : Exit → St → Option ((List Int) × Int) := seqK (normAt 0 m30A false (m30c [true, true, false, true, false, true])) (cutK M m30A (m30c [true, true, false, true, false, true]) fun s => evC (m30E k) M (m30I k) 0 m30A (m30c [true, true, false, true, false, true]) s (m30K4 M k)) (m30K4 M k)
noncomputable def m30K7 (M : Cut ((List Int) × Int)) (k : Nat) : Exit → St → Option ((List Int) × Int) := seqK (normAt 0 m30A false (m30c [true, true, true, true])) (cutK M m30A (m30c [true, true, true, true]) fun s => evC (m30E k) M (m30I k) 0 m30A (m30c [true, true, true, true]) s (retK Try.prog Try.f30 [.leaf (.own (.int .u8) 5), .leaf (.val (.int .i64))])) (retK Try.prog Try.f30 [.leaf (.own (.int .u8) 5), .leaf (.val (.int .i64))])
noncomputable def m30K8 (M : Cut ((List Int) × Int)) (k : Nat) : Exit → St → Option ((List Int) × Int) := seqK (normAt 0 m30A false (m30c [true, true, true, true, true])) (cutK M m30A (m30c [true, true, true, true, true]) fun s => evC (m30E k) M (m30I k) 0 m30A (m30c [true, true, true, true, true]) s (retK Try.prog Try.f30 [.leaf (.own (.int .u8) 5), .leaf (.val (.int .i64))])) (retK Try.prog Try.f30 [.leaf (.own (.int .u8) 5), .leaf (.val (.int .i64))])
noncomputable def m30K9 (M : Cut ((List Int) × Int)) (k : Nat) : Exit → St → Option ((List Int) × Int) := seqK (normAt 0 m30A false (m30c [true, true, true, true, false, true])) (cutK M m30A (m30c [true, true, true, true, false, true]) fun s => evC (m30E k) M (m30I k) 0 m30A (m30c [true, true, true, true, false, true]) s (m30K8 M k)) (m30K8 M k)
noncomputable def m30K10 (M : Cut ((List Int) × Int)) (k : Nat) : Exit → St → Option ((List Int) × Int) := blockK 0 (m30K8 M k)
noncomputable def m30K11 (M : Cut ((List Int) × Int)) (k : Nat) (L15 : St → Option ((List Int) × Int)) : Exit → St → Option ((List Int) × Int) := seqK (normAt 0 m30A true (m30c [true, true, true, true, false, true, true, true])) L15 (m30K10 M k)
noncomputable def m30K12 (M : Cut ((List Int) × Int)) (k : Nat) (L15 : St → Option ((List Int) × Int)) : Exit → St → Option ((List Int) × Int) := seqK (normAt 0 m30A false (m30c [true, true, true, true, false, true, true, true, true])) (cutK M m30A (m30c [true, true, true, true, false, true, true, true, true]) fun s => evC (m30E k) M (m30I k) 0 m30A (m30c [true, true, true, true, false, true, true, true, true]) s (m30K11 M k L15)) (m30K11 M k L15)
noncomputable def m30K13 (M : Cut ((List Int) × Int)) (k : Nat) (L15 : St → Option ((List Int) × Int)) : Exit → St → Option ((List Int) × Int) := seqK (normAt 0 m30A false (m30c [true, true, true, true, false, true, true, true, false, true])) (cutK M m30A (m30c [true, true, true, true, false, true, true, true, false, true]) fun s => evC (m30E k) M (m30I k) 0 m30A (m30c [true, true, true, true, false, true, true, true, false, true]) s (m30K12 M k L15)) (m30K12 M k L15)
noncomputable def m30K14 (M : Cut ((List Int) × Int)) (k : Nat) (L15 : St → Option ((List Int) × Int)) : Exit → St → Option ((List Int) × Int) := seqK (normAt 0 m30A false (m30c [true, true, true, true, false, true, true, true, true, true])) (cutK M m30A (m30c [true, true, true, true, false, true, true, true, true, true]) fun s => evC (m30E k) M (m30I k) 0 m30A (m30c [true, true, true, true, false, true, true, true, true, true]) s (m30K11 M k L15)) (m30K11 M k L15)
noncomputable def m30K15 (M : Cut ((List Int) × Int)) (k : Nat) (L15 : St → Option ((List Int) × Int)) : Exit → St → Option ((List Int) × Int) := blockK 1 (m30K14 M k L15)
noncomputable def m30K16 (M : Cut ((List Int) × Int)) (k : Nat) : Exit → St → Option ((List Int) × Int) := seqK (normAt 0 m30A false (m30c [true, true, true, true, true, true])) (cutK M m30A (m30c [true, true, true, true, true, true]) fun s => evC (m30E k) M (m30I k) 0 m30A (m30c [true, true, true, true, true, true]) s (retK Try.prog Try.f30 [.leaf (.own (.int .u8) 5), .leaf (.val (.int .i64))])) (retK Try.prog Try.f30 [.leaf (.own (.int .u8) 5), .leaf (.val (.int .i64))])
noncomputable def m30S15 (t0 : List Int) (t5 : Int) (b0 : List Int) : St := { n := 45, tm := slots [(0, .row (.int .i64) t0), (4, .own 0), (5, .int .i64 t5)], tab := blks [some (.row true (.int .u8) 5 b0)], nx := 1 }
noncomputable def m30S20 (b0 : List Int) : St := { n := 45, tm := slots [(4, .own 0)], tab := blks [some (.row true (.int .u8) 5 b0)], nx := 1 }

noncomputable def m30X (X15 : List Int → Int → List Int → Option ((List Int) × Int)) (k : Nat) (p0 : (List Int)) : Option ((List Int) × Int) := (if ltI 32768 (↑(List.length p0) : Int) = true then some (([], 2)) else (if (!eqI 8 0) = true then (if (!eqI (Int.tmod (↑(List.length p0) : Int) 8) 0) = true then some (([], 2)) else (Option.bind (m37F k p0 0 1) fun (c3 : Bool) => (if (!c3) = true then some (([], 1)) else (if (!eqI 8 0) = true then (if leI 0 (wr IntKind.i64 (Int.tdiv (↑(List.length p0) : Int) 8)) = true then (if leI (wr IntKind.i64 (Int.tdiv (↑(List.length p0) : Int) 8)) (wr IntKind.i64 (Int.tdiv (↑(List.length p0) : Int) 8)) =
  true then (if leI (wr IntKind.i64 (Int.tdiv (↑(List.length p0) : Int) 8) * (↑1 : Int)) 140737488355328 = true then (if leI (wr IntKind.i64 (Int.tdiv (↑(List.length p0) : Int) 8)) 9223372036854775807 = true then X15 p0 (0) (List.replicate (Int.toNat (wr IntKind.i64 (Int.tdiv (↑(List.length p0) : Int) 8))) 0) else none) else none) else none) else none) else none)))) else none))

theorem m30x (M : Cut ((List Int) × Int)) (k : Nat) (p0 : (List Int)) : evC (m30E k) M (m30I k) 0 m30A (m30c []) (stAt Try.f30 (argSs [.leaf (.val (.row (.int .i64)))] p0) (fun _ => none) 0) (retK Try.prog Try.f30 [.leaf (.own (.int .u8) 5), .leaf (.val (.int .i64))]) = m30X (fun t0' t5' b0' => loopN (normAt 0 m30A true (m30c [true, true, true, true, false, true, true, true])) (fun K s => evC (m30E k) M (m30I k) 0 m30A (m30c [true, true, true, true, false, true, true, true]) s K) (m30K10 M k) k (m30S15 t0' t5' b0')) k p0 := by kernel_rfl

noncomputable def m30X15 (X20 : List Int → Option ((List Int) × Int)) (L15 : List Int → Int → List Int → Option ((List Int) × Int)) (k : Nat) (t0 : List Int) (t5 : Int) (b0 : List Int) : Option ((List Int) × Int) := (if ltI t5 (↑(List.length t0) : Int) = true then (if (!eqI 8 0) = true then (if (!eqI 8 0) = true then (if leI 0 (wr IntKind.i64 (Int.tdiv t5 8)) = true then (if ltI (wr IntKind.i64 (Int.tdiv t5 8)) (↑(List.length b0) : Int) = true then (if leI 0 1 = true then (if leI 0 t5 = true then (if ltI t5 (↑(List.length t0) : Int) = true then (if leI 0 (wr IntKind.i64 (Int.tdiv t5 8)) = true then (if ltI (wr IntKind.i64 (Int.tdiv t5 8)) (↑(List.length b0) : Int) = true then L15 t0 (wr IntKind.i64 (t5 + 1)) (List.set b0 (Int.toNat (wr IntKind.i64 (Int.tdiv t5 8)))
  (bits BinOp.or IntKind.u8 (wr IntKind.u8 (List.getD b0 (Int.toNat (wr IntKind.i64 (Int.tdiv t5 8))) 0 * 2))
    (wr IntKind.u8 (List.getD t0 (Int.toNat t5) 0)))) else none) else none) else none) else none) else none) else none) else none) else none) else none) else X20 b0)

theorem m30x15 (M : Cut ((List Int) × Int)) (k : Nat) (L15 : St → Option ((List Int) × Int)) (t0 : List Int) (t5 : Int) (b0 : List Int) : evC (m30E k) M (m30I k) 0 m30A (m30c [true, true, true, true, false, true, true, true]) (m30S15 t0 t5 b0) (seqK (normAt 0 m30A true (m30c [true, true, true, true, false, true, true, true])) L15 (m30K10 M k)) = m30X15 (fun b0' => M 20 (fun s => evC (m30E k) M (m30I k) 0 m30A (m30c [true, true, true, true, true]) s (retK Try.prog Try.f30 [.leaf (.own (.int .u8) 5), .leaf (.val (.int .i64))])) (m30S20 b0')) (fun t0' t5' b0' => L15 (m30S15 t0' t5' b0')) k t0 t5 b0 := by kernel_rfl

noncomputable def m30X20 (k : Nat) (b0 : List Int) : Option ((List Int) × Int) := some ((b0, 0))

theorem m30x20 (M : Cut ((List Int) × Int)) (k : Nat) (b0 : List Int) : evC (m30E k) M (m30I k) 0 m30A (m30c [true, true, true, true, true]) (m30S20 b0) (retK Try.prog Try.f30 [.leaf (.own (.int .u8) 5), .leaf (.val (.int .i64))]) = m30X20 k b0 := by kernel_rfl

noncomputable def m30F20 (k : Nat) (b0 : List Int) : Option ((List Int) × Int) := m30X20 k b0

theorem m30q20 (k : Nat) (b0 : List Int) : evC (m30E k) (fun _ f => f) (m30I k) 0 m30A (m30c [true, true, true, true, true]) (m30S20 b0) (retK Try.prog Try.f30 [.leaf (.own (.int .u8) 5), .leaf (.val (.int .i64))]) = m30F20 k b0 := by
    show _ = m30X20 k b0
    exact m30x20 (fun _ f => f) k b0

noncomputable def m30F15 (k : Nat) : Nat → List Int → Int → List Int → Option ((List Int) × Int)
  | 0, _, _, _ => none
  | j + 1, t0, t5, b0 => m30X15 (m30F20 k) (m30F15 k j) k t0 t5 b0

theorem m30q15 (k : Nat) : ∀ (j : Nat) (t0 : List Int) (t5 : Int) (b0 : List Int), loopN (normAt 0 m30A true (m30c [true, true, true, true, false, true, true, true])) (fun K s => evC (m30E k) (fun _ f => f) (m30I k) 0 m30A (m30c [true, true, true, true, false, true, true, true]) s K) (m30K10 (fun _ f => f) k) j (m30S15 t0 t5 b0) = m30F15 k j t0 t5 b0
  | 0, _, _, _ => rfl
  | j + 1, t0, t5, b0 => by
    have e0 : m30F15 k j = (fun t0' t5' b0' => loopN (normAt 0 m30A true (m30c [true, true, true, true, false, true, true, true])) (fun K s => evC (m30E k) (fun _ f => f) (m30I k) 0 m30A (m30c [true, true, true, true, false, true, true, true]) s K) (m30K10 (fun _ f => f) k) j (m30S15 t0' t5' b0')) := funext fun t0' => funext fun t5' => funext fun b0' => (m30q15 k j t0' t5' b0').symm
    have e20 : m30F20 k = (fun b0' => evC (m30E k) (fun _ f => f) (m30I k) 0 m30A (m30c [true, true, true, true, true]) (m30S20 b0') (retK Try.prog Try.f30 [.leaf (.own (.int .u8) 5), .leaf (.val (.int .i64))])) := funext fun b0' => (m30q20 k b0').symm
    show _ = m30X15 (m30F20 k) (m30F15 k j) k t0 t5 b0
    rw [e0, e20]
    exact m30x15 (fun _ f => f) k (loopN (normAt 0 m30A true (m30c [true, true, true, true, false, true, true, true])) (fun K s => evC (m30E k) (fun _ f => f) (m30I k) 0 m30A (m30c [true, true, true, true, false, true, true, true]) s K) (m30K10 (fun _ f => f) k) j) t0 t5 b0

noncomputable def m30F (k : Nat) (p0 : (List Int)) : Option ((List Int) × Int) := m30X (m30F15 k k) k p0

theorem m30q (k : Nat) (p0 : (List Int)) : evC (m30E k) (fun _ f => f) (m30I k) 0 m30A (m30c []) (stAt Try.f30 (argSs [.leaf (.val (.row (.int .i64)))] p0) (fun _ => none) 0) (retK Try.prog Try.f30 [.leaf (.own (.int .u8) 5), .leaf (.val (.int .i64))]) = m30F k p0 := by
    have e15 : m30F15 k k = (fun t0' t5' b0' => loopN (normAt 0 m30A true (m30c [true, true, true, true, false, true, true, true])) (fun K s => evC (m30E k) (fun _ f => f) (m30I k) 0 m30A (m30c [true, true, true, true, false, true, true, true]) s K) (m30K10 (fun _ f => f) k) k (m30S15 t0' t5' b0')) := funext fun t0' => funext fun t5' => funext fun b0' => (m30q15 k k t0' t5' b0').symm
    show _ = m30X (m30F15 k k) k p0
    rw [e15]
    exact m30x (fun _ f => f) k p0

noncomputable def m30sp : Spec := { ps := [.leaf (.val (.row (.int .i64)))], rs := [.leaf (.own (.int .u8) 5), .leaf (.val (.int .i64))], f := fun k a => m30F k a }

theorem m30ok (k : Nat) : EnvOk (m30E k) := envOk_of (l := [(37, m37sp)]) (lB := []) (lG := []) progNames progMixed rfl rfl rfl (.cons ⟨m37con k, Try.f37, by kernel_rfl, by kernel_rfl⟩ (.nil)) (.nil) (.nil)

theorem m30con (k : Nat) : Contract Try.prog k 30 m30sp := contract_of (E := m30E k) (m30ok k) (A := only 30 m30A) (d := 3) (c := m30c []) (by kernel_rfl) (by kernel_rfl) fun a _ h => (m30q k a).trans h

noncomputable def m31A : Anns := tabA []
noncomputable def m31E (k : Nat) : Env := { P := Try.prog, k := k, G := tabG [(36, m36sp)], GB := tabGB [], GG := tabGG [] }
noncomputable def m31c (p : List Bool) : Code := sub p (bodyOf Try.f31)
noncomputable def m31I (k : Nat) : Inl ((List Int) × Int) := inlOf (m31E k) (only 31 m31A) 3
noncomputable def m31K0 (M : Cut ((List Int) × Int)) (k : Nat) : Exit → St → Option ((List Int) × Int) := seqK (normAt 0 m31A false (m31c [true])) (cutK M m31A (m31c [true]) fun s => evC (m31E k) M (m31I k) 0 m31A (m31c [true]) s (retK Try.prog Try.f31 [.leaf (.own (.int .u8) 5), .leaf (.val (.int .i64))])) (retK Try.prog Try.f31 [.leaf (.own (.int .u8) 5), .leaf (.val (.int .i64))])
noncomputable def m31K1 (M : Cut ((List Int) × Int)) (k : Nat) : Exit → St → Option ((List Int) × Int) := seqK (normAt 0 m31A false (m31c [true, true])) (cutK M m31A (m31c [true, true]) fun s => evC (m31E k) M (m31I k) 0 m31A (m31c [true, true]) s (retK Try.prog Try.f31 [.leaf (.own (.int .u8) 5), .leaf (.val (.int .i64))])) (retK Try.prog Try.f31 [.leaf (.own (.int .u8) 5), .leaf (.val (.int .i64))])

noncomputable def m31X (k : Nat) (p0 : (List Int)) : Option ((List Int) × Int) := (Option.bind (m36F k p0 4) fun (c3 : ((List Int) × Int)) => some ((Prod.fst c3, Prod.snd c3)))

theorem m31x (M : Cut ((List Int) × Int)) (k : Nat) (p0 : (List Int)) : evC (m31E k) M (m31I k) 0 m31A (m31c []) (stAt Try.f31 (argSs [.leaf (.val (.row (.int .i64)))] p0) (fun _ => none) 0) (retK Try.prog Try.f31 [.leaf (.own (.int .u8) 5), .leaf (.val (.int .i64))]) = m31X k p0 := by kernel_rfl

noncomputable def m31F (k : Nat) (p0 : (List Int)) : Option ((List Int) × Int) := m31X k p0

theorem m31q (k : Nat) (p0 : (List Int)) : evC (m31E k) (fun _ f => f) (m31I k) 0 m31A (m31c []) (stAt Try.f31 (argSs [.leaf (.val (.row (.int .i64)))] p0) (fun _ => none) 0) (retK Try.prog Try.f31 [.leaf (.own (.int .u8) 5), .leaf (.val (.int .i64))]) = m31F k p0 := by
    show _ = m31X k p0
    exact m31x (fun _ f => f) k p0

noncomputable def m31sp : Spec := { ps := [.leaf (.val (.row (.int .i64)))], rs := [.leaf (.own (.int .u8) 5), .leaf (.val (.int .i64))], f := fun k a => m31F k a }

theorem m31ok (k : Nat) : EnvOk (m31E k) := envOk_of (l := [(36, m36sp)]) (lB := []) (lG := []) progNames progMixed rfl rfl rfl (.cons ⟨m36con k, Try.f36, by kernel_rfl, by kernel_rfl⟩ (.nil)) (.nil) (.nil)

theorem m31con (k : Nat) : Contract Try.prog k 31 m31sp := contract_of (E := m31E k) (m31ok k) (A := only 31 m31A) (d := 3) (c := m31c []) (by kernel_rfl) (by kernel_rfl) fun a _ h => (m31q k a).trans h

noncomputable def m32A : Anns := tabA [(15, { keep := [0, 4, 5], mat := [(4, (.int .u8), 5)] }), (20, { keep := [4] })]
noncomputable def m32E (k : Nat) : Env := { P := Try.prog, k := k, G := tabG [(37, m37sp)], GB := tabGB [], GG := tabGG [] }
noncomputable def m32c (p : List Bool) : Code := sub p (bodyOf Try.f32)
noncomputable def m32I (k : Nat) : Inl ((List Int) × Int) := inlOf (m32E k) (only 32 m32A) 3
noncomputable def m32K0 (M : Cut ((List Int) × Int)) (k : Nat) : Exit → St → Option ((List Int) × Int) := seqK (normAt 0 m32A false (m32c [true])) (cutK M m32A (m32c [true]) fun s => evC (m32E k) M (m32I k) 0 m32A (m32c [true]) s (retK Try.prog Try.f32 [.leaf (.own (.int .u8) 5), .leaf (.val (.int .i64))])) (retK Try.prog Try.f32 [.leaf (.own (.int .u8) 5), .leaf (.val (.int .i64))])
noncomputable def m32K1 (M : Cut ((List Int) × Int)) (k : Nat) : Exit → St → Option ((List Int) × Int) := seqK (normAt 0 m32A false (m32c [true, true])) (cutK M m32A (m32c [true, true]) fun s => evC (m32E k) M (m32I k) 0 m32A (m32c [true, true]) s (retK Try.prog Try.f32 [.leaf (.own (.int .u8) 5), .leaf (.val (.int .i64))])) (retK Try.prog Try.f32 [.leaf (.own (.int .u8) 5), .leaf (.val (.int .i64))])
noncomputable def m32K2 (M : Cut ((List Int) × Int)) (k : Nat) : Exit → St → Option ((List Int) × Int) := seqK (normAt 0 m32A false (m32c [true, false, true])) (cutK M m32A (m32c [true, false, true]) fun s => evC (m32E k) M (m32I k) 0 m32A (m32c [true, false, true]) s (m32K1 M k)) (m32K1 M k)
noncomputable def m32K3 (M : Cut ((List Int) × Int)) (k : Nat) : Exit → St → Option ((List Int) × Int) := seqK (normAt 0 m32A false (m32c [true, false, true, false, true])) (cutK M m32A (m32c [true, false, true, false, true]) fun s => evC (m32E k) M (m32I k) 0 m32A (m32c [true, false, true, false, true]) s (m32K1 M k)) (m32K1 M k)
noncomputable def m32K4 (M : Cut ((List Int) × Int)) (k : Nat) : Exit → St → Option ((List Int) × Int) := seqK (normAt 0 m32A false (m32c [true, true, true])) (cutK M m32A (m32c [true, true, true]) fun s => evC (m32E k) M (m32I k) 0 m32A (m32c [true, true, true]) s (retK Try.prog Try.f32 [.leaf (.own (.int .u8) 5), .leaf (.val (.int .i64))])) (retK Try.prog Try.f32 [.leaf (.own (.int .u8) 5), .leaf (.val (.int .i64))])
noncomputable def m32K5 (M : Cut ((List Int) × Int)) (k : Nat) : Exit → St → Option ((List Int) × Int) := seqK (normAt 0 m32A false (m32c [true, true, false, true])) (cutK M m32A (m32c [true, true, false, true]) fun s => evC (m32E k) M (m32I k) 0 m32A (m32c [true, true, false, true]) s (m32K4 M k)) (m32K4 M k)
noncomputable def m32K6 (M : Cut ((List Int) × Int)) (k : Nat) : Exit → St → Option ((List Int) × Int) := seqK (normAt 0 m32A false (m32c [true, true, false, true, false, true])) (cutK M m32A (m32c [true, true, false, true, false, true]) fun s => evC (m32E k) M (m32I k) 0 m32A (m32c [true, true, false, true, false, true]) s (m32K4 M k)) (m32K4 M k)
noncomputable def m32K7 (M : Cut ((List Int) × Int)) (k : Nat) : Exit → St → Option ((List Int) × Int) := seqK (normAt 0 m32A false (m32c [true, true, true, true])) (cutK M m32A (m32c [true, true, true, true]) fun s => evC (m32E k) M (m32I k) 0 m32A (m32c [true, true, true, true]) s (retK Try.prog Try.f32 [.leaf (.own (.int .u8) 5), .leaf (.val (.int .i64))])) (retK Try.prog Try.f32 [.leaf (.own (.int .u8) 5), .leaf (.val (.int .i64))])
noncomputable def m32K8 (M : Cut ((List Int) × Int)) (k : Nat) : Exit → St → Option ((List Int) × Int) := seqK (normAt 0 m32A false (m32c [true, true, true, true, true])) (cutK M m32A (m32c [true, true, true, true, true]) fun s => evC (m32E k) M (m32I k) 0 m32A (m32c [true, true, true, true, true]) s (retK Try.prog Try.f32 [.leaf (.own (.int .u8) 5), .leaf (.val (.int .i64))])) (retK Try.prog Try.f32 [.leaf (.own (.int .u8) 5), .leaf (.val (.int .i64))])
noncomputable def m32K9 (M : Cut ((List Int) × Int)) (k : Nat) : Exit → St → Option ((List Int) × Int) := seqK (normAt 0 m32A false (m32c [true, true, true, true, false, true])) (cutK M m32A (m32c [true, true, true, true, false, true]) fun s => evC (m32E k) M (m32I k) 0 m32A (m32c [true, true, true, true, false, true]) s (m32K8 M k)) (m32K8 M k)
noncomputable def m32K10 (M : Cut ((List Int) × Int)) (k : Nat) : Exit → St → Option ((List Int) × Int) := blockK 0 (m32K8 M k)
noncomputable def m32K11 (M : Cut ((List Int) × Int)) (k : Nat) (L15 : St → Option ((List Int) × Int)) : Exit → St → Option ((List Int) × Int) := seqK (normAt 0 m32A true (m32c [true, true, true, true, false, true, true, true])) L15 (m32K10 M k)
noncomputable def m32K12 (M : Cut ((List Int) × Int)) (k : Nat) (L15 : St → Option ((List Int) × Int)) : Exit → St → Option ((List Int) × Int) := seqK (normAt 0 m32A false (m32c [true, true, true, true, false, true, true, true, true])) (cutK M m32A (m32c [true, true, true, true, false, true, true, true, true]) fun s => evC (m32E k) M (m32I k) 0 m32A (m32c [true, true, true, true, false, true, true, true, true]) s (m32K11 M k L15)) (m32K11 M k L15)
noncomputable def m32K13 (M : Cut ((List Int) × Int)) (k : Nat) (L15 : St → Option ((List Int) × Int)) : Exit → St → Option ((List Int) × Int) := seqK (normAt 0 m32A false (m32c [true, true, true, true, false, true, true, true, false, true])) (cutK M m32A (m32c [true, true, true, true, false, true, true, true, false, true]) fun s => evC (m32E k) M (m32I k) 0 m32A (m32c [true, true, true, true, false, true, true, true, false, true]) s (m32K12 M k L15)) (m32K12 M k L15)
noncomputable def m32K14 (M : Cut ((List Int) × Int)) (k : Nat) (L15 : St → Option ((List Int) × Int)) : Exit → St → Option ((List Int) × Int) := seqK (normAt 0 m32A false (m32c [true, true, true, true, false, true, true, true, true, true])) (cutK M m32A (m32c [true, true, true, true, false, true, true, true, true, true]) fun s => evC (m32E k) M (m32I k) 0 m32A (m32c [true, true, true, true, false, true, true, true, true, true]) s (m32K11 M k L15)) (m32K11 M k L15)
noncomputable def m32K15 (M : Cut ((List Int) × Int)) (k : Nat) (L15 : St → Option ((List Int) × Int)) : Exit → St → Option ((List Int) × Int) := blockK 1 (m32K14 M k L15)
noncomputable def m32K16 (M : Cut ((List Int) × Int)) (k : Nat) : Exit → St → Option ((List Int) × Int) := seqK (normAt 0 m32A false (m32c [true, true, true, true, true, true])) (cutK M m32A (m32c [true, true, true, true, true, true]) fun s => evC (m32E k) M (m32I k) 0 m32A (m32c [true, true, true, true, true, true]) s (retK Try.prog Try.f32 [.leaf (.own (.int .u8) 5), .leaf (.val (.int .i64))])) (retK Try.prog Try.f32 [.leaf (.own (.int .u8) 5), .leaf (.val (.int .i64))])
noncomputable def m32S15 (t0 : List Int) (t5 : Int) (b0 : List Int) : St := { n := 40, tm := slots [(0, .row (.int .i64) t0), (4, .own 0), (5, .int .i64 t5)], tab := blks [some (.row true (.int .u8) 5 b0)], nx := 1 }
noncomputable def m32S20 (b0 : List Int) : St := { n := 40, tm := slots [(4, .own 0)], tab := blks [some (.row true (.int .u8) 5 b0)], nx := 1 }

noncomputable def m32X (X15 : List Int → Int → List Int → Option ((List Int) × Int)) (k : Nat) (p0 : (List Int)) : Option ((List Int) × Int) := (if ltI 32768 (↑(List.length p0) : Int) = true then some (([], 2)) else (if (!eqI 2 0) = true then (if (!eqI (Int.tmod (↑(List.length p0) : Int) 2) 0) = true then some (([], 2)) else (Option.bind (m37F k p0 0 15) fun (c3 : Bool) => (if (!c3) = true then some (([], 1)) else X15 p0 (0) ([])))) else none))

theorem m32x (M : Cut ((List Int) × Int)) (k : Nat) (p0 : (List Int)) : evC (m32E k) M (m32I k) 0 m32A (m32c []) (stAt Try.f32 (argSs [.leaf (.val (.row (.int .i64)))] p0) (fun _ => none) 0) (retK Try.prog Try.f32 [.leaf (.own (.int .u8) 5), .leaf (.val (.int .i64))]) = m32X (fun t0' t5' b0' => loopN (normAt 0 m32A true (m32c [true, true, true, true, false, true, true, true])) (fun K s => evC (m32E k) M (m32I k) 0 m32A (m32c [true, true, true, true, false, true, true, true]) s K) (m32K10 M k) k (m32S15 t0' t5' b0')) k p0 := by kernel_rfl

noncomputable def m32X15 (X20 : List Int → Option ((List Int) × Int)) (L15 : List Int → Int → List Int → Option ((List Int) × Int)) (k : Nat) (t0 : List Int) (t5 : Int) (b0 : List Int) : Option ((List Int) × Int) := (if ltI t5 (↑(List.length t0) : Int) = true then (if leI 0 t5 = true then (if ltI t5 (↑(List.length t0) : Int) = true then (if leI 0 4 = true then (if leI 0 (wr IntKind.i64 (t5 + 1)) = true then (if ltI (wr IntKind.i64 (t5 + 1)) (↑(List.length t0) : Int) = true then (if leI
    (↑((List.length b0 +
            List.length
              (List.set (List.replicate 1 0) 0
                (wr IntKind.u8
                  (bits BinOp.or IntKind.i64 (wr IntKind.i64 (List.getD t0 (Int.toNat t5) 0 * 16))
                    (List.getD t0 (Int.toNat (wr IntKind.i64 (t5 + 1))) 0))))) *
          1) :
      Int)
    140737488355328 =
  true then L15 t0 (wr IntKind.i64 (t5 + 2)) (b0 ++
  List.set (List.replicate 1 0) 0
    (wr IntKind.u8
      (bits BinOp.or IntKind.i64 (wr IntKind.i64 (List.getD t0 (Int.toNat t5) 0 * 16))
        (List.getD t0 (Int.toNat (wr IntKind.i64 (t5 + 1))) 0)))) else none) else none) else none) else none) else none) else none) else X20 b0)

theorem m32x15 (M : Cut ((List Int) × Int)) (k : Nat) (L15 : St → Option ((List Int) × Int)) (t0 : List Int) (t5 : Int) (b0 : List Int) : evC (m32E k) M (m32I k) 0 m32A (m32c [true, true, true, true, false, true, true, true]) (m32S15 t0 t5 b0) (seqK (normAt 0 m32A true (m32c [true, true, true, true, false, true, true, true])) L15 (m32K10 M k)) = m32X15 (fun b0' => M 20 (fun s => evC (m32E k) M (m32I k) 0 m32A (m32c [true, true, true, true, true]) s (retK Try.prog Try.f32 [.leaf (.own (.int .u8) 5), .leaf (.val (.int .i64))])) (m32S20 b0')) (fun t0' t5' b0' => L15 (m32S15 t0' t5' b0')) k t0 t5 b0 := by kernel_rfl

noncomputable def m32X20 (k : Nat) (b0 : List Int) : Option ((List Int) × Int) := some ((b0, 0))

theorem m32x20 (M : Cut ((List Int) × Int)) (k : Nat) (b0 : List Int) : evC (m32E k) M (m32I k) 0 m32A (m32c [true, true, true, true, true]) (m32S20 b0) (retK Try.prog Try.f32 [.leaf (.own (.int .u8) 5), .leaf (.val (.int .i64))]) = m32X20 k b0 := by kernel_rfl

noncomputable def m32F20 (k : Nat) (b0 : List Int) : Option ((List Int) × Int) := m32X20 k b0

theorem m32q20 (k : Nat) (b0 : List Int) : evC (m32E k) (fun _ f => f) (m32I k) 0 m32A (m32c [true, true, true, true, true]) (m32S20 b0) (retK Try.prog Try.f32 [.leaf (.own (.int .u8) 5), .leaf (.val (.int .i64))]) = m32F20 k b0 := by
    show _ = m32X20 k b0
    exact m32x20 (fun _ f => f) k b0

noncomputable def m32F15 (k : Nat) : Nat → List Int → Int → List Int → Option ((List Int) × Int)
  | 0, _, _, _ => none
  | j + 1, t0, t5, b0 => m32X15 (m32F20 k) (m32F15 k j) k t0 t5 b0

theorem m32q15 (k : Nat) : ∀ (j : Nat) (t0 : List Int) (t5 : Int) (b0 : List Int), loopN (normAt 0 m32A true (m32c [true, true, true, true, false, true, true, true])) (fun K s => evC (m32E k) (fun _ f => f) (m32I k) 0 m32A (m32c [true, true, true, true, false, true, true, true]) s K) (m32K10 (fun _ f => f) k) j (m32S15 t0 t5 b0) = m32F15 k j t0 t5 b0
  | 0, _, _, _ => rfl
  | j + 1, t0, t5, b0 => by
    have e0 : m32F15 k j = (fun t0' t5' b0' => loopN (normAt 0 m32A true (m32c [true, true, true, true, false, true, true, true])) (fun K s => evC (m32E k) (fun _ f => f) (m32I k) 0 m32A (m32c [true, true, true, true, false, true, true, true]) s K) (m32K10 (fun _ f => f) k) j (m32S15 t0' t5' b0')) := funext fun t0' => funext fun t5' => funext fun b0' => (m32q15 k j t0' t5' b0').symm
    have e20 : m32F20 k = (fun b0' => evC (m32E k) (fun _ f => f) (m32I k) 0 m32A (m32c [true, true, true, true, true]) (m32S20 b0') (retK Try.prog Try.f32 [.leaf (.own (.int .u8) 5), .leaf (.val (.int .i64))])) := funext fun b0' => (m32q20 k b0').symm
    show _ = m32X15 (m32F20 k) (m32F15 k j) k t0 t5 b0
    rw [e0, e20]
    exact m32x15 (fun _ f => f) k (loopN (normAt 0 m32A true (m32c [true, true, true, true, false, true, true, true])) (fun K s => evC (m32E k) (fun _ f => f) (m32I k) 0 m32A (m32c [true, true, true, true, false, true, true, true]) s K) (m32K10 (fun _ f => f) k) j) t0 t5 b0

noncomputable def m32F (k : Nat) (p0 : (List Int)) : Option ((List Int) × Int) := m32X (m32F15 k k) k p0

theorem m32q (k : Nat) (p0 : (List Int)) : evC (m32E k) (fun _ f => f) (m32I k) 0 m32A (m32c []) (stAt Try.f32 (argSs [.leaf (.val (.row (.int .i64)))] p0) (fun _ => none) 0) (retK Try.prog Try.f32 [.leaf (.own (.int .u8) 5), .leaf (.val (.int .i64))]) = m32F k p0 := by
    have e15 : m32F15 k k = (fun t0' t5' b0' => loopN (normAt 0 m32A true (m32c [true, true, true, true, false, true, true, true])) (fun K s => evC (m32E k) (fun _ f => f) (m32I k) 0 m32A (m32c [true, true, true, true, false, true, true, true]) s K) (m32K10 (fun _ f => f) k) k (m32S15 t0' t5' b0')) := funext fun t0' => funext fun t5' => funext fun b0' => (m32q15 k k t0' t5' b0').symm
    show _ = m32X (m32F15 k k) k p0
    rw [e15]
    exact m32x (fun _ f => f) k p0

noncomputable def m32sp : Spec := { ps := [.leaf (.val (.row (.int .i64)))], rs := [.leaf (.own (.int .u8) 5), .leaf (.val (.int .i64))], f := fun k a => m32F k a }

theorem m32ok (k : Nat) : EnvOk (m32E k) := envOk_of (l := [(37, m37sp)]) (lB := []) (lG := []) progNames progMixed rfl rfl rfl (.cons ⟨m37con k, Try.f37, by kernel_rfl, by kernel_rfl⟩ (.nil)) (.nil) (.nil)

theorem m32con (k : Nat) : Contract Try.prog k 32 m32sp := contract_of (E := m32E k) (m32ok k) (A := only 32 m32A) (d := 3) (c := m32c []) (by kernel_rfl) (by kernel_rfl) fun a _ h => (m32q k a).trans h

end Go.Proofs.Ytmjbjlhjpdebjaa.Mini
