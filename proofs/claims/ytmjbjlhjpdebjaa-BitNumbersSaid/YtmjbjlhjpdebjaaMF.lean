/- Printed by a program of this session's (MPrint, over wip/mini): plain functions of the program's, and that they are what it does. Lean checks it. -/
import Derived.Test.YtmjbjlhjpdebjaaHand
import Derived.Test.YtmjbjlhjpdebjaaProg
import Derived.KernelRfl
set_option linter.unusedVariables false
namespace Go.Proofs.Ytmjbjlhjpdebjaa.Mini
open Go Go.RowKit Go.Proofs
theorem progNames : (Try.prog.funcs.all fun f => !(f.name == "runtime.NumGoroutine")) = true := by kernel_rfl
theorem progMixed : Try.prog.follows .mixedOrders = true := by kernel_rfl

noncomputable def m33A : Anns := tabA []
noncomputable def m33E (k : Nat) : Env := { P := Try.prog, k := k, G := tabG [], GB := tabGB [] }
noncomputable def m33c (p : List Bool) : Code := sub p (bodyOf Try.f33)
noncomputable def m33I (k : Nat) : Inl Int := inlOf (m33E k) (only 33 m33A) 3
noncomputable def m33K0 (M : Cut Int) (k : Nat) : Exit → St → Option Int := seqK (normAt 0 m33A false (m33c [true])) (cutK M m33A (m33c [true]) fun s => evC (m33E k) M (m33I k) 0 m33A (m33c [true]) s (retK Try.prog Try.f33 [.leaf (.val (.int .i64))])) (retK Try.prog Try.f33 [.leaf (.val (.int .i64))])
noncomputable def m33K1 (M : Cut Int) (k : Nat) : Exit → St → Option Int := seqK (normAt 0 m33A false (m33c [true, true])) (cutK M m33A (m33c [true, true]) fun s => evC (m33E k) M (m33I k) 0 m33A (m33c [true, true]) s (retK Try.prog Try.f33 [.leaf (.val (.int .i64))])) (retK Try.prog Try.f33 [.leaf (.val (.int .i64))])

noncomputable def m33X (k : Nat) (p0 : Int) : Option Int := (if leI 0 24 = true then (if leI 0 (p0 / 16777216) = true then (Option.bind ((ByteArray.mk
    (List.toArray
      (List.append
        (List.append
          [0, 1, 1, 2, 1, 2, 2, 3, 1, 2, 2, 3, 2, 3, 3, 4, 1, 2, 2, 3, 2, 3, 3, 4, 2, 3, 3, 4, 3, 4, 4, 5, 1, 2, 2, 3,
            2, 3, 3, 4, 2, 3, 3, 4, 3, 4, 4, 5, 2, 3, 3, 4, 3, 4, 4, 5, 3, 4, 4, 5, 4, 5, 5, 6]
          [1, 2, 2, 3, 2, 3, 3, 4, 2, 3, 3, 4, 3, 4, 4, 5, 2, 3, 3, 4, 3, 4, 4, 5, 3, 4, 4, 5, 4, 5, 5, 6, 2, 3, 3, 4,
            3, 4, 4, 5, 3, 4, 4, 5, 4, 5, 5, 6, 3, 4, 4, 5, 4, 5, 5, 6, 4, 5, 5, 6, 5, 6, 6, 7])
        (List.append
          [1, 2, 2, 3, 2, 3, 3, 4, 2, 3, 3, 4, 3, 4, 4, 5, 2, 3, 3, 4, 3, 4, 4, 5, 3, 4, 4, 5, 4, 5, 5, 6, 2, 3, 3, 4,
            3, 4, 4, 5, 3, 4, 4, 5, 4, 5, 5, 6, 3, 4, 4, 5, 4, 5, 5, 6, 4, 5, 5, 6, 5, 6, 6, 7]
          [2, 3, 3, 4, 3, 4, 4, 5, 3, 4, 4, 5, 4, 5, 5, 6, 3, 4, 4, 5, 4, 5, 5, 6, 4, 5, 5, 6, 5, 6, 6, 7, 3, 4, 4, 5,
            4, 5, 5, 6, 4, 5, 5, 6, 5, 6, 6, 7, 4, 5, 5, 6, 5, 6, 6, 7, 5, 6, 6, 7, 6, 7, 7,
            8]))))[Int.toNat (p0 / 16777216)]?) fun (c3 : UInt8) => (if leI 0 16 = true then (if leI 0 (bits BinOp.and IntKind.u32 (p0 / 65536) 255) = true then (Option.bind ((ByteArray.mk
    (List.toArray
      (List.append
        (List.append
          [0, 1, 1, 2, 1, 2, 2, 3, 1, 2, 2, 3, 2, 3, 3, 4, 1, 2, 2, 3, 2, 3, 3, 4, 2, 3, 3, 4, 3, 4, 4, 5, 1, 2, 2, 3,
            2, 3, 3, 4, 2, 3, 3, 4, 3, 4, 4, 5, 2, 3, 3, 4, 3, 4, 4, 5, 3, 4, 4, 5, 4, 5, 5, 6]
          [1, 2, 2, 3, 2, 3, 3, 4, 2, 3, 3, 4, 3, 4, 4, 5, 2, 3, 3, 4, 3, 4, 4, 5, 3, 4, 4, 5, 4, 5, 5, 6, 2, 3, 3, 4,
            3, 4, 4, 5, 3, 4, 4, 5, 4, 5, 5, 6, 3, 4, 4, 5, 4, 5, 5, 6, 4, 5, 5, 6, 5, 6, 6, 7])
        (List.append
          [1, 2, 2, 3, 2, 3, 3, 4, 2, 3, 3, 4, 3, 4, 4, 5, 2, 3, 3, 4, 3, 4, 4, 5, 3, 4, 4, 5, 4, 5, 5, 6, 2, 3, 3, 4,
            3, 4, 4, 5, 3, 4, 4, 5, 4, 5, 5, 6, 3, 4, 4, 5, 4, 5, 5, 6, 4, 5, 5, 6, 5, 6, 6, 7]
          [2, 3, 3, 4, 3, 4, 4, 5, 3, 4, 4, 5, 4, 5, 5, 6, 3, 4, 4, 5, 4, 5, 5, 6, 4, 5, 5, 6, 5, 6, 6, 7, 3, 4, 4, 5,
            4, 5, 5, 6, 4, 5, 5, 6, 5, 6, 6, 7, 4, 5, 5, 6, 5, 6, 6, 7, 5, 6, 6, 7, 6, 7, 7,
            8]))))[Int.toNat (bits BinOp.and IntKind.u32 (p0 / 65536) 255)]?) fun (c4 : UInt8) => (if leI 0 8 = true then (if leI 0 (bits BinOp.and IntKind.u32 (p0 / 256) 255) = true then (Option.bind ((ByteArray.mk
    (List.toArray
      (List.append
        (List.append
          [0, 1, 1, 2, 1, 2, 2, 3, 1, 2, 2, 3, 2, 3, 3, 4, 1, 2, 2, 3, 2, 3, 3, 4, 2, 3, 3, 4, 3, 4, 4, 5, 1, 2, 2, 3,
            2, 3, 3, 4, 2, 3, 3, 4, 3, 4, 4, 5, 2, 3, 3, 4, 3, 4, 4, 5, 3, 4, 4, 5, 4, 5, 5, 6]
          [1, 2, 2, 3, 2, 3, 3, 4, 2, 3, 3, 4, 3, 4, 4, 5, 2, 3, 3, 4, 3, 4, 4, 5, 3, 4, 4, 5, 4, 5, 5, 6, 2, 3, 3, 4,
            3, 4, 4, 5, 3, 4, 4, 5, 4, 5, 5, 6, 3, 4, 4, 5, 4, 5, 5, 6, 4, 5, 5, 6, 5, 6, 6, 7])
        (List.append
          [1, 2, 2, 3, 2, 3, 3, 4, 2, 3, 3, 4, 3, 4, 4, 5, 2, 3, 3, 4, 3, 4, 4, 5, 3, 4, 4, 5, 4, 5, 5, 6, 2, 3, 3, 4,
            3, 4, 4, 5, 3, 4, 4, 5, 4, 5, 5, 6, 3, 4, 4, 5, 4, 5, 5, 6, 4, 5, 5, 6, 5, 6, 6, 7]
          [2, 3, 3, 4, 3, 4, 4, 5, 3, 4, 4, 5, 4, 5, 5, 6, 3, 4, 4, 5, 4, 5, 5, 6, 4, 5, 5, 6, 5, 6, 6, 7, 3, 4, 4, 5,
            4, 5, 5, 6, 4, 5, 5, 6, 5, 6, 6, 7, 4, 5, 5, 6, 5, 6, 6, 7, 5, 6, 6, 7, 6, 7, 7,
            8]))))[Int.toNat (bits BinOp.and IntKind.u32 (p0 / 256) 255)]?) fun (c5 : UInt8) => (if leI 0 (bits BinOp.and IntKind.u32 p0 255) = true then (Option.bind ((ByteArray.mk
    (List.toArray
      (List.append
        (List.append
          [0, 1, 1, 2, 1, 2, 2, 3, 1, 2, 2, 3, 2, 3, 3, 4, 1, 2, 2, 3, 2, 3, 3, 4, 2, 3, 3, 4, 3, 4, 4, 5, 1, 2, 2, 3,
            2, 3, 3, 4, 2, 3, 3, 4, 3, 4, 4, 5, 2, 3, 3, 4, 3, 4, 4, 5, 3, 4, 4, 5, 4, 5, 5, 6]
          [1, 2, 2, 3, 2, 3, 3, 4, 2, 3, 3, 4, 3, 4, 4, 5, 2, 3, 3, 4, 3, 4, 4, 5, 3, 4, 4, 5, 4, 5, 5, 6, 2, 3, 3, 4,
            3, 4, 4, 5, 3, 4, 4, 5, 4, 5, 5, 6, 3, 4, 4, 5, 4, 5, 5, 6, 4, 5, 5, 6, 5, 6, 6, 7])
        (List.append
          [1, 2, 2, 3, 2, 3, 3, 4, 2, 3, 3, 4, 3, 4, 4, 5, 2, 3, 3, 4, 3, 4, 4, 5, 3, 4, 4, 5, 4, 5, 5, 6, 2, 3, 3, 4,
            3, 4, 4, 5, 3, 4, 4, 5, 4, 5, 5, 6, 3, 4, 4, 5, 4, 5, 5, 6, 4, 5, 5, 6, 5, 6, 6, 7]
          [2, 3, 3, 4, 3, 4, 4, 5, 3, 4, 4, 5, 4, 5, 5, 6, 3, 4, 4, 5, 4, 5, 5, 6, 4, 5, 5, 6, 5, 6, 6, 7, 3, 4, 4, 5,
            4, 5, 5, 6, 4, 5, 5, 6, 5, 6, 6, 7, 4, 5, 5, 6, 5, 6, 6, 7, 5, 6, 6, 7, 6, 7, 7,
            8]))))[Int.toNat (bits BinOp.and IntKind.u32 p0 255)]?) fun (c6 : UInt8) => some (wr IntKind.i64
  (wr IntKind.u8
    (wr IntKind.u8 (wr IntKind.u8 ((↑(UInt8.toNat c3) : Int) + (↑(UInt8.toNat c4) : Int)) + (↑(UInt8.toNat c5) : Int)) +
      (↑(UInt8.toNat c6) : Int))))) else none)) else none) else none)) else none) else none)) else none) else none)

theorem m33x (M : Cut Int) (k : Nat) (p0 : Int) : evC (m33E k) M (m33I k) 0 m33A (m33c []) (stAt Try.f33 (argSs [.leaf (.val (.int .u32))] p0) (fun _ => none) 0) (retK Try.prog Try.f33 [.leaf (.val (.int .i64))]) = m33X k p0 := by kernel_rfl

noncomputable def m33F (k : Nat) (p0 : Int) : Option Int := m33X k p0

theorem m33q (k : Nat) (p0 : Int) : evC (m33E k) (fun _ f => f) (m33I k) 0 m33A (m33c []) (stAt Try.f33 (argSs [.leaf (.val (.int .u32))] p0) (fun _ => none) 0) (retK Try.prog Try.f33 [.leaf (.val (.int .i64))]) = m33F k p0 := by
    show _ = m33X k p0
    exact m33x (fun _ f => f) k p0

noncomputable def m33sp : Spec := { ps := [.leaf (.val (.int .u32))], rs := [.leaf (.val (.int .i64))], f := fun k a => m33F k a }

theorem m33ok (k : Nat) : EnvOk (m33E k) := envOk_of (l := []) (lB := []) progNames progMixed rfl rfl (.nil) (.nil)

theorem m33con (k : Nat) : Contract Try.prog k 33 m33sp := contract_of (E := m33E k) (m33ok k) (A := only 33 m33A) (d := 3) (c := m33c []) (by kernel_rfl) (by kernel_rfl) fun a _ h => (m33q k a).trans h

noncomputable def m10A : Anns := tabA []
noncomputable def m10E (k : Nat) : Env := { P := Try.prog, k := k, G := tabG [(33, m33sp)], GB := tabGB [] }
noncomputable def m10c (p : List Bool) : Code := sub p (bodyOf Try.f10)
noncomputable def m10I (k : Nat) : Inl Int := inlOf (m10E k) (only 10 m10A) 3
noncomputable def m10K0 (M : Cut Int) (k : Nat) : Exit → St → Option Int := seqK (normAt 0 m10A false (m10c [true])) (cutK M m10A (m10c [true]) fun s => evC (m10E k) M (m10I k) 0 m10A (m10c [true]) s (retK Try.prog Try.f10 [.leaf (.val (.int .i64))])) (retK Try.prog Try.f10 [.leaf (.val (.int .i64))])
noncomputable def m10K1 (M : Cut Int) (k : Nat) : Exit → St → Option Int := seqK (normAt 0 m10A false (m10c [true, true])) (cutK M m10A (m10c [true, true]) fun s => evC (m10E k) M (m10I k) 0 m10A (m10c [true, true]) s (retK Try.prog Try.f10 [.leaf (.val (.int .i64))])) (retK Try.prog Try.f10 [.leaf (.val (.int .i64))])
noncomputable def m10K2 (M : Cut Int) (k : Nat) : Exit → St → Option Int := seqK (normAt 0 m10A false (m10c [true, false, true])) (cutK M m10A (m10c [true, false, true]) fun s => evC (m10E k) M (m10I k) 0 m10A (m10c [true, false, true]) s (m10K1 M k)) (m10K1 M k)
noncomputable def m10K3 (M : Cut Int) (k : Nat) : Exit → St → Option Int := seqK (normAt 0 m10A false (m10c [true, false, true, false, true])) (cutK M m10A (m10c [true, false, true, false, true]) fun s => evC (m10E k) M (m10I k) 0 m10A (m10c [true, false, true, false, true]) s (m10K1 M k)) (m10K1 M k)
noncomputable def m10K4 (M : Cut Int) (k : Nat) : Exit → St → Option Int := seqK (normAt 0 m10A false (m10c [true, true, true])) (cutK M m10A (m10c [true, true, true]) fun s => evC (m10E k) M (m10I k) 0 m10A (m10c [true, true, true]) s (retK Try.prog Try.f10 [.leaf (.val (.int .i64))])) (retK Try.prog Try.f10 [.leaf (.val (.int .i64))])

noncomputable def m10X (k : Nat) (p0 : Int) : Option Int := (if ltI p0 0 = true then some (0) else (Option.bind (m33F k (wr IntKind.u32 p0)) fun (c3 : Int) => some c3))

theorem m10x (M : Cut Int) (k : Nat) (p0 : Int) : evC (m10E k) M (m10I k) 0 m10A (m10c []) (stAt Try.f10 (argSs [.leaf (.val (.int .i64))] p0) (fun _ => none) 0) (retK Try.prog Try.f10 [.leaf (.val (.int .i64))]) = m10X k p0 := by kernel_rfl

noncomputable def m10F (k : Nat) (p0 : Int) : Option Int := m10X k p0

theorem m10q (k : Nat) (p0 : Int) : evC (m10E k) (fun _ f => f) (m10I k) 0 m10A (m10c []) (stAt Try.f10 (argSs [.leaf (.val (.int .i64))] p0) (fun _ => none) 0) (retK Try.prog Try.f10 [.leaf (.val (.int .i64))]) = m10F k p0 := by
    show _ = m10X k p0
    exact m10x (fun _ f => f) k p0

noncomputable def m10sp : Spec := { ps := [.leaf (.val (.int .i64))], rs := [.leaf (.val (.int .i64))], f := fun k a => m10F k a }

theorem m10ok (k : Nat) : EnvOk (m10E k) := envOk_of (l := [(33, m33sp)]) (lB := []) progNames progMixed rfl rfl (.cons ⟨m33con k, Try.f33, by kernel_rfl, by kernel_rfl⟩ (.nil)) (.nil)

theorem m10con (k : Nat) : Contract Try.prog k 10 m10sp := contract_of (E := m10E k) (m10ok k) (A := only 10 m10A) (d := 3) (c := m10c []) (by kernel_rfl) (by kernel_rfl) fun a _ h => (m10q k a).trans h

noncomputable def m11A : Anns := tabA [(7, { keep := [0, 3, 4] })]
noncomputable def m11E (k : Nat) : Env := { P := Try.prog, k := k, G := tabG [], GB := tabGB [] }
noncomputable def m11c (p : List Bool) : Code := sub p (bodyOf Try.f11)
noncomputable def m11I (k : Nat) : Inl Int := inlOf (m11E k) (only 11 m11A) 3
noncomputable def m11K0 (M : Cut Int) (k : Nat) : Exit → St → Option Int := seqK (normAt 0 m11A false (m11c [true])) (cutK M m11A (m11c [true]) fun s => evC (m11E k) M (m11I k) 0 m11A (m11c [true]) s (retK Try.prog Try.f11 [.leaf (.val (.int .i64))])) (retK Try.prog Try.f11 [.leaf (.val (.int .i64))])
noncomputable def m11K1 (M : Cut Int) (k : Nat) : Exit → St → Option Int := seqK (normAt 0 m11A false (m11c [true, true])) (cutK M m11A (m11c [true, true]) fun s => evC (m11E k) M (m11I k) 0 m11A (m11c [true, true]) s (retK Try.prog Try.f11 [.leaf (.val (.int .i64))])) (retK Try.prog Try.f11 [.leaf (.val (.int .i64))])
noncomputable def m11K2 (M : Cut Int) (k : Nat) : Exit → St → Option Int := seqK (normAt 0 m11A false (m11c [true, true, true])) (cutK M m11A (m11c [true, true, true]) fun s => evC (m11E k) M (m11I k) 0 m11A (m11c [true, true, true]) s (retK Try.prog Try.f11 [.leaf (.val (.int .i64))])) (retK Try.prog Try.f11 [.leaf (.val (.int .i64))])
noncomputable def m11K3 (M : Cut Int) (k : Nat) : Exit → St → Option Int := seqK (normAt 0 m11A false (m11c [true, true, false, true])) (cutK M m11A (m11c [true, true, false, true]) fun s => evC (m11E k) M (m11I k) 0 m11A (m11c [true, true, false, true]) s (m11K2 M k)) (m11K2 M k)
noncomputable def m11K4 (M : Cut Int) (k : Nat) : Exit → St → Option Int := blockK 0 (m11K2 M k)
noncomputable def m11K5 (M : Cut Int) (k : Nat) (L7 : St → Option Int) : Exit → St → Option Int := seqK (normAt 0 m11A true (m11c [true, true, false, true, true, true])) L7 (m11K4 M k)
noncomputable def m11K6 (M : Cut Int) (k : Nat) (L7 : St → Option Int) : Exit → St → Option Int := seqK (normAt 0 m11A false (m11c [true, true, false, true, true, true, true])) (cutK M m11A (m11c [true, true, false, true, true, true, true]) fun s => evC (m11E k) M (m11I k) 0 m11A (m11c [true, true, false, true, true, true, true]) s (m11K5 M k L7)) (m11K5 M k L7)
noncomputable def m11K7 (M : Cut Int) (k : Nat) (L7 : St → Option Int) : Exit → St → Option Int := seqK (normAt 0 m11A false (m11c [true, true, false, true, true, true, false, true])) (cutK M m11A (m11c [true, true, false, true, true, true, false, true]) fun s => evC (m11E k) M (m11I k) 0 m11A (m11c [true, true, false, true, true, true, false, true]) s (m11K6 M k L7)) (m11K6 M k L7)
noncomputable def m11K8 (M : Cut Int) (k : Nat) (L7 : St → Option Int) : Exit → St → Option Int := seqK (normAt 0 m11A false (m11c [true, true, false, true, true, true, true, true])) (cutK M m11A (m11c [true, true, false, true, true, true, true, true]) fun s => evC (m11E k) M (m11I k) 0 m11A (m11c [true, true, false, true, true, true, true, true]) s (m11K5 M k L7)) (m11K5 M k L7)
noncomputable def m11K9 (M : Cut Int) (k : Nat) (L7 : St → Option Int) : Exit → St → Option Int := blockK 1 (m11K8 M k L7)
noncomputable def m11K10 (M : Cut Int) (k : Nat) : Exit → St → Option Int := seqK (normAt 0 m11A false (m11c [true, true, true, true])) (cutK M m11A (m11c [true, true, true, true]) fun s => evC (m11E k) M (m11I k) 0 m11A (m11c [true, true, true, true]) s (retK Try.prog Try.f11 [.leaf (.val (.int .i64))])) (retK Try.prog Try.f11 [.leaf (.val (.int .i64))])
noncomputable def m11S7 (t0 : Int) (t3 : Int) (t4 : Int) : St := { n := 21, tm := slots [(0, .int .i64 t0), (3, .int .i64 t3), (4, .int .i64 t4)], tab := blks [], nx := 0 }

noncomputable def m11X (X7 : Int → Int → Int → Option Int) (k : Nat) (p0 : Int) : Option Int := X7 p0 (0) (0)

theorem m11x (M : Cut Int) (k : Nat) (p0 : Int) : evC (m11E k) M (m11I k) 0 m11A (m11c []) (stAt Try.f11 (argSs [.leaf (.val (.int .i64))] p0) (fun _ => none) 0) (retK Try.prog Try.f11 [.leaf (.val (.int .i64))]) = m11X (fun t0' t3' t4' => loopN (normAt 0 m11A true (m11c [true, true, false, true, true, true])) (fun K s => evC (m11E k) M (m11I k) 0 m11A (m11c [true, true, false, true, true, true]) s K) (m11K4 M k) k (m11S7 t0' t3' t4')) k p0 := by kernel_rfl

noncomputable def m11X7 (L7 : Int → Int → Int → Option Int) (k : Nat) (t0 : Int) (t3 : Int) (t4 : Int) : Option Int := (if ltI t4 32 = true then (if leI 0 t0 = true then (if leI 0 (wr IntKind.u64 t4) = true then L7 t0 (wr IntKind.i64 (t3 + bits BinOp.and IntKind.i64 (t0 / p2 (min (Int.toNat (wr IntKind.u64 t4)) 64)) 1)) (wr IntKind.i64 (t4 + 1)) else none) else some t3) else some t3)

theorem m11x7 (M : Cut Int) (k : Nat) (L7 : St → Option Int) (t0 : Int) (t3 : Int) (t4 : Int) : evC (m11E k) M (m11I k) 0 m11A (m11c [true, true, false, true, true, true]) (m11S7 t0 t3 t4) (seqK (normAt 0 m11A true (m11c [true, true, false, true, true, true])) L7 (m11K4 M k)) = m11X7 (fun t0' t3' t4' => L7 (m11S7 t0' t3' t4')) k t0 t3 t4 := by kernel_rfl

noncomputable def m11F7 (k : Nat) : Nat → Int → Int → Int → Option Int
  | 0, _, _, _ => none
  | j + 1, t0, t3, t4 => m11X7 (m11F7 k j) k t0 t3 t4

theorem m11q7 (k : Nat) : ∀ (j : Nat) (t0 : Int) (t3 : Int) (t4 : Int), loopN (normAt 0 m11A true (m11c [true, true, false, true, true, true])) (fun K s => evC (m11E k) (fun _ f => f) (m11I k) 0 m11A (m11c [true, true, false, true, true, true]) s K) (m11K4 (fun _ f => f) k) j (m11S7 t0 t3 t4) = m11F7 k j t0 t3 t4
  | 0, _, _, _ => rfl
  | j + 1, t0, t3, t4 => by
    have e0 : m11F7 k j = (fun t0' t3' t4' => loopN (normAt 0 m11A true (m11c [true, true, false, true, true, true])) (fun K s => evC (m11E k) (fun _ f => f) (m11I k) 0 m11A (m11c [true, true, false, true, true, true]) s K) (m11K4 (fun _ f => f) k) j (m11S7 t0' t3' t4')) := funext fun t0' => funext fun t3' => funext fun t4' => (m11q7 k j t0' t3' t4').symm
    show _ = m11X7 (m11F7 k j) k t0 t3 t4
    rw [e0]
    exact m11x7 (fun _ f => f) k (loopN (normAt 0 m11A true (m11c [true, true, false, true, true, true])) (fun K s => evC (m11E k) (fun _ f => f) (m11I k) 0 m11A (m11c [true, true, false, true, true, true]) s K) (m11K4 (fun _ f => f) k) j) t0 t3 t4

noncomputable def m11F (k : Nat) (p0 : Int) : Option Int := m11X (m11F7 k k) k p0

theorem m11q (k : Nat) (p0 : Int) : evC (m11E k) (fun _ f => f) (m11I k) 0 m11A (m11c []) (stAt Try.f11 (argSs [.leaf (.val (.int .i64))] p0) (fun _ => none) 0) (retK Try.prog Try.f11 [.leaf (.val (.int .i64))]) = m11F k p0 := by
    have e7 : m11F7 k k = (fun t0' t3' t4' => loopN (normAt 0 m11A true (m11c [true, true, false, true, true, true])) (fun K s => evC (m11E k) (fun _ f => f) (m11I k) 0 m11A (m11c [true, true, false, true, true, true]) s K) (m11K4 (fun _ f => f) k) k (m11S7 t0' t3' t4')) := funext fun t0' => funext fun t3' => funext fun t4' => (m11q7 k k t0' t3' t4').symm
    show _ = m11X (m11F7 k k) k p0
    rw [e7]
    exact m11x (fun _ f => f) k p0

noncomputable def m11sp : Spec := { ps := [.leaf (.val (.int .i64))], rs := [.leaf (.val (.int .i64))], f := fun k a => m11F k a }

theorem m11ok (k : Nat) : EnvOk (m11E k) := envOk_of (l := []) (lB := []) progNames progMixed rfl rfl (.nil) (.nil)

theorem m11con (k : Nat) : Contract Try.prog k 11 m11sp := contract_of (E := m11E k) (m11ok k) (A := only 11 m11A) (d := 3) (c := m11c []) (by kernel_rfl) (by kernel_rfl) fun a _ h => (m11q k a).trans h

noncomputable def m15A : Anns := tabA []
noncomputable def m15E (k : Nat) : Env := { P := Try.prog, k := k, G := tabG [(34, m34sp)], GB := tabGB [] }
noncomputable def m15c (p : List Bool) : Code := sub p (bodyOf Try.f15)
noncomputable def m15I (k : Nat) : Inl ((List Int) × Int) := inlOf (m15E k) (only 15 m15A) 3
noncomputable def m15K0 (M : Cut ((List Int) × Int)) (k : Nat) : Exit → St → Option ((List Int) × Int) := seqK (normAt 0 m15A false (m15c [true])) (cutK M m15A (m15c [true]) fun s => evC (m15E k) M (m15I k) 0 m15A (m15c [true]) s (retK Try.prog Try.f15 [.leaf (.own (.int .i64) 3), .leaf (.val (.int .i64))])) (retK Try.prog Try.f15 [.leaf (.own (.int .i64) 3), .leaf (.val (.int .i64))])
noncomputable def m15K1 (M : Cut ((List Int) × Int)) (k : Nat) : Exit → St → Option ((List Int) × Int) := seqK (normAt 0 m15A false (m15c [true, true])) (cutK M m15A (m15c [true, true]) fun s => evC (m15E k) M (m15I k) 0 m15A (m15c [true, true]) s (retK Try.prog Try.f15 [.leaf (.own (.int .i64) 3), .leaf (.val (.int .i64))])) (retK Try.prog Try.f15 [.leaf (.own (.int .i64) 3), .leaf (.val (.int .i64))])

noncomputable def m15X (k : Nat) (p0 : (List Int)) : Option ((List Int) × Int) := (Option.bind (m34F k p0 4) fun (c3 : ((List Int) × Int)) => some ((Prod.fst c3, Prod.snd c3)))

theorem m15x (M : Cut ((List Int) × Int)) (k : Nat) (p0 : (List Int)) : evC (m15E k) M (m15I k) 0 m15A (m15c []) (stAt Try.f15 (argSs [.leaf (.val (.row (.int .u8)))] p0) (fun _ => none) 0) (retK Try.prog Try.f15 [.leaf (.own (.int .i64) 3), .leaf (.val (.int .i64))]) = m15X k p0 := by kernel_rfl

noncomputable def m15F (k : Nat) (p0 : (List Int)) : Option ((List Int) × Int) := m15X k p0

theorem m15q (k : Nat) (p0 : (List Int)) : evC (m15E k) (fun _ f => f) (m15I k) 0 m15A (m15c []) (stAt Try.f15 (argSs [.leaf (.val (.row (.int .u8)))] p0) (fun _ => none) 0) (retK Try.prog Try.f15 [.leaf (.own (.int .i64) 3), .leaf (.val (.int .i64))]) = m15F k p0 := by
    show _ = m15X k p0
    exact m15x (fun _ f => f) k p0

noncomputable def m15sp : Spec := { ps := [.leaf (.val (.row (.int .u8)))], rs := [.leaf (.own (.int .i64) 3), .leaf (.val (.int .i64))], f := fun k a => m15F k a }

theorem m15ok (k : Nat) : EnvOk (m15E k) := envOk_of (l := [(34, m34sp)]) (lB := []) progNames progMixed rfl rfl (.cons ⟨m34con k, Try.f34, by kernel_rfl, by kernel_rfl⟩ (.nil)) (.nil)

theorem m15con (k : Nat) : Contract Try.prog k 15 m15sp := contract_of (E := m15E k) (m15ok k) (A := only 15 m15A) (d := 3) (c := m15c []) (by kernel_rfl) (by kernel_rfl) fun a _ h => (m15q k a).trans h

noncomputable def m16A : Anns := tabA [(9, { keep := [0, 1, 5] })]
noncomputable def m16E (k : Nat) : Env := { P := Try.prog, k := k, G := tabG [], GB := tabGB [] }
noncomputable def m16c (p : List Bool) : Code := sub p (bodyOf Try.f16)
noncomputable def m16I (k : Nat) : Inl Bool := inlOf (m16E k) (only 16 m16A) 3
noncomputable def m16K0 (M : Cut Bool) (k : Nat) : Exit → St → Option Bool := seqK (normAt 0 m16A false (m16c [true])) (cutK M m16A (m16c [true]) fun s => evC (m16E k) M (m16I k) 0 m16A (m16c [true]) s (retK Try.prog Try.f16 [.leaf (.val .bool)])) (retK Try.prog Try.f16 [.leaf (.val .bool)])
noncomputable def m16K1 (M : Cut Bool) (k : Nat) : Exit → St → Option Bool := seqK (normAt 0 m16A false (m16c [true, true])) (cutK M m16A (m16c [true, true]) fun s => evC (m16E k) M (m16I k) 0 m16A (m16c [true, true]) s (retK Try.prog Try.f16 [.leaf (.val .bool)])) (retK Try.prog Try.f16 [.leaf (.val .bool)])
noncomputable def m16K2 (M : Cut Bool) (k : Nat) : Exit → St → Option Bool := seqK (normAt 0 m16A false (m16c [true, false, true])) (cutK M m16A (m16c [true, false, true]) fun s => evC (m16E k) M (m16I k) 0 m16A (m16c [true, false, true]) s (m16K1 M k)) (m16K1 M k)
noncomputable def m16K3 (M : Cut Bool) (k : Nat) : Exit → St → Option Bool := seqK (normAt 0 m16A false (m16c [true, false, true, false, true])) (cutK M m16A (m16c [true, false, true, false, true]) fun s => evC (m16E k) M (m16I k) 0 m16A (m16c [true, false, true, false, true]) s (m16K1 M k)) (m16K1 M k)
noncomputable def m16K4 (M : Cut Bool) (k : Nat) : Exit → St → Option Bool := seqK (normAt 0 m16A false (m16c [true, true, true])) (cutK M m16A (m16c [true, true, true]) fun s => evC (m16E k) M (m16I k) 0 m16A (m16c [true, true, true]) s (retK Try.prog Try.f16 [.leaf (.val .bool)])) (retK Try.prog Try.f16 [.leaf (.val .bool)])
noncomputable def m16K5 (M : Cut Bool) (k : Nat) : Exit → St → Option Bool := seqK (normAt 0 m16A false (m16c [true, true, false, true])) (cutK M m16A (m16c [true, true, false, true]) fun s => evC (m16E k) M (m16I k) 0 m16A (m16c [true, true, false, true]) s (m16K4 M k)) (m16K4 M k)
noncomputable def m16K6 (M : Cut Bool) (k : Nat) : Exit → St → Option Bool := blockK 0 (m16K4 M k)
noncomputable def m16K7 (M : Cut Bool) (k : Nat) (L9 : St → Option Bool) : Exit → St → Option Bool := seqK (normAt 0 m16A true (m16c [true, true, false, true, true, true])) L9 (m16K6 M k)
noncomputable def m16K8 (M : Cut Bool) (k : Nat) (L9 : St → Option Bool) : Exit → St → Option Bool := seqK (normAt 0 m16A false (m16c [true, true, false, true, true, true, true])) (cutK M m16A (m16c [true, true, false, true, true, true, true]) fun s => evC (m16E k) M (m16I k) 0 m16A (m16c [true, true, false, true, true, true, true]) s (m16K7 M k L9)) (m16K7 M k L9)
noncomputable def m16K9 (M : Cut Bool) (k : Nat) (L9 : St → Option Bool) : Exit → St → Option Bool := seqK (normAt 0 m16A false (m16c [true, true, false, true, true, true, false, true])) (cutK M m16A (m16c [true, true, false, true, true, true, false, true]) fun s => evC (m16E k) M (m16I k) 0 m16A (m16c [true, true, false, true, true, true, false, true]) s (m16K8 M k L9)) (m16K8 M k L9)
noncomputable def m16K10 (M : Cut Bool) (k : Nat) (L9 : St → Option Bool) : Exit → St → Option Bool := seqK (normAt 0 m16A false (m16c [true, true, false, true, true, true, true, true])) (cutK M m16A (m16c [true, true, false, true, true, true, true, true]) fun s => evC (m16E k) M (m16I k) 0 m16A (m16c [true, true, false, true, true, true, true, true]) s (m16K7 M k L9)) (m16K7 M k L9)
noncomputable def m16K11 (M : Cut Bool) (k : Nat) (L9 : St → Option Bool) : Exit → St → Option Bool := blockK 1 (m16K10 M k L9)
noncomputable def m16K12 (M : Cut Bool) (k : Nat) (L9 : St → Option Bool) : Exit → St → Option Bool := seqK (normAt 0 m16A false (m16c [true, true, false, true, true, true, true, false, true, true])) (cutK M m16A (m16c [true, true, false, true, true, true, true, false, true, true]) fun s => evC (m16E k) M (m16I k) 0 m16A (m16c [true, true, false, true, true, true, true, false, true, true]) s (m16K11 M k L9)) (m16K11 M k L9)
noncomputable def m16K13 (M : Cut Bool) (k : Nat) (L9 : St → Option Bool) : Exit → St → Option Bool := seqK (normAt 0 m16A false (m16c [true, true, false, true, true, true, true, false, true, true, false, true])) (cutK M m16A (m16c [true, true, false, true, true, true, true, false, true, true, false, true]) fun s => evC (m16E k) M (m16I k) 0 m16A (m16c [true, true, false, true, true, true, true, false, true, true, false, true]) s (m16K11 M k L9)) (m16K11 M k L9)
noncomputable def m16K14 (M : Cut Bool) (k : Nat) : Exit → St → Option Bool := seqK (normAt 0 m16A false (m16c [true, true, true, true])) (cutK M m16A (m16c [true, true, true, true]) fun s => evC (m16E k) M (m16I k) 0 m16A (m16c [true, true, true, true]) s (retK Try.prog Try.f16 [.leaf (.val .bool)])) (retK Try.prog Try.f16 [.leaf (.val .bool)])
noncomputable def m16S9 (t0 : List Int) (t1 : List Int) (t5 : Int) : St := { n := 26, tm := slots [(0, .row (.int .i64) t0), (1, .row (.int .i64) t1), (5, .int .i64 t5)], tab := blks [], nx := 0 }

noncomputable def m16X (X9 : List Int → List Int → Int → Option Bool) (k : Nat) (p0 : (List Int)) (p1 : (List Int)) : Option Bool := (if (!eqI (↑(List.length p0) : Int) (↑(List.length p1) : Int)) = true then some (false) else X9 p0 p1 (0))

theorem m16x (M : Cut Bool) (k : Nat) (p0 : (List Int)) (p1 : (List Int)) : evC (m16E k) M (m16I k) 0 m16A (m16c []) (stAt Try.f16 (argSs [.leaf (.val (.row (.int .i64))), .leaf (.val (.row (.int .i64)))] (p0, p1)) (fun _ => none) 0) (retK Try.prog Try.f16 [.leaf (.val .bool)]) = m16X (fun t0' t1' t5' => loopN (normAt 0 m16A true (m16c [true, true, false, true, true, true])) (fun K s => evC (m16E k) M (m16I k) 0 m16A (m16c [true, true, false, true, true, true]) s K) (m16K6 M k) k (m16S9 t0' t1' t5')) k p0 p1 := by kernel_rfl

noncomputable def m16X9 (L9 : List Int → List Int → Int → Option Bool) (k : Nat) (t0 : List Int) (t1 : List Int) (t5 : Int) : Option Bool := (if ltI t5 (↑(List.length t0) : Int) = true then (if leI 0 t5 = true then (if ltI t5 (↑(List.length t0) : Int) = true then (if leI 0 t5 = true then (if ltI t5 (↑(List.length t1) : Int) = true then (if (!eqI (List.getD t0 (Int.toNat t5) 0) (List.getD t1 (Int.toNat t5) 0)) = true then some (false) else L9 t0 t1 (wr IntKind.i64 (t5 + 1))) else none) else none) else none) else none) else some (true))

theorem m16x9 (M : Cut Bool) (k : Nat) (L9 : St → Option Bool) (t0 : List Int) (t1 : List Int) (t5 : Int) : evC (m16E k) M (m16I k) 0 m16A (m16c [true, true, false, true, true, true]) (m16S9 t0 t1 t5) (seqK (normAt 0 m16A true (m16c [true, true, false, true, true, true])) L9 (m16K6 M k)) = m16X9 (fun t0' t1' t5' => L9 (m16S9 t0' t1' t5')) k t0 t1 t5 := by kernel_rfl

noncomputable def m16F9 (k : Nat) : Nat → List Int → List Int → Int → Option Bool
  | 0, _, _, _ => none
  | j + 1, t0, t1, t5 => m16X9 (m16F9 k j) k t0 t1 t5

theorem m16q9 (k : Nat) : ∀ (j : Nat) (t0 : List Int) (t1 : List Int) (t5 : Int), loopN (normAt 0 m16A true (m16c [true, true, false, true, true, true])) (fun K s => evC (m16E k) (fun _ f => f) (m16I k) 0 m16A (m16c [true, true, false, true, true, true]) s K) (m16K6 (fun _ f => f) k) j (m16S9 t0 t1 t5) = m16F9 k j t0 t1 t5
  | 0, _, _, _ => rfl
  | j + 1, t0, t1, t5 => by
    have e0 : m16F9 k j = (fun t0' t1' t5' => loopN (normAt 0 m16A true (m16c [true, true, false, true, true, true])) (fun K s => evC (m16E k) (fun _ f => f) (m16I k) 0 m16A (m16c [true, true, false, true, true, true]) s K) (m16K6 (fun _ f => f) k) j (m16S9 t0' t1' t5')) := funext fun t0' => funext fun t1' => funext fun t5' => (m16q9 k j t0' t1' t5').symm
    show _ = m16X9 (m16F9 k j) k t0 t1 t5
    rw [e0]
    exact m16x9 (fun _ f => f) k (loopN (normAt 0 m16A true (m16c [true, true, false, true, true, true])) (fun K s => evC (m16E k) (fun _ f => f) (m16I k) 0 m16A (m16c [true, true, false, true, true, true]) s K) (m16K6 (fun _ f => f) k) j) t0 t1 t5

noncomputable def m16F (k : Nat) (p0 : (List Int)) (p1 : (List Int)) : Option Bool := m16X (m16F9 k k) k p0 p1

theorem m16q (k : Nat) (p0 : (List Int)) (p1 : (List Int)) : evC (m16E k) (fun _ f => f) (m16I k) 0 m16A (m16c []) (stAt Try.f16 (argSs [.leaf (.val (.row (.int .i64))), .leaf (.val (.row (.int .i64)))] (p0, p1)) (fun _ => none) 0) (retK Try.prog Try.f16 [.leaf (.val .bool)]) = m16F k p0 p1 := by
    have e9 : m16F9 k k = (fun t0' t1' t5' => loopN (normAt 0 m16A true (m16c [true, true, false, true, true, true])) (fun K s => evC (m16E k) (fun _ f => f) (m16I k) 0 m16A (m16c [true, true, false, true, true, true]) s K) (m16K6 (fun _ f => f) k) k (m16S9 t0' t1' t5')) := funext fun t0' => funext fun t1' => funext fun t5' => (m16q9 k k t0' t1' t5').symm
    show _ = m16X (m16F9 k k) k p0 p1
    rw [e9]
    exact m16x (fun _ f => f) k p0 p1

noncomputable def m16sp : Spec := { ps := [.leaf (.val (.row (.int .i64))), .leaf (.val (.row (.int .i64)))], rs := [.leaf (.val .bool)], f := fun k a => m16F k a.1 a.2 }

theorem m16ok (k : Nat) : EnvOk (m16E k) := envOk_of (l := []) (lB := []) progNames progMixed rfl rfl (.nil) (.nil)

theorem m16con (k : Nat) : Contract Try.prog k 16 m16sp := contract_of (E := m16E k) (m16ok k) (A := only 16 m16A) (d := 3) (c := m16c []) (by kernel_rfl) (by kernel_rfl) fun a _ h => (m16q k a.1 a.2).trans h

noncomputable def m12A : Anns := tabA []
noncomputable def m12E (k : Nat) : Env := { P := Try.prog, k := k, G := tabG [(10, m10sp), (15, m15sp), (16, m16sp)], GB := tabGB [] }
noncomputable def m12c (p : List Bool) : Code := sub p (bodyOf Try.f12)
noncomputable def m12I (k : Nat) : Inl Bool := inlOf (m12E k) (only 12 m12A) 3
noncomputable def m12K0 (M : Cut Bool) (k : Nat) : Exit → St → Option Bool := seqK (normAt 0 m12A false (m12c [true])) (cutK M m12A (m12c [true]) fun s => evC (m12E k) M (m12I k) 0 m12A (m12c [true]) s (retK Try.prog Try.f12 [.leaf (.val .bool)])) (retK Try.prog Try.f12 [.leaf (.val .bool)])
noncomputable def m12K1 (M : Cut Bool) (k : Nat) : Exit → St → Option Bool := seqK (normAt 0 m12A false (m12c [true, true])) (cutK M m12A (m12c [true, true]) fun s => evC (m12E k) M (m12I k) 0 m12A (m12c [true, true]) s (retK Try.prog Try.f12 [.leaf (.val .bool)])) (retK Try.prog Try.f12 [.leaf (.val .bool)])
noncomputable def m12K2 (M : Cut Bool) (k : Nat) : Exit → St → Option Bool := seqK (normAt 0 m12A false (m12c [true, true, true])) (cutK M m12A (m12c [true, true, true]) fun s => evC (m12E k) M (m12I k) 0 m12A (m12c [true, true, true]) s (retK Try.prog Try.f12 [.leaf (.val .bool)])) (retK Try.prog Try.f12 [.leaf (.val .bool)])

noncomputable def m12X (k : Nat) : Option Bool := (Option.bind (m15F k (List.set (List.replicate 1 0) 0 165)) fun (c2 : ((List Int) × Int)) => (if eqI (Prod.snd c2) 0 = true then (Option.bind (m16F k (Prod.fst c2) (List.set (List.set (List.replicate 2 0) 0 10) 1 5)) fun (c3 : Bool) => (if c3 = true then (Option.bind (m10F k 7) fun (c4 : Int) => some (eqI c4 3)) else some (false))) else some (false)))

theorem m12x (M : Cut Bool) (k : Nat) : evC (m12E k) M (m12I k) 0 m12A (m12c []) (stAt Try.f12 (argSs [] ()) (fun _ => none) 0) (retK Try.prog Try.f12 [.leaf (.val .bool)]) = m12X k := by kernel_rfl

noncomputable def m12F (k : Nat) : Option Bool := m12X k

theorem m12q (k : Nat) : evC (m12E k) (fun _ f => f) (m12I k) 0 m12A (m12c []) (stAt Try.f12 (argSs [] ()) (fun _ => none) 0) (retK Try.prog Try.f12 [.leaf (.val .bool)]) = m12F k := by
    show _ = m12X k
    exact m12x (fun _ f => f) k

noncomputable def m12sp : Spec := { ps := [], rs := [.leaf (.val .bool)], f := fun k a => m12F k }

theorem m12ok (k : Nat) : EnvOk (m12E k) := envOk_of (l := [(10, m10sp), (15, m15sp), (16, m16sp)]) (lB := []) progNames progMixed rfl rfl (.cons ⟨m10con k, Try.f10, by kernel_rfl, by kernel_rfl⟩ (.cons ⟨m15con k, Try.f15, by kernel_rfl, by kernel_rfl⟩ (.cons ⟨m16con k, Try.f16, by kernel_rfl, by kernel_rfl⟩ (.nil)))) (.nil)

theorem m12con (k : Nat) : Contract Try.prog k 12 m12sp := contract_of (E := m12E k) (m12ok k) (A := only 12 m12A) (d := 3) (c := m12c []) (by kernel_rfl) (by kernel_rfl) fun a _ h => (m12q k).trans h

noncomputable def m13A : Anns := tabA []
noncomputable def m13E (k : Nat) : Env := { P := Try.prog, k := k, G := tabG [], GB := tabGB [] }
noncomputable def m13c (p : List Bool) : Code := sub p (bodyOf Try.f13)
noncomputable def m13I (k : Nat) : Inl (List Int) := inlOf (m13E k) (only 13 m13A) 3
noncomputable def m13K0 (M : Cut (List Int)) (k : Nat) : Exit → St → Option (List Int) := seqK (normAt 0 m13A false (m13c [true])) (cutK M m13A (m13c [true]) fun s => evC (m13E k) M (m13I k) 0 m13A (m13c [true]) s (retK Try.prog Try.f13 [.leaf (.own (.int .u8) 5)])) (retK Try.prog Try.f13 [.leaf (.own (.int .u8) 5)])
noncomputable def m13K1 (M : Cut (List Int)) (k : Nat) : Exit → St → Option (List Int) := seqK (normAt 0 m13A false (m13c [true, true])) (cutK M m13A (m13c [true, true]) fun s => evC (m13E k) M (m13I k) 0 m13A (m13c [true, true]) s (retK Try.prog Try.f13 [.leaf (.own (.int .u8) 5)])) (retK Try.prog Try.f13 [.leaf (.own (.int .u8) 5)])
noncomputable def m13K2 (M : Cut (List Int)) (k : Nat) : Exit → St → Option (List Int) := seqK (normAt 0 m13A false (m13c [true, true, true])) (cutK M m13A (m13c [true, true, true]) fun s => evC (m13E k) M (m13I k) 0 m13A (m13c [true, true, true]) s (retK Try.prog Try.f13 [.leaf (.own (.int .u8) 5)])) (retK Try.prog Try.f13 [.leaf (.own (.int .u8) 5)])

noncomputable def m13X (k : Nat) (p0 : (List Int)) : Option (List Int) := (if leI (↑(List.length p0 * 1) : Int) 140737488355328 = true then some p0 else none)

theorem m13x (M : Cut (List Int)) (k : Nat) (p0 : (List Int)) : evC (m13E k) M (m13I k) 0 m13A (m13c []) (stAt Try.f13 (argSs [.leaf (.val (.row (.int .u8)))] p0) (fun _ => none) 0) (retK Try.prog Try.f13 [.leaf (.own (.int .u8) 5)]) = m13X k p0 := by kernel_rfl

noncomputable def m13F (k : Nat) (p0 : (List Int)) : Option (List Int) := m13X k p0

theorem m13q (k : Nat) (p0 : (List Int)) : evC (m13E k) (fun _ f => f) (m13I k) 0 m13A (m13c []) (stAt Try.f13 (argSs [.leaf (.val (.row (.int .u8)))] p0) (fun _ => none) 0) (retK Try.prog Try.f13 [.leaf (.own (.int .u8) 5)]) = m13F k p0 := by
    show _ = m13X k p0
    exact m13x (fun _ f => f) k p0

noncomputable def m13sp : Spec := { ps := [.leaf (.val (.row (.int .u8)))], rs := [.leaf (.own (.int .u8) 5)], f := fun k a => m13F k a }

theorem m13ok (k : Nat) : EnvOk (m13E k) := envOk_of (l := []) (lB := []) progNames progMixed rfl rfl (.nil) (.nil)

theorem m13con (k : Nat) : Contract Try.prog k 13 m13sp := contract_of (E := m13E k) (m13ok k) (A := only 13 m13A) (d := 3) (c := m13c []) (by kernel_rfl) (by kernel_rfl) fun a _ h => (m13q k a).trans h

noncomputable def m14A : Anns := tabA []
noncomputable def m14E (k : Nat) : Env := { P := Try.prog, k := k, G := tabG [(34, m34sp)], GB := tabGB [] }
noncomputable def m14c (p : List Bool) : Code := sub p (bodyOf Try.f14)
noncomputable def m14I (k : Nat) : Inl ((List Int) × Int) := inlOf (m14E k) (only 14 m14A) 3
noncomputable def m14K0 (M : Cut ((List Int) × Int)) (k : Nat) : Exit → St → Option ((List Int) × Int) := seqK (normAt 0 m14A false (m14c [true])) (cutK M m14A (m14c [true]) fun s => evC (m14E k) M (m14I k) 0 m14A (m14c [true]) s (retK Try.prog Try.f14 [.leaf (.own (.int .i64) 3), .leaf (.val (.int .i64))])) (retK Try.prog Try.f14 [.leaf (.own (.int .i64) 3), .leaf (.val (.int .i64))])
noncomputable def m14K1 (M : Cut ((List Int) × Int)) (k : Nat) : Exit → St → Option ((List Int) × Int) := seqK (normAt 0 m14A false (m14c [true, true])) (cutK M m14A (m14c [true, true]) fun s => evC (m14E k) M (m14I k) 0 m14A (m14c [true, true]) s (retK Try.prog Try.f14 [.leaf (.own (.int .i64) 3), .leaf (.val (.int .i64))])) (retK Try.prog Try.f14 [.leaf (.own (.int .i64) 3), .leaf (.val (.int .i64))])

noncomputable def m14X (k : Nat) (p0 : (List Int)) : Option ((List Int) × Int) := (Option.bind (m34F k p0 1) fun (c3 : ((List Int) × Int)) => some ((Prod.fst c3, Prod.snd c3)))

theorem m14x (M : Cut ((List Int) × Int)) (k : Nat) (p0 : (List Int)) : evC (m14E k) M (m14I k) 0 m14A (m14c []) (stAt Try.f14 (argSs [.leaf (.val (.row (.int .u8)))] p0) (fun _ => none) 0) (retK Try.prog Try.f14 [.leaf (.own (.int .i64) 3), .leaf (.val (.int .i64))]) = m14X k p0 := by kernel_rfl

noncomputable def m14F (k : Nat) (p0 : (List Int)) : Option ((List Int) × Int) := m14X k p0

theorem m14q (k : Nat) (p0 : (List Int)) : evC (m14E k) (fun _ f => f) (m14I k) 0 m14A (m14c []) (stAt Try.f14 (argSs [.leaf (.val (.row (.int .u8)))] p0) (fun _ => none) 0) (retK Try.prog Try.f14 [.leaf (.own (.int .i64) 3), .leaf (.val (.int .i64))]) = m14F k p0 := by
    show _ = m14X k p0
    exact m14x (fun _ f => f) k p0

noncomputable def m14sp : Spec := { ps := [.leaf (.val (.row (.int .u8)))], rs := [.leaf (.own (.int .i64) 3), .leaf (.val (.int .i64))], f := fun k a => m14F k a }

theorem m14ok (k : Nat) : EnvOk (m14E k) := envOk_of (l := [(34, m34sp)]) (lB := []) progNames progMixed rfl rfl (.cons ⟨m34con k, Try.f34, by kernel_rfl, by kernel_rfl⟩ (.nil)) (.nil)

theorem m14con (k : Nat) : Contract Try.prog k 14 m14sp := contract_of (E := m14E k) (m14ok k) (A := only 14 m14A) (d := 3) (c := m14c []) (by kernel_rfl) (by kernel_rfl) fun a _ h => (m14q k a).trans h

noncomputable def m17A : Anns := tabA []
noncomputable def m17E (k : Nat) : Env := { P := Try.prog, k := k, G := tabG [], GB := tabGB [] }
noncomputable def m17c (p : List Bool) : Code := sub p (bodyOf Try.f17)
noncomputable def m17I (k : Nat) : Inl (List Int) := inlOf (m17E k) (only 17 m17A) 3
noncomputable def m17K0 (M : Cut (List Int)) (k : Nat) : Exit → St → Option (List Int) := seqK (normAt 0 m17A false (m17c [true])) (cutK M m17A (m17c [true]) fun s => evC (m17E k) M (m17I k) 0 m17A (m17c [true]) s (retK Try.prog Try.f17 [.leaf (.own (.int .i64) 3)])) (retK Try.prog Try.f17 [.leaf (.own (.int .i64) 3)])
noncomputable def m17K1 (M : Cut (List Int)) (k : Nat) : Exit → St → Option (List Int) := seqK (normAt 0 m17A false (m17c [true, true])) (cutK M m17A (m17c [true, true]) fun s => evC (m17E k) M (m17I k) 0 m17A (m17c [true, true]) s (retK Try.prog Try.f17 [.leaf (.own (.int .i64) 3)])) (retK Try.prog Try.f17 [.leaf (.own (.int .i64) 3)])
noncomputable def m17K2 (M : Cut (List Int)) (k : Nat) : Exit → St → Option (List Int) := seqK (normAt 0 m17A false (m17c [true, true, true])) (cutK M m17A (m17c [true, true, true]) fun s => evC (m17E k) M (m17I k) 0 m17A (m17c [true, true, true]) s (retK Try.prog Try.f17 [.leaf (.own (.int .i64) 3)])) (retK Try.prog Try.f17 [.leaf (.own (.int .i64) 3)])

noncomputable def m17X (k : Nat) (p0 : (List Int)) : Option (List Int) := (if leI (↑(List.length p0 * 8) : Int) 140737488355328 = true then some p0 else none)

theorem m17x (M : Cut (List Int)) (k : Nat) (p0 : (List Int)) : evC (m17E k) M (m17I k) 0 m17A (m17c []) (stAt Try.f17 (argSs [.leaf (.val (.row (.int .i64)))] p0) (fun _ => none) 0) (retK Try.prog Try.f17 [.leaf (.own (.int .i64) 3)]) = m17X k p0 := by kernel_rfl

noncomputable def m17F (k : Nat) (p0 : (List Int)) : Option (List Int) := m17X k p0

theorem m17q (k : Nat) (p0 : (List Int)) : evC (m17E k) (fun _ f => f) (m17I k) 0 m17A (m17c []) (stAt Try.f17 (argSs [.leaf (.val (.row (.int .i64)))] p0) (fun _ => none) 0) (retK Try.prog Try.f17 [.leaf (.own (.int .i64) 3)]) = m17F k p0 := by
    show _ = m17X k p0
    exact m17x (fun _ f => f) k p0

noncomputable def m17sp : Spec := { ps := [.leaf (.val (.row (.int .i64)))], rs := [.leaf (.own (.int .i64) 3)], f := fun k a => m17F k a }

theorem m17ok (k : Nat) : EnvOk (m17E k) := envOk_of (l := []) (lB := []) progNames progMixed rfl rfl (.nil) (.nil)

theorem m17con (k : Nat) : Contract Try.prog k 17 m17sp := contract_of (E := m17E k) (m17ok k) (A := only 17 m17A) (d := 3) (c := m17c []) (by kernel_rfl) (by kernel_rfl) fun a _ h => (m17q k a).trans h

noncomputable def m35A : Anns := tabA []
noncomputable def m35E (k : Nat) : Env := { P := Try.prog, k := k, G := tabG [], GB := tabGB [] }
noncomputable def m35c (p : List Bool) : Code := sub p (bodyOf Try.f35)
noncomputable def m35I (k : Nat) : Inl (List Int) := inlOf (m35E k) (only 35 m35A) 3
noncomputable def m35K0 (M : Cut (List Int)) (k : Nat) : Exit → St → Option (List Int) := seqK (normAt 0 m35A false (m35c [true])) (cutK M m35A (m35c [true]) fun s => evC (m35E k) M (m35I k) 0 m35A (m35c [true]) s (retK Try.prog Try.f35 [.leaf (.own (.int .u8) 5)])) (retK Try.prog Try.f35 [.leaf (.own (.int .u8) 5)])
noncomputable def m35K1 (M : Cut (List Int)) (k : Nat) : Exit → St → Option (List Int) := seqK (normAt 0 m35A false (m35c [true, true])) (cutK M m35A (m35c [true, true]) fun s => evC (m35E k) M (m35I k) 0 m35A (m35c [true, true]) s (retK Try.prog Try.f35 [.leaf (.own (.int .u8) 5)])) (retK Try.prog Try.f35 [.leaf (.own (.int .u8) 5)])
noncomputable def m35K2 (M : Cut (List Int)) (k : Nat) : Exit → St → Option (List Int) := seqK (normAt 0 m35A false (m35c [true, false, true])) (cutK M m35A (m35c [true, false, true]) fun s => evC (m35E k) M (m35I k) 0 m35A (m35c [true, false, true]) s (m35K1 M k)) (m35K1 M k)
noncomputable def m35K3 (M : Cut (List Int)) (k : Nat) : Exit → St → Option (List Int) := seqK (normAt 0 m35A false (m35c [true, false, true, false, true])) (cutK M m35A (m35c [true, false, true, false, true]) fun s => evC (m35E k) M (m35I k) 0 m35A (m35c [true, false, true, false, true]) s (m35K1 M k)) (m35K1 M k)
noncomputable def m35K4 (M : Cut (List Int)) (k : Nat) : Exit → St → Option (List Int) := seqK (normAt 0 m35A false (m35c [true, true, true])) (cutK M m35A (m35c [true, true, true]) fun s => evC (m35E k) M (m35I k) 0 m35A (m35c [true, true, true]) s (retK Try.prog Try.f35 [.leaf (.own (.int .u8) 5)])) (retK Try.prog Try.f35 [.leaf (.own (.int .u8) 5)])

noncomputable def m35X (k : Nat) (p0 : (List Int)) : Option (List Int) := (nilK (List.isEmpty p0) (some ([])) ((if leI (↑((0 + List.length p0) * 1) : Int) 140737488355328 = true then some (List.replicate 0 0 ++ p0) else none)))

theorem m35x (M : Cut (List Int)) (k : Nat) (p0 : (List Int)) : evC (m35E k) M (m35I k) 0 m35A (m35c []) (stAt Try.f35 (argSs [.leaf (.val (.row (.int .u8)))] p0) (fun _ => none) 0) (retK Try.prog Try.f35 [.leaf (.own (.int .u8) 5)]) = m35X k p0 := by kernel_rfl

noncomputable def m35F (k : Nat) (p0 : (List Int)) : Option (List Int) := m35X k p0

theorem m35q (k : Nat) (p0 : (List Int)) : evC (m35E k) (fun _ f => f) (m35I k) 0 m35A (m35c []) (stAt Try.f35 (argSs [.leaf (.val (.row (.int .u8)))] p0) (fun _ => none) 0) (retK Try.prog Try.f35 [.leaf (.own (.int .u8) 5)]) = m35F k p0 := by
    show _ = m35X k p0
    exact m35x (fun _ f => f) k p0

noncomputable def m35sp : Spec := { ps := [.leaf (.val (.row (.int .u8)))], rs := [.leaf (.own (.int .u8) 5)], f := fun k a => m35F k a }

theorem m35ok (k : Nat) : EnvOk (m35E k) := envOk_of (l := []) (lB := []) progNames progMixed rfl rfl (.nil) (.nil)

theorem m35con (k : Nat) : Contract Try.prog k 35 m35sp := contract_of (E := m35E k) (m35ok k) (A := only 35 m35A) (d := 3) (c := m35c []) (by kernel_rfl) (by kernel_rfl) fun a _ h => (m35q k a).trans h

noncomputable def m18A : Anns := tabA [(11, { keep := [1, 6, 22, 23] }), (18, { keep := [6] })]
noncomputable def m18E (k : Nat) : Env := { P := Try.prog, k := k, G := tabG [(35, m35sp)], GB := tabGB [] }
noncomputable def m18c (p : List Bool) : Code := sub p (bodyOf Try.f18)
noncomputable def m18I (k : Nat) : Inl ((List Int) × Int) := inlOf (m18E k) (only 18 m18A) 3
noncomputable def m18K0 (M : Cut ((List Int) × Int)) (k : Nat) : Exit → St → Option ((List Int) × Int) := seqK (normAt 0 m18A false (m18c [true])) (cutK M m18A (m18c [true]) fun s => evC (m18E k) M (m18I k) 0 m18A (m18c [true]) s (retK Try.prog Try.f18 [.leaf (.own (.int .u8) 5), .leaf (.val (.int .i64))])) (retK Try.prog Try.f18 [.leaf (.own (.int .u8) 5), .leaf (.val (.int .i64))])
noncomputable def m18K1 (M : Cut ((List Int) × Int)) (k : Nat) : Exit → St → Option ((List Int) × Int) := seqK (normAt 0 m18A false (m18c [true, true])) (cutK M m18A (m18c [true, true]) fun s => evC (m18E k) M (m18I k) 0 m18A (m18c [true, true]) s (retK Try.prog Try.f18 [.leaf (.own (.int .u8) 5), .leaf (.val (.int .i64))])) (retK Try.prog Try.f18 [.leaf (.own (.int .u8) 5), .leaf (.val (.int .i64))])
noncomputable def m18K2 (M : Cut ((List Int) × Int)) (k : Nat) : Exit → St → Option ((List Int) × Int) := seqK (normAt 0 m18A false (m18c [true, false, true])) (cutK M m18A (m18c [true, false, true]) fun s => evC (m18E k) M (m18I k) 0 m18A (m18c [true, false, true]) s (m18K1 M k)) (m18K1 M k)
noncomputable def m18K3 (M : Cut ((List Int) × Int)) (k : Nat) : Exit → St → Option ((List Int) × Int) := seqK (normAt 0 m18A false (m18c [true, false, true, false, true])) (cutK M m18A (m18c [true, false, true, false, true]) fun s => evC (m18E k) M (m18I k) 0 m18A (m18c [true, false, true, false, true]) s (m18K1 M k)) (m18K1 M k)
noncomputable def m18K4 (M : Cut ((List Int) × Int)) (k : Nat) : Exit → St → Option ((List Int) × Int) := seqK (normAt 0 m18A false (m18c [true, true, true])) (cutK M m18A (m18c [true, true, true]) fun s => evC (m18E k) M (m18I k) 0 m18A (m18c [true, true, true]) s (retK Try.prog Try.f18 [.leaf (.own (.int .u8) 5), .leaf (.val (.int .i64))])) (retK Try.prog Try.f18 [.leaf (.own (.int .u8) 5), .leaf (.val (.int .i64))])
noncomputable def m18K5 (M : Cut ((List Int) × Int)) (k : Nat) : Exit → St → Option ((List Int) × Int) := seqK (normAt 0 m18A false (m18c [true, true, true, true])) (cutK M m18A (m18c [true, true, true, true]) fun s => evC (m18E k) M (m18I k) 0 m18A (m18c [true, true, true, true]) s (retK Try.prog Try.f18 [.leaf (.own (.int .u8) 5), .leaf (.val (.int .i64))])) (retK Try.prog Try.f18 [.leaf (.own (.int .u8) 5), .leaf (.val (.int .i64))])
noncomputable def m18K6 (M : Cut ((List Int) × Int)) (k : Nat) : Exit → St → Option ((List Int) × Int) := seqK (normAt 0 m18A false (m18c [true, true, true, false, true])) (cutK M m18A (m18c [true, true, true, false, true]) fun s => evC (m18E k) M (m18I k) 0 m18A (m18c [true, true, true, false, true]) s (m18K5 M k)) (m18K5 M k)
noncomputable def m18K7 (M : Cut ((List Int) × Int)) (k : Nat) : Exit → St → Option ((List Int) × Int) := blockK 0 (m18K5 M k)
noncomputable def m18K8 (M : Cut ((List Int) × Int)) (k : Nat) (L11 : St → Option ((List Int) × Int)) : Exit → St → Option ((List Int) × Int) := seqK (normAt 0 m18A true (m18c [true, true, true, false, true, true, true])) L11 (m18K7 M k)
noncomputable def m18K9 (M : Cut ((List Int) × Int)) (k : Nat) (L11 : St → Option ((List Int) × Int)) : Exit → St → Option ((List Int) × Int) := seqK (normAt 0 m18A false (m18c [true, true, true, false, true, true, true, true])) (cutK M m18A (m18c [true, true, true, false, true, true, true, true]) fun s => evC (m18E k) M (m18I k) 0 m18A (m18c [true, true, true, false, true, true, true, true]) s (m18K8 M k L11)) (m18K8 M k L11)
noncomputable def m18K10 (M : Cut ((List Int) × Int)) (k : Nat) (L11 : St → Option ((List Int) × Int)) : Exit → St → Option ((List Int) × Int) := seqK (normAt 0 m18A false (m18c [true, true, true, false, true, true, true, true, true])) (cutK M m18A (m18c [true, true, true, false, true, true, true, true, true]) fun s => evC (m18E k) M (m18I k) 0 m18A (m18c [true, true, true, false, true, true, true, true, true]) s (m18K8 M k L11)) (m18K8 M k L11)
noncomputable def m18K11 (M : Cut ((List Int) × Int)) (k : Nat) (L11 : St → Option ((List Int) × Int)) : Exit → St → Option ((List Int) × Int) := seqK (normAt 0 m18A false (m18c [true, true, true, false, true, true, true, true, true, true])) (cutK M m18A (m18c [true, true, true, false, true, true, true, true, true, true]) fun s => evC (m18E k) M (m18I k) 0 m18A (m18c [true, true, true, false, true, true, true, true, true, true]) s (m18K8 M k L11)) (m18K8 M k L11)
noncomputable def m18K12 (M : Cut ((List Int) × Int)) (k : Nat) (L11 : St → Option ((List Int) × Int)) : Exit → St → Option ((List Int) × Int) := blockK 1 (m18K11 M k L11)
noncomputable def m18K13 (M : Cut ((List Int) × Int)) (k : Nat) (L11 : St → Option ((List Int) × Int)) : Exit → St → Option ((List Int) × Int) := seqK (normAt 0 m18A false (m18c [true, true, true, false, true, true, true, true, true, false, true, true])) (cutK M m18A (m18c [true, true, true, false, true, true, true, true, true, false, true, true]) fun s => evC (m18E k) M (m18I k) 0 m18A (m18c [true, true, true, false, true, true, true, true, true, false, true, true]) s (m18K12 M k L11)) (m18K12 M k L11)
noncomputable def m18K14 (M : Cut ((List Int) × Int)) (k : Nat) : Exit → St → Option ((List Int) × Int) := seqK (normAt 0 m18A false (m18c [true, true, true, true, true])) (cutK M m18A (m18c [true, true, true, true, true]) fun s => evC (m18E k) M (m18I k) 0 m18A (m18c [true, true, true, true, true]) s (retK Try.prog Try.f18 [.leaf (.own (.int .u8) 5), .leaf (.val (.int .i64))])) (retK Try.prog Try.f18 [.leaf (.own (.int .u8) 5), .leaf (.val (.int .i64))])
noncomputable def m18S11 (t1 : List Int) (t22 : Int) (t23 : Int) (b0 : List Int) : St := { n := 38, tm := slots [(1, .row (.int .u8) t1), (6, .own 0), (22, .int .i64 t22), (23, .int .i64 t23)], tab := blks [some (.row true (.int .u8) 5 b0)], nx := 1 }
noncomputable def m18S18 (b0 : List Int) : St := { n := 38, tm := slots [(6, .own 0)], tab := blks [some (.row true (.int .u8) 5 b0)], nx := 1 }

noncomputable def m18X (X11 : List Int → Int → Int → List Int → Option ((List Int) × Int)) (k : Nat) (p0 : (List Int)) (p1 : (List Int)) : Option ((List Int) × Int) := (if ltI 4096 (↑(List.length p0) : Int) = true then some (([], 2)) else (if ltI 4096 (↑(List.length p1) : Int) = true then some (([], 2)) else (Option.bind (m35F k p0) fun (c4 : (List Int)) => X11 p1 (mn (↑(List.length p0) : Int) (↑(List.length p1) : Int)) (0) c4)))

theorem m18x (M : Cut ((List Int) × Int)) (k : Nat) (p0 : (List Int)) (p1 : (List Int)) : evC (m18E k) M (m18I k) 0 m18A (m18c []) (stAt Try.f18 (argSs [.leaf (.val (.row (.int .u8))), .leaf (.val (.row (.int .u8)))] (p0, p1)) (fun _ => none) 0) (retK Try.prog Try.f18 [.leaf (.own (.int .u8) 5), .leaf (.val (.int .i64))]) = m18X (fun t1' t22' t23' b0' => loopN (normAt 0 m18A true (m18c [true, true, true, false, true, true, true])) (fun K s => evC (m18E k) M (m18I k) 0 m18A (m18c [true, true, true, false, true, true, true]) s K) (m18K7 M k) k (m18S11 t1' t22' t23' b0')) k p0 p1 := by kernel_rfl

noncomputable def m18X11 (X18 : List Int → Option ((List Int) × Int)) (L11 : List Int → Int → Int → List Int → Option ((List Int) × Int)) (k : Nat) (t1 : List Int) (t22 : Int) (t23 : Int) (b0 : List Int) : Option ((List Int) × Int) := (if ltI t23 t22 = true then (if leI 0 t23 = true then (if ltI t23 (↑(List.length b0) : Int) = true then (if leI 0 t23 = true then (if ltI t23 (↑(List.length t1) : Int) = true then (if leI 0 t23 = true then (if ltI t23 (↑(List.length b0) : Int) = true then L11 t1 t22 (wr IntKind.i64 (t23 + 1)) (List.set b0 (Int.toNat t23)
  (bits BinOp.xor IntKind.u8 (List.getD b0 (Int.toNat t23) 0) (List.getD t1 (Int.toNat t23) 0))) else none) else none) else none) else none) else none) else none) else X18 b0)

theorem m18x11 (M : Cut ((List Int) × Int)) (k : Nat) (L11 : St → Option ((List Int) × Int)) (t1 : List Int) (t22 : Int) (t23 : Int) (b0 : List Int) : evC (m18E k) M (m18I k) 0 m18A (m18c [true, true, true, false, true, true, true]) (m18S11 t1 t22 t23 b0) (seqK (normAt 0 m18A true (m18c [true, true, true, false, true, true, true])) L11 (m18K7 M k)) = m18X11 (fun b0' => M 18 (fun s => evC (m18E k) M (m18I k) 0 m18A (m18c [true, true, true, true]) s (retK Try.prog Try.f18 [.leaf (.own (.int .u8) 5), .leaf (.val (.int .i64))])) (m18S18 b0')) (fun t1' t22' t23' b0' => L11 (m18S11 t1' t22' t23' b0')) k t1 t22 t23 b0 := by kernel_rfl

noncomputable def m18X18 (k : Nat) (b0 : List Int) : Option ((List Int) × Int) := some ((b0, 0))

theorem m18x18 (M : Cut ((List Int) × Int)) (k : Nat) (b0 : List Int) : evC (m18E k) M (m18I k) 0 m18A (m18c [true, true, true, true]) (m18S18 b0) (retK Try.prog Try.f18 [.leaf (.own (.int .u8) 5), .leaf (.val (.int .i64))]) = m18X18 k b0 := by kernel_rfl

noncomputable def m18F18 (k : Nat) (b0 : List Int) : Option ((List Int) × Int) := m18X18 k b0

theorem m18q18 (k : Nat) (b0 : List Int) : evC (m18E k) (fun _ f => f) (m18I k) 0 m18A (m18c [true, true, true, true]) (m18S18 b0) (retK Try.prog Try.f18 [.leaf (.own (.int .u8) 5), .leaf (.val (.int .i64))]) = m18F18 k b0 := by
    show _ = m18X18 k b0
    exact m18x18 (fun _ f => f) k b0

noncomputable def m18F11 (k : Nat) : Nat → List Int → Int → Int → List Int → Option ((List Int) × Int)
  | 0, _, _, _, _ => none
  | j + 1, t1, t22, t23, b0 => m18X11 (m18F18 k) (m18F11 k j) k t1 t22 t23 b0

theorem m18q11 (k : Nat) : ∀ (j : Nat) (t1 : List Int) (t22 : Int) (t23 : Int) (b0 : List Int), loopN (normAt 0 m18A true (m18c [true, true, true, false, true, true, true])) (fun K s => evC (m18E k) (fun _ f => f) (m18I k) 0 m18A (m18c [true, true, true, false, true, true, true]) s K) (m18K7 (fun _ f => f) k) j (m18S11 t1 t22 t23 b0) = m18F11 k j t1 t22 t23 b0
  | 0, _, _, _, _ => rfl
  | j + 1, t1, t22, t23, b0 => by
    have e0 : m18F11 k j = (fun t1' t22' t23' b0' => loopN (normAt 0 m18A true (m18c [true, true, true, false, true, true, true])) (fun K s => evC (m18E k) (fun _ f => f) (m18I k) 0 m18A (m18c [true, true, true, false, true, true, true]) s K) (m18K7 (fun _ f => f) k) j (m18S11 t1' t22' t23' b0')) := funext fun t1' => funext fun t22' => funext fun t23' => funext fun b0' => (m18q11 k j t1' t22' t23' b0').symm
    have e18 : m18F18 k = (fun b0' => evC (m18E k) (fun _ f => f) (m18I k) 0 m18A (m18c [true, true, true, true]) (m18S18 b0') (retK Try.prog Try.f18 [.leaf (.own (.int .u8) 5), .leaf (.val (.int .i64))])) := funext fun b0' => (m18q18 k b0').symm
    show _ = m18X11 (m18F18 k) (m18F11 k j) k t1 t22 t23 b0
    rw [e0, e18]
    exact m18x11 (fun _ f => f) k (loopN (normAt 0 m18A true (m18c [true, true, true, false, true, true, true])) (fun K s => evC (m18E k) (fun _ f => f) (m18I k) 0 m18A (m18c [true, true, true, false, true, true, true]) s K) (m18K7 (fun _ f => f) k) j) t1 t22 t23 b0

noncomputable def m18F (k : Nat) (p0 : (List Int)) (p1 : (List Int)) : Option ((List Int) × Int) := m18X (m18F11 k k) k p0 p1

theorem m18q (k : Nat) (p0 : (List Int)) (p1 : (List Int)) : evC (m18E k) (fun _ f => f) (m18I k) 0 m18A (m18c []) (stAt Try.f18 (argSs [.leaf (.val (.row (.int .u8))), .leaf (.val (.row (.int .u8)))] (p0, p1)) (fun _ => none) 0) (retK Try.prog Try.f18 [.leaf (.own (.int .u8) 5), .leaf (.val (.int .i64))]) = m18F k p0 p1 := by
    have e11 : m18F11 k k = (fun t1' t22' t23' b0' => loopN (normAt 0 m18A true (m18c [true, true, true, false, true, true, true])) (fun K s => evC (m18E k) (fun _ f => f) (m18I k) 0 m18A (m18c [true, true, true, false, true, true, true]) s K) (m18K7 (fun _ f => f) k) k (m18S11 t1' t22' t23' b0')) := funext fun t1' => funext fun t22' => funext fun t23' => funext fun b0' => (m18q11 k k t1' t22' t23' b0').symm
    show _ = m18X (m18F11 k k) k p0 p1
    rw [e11]
    exact m18x (fun _ f => f) k p0 p1

noncomputable def m18sp : Spec := { ps := [.leaf (.val (.row (.int .u8))), .leaf (.val (.row (.int .u8)))], rs := [.leaf (.own (.int .u8) 5), .leaf (.val (.int .i64))], f := fun k a => m18F k a.1 a.2 }

theorem m18ok (k : Nat) : EnvOk (m18E k) := envOk_of (l := [(35, m35sp)]) (lB := []) progNames progMixed rfl rfl (.cons ⟨m35con k, Try.f35, by kernel_rfl, by kernel_rfl⟩ (.nil)) (.nil)

theorem m18con (k : Nat) : Contract Try.prog k 18 m18sp := contract_of (E := m18E k) (m18ok k) (A := only 18 m18A) (d := 3) (c := m18c []) (by kernel_rfl) (by kernel_rfl) fun a _ h => (m18q k a.1 a.2).trans h

noncomputable def m19A : Anns := tabA [(11, { keep := [1, 6, 7] }), (16, { keep := [6] })]
noncomputable def m19E (k : Nat) : Env := { P := Try.prog, k := k, G := tabG [(13, m13sp)], GB := tabGB [] }
noncomputable def m19c (p : List Bool) : Code := sub p (bodyOf Try.f19)
noncomputable def m19I (k : Nat) : Inl ((List Int) × Int) := inlOf (m19E k) (only 19 m19A) 3
noncomputable def m19K0 (M : Cut ((List Int) × Int)) (k : Nat) : Exit → St → Option ((List Int) × Int) := seqK (normAt 0 m19A false (m19c [true])) (cutK M m19A (m19c [true]) fun s => evC (m19E k) M (m19I k) 0 m19A (m19c [true]) s (retK Try.prog Try.f19 [.leaf (.own (.int .u8) 5), .leaf (.val (.int .i64))])) (retK Try.prog Try.f19 [.leaf (.own (.int .u8) 5), .leaf (.val (.int .i64))])
noncomputable def m19K1 (M : Cut ((List Int) × Int)) (k : Nat) : Exit → St → Option ((List Int) × Int) := seqK (normAt 0 m19A false (m19c [true, true])) (cutK M m19A (m19c [true, true]) fun s => evC (m19E k) M (m19I k) 0 m19A (m19c [true, true]) s (retK Try.prog Try.f19 [.leaf (.own (.int .u8) 5), .leaf (.val (.int .i64))])) (retK Try.prog Try.f19 [.leaf (.own (.int .u8) 5), .leaf (.val (.int .i64))])
noncomputable def m19K2 (M : Cut ((List Int) × Int)) (k : Nat) : Exit → St → Option ((List Int) × Int) := seqK (normAt 0 m19A false (m19c [true, false, true])) (cutK M m19A (m19c [true, false, true]) fun s => evC (m19E k) M (m19I k) 0 m19A (m19c [true, false, true]) s (m19K1 M k)) (m19K1 M k)
noncomputable def m19K3 (M : Cut ((List Int) × Int)) (k : Nat) : Exit → St → Option ((List Int) × Int) := seqK (normAt 0 m19A false (m19c [true, false, true, false, true])) (cutK M m19A (m19c [true, false, true, false, true]) fun s => evC (m19E k) M (m19I k) 0 m19A (m19c [true, false, true, false, true]) s (m19K1 M k)) (m19K1 M k)
noncomputable def m19K4 (M : Cut ((List Int) × Int)) (k : Nat) : Exit → St → Option ((List Int) × Int) := seqK (normAt 0 m19A false (m19c [true, true, true])) (cutK M m19A (m19c [true, true, true]) fun s => evC (m19E k) M (m19I k) 0 m19A (m19c [true, true, true]) s (retK Try.prog Try.f19 [.leaf (.own (.int .u8) 5), .leaf (.val (.int .i64))])) (retK Try.prog Try.f19 [.leaf (.own (.int .u8) 5), .leaf (.val (.int .i64))])
noncomputable def m19K5 (M : Cut ((List Int) × Int)) (k : Nat) : Exit → St → Option ((List Int) × Int) := seqK (normAt 0 m19A false (m19c [true, true, true, true])) (cutK M m19A (m19c [true, true, true, true]) fun s => evC (m19E k) M (m19I k) 0 m19A (m19c [true, true, true, true]) s (retK Try.prog Try.f19 [.leaf (.own (.int .u8) 5), .leaf (.val (.int .i64))])) (retK Try.prog Try.f19 [.leaf (.own (.int .u8) 5), .leaf (.val (.int .i64))])
noncomputable def m19K6 (M : Cut ((List Int) × Int)) (k : Nat) : Exit → St → Option ((List Int) × Int) := seqK (normAt 0 m19A false (m19c [true, true, true, false, true])) (cutK M m19A (m19c [true, true, true, false, true]) fun s => evC (m19E k) M (m19I k) 0 m19A (m19c [true, true, true, false, true]) s (m19K5 M k)) (m19K5 M k)
noncomputable def m19K7 (M : Cut ((List Int) × Int)) (k : Nat) : Exit → St → Option ((List Int) × Int) := blockK 0 (m19K5 M k)
noncomputable def m19K8 (M : Cut ((List Int) × Int)) (k : Nat) (L11 : St → Option ((List Int) × Int)) : Exit → St → Option ((List Int) × Int) := seqK (normAt 0 m19A true (m19c [true, true, true, false, true, true, true])) L11 (m19K7 M k)
noncomputable def m19K9 (M : Cut ((List Int) × Int)) (k : Nat) (L11 : St → Option ((List Int) × Int)) : Exit → St → Option ((List Int) × Int) := seqK (normAt 0 m19A false (m19c [true, true, true, false, true, true, true, true])) (cutK M m19A (m19c [true, true, true, false, true, true, true, true]) fun s => evC (m19E k) M (m19I k) 0 m19A (m19c [true, true, true, false, true, true, true, true]) s (m19K8 M k L11)) (m19K8 M k L11)
noncomputable def m19K10 (M : Cut ((List Int) × Int)) (k : Nat) (L11 : St → Option ((List Int) × Int)) : Exit → St → Option ((List Int) × Int) := seqK (normAt 0 m19A false (m19c [true, true, true, false, true, true, true, false, true])) (cutK M m19A (m19c [true, true, true, false, true, true, true, false, true]) fun s => evC (m19E k) M (m19I k) 0 m19A (m19c [true, true, true, false, true, true, true, false, true]) s (m19K9 M k L11)) (m19K9 M k L11)
noncomputable def m19K11 (M : Cut ((List Int) × Int)) (k : Nat) (L11 : St → Option ((List Int) × Int)) : Exit → St → Option ((List Int) × Int) := seqK (normAt 0 m19A false (m19c [true, true, true, false, true, true, true, true, true])) (cutK M m19A (m19c [true, true, true, false, true, true, true, true, true]) fun s => evC (m19E k) M (m19I k) 0 m19A (m19c [true, true, true, false, true, true, true, true, true]) s (m19K8 M k L11)) (m19K8 M k L11)
noncomputable def m19K12 (M : Cut ((List Int) × Int)) (k : Nat) (L11 : St → Option ((List Int) × Int)) : Exit → St → Option ((List Int) × Int) := blockK 1 (m19K11 M k L11)
noncomputable def m19K13 (M : Cut ((List Int) × Int)) (k : Nat) : Exit → St → Option ((List Int) × Int) := seqK (normAt 0 m19A false (m19c [true, true, true, true, true])) (cutK M m19A (m19c [true, true, true, true, true]) fun s => evC (m19E k) M (m19I k) 0 m19A (m19c [true, true, true, true, true]) s (retK Try.prog Try.f19 [.leaf (.own (.int .u8) 5), .leaf (.val (.int .i64))])) (retK Try.prog Try.f19 [.leaf (.own (.int .u8) 5), .leaf (.val (.int .i64))])
noncomputable def m19S11 (t1 : List Int) (t7 : Int) (b0 : List Int) : St := { n := 41, tm := slots [(1, .row (.int .u8) t1), (6, .own 0), (7, .int .i64 t7)], tab := blks [some (.row true (.int .u8) 5 b0)], nx := 1 }
noncomputable def m19S16 (b0 : List Int) : St := { n := 41, tm := slots [(6, .own 0)], tab := blks [some (.row true (.int .u8) 5 b0)], nx := 1 }

noncomputable def m19X (X11 : List Int → Int → List Int → Option ((List Int) × Int)) (k : Nat) (p0 : (List Int)) (p1 : (List Int)) : Option ((List Int) × Int) := (if ltI 4096 (↑(List.length p0) : Int) = true then some (([], 2)) else (if ltI 4096 (↑(List.length p1) : Int) = true then some (([], 2)) else (Option.bind (m13F k p0) fun (c4 : (List Int)) => X11 p1 (0) c4)))

theorem m19x (M : Cut ((List Int) × Int)) (k : Nat) (p0 : (List Int)) (p1 : (List Int)) : evC (m19E k) M (m19I k) 0 m19A (m19c []) (stAt Try.f19 (argSs [.leaf (.val (.row (.int .u8))), .leaf (.val (.row (.int .u8)))] (p0, p1)) (fun _ => none) 0) (retK Try.prog Try.f19 [.leaf (.own (.int .u8) 5), .leaf (.val (.int .i64))]) = m19X (fun t1' t7' b0' => loopN (normAt 0 m19A true (m19c [true, true, true, false, true, true, true])) (fun K s => evC (m19E k) M (m19I k) 0 m19A (m19c [true, true, true, false, true, true, true]) s K) (m19K7 M k) k (m19S11 t1' t7' b0')) k p0 p1 := by kernel_rfl

noncomputable def m19X11 (X16 : List Int → Option ((List Int) × Int)) (L11 : List Int → Int → List Int → Option ((List Int) × Int)) (k : Nat) (t1 : List Int) (t7 : Int) (b0 : List Int) : Option ((List Int) × Int) := (if ltI t7 (↑(List.length b0) : Int) = true then (if ltI t7 (↑(List.length t1) : Int) = true then (if leI 0 t7 = true then (if ltI t7 (↑(List.length b0) : Int) = true then (if leI 0 t7 = true then (if ltI t7 (↑(List.length t1) : Int) = true then (if leI 0 t7 = true then (if ltI t7 (↑(List.length b0) : Int) = true then L11 t1 (wr IntKind.i64 (t7 + 1)) (List.set b0 (Int.toNat t7) (bits BinOp.xor IntKind.u8 (List.getD b0 (Int.toNat t7) 0) (List.getD t1 (Int.toNat t7) 0))) else none) else none) else none) else none) else none) else none) else X16 b0) else X16 b0)

theorem m19x11 (M : Cut ((List Int) × Int)) (k : Nat) (L11 : St → Option ((List Int) × Int)) (t1 : List Int) (t7 : Int) (b0 : List Int) : evC (m19E k) M (m19I k) 0 m19A (m19c [true, true, true, false, true, true, true]) (m19S11 t1 t7 b0) (seqK (normAt 0 m19A true (m19c [true, true, true, false, true, true, true])) L11 (m19K7 M k)) = m19X11 (fun b0' => M 16 (fun s => evC (m19E k) M (m19I k) 0 m19A (m19c [true, true, true, true]) s (retK Try.prog Try.f19 [.leaf (.own (.int .u8) 5), .leaf (.val (.int .i64))])) (m19S16 b0')) (fun t1' t7' b0' => L11 (m19S11 t1' t7' b0')) k t1 t7 b0 := by kernel_rfl

noncomputable def m19X16 (k : Nat) (b0 : List Int) : Option ((List Int) × Int) := some ((b0, 0))

theorem m19x16 (M : Cut ((List Int) × Int)) (k : Nat) (b0 : List Int) : evC (m19E k) M (m19I k) 0 m19A (m19c [true, true, true, true]) (m19S16 b0) (retK Try.prog Try.f19 [.leaf (.own (.int .u8) 5), .leaf (.val (.int .i64))]) = m19X16 k b0 := by kernel_rfl

noncomputable def m19F16 (k : Nat) (b0 : List Int) : Option ((List Int) × Int) := m19X16 k b0

theorem m19q16 (k : Nat) (b0 : List Int) : evC (m19E k) (fun _ f => f) (m19I k) 0 m19A (m19c [true, true, true, true]) (m19S16 b0) (retK Try.prog Try.f19 [.leaf (.own (.int .u8) 5), .leaf (.val (.int .i64))]) = m19F16 k b0 := by
    show _ = m19X16 k b0
    exact m19x16 (fun _ f => f) k b0

noncomputable def m19F11 (k : Nat) : Nat → List Int → Int → List Int → Option ((List Int) × Int)
  | 0, _, _, _ => none
  | j + 1, t1, t7, b0 => m19X11 (m19F16 k) (m19F11 k j) k t1 t7 b0

theorem m19q11 (k : Nat) : ∀ (j : Nat) (t1 : List Int) (t7 : Int) (b0 : List Int), loopN (normAt 0 m19A true (m19c [true, true, true, false, true, true, true])) (fun K s => evC (m19E k) (fun _ f => f) (m19I k) 0 m19A (m19c [true, true, true, false, true, true, true]) s K) (m19K7 (fun _ f => f) k) j (m19S11 t1 t7 b0) = m19F11 k j t1 t7 b0
  | 0, _, _, _ => rfl
  | j + 1, t1, t7, b0 => by
    have e0 : m19F11 k j = (fun t1' t7' b0' => loopN (normAt 0 m19A true (m19c [true, true, true, false, true, true, true])) (fun K s => evC (m19E k) (fun _ f => f) (m19I k) 0 m19A (m19c [true, true, true, false, true, true, true]) s K) (m19K7 (fun _ f => f) k) j (m19S11 t1' t7' b0')) := funext fun t1' => funext fun t7' => funext fun b0' => (m19q11 k j t1' t7' b0').symm
    have e16 : m19F16 k = (fun b0' => evC (m19E k) (fun _ f => f) (m19I k) 0 m19A (m19c [true, true, true, true]) (m19S16 b0') (retK Try.prog Try.f19 [.leaf (.own (.int .u8) 5), .leaf (.val (.int .i64))])) := funext fun b0' => (m19q16 k b0').symm
    show _ = m19X11 (m19F16 k) (m19F11 k j) k t1 t7 b0
    rw [e0, e16]
    exact m19x11 (fun _ f => f) k (loopN (normAt 0 m19A true (m19c [true, true, true, false, true, true, true])) (fun K s => evC (m19E k) (fun _ f => f) (m19I k) 0 m19A (m19c [true, true, true, false, true, true, true]) s K) (m19K7 (fun _ f => f) k) j) t1 t7 b0

noncomputable def m19F (k : Nat) (p0 : (List Int)) (p1 : (List Int)) : Option ((List Int) × Int) := m19X (m19F11 k k) k p0 p1

theorem m19q (k : Nat) (p0 : (List Int)) (p1 : (List Int)) : evC (m19E k) (fun _ f => f) (m19I k) 0 m19A (m19c []) (stAt Try.f19 (argSs [.leaf (.val (.row (.int .u8))), .leaf (.val (.row (.int .u8)))] (p0, p1)) (fun _ => none) 0) (retK Try.prog Try.f19 [.leaf (.own (.int .u8) 5), .leaf (.val (.int .i64))]) = m19F k p0 p1 := by
    have e11 : m19F11 k k = (fun t1' t7' b0' => loopN (normAt 0 m19A true (m19c [true, true, true, false, true, true, true])) (fun K s => evC (m19E k) (fun _ f => f) (m19I k) 0 m19A (m19c [true, true, true, false, true, true, true]) s K) (m19K7 (fun _ f => f) k) k (m19S11 t1' t7' b0')) := funext fun t1' => funext fun t7' => funext fun b0' => (m19q11 k k t1' t7' b0').symm
    show _ = m19X (m19F11 k k) k p0 p1
    rw [e11]
    exact m19x (fun _ f => f) k p0 p1

noncomputable def m19sp : Spec := { ps := [.leaf (.val (.row (.int .u8))), .leaf (.val (.row (.int .u8)))], rs := [.leaf (.own (.int .u8) 5), .leaf (.val (.int .i64))], f := fun k a => m19F k a.1 a.2 }

theorem m19ok (k : Nat) : EnvOk (m19E k) := envOk_of (l := [(13, m13sp)]) (lB := []) progNames progMixed rfl rfl (.cons ⟨m13con k, Try.f13, by kernel_rfl, by kernel_rfl⟩ (.nil)) (.nil)

theorem m19con (k : Nat) : Contract Try.prog k 19 m19sp := contract_of (E := m19E k) (m19ok k) (A := only 19 m19A) (d := 3) (c := m19c []) (by kernel_rfl) (by kernel_rfl) fun a _ h => (m19q k a.1 a.2).trans h

noncomputable def m20A : Anns := tabA [(9, { keep := [0, 1, 5] })]
noncomputable def m20E (k : Nat) : Env := { P := Try.prog, k := k, G := tabG [], GB := tabGB [] }
noncomputable def m20c (p : List Bool) : Code := sub p (bodyOf Try.f20)
noncomputable def m20I (k : Nat) : Inl Bool := inlOf (m20E k) (only 20 m20A) 3
noncomputable def m20K0 (M : Cut Bool) (k : Nat) : Exit → St → Option Bool := seqK (normAt 0 m20A false (m20c [true])) (cutK M m20A (m20c [true]) fun s => evC (m20E k) M (m20I k) 0 m20A (m20c [true]) s (retK Try.prog Try.f20 [.leaf (.val .bool)])) (retK Try.prog Try.f20 [.leaf (.val .bool)])
noncomputable def m20K1 (M : Cut Bool) (k : Nat) : Exit → St → Option Bool := seqK (normAt 0 m20A false (m20c [true, true])) (cutK M m20A (m20c [true, true]) fun s => evC (m20E k) M (m20I k) 0 m20A (m20c [true, true]) s (retK Try.prog Try.f20 [.leaf (.val .bool)])) (retK Try.prog Try.f20 [.leaf (.val .bool)])
noncomputable def m20K2 (M : Cut Bool) (k : Nat) : Exit → St → Option Bool := seqK (normAt 0 m20A false (m20c [true, false, true])) (cutK M m20A (m20c [true, false, true]) fun s => evC (m20E k) M (m20I k) 0 m20A (m20c [true, false, true]) s (m20K1 M k)) (m20K1 M k)
noncomputable def m20K3 (M : Cut Bool) (k : Nat) : Exit → St → Option Bool := seqK (normAt 0 m20A false (m20c [true, false, true, false, true])) (cutK M m20A (m20c [true, false, true, false, true]) fun s => evC (m20E k) M (m20I k) 0 m20A (m20c [true, false, true, false, true]) s (m20K1 M k)) (m20K1 M k)
noncomputable def m20K4 (M : Cut Bool) (k : Nat) : Exit → St → Option Bool := seqK (normAt 0 m20A false (m20c [true, true, true])) (cutK M m20A (m20c [true, true, true]) fun s => evC (m20E k) M (m20I k) 0 m20A (m20c [true, true, true]) s (retK Try.prog Try.f20 [.leaf (.val .bool)])) (retK Try.prog Try.f20 [.leaf (.val .bool)])
noncomputable def m20K5 (M : Cut Bool) (k : Nat) : Exit → St → Option Bool := seqK (normAt 0 m20A false (m20c [true, true, false, true])) (cutK M m20A (m20c [true, true, false, true]) fun s => evC (m20E k) M (m20I k) 0 m20A (m20c [true, true, false, true]) s (m20K4 M k)) (m20K4 M k)
noncomputable def m20K6 (M : Cut Bool) (k : Nat) : Exit → St → Option Bool := blockK 0 (m20K4 M k)
noncomputable def m20K7 (M : Cut Bool) (k : Nat) (L9 : St → Option Bool) : Exit → St → Option Bool := seqK (normAt 0 m20A true (m20c [true, true, false, true, true, true])) L9 (m20K6 M k)
noncomputable def m20K8 (M : Cut Bool) (k : Nat) (L9 : St → Option Bool) : Exit → St → Option Bool := seqK (normAt 0 m20A false (m20c [true, true, false, true, true, true, true])) (cutK M m20A (m20c [true, true, false, true, true, true, true]) fun s => evC (m20E k) M (m20I k) 0 m20A (m20c [true, true, false, true, true, true, true]) s (m20K7 M k L9)) (m20K7 M k L9)
noncomputable def m20K9 (M : Cut Bool) (k : Nat) (L9 : St → Option Bool) : Exit → St → Option Bool := seqK (normAt 0 m20A false (m20c [true, true, false, true, true, true, false, true])) (cutK M m20A (m20c [true, true, false, true, true, true, false, true]) fun s => evC (m20E k) M (m20I k) 0 m20A (m20c [true, true, false, true, true, true, false, true]) s (m20K8 M k L9)) (m20K8 M k L9)
noncomputable def m20K10 (M : Cut Bool) (k : Nat) (L9 : St → Option Bool) : Exit → St → Option Bool := seqK (normAt 0 m20A false (m20c [true, true, false, true, true, true, true, true])) (cutK M m20A (m20c [true, true, false, true, true, true, true, true]) fun s => evC (m20E k) M (m20I k) 0 m20A (m20c [true, true, false, true, true, true, true, true]) s (m20K7 M k L9)) (m20K7 M k L9)
noncomputable def m20K11 (M : Cut Bool) (k : Nat) (L9 : St → Option Bool) : Exit → St → Option Bool := blockK 1 (m20K10 M k L9)
noncomputable def m20K12 (M : Cut Bool) (k : Nat) (L9 : St → Option Bool) : Exit → St → Option Bool := seqK (normAt 0 m20A false (m20c [true, true, false, true, true, true, true, false, true, true])) (cutK M m20A (m20c [true, true, false, true, true, true, true, false, true, true]) fun s => evC (m20E k) M (m20I k) 0 m20A (m20c [true, true, false, true, true, true, true, false, true, true]) s (m20K11 M k L9)) (m20K11 M k L9)
noncomputable def m20K13 (M : Cut Bool) (k : Nat) (L9 : St → Option Bool) : Exit → St → Option Bool := seqK (normAt 0 m20A false (m20c [true, true, false, true, true, true, true, false, true, true, false, true])) (cutK M m20A (m20c [true, true, false, true, true, true, true, false, true, true, false, true]) fun s => evC (m20E k) M (m20I k) 0 m20A (m20c [true, true, false, true, true, true, true, false, true, true, false, true]) s (m20K11 M k L9)) (m20K11 M k L9)
noncomputable def m20K14 (M : Cut Bool) (k : Nat) : Exit → St → Option Bool := seqK (normAt 0 m20A false (m20c [true, true, true, true])) (cutK M m20A (m20c [true, true, true, true]) fun s => evC (m20E k) M (m20I k) 0 m20A (m20c [true, true, true, true]) s (retK Try.prog Try.f20 [.leaf (.val .bool)])) (retK Try.prog Try.f20 [.leaf (.val .bool)])
noncomputable def m20S9 (t0 : List Int) (t1 : List Int) (t5 : Int) : St := { n := 26, tm := slots [(0, .row (.int .u8) t0), (1, .row (.int .u8) t1), (5, .int .i64 t5)], tab := blks [], nx := 0 }

noncomputable def m20X (X9 : List Int → List Int → Int → Option Bool) (k : Nat) (p0 : (List Int)) (p1 : (List Int)) : Option Bool := (if (!eqI (↑(List.length p0) : Int) (↑(List.length p1) : Int)) = true then some (false) else X9 p0 p1 (0))

theorem m20x (M : Cut Bool) (k : Nat) (p0 : (List Int)) (p1 : (List Int)) : evC (m20E k) M (m20I k) 0 m20A (m20c []) (stAt Try.f20 (argSs [.leaf (.val (.row (.int .u8))), .leaf (.val (.row (.int .u8)))] (p0, p1)) (fun _ => none) 0) (retK Try.prog Try.f20 [.leaf (.val .bool)]) = m20X (fun t0' t1' t5' => loopN (normAt 0 m20A true (m20c [true, true, false, true, true, true])) (fun K s => evC (m20E k) M (m20I k) 0 m20A (m20c [true, true, false, true, true, true]) s K) (m20K6 M k) k (m20S9 t0' t1' t5')) k p0 p1 := by kernel_rfl

noncomputable def m20X9 (L9 : List Int → List Int → Int → Option Bool) (k : Nat) (t0 : List Int) (t1 : List Int) (t5 : Int) : Option Bool := (if ltI t5 (↑(List.length t0) : Int) = true then (if leI 0 t5 = true then (if ltI t5 (↑(List.length t0) : Int) = true then (if leI 0 t5 = true then (if ltI t5 (↑(List.length t1) : Int) = true then (if (!eqI (List.getD t0 (Int.toNat t5) 0) (List.getD t1 (Int.toNat t5) 0)) = true then some (false) else L9 t0 t1 (wr IntKind.i64 (t5 + 1))) else none) else none) else none) else none) else some (true))

theorem m20x9 (M : Cut Bool) (k : Nat) (L9 : St → Option Bool) (t0 : List Int) (t1 : List Int) (t5 : Int) : evC (m20E k) M (m20I k) 0 m20A (m20c [true, true, false, true, true, true]) (m20S9 t0 t1 t5) (seqK (normAt 0 m20A true (m20c [true, true, false, true, true, true])) L9 (m20K6 M k)) = m20X9 (fun t0' t1' t5' => L9 (m20S9 t0' t1' t5')) k t0 t1 t5 := by kernel_rfl

noncomputable def m20F9 (k : Nat) : Nat → List Int → List Int → Int → Option Bool
  | 0, _, _, _ => none
  | j + 1, t0, t1, t5 => m20X9 (m20F9 k j) k t0 t1 t5

theorem m20q9 (k : Nat) : ∀ (j : Nat) (t0 : List Int) (t1 : List Int) (t5 : Int), loopN (normAt 0 m20A true (m20c [true, true, false, true, true, true])) (fun K s => evC (m20E k) (fun _ f => f) (m20I k) 0 m20A (m20c [true, true, false, true, true, true]) s K) (m20K6 (fun _ f => f) k) j (m20S9 t0 t1 t5) = m20F9 k j t0 t1 t5
  | 0, _, _, _ => rfl
  | j + 1, t0, t1, t5 => by
    have e0 : m20F9 k j = (fun t0' t1' t5' => loopN (normAt 0 m20A true (m20c [true, true, false, true, true, true])) (fun K s => evC (m20E k) (fun _ f => f) (m20I k) 0 m20A (m20c [true, true, false, true, true, true]) s K) (m20K6 (fun _ f => f) k) j (m20S9 t0' t1' t5')) := funext fun t0' => funext fun t1' => funext fun t5' => (m20q9 k j t0' t1' t5').symm
    show _ = m20X9 (m20F9 k j) k t0 t1 t5
    rw [e0]
    exact m20x9 (fun _ f => f) k (loopN (normAt 0 m20A true (m20c [true, true, false, true, true, true])) (fun K s => evC (m20E k) (fun _ f => f) (m20I k) 0 m20A (m20c [true, true, false, true, true, true]) s K) (m20K6 (fun _ f => f) k) j) t0 t1 t5

noncomputable def m20F (k : Nat) (p0 : (List Int)) (p1 : (List Int)) : Option Bool := m20X (m20F9 k k) k p0 p1

theorem m20q (k : Nat) (p0 : (List Int)) (p1 : (List Int)) : evC (m20E k) (fun _ f => f) (m20I k) 0 m20A (m20c []) (stAt Try.f20 (argSs [.leaf (.val (.row (.int .u8))), .leaf (.val (.row (.int .u8)))] (p0, p1)) (fun _ => none) 0) (retK Try.prog Try.f20 [.leaf (.val .bool)]) = m20F k p0 p1 := by
    have e9 : m20F9 k k = (fun t0' t1' t5' => loopN (normAt 0 m20A true (m20c [true, true, false, true, true, true])) (fun K s => evC (m20E k) (fun _ f => f) (m20I k) 0 m20A (m20c [true, true, false, true, true, true]) s K) (m20K6 (fun _ f => f) k) k (m20S9 t0' t1' t5')) := funext fun t0' => funext fun t1' => funext fun t5' => (m20q9 k k t0' t1' t5').symm
    show _ = m20X (m20F9 k k) k p0 p1
    rw [e9]
    exact m20x (fun _ f => f) k p0 p1

noncomputable def m20sp : Spec := { ps := [.leaf (.val (.row (.int .u8))), .leaf (.val (.row (.int .u8)))], rs := [.leaf (.val .bool)], f := fun k a => m20F k a.1 a.2 }

theorem m20ok (k : Nat) : EnvOk (m20E k) := envOk_of (l := []) (lB := []) progNames progMixed rfl rfl (.nil) (.nil)

theorem m20con (k : Nat) : Contract Try.prog k 20 m20sp := contract_of (E := m20E k) (m20ok k) (A := only 20 m20A) (d := 3) (c := m20c []) (by kernel_rfl) (by kernel_rfl) fun a _ h => (m20q k a.1 a.2).trans h

noncomputable def m21A : Anns := tabA [(15, { keep := [1, 8, 9] }), (20, { keep := [8] })]
noncomputable def m21E (k : Nat) : Env := { P := Try.prog, k := k, G := tabG [(35, m35sp)], GB := tabGB [] }
noncomputable def m21c (p : List Bool) : Code := sub p (bodyOf Try.f21)
noncomputable def m21I (k : Nat) : Inl ((List Int) × Int) := inlOf (m21E k) (only 21 m21A) 3
noncomputable def m21K0 (M : Cut ((List Int) × Int)) (k : Nat) : Exit → St → Option ((List Int) × Int) := seqK (normAt 0 m21A false (m21c [true])) (cutK M m21A (m21c [true]) fun s => evC (m21E k) M (m21I k) 0 m21A (m21c [true]) s (retK Try.prog Try.f21 [.leaf (.own (.int .u8) 5), .leaf (.val (.int .i64))])) (retK Try.prog Try.f21 [.leaf (.own (.int .u8) 5), .leaf (.val (.int .i64))])
noncomputable def m21K1 (M : Cut ((List Int) × Int)) (k : Nat) : Exit → St → Option ((List Int) × Int) := seqK (normAt 0 m21A false (m21c [true, true])) (cutK M m21A (m21c [true, true]) fun s => evC (m21E k) M (m21I k) 0 m21A (m21c [true, true]) s (retK Try.prog Try.f21 [.leaf (.own (.int .u8) 5), .leaf (.val (.int .i64))])) (retK Try.prog Try.f21 [.leaf (.own (.int .u8) 5), .leaf (.val (.int .i64))])
noncomputable def m21K2 (M : Cut ((List Int) × Int)) (k : Nat) : Exit → St → Option ((List Int) × Int) := blockK 0 (m21K1 M k)
noncomputable def m21K3 (M : Cut ((List Int) × Int)) (k : Nat) : Exit → St → Option ((List Int) × Int) := seqK (normAt 0 m21A false (m21c [true, false, true, true])) (cutK M m21A (m21c [true, false, true, true]) fun s => evC (m21E k) M (m21I k) 0 m21A (m21c [true, false, true, true]) s (m21K2 M k)) (m21K2 M k)
noncomputable def m21K4 (M : Cut ((List Int) × Int)) (k : Nat) : Exit → St → Option ((List Int) × Int) := seqK (normAt 0 m21A false (m21c [true, false, true, true, false, true])) (cutK M m21A (m21c [true, false, true, true, false, true]) fun s => evC (m21E k) M (m21I k) 0 m21A (m21c [true, false, true, true, false, true]) s (m21K2 M k)) (m21K2 M k)
noncomputable def m21K5 (M : Cut ((List Int) × Int)) (k : Nat) : Exit → St → Option ((List Int) × Int) := seqK (normAt 0 m21A false (m21c [true, false, true, true, true, true])) (cutK M m21A (m21c [true, false, true, true, true, true]) fun s => evC (m21E k) M (m21I k) 0 m21A (m21c [true, false, true, true, true, true]) s (m21K2 M k)) (m21K2 M k)
noncomputable def m21K6 (M : Cut ((List Int) × Int)) (k : Nat) : Exit → St → Option ((List Int) × Int) := seqK (normAt 0 m21A false (m21c [true, false, true, true, true, true, false, true])) (cutK M m21A (m21c [true, false, true, true, true, true, false, true]) fun s => evC (m21E k) M (m21I k) 0 m21A (m21c [true, false, true, true, true, true, false, true]) s (m21K2 M k)) (m21K2 M k)
noncomputable def m21K7 (M : Cut ((List Int) × Int)) (k : Nat) : Exit → St → Option ((List Int) × Int) := seqK (normAt 0 m21A false (m21c [true, true, true])) (cutK M m21A (m21c [true, true, true]) fun s => evC (m21E k) M (m21I k) 0 m21A (m21c [true, true, true]) s (retK Try.prog Try.f21 [.leaf (.own (.int .u8) 5), .leaf (.val (.int .i64))])) (retK Try.prog Try.f21 [.leaf (.own (.int .u8) 5), .leaf (.val (.int .i64))])
noncomputable def m21K8 (M : Cut ((List Int) × Int)) (k : Nat) : Exit → St → Option ((List Int) × Int) := seqK (normAt 0 m21A false (m21c [true, true, true, true])) (cutK M m21A (m21c [true, true, true, true]) fun s => evC (m21E k) M (m21I k) 0 m21A (m21c [true, true, true, true]) s (retK Try.prog Try.f21 [.leaf (.own (.int .u8) 5), .leaf (.val (.int .i64))])) (retK Try.prog Try.f21 [.leaf (.own (.int .u8) 5), .leaf (.val (.int .i64))])
noncomputable def m21K9 (M : Cut ((List Int) × Int)) (k : Nat) : Exit → St → Option ((List Int) × Int) := seqK (normAt 0 m21A false (m21c [true, true, true, false, true])) (cutK M m21A (m21c [true, true, true, false, true]) fun s => evC (m21E k) M (m21I k) 0 m21A (m21c [true, true, true, false, true]) s (m21K8 M k)) (m21K8 M k)
noncomputable def m21K10 (M : Cut ((List Int) × Int)) (k : Nat) : Exit → St → Option ((List Int) × Int) := blockK 1 (m21K8 M k)
noncomputable def m21K11 (M : Cut ((List Int) × Int)) (k : Nat) (L15 : St → Option ((List Int) × Int)) : Exit → St → Option ((List Int) × Int) := seqK (normAt 0 m21A true (m21c [true, true, true, false, true, true, true])) L15 (m21K10 M k)
noncomputable def m21K12 (M : Cut ((List Int) × Int)) (k : Nat) (L15 : St → Option ((List Int) × Int)) : Exit → St → Option ((List Int) × Int) := seqK (normAt 0 m21A false (m21c [true, true, true, false, true, true, true, true])) (cutK M m21A (m21c [true, true, true, false, true, true, true, true]) fun s => evC (m21E k) M (m21I k) 0 m21A (m21c [true, true, true, false, true, true, true, true]) s (m21K11 M k L15)) (m21K11 M k L15)
noncomputable def m21K13 (M : Cut ((List Int) × Int)) (k : Nat) (L15 : St → Option ((List Int) × Int)) : Exit → St → Option ((List Int) × Int) := seqK (normAt 0 m21A false (m21c [true, true, true, false, true, true, true, false, true])) (cutK M m21A (m21c [true, true, true, false, true, true, true, false, true]) fun s => evC (m21E k) M (m21I k) 0 m21A (m21c [true, true, true, false, true, true, true, false, true]) s (m21K12 M k L15)) (m21K12 M k L15)
noncomputable def m21K14 (M : Cut ((List Int) × Int)) (k : Nat) (L15 : St → Option ((List Int) × Int)) : Exit → St → Option ((List Int) × Int) := seqK (normAt 0 m21A false (m21c [true, true, true, false, true, true, true, true, true])) (cutK M m21A (m21c [true, true, true, false, true, true, true, true, true]) fun s => evC (m21E k) M (m21I k) 0 m21A (m21c [true, true, true, false, true, true, true, true, true]) s (m21K11 M k L15)) (m21K11 M k L15)
noncomputable def m21K15 (M : Cut ((List Int) × Int)) (k : Nat) (L15 : St → Option ((List Int) × Int)) : Exit → St → Option ((List Int) × Int) := blockK 2 (m21K14 M k L15)
noncomputable def m21K16 (M : Cut ((List Int) × Int)) (k : Nat) : Exit → St → Option ((List Int) × Int) := seqK (normAt 0 m21A false (m21c [true, true, true, true, true])) (cutK M m21A (m21c [true, true, true, true, true]) fun s => evC (m21E k) M (m21I k) 0 m21A (m21c [true, true, true, true, true]) s (retK Try.prog Try.f21 [.leaf (.own (.int .u8) 5), .leaf (.val (.int .i64))])) (retK Try.prog Try.f21 [.leaf (.own (.int .u8) 5), .leaf (.val (.int .i64))])
noncomputable def m21S15 (t1 : Int) (t9 : Int) (b0 : List Int) : St := { n := 52, tm := slots [(1, .int .i64 t1), (8, .own 0), (9, .int .i64 t9)], tab := blks [some (.row true (.int .u8) 5 b0)], nx := 1 }
noncomputable def m21S20 (b0 : List Int) : St := { n := 52, tm := slots [(8, .own 0)], tab := blks [some (.row true (.int .u8) 5 b0)], nx := 1 }

noncomputable def m21X (X15 : Int → Int → List Int → Option ((List Int) × Int)) (k : Nat) (p0 : (List Int)) (p1 : Int) (p2 : Int) : Option ((List Int) × Int) := (if ltI p2 1 = true then some (([], 1)) else (if ltI 4 p2 = true then some (([], 1)) else (if ltI p1 0 = true then some (([], 1)) else (if leI 0 (wr IntKind.i64 (8 * p2)) = true then (if leI (wr IntKind.i64 (1 * Mini.p2 (min (Int.toNat (wr IntKind.i64 (8 * p2))) 64))) p1 = true then some (([], 1)) else (if ltI (wr IntKind.i64 (4096 - p2)) (↑(List.length p0) : Int) = true then some (([], 2)) else (Option.bind (m35F k p0) fun (c5 : (List Int)) => X15 p1 (wr IntKind.i64 (p2 - 1)) c5))) else none))))

theorem m21x (M : Cut ((List Int) × Int)) (k : Nat) (p0 : (List Int)) (p1 : Int) (p2 : Int) : evC (m21E k) M (m21I k) 0 m21A (m21c []) (stAt Try.f21 (argSs [.leaf (.val (.row (.int .u8))), .leaf (.val (.int .i64)), .leaf (.val (.int .i64))] (p0, p1, p2)) (fun _ => none) 0) (retK Try.prog Try.f21 [.leaf (.own (.int .u8) 5), .leaf (.val (.int .i64))]) = m21X (fun t1' t9' b0' => loopN (normAt 0 m21A true (m21c [true, true, true, false, true, true, true])) (fun K s => evC (m21E k) M (m21I k) 0 m21A (m21c [true, true, true, false, true, true, true]) s K) (m21K10 M k) k (m21S15 t1' t9' b0')) k p0 p1 p2 := by kernel_rfl

noncomputable def m21X15 (X20 : List Int → Option ((List Int) × Int)) (L15 : Int → Int → List Int → Option ((List Int) × Int)) (k : Nat) (t1 : Int) (t9 : Int) (b0 : List Int) : Option ((List Int) × Int) := (if leI 0 t9 = true then (if leI 0 (wr IntKind.i64 (8 * t9)) = true then (if leI
    (↑((List.length b0 +
            List.length
              (List.set (List.replicate 1 0) 0
                (wr IntKind.u8 (t1 / p2 (min (Int.toNat (wr IntKind.i64 (8 * t9))) 64))))) *
          1) :
      Int)
    140737488355328 =
  true then L15 t1 (wr IntKind.i64 (t9 - 1)) (b0 ++ List.set (List.replicate 1 0) 0 (wr IntKind.u8 (t1 / p2 (min (Int.toNat (wr IntKind.i64 (8 * t9))) 64)))) else none) else none) else X20 b0)

theorem m21x15 (M : Cut ((List Int) × Int)) (k : Nat) (L15 : St → Option ((List Int) × Int)) (t1 : Int) (t9 : Int) (b0 : List Int) : evC (m21E k) M (m21I k) 0 m21A (m21c [true, true, true, false, true, true, true]) (m21S15 t1 t9 b0) (seqK (normAt 0 m21A true (m21c [true, true, true, false, true, true, true])) L15 (m21K10 M k)) = m21X15 (fun b0' => M 20 (fun s => evC (m21E k) M (m21I k) 0 m21A (m21c [true, true, true, true]) s (retK Try.prog Try.f21 [.leaf (.own (.int .u8) 5), .leaf (.val (.int .i64))])) (m21S20 b0')) (fun t1' t9' b0' => L15 (m21S15 t1' t9' b0')) k t1 t9 b0 := by kernel_rfl

noncomputable def m21X20 (k : Nat) (b0 : List Int) : Option ((List Int) × Int) := (Option.bind (m35F k b0) fun (c3 : (List Int)) => some ((c3, 0)))

theorem m21x20 (M : Cut ((List Int) × Int)) (k : Nat) (b0 : List Int) : evC (m21E k) M (m21I k) 0 m21A (m21c [true, true, true, true]) (m21S20 b0) (retK Try.prog Try.f21 [.leaf (.own (.int .u8) 5), .leaf (.val (.int .i64))]) = m21X20 k b0 := by kernel_rfl

noncomputable def m21F20 (k : Nat) (b0 : List Int) : Option ((List Int) × Int) := m21X20 k b0

theorem m21q20 (k : Nat) (b0 : List Int) : evC (m21E k) (fun _ f => f) (m21I k) 0 m21A (m21c [true, true, true, true]) (m21S20 b0) (retK Try.prog Try.f21 [.leaf (.own (.int .u8) 5), .leaf (.val (.int .i64))]) = m21F20 k b0 := by
    show _ = m21X20 k b0
    exact m21x20 (fun _ f => f) k b0

noncomputable def m21F15 (k : Nat) : Nat → Int → Int → List Int → Option ((List Int) × Int)
  | 0, _, _, _ => none
  | j + 1, t1, t9, b0 => m21X15 (m21F20 k) (m21F15 k j) k t1 t9 b0

theorem m21q15 (k : Nat) : ∀ (j : Nat) (t1 : Int) (t9 : Int) (b0 : List Int), loopN (normAt 0 m21A true (m21c [true, true, true, false, true, true, true])) (fun K s => evC (m21E k) (fun _ f => f) (m21I k) 0 m21A (m21c [true, true, true, false, true, true, true]) s K) (m21K10 (fun _ f => f) k) j (m21S15 t1 t9 b0) = m21F15 k j t1 t9 b0
  | 0, _, _, _ => rfl
  | j + 1, t1, t9, b0 => by
    have e0 : m21F15 k j = (fun t1' t9' b0' => loopN (normAt 0 m21A true (m21c [true, true, true, false, true, true, true])) (fun K s => evC (m21E k) (fun _ f => f) (m21I k) 0 m21A (m21c [true, true, true, false, true, true, true]) s K) (m21K10 (fun _ f => f) k) j (m21S15 t1' t9' b0')) := funext fun t1' => funext fun t9' => funext fun b0' => (m21q15 k j t1' t9' b0').symm
    have e20 : m21F20 k = (fun b0' => evC (m21E k) (fun _ f => f) (m21I k) 0 m21A (m21c [true, true, true, true]) (m21S20 b0') (retK Try.prog Try.f21 [.leaf (.own (.int .u8) 5), .leaf (.val (.int .i64))])) := funext fun b0' => (m21q20 k b0').symm
    show _ = m21X15 (m21F20 k) (m21F15 k j) k t1 t9 b0
    rw [e0, e20]
    exact m21x15 (fun _ f => f) k (loopN (normAt 0 m21A true (m21c [true, true, true, false, true, true, true])) (fun K s => evC (m21E k) (fun _ f => f) (m21I k) 0 m21A (m21c [true, true, true, false, true, true, true]) s K) (m21K10 (fun _ f => f) k) j) t1 t9 b0

noncomputable def m21F (k : Nat) (p0 : (List Int)) (p1 : Int) (p2 : Int) : Option ((List Int) × Int) := m21X (m21F15 k k) k p0 p1 p2

theorem m21q (k : Nat) (p0 : (List Int)) (p1 : Int) (p2 : Int) : evC (m21E k) (fun _ f => f) (m21I k) 0 m21A (m21c []) (stAt Try.f21 (argSs [.leaf (.val (.row (.int .u8))), .leaf (.val (.int .i64)), .leaf (.val (.int .i64))] (p0, p1, p2)) (fun _ => none) 0) (retK Try.prog Try.f21 [.leaf (.own (.int .u8) 5), .leaf (.val (.int .i64))]) = m21F k p0 p1 p2 := by
    have e15 : m21F15 k k = (fun t1' t9' b0' => loopN (normAt 0 m21A true (m21c [true, true, true, false, true, true, true])) (fun K s => evC (m21E k) (fun _ f => f) (m21I k) 0 m21A (m21c [true, true, true, false, true, true, true]) s K) (m21K10 (fun _ f => f) k) k (m21S15 t1' t9' b0')) := funext fun t1' => funext fun t9' => funext fun b0' => (m21q15 k k t1' t9' b0').symm
    show _ = m21X (m21F15 k k) k p0 p1 p2
    rw [e15]
    exact m21x (fun _ f => f) k p0 p1 p2

noncomputable def m21sp : Spec := { ps := [.leaf (.val (.row (.int .u8))), .leaf (.val (.int .i64)), .leaf (.val (.int .i64))], rs := [.leaf (.own (.int .u8) 5), .leaf (.val (.int .i64))], f := fun k a => m21F k a.1 a.2.1 a.2.2 }

theorem m21ok (k : Nat) : EnvOk (m21E k) := envOk_of (l := [(35, m35sp)]) (lB := []) progNames progMixed rfl rfl (.cons ⟨m35con k, Try.f35, by kernel_rfl, by kernel_rfl⟩ (.nil)) (.nil)

theorem m21con (k : Nat) : Contract Try.prog k 21 m21sp := contract_of (E := m21E k) (m21ok k) (A := only 21 m21A) (d := 3) (c := m21c []) (by kernel_rfl) (by kernel_rfl) fun a _ h => (m21q k a.1 a.2.1 a.2.2).trans h

noncomputable def m22A : Anns := tabA [(15, { keep := [1, 8, 9] }), (20, { keep := [8] })]
noncomputable def m22E (k : Nat) : Env := { P := Try.prog, k := k, G := tabG [(13, m13sp)], GB := tabGB [] }
noncomputable def m22c (p : List Bool) : Code := sub p (bodyOf Try.f22)
noncomputable def m22I (k : Nat) : Inl ((List Int) × Int) := inlOf (m22E k) (only 22 m22A) 3
noncomputable def m22K0 (M : Cut ((List Int) × Int)) (k : Nat) : Exit → St → Option ((List Int) × Int) := seqK (normAt 0 m22A false (m22c [true])) (cutK M m22A (m22c [true]) fun s => evC (m22E k) M (m22I k) 0 m22A (m22c [true]) s (retK Try.prog Try.f22 [.leaf (.own (.int .u8) 5), .leaf (.val (.int .i64))])) (retK Try.prog Try.f22 [.leaf (.own (.int .u8) 5), .leaf (.val (.int .i64))])
noncomputable def m22K1 (M : Cut ((List Int) × Int)) (k : Nat) : Exit → St → Option ((List Int) × Int) := seqK (normAt 0 m22A false (m22c [true, true])) (cutK M m22A (m22c [true, true]) fun s => evC (m22E k) M (m22I k) 0 m22A (m22c [true, true]) s (retK Try.prog Try.f22 [.leaf (.own (.int .u8) 5), .leaf (.val (.int .i64))])) (retK Try.prog Try.f22 [.leaf (.own (.int .u8) 5), .leaf (.val (.int .i64))])
noncomputable def m22K2 (M : Cut ((List Int) × Int)) (k : Nat) : Exit → St → Option ((List Int) × Int) := seqK (normAt 0 m22A false (m22c [true, false, true])) (cutK M m22A (m22c [true, false, true]) fun s => evC (m22E k) M (m22I k) 0 m22A (m22c [true, false, true]) s (m22K1 M k)) (m22K1 M k)
noncomputable def m22K3 (M : Cut ((List Int) × Int)) (k : Nat) : Exit → St → Option ((List Int) × Int) := seqK (normAt 0 m22A false (m22c [true, false, true, false, true])) (cutK M m22A (m22c [true, false, true, false, true]) fun s => evC (m22E k) M (m22I k) 0 m22A (m22c [true, false, true, false, true]) s (m22K1 M k)) (m22K1 M k)
noncomputable def m22K4 (M : Cut ((List Int) × Int)) (k : Nat) : Exit → St → Option ((List Int) × Int) := seqK (normAt 0 m22A false (m22c [true, true, true])) (cutK M m22A (m22c [true, true, true]) fun s => evC (m22E k) M (m22I k) 0 m22A (m22c [true, true, true]) s (retK Try.prog Try.f22 [.leaf (.own (.int .u8) 5), .leaf (.val (.int .i64))])) (retK Try.prog Try.f22 [.leaf (.own (.int .u8) 5), .leaf (.val (.int .i64))])
noncomputable def m22K5 (M : Cut ((List Int) × Int)) (k : Nat) : Exit → St → Option ((List Int) × Int) := seqK (normAt 0 m22A false (m22c [true, true, false, true])) (cutK M m22A (m22c [true, true, false, true]) fun s => evC (m22E k) M (m22I k) 0 m22A (m22c [true, true, false, true]) s (m22K4 M k)) (m22K4 M k)
noncomputable def m22K6 (M : Cut ((List Int) × Int)) (k : Nat) : Exit → St → Option ((List Int) × Int) := seqK (normAt 0 m22A false (m22c [true, true, false, true, false, true])) (cutK M m22A (m22c [true, true, false, true, false, true]) fun s => evC (m22E k) M (m22I k) 0 m22A (m22c [true, true, false, true, false, true]) s (m22K4 M k)) (m22K4 M k)
noncomputable def m22K7 (M : Cut ((List Int) × Int)) (k : Nat) : Exit → St → Option ((List Int) × Int) := seqK (normAt 0 m22A false (m22c [true, true, true, true])) (cutK M m22A (m22c [true, true, true, true]) fun s => evC (m22E k) M (m22I k) 0 m22A (m22c [true, true, true, true]) s (retK Try.prog Try.f22 [.leaf (.own (.int .u8) 5), .leaf (.val (.int .i64))])) (retK Try.prog Try.f22 [.leaf (.own (.int .u8) 5), .leaf (.val (.int .i64))])
noncomputable def m22K8 (M : Cut ((List Int) × Int)) (k : Nat) : Exit → St → Option ((List Int) × Int) := seqK (normAt 0 m22A false (m22c [true, true, true, true, true])) (cutK M m22A (m22c [true, true, true, true, true]) fun s => evC (m22E k) M (m22I k) 0 m22A (m22c [true, true, true, true, true]) s (retK Try.prog Try.f22 [.leaf (.own (.int .u8) 5), .leaf (.val (.int .i64))])) (retK Try.prog Try.f22 [.leaf (.own (.int .u8) 5), .leaf (.val (.int .i64))])
noncomputable def m22K9 (M : Cut ((List Int) × Int)) (k : Nat) : Exit → St → Option ((List Int) × Int) := seqK (normAt 0 m22A false (m22c [true, true, true, true, false, true])) (cutK M m22A (m22c [true, true, true, true, false, true]) fun s => evC (m22E k) M (m22I k) 0 m22A (m22c [true, true, true, true, false, true]) s (m22K8 M k)) (m22K8 M k)
noncomputable def m22K10 (M : Cut ((List Int) × Int)) (k : Nat) : Exit → St → Option ((List Int) × Int) := blockK 0 (m22K8 M k)
noncomputable def m22K11 (M : Cut ((List Int) × Int)) (k : Nat) (L15 : St → Option ((List Int) × Int)) : Exit → St → Option ((List Int) × Int) := seqK (normAt 0 m22A true (m22c [true, true, true, true, false, true, true, true])) L15 (m22K10 M k)
noncomputable def m22K12 (M : Cut ((List Int) × Int)) (k : Nat) (L15 : St → Option ((List Int) × Int)) : Exit → St → Option ((List Int) × Int) := seqK (normAt 0 m22A false (m22c [true, true, true, true, false, true, true, true, true])) (cutK M m22A (m22c [true, true, true, true, false, true, true, true, true]) fun s => evC (m22E k) M (m22I k) 0 m22A (m22c [true, true, true, true, false, true, true, true, true]) s (m22K11 M k L15)) (m22K11 M k L15)
noncomputable def m22K13 (M : Cut ((List Int) × Int)) (k : Nat) (L15 : St → Option ((List Int) × Int)) : Exit → St → Option ((List Int) × Int) := seqK (normAt 0 m22A false (m22c [true, true, true, true, false, true, true, true, false, true])) (cutK M m22A (m22c [true, true, true, true, false, true, true, true, false, true]) fun s => evC (m22E k) M (m22I k) 0 m22A (m22c [true, true, true, true, false, true, true, true, false, true]) s (m22K12 M k L15)) (m22K12 M k L15)
noncomputable def m22K14 (M : Cut ((List Int) × Int)) (k : Nat) (L15 : St → Option ((List Int) × Int)) : Exit → St → Option ((List Int) × Int) := seqK (normAt 0 m22A false (m22c [true, true, true, true, false, true, true, true, true, true])) (cutK M m22A (m22c [true, true, true, true, false, true, true, true, true, true]) fun s => evC (m22E k) M (m22I k) 0 m22A (m22c [true, true, true, true, false, true, true, true, true, true]) s (m22K11 M k L15)) (m22K11 M k L15)
noncomputable def m22K15 (M : Cut ((List Int) × Int)) (k : Nat) (L15 : St → Option ((List Int) × Int)) : Exit → St → Option ((List Int) × Int) := blockK 1 (m22K14 M k L15)
noncomputable def m22K16 (M : Cut ((List Int) × Int)) (k : Nat) : Exit → St → Option ((List Int) × Int) := seqK (normAt 0 m22A false (m22c [true, true, true, true, true, true])) (cutK M m22A (m22c [true, true, true, true, true, true]) fun s => evC (m22E k) M (m22I k) 0 m22A (m22c [true, true, true, true, true, true]) s (retK Try.prog Try.f22 [.leaf (.own (.int .u8) 5), .leaf (.val (.int .i64))])) (retK Try.prog Try.f22 [.leaf (.own (.int .u8) 5), .leaf (.val (.int .i64))])
noncomputable def m22S15 (t1 : Int) (t9 : Int) (b0 : List Int) : St := { n := 51, tm := slots [(1, .int .i64 t1), (8, .own 0), (9, .int .i64 t9)], tab := blks [some (.row true (.int .u8) 5 b0)], nx := 1 }
noncomputable def m22S20 (b0 : List Int) : St := { n := 51, tm := slots [(8, .own 0)], tab := blks [some (.row true (.int .u8) 5 b0)], nx := 1 }

noncomputable def m22X (X15 : Int → Int → List Int → Option ((List Int) × Int)) (k : Nat) (p0 : (List Int)) (p1 : Int) (p2 : Int) : Option ((List Int) × Int) := (if ltI p2 1 = true then some (([], 1)) else (if ltI 4 p2 = true then some (([], 1)) else (if ltI p1 0 = true then some (([], 1)) else (if leI 0 (wr IntKind.u64 (wr IntKind.i64 (8 * p2))) = true then (if (!eqI (p1 / Mini.p2 (min (Int.toNat (wr IntKind.u64 (wr IntKind.i64 (8 * p2)))) 64)) 0) = true then some (([], 1)) else (if ltI (wr IntKind.i64 (4096 - p2)) (↑(List.length p0) : Int) = true then some (([], 2)) else (Option.bind (m13F k p0) fun (c5 : (List Int)) => X15 p1 (wr IntKind.i64 (p2 - 1)) c5))) else none))))

theorem m22x (M : Cut ((List Int) × Int)) (k : Nat) (p0 : (List Int)) (p1 : Int) (p2 : Int) : evC (m22E k) M (m22I k) 0 m22A (m22c []) (stAt Try.f22 (argSs [.leaf (.val (.row (.int .u8))), .leaf (.val (.int .i64)), .leaf (.val (.int .i64))] (p0, p1, p2)) (fun _ => none) 0) (retK Try.prog Try.f22 [.leaf (.own (.int .u8) 5), .leaf (.val (.int .i64))]) = m22X (fun t1' t9' b0' => loopN (normAt 0 m22A true (m22c [true, true, true, true, false, true, true, true])) (fun K s => evC (m22E k) M (m22I k) 0 m22A (m22c [true, true, true, true, false, true, true, true]) s K) (m22K10 M k) k (m22S15 t1' t9' b0')) k p0 p1 p2 := by kernel_rfl

noncomputable def m22X15 (X20 : List Int → Option ((List Int) × Int)) (L15 : Int → Int → List Int → Option ((List Int) × Int)) (k : Nat) (t1 : Int) (t9 : Int) (b0 : List Int) : Option ((List Int) × Int) := (if leI 0 t9 = true then (if leI 0 (wr IntKind.u64 (wr IntKind.i64 (8 * t9))) = true then (if leI
    (↑((List.length b0 +
            List.length
              (List.set (List.replicate 1 0) 0
                (wr IntKind.u8 (t1 / p2 (min (Int.toNat (wr IntKind.u64 (wr IntKind.i64 (8 * t9)))) 64))))) *
          1) :
      Int)
    140737488355328 =
  true then L15 t1 (wr IntKind.i64 (t9 - 1)) (b0 ++
  List.set (List.replicate 1 0) 0
    (wr IntKind.u8 (t1 / p2 (min (Int.toNat (wr IntKind.u64 (wr IntKind.i64 (8 * t9)))) 64)))) else none) else none) else X20 b0)

theorem m22x15 (M : Cut ((List Int) × Int)) (k : Nat) (L15 : St → Option ((List Int) × Int)) (t1 : Int) (t9 : Int) (b0 : List Int) : evC (m22E k) M (m22I k) 0 m22A (m22c [true, true, true, true, false, true, true, true]) (m22S15 t1 t9 b0) (seqK (normAt 0 m22A true (m22c [true, true, true, true, false, true, true, true])) L15 (m22K10 M k)) = m22X15 (fun b0' => M 20 (fun s => evC (m22E k) M (m22I k) 0 m22A (m22c [true, true, true, true, true]) s (retK Try.prog Try.f22 [.leaf (.own (.int .u8) 5), .leaf (.val (.int .i64))])) (m22S20 b0')) (fun t1' t9' b0' => L15 (m22S15 t1' t9' b0')) k t1 t9 b0 := by kernel_rfl

noncomputable def m22X20 (k : Nat) (b0 : List Int) : Option ((List Int) × Int) := some ((b0, 0))

theorem m22x20 (M : Cut ((List Int) × Int)) (k : Nat) (b0 : List Int) : evC (m22E k) M (m22I k) 0 m22A (m22c [true, true, true, true, true]) (m22S20 b0) (retK Try.prog Try.f22 [.leaf (.own (.int .u8) 5), .leaf (.val (.int .i64))]) = m22X20 k b0 := by kernel_rfl

noncomputable def m22F20 (k : Nat) (b0 : List Int) : Option ((List Int) × Int) := m22X20 k b0

theorem m22q20 (k : Nat) (b0 : List Int) : evC (m22E k) (fun _ f => f) (m22I k) 0 m22A (m22c [true, true, true, true, true]) (m22S20 b0) (retK Try.prog Try.f22 [.leaf (.own (.int .u8) 5), .leaf (.val (.int .i64))]) = m22F20 k b0 := by
    show _ = m22X20 k b0
    exact m22x20 (fun _ f => f) k b0

noncomputable def m22F15 (k : Nat) : Nat → Int → Int → List Int → Option ((List Int) × Int)
  | 0, _, _, _ => none
  | j + 1, t1, t9, b0 => m22X15 (m22F20 k) (m22F15 k j) k t1 t9 b0

theorem m22q15 (k : Nat) : ∀ (j : Nat) (t1 : Int) (t9 : Int) (b0 : List Int), loopN (normAt 0 m22A true (m22c [true, true, true, true, false, true, true, true])) (fun K s => evC (m22E k) (fun _ f => f) (m22I k) 0 m22A (m22c [true, true, true, true, false, true, true, true]) s K) (m22K10 (fun _ f => f) k) j (m22S15 t1 t9 b0) = m22F15 k j t1 t9 b0
  | 0, _, _, _ => rfl
  | j + 1, t1, t9, b0 => by
    have e0 : m22F15 k j = (fun t1' t9' b0' => loopN (normAt 0 m22A true (m22c [true, true, true, true, false, true, true, true])) (fun K s => evC (m22E k) (fun _ f => f) (m22I k) 0 m22A (m22c [true, true, true, true, false, true, true, true]) s K) (m22K10 (fun _ f => f) k) j (m22S15 t1' t9' b0')) := funext fun t1' => funext fun t9' => funext fun b0' => (m22q15 k j t1' t9' b0').symm
    have e20 : m22F20 k = (fun b0' => evC (m22E k) (fun _ f => f) (m22I k) 0 m22A (m22c [true, true, true, true, true]) (m22S20 b0') (retK Try.prog Try.f22 [.leaf (.own (.int .u8) 5), .leaf (.val (.int .i64))])) := funext fun b0' => (m22q20 k b0').symm
    show _ = m22X15 (m22F20 k) (m22F15 k j) k t1 t9 b0
    rw [e0, e20]
    exact m22x15 (fun _ f => f) k (loopN (normAt 0 m22A true (m22c [true, true, true, true, false, true, true, true])) (fun K s => evC (m22E k) (fun _ f => f) (m22I k) 0 m22A (m22c [true, true, true, true, false, true, true, true]) s K) (m22K10 (fun _ f => f) k) j) t1 t9 b0

noncomputable def m22F (k : Nat) (p0 : (List Int)) (p1 : Int) (p2 : Int) : Option ((List Int) × Int) := m22X (m22F15 k k) k p0 p1 p2

theorem m22q (k : Nat) (p0 : (List Int)) (p1 : Int) (p2 : Int) : evC (m22E k) (fun _ f => f) (m22I k) 0 m22A (m22c []) (stAt Try.f22 (argSs [.leaf (.val (.row (.int .u8))), .leaf (.val (.int .i64)), .leaf (.val (.int .i64))] (p0, p1, p2)) (fun _ => none) 0) (retK Try.prog Try.f22 [.leaf (.own (.int .u8) 5), .leaf (.val (.int .i64))]) = m22F k p0 p1 p2 := by
    have e15 : m22F15 k k = (fun t1' t9' b0' => loopN (normAt 0 m22A true (m22c [true, true, true, true, false, true, true, true])) (fun K s => evC (m22E k) (fun _ f => f) (m22I k) 0 m22A (m22c [true, true, true, true, false, true, true, true]) s K) (m22K10 (fun _ f => f) k) k (m22S15 t1' t9' b0')) := funext fun t1' => funext fun t9' => funext fun b0' => (m22q15 k k t1' t9' b0').symm
    show _ = m22X (m22F15 k k) k p0 p1 p2
    rw [e15]
    exact m22x (fun _ f => f) k p0 p1 p2

noncomputable def m22sp : Spec := { ps := [.leaf (.val (.row (.int .u8))), .leaf (.val (.int .i64)), .leaf (.val (.int .i64))], rs := [.leaf (.own (.int .u8) 5), .leaf (.val (.int .i64))], f := fun k a => m22F k a.1 a.2.1 a.2.2 }

theorem m22ok (k : Nat) : EnvOk (m22E k) := envOk_of (l := [(13, m13sp)]) (lB := []) progNames progMixed rfl rfl (.cons ⟨m13con k, Try.f13, by kernel_rfl, by kernel_rfl⟩ (.nil)) (.nil)

theorem m22con (k : Nat) : Contract Try.prog k 22 m22sp := contract_of (E := m22E k) (m22ok k) (A := only 22 m22A) (d := 3) (c := m22c []) (by kernel_rfl) (by kernel_rfl) fun a _ h => (m22q k a.1 a.2.1 a.2.2).trans h

noncomputable def m23A : Anns := tabA [(3, { keep := [0, 2] })]
noncomputable def m23E (k : Nat) : Env := { P := Try.prog, k := k, G := tabG [], GB := tabGB [] }
noncomputable def m23c (p : List Bool) : Code := sub p (bodyOf Try.f23)
noncomputable def m23I (k : Nat) : Inl (List Int) := inlOf (m23E k) (only 23 m23A) 3
noncomputable def m23K0 (M : Cut (List Int)) (k : Nat) : Exit → St → Option (List Int) := seqK (normAt 1 m23A false (m23c [true])) (cutK M m23A (m23c [true]) fun s => evC (m23E k) M (m23I k) 1 m23A (m23c [true]) s (retB Try.prog Try.f23 (.int .u8) 5)) (retB Try.prog Try.f23 (.int .u8) 5)
noncomputable def m23K1 (M : Cut (List Int)) (k : Nat) : Exit → St → Option (List Int) := blockK 0 (retB Try.prog Try.f23 (.int .u8) 5)
noncomputable def m23K2 (M : Cut (List Int)) (k : Nat) (L3 : St → Option (List Int)) : Exit → St → Option (List Int) := seqK (normAt 1 m23A true (m23c [true, true, true])) L3 (m23K1 M k)
noncomputable def m23K3 (M : Cut (List Int)) (k : Nat) (L3 : St → Option (List Int)) : Exit → St → Option (List Int) := seqK (normAt 1 m23A false (m23c [true, true, true, true])) (cutK M m23A (m23c [true, true, true, true]) fun s => evC (m23E k) M (m23I k) 1 m23A (m23c [true, true, true, true]) s (m23K2 M k L3)) (m23K2 M k L3)
noncomputable def m23K4 (M : Cut (List Int)) (k : Nat) (L3 : St → Option (List Int)) : Exit → St → Option (List Int) := seqK (normAt 1 m23A false (m23c [true, true, true, false, true])) (cutK M m23A (m23c [true, true, true, false, true]) fun s => evC (m23E k) M (m23I k) 1 m23A (m23c [true, true, true, false, true]) s (m23K3 M k L3)) (m23K3 M k L3)
noncomputable def m23K5 (M : Cut (List Int)) (k : Nat) (L3 : St → Option (List Int)) : Exit → St → Option (List Int) := seqK (normAt 1 m23A false (m23c [true, true, true, true, true])) (cutK M m23A (m23c [true, true, true, true, true]) fun s => evC (m23E k) M (m23I k) 1 m23A (m23c [true, true, true, true, true]) s (m23K2 M k L3)) (m23K2 M k L3)
noncomputable def m23K6 (M : Cut (List Int)) (k : Nat) (L3 : St → Option (List Int)) : Exit → St → Option (List Int) := blockK 1 (m23K5 M k L3)
noncomputable def m23S3 (t0o : Nat) (t0n : Nat) (t2 : Int) (b0 : List Int) : St := { n := 17, tm := slots [(0, .sl 0 t0o t0n), (2, .int .i64 t2)], tab := blks [some (.row false (.int .u8) 5 b0)], nx := 1 }

noncomputable def m23X (X3 : Nat → Nat → Int → List Int → Option (List Int)) (k : Nat) (b0 : (List Int)) (o0 : Nat) (n0 : Nat) : Option (List Int) := X3 o0 n0 (0) b0

theorem m23x (M : Cut (List Int)) (k : Nat) (b0 : (List Int)) (o0 : Nat) (n0 : Nat) : evC (m23E k) M (m23I k) 1 m23A (m23c []) (stAt Try.f23 (.sl 0 o0 n0 :: argSs [] ()) (tabB (.int .u8) 5 b0) 1) (retB Try.prog Try.f23 (.int .u8) 5) = m23X (fun t0o' t0n' t2' b0' => loopN (normAt 1 m23A true (m23c [true, true, true])) (fun K s => evC (m23E k) M (m23I k) 1 m23A (m23c [true, true, true]) s K) (m23K1 M k) k (m23S3 t0o' t0n' t2' b0')) k b0 o0 n0 := by kernel_rfl

noncomputable def m23X3 (L3 : Nat → Nat → Int → List Int → Option (List Int)) (k : Nat) (t0o : Nat) (t0n : Nat) (t2 : Int) (b0 : List Int) : Option (List Int) := (if ltI t2 (↑t0n : Int) = true then (if leI 0 t2 = true then (if ltI t2 (↑t0n : Int) = true then (if leI 0 t2 = true then (if ltI t2 (↑t0n : Int) = true then L3 t0o t0n (wr IntKind.i64 (t2 + 1)) (List.set b0 (Int.toNat t2 + t0o) (wr IntKind.u8 (List.getD b0 (Int.toNat t2 + t0o) 0 + 101))) else none) else none) else none) else none) else some b0)

theorem m23x3 (M : Cut (List Int)) (k : Nat) (L3 : St → Option (List Int)) (t0o : Nat) (t0n : Nat) (t2 : Int) (b0 : List Int) : evC (m23E k) M (m23I k) 1 m23A (m23c [true, true, true]) (m23S3 t0o t0n t2 b0) (seqK (normAt 1 m23A true (m23c [true, true, true])) L3 (m23K1 M k)) = m23X3 (fun t0o' t0n' t2' b0' => L3 (m23S3 t0o' t0n' t2' b0')) k t0o t0n t2 b0 := by kernel_rfl

noncomputable def m23F3 (k : Nat) : Nat → Nat → Nat → Int → List Int → Option (List Int)
  | 0, _, _, _, _ => none
  | j + 1, t0o, t0n, t2, b0 => m23X3 (m23F3 k j) k t0o t0n t2 b0

theorem m23q3 (k : Nat) : ∀ (j : Nat) (t0o : Nat) (t0n : Nat) (t2 : Int) (b0 : List Int), loopN (normAt 1 m23A true (m23c [true, true, true])) (fun K s => evC (m23E k) (fun _ f => f) (m23I k) 1 m23A (m23c [true, true, true]) s K) (m23K1 (fun _ f => f) k) j (m23S3 t0o t0n t2 b0) = m23F3 k j t0o t0n t2 b0
  | 0, _, _, _, _ => rfl
  | j + 1, t0o, t0n, t2, b0 => by
    have e0 : m23F3 k j = (fun t0o' t0n' t2' b0' => loopN (normAt 1 m23A true (m23c [true, true, true])) (fun K s => evC (m23E k) (fun _ f => f) (m23I k) 1 m23A (m23c [true, true, true]) s K) (m23K1 (fun _ f => f) k) j (m23S3 t0o' t0n' t2' b0')) := funext fun t0o' => funext fun t0n' => funext fun t2' => funext fun b0' => (m23q3 k j t0o' t0n' t2' b0').symm
    show _ = m23X3 (m23F3 k j) k t0o t0n t2 b0
    rw [e0]
    exact m23x3 (fun _ f => f) k (loopN (normAt 1 m23A true (m23c [true, true, true])) (fun K s => evC (m23E k) (fun _ f => f) (m23I k) 1 m23A (m23c [true, true, true]) s K) (m23K1 (fun _ f => f) k) j) t0o t0n t2 b0

noncomputable def m23F (k : Nat) (b0 : (List Int)) (o0 : Nat) (n0 : Nat) : Option (List Int) := m23X (m23F3 k k) k b0 o0 n0

theorem m23q (k : Nat) (b0 : (List Int)) (o0 : Nat) (n0 : Nat) : evC (m23E k) (fun _ f => f) (m23I k) 1 m23A (m23c []) (stAt Try.f23 (.sl 0 o0 n0 :: argSs [] ()) (tabB (.int .u8) 5 b0) 1) (retB Try.prog Try.f23 (.int .u8) 5) = m23F k b0 o0 n0 := by
    have e3 : m23F3 k k = (fun t0o' t0n' t2' b0' => loopN (normAt 1 m23A true (m23c [true, true, true])) (fun K s => evC (m23E k) (fun _ f => f) (m23I k) 1 m23A (m23c [true, true, true]) s K) (m23K1 (fun _ f => f) k) k (m23S3 t0o' t0n' t2' b0')) := funext fun t0o' => funext fun t0n' => funext fun t2' => funext fun b0' => (m23q3 k k t0o' t0n' t2' b0').symm
    show _ = m23X (m23F3 k k) k b0 o0 n0
    rw [e3]
    exact m23x (fun _ f => f) k b0 o0 n0

noncomputable def m23sp : BSpec := { k := (.int .u8), T := 5, ps := [], f := fun k xs off len a => m23F k xs off len }

theorem m23ok (k : Nat) : EnvOk (m23E k) := envOk_of (l := []) (lB := []) progNames progMixed rfl rfl (.nil) (.nil)

theorem m23con (k : Nat) : ContractB Try.prog k 23 m23sp := contractB_of (E := m23E k) (m23ok k) (A := only 23 m23A) (d := 3) (c := m23c []) (by kernel_rfl) (by kernel_rfl) fun xs off len a _ h => (m23q k xs off len).trans h

noncomputable def m24A : Anns := tabA [(15, { keep := [8, 40, 41, 42] }), (22, { keep := [8] })]
noncomputable def m24E (k : Nat) : Env := { P := Try.prog, k := k, G := tabG [], GB := tabGB [] }
noncomputable def m24c (p : List Bool) : Code := sub p (bodyOf Try.f24)
noncomputable def m24I (k : Nat) : Inl (Int × Int) := inlOf (m24E k) (only 24 m24A) 3
noncomputable def m24K0 (M : Cut (Int × Int)) (k : Nat) : Exit → St → Option (Int × Int) := seqK (normAt 0 m24A false (m24c [true])) (cutK M m24A (m24c [true]) fun s => evC (m24E k) M (m24I k) 0 m24A (m24c [true]) s (retK Try.prog Try.f24 [.leaf (.val (.int .i64)), .leaf (.val (.int .i64))])) (retK Try.prog Try.f24 [.leaf (.val (.int .i64)), .leaf (.val (.int .i64))])
noncomputable def m24K1 (M : Cut (Int × Int)) (k : Nat) : Exit → St → Option (Int × Int) := seqK (normAt 0 m24A false (m24c [true, true])) (cutK M m24A (m24c [true, true]) fun s => evC (m24E k) M (m24I k) 0 m24A (m24c [true, true]) s (retK Try.prog Try.f24 [.leaf (.val (.int .i64)), .leaf (.val (.int .i64))])) (retK Try.prog Try.f24 [.leaf (.val (.int .i64)), .leaf (.val (.int .i64))])
noncomputable def m24K2 (M : Cut (Int × Int)) (k : Nat) : Exit → St → Option (Int × Int) := blockK 0 (m24K1 M k)
noncomputable def m24K3 (M : Cut (Int × Int)) (k : Nat) : Exit → St → Option (Int × Int) := seqK (normAt 0 m24A false (m24c [true, false, true, true])) (cutK M m24A (m24c [true, false, true, true]) fun s => evC (m24E k) M (m24I k) 0 m24A (m24c [true, false, true, true]) s (m24K2 M k)) (m24K2 M k)
noncomputable def m24K4 (M : Cut (Int × Int)) (k : Nat) : Exit → St → Option (Int × Int) := seqK (normAt 0 m24A false (m24c [true, false, true, true, false, true])) (cutK M m24A (m24c [true, false, true, true, false, true]) fun s => evC (m24E k) M (m24I k) 0 m24A (m24c [true, false, true, true, false, true]) s (m24K2 M k)) (m24K2 M k)
noncomputable def m24K5 (M : Cut (Int × Int)) (k : Nat) : Exit → St → Option (Int × Int) := seqK (normAt 0 m24A false (m24c [true, false, true, true, true, true])) (cutK M m24A (m24c [true, false, true, true, true, true]) fun s => evC (m24E k) M (m24I k) 0 m24A (m24c [true, false, true, true, true, true]) s (m24K2 M k)) (m24K2 M k)
noncomputable def m24K6 (M : Cut (Int × Int)) (k : Nat) : Exit → St → Option (Int × Int) := seqK (normAt 0 m24A false (m24c [true, false, true, true, true, true, false, true])) (cutK M m24A (m24c [true, false, true, true, true, true, false, true]) fun s => evC (m24E k) M (m24I k) 0 m24A (m24c [true, false, true, true, true, true, false, true]) s (m24K2 M k)) (m24K2 M k)
noncomputable def m24K7 (M : Cut (Int × Int)) (k : Nat) : Exit → St → Option (Int × Int) := seqK (normAt 0 m24A false (m24c [true, true, true])) (cutK M m24A (m24c [true, true, true]) fun s => evC (m24E k) M (m24I k) 0 m24A (m24c [true, true, true]) s (retK Try.prog Try.f24 [.leaf (.val (.int .i64)), .leaf (.val (.int .i64))])) (retK Try.prog Try.f24 [.leaf (.val (.int .i64)), .leaf (.val (.int .i64))])
noncomputable def m24K8 (M : Cut (Int × Int)) (k : Nat) : Exit → St → Option (Int × Int) := seqK (normAt 0 m24A false (m24c [true, true, true, true])) (cutK M m24A (m24c [true, true, true, true]) fun s => evC (m24E k) M (m24I k) 0 m24A (m24c [true, true, true, true]) s (retK Try.prog Try.f24 [.leaf (.val (.int .i64)), .leaf (.val (.int .i64))])) (retK Try.prog Try.f24 [.leaf (.val (.int .i64)), .leaf (.val (.int .i64))])
noncomputable def m24K9 (M : Cut (Int × Int)) (k : Nat) : Exit → St → Option (Int × Int) := seqK (normAt 0 m24A false (m24c [true, true, true, false, true])) (cutK M m24A (m24c [true, true, true, false, true]) fun s => evC (m24E k) M (m24I k) 0 m24A (m24c [true, true, true, false, true]) s (m24K8 M k)) (m24K8 M k)
noncomputable def m24K10 (M : Cut (Int × Int)) (k : Nat) : Exit → St → Option (Int × Int) := blockK 1 (m24K8 M k)
noncomputable def m24K11 (M : Cut (Int × Int)) (k : Nat) (L15 : St → Option (Int × Int)) : Exit → St → Option (Int × Int) := seqK (normAt 0 m24A true (m24c [true, true, true, false, true, true, true])) L15 (m24K10 M k)
noncomputable def m24K12 (M : Cut (Int × Int)) (k : Nat) (L15 : St → Option (Int × Int)) : Exit → St → Option (Int × Int) := seqK (normAt 0 m24A false (m24c [true, true, true, false, true, true, true, true])) (cutK M m24A (m24c [true, true, true, false, true, true, true, true]) fun s => evC (m24E k) M (m24I k) 0 m24A (m24c [true, true, true, false, true, true, true, true]) s (m24K11 M k L15)) (m24K11 M k L15)
noncomputable def m24K13 (M : Cut (Int × Int)) (k : Nat) (L15 : St → Option (Int × Int)) : Exit → St → Option (Int × Int) := seqK (normAt 0 m24A false (m24c [true, true, true, false, true, true, true, true, true])) (cutK M m24A (m24c [true, true, true, false, true, true, true, true, true]) fun s => evC (m24E k) M (m24I k) 0 m24A (m24c [true, true, true, false, true, true, true, true, true]) s (m24K11 M k L15)) (m24K11 M k L15)
noncomputable def m24K14 (M : Cut (Int × Int)) (k : Nat) (L15 : St → Option (Int × Int)) : Exit → St → Option (Int × Int) := seqK (normAt 0 m24A false (m24c [true, true, true, false, true, true, true, true, true, true])) (cutK M m24A (m24c [true, true, true, false, true, true, true, true, true, true]) fun s => evC (m24E k) M (m24I k) 0 m24A (m24c [true, true, true, false, true, true, true, true, true, true]) s (m24K11 M k L15)) (m24K11 M k L15)
noncomputable def m24K15 (M : Cut (Int × Int)) (k : Nat) (L15 : St → Option (Int × Int)) : Exit → St → Option (Int × Int) := blockK 2 (m24K14 M k L15)
noncomputable def m24K16 (M : Cut (Int × Int)) (k : Nat) (L15 : St → Option (Int × Int)) : Exit → St → Option (Int × Int) := seqK (normAt 0 m24A false (m24c [true, true, true, false, true, true, true, true, true, false, true, true])) (cutK M m24A (m24c [true, true, true, false, true, true, true, true, true, false, true, true]) fun s => evC (m24E k) M (m24I k) 0 m24A (m24c [true, true, true, false, true, true, true, true, true, false, true, true]) s (m24K15 M k L15)) (m24K15 M k L15)
noncomputable def m24K17 (M : Cut (Int × Int)) (k : Nat) : Exit → St → Option (Int × Int) := seqK (normAt 0 m24A false (m24c [true, true, true, true, true])) (cutK M m24A (m24c [true, true, true, true, true]) fun s => evC (m24E k) M (m24I k) 0 m24A (m24c [true, true, true, true, true]) s (retK Try.prog Try.f24 [.leaf (.val (.int .i64)), .leaf (.val (.int .i64))])) (retK Try.prog Try.f24 [.leaf (.val (.int .i64)), .leaf (.val (.int .i64))])
noncomputable def m24S15 (t8 : Int) (t40 : List Int) (t41 : Int) (t42 : Int) : St := { n := 53, tm := slots [(8, .int .i64 t8), (40, .row (.int .u8) t40), (41, .int .i64 t41), (42, .int .i64 t42)], tab := blks [], nx := 0 }
noncomputable def m24S22 (t8 : Int) : St := { n := 53, tm := slots [(8, .int .i64 t8)], tab := blks [], nx := 0 }

noncomputable def m24X (X15 : Int → List Int → Int → Int → Option (Int × Int)) (k : Nat) (p0 : (List Int)) (p1 : Int) (p2 : Int) : Option (Int × Int) := (if ltI p2 1 = true then some ((0, 1)) else (if ltI 4 p2 = true then some ((0, 1)) else (if ltI p1 0 = true then some ((0, 1)) else (if ltI (↑(List.length p0) : Int) p1 = true then some ((0, 1)) else (if ltI (wr IntKind.i64 ((↑(List.length p0) : Int) - p1)) p2 = true then some ((0, 3)) else (if leI 0 (wr IntKind.i64 (p1 + p2)) = true then (if leI (wr IntKind.i64 (p1 + p2)) (↑(List.length p0) : Int) = true then (if leI 0 p1 = true then (if leI p1 (wr IntKind.i64 (p1 + p2)) = true then X15 (0) (List.drop (Int.toNat p1) (List.take (Int.toNat (wr IntKind.i64 (p1 + p2))) p0)) ((↑(List.length (List.drop (Int.toNat p1) (List.take (Int.toNat (wr IntKind.i64 (p1 + p2))) p0))) : Int)) (0) else none) else none) else none) else none))))))

theorem m24x (M : Cut (Int × Int)) (k : Nat) (p0 : (List Int)) (p1 : Int) (p2 : Int) : evC (m24E k) M (m24I k) 0 m24A (m24c []) (stAt Try.f24 (argSs [.leaf (.val (.row (.int .u8))), .leaf (.val (.int .i64)), .leaf (.val (.int .i64))] (p0, p1, p2)) (fun _ => none) 0) (retK Try.prog Try.f24 [.leaf (.val (.int .i64)), .leaf (.val (.int .i64))]) = m24X (fun t8' t40' t41' t42' => loopN (normAt 0 m24A true (m24c [true, true, true, false, true, true, true])) (fun K s => evC (m24E k) M (m24I k) 0 m24A (m24c [true, true, true, false, true, true, true]) s K) (m24K10 M k) k (m24S15 t8' t40' t41' t42')) k p0 p1 p2 := by kernel_rfl

noncomputable def m24X15 (X22 : Int → Option (Int × Int)) (L15 : Int → List Int → Int → Int → Option (Int × Int)) (k : Nat) (t8 : Int) (t40 : List Int) (t41 : Int) (t42 : Int) : Option (Int × Int) := (if ltI t42 t41 = true then (if leI 0 t42 = true then (if ltI t42 (↑(List.length t40) : Int) = true then (if leI 0 8 = true then L15 (bits BinOp.or IntKind.i64 (wr IntKind.i64 (t8 * 256)) (wr IntKind.i64 (List.getD t40 (Int.toNat t42) 0))) t40 t41 (wr IntKind.i64 (t42 + 1)) else none) else none) else none) else X22 t8)

theorem m24x15 (M : Cut (Int × Int)) (k : Nat) (L15 : St → Option (Int × Int)) (t8 : Int) (t40 : List Int) (t41 : Int) (t42 : Int) : evC (m24E k) M (m24I k) 0 m24A (m24c [true, true, true, false, true, true, true]) (m24S15 t8 t40 t41 t42) (seqK (normAt 0 m24A true (m24c [true, true, true, false, true, true, true])) L15 (m24K10 M k)) = m24X15 (fun t8' => M 22 (fun s => evC (m24E k) M (m24I k) 0 m24A (m24c [true, true, true, true]) s (retK Try.prog Try.f24 [.leaf (.val (.int .i64)), .leaf (.val (.int .i64))])) (m24S22 t8')) (fun t8' t40' t41' t42' => L15 (m24S15 t8' t40' t41' t42')) k t8 t40 t41 t42 := by kernel_rfl

noncomputable def m24X22 (k : Nat) (t8 : Int) : Option (Int × Int) := some ((t8, 0))

theorem m24x22 (M : Cut (Int × Int)) (k : Nat) (t8 : Int) : evC (m24E k) M (m24I k) 0 m24A (m24c [true, true, true, true]) (m24S22 t8) (retK Try.prog Try.f24 [.leaf (.val (.int .i64)), .leaf (.val (.int .i64))]) = m24X22 k t8 := by kernel_rfl

noncomputable def m24F22 (k : Nat) (t8 : Int) : Option (Int × Int) := m24X22 k t8

theorem m24q22 (k : Nat) (t8 : Int) : evC (m24E k) (fun _ f => f) (m24I k) 0 m24A (m24c [true, true, true, true]) (m24S22 t8) (retK Try.prog Try.f24 [.leaf (.val (.int .i64)), .leaf (.val (.int .i64))]) = m24F22 k t8 := by
    show _ = m24X22 k t8
    exact m24x22 (fun _ f => f) k t8

noncomputable def m24F15 (k : Nat) : Nat → Int → List Int → Int → Int → Option (Int × Int)
  | 0, _, _, _, _ => none
  | j + 1, t8, t40, t41, t42 => m24X15 (m24F22 k) (m24F15 k j) k t8 t40 t41 t42

theorem m24q15 (k : Nat) : ∀ (j : Nat) (t8 : Int) (t40 : List Int) (t41 : Int) (t42 : Int), loopN (normAt 0 m24A true (m24c [true, true, true, false, true, true, true])) (fun K s => evC (m24E k) (fun _ f => f) (m24I k) 0 m24A (m24c [true, true, true, false, true, true, true]) s K) (m24K10 (fun _ f => f) k) j (m24S15 t8 t40 t41 t42) = m24F15 k j t8 t40 t41 t42
  | 0, _, _, _, _ => rfl
  | j + 1, t8, t40, t41, t42 => by
    have e0 : m24F15 k j = (fun t8' t40' t41' t42' => loopN (normAt 0 m24A true (m24c [true, true, true, false, true, true, true])) (fun K s => evC (m24E k) (fun _ f => f) (m24I k) 0 m24A (m24c [true, true, true, false, true, true, true]) s K) (m24K10 (fun _ f => f) k) j (m24S15 t8' t40' t41' t42')) := funext fun t8' => funext fun t40' => funext fun t41' => funext fun t42' => (m24q15 k j t8' t40' t41' t42').symm
    have e22 : m24F22 k = (fun t8' => evC (m24E k) (fun _ f => f) (m24I k) 0 m24A (m24c [true, true, true, true]) (m24S22 t8') (retK Try.prog Try.f24 [.leaf (.val (.int .i64)), .leaf (.val (.int .i64))])) := funext fun t8' => (m24q22 k t8').symm
    show _ = m24X15 (m24F22 k) (m24F15 k j) k t8 t40 t41 t42
    rw [e0, e22]
    exact m24x15 (fun _ f => f) k (loopN (normAt 0 m24A true (m24c [true, true, true, false, true, true, true])) (fun K s => evC (m24E k) (fun _ f => f) (m24I k) 0 m24A (m24c [true, true, true, false, true, true, true]) s K) (m24K10 (fun _ f => f) k) j) t8 t40 t41 t42

noncomputable def m24F (k : Nat) (p0 : (List Int)) (p1 : Int) (p2 : Int) : Option (Int × Int) := m24X (m24F15 k k) k p0 p1 p2

theorem m24q (k : Nat) (p0 : (List Int)) (p1 : Int) (p2 : Int) : evC (m24E k) (fun _ f => f) (m24I k) 0 m24A (m24c []) (stAt Try.f24 (argSs [.leaf (.val (.row (.int .u8))), .leaf (.val (.int .i64)), .leaf (.val (.int .i64))] (p0, p1, p2)) (fun _ => none) 0) (retK Try.prog Try.f24 [.leaf (.val (.int .i64)), .leaf (.val (.int .i64))]) = m24F k p0 p1 p2 := by
    have e15 : m24F15 k k = (fun t8' t40' t41' t42' => loopN (normAt 0 m24A true (m24c [true, true, true, false, true, true, true])) (fun K s => evC (m24E k) (fun _ f => f) (m24I k) 0 m24A (m24c [true, true, true, false, true, true, true]) s K) (m24K10 (fun _ f => f) k) k (m24S15 t8' t40' t41' t42')) := funext fun t8' => funext fun t40' => funext fun t41' => funext fun t42' => (m24q15 k k t8' t40' t41' t42').symm
    show _ = m24X (m24F15 k k) k p0 p1 p2
    rw [e15]
    exact m24x (fun _ f => f) k p0 p1 p2

noncomputable def m24sp : Spec := { ps := [.leaf (.val (.row (.int .u8))), .leaf (.val (.int .i64)), .leaf (.val (.int .i64))], rs := [.leaf (.val (.int .i64)), .leaf (.val (.int .i64))], f := fun k a => m24F k a.1 a.2.1 a.2.2 }

theorem m24ok (k : Nat) : EnvOk (m24E k) := envOk_of (l := []) (lB := []) progNames progMixed rfl rfl (.nil) (.nil)

theorem m24con (k : Nat) : Contract Try.prog k 24 m24sp := contract_of (E := m24E k) (m24ok k) (A := only 24 m24A) (d := 3) (c := m24c []) (by kernel_rfl) (by kernel_rfl) fun a _ h => (m24q k a.1 a.2.1 a.2.2).trans h

noncomputable def m25A : Anns := tabA [(15, { keep := [0, 1, 2, 8, 9] }), (20, { keep := [8] })]
noncomputable def m25E (k : Nat) : Env := { P := Try.prog, k := k, G := tabG [], GB := tabGB [] }
noncomputable def m25c (p : List Bool) : Code := sub p (bodyOf Try.f25)
noncomputable def m25I (k : Nat) : Inl (Int × Int) := inlOf (m25E k) (only 25 m25A) 3
noncomputable def m25K0 (M : Cut (Int × Int)) (k : Nat) : Exit → St → Option (Int × Int) := seqK (normAt 0 m25A false (m25c [true])) (cutK M m25A (m25c [true]) fun s => evC (m25E k) M (m25I k) 0 m25A (m25c [true]) s (retK Try.prog Try.f25 [.leaf (.val (.int .i64)), .leaf (.val (.int .i64))])) (retK Try.prog Try.f25 [.leaf (.val (.int .i64)), .leaf (.val (.int .i64))])
noncomputable def m25K1 (M : Cut (Int × Int)) (k : Nat) : Exit → St → Option (Int × Int) := seqK (normAt 0 m25A false (m25c [true, true])) (cutK M m25A (m25c [true, true]) fun s => evC (m25E k) M (m25I k) 0 m25A (m25c [true, true]) s (retK Try.prog Try.f25 [.leaf (.val (.int .i64)), .leaf (.val (.int .i64))])) (retK Try.prog Try.f25 [.leaf (.val (.int .i64)), .leaf (.val (.int .i64))])
noncomputable def m25K2 (M : Cut (Int × Int)) (k : Nat) : Exit → St → Option (Int × Int) := seqK (normAt 0 m25A false (m25c [true, false, true])) (cutK M m25A (m25c [true, false, true]) fun s => evC (m25E k) M (m25I k) 0 m25A (m25c [true, false, true]) s (m25K1 M k)) (m25K1 M k)
noncomputable def m25K3 (M : Cut (Int × Int)) (k : Nat) : Exit → St → Option (Int × Int) := seqK (normAt 0 m25A false (m25c [true, false, true, false, true])) (cutK M m25A (m25c [true, false, true, false, true]) fun s => evC (m25E k) M (m25I k) 0 m25A (m25c [true, false, true, false, true]) s (m25K1 M k)) (m25K1 M k)
noncomputable def m25K4 (M : Cut (Int × Int)) (k : Nat) : Exit → St → Option (Int × Int) := seqK (normAt 0 m25A false (m25c [true, true, true])) (cutK M m25A (m25c [true, true, true]) fun s => evC (m25E k) M (m25I k) 0 m25A (m25c [true, true, true]) s (retK Try.prog Try.f25 [.leaf (.val (.int .i64)), .leaf (.val (.int .i64))])) (retK Try.prog Try.f25 [.leaf (.val (.int .i64)), .leaf (.val (.int .i64))])
noncomputable def m25K5 (M : Cut (Int × Int)) (k : Nat) : Exit → St → Option (Int × Int) := seqK (normAt 0 m25A false (m25c [true, true, false, true])) (cutK M m25A (m25c [true, true, false, true]) fun s => evC (m25E k) M (m25I k) 0 m25A (m25c [true, true, false, true]) s (m25K4 M k)) (m25K4 M k)
noncomputable def m25K6 (M : Cut (Int × Int)) (k : Nat) : Exit → St → Option (Int × Int) := seqK (normAt 0 m25A false (m25c [true, true, false, true, false, true])) (cutK M m25A (m25c [true, true, false, true, false, true]) fun s => evC (m25E k) M (m25I k) 0 m25A (m25c [true, true, false, true, false, true]) s (m25K4 M k)) (m25K4 M k)
noncomputable def m25K7 (M : Cut (Int × Int)) (k : Nat) : Exit → St → Option (Int × Int) := seqK (normAt 0 m25A false (m25c [true, true, true, true])) (cutK M m25A (m25c [true, true, true, true]) fun s => evC (m25E k) M (m25I k) 0 m25A (m25c [true, true, true, true]) s (retK Try.prog Try.f25 [.leaf (.val (.int .i64)), .leaf (.val (.int .i64))])) (retK Try.prog Try.f25 [.leaf (.val (.int .i64)), .leaf (.val (.int .i64))])
noncomputable def m25K8 (M : Cut (Int × Int)) (k : Nat) : Exit → St → Option (Int × Int) := seqK (normAt 0 m25A false (m25c [true, true, true, true, true])) (cutK M m25A (m25c [true, true, true, true, true]) fun s => evC (m25E k) M (m25I k) 0 m25A (m25c [true, true, true, true, true]) s (retK Try.prog Try.f25 [.leaf (.val (.int .i64)), .leaf (.val (.int .i64))])) (retK Try.prog Try.f25 [.leaf (.val (.int .i64)), .leaf (.val (.int .i64))])
noncomputable def m25K9 (M : Cut (Int × Int)) (k : Nat) : Exit → St → Option (Int × Int) := seqK (normAt 0 m25A false (m25c [true, true, true, true, false, true])) (cutK M m25A (m25c [true, true, true, true, false, true]) fun s => evC (m25E k) M (m25I k) 0 m25A (m25c [true, true, true, true, false, true]) s (m25K8 M k)) (m25K8 M k)
noncomputable def m25K10 (M : Cut (Int × Int)) (k : Nat) : Exit → St → Option (Int × Int) := blockK 0 (m25K8 M k)
noncomputable def m25K11 (M : Cut (Int × Int)) (k : Nat) (L15 : St → Option (Int × Int)) : Exit → St → Option (Int × Int) := seqK (normAt 0 m25A true (m25c [true, true, true, true, false, true, true, true])) L15 (m25K10 M k)
noncomputable def m25K12 (M : Cut (Int × Int)) (k : Nat) (L15 : St → Option (Int × Int)) : Exit → St → Option (Int × Int) := seqK (normAt 0 m25A false (m25c [true, true, true, true, false, true, true, true, true])) (cutK M m25A (m25c [true, true, true, true, false, true, true, true, true]) fun s => evC (m25E k) M (m25I k) 0 m25A (m25c [true, true, true, true, false, true, true, true, true]) s (m25K11 M k L15)) (m25K11 M k L15)
noncomputable def m25K13 (M : Cut (Int × Int)) (k : Nat) (L15 : St → Option (Int × Int)) : Exit → St → Option (Int × Int) := seqK (normAt 0 m25A false (m25c [true, true, true, true, false, true, true, true, false, true])) (cutK M m25A (m25c [true, true, true, true, false, true, true, true, false, true]) fun s => evC (m25E k) M (m25I k) 0 m25A (m25c [true, true, true, true, false, true, true, true, false, true]) s (m25K12 M k L15)) (m25K12 M k L15)
noncomputable def m25K14 (M : Cut (Int × Int)) (k : Nat) (L15 : St → Option (Int × Int)) : Exit → St → Option (Int × Int) := seqK (normAt 0 m25A false (m25c [true, true, true, true, false, true, true, true, true, true])) (cutK M m25A (m25c [true, true, true, true, false, true, true, true, true, true]) fun s => evC (m25E k) M (m25I k) 0 m25A (m25c [true, true, true, true, false, true, true, true, true, true]) s (m25K11 M k L15)) (m25K11 M k L15)
noncomputable def m25K15 (M : Cut (Int × Int)) (k : Nat) (L15 : St → Option (Int × Int)) : Exit → St → Option (Int × Int) := blockK 1 (m25K14 M k L15)
noncomputable def m25K16 (M : Cut (Int × Int)) (k : Nat) : Exit → St → Option (Int × Int) := seqK (normAt 0 m25A false (m25c [true, true, true, true, true, true])) (cutK M m25A (m25c [true, true, true, true, true, true]) fun s => evC (m25E k) M (m25I k) 0 m25A (m25c [true, true, true, true, true, true]) s (retK Try.prog Try.f25 [.leaf (.val (.int .i64)), .leaf (.val (.int .i64))])) (retK Try.prog Try.f25 [.leaf (.val (.int .i64)), .leaf (.val (.int .i64))])
noncomputable def m25S15 (t0 : List Int) (t1 : Int) (t2 : Int) (t8 : Int) (t9 : Int) : St := { n := 48, tm := slots [(0, .row (.int .u8) t0), (1, .int .i64 t1), (2, .int .i64 t2), (8, .int .i64 t8), (9, .int .i64 t9)], tab := blks [], nx := 0 }
noncomputable def m25S20 (t8 : Int) : St := { n := 48, tm := slots [(8, .int .i64 t8)], tab := blks [], nx := 0 }

noncomputable def m25X (X15 : List Int → Int → Int → Int → Int → Option (Int × Int)) (k : Nat) (p0 : (List Int)) (p1 : Int) (p2 : Int) : Option (Int × Int) := (if ltI p2 1 = true then some ((0, 1)) else (if ltI 4 p2 = true then some ((0, 1)) else (if ltI p1 0 = true then some ((0, 1)) else (if ltI (↑(List.length p0) : Int) p1 = true then some ((0, 1)) else (if ltI (wr IntKind.i64 ((↑(List.length p0) : Int) - p1)) p2 = true then some ((0, 3)) else X15 p0 p1 p2 (0) (0))))))

theorem m25x (M : Cut (Int × Int)) (k : Nat) (p0 : (List Int)) (p1 : Int) (p2 : Int) : evC (m25E k) M (m25I k) 0 m25A (m25c []) (stAt Try.f25 (argSs [.leaf (.val (.row (.int .u8))), .leaf (.val (.int .i64)), .leaf (.val (.int .i64))] (p0, p1, p2)) (fun _ => none) 0) (retK Try.prog Try.f25 [.leaf (.val (.int .i64)), .leaf (.val (.int .i64))]) = m25X (fun t0' t1' t2' t8' t9' => loopN (normAt 0 m25A true (m25c [true, true, true, true, false, true, true, true])) (fun K s => evC (m25E k) M (m25I k) 0 m25A (m25c [true, true, true, true, false, true, true, true]) s K) (m25K10 M k) k (m25S15 t0' t1' t2' t8' t9')) k p0 p1 p2 := by kernel_rfl

noncomputable def m25X15 (X20 : Int → Option (Int × Int)) (L15 : List Int → Int → Int → Int → Int → Option (Int × Int)) (k : Nat) (t0 : List Int) (t1 : Int) (t2 : Int) (t8 : Int) (t9 : Int) : Option (Int × Int) := (if ltI t9 t2 = true then (if leI 0 8 = true then (if leI 0 (wr IntKind.i64 (t1 + t9)) = true then (if ltI (wr IntKind.i64 (t1 + t9)) (↑(List.length t0) : Int) = true then L15 t0 t1 t2 (bits BinOp.or IntKind.i64 (wr IntKind.i64 (t8 * 256))
  (wr IntKind.i64 (List.getD t0 (Int.toNat (wr IntKind.i64 (t1 + t9))) 0))) (wr IntKind.i64 (t9 + 1)) else none) else none) else none) else X20 t8)

theorem m25x15 (M : Cut (Int × Int)) (k : Nat) (L15 : St → Option (Int × Int)) (t0 : List Int) (t1 : Int) (t2 : Int) (t8 : Int) (t9 : Int) : evC (m25E k) M (m25I k) 0 m25A (m25c [true, true, true, true, false, true, true, true]) (m25S15 t0 t1 t2 t8 t9) (seqK (normAt 0 m25A true (m25c [true, true, true, true, false, true, true, true])) L15 (m25K10 M k)) = m25X15 (fun t8' => M 20 (fun s => evC (m25E k) M (m25I k) 0 m25A (m25c [true, true, true, true, true]) s (retK Try.prog Try.f25 [.leaf (.val (.int .i64)), .leaf (.val (.int .i64))])) (m25S20 t8')) (fun t0' t1' t2' t8' t9' => L15 (m25S15 t0' t1' t2' t8' t9')) k t0 t1 t2 t8 t9 := by kernel_rfl

noncomputable def m25X20 (k : Nat) (t8 : Int) : Option (Int × Int) := some ((t8, 0))

theorem m25x20 (M : Cut (Int × Int)) (k : Nat) (t8 : Int) : evC (m25E k) M (m25I k) 0 m25A (m25c [true, true, true, true, true]) (m25S20 t8) (retK Try.prog Try.f25 [.leaf (.val (.int .i64)), .leaf (.val (.int .i64))]) = m25X20 k t8 := by kernel_rfl

noncomputable def m25F20 (k : Nat) (t8 : Int) : Option (Int × Int) := m25X20 k t8

theorem m25q20 (k : Nat) (t8 : Int) : evC (m25E k) (fun _ f => f) (m25I k) 0 m25A (m25c [true, true, true, true, true]) (m25S20 t8) (retK Try.prog Try.f25 [.leaf (.val (.int .i64)), .leaf (.val (.int .i64))]) = m25F20 k t8 := by
    show _ = m25X20 k t8
    exact m25x20 (fun _ f => f) k t8

noncomputable def m25F15 (k : Nat) : Nat → List Int → Int → Int → Int → Int → Option (Int × Int)
  | 0, _, _, _, _, _ => none
  | j + 1, t0, t1, t2, t8, t9 => m25X15 (m25F20 k) (m25F15 k j) k t0 t1 t2 t8 t9

theorem m25q15 (k : Nat) : ∀ (j : Nat) (t0 : List Int) (t1 : Int) (t2 : Int) (t8 : Int) (t9 : Int), loopN (normAt 0 m25A true (m25c [true, true, true, true, false, true, true, true])) (fun K s => evC (m25E k) (fun _ f => f) (m25I k) 0 m25A (m25c [true, true, true, true, false, true, true, true]) s K) (m25K10 (fun _ f => f) k) j (m25S15 t0 t1 t2 t8 t9) = m25F15 k j t0 t1 t2 t8 t9
  | 0, _, _, _, _, _ => rfl
  | j + 1, t0, t1, t2, t8, t9 => by
    have e0 : m25F15 k j = (fun t0' t1' t2' t8' t9' => loopN (normAt 0 m25A true (m25c [true, true, true, true, false, true, true, true])) (fun K s => evC (m25E k) (fun _ f => f) (m25I k) 0 m25A (m25c [true, true, true, true, false, true, true, true]) s K) (m25K10 (fun _ f => f) k) j (m25S15 t0' t1' t2' t8' t9')) := funext fun t0' => funext fun t1' => funext fun t2' => funext fun t8' => funext fun t9' => (m25q15 k j t0' t1' t2' t8' t9').symm
    have e20 : m25F20 k = (fun t8' => evC (m25E k) (fun _ f => f) (m25I k) 0 m25A (m25c [true, true, true, true, true]) (m25S20 t8') (retK Try.prog Try.f25 [.leaf (.val (.int .i64)), .leaf (.val (.int .i64))])) := funext fun t8' => (m25q20 k t8').symm
    show _ = m25X15 (m25F20 k) (m25F15 k j) k t0 t1 t2 t8 t9
    rw [e0, e20]
    exact m25x15 (fun _ f => f) k (loopN (normAt 0 m25A true (m25c [true, true, true, true, false, true, true, true])) (fun K s => evC (m25E k) (fun _ f => f) (m25I k) 0 m25A (m25c [true, true, true, true, false, true, true, true]) s K) (m25K10 (fun _ f => f) k) j) t0 t1 t2 t8 t9

noncomputable def m25F (k : Nat) (p0 : (List Int)) (p1 : Int) (p2 : Int) : Option (Int × Int) := m25X (m25F15 k k) k p0 p1 p2

theorem m25q (k : Nat) (p0 : (List Int)) (p1 : Int) (p2 : Int) : evC (m25E k) (fun _ f => f) (m25I k) 0 m25A (m25c []) (stAt Try.f25 (argSs [.leaf (.val (.row (.int .u8))), .leaf (.val (.int .i64)), .leaf (.val (.int .i64))] (p0, p1, p2)) (fun _ => none) 0) (retK Try.prog Try.f25 [.leaf (.val (.int .i64)), .leaf (.val (.int .i64))]) = m25F k p0 p1 p2 := by
    have e15 : m25F15 k k = (fun t0' t1' t2' t8' t9' => loopN (normAt 0 m25A true (m25c [true, true, true, true, false, true, true, true])) (fun K s => evC (m25E k) (fun _ f => f) (m25I k) 0 m25A (m25c [true, true, true, true, false, true, true, true]) s K) (m25K10 (fun _ f => f) k) k (m25S15 t0' t1' t2' t8' t9')) := funext fun t0' => funext fun t1' => funext fun t2' => funext fun t8' => funext fun t9' => (m25q15 k k t0' t1' t2' t8' t9').symm
    show _ = m25X (m25F15 k k) k p0 p1 p2
    rw [e15]
    exact m25x (fun _ f => f) k p0 p1 p2

noncomputable def m25sp : Spec := { ps := [.leaf (.val (.row (.int .u8))), .leaf (.val (.int .i64)), .leaf (.val (.int .i64))], rs := [.leaf (.val (.int .i64)), .leaf (.val (.int .i64))], f := fun k a => m25F k a.1 a.2.1 a.2.2 }

theorem m25ok (k : Nat) : EnvOk (m25E k) := envOk_of (l := []) (lB := []) progNames progMixed rfl rfl (.nil) (.nil)

theorem m25con (k : Nat) : Contract Try.prog k 25 m25sp := contract_of (E := m25E k) (m25ok k) (A := only 25 m25A) (d := 3) (c := m25c []) (by kernel_rfl) (by kernel_rfl) fun a _ h => (m25q k a.1 a.2.1 a.2.2).trans h

end Go.Proofs.Ytmjbjlhjpdebjaa.Mini
