/- Printed by a program of this session's (MPrint, over wip/mini): plain functions of the program's, and that they are what it does. Lean checks it. -/
import Derived.Test.YtmjbjlhjpdebjaaMF
set_option linter.unusedVariables false
namespace Go.Proofs.Ytmjbjlhjpdebjaa.Mini
open Go Go.RowKit Go.Proofs

noncomputable def m3A : Anns := tabA []
noncomputable def m3E (k : Nat) : Env := { P := Try.prog, k := k, G := tabG [(10, m10sp), (11, m11sp), (12, m12sp)] }
noncomputable def m3c (p : List Bool) : Code := sub p (bodyOf Try.f3)
noncomputable def m3I (k : Nat) : Inl Bool := inlOf (m3E k) (only 3 m3A) 3
noncomputable def m3K0 (M : Cut Bool) (k : Nat) : Exit → St → Option Bool := seqK (normAt 0 m3A false (m3c [true])) (cutK M m3A (m3c [true]) fun s => evC (m3E k) M (m3I k) 0 m3A (m3c [true]) s (retK Try.prog Try.f3 [.leaf (.val .bool)])) (retK Try.prog Try.f3 [.leaf (.val .bool)])
noncomputable def m3K1 (M : Cut Bool) (k : Nat) : Exit → St → Option Bool := seqK (normAt 0 m3A false (m3c [true, true])) (cutK M m3A (m3c [true, true]) fun s => evC (m3E k) M (m3I k) 0 m3A (m3c [true, true]) s (retK Try.prog Try.f3 [.leaf (.val .bool)])) (retK Try.prog Try.f3 [.leaf (.val .bool)])
noncomputable def m3K2 (M : Cut Bool) (k : Nat) : Exit → St → Option Bool := seqK (normAt 0 m3A false (m3c [true, true, true])) (cutK M m3A (m3c [true, true, true]) fun s => evC (m3E k) M (m3I k) 0 m3A (m3c [true, true, true]) s (retK Try.prog Try.f3 [.leaf (.val .bool)])) (retK Try.prog Try.f3 [.leaf (.val .bool)])
noncomputable def m3K3 (M : Cut Bool) (k : Nat) : Exit → St → Option Bool := seqK (normAt 0 m3A false (m3c [true, true, true, true])) (cutK M m3A (m3c [true, true, true, true]) fun s => evC (m3E k) M (m3I k) 0 m3A (m3c [true, true, true, true]) s (retK Try.prog Try.f3 [.leaf (.val .bool)])) (retK Try.prog Try.f3 [.leaf (.val .bool)])
noncomputable def m3K4 (M : Cut Bool) (k : Nat) : Exit → St → Option Bool := seqK (normAt 0 m3A false (m3c [true, true, true, true, true])) (cutK M m3A (m3c [true, true, true, true, true]) fun s => evC (m3E k) M (m3I k) 0 m3A (m3c [true, true, true, true, true]) s (retK Try.prog Try.f3 [.leaf (.val .bool)])) (retK Try.prog Try.f3 [.leaf (.val .bool)])
noncomputable def m3K5 (M : Cut Bool) (k : Nat) : Exit → St → Option Bool := seqK (normAt 0 m3A false (m3c [true, true, true, true, true, true])) (cutK M m3A (m3c [true, true, true, true, true, true]) fun s => evC (m3E k) M (m3I k) 0 m3A (m3c [true, true, true, true, true, true]) s (retK Try.prog Try.f3 [.leaf (.val .bool)])) (retK Try.prog Try.f3 [.leaf (.val .bool)])

noncomputable def m3X (k : Nat) (p0 : Int) (p1 : Int) : Option Bool := (if (!eqI 32 0) = true then (Option.bind (m10F k (bits BinOp.and IntKind.i64 p0 4294967295)) fun (c4 : Int) => (Option.bind (m10F k (bits BinOp.and IntKind.i64 (bits BinOp.and IntKind.i64 p0 4294967295) 65535)) fun (c5 : Int) => (if leI 0 16 = true then (Option.bind (m10F k (bits BinOp.and IntKind.i64 p0 4294967295 / 65536)) fun (c6 : Int) => (if leI 0 (wr IntKind.u64 (wr IntKind.i64 (Int.tmod (wr IntKind.u64 p1) 32))) = true then (Option.bind (m10F k
  (bits BinOp.or IntKind.i64 (bits BinOp.and IntKind.i64 p0 4294967295)
    (wr IntKind.i64 (1 * p2 (min (Int.toNat (wr IntKind.u64 (wr IntKind.i64 (Int.tmod (wr IntKind.u64 p1) 32)))) 64))))) fun (c7 : Int) => (if leI 0 (wr IntKind.u64 (wr IntKind.i64 (Int.tmod (wr IntKind.u64 p1) 32))) = true then (Option.bind (m10F k
  (bits BinOp.andNot IntKind.i64 (bits BinOp.and IntKind.i64 p0 4294967295)
    (wr IntKind.i64 (1 * p2 (min (Int.toNat (wr IntKind.u64 (wr IntKind.i64 (Int.tmod (wr IntKind.u64 p1) 32)))) 64))))) fun (c8 : Int) => (if eqI c4 (wr IntKind.i64 (c5 + c6)) = true then (if eqI c7 (wr IntKind.i64 (c8 + 1)) = true then (if eqI c4 c7 = true then (Option.bind (m11F k (bits BinOp.and IntKind.i64 p0 4294967295)) fun (c9 : Int) => (if eqI c4 c9 = true then (Option.bind (m10F k (wr IntKind.i64 (-1 - bits BinOp.and IntKind.i64 p0 4294967295))) fun (c10 : Int) => (if eqI c10 0 = true then (Option.bind (m12F k) fun (c11 : Bool) => some c11) else some (false))) else some (false))) else (if eqI c4 c8 = true then (Option.bind (m11F k (bits BinOp.and IntKind.i64 p0 4294967295)) fun (c9 : Int) => (if eqI c4 c9 = true then (Option.bind (m10F k (wr IntKind.i64 (-1 - bits BinOp.and IntKind.i64 p0 4294967295))) fun (c10 : Int) => (if eqI c10 0 = true then (Option.bind (m12F k) fun (c11 : Bool) => some c11) else some (false))) else some (false))) else some (false))) else some (false)) else some (false))) else none)) else none)) else none))) else none)

theorem m3x (M : Cut Bool) (k : Nat) (p0 : Int) (p1 : Int) : evC (m3E k) M (m3I k) 0 m3A (m3c []) (stAt Try.f3 (argSs [.leaf (.val (.int .i64)), .leaf (.val (.int .i64))] (p0, p1)) (fun _ => none) 0) (retK Try.prog Try.f3 [.leaf (.val .bool)]) = m3X k p0 p1 := by kernel_rfl

noncomputable def m3F (k : Nat) (p0 : Int) (p1 : Int) : Option Bool := m3X k p0 p1

theorem m3q (k : Nat) (p0 : Int) (p1 : Int) : evC (m3E k) (fun _ f => f) (m3I k) 0 m3A (m3c []) (stAt Try.f3 (argSs [.leaf (.val (.int .i64)), .leaf (.val (.int .i64))] (p0, p1)) (fun _ => none) 0) (retK Try.prog Try.f3 [.leaf (.val .bool)]) = m3F k p0 p1 := by
    show _ = m3X k p0 p1
    exact m3x (fun _ f => f) k p0 p1

noncomputable def m3sp : Spec := { ps := [.leaf (.val (.int .i64)), .leaf (.val (.int .i64))], rs := [.leaf (.val .bool)], f := fun k a => m3F k a.1 a.2 }

theorem m3ok (k : Nat) : EnvOk (m3E k) := envOk_of (l := [(10, m10sp), (11, m11sp), (12, m12sp)]) progNames progMixed rfl (.cons ⟨m10con k, Try.f10, by kernel_rfl, by kernel_rfl⟩ (.cons ⟨m11con k, Try.f11, by kernel_rfl, by kernel_rfl⟩ (.cons ⟨m12con k, Try.f12, by kernel_rfl, by kernel_rfl⟩ (.nil))))

theorem m3con (k : Nat) : Contract Try.prog k 3 m3sp := contract_of (E := m3E k) (m3ok k) (A := only 3 m3A) (d := 3) (c := m3c []) (by kernel_rfl) (by kernel_rfl) fun a _ h => (m3q k a.1 a.2).trans h

end Go.Proofs.Ytmjbjlhjpdebjaa.Mini
