/- Printed by a program of this session's (MPrint, over wip/mini): plain functions of the program's, and that they are what it does. Lean checks it. -/
import Derived.Test.YtmioimcpiddgfaaMF
set_option linter.unusedVariables false
namespace Go.Proofs.Ytmioimcpiddgfaa.Mini
open Go Go.RowKit Go.Proofs

noncomputable def m3A : Anns := tabA []
noncomputable def m3E (k : Nat) : Env := { P := Try.prog, k := k, G := tabG [(8, m8sp), (9, m9sp), (10, m10sp), (11, m11sp), (12, m12sp), (13, m13sp), (14, m14sp), (15, m15sp)] }
noncomputable def m3c (p : List Bool) : Code := sub p (bodyOf Try.f3)
noncomputable def m3I (k : Nat) : Inl Bool := inlOf (m3E k) (only 3 m3A) 3
noncomputable def m3K0 (M : Cut Bool) (k : Nat) : Exit → St → Option Bool := seqK (normAt 0 m3A false (m3c [true])) (cutK M m3A (m3c [true]) fun s => evC (m3E k) M (m3I k) 0 m3A (m3c [true]) s (retK Try.prog Try.f3 [.leaf (.val .bool)])) (retK Try.prog Try.f3 [.leaf (.val .bool)])
noncomputable def m3K1 (M : Cut Bool) (k : Nat) : Exit → St → Option Bool := seqK (normAt 0 m3A false (m3c [true, true])) (cutK M m3A (m3c [true, true]) fun s => evC (m3E k) M (m3I k) 0 m3A (m3c [true, true]) s (retK Try.prog Try.f3 [.leaf (.val .bool)])) (retK Try.prog Try.f3 [.leaf (.val .bool)])
noncomputable def m3K2 (M : Cut Bool) (k : Nat) : Exit → St → Option Bool := seqK (normAt 0 m3A false (m3c [true, true, true])) (cutK M m3A (m3c [true, true, true]) fun s => evC (m3E k) M (m3I k) 0 m3A (m3c [true, true, true]) s (retK Try.prog Try.f3 [.leaf (.val .bool)])) (retK Try.prog Try.f3 [.leaf (.val .bool)])
noncomputable def m3K3 (M : Cut Bool) (k : Nat) : Exit → St → Option Bool := seqK (normAt 0 m3A false (m3c [true, true, false, true])) (cutK M m3A (m3c [true, true, false, true]) fun s => evC (m3E k) M (m3I k) 0 m3A (m3c [true, true, false, true]) s (m3K2 M k)) (m3K2 M k)
noncomputable def m3K4 (M : Cut Bool) (k : Nat) : Exit → St → Option Bool := seqK (normAt 0 m3A false (m3c [true, true, false, true, false, true])) (cutK M m3A (m3c [true, true, false, true, false, true]) fun s => evC (m3E k) M (m3I k) 0 m3A (m3c [true, true, false, true, false, true]) s (m3K2 M k)) (m3K2 M k)
noncomputable def m3K5 (M : Cut Bool) (k : Nat) : Exit → St → Option Bool := seqK (normAt 0 m3A false (m3c [true, true, true, true])) (cutK M m3A (m3c [true, true, true, true]) fun s => evC (m3E k) M (m3I k) 0 m3A (m3c [true, true, true, true]) s (retK Try.prog Try.f3 [.leaf (.val .bool)])) (retK Try.prog Try.f3 [.leaf (.val .bool)])
noncomputable def m3K6 (M : Cut Bool) (k : Nat) : Exit → St → Option Bool := seqK (normAt 0 m3A false (m3c [true, true, true, false, true])) (cutK M m3A (m3c [true, true, true, false, true]) fun s => evC (m3E k) M (m3I k) 0 m3A (m3c [true, true, true, false, true]) s (m3K5 M k)) (m3K5 M k)
noncomputable def m3K7 (M : Cut Bool) (k : Nat) : Exit → St → Option Bool := seqK (normAt 0 m3A false (m3c [true, true, true, false, true, false, true])) (cutK M m3A (m3c [true, true, true, false, true, false, true]) fun s => evC (m3E k) M (m3I k) 0 m3A (m3c [true, true, true, false, true, false, true]) s (m3K5 M k)) (m3K5 M k)
noncomputable def m3K8 (M : Cut Bool) (k : Nat) : Exit → St → Option Bool := seqK (normAt 0 m3A false (m3c [true, true, true, true, true])) (cutK M m3A (m3c [true, true, true, true, true]) fun s => evC (m3E k) M (m3I k) 0 m3A (m3c [true, true, true, true, true]) s (retK Try.prog Try.f3 [.leaf (.val .bool)])) (retK Try.prog Try.f3 [.leaf (.val .bool)])
noncomputable def m3K9 (M : Cut Bool) (k : Nat) : Exit → St → Option Bool := seqK (normAt 0 m3A false (m3c [true, true, true, true, false, true])) (cutK M m3A (m3c [true, true, true, true, false, true]) fun s => evC (m3E k) M (m3I k) 0 m3A (m3c [true, true, true, true, false, true]) s (m3K8 M k)) (m3K8 M k)
noncomputable def m3K10 (M : Cut Bool) (k : Nat) : Exit → St → Option Bool := seqK (normAt 0 m3A false (m3c [true, true, true, true, false, true, false, true])) (cutK M m3A (m3c [true, true, true, true, false, true, false, true]) fun s => evC (m3E k) M (m3I k) 0 m3A (m3c [true, true, true, true, false, true, false, true]) s (m3K8 M k)) (m3K8 M k)
noncomputable def m3K11 (M : Cut Bool) (k : Nat) : Exit → St → Option Bool := seqK (normAt 0 m3A false (m3c [true, true, true, true, true, true])) (cutK M m3A (m3c [true, true, true, true, true, true]) fun s => evC (m3E k) M (m3I k) 0 m3A (m3c [true, true, true, true, true, true]) s (retK Try.prog Try.f3 [.leaf (.val .bool)])) (retK Try.prog Try.f3 [.leaf (.val .bool)])
noncomputable def m3K12 (M : Cut Bool) (k : Nat) : Exit → St → Option Bool := seqK (normAt 0 m3A false (m3c [true, true, true, true, true, true, true])) (cutK M m3A (m3c [true, true, true, true, true, true, true]) fun s => evC (m3E k) M (m3I k) 0 m3A (m3c [true, true, true, true, true, true, true]) s (retK Try.prog Try.f3 [.leaf (.val .bool)])) (retK Try.prog Try.f3 [.leaf (.val .bool)])

noncomputable def m3X (k : Nat) (p0 : (Int × Int)) (p1 : Int) : Option Bool := (Option.bind (m8F k (Prod.fst p0, Prod.snd p0)) fun (c4 : ((List Int) × Int)) => (Option.bind (m9F k (Prod.fst p0, Prod.snd p0) p1) fun (c5 : Bool) => (Option.bind (m10F k (Prod.fst p0, Prod.snd p0) p1) fun (c6 : Bool) => (if (!c5 == c6) = true then some (false) else (if ltI (Prod.fst p0) 0 = true then (if eqI (Prod.snd c4) 1 = true then (if eqI (↑(List.length (Prod.fst c4)) : Int) 0 = true then (Option.bind (m11F k) fun (c7 : Bool) => some c7) else some (false)) else some (false)) else (if ltI 1073741824 (Prod.fst p0) = true then (if eqI (Prod.snd c4) 1 = true then (if eqI (↑(List.length (Prod.fst c4)) : Int) 0 = true then (Option.bind (m11F k) fun (c7 : Bool) => some c7) else some (false)) else some (false)) else (if (!eqI (Prod.snd c4) 0) = true then some (false) else (Option.bind (m13F k (Prod.fst p0, Prod.snd p0)) fun (c7 : (List Int)) => (Option.bind (m12F k (Prod.fst c4) c7) fun (c8 : Bool) => (if (!c8) = true then some (false) else (Option.bind (m14F k (Prod.fst c4)) fun (c9 : ((Int × Int) × Int)) => (if eqI (Prod.snd c9) 0 = true then (Option.bind (m15F k (Prod.fst (Prod.fst c9), Prod.snd (Prod.fst c9)) (Prod.fst p0, Prod.snd p0)) fun (c10 : Bool) => (if c10 = true then (Option.bind (m11F k) fun (c11 : Bool) => some c11) else some (false))) else some (false)))))))))))))

theorem m3x (M : Cut Bool) (k : Nat) (p0 : (Int × Int)) (p1 : Int) : evC (m3E k) M (m3I k) 0 m3A (m3c []) (stAt Try.f3 (argSs [.st (.pair (.int .i64) (.int .u32)), .leaf (.val (.int .i64))] (p0, p1)) (fun _ => none) 0) (retK Try.prog Try.f3 [.leaf (.val .bool)]) = m3X k p0 p1 := by kernel_rfl

noncomputable def m3F (k : Nat) (p0 : (Int × Int)) (p1 : Int) : Option Bool := m3X k p0 p1

theorem m3q (k : Nat) (p0 : (Int × Int)) (p1 : Int) : evC (m3E k) (fun _ f => f) (m3I k) 0 m3A (m3c []) (stAt Try.f3 (argSs [.st (.pair (.int .i64) (.int .u32)), .leaf (.val (.int .i64))] (p0, p1)) (fun _ => none) 0) (retK Try.prog Try.f3 [.leaf (.val .bool)]) = m3F k p0 p1 := by
    show _ = m3X k p0 p1
    exact m3x (fun _ f => f) k p0 p1

noncomputable def m3sp : Spec := { ps := [.st (.pair (.int .i64) (.int .u32)), .leaf (.val (.int .i64))], rs := [.leaf (.val .bool)], f := fun k a => m3F k a.1 a.2 }

theorem m3ok (k : Nat) : EnvOk (m3E k) := envOk_of (l := [(8, m8sp), (9, m9sp), (10, m10sp), (11, m11sp), (12, m12sp), (13, m13sp), (14, m14sp), (15, m15sp)]) progNames progMixed rfl (.cons ⟨m8con k, Try.f8, by kernel_rfl, by kernel_rfl⟩ (.cons ⟨m9con k, Try.f9, by kernel_rfl, by kernel_rfl⟩ (.cons ⟨m10con k, Try.f10, by kernel_rfl, by kernel_rfl⟩ (.cons ⟨m11con k, Try.f11, by kernel_rfl, by kernel_rfl⟩ (.cons ⟨m12con k, Try.f12, by kernel_rfl, by kernel_rfl⟩ (.cons ⟨m13con k, Try.f13, by kernel_rfl, by kernel_rfl⟩ (.cons ⟨m14con k, Try.f14, by kernel_rfl, by kernel_rfl⟩ (.cons ⟨m15con k, Try.f15, by kernel_rfl, by kernel_rfl⟩ (.nil)))))))))

theorem m3con (k : Nat) : Contract Try.prog k 3 m3sp := contract_of (E := m3E k) (m3ok k) (A := only 3 m3A) (d := 3) (c := m3c []) (by kernel_rfl) (by kernel_rfl) fun a _ h => (m3q k a.1 a.2).trans h

end Go.Proofs.Ytmioimcpiddgfaa.Mini
