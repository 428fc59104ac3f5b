/- Printed by a program of this session's (MPrint, over wip/mini): plain functions of the program's, and that they are what it does. Lean checks it. -/
import Derived.Test.YtojomolplnnpmaaMF
set_option linter.unusedVariables false
namespace Go.Proofs.Ytojomolplnnpmaa.Mini
open Go Go.RowKit Go.Proofs

noncomputable def m4A : Anns := tabA []
noncomputable def m4E (k : Nat) : Env := { P := Try.prog, k := k, G := tabG [(8, m8sp), (10, m10sp), (12, m12sp), (13, m13sp), (14, m14sp), (16, m16sp), (17, m17sp)] }
noncomputable def m4c (p : List Bool) : Code := sub p (bodyOf Try.f4)
noncomputable def m4I (k : Nat) : Inl Bool := inlOf (m4E k) (only 4 m4A) 3
noncomputable def m4K0 (M : Cut Bool) (k : Nat) : Exit → St → Option Bool := seqK (normAt 0 m4A false (m4c [true])) (cutK M m4A (m4c [true]) fun s => evC (m4E k) M (m4I k) 0 m4A (m4c [true]) s (retK Try.prog Try.f4 [.leaf (.val .bool)])) (retK Try.prog Try.f4 [.leaf (.val .bool)])
noncomputable def m4K1 (M : Cut Bool) (k : Nat) : Exit → St → Option Bool := seqK (normAt 0 m4A false (m4c [true, true])) (cutK M m4A (m4c [true, true]) fun s => evC (m4E k) M (m4I k) 0 m4A (m4c [true, true]) s (retK Try.prog Try.f4 [.leaf (.val .bool)])) (retK Try.prog Try.f4 [.leaf (.val .bool)])
noncomputable def m4K2 (M : Cut Bool) (k : Nat) : Exit → St → Option Bool := seqK (normAt 0 m4A false (m4c [true, false, true])) (cutK M m4A (m4c [true, false, true]) fun s => evC (m4E k) M (m4I k) 0 m4A (m4c [true, false, true]) s (m4K1 M k)) (m4K1 M k)
noncomputable def m4K3 (M : Cut Bool) (k : Nat) : Exit → St → Option Bool := seqK (normAt 0 m4A false (m4c [true, false, true, false, true])) (cutK M m4A (m4c [true, false, true, false, true]) fun s => evC (m4E k) M (m4I k) 0 m4A (m4c [true, false, true, false, true]) s (m4K1 M k)) (m4K1 M k)
noncomputable def m4K4 (M : Cut Bool) (k : Nat) : Exit → St → Option Bool := seqK (normAt 0 m4A false (m4c [true, true, true])) (cutK M m4A (m4c [true, true, true]) fun s => evC (m4E k) M (m4I k) 0 m4A (m4c [true, true, true]) s (retK Try.prog Try.f4 [.leaf (.val .bool)])) (retK Try.prog Try.f4 [.leaf (.val .bool)])
noncomputable def m4K5 (M : Cut Bool) (k : Nat) : Exit → St → Option Bool := seqK (normAt 0 m4A false (m4c [true, true, true, true])) (cutK M m4A (m4c [true, true, true, true]) fun s => evC (m4E k) M (m4I k) 0 m4A (m4c [true, true, true, true]) s (retK Try.prog Try.f4 [.leaf (.val .bool)])) (retK Try.prog Try.f4 [.leaf (.val .bool)])
noncomputable def m4K6 (M : Cut Bool) (k : Nat) : Exit → St → Option Bool := seqK (normAt 0 m4A false (m4c [true, true, true, true, true])) (cutK M m4A (m4c [true, true, true, true, true]) fun s => evC (m4E k) M (m4I k) 0 m4A (m4c [true, true, true, true, true]) s (retK Try.prog Try.f4 [.leaf (.val .bool)])) (retK Try.prog Try.f4 [.leaf (.val .bool)])
noncomputable def m4K7 (M : Cut Bool) (k : Nat) : Exit → St → Option Bool := seqK (normAt 0 m4A false (m4c [true, true, true, true, true, true])) (cutK M m4A (m4c [true, true, true, true, true, true]) fun s => evC (m4E k) M (m4I k) 0 m4A (m4c [true, true, true, true, true, true]) s (retK Try.prog Try.f4 [.leaf (.val .bool)])) (retK Try.prog Try.f4 [.leaf (.val .bool)])
noncomputable def m4K8 (M : Cut Bool) (k : Nat) : Exit → St → Option Bool := seqK (normAt 0 m4A false (m4c [true, true, true, true, true, false, true])) (cutK M m4A (m4c [true, true, true, true, true, false, true]) fun s => evC (m4E k) M (m4I k) 0 m4A (m4c [true, true, true, true, true, false, true]) s (m4K7 M k)) (m4K7 M k)
noncomputable def m4K9 (M : Cut Bool) (k : Nat) : Exit → St → Option Bool := seqK (normAt 0 m4A false (m4c [true, true, true, true, true, false, true, false, true])) (cutK M m4A (m4c [true, true, true, true, true, false, true, false, true]) fun s => evC (m4E k) M (m4I k) 0 m4A (m4c [true, true, true, true, true, false, true, false, true]) s (m4K7 M k)) (m4K7 M k)
noncomputable def m4K10 (M : Cut Bool) (k : Nat) : Exit → St → Option Bool := seqK (normAt 0 m4A false (m4c [true, true, true, true, true, true, true])) (cutK M m4A (m4c [true, true, true, true, true, true, true]) fun s => evC (m4E k) M (m4I k) 0 m4A (m4c [true, true, true, true, true, true, true]) s (retK Try.prog Try.f4 [.leaf (.val .bool)])) (retK Try.prog Try.f4 [.leaf (.val .bool)])
noncomputable def m4K11 (M : Cut Bool) (k : Nat) : Exit → St → Option Bool := seqK (normAt 0 m4A false (m4c [true, true, true, true, true, true, false, true])) (cutK M m4A (m4c [true, true, true, true, true, true, false, true]) fun s => evC (m4E k) M (m4I k) 0 m4A (m4c [true, true, true, true, true, true, false, true]) s (m4K10 M k)) (m4K10 M k)
noncomputable def m4K12 (M : Cut Bool) (k : Nat) : Exit → St → Option Bool := seqK (normAt 0 m4A false (m4c [true, true, true, true, true, true, false, true, false, true])) (cutK M m4A (m4c [true, true, true, true, true, true, false, true, false, true]) fun s => evC (m4E k) M (m4I k) 0 m4A (m4c [true, true, true, true, true, true, false, true, false, true]) s (m4K10 M k)) (m4K10 M k)
noncomputable def m4K13 (M : Cut Bool) (k : Nat) : Exit → St → Option Bool := seqK (normAt 0 m4A false (m4c [true, true, true, true, true, true, true, true])) (cutK M m4A (m4c [true, true, true, true, true, true, true, true]) fun s => evC (m4E k) M (m4I k) 0 m4A (m4c [true, true, true, true, true, true, true, true]) s (retK Try.prog Try.f4 [.leaf (.val .bool)])) (retK Try.prog Try.f4 [.leaf (.val .bool)])
noncomputable def m4K14 (M : Cut Bool) (k : Nat) : Exit → St → Option Bool := seqK (normAt 0 m4A false (m4c [true, true, true, true, true, true, true, true, true])) (cutK M m4A (m4c [true, true, true, true, true, true, true, true, true]) fun s => evC (m4E k) M (m4I k) 0 m4A (m4c [true, true, true, true, true, true, true, true, true]) s (retK Try.prog Try.f4 [.leaf (.val .bool)])) (retK Try.prog Try.f4 [.leaf (.val .bool)])

noncomputable def m4X (k : Nat) (p0 : Int) (p1 : (List Int)) : Option Bool := (if ltI 100 (↑(List.length p1) : Int) = true then some (true) else (Option.bind (m8F k p1) fun (c4 : (List Int)) => (Option.bind (m16F k p0 c4) fun (c5 : ((Int × (Int × (List Int))) × Int)) => (Option.bind (m17F k p0 p1) fun (c6 : ((Int × (Int × (List Int))) × Int)) => (Option.bind (m14F k c4 p1) fun (c7 : Bool) => (if (!c7) = true then some (false) else (if (!eqI (Prod.snd c5) (Prod.snd c6)) = true then some (false) else (Option.bind (m12F k (Prod.fst (Prod.fst c5), Prod.fst (Prod.snd (Prod.fst c5)), Prod.snd (Prod.snd (Prod.fst c5)))
  (Prod.fst (Prod.fst c6), Prod.fst (Prod.snd (Prod.fst c6)), Prod.snd (Prod.snd (Prod.fst c6)))) fun (c8 : Bool) => (if (!c8) = true then some (false) else (if (!eqI (Prod.snd c5) 0) = true then (Option.bind (m13F k) fun (c9 : Bool) => some c9) else (Option.bind (m10F k p0 (Prod.fst (Prod.fst c5), Prod.fst (Prod.snd (Prod.fst c5)), Prod.snd (Prod.snd (Prod.fst c5)))) fun (c9 : ((List Int) × Int)) => (if eqI (Prod.snd c9) 0 = true then (Option.bind (m14F k (Prod.fst c9) p1) fun (c10 : Bool) => (if c10 = true then (Option.bind (m13F k) fun (c11 : Bool) => some c11) else some (false))) else some (false)))))))))))))

theorem m4x (M : Cut Bool) (k : Nat) (p0 : Int) (p1 : (List Int)) : evC (m4E k) M (m4I k) 0 m4A (m4c []) (stAt Try.f4 (argSs [.leaf (.val (.int .i64)), .leaf (.val (.row (.int .u8)))] (p0, p1)) (fun _ => none) 0) (retK Try.prog Try.f4 [.leaf (.val .bool)]) = m4X k p0 p1 := by kernel_rfl

noncomputable def m4F (k : Nat) (p0 : Int) (p1 : (List Int)) : Option Bool := m4X k p0 p1

theorem m4q (k : Nat) (p0 : Int) (p1 : (List Int)) : evC (m4E k) (fun _ f => f) (m4I k) 0 m4A (m4c []) (stAt Try.f4 (argSs [.leaf (.val (.int .i64)), .leaf (.val (.row (.int .u8)))] (p0, p1)) (fun _ => none) 0) (retK Try.prog Try.f4 [.leaf (.val .bool)]) = m4F k p0 p1 := by
    show _ = m4X k p0 p1
    exact m4x (fun _ f => f) k p0 p1

noncomputable def m4sp : Spec := { ps := [.leaf (.val (.int .i64)), .leaf (.val (.row (.int .u8)))], rs := [.leaf (.val .bool)], f := fun k a => m4F k a.1 a.2 }

theorem m4ok (k : Nat) : EnvOk (m4E k) := envOk_of (l := [(8, m8sp), (10, m10sp), (12, m12sp), (13, m13sp), (14, m14sp), (16, m16sp), (17, m17sp)]) progNames progMixed rfl (.cons ⟨m8con k, Try.f8, by kernel_rfl, by kernel_rfl⟩ (.cons ⟨m10con k, Try.f10, by kernel_rfl, by kernel_rfl⟩ (.cons ⟨m12con k, Try.f12, by kernel_rfl, by kernel_rfl⟩ (.cons ⟨m13con k, Try.f13, by kernel_rfl, by kernel_rfl⟩ (.cons ⟨m14con k, Try.f14, by kernel_rfl, by kernel_rfl⟩ (.cons ⟨m16con k, Try.f16, by kernel_rfl, by kernel_rfl⟩ (.cons ⟨m17con k, Try.f17, by kernel_rfl, by kernel_rfl⟩ (.nil))))))))

theorem m4con (k : Nat) : Contract Try.prog k 4 m4sp := contract_of (E := m4E k) (m4ok k) (A := only 4 m4A) (d := 3) (c := m4c []) (by kernel_rfl) (by kernel_rfl) fun a _ h => (m4q k a.1 a.2).trans h

end Go.Proofs.Ytojomolplnnpmaa.Mini
