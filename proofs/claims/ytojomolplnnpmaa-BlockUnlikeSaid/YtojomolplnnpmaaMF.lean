/- Printed by a program of this session's (MPrint, over wip/mini): plain functions of the program's, and that they are what it does. Lean checks it. -/
import Derived.Test.YtojomolplnnpmaaXMO
import Derived.Test.YtojomolplnnpmaaProg
import Derived.KernelRfl
set_option linter.unusedVariables false
namespace Go.Proofs.Ytojomolplnnpmaa.Mini
open Go Go.RowKit Go.Proofs
theorem progNames : (Try.prog.funcs.all fun f => !(f.name == "runtime.NumGoroutine")) = true := by kernel_rfl
theorem progMixed : Try.prog.follows .mixedOrders = true := by kernel_rfl

noncomputable def m8A : Anns := tabA []
noncomputable def m8E (k : Nat) : Env := { P := Try.prog, k := k, G := tabG [] }
noncomputable def m8c (p : List Bool) : Code := sub p (bodyOf Try.f8)
noncomputable def m8I (k : Nat) : Inl (List Int) := inlOf (m8E k) (only 8 m8A) 3
noncomputable def m8K0 (M : Cut (List Int)) (k : Nat) : Exit → St → Option (List Int) := seqK (normAt 0 m8A false (m8c [true])) (cutK M m8A (m8c [true]) fun s => evC (m8E k) M (m8I k) 0 m8A (m8c [true]) s (retK Try.prog Try.f8 [.leaf (.own (.int .u8) 5)])) (retK Try.prog Try.f8 [.leaf (.own (.int .u8) 5)])
noncomputable def m8K1 (M : Cut (List Int)) (k : Nat) : Exit → St → Option (List Int) := seqK (normAt 0 m8A false (m8c [true, true])) (cutK M m8A (m8c [true, true]) fun s => evC (m8E k) M (m8I k) 0 m8A (m8c [true, true]) s (retK Try.prog Try.f8 [.leaf (.own (.int .u8) 5)])) (retK Try.prog Try.f8 [.leaf (.own (.int .u8) 5)])
noncomputable def m8K2 (M : Cut (List Int)) (k : Nat) : Exit → St → Option (List Int) := seqK (normAt 0 m8A false (m8c [true, true, true])) (cutK M m8A (m8c [true, true, true]) fun s => evC (m8E k) M (m8I k) 0 m8A (m8c [true, true, true]) s (retK Try.prog Try.f8 [.leaf (.own (.int .u8) 5)])) (retK Try.prog Try.f8 [.leaf (.own (.int .u8) 5)])

noncomputable def m8X (k : Nat) (p0 : (List Int)) : Option (List Int) := (if leI (↑(List.length p0 * 1) : Int) 140737488355328 = true then some p0 else none)

theorem m8x (M : Cut (List Int)) (k : Nat) (p0 : (List Int)) : evC (m8E k) M (m8I k) 0 m8A (m8c []) (stAt Try.f8 (argSs [.leaf (.val (.row (.int .u8)))] p0) (fun _ => none) 0) (retK Try.prog Try.f8 [.leaf (.own (.int .u8) 5)]) = m8X k p0 := by kernel_rfl

noncomputable def m8F (k : Nat) (p0 : (List Int)) : Option (List Int) := m8X k p0

theorem m8q (k : Nat) (p0 : (List Int)) : evC (m8E k) (fun _ f => f) (m8I k) 0 m8A (m8c []) (stAt Try.f8 (argSs [.leaf (.val (.row (.int .u8)))] p0) (fun _ => none) 0) (retK Try.prog Try.f8 [.leaf (.own (.int .u8) 5)]) = m8F k p0 := by
    show _ = m8X k p0
    exact m8x (fun _ f => f) k p0

noncomputable def m8sp : Spec := { ps := [.leaf (.val (.row (.int .u8)))], rs := [.leaf (.own (.int .u8) 5)], f := fun k a => m8F k a }

theorem m8ok (k : Nat) : EnvOk (m8E k) := envOk_of (l := []) progNames progMixed rfl (.nil)

theorem m8con (k : Nat) : Contract Try.prog k 8 m8sp := contract_of (E := m8E k) (m8ok k) (A := only 8 m8A) (d := 3) (c := m8c []) (by kernel_rfl) (by kernel_rfl) fun a _ h => (m8q k a).trans h

noncomputable def m9A : Anns := tabA []
noncomputable def m9E (k : Nat) : Env := { P := Try.prog, k := k, G := tabG [] }
noncomputable def m9c (p : List Bool) : Code := sub p (bodyOf Try.f9)
noncomputable def m9I (k : Nat) : Inl Int := inlOf (m9E k) (only 9 m9A) 3
noncomputable def m9K0 (M : Cut Int) (k : Nat) : Exit → St → Option Int := seqK (normAt 0 m9A false (m9c [true])) (cutK M m9A (m9c [true]) fun s => evC (m9E k) M (m9I k) 0 m9A (m9c [true]) s (retK Try.prog Try.f9 [.leaf (.val (.int .i64))])) (retK Try.prog Try.f9 [.leaf (.val (.int .i64))])
noncomputable def m9K1 (M : Cut Int) (k : Nat) : Exit → St → Option Int := seqK (normAt 0 m9A false (m9c [true, true])) (cutK M m9A (m9c [true, true]) fun s => evC (m9E k) M (m9I k) 0 m9A (m9c [true, true]) s (retK Try.prog Try.f9 [.leaf (.val (.int .i64))])) (retK Try.prog Try.f9 [.leaf (.val (.int .i64))])
noncomputable def m9K2 (M : Cut Int) (k : Nat) : Exit → St → Option Int := seqK (normAt 0 m9A false (m9c [true, false, true])) (cutK M m9A (m9c [true, false, true]) fun s => evC (m9E k) M (m9I k) 0 m9A (m9c [true, false, true]) s (m9K1 M k)) (m9K1 M k)
noncomputable def m9K3 (M : Cut Int) (k : Nat) : Exit → St → Option Int := seqK (normAt 0 m9A false (m9c [true, false, true, false, true])) (cutK M m9A (m9c [true, false, true, false, true]) fun s => evC (m9E k) M (m9I k) 0 m9A (m9c [true, false, true, false, true]) s (m9K1 M k)) (m9K1 M k)
noncomputable def m9K4 (M : Cut Int) (k : Nat) : Exit → St → Option Int := seqK (normAt 0 m9A false (m9c [true, true, true])) (cutK M m9A (m9c [true, true, true]) fun s => evC (m9E k) M (m9I k) 0 m9A (m9c [true, true, true]) s (retK Try.prog Try.f9 [.leaf (.val (.int .i64))])) (retK Try.prog Try.f9 [.leaf (.val (.int .i64))])
noncomputable def m9K5 (M : Cut Int) (k : Nat) : Exit → St → Option Int := seqK (normAt 0 m9A false (m9c [true, true, false, true])) (cutK M m9A (m9c [true, true, false, true]) fun s => evC (m9E k) M (m9I k) 0 m9A (m9c [true, true, false, true]) s (m9K4 M k)) (m9K4 M k)
noncomputable def m9K6 (M : Cut Int) (k : Nat) : Exit → St → Option Int := seqK (normAt 0 m9A false (m9c [true, true, false, true, false, true])) (cutK M m9A (m9c [true, true, false, true, false, true]) fun s => evC (m9E k) M (m9I k) 0 m9A (m9c [true, true, false, true, false, true]) s (m9K4 M k)) (m9K4 M k)
noncomputable def m9K7 (M : Cut Int) (k : Nat) : Exit → St → Option Int := seqK (normAt 0 m9A false (m9c [true, true, true, true])) (cutK M m9A (m9c [true, true, true, true]) fun s => evC (m9E k) M (m9I k) 0 m9A (m9c [true, true, true, true]) s (retK Try.prog Try.f9 [.leaf (.val (.int .i64))])) (retK Try.prog Try.f9 [.leaf (.val (.int .i64))])

noncomputable def m9X (k : Nat) (p0 : Int) (p1 : (Int × (Int × (List Int)))) : Option Int := (if ltI p0 1 = true then some (1) else (if ltI 16 p0 = true then some (1) else (if ltI (Prod.fst p1) 0 = true then some (1) else (if leI 1073741824 (Prod.fst p1) = true then some (1) else (if ltI (Prod.fst (Prod.snd p1)) 0 = true then some (1) else (if ltI 3 (Prod.fst (Prod.snd p1)) = true then some (1) else (if ltI p0 (↑(List.length (Prod.snd (Prod.snd p1))) : Int) = true then some (2) else (if ltI (Prod.fst (Prod.snd p1)) 2 = true then (if ltI (↑(List.length (Prod.snd (Prod.snd p1))) : Int) p0 = true then some (2) else some (0)) else some (0)))))))))

theorem m9x (M : Cut Int) (k : Nat) (p0 : Int) (p1 : (Int × (Int × (List Int)))) : evC (m9E k) M (m9I k) 0 m9A (m9c []) (stAt Try.f9 (argSs [.leaf (.val (.int .i64)), .st (.pair (.int .i64) (.pair (.int .i64) (.row (.int .u8))))] (p0, p1)) (fun _ => none) 0) (retK Try.prog Try.f9 [.leaf (.val (.int .i64))]) = m9X k p0 p1 := by kernel_rfl

noncomputable def m9F (k : Nat) (p0 : Int) (p1 : (Int × (Int × (List Int)))) : Option Int := m9X k p0 p1

theorem m9q (k : Nat) (p0 : Int) (p1 : (Int × (Int × (List Int)))) : evC (m9E k) (fun _ f => f) (m9I k) 0 m9A (m9c []) (stAt Try.f9 (argSs [.leaf (.val (.int .i64)), .st (.pair (.int .i64) (.pair (.int .i64) (.row (.int .u8))))] (p0, p1)) (fun _ => none) 0) (retK Try.prog Try.f9 [.leaf (.val (.int .i64))]) = m9F k p0 p1 := by
    show _ = m9X k p0 p1
    exact m9x (fun _ f => f) k p0 p1

noncomputable def m9sp : Spec := { ps := [.leaf (.val (.int .i64)), .st (.pair (.int .i64) (.pair (.int .i64) (.row (.int .u8))))], rs := [.leaf (.val (.int .i64))], f := fun k a => m9F k a.1 a.2 }

theorem m9ok (k : Nat) : EnvOk (m9E k) := envOk_of (l := []) progNames progMixed rfl (.nil)

theorem m9con (k : Nat) : Contract Try.prog k 9 m9sp := contract_of (E := m9E k) (m9ok k) (A := only 9 m9A) (d := 3) (c := m9c []) (by kernel_rfl) (by kernel_rfl) fun a _ h => (m9q k a.1 a.2).trans h

noncomputable def m21A : Anns := tabA []
noncomputable def m21E (k : Nat) : Env := { P := Try.prog, k := k, G := tabG [] }
noncomputable def m21c (p : List Bool) : Code := sub p (bodyOf Try.f21)
noncomputable def m21I (k : Nat) : Inl Bool := inlOf (m21E k) (only 21 m21A) 3
noncomputable def m21K0 (M : Cut Bool) (k : Nat) : Exit → St → Option Bool := seqK (normAt 0 m21A false (m21c [true])) (cutK M m21A (m21c [true]) fun s => evC (m21E k) M (m21I k) 0 m21A (m21c [true]) s (retK Try.prog Try.f21 [.leaf (.val .bool)])) (retK Try.prog Try.f21 [.leaf (.val .bool)])
noncomputable def m21K1 (M : Cut Bool) (k : Nat) : Exit → St → Option Bool := seqK (normAt 0 m21A false (m21c [true, true])) (cutK M m21A (m21c [true, true]) fun s => evC (m21E k) M (m21I k) 0 m21A (m21c [true, true]) s (retK Try.prog Try.f21 [.leaf (.val .bool)])) (retK Try.prog Try.f21 [.leaf (.val .bool)])

noncomputable def m21X (k : Nat) (p0 : Int) : Option Bool := (if leI 1 p0 = true then some (leI p0 16) else some (false))

theorem m21x (M : Cut Bool) (k : Nat) (p0 : Int) : evC (m21E k) M (m21I k) 0 m21A (m21c []) (stAt Try.f21 (argSs [.leaf (.val (.int .i64))] p0) (fun _ => none) 0) (retK Try.prog Try.f21 [.leaf (.val .bool)]) = m21X k p0 := by kernel_rfl

noncomputable def m21F (k : Nat) (p0 : Int) : Option Bool := m21X k p0

theorem m21q (k : Nat) (p0 : Int) : evC (m21E k) (fun _ f => f) (m21I k) 0 m21A (m21c []) (stAt Try.f21 (argSs [.leaf (.val (.int .i64))] p0) (fun _ => none) 0) (retK Try.prog Try.f21 [.leaf (.val .bool)]) = m21F k p0 := by
    show _ = m21X k p0
    exact m21x (fun _ f => f) k p0

noncomputable def m21sp : Spec := { ps := [.leaf (.val (.int .i64))], rs := [.leaf (.val .bool)], f := fun k a => m21F k a }

theorem m21ok (k : Nat) : EnvOk (m21E k) := envOk_of (l := []) progNames progMixed rfl (.nil)

theorem m21con (k : Nat) : Contract Try.prog k 21 m21sp := contract_of (E := m21E k) (m21ok k) (A := only 21 m21A) (d := 3) (c := m21c []) (by kernel_rfl) (by kernel_rfl) fun a _ h => (m21q k a).trans h

noncomputable def m11A : Anns := tabA []
noncomputable def m11E (k : Nat) : Env := { P := Try.prog, k := k, G := tabG [(21, m21sp)] }
noncomputable def m11c (p : List Bool) : Code := sub p (bodyOf Try.f11)
noncomputable def m11I (k : Nat) : Inl Int := inlOf (m11E k) (only 11 m11A) 3
noncomputable def m11K0 (M : Cut Int) (k : Nat) : Exit → St → Option Int := seqK (normAt 0 m11A false (m11c [true])) (cutK M m11A (m11c [true]) fun s => evC (m11E k) M (m11I k) 0 m11A (m11c [true]) s (retK Try.prog Try.f11 [.leaf (.val (.int .i64))])) (retK Try.prog Try.f11 [.leaf (.val (.int .i64))])
noncomputable def m11K1 (M : Cut Int) (k : Nat) : Exit → St → Option Int := seqK (normAt 0 m11A false (m11c [true, true])) (cutK M m11A (m11c [true, true]) fun s => evC (m11E k) M (m11I k) 0 m11A (m11c [true, true]) s (retK Try.prog Try.f11 [.leaf (.val (.int .i64))])) (retK Try.prog Try.f11 [.leaf (.val (.int .i64))])
noncomputable def m11K2 (M : Cut Int) (k : Nat) : Exit → St → Option Int := blockK 0 (m11K1 M k)
noncomputable def m11K3 (M : Cut Int) (k : Nat) : Exit → St → Option Int := seqK (normAt 0 m11A false (m11c [true, false, true, true])) (cutK M m11A (m11c [true, false, true, true]) fun s => evC (m11E k) M (m11I k) 0 m11A (m11c [true, false, true, true]) s (m11K2 M k)) (m11K2 M k)
noncomputable def m11K4 (M : Cut Int) (k : Nat) : Exit → St → Option Int := seqK (normAt 0 m11A false (m11c [true, false, true, true, false, true])) (cutK M m11A (m11c [true, false, true, true, false, true]) fun s => evC (m11E k) M (m11I k) 0 m11A (m11c [true, false, true, true, false, true]) s (m11K2 M k)) (m11K2 M k)
noncomputable def m11K5 (M : Cut Int) (k : Nat) : Exit → St → Option Int := seqK (normAt 0 m11A false (m11c [true, false, true, true, true, true])) (cutK M m11A (m11c [true, false, true, true, true, true]) fun s => evC (m11E k) M (m11I k) 0 m11A (m11c [true, false, true, true, true, true]) s (m11K2 M k)) (m11K2 M k)
noncomputable def m11K6 (M : Cut Int) (k : Nat) : Exit → St → Option Int := seqK (normAt 0 m11A false (m11c [true, false, true, true, true, true, false, true])) (cutK M m11A (m11c [true, false, true, true, true, true, false, true]) fun s => evC (m11E k) M (m11I k) 0 m11A (m11c [true, false, true, true, true, true, false, true]) s (m11K2 M k)) (m11K2 M k)
noncomputable def m11K7 (M : Cut Int) (k : Nat) : Exit → St → Option Int := seqK (normAt 0 m11A false (m11c [true, true, true])) (cutK M m11A (m11c [true, true, true]) fun s => evC (m11E k) M (m11I k) 0 m11A (m11c [true, true, true]) s (retK Try.prog Try.f11 [.leaf (.val (.int .i64))])) (retK Try.prog Try.f11 [.leaf (.val (.int .i64))])

noncomputable def m11X (k : Nat) (p0 : Int) (p1 : (Int × (Int × (List Int)))) : Option Int := (Option.bind (m21F k p0) fun (c4 : Bool) => (if (!c4) = true then some (1) else (if ltI (Prod.fst p1) 0 = true then some (1) else (if leI 1073741824 (Prod.fst p1) = true then some (1) else (if ltI (Prod.fst (Prod.snd p1)) 0 = true then some (1) else (if ltI 3 (Prod.fst (Prod.snd p1)) = true then some (1) else (if ltI p0 (↑(List.length (Prod.snd (Prod.snd p1))) : Int) = true then some (2) else (if ltI (↑(List.length (Prod.snd (Prod.snd p1))) : Int) p0 = true then (if eqI (bits BinOp.and IntKind.i64 (Prod.fst (Prod.snd p1)) 2) 0 = true then some (2) else some (0)) else some (0)))))))))

theorem m11x (M : Cut Int) (k : Nat) (p0 : Int) (p1 : (Int × (Int × (List Int)))) : evC (m11E k) M (m11I k) 0 m11A (m11c []) (stAt Try.f11 (argSs [.leaf (.val (.int .i64)), .st (.pair (.int .i64) (.pair (.int .i64) (.row (.int .u8))))] (p0, p1)) (fun _ => none) 0) (retK Try.prog Try.f11 [.leaf (.val (.int .i64))]) = m11X k p0 p1 := by kernel_rfl

noncomputable def m11F (k : Nat) (p0 : Int) (p1 : (Int × (Int × (List Int)))) : Option Int := m11X k p0 p1

theorem m11q (k : Nat) (p0 : Int) (p1 : (Int × (Int × (List Int)))) : evC (m11E k) (fun _ f => f) (m11I k) 0 m11A (m11c []) (stAt Try.f11 (argSs [.leaf (.val (.int .i64)), .st (.pair (.int .i64) (.pair (.int .i64) (.row (.int .u8))))] (p0, p1)) (fun _ => none) 0) (retK Try.prog Try.f11 [.leaf (.val (.int .i64))]) = m11F k p0 p1 := by
    show _ = m11X k p0 p1
    exact m11x (fun _ f => f) k p0 p1

noncomputable def m11sp : Spec := { ps := [.leaf (.val (.int .i64)), .st (.pair (.int .i64) (.pair (.int .i64) (.row (.int .u8))))], rs := [.leaf (.val (.int .i64))], f := fun k a => m11F k a.1 a.2 }

theorem m11ok (k : Nat) : EnvOk (m11E k) := envOk_of (l := [(21, m21sp)]) progNames progMixed rfl (.cons ⟨m21con k, Try.f21, by kernel_rfl, by kernel_rfl⟩ (.nil))

theorem m11con (k : Nat) : Contract Try.prog k 11 m11sp := contract_of (E := m11E k) (m11ok k) (A := only 11 m11A) (d := 3) (c := m11c []) (by kernel_rfl) (by kernel_rfl) fun a _ h => (m11q k a.1 a.2).trans h

noncomputable def m25A : Anns := tabA []
noncomputable def m25E (k : Nat) : Env := { P := Try.prog, k := k, G := tabG [] }
noncomputable def m25c (p : List Bool) : Code := sub p (bodyOf Try.f25)
noncomputable def m25I (k : Nat) : Inl (List Int) := inlOf (m25E k) (only 25 m25A) 3
noncomputable def m25K0 (M : Cut (List Int)) (k : Nat) : Exit → St → Option (List Int) := seqK (normAt 0 m25A false (m25c [true])) (cutK M m25A (m25c [true]) fun s => evC (m25E k) M (m25I k) 0 m25A (m25c [true]) s (retK Try.prog Try.f25 [.leaf (.own (.int .u8) 5)])) (retK Try.prog Try.f25 [.leaf (.own (.int .u8) 5)])
noncomputable def m25K1 (M : Cut (List Int)) (k : Nat) : Exit → St → Option (List Int) := seqK (normAt 0 m25A false (m25c [true, true])) (cutK M m25A (m25c [true, true]) fun s => evC (m25E k) M (m25I k) 0 m25A (m25c [true, true]) s (retK Try.prog Try.f25 [.leaf (.own (.int .u8) 5)])) (retK Try.prog Try.f25 [.leaf (.own (.int .u8) 5)])
noncomputable def m25K2 (M : Cut (List Int)) (k : Nat) : Exit → St → Option (List Int) := seqK (normAt 0 m25A false (m25c [true, false, true])) (cutK M m25A (m25c [true, false, true]) fun s => evC (m25E k) M (m25I k) 0 m25A (m25c [true, false, true]) s (m25K1 M k)) (m25K1 M k)
noncomputable def m25K3 (M : Cut (List Int)) (k : Nat) : Exit → St → Option (List Int) := seqK (normAt 0 m25A false (m25c [true, false, true, false, true])) (cutK M m25A (m25c [true, false, true, false, true]) fun s => evC (m25E k) M (m25I k) 0 m25A (m25c [true, false, true, false, true]) s (m25K1 M k)) (m25K1 M k)
noncomputable def m25K4 (M : Cut (List Int)) (k : Nat) : Exit → St → Option (List Int) := seqK (normAt 0 m25A false (m25c [true, true, true])) (cutK M m25A (m25c [true, true, true]) fun s => evC (m25E k) M (m25I k) 0 m25A (m25c [true, true, true]) s (retK Try.prog Try.f25 [.leaf (.own (.int .u8) 5)])) (retK Try.prog Try.f25 [.leaf (.own (.int .u8) 5)])

noncomputable def m25X (k : Nat) (p0 : (List Int)) : Option (List Int) := (nilK (List.isEmpty p0) (some ([])) ((if leI (↑((0 + List.length p0) * 1) : Int) 140737488355328 = true then some (List.replicate 0 0 ++ p0) else none)))

theorem m25x (M : Cut (List Int)) (k : Nat) (p0 : (List Int)) : evC (m25E k) M (m25I k) 0 m25A (m25c []) (stAt Try.f25 (argSs [.leaf (.val (.row (.int .u8)))] p0) (fun _ => none) 0) (retK Try.prog Try.f25 [.leaf (.own (.int .u8) 5)]) = m25X k p0 := by kernel_rfl

noncomputable def m25F (k : Nat) (p0 : (List Int)) : Option (List Int) := m25X k p0

theorem m25q (k : Nat) (p0 : (List Int)) : evC (m25E k) (fun _ f => f) (m25I k) 0 m25A (m25c []) (stAt Try.f25 (argSs [.leaf (.val (.row (.int .u8)))] p0) (fun _ => none) 0) (retK Try.prog Try.f25 [.leaf (.own (.int .u8) 5)]) = m25F k p0 := by
    show _ = m25X k p0
    exact m25x (fun _ f => f) k p0

noncomputable def m25sp : Spec := { ps := [.leaf (.val (.row (.int .u8)))], rs := [.leaf (.own (.int .u8) 5)], f := fun k a => m25F k a }

theorem m25ok (k : Nat) : EnvOk (m25E k) := envOk_of (l := []) progNames progMixed rfl (.nil)

theorem m25con (k : Nat) : Contract Try.prog k 25 m25sp := contract_of (E := m25E k) (m25ok k) (A := only 25 m25A) (d := 3) (c := m25c []) (by kernel_rfl) (by kernel_rfl) fun a _ h => (m25q k a).trans h

noncomputable def m31A : Anns := tabA [(7, { keep := [1, 5], mat := [(1, (.int .i64), 3)] }), (15, { keep := [1, 3, 5, 9] }), (26, { keep := [1, 3, 5] })]
noncomputable def m31E (k : Nat) : Env := { P := Try.prog, k := k, G := tabG [] }
noncomputable def m31c (p : List Bool) : Code := sub p (bodyOf Try.f31)
noncomputable def m31I (k : Nat) : Inl (List Int) := inlOf (m31E k) (only 31 m31A) 3
noncomputable def m31K0 (M : Cut (List Int)) (k : Nat) : Exit → St → Option (List Int) := seqK (normAt 0 m31A false (m31c [true])) (cutK M m31A (m31c [true]) fun s => evC (m31E k) M (m31I k) 0 m31A (m31c [true]) s (retK Try.prog Try.f31 [.leaf (.own (.int .i64) 3)])) (retK Try.prog Try.f31 [.leaf (.own (.int .i64) 3)])
noncomputable def m31K1 (M : Cut (List Int)) (k : Nat) : Exit → St → Option (List Int) := seqK (normAt 0 m31A false (m31c [true, true])) (cutK M m31A (m31c [true, true]) fun s => evC (m31E k) M (m31I k) 0 m31A (m31c [true, true]) s (retK Try.prog Try.f31 [.leaf (.own (.int .i64) 3)])) (retK Try.prog Try.f31 [.leaf (.own (.int .i64) 3)])
noncomputable def m31K2 (M : Cut (List Int)) (k : Nat) : Exit → St → Option (List Int) := seqK (normAt 0 m31A false (m31c [true, true, true])) (cutK M m31A (m31c [true, true, true]) fun s => evC (m31E k) M (m31I k) 0 m31A (m31c [true, true, true]) s (retK Try.prog Try.f31 [.leaf (.own (.int .i64) 3)])) (retK Try.prog Try.f31 [.leaf (.own (.int .i64) 3)])
noncomputable def m31K3 (M : Cut (List Int)) (k : Nat) : Exit → St → Option (List Int) := seqK (normAt 0 m31A false (m31c [true, true, false, true])) (cutK M m31A (m31c [true, true, false, true]) fun s => evC (m31E k) M (m31I k) 0 m31A (m31c [true, true, false, true]) s (m31K2 M k)) (m31K2 M k)
noncomputable def m31K4 (M : Cut (List Int)) (k : Nat) : Exit → St → Option (List Int) := blockK 0 (m31K2 M k)
noncomputable def m31K5 (M : Cut (List Int)) (k : Nat) (L7 : St → Option (List Int)) : Exit → St → Option (List Int) := seqK (normAt 0 m31A true (m31c [true, true, false, true, true, true])) L7 (m31K4 M k)
noncomputable def m31K6 (M : Cut (List Int)) (k : Nat) (L7 : St → Option (List Int)) : Exit → St → Option (List Int) := seqK (normAt 0 m31A false (m31c [true, true, false, true, true, true, true])) (cutK M m31A (m31c [true, true, false, true, true, true, true]) fun s => evC (m31E k) M (m31I k) 0 m31A (m31c [true, true, false, true, true, true, true]) s (m31K5 M k L7)) (m31K5 M k L7)
noncomputable def m31K7 (M : Cut (List Int)) (k : Nat) (L7 : St → Option (List Int)) : Exit → St → Option (List Int) := seqK (normAt 0 m31A false (m31c [true, true, false, true, true, true, true, true])) (cutK M m31A (m31c [true, true, false, true, true, true, true, true]) fun s => evC (m31E k) M (m31I k) 0 m31A (m31c [true, true, false, true, true, true, true, true]) s (m31K5 M k L7)) (m31K5 M k L7)
noncomputable def m31K8 (M : Cut (List Int)) (k : Nat) (L7 : St → Option (List Int)) : Exit → St → Option (List Int) := seqK (normAt 0 m31A false (m31c [true, true, false, true, true, true, true, true, true])) (cutK M m31A (m31c [true, true, false, true, true, true, true, true, true]) fun s => evC (m31E k) M (m31I k) 0 m31A (m31c [true, true, false, true, true, true, true, true, true]) s (m31K5 M k L7)) (m31K5 M k L7)
noncomputable def m31K9 (M : Cut (List Int)) (k : Nat) (L7 : St → Option (List Int)) : Exit → St → Option (List Int) := blockK 1 (m31K8 M k L7)
noncomputable def m31K10 (M : Cut (List Int)) (k : Nat) (L7 : St → Option (List Int)) : Exit → St → Option (List Int) := seqK (normAt 0 m31A false (m31c [true, true, false, true, true, true, true, true, false, true, true])) (cutK M m31A (m31c [true, true, false, true, true, true, true, true, false, true, true]) fun s => evC (m31E k) M (m31I k) 0 m31A (m31c [true, true, false, true, true, true, true, true, false, true, true]) s (m31K9 M k L7)) (m31K9 M k L7)
noncomputable def m31K11 (M : Cut (List Int)) (k : Nat) (L7 : St → Option (List Int)) : Exit → St → Option (List Int) := seqK (normAt 0 m31A false (m31c [true, true, false, true, true, true, true, true, false, true, true, true])) (cutK M m31A (m31c [true, true, false, true, true, true, true, true, false, true, true, true]) fun s => evC (m31E k) M (m31I k) 0 m31A (m31c [true, true, false, true, true, true, true, true, false, true, true, true]) s (m31K9 M k L7)) (m31K9 M k L7)
noncomputable def m31K12 (M : Cut (List Int)) (k : Nat) (L7 : St → Option (List Int)) : Exit → St → Option (List Int) := seqK (normAt 0 m31A false (m31c [true, true, false, true, true, true, true, true, false, true, true, true, true])) (cutK M m31A (m31c [true, true, false, true, true, true, true, true, false, true, true, true, true]) fun s => evC (m31E k) M (m31I k) 0 m31A (m31c [true, true, false, true, true, true, true, true, false, true, true, true, true]) s (m31K9 M k L7)) (m31K9 M k L7)
noncomputable def m31K13 (M : Cut (List Int)) (k : Nat) (L7 : St → Option (List Int)) : Exit → St → Option (List Int) := seqK (normAt 0 m31A false (m31c [true, true, false, true, true, true, true, true, false, true, true, true, false, true])) (cutK M m31A (m31c [true, true, false, true, true, true, true, true, false, true, true, true, false, true]) fun s => evC (m31E k) M (m31I k) 0 m31A (m31c [true, true, false, true, true, true, true, true, false, true, true, true, false, true]) s (m31K12 M k L7)) (m31K12 M k L7)
noncomputable def m31K14 (M : Cut (List Int)) (k : Nat) (L7 : St → Option (List Int)) : Exit → St → Option (List Int) := blockK 2 (m31K12 M k L7)
noncomputable def m31K15 (M : Cut (List Int)) (k : Nat) (L7 : St → Option (List Int)) (L15 : St → Option (List Int)) : Exit → St → Option (List Int) := seqK (normAt 0 m31A true (m31c [true, true, false, true, true, true, true, true, false, true, true, true, false, true, true, true])) L15 (m31K14 M k L7)
noncomputable def m31K16 (M : Cut (List Int)) (k : Nat) (L7 : St → Option (List Int)) (L15 : St → Option (List Int)) : Exit → St → Option (List Int) := seqK (normAt 0 m31A false (m31c [true, true, false, true, true, true, true, true, false, true, true, true, false, true, true, true, true])) (cutK M m31A (m31c [true, true, false, true, true, true, true, true, false, true, true, true, false, true, true, true, true]) fun s => evC (m31E k) M (m31I k) 0 m31A (m31c [true, true, false, true, true, true, true, true, false, true, true, true, false, true, true, true, true]) s (m31K15 M k L7 L15)) (m31K15 M k L7 L15)
noncomputable def m31K17 (M : Cut (List Int)) (k : Nat) (L7 : St → Option (List Int)) (L15 : St → Option (List Int)) : Exit → St → Option (List Int) := seqK (normAt 0 m31A false (m31c [true, true, false, true, true, true, true, true, false, true, true, true, false, true, true, true, true, true])) (cutK M m31A (m31c [true, true, false, true, true, true, true, true, false, true, true, true, false, true, true, true, true, true]) fun s => evC (m31E k) M (m31I k) 0 m31A (m31c [true, true, false, true, true, true, true, true, false, true, true, true, false, true, true, true, true, true]) s (m31K15 M k L7 L15)) (m31K15 M k L7 L15)
noncomputable def m31K18 (M : Cut (List Int)) (k : Nat) (L7 : St → Option (List Int)) (L15 : St → Option (List Int)) : Exit → St → Option (List Int) := seqK (normAt 0 m31A false (m31c [true, true, false, true, true, true, true, true, false, true, true, true, false, true, true, true, true, true, true])) (cutK M m31A (m31c [true, true, false, true, true, true, true, true, false, true, true, true, false, true, true, true, true, true, true]) fun s => evC (m31E k) M (m31I k) 0 m31A (m31c [true, true, false, true, true, true, true, true, false, true, true, true, false, true, true, true, true, true, true]) s (m31K15 M k L7 L15)) (m31K15 M k L7 L15)
noncomputable def m31K19 (M : Cut (List Int)) (k : Nat) (L7 : St → Option (List Int)) (L15 : St → Option (List Int)) : Exit → St → Option (List Int) := blockK 3 (m31K18 M k L7 L15)
noncomputable def m31K20 (M : Cut (List Int)) (k : Nat) (L7 : St → Option (List Int)) (L15 : St → Option (List Int)) : Exit → St → Option (List Int) := seqK (normAt 0 m31A false (m31c [true, true, false, true, true, true, true, true, false, true, true, true, false, true, true, true, true, true, false, true, true])) (cutK M m31A (m31c [true, true, false, true, true, true, true, true, false, true, true, true, false, true, true, true, true, true, false, true, true]) fun s => evC (m31E k) M (m31I k) 0 m31A (m31c [true, true, false, true, true, true, true, true, false, true, true, true, false, true, true, true, true, true, false, true, true]) s (m31K19 M k L7 L15)) (m31K19 M k L7 L15)
noncomputable def m31K21 (M : Cut (List Int)) (k : Nat) (L7 : St → Option (List Int)) (L15 : St → Option (List Int)) : Exit → St → Option (List Int) := seqK (normAt 0 m31A false (m31c [true, true, false, true, true, true, true, true, false, true, true, true, false, true, true, true, true, true, false, true, true, true])) (cutK M m31A (m31c [true, true, false, true, true, true, true, true, false, true, true, true, false, true, true, true, true, true, false, true, true, true]) fun s => evC (m31E k) M (m31I k) 0 m31A (m31c [true, true, false, true, true, true, true, true, false, true, true, true, false, true, true, true, true, true, false, true, true, true]) s (m31K19 M k L7 L15)) (m31K19 M k L7 L15)
noncomputable def m31K22 (M : Cut (List Int)) (k : Nat) (L7 : St → Option (List Int)) (L15 : St → Option (List Int)) : Exit → St → Option (List Int) := seqK (normAt 0 m31A false (m31c [true, true, false, true, true, true, true, true, false, true, true, true, false, true, true, true, true, true, false, true, true, true, true])) (cutK M m31A (m31c [true, true, false, true, true, true, true, true, false, true, true, true, false, true, true, true, true, true, false, true, true, true, true]) fun s => evC (m31E k) M (m31I k) 0 m31A (m31c [true, true, false, true, true, true, true, true, false, true, true, true, false, true, true, true, true, true, false, true, true, true, true]) s (m31K19 M k L7 L15)) (m31K19 M k L7 L15)
noncomputable def m31K23 (M : Cut (List Int)) (k : Nat) : Exit → St → Option (List Int) := seqK (normAt 0 m31A false (m31c [true, true, true, true])) (cutK M m31A (m31c [true, true, true, true]) fun s => evC (m31E k) M (m31I k) 0 m31A (m31c [true, true, true, true]) s (retK Try.prog Try.f31 [.leaf (.own (.int .i64) 3)])) (retK Try.prog Try.f31 [.leaf (.own (.int .i64) 3)])
noncomputable def m31S7 (t5 : Int) (b0 : List Int) : St := { n := 26, tm := slots [(1, .own 0), (5, .int .i64 t5)], tab := blks [some (.row true (.int .i64) 3 b0)], nx := 1 }
noncomputable def m31S15 (t3 : Int) (t5 : Int) (t9 : Int) (b0 : List Int) : St := { n := 26, tm := slots [(1, .own 0), (3, .int .i64 t3), (5, .int .i64 t5), (9, .int .i64 t9)], tab := blks [some (.row true (.int .i64) 3 b0)], nx := 1 }
noncomputable def m31S26 (t3 : Int) (t5 : Int) (b0 : List Int) : St := { n := 26, tm := slots [(1, .own 0), (3, .int .i64 t3), (5, .int .i64 t5)], tab := blks [some (.row true (.int .i64) 3 b0)], nx := 1 }

noncomputable def m31X (X7 : Int → List Int → Option (List Int)) (k : Nat) : Option (List Int) := X7 (0) ([])

theorem m31x (M : Cut (List Int)) (k : Nat) : evC (m31E k) M (m31I k) 0 m31A (m31c []) (stAt Try.f31 (argSs [] ()) (fun _ => none) 0) (retK Try.prog Try.f31 [.leaf (.own (.int .i64) 3)]) = m31X (fun t5' b0' => loopN (normAt 0 m31A true (m31c [true, true, false, true, true, true])) (fun K s => evC (m31E k) M (m31I k) 0 m31A (m31c [true, true, false, true, true, true]) s K) (m31K4 M k) k (m31S7 t5' b0')) k := by kernel_rfl

noncomputable def m31X7 (X15 : Int → Int → Int → List Int → Option (List Int)) (k : Nat) (t5 : Int) (b0 : List Int) : Option (List Int) := (if ltI t5 256 = true then X15 t5 t5 (0) b0 else some b0)

theorem m31x7 (M : Cut (List Int)) (k : Nat) (L7 : St → Option (List Int)) (t5 : Int) (b0 : List Int) : evC (m31E k) M (m31I k) 0 m31A (m31c [true, true, false, true, true, true]) (m31S7 t5 b0) (seqK (normAt 0 m31A true (m31c [true, true, false, true, true, true])) L7 (m31K4 M k)) = m31X7 (fun t3' t5' t9' b0' => loopN (normAt 0 m31A true (m31c [true, true, false, true, true, true, true, true, false, true, true, true, false, true, true, true])) (fun K s => evC (m31E k) M (m31I k) 0 m31A (m31c [true, true, false, true, true, true, true, true, false, true, true, true, false, true, true, true]) s K) (m31K14 M k L7) k (m31S15 t3' t5' t9' b0')) k t5 b0 := by kernel_rfl

noncomputable def m31X15 (X26 : Int → Int → List Int → Option (List Int)) (L15 : Int → Int → Int → List Int → Option (List Int)) (k : Nat) (t3 : Int) (t5 : Int) (t9 : Int) (b0 : List Int) : Option (List Int) := (if ltI t9 8 = true then (if leI 0 1 = true then (if eqI (bits BinOp.and IntKind.i64 t3 1) 1 = true then L15 (bits BinOp.xor IntKind.i64 (t3 / 2) 3988292384) t5 (wr IntKind.i64 (t9 + 1)) b0 else L15 (t3 / 2) t5 (wr IntKind.i64 (t9 + 1)) b0) else none) else X26 t3 t5 b0)

theorem m31x15 (M : Cut (List Int)) (k : Nat) (L7 : St → Option (List Int)) (L15 : St → Option (List Int)) (t3 : Int) (t5 : Int) (t9 : Int) (b0 : List Int) : evC (m31E k) M (m31I k) 0 m31A (m31c [true, true, false, true, true, true, true, true, false, true, true, true, false, true, true, true]) (m31S15 t3 t5 t9 b0) (seqK (normAt 0 m31A true (m31c [true, true, false, true, true, true, true, true, false, true, true, true, false, true, true, true])) L15 (m31K14 M k L7)) = m31X15 (fun t3' t5' b0' => M 26 (fun s => evC (m31E k) M (m31I k) 0 m31A (m31c [true, true, false, true, true, true, true, true, false, true, true, true, true]) s (m31K9 M k L7)) (m31S26 t3' t5' b0')) (fun t3' t5' t9' b0' => L15 (m31S15 t3' t5' t9' b0')) k t3 t5 t9 b0 := by kernel_rfl

noncomputable def m31X26 (L7 : Int → List Int → Option (List Int)) (k : Nat) (t3 : Int) (t5 : Int) (b0 : List Int) : Option (List Int) := (if leI (↑((List.length b0 + List.length (List.set (List.replicate 1 0) 0 t3)) * 8) : Int) 140737488355328 = true then L7 (wr IntKind.i64 (t5 + 1)) (b0 ++ List.set (List.replicate 1 0) 0 t3) else none)

theorem m31x26 (M : Cut (List Int)) (k : Nat) (L7 : St → Option (List Int)) (t3 : Int) (t5 : Int) (b0 : List Int) : evC (m31E k) M (m31I k) 0 m31A (m31c [true, true, false, true, true, true, true, true, false, true, true, true, true]) (m31S26 t3 t5 b0) (m31K9 M k L7) = m31X26 (fun t5' b0' => L7 (m31S7 t5' b0')) k t3 t5 b0 := by kernel_rfl

noncomputable def m31F26 (k : Nat) (L7 : Int → List Int → Option (List Int)) (t3 : Int) (t5 : Int) (b0 : List Int) : Option (List Int) := m31X26 L7 k t3 t5 b0

theorem m31q26 (k : Nat) (L7 : St → Option (List Int)) (t3 : Int) (t5 : Int) (b0 : List Int) : evC (m31E k) (fun _ f => f) (m31I k) 0 m31A (m31c [true, true, false, true, true, true, true, true, false, true, true, true, true]) (m31S26 t3 t5 b0) (m31K9 (fun _ f => f) k L7) = m31F26 k (fun t5' b0' => L7 (m31S7 t5' b0')) t3 t5 b0 := by
    show _ = m31X26 (fun t5' b0' => L7 (m31S7 t5' b0')) k t3 t5 b0
    exact m31x26 (fun _ f => f) k L7 t3 t5 b0

noncomputable def m31F15 (k : Nat) (L7 : Int → List Int → Option (List Int)) : Nat → Int → Int → Int → List Int → Option (List Int)
  | 0, _, _, _, _ => none
  | j + 1, t3, t5, t9, b0 => m31X15 (m31F26 k L7) (m31F15 k L7 j) k t3 t5 t9 b0

theorem m31q15 (k : Nat) (L7 : St → Option (List Int)) : ∀ (j : Nat) (t3 : Int) (t5 : Int) (t9 : Int) (b0 : List Int), loopN (normAt 0 m31A true (m31c [true, true, false, true, true, true, true, true, false, true, true, true, false, true, true, true])) (fun K s => evC (m31E k) (fun _ f => f) (m31I k) 0 m31A (m31c [true, true, false, true, true, true, true, true, false, true, true, true, false, true, true, true]) s K) (m31K14 (fun _ f => f) k L7) j (m31S15 t3 t5 t9 b0) = m31F15 k (fun t5' b0' => L7 (m31S7 t5' b0')) j t3 t5 t9 b0
  | 0, _, _, _, _ => rfl
  | j + 1, t3, t5, t9, b0 => by
    have e0 : m31F15 k (fun t5' b0' => L7 (m31S7 t5' b0')) j = (fun t3' t5' t9' b0' => loopN (normAt 0 m31A true (m31c [true, true, false, true, true, true, true, true, false, true, true, true, false, true, true, true])) (fun K s => evC (m31E k) (fun _ f => f) (m31I k) 0 m31A (m31c [true, true, false, true, true, true, true, true, false, true, true, true, false, true, true, true]) s K) (m31K14 (fun _ f => f) k L7) j (m31S15 t3' t5' t9' b0')) := funext fun t3' => funext fun t5' => funext fun t9' => funext fun b0' => (m31q15 k L7 j t3' t5' t9' b0').symm
    have e26 : m31F26 k (fun t5' b0' => L7 (m31S7 t5' b0')) = (fun t3' t5' b0' => evC (m31E k) (fun _ f => f) (m31I k) 0 m31A (m31c [true, true, false, true, true, true, true, true, false, true, true, true, true]) (m31S26 t3' t5' b0') (m31K9 (fun _ f => f) k L7)) := funext fun t3' => funext fun t5' => funext fun b0' => (m31q26 k L7 t3' t5' b0').symm
    show _ = m31X15 (m31F26 k (fun t5' b0' => L7 (m31S7 t5' b0'))) (m31F15 k (fun t5' b0' => L7 (m31S7 t5' b0')) j) k t3 t5 t9 b0
    rw [e0, e26]
    exact m31x15 (fun _ f => f) k L7 (loopN (normAt 0 m31A true (m31c [true, true, false, true, true, true, true, true, false, true, true, true, false, true, true, true])) (fun K s => evC (m31E k) (fun _ f => f) (m31I k) 0 m31A (m31c [true, true, false, true, true, true, true, true, false, true, true, true, false, true, true, true]) s K) (m31K14 (fun _ f => f) k L7) j) t3 t5 t9 b0

noncomputable def m31F7 (k : Nat) : Nat → Int → List Int → Option (List Int)
  | 0, _, _ => none
  | j + 1, t5, b0 => m31X7 (m31F15 k (m31F7 k j) k) k t5 b0

theorem m31q7 (k : Nat) : ∀ (j : Nat) (t5 : Int) (b0 : List Int), loopN (normAt 0 m31A true (m31c [true, true, false, true, true, true])) (fun K s => evC (m31E k) (fun _ f => f) (m31I k) 0 m31A (m31c [true, true, false, true, true, true]) s K) (m31K4 (fun _ f => f) k) j (m31S7 t5 b0) = m31F7 k j t5 b0
  | 0, _, _ => rfl
  | j + 1, t5, b0 => by
    have e0 : m31F7 k j = (fun t5' b0' => loopN (normAt 0 m31A true (m31c [true, true, false, true, true, true])) (fun K s => evC (m31E k) (fun _ f => f) (m31I k) 0 m31A (m31c [true, true, false, true, true, true]) s K) (m31K4 (fun _ f => f) k) j (m31S7 t5' b0')) := funext fun t5' => funext fun b0' => (m31q7 k j t5' b0').symm
    have e15 : m31F15 k (fun t5' b0' => loopN (normAt 0 m31A true (m31c [true, true, false, true, true, true])) (fun K s => evC (m31E k) (fun _ f => f) (m31I k) 0 m31A (m31c [true, true, false, true, true, true]) s K) (m31K4 (fun _ f => f) k) j (m31S7 t5' b0')) k = (fun t3' t5' t9' b0' => loopN (normAt 0 m31A true (m31c [true, true, false, true, true, true, true, true, false, true, true, true, false, true, true, true])) (fun K s => evC (m31E k) (fun _ f => f) (m31I k) 0 m31A (m31c [true, true, false, true, true, true, true, true, false, true, true, true, false, true, true, true]) s K) (m31K14 (fun _ f => f) k (loopN (normAt 0 m31A true (m31c [true, true, false, true, true, true])) (fun K s => evC (m31E k) (fun _ f => f) (m31I k) 0 m31A (m31c [true, true, false, true, true, true]) s K) (m31K4 (fun _ f => f) k) j)) k (m31S15 t3' t5' t9' b0')) := funext fun t3' => funext fun t5' => funext fun t9' => funext fun b0' => (m31q15 k (loopN (normAt 0 m31A true (m31c [true, true, false, true, true, true])) (fun K s => evC (m31E k) (fun _ f => f) (m31I k) 0 m31A (m31c [true, true, false, true, true, true]) s K) (m31K4 (fun _ f => f) k) j) k t3' t5' t9' b0').symm
    show _ = m31X7 (m31F15 k (m31F7 k j) k) k t5 b0
    rw [e0, e15]
    exact m31x7 (fun _ f => f) k (loopN (normAt 0 m31A true (m31c [true, true, false, true, true, true])) (fun K s => evC (m31E k) (fun _ f => f) (m31I k) 0 m31A (m31c [true, true, false, true, true, true]) s K) (m31K4 (fun _ f => f) k) j) t5 b0

noncomputable def m31F (k : Nat) : Option (List Int) := m31X (m31F7 k k) k

theorem m31q (k : Nat) : evC (m31E k) (fun _ f => f) (m31I k) 0 m31A (m31c []) (stAt Try.f31 (argSs [] ()) (fun _ => none) 0) (retK Try.prog Try.f31 [.leaf (.own (.int .i64) 3)]) = m31F k := by
    have e7 : m31F7 k k = (fun t5' b0' => loopN (normAt 0 m31A true (m31c [true, true, false, true, true, true])) (fun K s => evC (m31E k) (fun _ f => f) (m31I k) 0 m31A (m31c [true, true, false, true, true, true]) s K) (m31K4 (fun _ f => f) k) k (m31S7 t5' b0')) := funext fun t5' => funext fun b0' => (m31q7 k k t5' b0').symm
    show _ = m31X (m31F7 k k) k
    rw [e7]
    exact m31x (fun _ f => f) k

noncomputable def m31sp : Spec := { ps := [], rs := [.leaf (.own (.int .i64) 3)], f := fun k a => m31F k }

theorem m31ok (k : Nat) : EnvOk (m31E k) := envOk_of (l := []) progNames progMixed rfl (.nil)

theorem m31con (k : Nat) : Contract Try.prog k 31 m31sp := contract_of (E := m31E k) (m31ok k) (A := only 31 m31A) (d := 3) (c := m31c []) (by kernel_rfl) (by kernel_rfl) fun a _ h => (m31q k).trans h

noncomputable def m29A : Anns := tabA [(11, { keep := [4, 5, 12, 13, 14] }), (18, { keep := [5] })]
noncomputable def m29E (k : Nat) : Env := { P := Try.prog, k := k, G := tabG [(31, m31sp)] }
noncomputable def m29c (p : List Bool) : Code := sub p (bodyOf Try.f29)
noncomputable def m29I (k : Nat) : Inl (Int × Int) := inlOf (m29E k) (only 29 m29A) 3
noncomputable def m29K0 (M : Cut (Int × Int)) (k : Nat) : Exit → St → Option (Int × Int) := seqK (normAt 0 m29A false (m29c [true])) (cutK M m29A (m29c [true]) fun s => evC (m29E k) M (m29I k) 0 m29A (m29c [true]) s (retK Try.prog Try.f29 [.leaf (.val (.int .i64)), .leaf (.val (.int .i64))])) (retK Try.prog Try.f29 [.leaf (.val (.int .i64)), .leaf (.val (.int .i64))])
noncomputable def m29K1 (M : Cut (Int × Int)) (k : Nat) : Exit → St → Option (Int × Int) := seqK (normAt 0 m29A false (m29c [true, true])) (cutK M m29A (m29c [true, true]) fun s => evC (m29E k) M (m29I k) 0 m29A (m29c [true, true]) s (retK Try.prog Try.f29 [.leaf (.val (.int .i64)), .leaf (.val (.int .i64))])) (retK Try.prog Try.f29 [.leaf (.val (.int .i64)), .leaf (.val (.int .i64))])
noncomputable def m29K2 (M : Cut (Int × Int)) (k : Nat) : Exit → St → Option (Int × Int) := seqK (normAt 0 m29A false (m29c [true, false, true])) (cutK M m29A (m29c [true, false, true]) fun s => evC (m29E k) M (m29I k) 0 m29A (m29c [true, false, true]) s (m29K1 M k)) (m29K1 M k)
noncomputable def m29K3 (M : Cut (Int × Int)) (k : Nat) : Exit → St → Option (Int × Int) := seqK (normAt 0 m29A false (m29c [true, false, true, false, true])) (cutK M m29A (m29c [true, false, true, false, true]) fun s => evC (m29E k) M (m29I k) 0 m29A (m29c [true, false, true, false, true]) s (m29K1 M k)) (m29K1 M k)
noncomputable def m29K4 (M : Cut (Int × Int)) (k : Nat) : Exit → St → Option (Int × Int) := seqK (normAt 0 m29A false (m29c [true, true, true])) (cutK M m29A (m29c [true, true, true]) fun s => evC (m29E k) M (m29I k) 0 m29A (m29c [true, true, true]) s (retK Try.prog Try.f29 [.leaf (.val (.int .i64)), .leaf (.val (.int .i64))])) (retK Try.prog Try.f29 [.leaf (.val (.int .i64)), .leaf (.val (.int .i64))])
noncomputable def m29K5 (M : Cut (Int × Int)) (k : Nat) : Exit → St → Option (Int × Int) := seqK (normAt 0 m29A false (m29c [true, true, true, true])) (cutK M m29A (m29c [true, true, true, true]) fun s => evC (m29E k) M (m29I k) 0 m29A (m29c [true, true, true, true]) s (retK Try.prog Try.f29 [.leaf (.val (.int .i64)), .leaf (.val (.int .i64))])) (retK Try.prog Try.f29 [.leaf (.val (.int .i64)), .leaf (.val (.int .i64))])
noncomputable def m29K6 (M : Cut (Int × Int)) (k : Nat) : Exit → St → Option (Int × Int) := seqK (normAt 0 m29A false (m29c [true, true, true, false, true])) (cutK M m29A (m29c [true, true, true, false, true]) fun s => evC (m29E k) M (m29I k) 0 m29A (m29c [true, true, true, false, true]) s (m29K5 M k)) (m29K5 M k)
noncomputable def m29K7 (M : Cut (Int × Int)) (k : Nat) : Exit → St → Option (Int × Int) := blockK 0 (m29K5 M k)
noncomputable def m29K8 (M : Cut (Int × Int)) (k : Nat) (L11 : St → Option (Int × Int)) : Exit → St → Option (Int × Int) := seqK (normAt 0 m29A true (m29c [true, true, true, false, true, true, true])) L11 (m29K7 M k)
noncomputable def m29K9 (M : Cut (Int × Int)) (k : Nat) (L11 : St → Option (Int × Int)) : Exit → St → Option (Int × Int) := seqK (normAt 0 m29A false (m29c [true, true, true, false, true, true, true, true])) (cutK M m29A (m29c [true, true, true, false, true, true, true, true]) fun s => evC (m29E k) M (m29I k) 0 m29A (m29c [true, true, true, false, true, true, true, true]) s (m29K8 M k L11)) (m29K8 M k L11)
noncomputable def m29K10 (M : Cut (Int × Int)) (k : Nat) (L11 : St → Option (Int × Int)) : Exit → St → Option (Int × Int) := seqK (normAt 0 m29A false (m29c [true, true, true, false, true, true, true, true, true])) (cutK M m29A (m29c [true, true, true, false, true, true, true, true, true]) fun s => evC (m29E k) M (m29I k) 0 m29A (m29c [true, true, true, false, true, true, true, true, true]) s (m29K8 M k L11)) (m29K8 M k L11)
noncomputable def m29K11 (M : Cut (Int × Int)) (k : Nat) (L11 : St → Option (Int × Int)) : Exit → St → Option (Int × Int) := seqK (normAt 0 m29A false (m29c [true, true, true, false, true, true, true, true, true, true])) (cutK M m29A (m29c [true, true, true, false, true, true, true, true, true, true]) fun s => evC (m29E k) M (m29I k) 0 m29A (m29c [true, true, true, false, true, true, true, true, true, true]) s (m29K8 M k L11)) (m29K8 M k L11)
noncomputable def m29K12 (M : Cut (Int × Int)) (k : Nat) (L11 : St → Option (Int × Int)) : Exit → St → Option (Int × Int) := blockK 1 (m29K11 M k L11)
noncomputable def m29K13 (M : Cut (Int × Int)) (k : Nat) (L11 : St → Option (Int × Int)) : Exit → St → Option (Int × Int) := seqK (normAt 0 m29A false (m29c [true, true, true, false, true, true, true, true, true, false, true, true])) (cutK M m29A (m29c [true, true, true, false, true, true, true, true, true, false, true, true]) fun s => evC (m29E k) M (m29I k) 0 m29A (m29c [true, true, true, false, true, true, true, true, true, false, true, true]) s (m29K12 M k L11)) (m29K12 M k L11)
noncomputable def m29K14 (M : Cut (Int × Int)) (k : Nat) : Exit → St → Option (Int × Int) := seqK (normAt 0 m29A false (m29c [true, true, true, true, true])) (cutK M m29A (m29c [true, true, true, true, true]) fun s => evC (m29E k) M (m29I k) 0 m29A (m29c [true, true, true, true, true]) s (retK Try.prog Try.f29 [.leaf (.val (.int .i64)), .leaf (.val (.int .i64))])) (retK Try.prog Try.f29 [.leaf (.val (.int .i64)), .leaf (.val (.int .i64))])
noncomputable def m29S11 (t5 : Int) (t12 : List Int) (t13 : Int) (t14 : Int) (b0 : List Int) : St := { n := 32, tm := slots [(4, .own 0), (5, .int .i64 t5), (12, .row (.int .u8) t12), (13, .int .i64 t13), (14, .int .i64 t14)], tab := blks [some (.row true (.int .i64) 3 b0)], nx := 1 }
noncomputable def m29S18 (t5 : Int) : St := { n := 32, tm := slots [(5, .int .i64 t5)], tab := blks [], nx := 0 }

noncomputable def m29X (X11 : Int → List Int → Int → Int → List Int → Option (Int × Int)) (k : Nat) (p0 : (List Int)) : Option (Int × Int) := (if ltI 4096 (↑(List.length p0) : Int) = true then some ((0, 2)) else (Option.bind (m31F k) fun (c3 : (List Int)) => X11 (4294967295) p0 ((↑(List.length p0) : Int)) (0) c3))

theorem m29x (M : Cut (Int × Int)) (k : Nat) (p0 : (List Int)) : evC (m29E k) M (m29I k) 0 m29A (m29c []) (stAt Try.f29 (argSs [.leaf (.val (.row (.int .u8)))] p0) (fun _ => none) 0) (retK Try.prog Try.f29 [.leaf (.val (.int .i64)), .leaf (.val (.int .i64))]) = m29X (fun t5' t12' t13' t14' b0' => loopN (normAt 0 m29A true (m29c [true, true, true, false, true, true, true])) (fun K s => evC (m29E k) M (m29I k) 0 m29A (m29c [true, true, true, false, true, true, true]) s K) (m29K7 M k) k (m29S11 t5' t12' t13' t14' b0')) k p0 := by kernel_rfl

noncomputable def m29X11 (X18 : Int → Option (Int × Int)) (L11 : Int → List Int → Int → Int → List Int → Option (Int × Int)) (k : Nat) (t5 : Int) (t12 : List Int) (t13 : Int) (t14 : Int) (b0 : List Int) : Option (Int × Int) := (if ltI t14 t13 = true then (if leI 0 t14 = true then (if ltI t14 (↑(List.length t12) : Int) = true then (if leI 0 8 = true then (if leI 0
    (bits BinOp.xor IntKind.i64 (bits BinOp.and IntKind.i64 t5 255)
      (wr IntKind.i64 (List.getD t12 (Int.toNat t14) 0))) =
  true then (if ltI (bits BinOp.xor IntKind.i64 (bits BinOp.and IntKind.i64 t5 255) (wr IntKind.i64 (List.getD t12 (Int.toNat t14) 0)))
    (↑(List.length b0) : Int) =
  true then L11 (bits BinOp.xor IntKind.i64 (t5 / 256)
  (List.getD b0
    (Int.toNat
      (bits BinOp.xor IntKind.i64 (bits BinOp.and IntKind.i64 t5 255)
        (wr IntKind.i64 (List.getD t12 (Int.toNat t14) 0))))
    0)) t12 t13 (wr IntKind.i64 (t14 + 1)) b0 else none) else none) else none) else none) else none) else X18 t5)

theorem m29x11 (M : Cut (Int × Int)) (k : Nat) (L11 : St → Option (Int × Int)) (t5 : Int) (t12 : List Int) (t13 : Int) (t14 : Int) (b0 : List Int) : evC (m29E k) M (m29I k) 0 m29A (m29c [true, true, true, false, true, true, true]) (m29S11 t5 t12 t13 t14 b0) (seqK (normAt 0 m29A true (m29c [true, true, true, false, true, true, true])) L11 (m29K7 M k)) = m29X11 (fun t5' => M 18 (fun s => evC (m29E k) M (m29I k) 0 m29A (m29c [true, true, true, true]) s (retK Try.prog Try.f29 [.leaf (.val (.int .i64)), .leaf (.val (.int .i64))])) (m29S18 t5')) (fun t5' t12' t13' t14' b0' => L11 (m29S11 t5' t12' t13' t14' b0')) k t5 t12 t13 t14 b0 := by kernel_rfl

noncomputable def m29X18 (k : Nat) (t5 : Int) : Option (Int × Int) := some ((bits BinOp.xor IntKind.i64 t5 4294967295, 0))

theorem m29x18 (M : Cut (Int × Int)) (k : Nat) (t5 : Int) : evC (m29E k) M (m29I k) 0 m29A (m29c [true, true, true, true]) (m29S18 t5) (retK Try.prog Try.f29 [.leaf (.val (.int .i64)), .leaf (.val (.int .i64))]) = m29X18 k t5 := by kernel_rfl

noncomputable def m29F18 (k : Nat) (t5 : Int) : Option (Int × Int) := m29X18 k t5

theorem m29q18 (k : Nat) (t5 : Int) : evC (m29E k) (fun _ f => f) (m29I k) 0 m29A (m29c [true, true, true, true]) (m29S18 t5) (retK Try.prog Try.f29 [.leaf (.val (.int .i64)), .leaf (.val (.int .i64))]) = m29F18 k t5 := by
    show _ = m29X18 k t5
    exact m29x18 (fun _ f => f) k t5

noncomputable def m29F11 (k : Nat) : Nat → Int → List Int → Int → Int → List Int → Option (Int × Int)
  | 0, _, _, _, _, _ => none
  | j + 1, t5, t12, t13, t14, b0 => m29X11 (m29F18 k) (m29F11 k j) k t5 t12 t13 t14 b0

theorem m29q11 (k : Nat) : ∀ (j : Nat) (t5 : Int) (t12 : List Int) (t13 : Int) (t14 : Int) (b0 : List Int), loopN (normAt 0 m29A true (m29c [true, true, true, false, true, true, true])) (fun K s => evC (m29E k) (fun _ f => f) (m29I k) 0 m29A (m29c [true, true, true, false, true, true, true]) s K) (m29K7 (fun _ f => f) k) j (m29S11 t5 t12 t13 t14 b0) = m29F11 k j t5 t12 t13 t14 b0
  | 0, _, _, _, _, _ => rfl
  | j + 1, t5, t12, t13, t14, b0 => by
    have e0 : m29F11 k j = (fun t5' t12' t13' t14' b0' => loopN (normAt 0 m29A true (m29c [true, true, true, false, true, true, true])) (fun K s => evC (m29E k) (fun _ f => f) (m29I k) 0 m29A (m29c [true, true, true, false, true, true, true]) s K) (m29K7 (fun _ f => f) k) j (m29S11 t5' t12' t13' t14' b0')) := funext fun t5' => funext fun t12' => funext fun t13' => funext fun t14' => funext fun b0' => (m29q11 k j t5' t12' t13' t14' b0').symm
    have e18 : m29F18 k = (fun t5' => evC (m29E k) (fun _ f => f) (m29I k) 0 m29A (m29c [true, true, true, true]) (m29S18 t5') (retK Try.prog Try.f29 [.leaf (.val (.int .i64)), .leaf (.val (.int .i64))])) := funext fun t5' => (m29q18 k t5').symm
    show _ = m29X11 (m29F18 k) (m29F11 k j) k t5 t12 t13 t14 b0
    rw [e0, e18]
    exact m29x11 (fun _ f => f) k (loopN (normAt 0 m29A true (m29c [true, true, true, false, true, true, true])) (fun K s => evC (m29E k) (fun _ f => f) (m29I k) 0 m29A (m29c [true, true, true, false, true, true, true]) s K) (m29K7 (fun _ f => f) k) j) t5 t12 t13 t14 b0

noncomputable def m29F (k : Nat) (p0 : (List Int)) : Option (Int × Int) := m29X (m29F11 k k) k p0

theorem m29q (k : Nat) (p0 : (List Int)) : evC (m29E k) (fun _ f => f) (m29I k) 0 m29A (m29c []) (stAt Try.f29 (argSs [.leaf (.val (.row (.int .u8)))] p0) (fun _ => none) 0) (retK Try.prog Try.f29 [.leaf (.val (.int .i64)), .leaf (.val (.int .i64))]) = m29F k p0 := by
    have e11 : m29F11 k k = (fun t5' t12' t13' t14' b0' => loopN (normAt 0 m29A true (m29c [true, true, true, false, true, true, true])) (fun K s => evC (m29E k) (fun _ f => f) (m29I k) 0 m29A (m29c [true, true, true, false, true, true, true]) s K) (m29K7 (fun _ f => f) k) k (m29S11 t5' t12' t13' t14' b0')) := funext fun t5' => funext fun t12' => funext fun t13' => funext fun t14' => funext fun b0' => (m29q11 k k t5' t12' t13' t14' b0').symm
    show _ = m29X (m29F11 k k) k p0
    rw [e11]
    exact m29x (fun _ f => f) k p0

noncomputable def m29sp : Spec := { ps := [.leaf (.val (.row (.int .u8)))], rs := [.leaf (.val (.int .i64)), .leaf (.val (.int .i64))], f := fun k a => m29F k a }

theorem m29ok (k : Nat) : EnvOk (m29E k) := envOk_of (l := [(31, m31sp)]) progNames progMixed rfl (.cons ⟨m31con k, Try.f31, by kernel_rfl, by kernel_rfl⟩ (.nil))

theorem m29con (k : Nat) : Contract Try.prog k 29 m29sp := contract_of (E := m29E k) (m29ok k) (A := only 29 m29A) (d := 3) (c := m29c []) (by kernel_rfl) (by kernel_rfl) fun a _ h => (m29q k a).trans h

noncomputable def m19A : Anns := tabA [(17, { keep := [4, 6, 20] }), (24, { keep := [6] })]
noncomputable def m19E (k : Nat) : Env := { P := Try.prog, k := k, G := tabG [(25, m25sp), (29, m29sp)] }
noncomputable def m19c (p : List Bool) : Code := sub p (bodyOf Try.f19)
noncomputable def m19I (k : Nat) : Inl ((List Int) × Int) := inlOf (m19E k) (only 19 m19A) 3
noncomputable def m19K0 (M : Cut ((List Int) × Int)) (k : Nat) : Exit → St → Option ((List Int) × Int) := seqK (normAt 0 m19A false (m19c [true])) (cutK M m19A (m19c [true]) fun s => evC (m19E k) M (m19I k) 0 m19A (m19c [true]) s (retK Try.prog Try.f19 [.leaf (.own (.int .u8) 5), .leaf (.val (.int .i64))])) (retK Try.prog Try.f19 [.leaf (.own (.int .u8) 5), .leaf (.val (.int .i64))])
noncomputable def m19K1 (M : Cut ((List Int) × Int)) (k : Nat) : Exit → St → Option ((List Int) × Int) := seqK (normAt 0 m19A false (m19c [true, true])) (cutK M m19A (m19c [true, true]) fun s => evC (m19E k) M (m19I k) 0 m19A (m19c [true, true]) s (retK Try.prog Try.f19 [.leaf (.own (.int .u8) 5), .leaf (.val (.int .i64))])) (retK Try.prog Try.f19 [.leaf (.own (.int .u8) 5), .leaf (.val (.int .i64))])
noncomputable def m19K2 (M : Cut ((List Int) × Int)) (k : Nat) : Exit → St → Option ((List Int) × Int) := seqK (normAt 0 m19A false (m19c [true, false, true])) (cutK M m19A (m19c [true, false, true]) fun s => evC (m19E k) M (m19I k) 0 m19A (m19c [true, false, true]) s (m19K1 M k)) (m19K1 M k)
noncomputable def m19K3 (M : Cut ((List Int) × Int)) (k : Nat) : Exit → St → Option ((List Int) × Int) := seqK (normAt 0 m19A false (m19c [true, false, true, false, true])) (cutK M m19A (m19c [true, false, true, false, true]) fun s => evC (m19E k) M (m19I k) 0 m19A (m19c [true, false, true, false, true]) s (m19K1 M k)) (m19K1 M k)
noncomputable def m19K4 (M : Cut ((List Int) × Int)) (k : Nat) : Exit → St → Option ((List Int) × Int) := seqK (normAt 0 m19A false (m19c [true, true, true])) (cutK M m19A (m19c [true, true, true]) fun s => evC (m19E k) M (m19I k) 0 m19A (m19c [true, true, true]) s (retK Try.prog Try.f19 [.leaf (.own (.int .u8) 5), .leaf (.val (.int .i64))])) (retK Try.prog Try.f19 [.leaf (.own (.int .u8) 5), .leaf (.val (.int .i64))])
noncomputable def m19K5 (M : Cut ((List Int) × Int)) (k : Nat) : Exit → St → Option ((List Int) × Int) := seqK (normAt 0 m19A false (m19c [true, true, true, true])) (cutK M m19A (m19c [true, true, true, true]) fun s => evC (m19E k) M (m19I k) 0 m19A (m19c [true, true, true, true]) s (retK Try.prog Try.f19 [.leaf (.own (.int .u8) 5), .leaf (.val (.int .i64))])) (retK Try.prog Try.f19 [.leaf (.own (.int .u8) 5), .leaf (.val (.int .i64))])
noncomputable def m19K6 (M : Cut ((List Int) × Int)) (k : Nat) : Exit → St → Option ((List Int) × Int) := seqK (normAt 0 m19A false (m19c [true, true, true, false, true])) (cutK M m19A (m19c [true, true, true, false, true]) fun s => evC (m19E k) M (m19I k) 0 m19A (m19c [true, true, true, false, true]) s (m19K5 M k)) (m19K5 M k)
noncomputable def m19K7 (M : Cut ((List Int) × Int)) (k : Nat) : Exit → St → Option ((List Int) × Int) := seqK (normAt 0 m19A false (m19c [true, true, true, false, true, false, true])) (cutK M m19A (m19c [true, true, true, false, true, false, true]) fun s => evC (m19E k) M (m19I k) 0 m19A (m19c [true, true, true, false, true, false, true]) s (m19K5 M k)) (m19K5 M k)
noncomputable def m19K8 (M : Cut ((List Int) × Int)) (k : Nat) : Exit → St → Option ((List Int) × Int) := seqK (normAt 0 m19A false (m19c [true, true, true, true, true])) (cutK M m19A (m19c [true, true, true, true, true]) fun s => evC (m19E k) M (m19I k) 0 m19A (m19c [true, true, true, true, true]) s (retK Try.prog Try.f19 [.leaf (.own (.int .u8) 5), .leaf (.val (.int .i64))])) (retK Try.prog Try.f19 [.leaf (.own (.int .u8) 5), .leaf (.val (.int .i64))])
noncomputable def m19K9 (M : Cut ((List Int) × Int)) (k : Nat) : Exit → St → Option ((List Int) × Int) := seqK (normAt 0 m19A false (m19c [true, true, true, true, true, true])) (cutK M m19A (m19c [true, true, true, true, true, true]) fun s => evC (m19E k) M (m19I k) 0 m19A (m19c [true, true, true, true, true, true]) s (retK Try.prog Try.f19 [.leaf (.own (.int .u8) 5), .leaf (.val (.int .i64))])) (retK Try.prog Try.f19 [.leaf (.own (.int .u8) 5), .leaf (.val (.int .i64))])
noncomputable def m19K10 (M : Cut ((List Int) × Int)) (k : Nat) : Exit → St → Option ((List Int) × Int) := seqK (normAt 0 m19A false (m19c [true, true, true, true, true, false, true])) (cutK M m19A (m19c [true, true, true, true, true, false, true]) fun s => evC (m19E k) M (m19I k) 0 m19A (m19c [true, true, true, true, true, false, true]) s (m19K9 M k)) (m19K9 M k)
noncomputable def m19K11 (M : Cut ((List Int) × Int)) (k : Nat) : Exit → St → Option ((List Int) × Int) := blockK 0 (m19K9 M k)
noncomputable def m19K12 (M : Cut ((List Int) × Int)) (k : Nat) (L17 : St → Option ((List Int) × Int)) : Exit → St → Option ((List Int) × Int) := seqK (normAt 0 m19A true (m19c [true, true, true, true, true, false, true, true, true])) L17 (m19K11 M k)
noncomputable def m19K13 (M : Cut ((List Int) × Int)) (k : Nat) (L17 : St → Option ((List Int) × Int)) : Exit → St → Option ((List Int) × Int) := seqK (normAt 0 m19A false (m19c [true, true, true, true, true, false, true, true, true, true])) (cutK M m19A (m19c [true, true, true, true, true, false, true, true, true, true]) fun s => evC (m19E k) M (m19I k) 0 m19A (m19c [true, true, true, true, true, false, true, true, true, true]) s (m19K12 M k L17)) (m19K12 M k L17)
noncomputable def m19K14 (M : Cut ((List Int) × Int)) (k : Nat) (L17 : St → Option ((List Int) × Int)) : Exit → St → Option ((List Int) × Int) := seqK (normAt 0 m19A false (m19c [true, true, true, true, true, false, true, true, true, true, true])) (cutK M m19A (m19c [true, true, true, true, true, false, true, true, true, true, true]) fun s => evC (m19E k) M (m19I k) 0 m19A (m19c [true, true, true, true, true, false, true, true, true, true, true]) s (m19K12 M k L17)) (m19K12 M k L17)
noncomputable def m19K15 (M : Cut ((List Int) × Int)) (k : Nat) (L17 : St → Option ((List Int) × Int)) : Exit → St → Option ((List Int) × Int) := seqK (normAt 0 m19A false (m19c [true, true, true, true, true, false, true, true, true, true, true, true])) (cutK M m19A (m19c [true, true, true, true, true, false, true, true, true, true, true, true]) fun s => evC (m19E k) M (m19I k) 0 m19A (m19c [true, true, true, true, true, false, true, true, true, true, true, true]) s (m19K12 M k L17)) (m19K12 M k L17)
noncomputable def m19K16 (M : Cut ((List Int) × Int)) (k : Nat) (L17 : St → Option ((List Int) × Int)) : Exit → St → Option ((List Int) × Int) := blockK 1 (m19K15 M k L17)
noncomputable def m19K17 (M : Cut ((List Int) × Int)) (k : Nat) (L17 : St → Option ((List Int) × Int)) : Exit → St → Option ((List Int) × Int) := seqK (normAt 0 m19A false (m19c [true, true, true, true, true, false, true, true, true, true, true, false, true, true])) (cutK M m19A (m19c [true, true, true, true, true, false, true, true, true, true, true, false, true, true]) fun s => evC (m19E k) M (m19I k) 0 m19A (m19c [true, true, true, true, true, false, true, true, true, true, true, false, true, true]) s (m19K16 M k L17)) (m19K16 M k L17)
noncomputable def m19K18 (M : Cut ((List Int) × Int)) (k : Nat) : Exit → St → Option ((List Int) × Int) := seqK (normAt 0 m19A false (m19c [true, true, true, true, true, true, true])) (cutK M m19A (m19c [true, true, true, true, true, true, true]) fun s => evC (m19E k) M (m19I k) 0 m19A (m19c [true, true, true, true, true, true, true]) s (retK Try.prog Try.f19 [.leaf (.own (.int .u8) 5), .leaf (.val (.int .i64))])) (retK Try.prog Try.f19 [.leaf (.own (.int .u8) 5), .leaf (.val (.int .i64))])
noncomputable def m19S17 (t4 : Int) (t20 : Int) (b0 : List Int) : St := { n := 32, tm := slots [(4, .int .i64 t4), (6, .own 0), (20, .int .i64 t20)], tab := blks [some (.row true (.int .u8) 5 b0)], nx := 1 }
noncomputable def m19S24 (b0 : List Int) : St := { n := 32, tm := slots [(6, .own 0)], tab := blks [some (.row true (.int .u8) 5 b0)], nx := 1 }

noncomputable def m19X (X17 : Int → Int → List Int → Option ((List Int) × Int)) (k : Nat) (p0 : (List Int)) : Option ((List Int) × Int) := (if ltI 4092 (↑(List.length p0) : Int) = true then some (([], 2)) else (Option.bind (m29F k p0) fun (c3 : (Int × Int)) => (if (!eqI (Prod.snd c3) 0) = true then some (([], Prod.snd c3)) else (Option.bind (m25F k p0) fun (c4 : (List Int)) => X17 (Prod.fst c3) (0) c4))))

theorem m19x (M : Cut ((List Int) × Int)) (k : Nat) (p0 : (List Int)) : evC (m19E k) M (m19I k) 0 m19A (m19c []) (stAt Try.f19 (argSs [.leaf (.val (.row (.int .u8)))] p0) (fun _ => none) 0) (retK Try.prog Try.f19 [.leaf (.own (.int .u8) 5), .leaf (.val (.int .i64))]) = m19X (fun t4' t20' b0' => loopN (normAt 0 m19A true (m19c [true, true, true, true, true, false, true, true, true])) (fun K s => evC (m19E k) M (m19I k) 0 m19A (m19c [true, true, true, true, true, false, true, true, true]) s K) (m19K11 M k) k (m19S17 t4' t20' b0')) k p0 := by kernel_rfl

noncomputable def m19X17 (X24 : List Int → Option ((List Int) × Int)) (L17 : Int → Int → List Int → Option ((List Int) × Int)) (k : Nat) (t4 : Int) (t20 : Int) (b0 : List Int) : Option ((List Int) × Int) := (if ltI t20 4 = true then (if leI (↑((List.length b0 + List.length (List.set (List.replicate 1 0) 0 (wr IntKind.u8 t4))) * 1) : Int) 140737488355328 =
  true then (if leI 0 8 = true then L17 (t4 / 256) (wr IntKind.i64 (t20 + 1)) (b0 ++ List.set (List.replicate 1 0) 0 (wr IntKind.u8 t4)) else none) else none) else X24 b0)

theorem m19x17 (M : Cut ((List Int) × Int)) (k : Nat) (L17 : St → Option ((List Int) × Int)) (t4 : Int) (t20 : Int) (b0 : List Int) : evC (m19E k) M (m19I k) 0 m19A (m19c [true, true, true, true, true, false, true, true, true]) (m19S17 t4 t20 b0) (seqK (normAt 0 m19A true (m19c [true, true, true, true, true, false, true, true, true])) L17 (m19K11 M k)) = m19X17 (fun b0' => M 24 (fun s => evC (m19E k) M (m19I k) 0 m19A (m19c [true, true, true, true, true, true]) s (retK Try.prog Try.f19 [.leaf (.own (.int .u8) 5), .leaf (.val (.int .i64))])) (m19S24 b0')) (fun t4' t20' b0' => L17 (m19S17 t4' t20' b0')) k t4 t20 b0 := by kernel_rfl

noncomputable def m19X24 (k : Nat) (b0 : List Int) : Option ((List Int) × Int) := (Option.bind (m25F k b0) fun (c3 : (List Int)) => some ((c3, 0)))

theorem m19x24 (M : Cut ((List Int) × Int)) (k : Nat) (b0 : List Int) : evC (m19E k) M (m19I k) 0 m19A (m19c [true, true, true, true, true, true]) (m19S24 b0) (retK Try.prog Try.f19 [.leaf (.own (.int .u8) 5), .leaf (.val (.int .i64))]) = m19X24 k b0 := by kernel_rfl

noncomputable def m19F24 (k : Nat) (b0 : List Int) : Option ((List Int) × Int) := m19X24 k b0

theorem m19q24 (k : Nat) (b0 : List Int) : evC (m19E k) (fun _ f => f) (m19I k) 0 m19A (m19c [true, true, true, true, true, true]) (m19S24 b0) (retK Try.prog Try.f19 [.leaf (.own (.int .u8) 5), .leaf (.val (.int .i64))]) = m19F24 k b0 := by
    show _ = m19X24 k b0
    exact m19x24 (fun _ f => f) k b0

noncomputable def m19F17 (k : Nat) : Nat → Int → Int → List Int → Option ((List Int) × Int)
  | 0, _, _, _ => none
  | j + 1, t4, t20, b0 => m19X17 (m19F24 k) (m19F17 k j) k t4 t20 b0

theorem m19q17 (k : Nat) : ∀ (j : Nat) (t4 : Int) (t20 : Int) (b0 : List Int), loopN (normAt 0 m19A true (m19c [true, true, true, true, true, false, true, true, true])) (fun K s => evC (m19E k) (fun _ f => f) (m19I k) 0 m19A (m19c [true, true, true, true, true, false, true, true, true]) s K) (m19K11 (fun _ f => f) k) j (m19S17 t4 t20 b0) = m19F17 k j t4 t20 b0
  | 0, _, _, _ => rfl
  | j + 1, t4, t20, b0 => by
    have e0 : m19F17 k j = (fun t4' t20' b0' => loopN (normAt 0 m19A true (m19c [true, true, true, true, true, false, true, true, true])) (fun K s => evC (m19E k) (fun _ f => f) (m19I k) 0 m19A (m19c [true, true, true, true, true, false, true, true, true]) s K) (m19K11 (fun _ f => f) k) j (m19S17 t4' t20' b0')) := funext fun t4' => funext fun t20' => funext fun b0' => (m19q17 k j t4' t20' b0').symm
    have e24 : m19F24 k = (fun b0' => evC (m19E k) (fun _ f => f) (m19I k) 0 m19A (m19c [true, true, true, true, true, true]) (m19S24 b0') (retK Try.prog Try.f19 [.leaf (.own (.int .u8) 5), .leaf (.val (.int .i64))])) := funext fun b0' => (m19q24 k b0').symm
    show _ = m19X17 (m19F24 k) (m19F17 k j) k t4 t20 b0
    rw [e0, e24]
    exact m19x17 (fun _ f => f) k (loopN (normAt 0 m19A true (m19c [true, true, true, true, true, false, true, true, true])) (fun K s => evC (m19E k) (fun _ f => f) (m19I k) 0 m19A (m19c [true, true, true, true, true, false, true, true, true]) s K) (m19K11 (fun _ f => f) k) j) t4 t20 b0

noncomputable def m19F (k : Nat) (p0 : (List Int)) : Option ((List Int) × Int) := m19X (m19F17 k k) k p0

theorem m19q (k : Nat) (p0 : (List Int)) : evC (m19E k) (fun _ f => f) (m19I k) 0 m19A (m19c []) (stAt Try.f19 (argSs [.leaf (.val (.row (.int .u8)))] p0) (fun _ => none) 0) (retK Try.prog Try.f19 [.leaf (.own (.int .u8) 5), .leaf (.val (.int .i64))]) = m19F k p0 := by
    have e17 : m19F17 k k = (fun t4' t20' b0' => loopN (normAt 0 m19A true (m19c [true, true, true, true, true, false, true, true, true])) (fun K s => evC (m19E k) (fun _ f => f) (m19I k) 0 m19A (m19c [true, true, true, true, true, false, true, true, true]) s K) (m19K11 (fun _ f => f) k) k (m19S17 t4' t20' b0')) := funext fun t4' => funext fun t20' => funext fun b0' => (m19q17 k k t4' t20' b0').symm
    show _ = m19X (m19F17 k k) k p0
    rw [e17]
    exact m19x (fun _ f => f) k p0

noncomputable def m19sp : Spec := { ps := [.leaf (.val (.row (.int .u8)))], rs := [.leaf (.own (.int .u8) 5), .leaf (.val (.int .i64))], f := fun k a => m19F k a }

theorem m19ok (k : Nat) : EnvOk (m19E k) := envOk_of (l := [(25, m25sp), (29, m29sp)]) progNames progMixed rfl (.cons ⟨m25con k, Try.f25, by kernel_rfl, by kernel_rfl⟩ (.cons ⟨m29con k, Try.f29, by kernel_rfl, by kernel_rfl⟩ (.nil)))

theorem m19con (k : Nat) : Contract Try.prog k 19 m19sp := contract_of (E := m19E k) (m19ok k) (A := only 19 m19A) (d := 3) (c := m19c []) (by kernel_rfl) (by kernel_rfl) fun a _ h => (m19q k a).trans h

noncomputable def m20A : Anns := tabA [(15, { keep := [1, 8, 9] }), (20, { keep := [8] })]
noncomputable def m20E (k : Nat) : Env := { P := Try.prog, k := k, G := tabG [(25, m25sp)] }
noncomputable def m20c (p : List Bool) : Code := sub p (bodyOf Try.f20)
noncomputable def m20I (k : Nat) : Inl ((List Int) × Int) := inlOf (m20E k) (only 20 m20A) 3
noncomputable def m20K0 (M : Cut ((List Int) × Int)) (k : Nat) : Exit → St → Option ((List Int) × Int) := seqK (normAt 0 m20A false (m20c [true])) (cutK M m20A (m20c [true]) fun s => evC (m20E k) M (m20I k) 0 m20A (m20c [true]) s (retK Try.prog Try.f20 [.leaf (.own (.int .u8) 5), .leaf (.val (.int .i64))])) (retK Try.prog Try.f20 [.leaf (.own (.int .u8) 5), .leaf (.val (.int .i64))])
noncomputable def m20K1 (M : Cut ((List Int) × Int)) (k : Nat) : Exit → St → Option ((List Int) × Int) := seqK (normAt 0 m20A false (m20c [true, true])) (cutK M m20A (m20c [true, true]) fun s => evC (m20E k) M (m20I k) 0 m20A (m20c [true, true]) s (retK Try.prog Try.f20 [.leaf (.own (.int .u8) 5), .leaf (.val (.int .i64))])) (retK Try.prog Try.f20 [.leaf (.own (.int .u8) 5), .leaf (.val (.int .i64))])
noncomputable def m20K2 (M : Cut ((List Int) × Int)) (k : Nat) : Exit → St → Option ((List Int) × Int) := blockK 0 (m20K1 M k)
noncomputable def m20K3 (M : Cut ((List Int) × Int)) (k : Nat) : Exit → St → Option ((List Int) × Int) := seqK (normAt 0 m20A false (m20c [true, false, true, true])) (cutK M m20A (m20c [true, false, true, true]) fun s => evC (m20E k) M (m20I k) 0 m20A (m20c [true, false, true, true]) s (m20K2 M k)) (m20K2 M k)
noncomputable def m20K4 (M : Cut ((List Int) × Int)) (k : Nat) : Exit → St → Option ((List Int) × Int) := seqK (normAt 0 m20A false (m20c [true, false, true, true, false, true])) (cutK M m20A (m20c [true, false, true, true, false, true]) fun s => evC (m20E k) M (m20I k) 0 m20A (m20c [true, false, true, true, false, true]) s (m20K2 M k)) (m20K2 M k)
noncomputable def m20K5 (M : Cut ((List Int) × Int)) (k : Nat) : Exit → St → Option ((List Int) × Int) := seqK (normAt 0 m20A false (m20c [true, false, true, true, true, true])) (cutK M m20A (m20c [true, false, true, true, true, true]) fun s => evC (m20E k) M (m20I k) 0 m20A (m20c [true, false, true, true, true, true]) s (m20K2 M k)) (m20K2 M k)
noncomputable def m20K6 (M : Cut ((List Int) × Int)) (k : Nat) : Exit → St → Option ((List Int) × Int) := seqK (normAt 0 m20A false (m20c [true, false, true, true, true, true, false, true])) (cutK M m20A (m20c [true, false, true, true, true, true, false, true]) fun s => evC (m20E k) M (m20I k) 0 m20A (m20c [true, false, true, true, true, true, false, true]) s (m20K2 M k)) (m20K2 M k)
noncomputable def m20K7 (M : Cut ((List Int) × Int)) (k : Nat) : Exit → St → Option ((List Int) × Int) := seqK (normAt 0 m20A false (m20c [true, true, true])) (cutK M m20A (m20c [true, true, true]) fun s => evC (m20E k) M (m20I k) 0 m20A (m20c [true, true, true]) s (retK Try.prog Try.f20 [.leaf (.own (.int .u8) 5), .leaf (.val (.int .i64))])) (retK Try.prog Try.f20 [.leaf (.own (.int .u8) 5), .leaf (.val (.int .i64))])
noncomputable def m20K8 (M : Cut ((List Int) × Int)) (k : Nat) : Exit → St → Option ((List Int) × Int) := seqK (normAt 0 m20A false (m20c [true, true, true, true])) (cutK M m20A (m20c [true, true, true, true]) fun s => evC (m20E k) M (m20I k) 0 m20A (m20c [true, true, true, true]) s (retK Try.prog Try.f20 [.leaf (.own (.int .u8) 5), .leaf (.val (.int .i64))])) (retK Try.prog Try.f20 [.leaf (.own (.int .u8) 5), .leaf (.val (.int .i64))])
noncomputable def m20K9 (M : Cut ((List Int) × Int)) (k : Nat) : Exit → St → Option ((List Int) × Int) := seqK (normAt 0 m20A false (m20c [true, true, true, false, true])) (cutK M m20A (m20c [true, true, true, false, true]) fun s => evC (m20E k) M (m20I k) 0 m20A (m20c [true, true, true, false, true]) s (m20K8 M k)) (m20K8 M k)
noncomputable def m20K10 (M : Cut ((List Int) × Int)) (k : Nat) : Exit → St → Option ((List Int) × Int) := blockK 1 (m20K8 M k)
noncomputable def m20K11 (M : Cut ((List Int) × Int)) (k : Nat) (L15 : St → Option ((List Int) × Int)) : Exit → St → Option ((List Int) × Int) := seqK (normAt 0 m20A true (m20c [true, true, true, false, true, true, true])) L15 (m20K10 M k)
noncomputable def m20K12 (M : Cut ((List Int) × Int)) (k : Nat) (L15 : St → Option ((List Int) × Int)) : Exit → St → Option ((List Int) × Int) := seqK (normAt 0 m20A false (m20c [true, true, true, false, true, true, true, true])) (cutK M m20A (m20c [true, true, true, false, true, true, true, true]) fun s => evC (m20E k) M (m20I k) 0 m20A (m20c [true, true, true, false, true, true, true, true]) s (m20K11 M k L15)) (m20K11 M k L15)
noncomputable def m20K13 (M : Cut ((List Int) × Int)) (k : Nat) (L15 : St → Option ((List Int) × Int)) : Exit → St → Option ((List Int) × Int) := seqK (normAt 0 m20A false (m20c [true, true, true, false, true, true, true, false, true])) (cutK M m20A (m20c [true, true, true, false, true, true, true, false, true]) fun s => evC (m20E k) M (m20I k) 0 m20A (m20c [true, true, true, false, true, true, true, false, true]) s (m20K12 M k L15)) (m20K12 M k L15)
noncomputable def m20K14 (M : Cut ((List Int) × Int)) (k : Nat) (L15 : St → Option ((List Int) × Int)) : Exit → St → Option ((List Int) × Int) := seqK (normAt 0 m20A false (m20c [true, true, true, false, true, true, true, true, true])) (cutK M m20A (m20c [true, true, true, false, true, true, true, true, true]) fun s => evC (m20E k) M (m20I k) 0 m20A (m20c [true, true, true, false, true, true, true, true, true]) s (m20K11 M k L15)) (m20K11 M k L15)
noncomputable def m20K15 (M : Cut ((List Int) × Int)) (k : Nat) (L15 : St → Option ((List Int) × Int)) : Exit → St → Option ((List Int) × Int) := blockK 2 (m20K14 M k L15)
noncomputable def m20K16 (M : Cut ((List Int) × Int)) (k : Nat) : Exit → St → Option ((List Int) × Int) := seqK (normAt 0 m20A false (m20c [true, true, true, true, true])) (cutK M m20A (m20c [true, true, true, true, true]) fun s => evC (m20E k) M (m20I k) 0 m20A (m20c [true, true, true, true, true]) s (retK Try.prog Try.f20 [.leaf (.own (.int .u8) 5), .leaf (.val (.int .i64))])) (retK Try.prog Try.f20 [.leaf (.own (.int .u8) 5), .leaf (.val (.int .i64))])
noncomputable def m20S15 (t1 : Int) (t9 : Int) (b0 : List Int) : St := { n := 52, tm := slots [(1, .int .i64 t1), (8, .own 0), (9, .int .i64 t9)], tab := blks [some (.row true (.int .u8) 5 b0)], nx := 1 }
noncomputable def m20S20 (b0 : List Int) : St := { n := 52, tm := slots [(8, .own 0)], tab := blks [some (.row true (.int .u8) 5 b0)], nx := 1 }

noncomputable def m20X (X15 : Int → Int → List Int → Option ((List Int) × Int)) (k : Nat) (p0 : (List Int)) (p1 : Int) (p2 : Int) : Option ((List Int) × Int) := (if ltI p2 1 = true then some (([], 1)) else (if ltI 4 p2 = true then some (([], 1)) else (if ltI p1 0 = true then some (([], 1)) else (if leI 0 (wr IntKind.i64 (8 * p2)) = true then (if leI (wr IntKind.i64 (1 * Mini.p2 (min (Int.toNat (wr IntKind.i64 (8 * p2))) 64))) p1 = true then some (([], 1)) else (if ltI (wr IntKind.i64 (4096 - p2)) (↑(List.length p0) : Int) = true then some (([], 2)) else (Option.bind (m25F k p0) fun (c5 : (List Int)) => X15 p1 (wr IntKind.i64 (p2 - 1)) c5))) else none))))

theorem m20x (M : Cut ((List Int) × Int)) (k : Nat) (p0 : (List Int)) (p1 : Int) (p2 : Int) : evC (m20E k) M (m20I k) 0 m20A (m20c []) (stAt Try.f20 (argSs [.leaf (.val (.row (.int .u8))), .leaf (.val (.int .i64)), .leaf (.val (.int .i64))] (p0, p1, p2)) (fun _ => none) 0) (retK Try.prog Try.f20 [.leaf (.own (.int .u8) 5), .leaf (.val (.int .i64))]) = m20X (fun t1' t9' b0' => loopN (normAt 0 m20A true (m20c [true, true, true, false, true, true, true])) (fun K s => evC (m20E k) M (m20I k) 0 m20A (m20c [true, true, true, false, true, true, true]) s K) (m20K10 M k) k (m20S15 t1' t9' b0')) k p0 p1 p2 := by kernel_rfl

noncomputable def m20X15 (X20 : List Int → Option ((List Int) × Int)) (L15 : Int → Int → List Int → Option ((List Int) × Int)) (k : Nat) (t1 : Int) (t9 : Int) (b0 : List Int) : Option ((List Int) × Int) := (if leI 0 t9 = true then (if leI 0 (wr IntKind.i64 (8 * t9)) = true then (if leI
    (↑((List.length b0 +
            List.length
              (List.set (List.replicate 1 0) 0
                (wr IntKind.u8 (t1 / p2 (min (Int.toNat (wr IntKind.i64 (8 * t9))) 64))))) *
          1) :
      Int)
    140737488355328 =
  true then L15 t1 (wr IntKind.i64 (t9 - 1)) (b0 ++ List.set (List.replicate 1 0) 0 (wr IntKind.u8 (t1 / p2 (min (Int.toNat (wr IntKind.i64 (8 * t9))) 64)))) else none) else none) else X20 b0)

theorem m20x15 (M : Cut ((List Int) × Int)) (k : Nat) (L15 : St → Option ((List Int) × Int)) (t1 : Int) (t9 : Int) (b0 : List Int) : evC (m20E k) M (m20I k) 0 m20A (m20c [true, true, true, false, true, true, true]) (m20S15 t1 t9 b0) (seqK (normAt 0 m20A true (m20c [true, true, true, false, true, true, true])) L15 (m20K10 M k)) = m20X15 (fun b0' => M 20 (fun s => evC (m20E k) M (m20I k) 0 m20A (m20c [true, true, true, true]) s (retK Try.prog Try.f20 [.leaf (.own (.int .u8) 5), .leaf (.val (.int .i64))])) (m20S20 b0')) (fun t1' t9' b0' => L15 (m20S15 t1' t9' b0')) k t1 t9 b0 := by kernel_rfl

noncomputable def m20X20 (k : Nat) (b0 : List Int) : Option ((List Int) × Int) := (Option.bind (m25F k b0) fun (c3 : (List Int)) => some ((c3, 0)))

theorem m20x20 (M : Cut ((List Int) × Int)) (k : Nat) (b0 : List Int) : evC (m20E k) M (m20I k) 0 m20A (m20c [true, true, true, true]) (m20S20 b0) (retK Try.prog Try.f20 [.leaf (.own (.int .u8) 5), .leaf (.val (.int .i64))]) = m20X20 k b0 := by kernel_rfl

noncomputable def m20F20 (k : Nat) (b0 : List Int) : Option ((List Int) × Int) := m20X20 k b0

theorem m20q20 (k : Nat) (b0 : List Int) : evC (m20E k) (fun _ f => f) (m20I k) 0 m20A (m20c [true, true, true, true]) (m20S20 b0) (retK Try.prog Try.f20 [.leaf (.own (.int .u8) 5), .leaf (.val (.int .i64))]) = m20F20 k b0 := by
    show _ = m20X20 k b0
    exact m20x20 (fun _ f => f) k b0

noncomputable def m20F15 (k : Nat) : Nat → Int → Int → List Int → Option ((List Int) × Int)
  | 0, _, _, _ => none
  | j + 1, t1, t9, b0 => m20X15 (m20F20 k) (m20F15 k j) k t1 t9 b0

theorem m20q15 (k : Nat) : ∀ (j : Nat) (t1 : Int) (t9 : Int) (b0 : List Int), loopN (normAt 0 m20A true (m20c [true, true, true, false, true, true, true])) (fun K s => evC (m20E k) (fun _ f => f) (m20I k) 0 m20A (m20c [true, true, true, false, true, true, true]) s K) (m20K10 (fun _ f => f) k) j (m20S15 t1 t9 b0) = m20F15 k j t1 t9 b0
  | 0, _, _, _ => rfl
  | j + 1, t1, t9, b0 => by
    have e0 : m20F15 k j = (fun t1' t9' b0' => loopN (normAt 0 m20A true (m20c [true, true, true, false, true, true, true])) (fun K s => evC (m20E k) (fun _ f => f) (m20I k) 0 m20A (m20c [true, true, true, false, true, true, true]) s K) (m20K10 (fun _ f => f) k) j (m20S15 t1' t9' b0')) := funext fun t1' => funext fun t9' => funext fun b0' => (m20q15 k j t1' t9' b0').symm
    have e20 : m20F20 k = (fun b0' => evC (m20E k) (fun _ f => f) (m20I k) 0 m20A (m20c [true, true, true, true]) (m20S20 b0') (retK Try.prog Try.f20 [.leaf (.own (.int .u8) 5), .leaf (.val (.int .i64))])) := funext fun b0' => (m20q20 k b0').symm
    show _ = m20X15 (m20F20 k) (m20F15 k j) k t1 t9 b0
    rw [e0, e20]
    exact m20x15 (fun _ f => f) k (loopN (normAt 0 m20A true (m20c [true, true, true, false, true, true, true])) (fun K s => evC (m20E k) (fun _ f => f) (m20I k) 0 m20A (m20c [true, true, true, false, true, true, true]) s K) (m20K10 (fun _ f => f) k) j) t1 t9 b0

noncomputable def m20F (k : Nat) (p0 : (List Int)) (p1 : Int) (p2 : Int) : Option ((List Int) × Int) := m20X (m20F15 k k) k p0 p1 p2

theorem m20q (k : Nat) (p0 : (List Int)) (p1 : Int) (p2 : Int) : evC (m20E k) (fun _ f => f) (m20I k) 0 m20A (m20c []) (stAt Try.f20 (argSs [.leaf (.val (.row (.int .u8))), .leaf (.val (.int .i64)), .leaf (.val (.int .i64))] (p0, p1, p2)) (fun _ => none) 0) (retK Try.prog Try.f20 [.leaf (.own (.int .u8) 5), .leaf (.val (.int .i64))]) = m20F k p0 p1 p2 := by
    have e15 : m20F15 k k = (fun t1' t9' b0' => loopN (normAt 0 m20A true (m20c [true, true, true, false, true, true, true])) (fun K s => evC (m20E k) (fun _ f => f) (m20I k) 0 m20A (m20c [true, true, true, false, true, true, true]) s K) (m20K10 (fun _ f => f) k) k (m20S15 t1' t9' b0')) := funext fun t1' => funext fun t9' => funext fun b0' => (m20q15 k k t1' t9' b0').symm
    show _ = m20X (m20F15 k k) k p0 p1 p2
    rw [e15]
    exact m20x (fun _ f => f) k p0 p1 p2

noncomputable def m20sp : Spec := { ps := [.leaf (.val (.row (.int .u8))), .leaf (.val (.int .i64)), .leaf (.val (.int .i64))], rs := [.leaf (.own (.int .u8) 5), .leaf (.val (.int .i64))], f := fun k a => m20F k a.1 a.2.1 a.2.2 }

theorem m20ok (k : Nat) : EnvOk (m20E k) := envOk_of (l := [(25, m25sp)]) progNames progMixed rfl (.cons ⟨m25con k, Try.f25, by kernel_rfl, by kernel_rfl⟩ (.nil))

theorem m20con (k : Nat) : Contract Try.prog k 20 m20sp := contract_of (E := m20E k) (m20ok k) (A := only 20 m20A) (d := 3) (c := m20c []) (by kernel_rfl) (by kernel_rfl) fun a _ h => (m20q k a.1 a.2.1 a.2.2).trans h

noncomputable def m10A : Anns := tabA []
noncomputable def m10E (k : Nat) : Env := { P := Try.prog, k := k, G := tabG [(11, m11sp), (19, m19sp), (20, m20sp)] }
noncomputable def m10c (p : List Bool) : Code := sub p (bodyOf Try.f10)
noncomputable def m10I (k : Nat) : Inl ((List Int) × Int) := inlOf (m10E k) (only 10 m10A) 3
noncomputable def m10K0 (M : Cut ((List Int) × Int)) (k : Nat) : Exit → St → Option ((List Int) × Int) := seqK (normAt 0 m10A false (m10c [true])) (cutK M m10A (m10c [true]) fun s => evC (m10E k) M (m10I k) 0 m10A (m10c [true]) s (retK Try.prog Try.f10 [.leaf (.own (.int .u8) 5), .leaf (.val (.int .i64))])) (retK Try.prog Try.f10 [.leaf (.own (.int .u8) 5), .leaf (.val (.int .i64))])
noncomputable def m10K1 (M : Cut ((List Int) × Int)) (k : Nat) : Exit → St → Option ((List Int) × Int) := seqK (normAt 0 m10A false (m10c [true, true])) (cutK M m10A (m10c [true, true]) fun s => evC (m10E k) M (m10I k) 0 m10A (m10c [true, true]) s (retK Try.prog Try.f10 [.leaf (.own (.int .u8) 5), .leaf (.val (.int .i64))])) (retK Try.prog Try.f10 [.leaf (.own (.int .u8) 5), .leaf (.val (.int .i64))])
noncomputable def m10K2 (M : Cut ((List Int) × Int)) (k : Nat) : Exit → St → Option ((List Int) × Int) := seqK (normAt 0 m10A false (m10c [true, true, true])) (cutK M m10A (m10c [true, true, true]) fun s => evC (m10E k) M (m10I k) 0 m10A (m10c [true, true, true]) s (retK Try.prog Try.f10 [.leaf (.own (.int .u8) 5), .leaf (.val (.int .i64))])) (retK Try.prog Try.f10 [.leaf (.own (.int .u8) 5), .leaf (.val (.int .i64))])
noncomputable def m10K3 (M : Cut ((List Int) × Int)) (k : Nat) : Exit → St → Option ((List Int) × Int) := seqK (normAt 0 m10A false (m10c [true, true, false, true])) (cutK M m10A (m10c [true, true, false, true]) fun s => evC (m10E k) M (m10I k) 0 m10A (m10c [true, true, false, true]) s (m10K2 M k)) (m10K2 M k)
noncomputable def m10K4 (M : Cut ((List Int) × Int)) (k : Nat) : Exit → St → Option ((List Int) × Int) := seqK (normAt 0 m10A false (m10c [true, true, false, true, false, true])) (cutK M m10A (m10c [true, true, false, true, false, true]) fun s => evC (m10E k) M (m10I k) 0 m10A (m10c [true, true, false, true, false, true]) s (m10K2 M k)) (m10K2 M k)
noncomputable def m10K5 (M : Cut ((List Int) × Int)) (k : Nat) : Exit → St → Option ((List Int) × Int) := seqK (normAt 0 m10A false (m10c [true, true, true, true])) (cutK M m10A (m10c [true, true, true, true]) fun s => evC (m10E k) M (m10I k) 0 m10A (m10c [true, true, true, true]) s (retK Try.prog Try.f10 [.leaf (.own (.int .u8) 5), .leaf (.val (.int .i64))])) (retK Try.prog Try.f10 [.leaf (.own (.int .u8) 5), .leaf (.val (.int .i64))])
noncomputable def m10K6 (M : Cut ((List Int) × Int)) (k : Nat) : Exit → St → Option ((List Int) × Int) := seqK (normAt 0 m10A false (m10c [true, true, true, true, true])) (cutK M m10A (m10c [true, true, true, true, true]) fun s => evC (m10E k) M (m10I k) 0 m10A (m10c [true, true, true, true, true]) s (retK Try.prog Try.f10 [.leaf (.own (.int .u8) 5), .leaf (.val (.int .i64))])) (retK Try.prog Try.f10 [.leaf (.own (.int .u8) 5), .leaf (.val (.int .i64))])
noncomputable def m10K7 (M : Cut ((List Int) × Int)) (k : Nat) : Exit → St → Option ((List Int) × Int) := seqK (normAt 0 m10A false (m10c [true, true, true, true, true, true])) (cutK M m10A (m10c [true, true, true, true, true, true]) fun s => evC (m10E k) M (m10I k) 0 m10A (m10c [true, true, true, true, true, true]) s (retK Try.prog Try.f10 [.leaf (.own (.int .u8) 5), .leaf (.val (.int .i64))])) (retK Try.prog Try.f10 [.leaf (.own (.int .u8) 5), .leaf (.val (.int .i64))])
noncomputable def m10K8 (M : Cut ((List Int) × Int)) (k : Nat) : Exit → St → Option ((List Int) × Int) := seqK (normAt 0 m10A false (m10c [true, true, true, true, true, true, true])) (cutK M m10A (m10c [true, true, true, true, true, true, true]) fun s => evC (m10E k) M (m10I k) 0 m10A (m10c [true, true, true, true, true, true, true]) s (retK Try.prog Try.f10 [.leaf (.own (.int .u8) 5), .leaf (.val (.int .i64))])) (retK Try.prog Try.f10 [.leaf (.own (.int .u8) 5), .leaf (.val (.int .i64))])
noncomputable def m10K9 (M : Cut ((List Int) × Int)) (k : Nat) : Exit → St → Option ((List Int) × Int) := seqK (normAt 0 m10A false (m10c [true, true, true, true, true, true, true, true])) (cutK M m10A (m10c [true, true, true, true, true, true, true, true]) fun s => evC (m10E k) M (m10I k) 0 m10A (m10c [true, true, true, true, true, true, true, true]) s (retK Try.prog Try.f10 [.leaf (.own (.int .u8) 5), .leaf (.val (.int .i64))])) (retK Try.prog Try.f10 [.leaf (.own (.int .u8) 5), .leaf (.val (.int .i64))])

noncomputable def m10X (k : Nat) (p0 : Int) (p1 : (Int × (Int × (List Int)))) : Option ((List Int) × Int) := (Option.bind (m11F k p0 (Prod.fst p1, Prod.fst (Prod.snd p1), Prod.snd (Prod.snd p1))) fun (c4 : Int) => (if (!eqI c4 0) = true then some (([], c4)) else (Option.bind (m20F k [] (Prod.fst p1) 4) fun (c5 : ((List Int) × Int)) => (if leI
    (↑((List.length (Prod.fst c5) +
            List.length
              (List.set (List.set (List.replicate 2 0) 0 (wr IntKind.u8 (Prod.fst (Prod.snd p1)))) 1
                (wr IntKind.u8 (↑(List.length (Prod.snd (Prod.snd p1))) : Int)))) *
          1) :
      Int)
    140737488355328 =
  true then (if leI
    (↑((List.length
              (Prod.fst c5 ++
                List.set (List.set (List.replicate 2 0) 0 (wr IntKind.u8 (Prod.fst (Prod.snd p1)))) 1
                  (wr IntKind.u8 (↑(List.length (Prod.snd (Prod.snd p1))) : Int))) +
            List.length (Prod.snd (Prod.snd p1))) *
          1) :
      Int)
    140737488355328 =
  true then (if leI 0 (wr IntKind.i64 (p0 - (↑(List.length (Prod.snd (Prod.snd p1))) : Int))) = true then (if leI
    (((↑(List.length
              (Prod.fst c5 ++
                  List.set (List.set (List.replicate 2 0) 0 (wr IntKind.u8 (Prod.fst (Prod.snd p1)))) 1
                    (wr IntKind.u8 (↑(List.length (Prod.snd (Prod.snd p1))) : Int)) ++
                Prod.snd (Prod.snd p1))) :
          Int) +
        wr IntKind.i64 (p0 - (↑(List.length (Prod.snd (Prod.snd p1))) : Int))) *
      (↑1 : Int))
    140737488355328 =
  true then (Option.bind (m19F k
  (Prod.fst c5 ++
        List.set (List.set (List.replicate 2 0) 0 (wr IntKind.u8 (Prod.fst (Prod.snd p1)))) 1
          (wr IntKind.u8 (↑(List.length (Prod.snd (Prod.snd p1))) : Int)) ++
      Prod.snd (Prod.snd p1) ++
    List.replicate (Int.toNat (wr IntKind.i64 (p0 - (↑(List.length (Prod.snd (Prod.snd p1))) : Int)))) 0)) fun (c6 : ((List Int) × Int)) => some ((Prod.fst c6, Prod.snd c6))) else none) else none) else none) else none))))

theorem m10x (M : Cut ((List Int) × Int)) (k : Nat) (p0 : Int) (p1 : (Int × (Int × (List Int)))) : evC (m10E k) M (m10I k) 0 m10A (m10c []) (stAt Try.f10 (argSs [.leaf (.val (.int .i64)), .st (.pair (.int .i64) (.pair (.int .i64) (.row (.int .u8))))] (p0, p1)) (fun _ => none) 0) (retK Try.prog Try.f10 [.leaf (.own (.int .u8) 5), .leaf (.val (.int .i64))]) = m10X k p0 p1 := by kernel_rfl

noncomputable def m10F (k : Nat) (p0 : Int) (p1 : (Int × (Int × (List Int)))) : Option ((List Int) × Int) := m10X k p0 p1

theorem m10q (k : Nat) (p0 : Int) (p1 : (Int × (Int × (List Int)))) : evC (m10E k) (fun _ f => f) (m10I k) 0 m10A (m10c []) (stAt Try.f10 (argSs [.leaf (.val (.int .i64)), .st (.pair (.int .i64) (.pair (.int .i64) (.row (.int .u8))))] (p0, p1)) (fun _ => none) 0) (retK Try.prog Try.f10 [.leaf (.own (.int .u8) 5), .leaf (.val (.int .i64))]) = m10F k p0 p1 := by
    show _ = m10X k p0 p1
    exact m10x (fun _ f => f) k p0 p1

noncomputable def m10sp : Spec := { ps := [.leaf (.val (.int .i64)), .st (.pair (.int .i64) (.pair (.int .i64) (.row (.int .u8))))], rs := [.leaf (.own (.int .u8) 5), .leaf (.val (.int .i64))], f := fun k a => m10F k a.1 a.2 }

theorem m10ok (k : Nat) : EnvOk (m10E k) := envOk_of (l := [(11, m11sp), (19, m19sp), (20, m20sp)]) progNames progMixed rfl (.cons ⟨m11con k, Try.f11, by kernel_rfl, by kernel_rfl⟩ (.cons ⟨m19con k, Try.f19, by kernel_rfl, by kernel_rfl⟩ (.cons ⟨m20con k, Try.f20, by kernel_rfl, by kernel_rfl⟩ (.nil))))

theorem m10con (k : Nat) : Contract Try.prog k 10 m10sp := contract_of (E := m10E k) (m10ok k) (A := only 10 m10A) (d := 3) (c := m10c []) (by kernel_rfl) (by kernel_rfl) fun a _ h => (m10q k a.1 a.2).trans h

noncomputable def m14A : Anns := tabA [(9, { keep := [0, 1, 5] })]
noncomputable def m14E (k : Nat) : Env := { P := Try.prog, k := k, G := tabG [] }
noncomputable def m14c (p : List Bool) : Code := sub p (bodyOf Try.f14)
noncomputable def m14I (k : Nat) : Inl Bool := inlOf (m14E k) (only 14 m14A) 3
noncomputable def m14K0 (M : Cut Bool) (k : Nat) : Exit → St → Option Bool := seqK (normAt 0 m14A false (m14c [true])) (cutK M m14A (m14c [true]) fun s => evC (m14E k) M (m14I k) 0 m14A (m14c [true]) s (retK Try.prog Try.f14 [.leaf (.val .bool)])) (retK Try.prog Try.f14 [.leaf (.val .bool)])
noncomputable def m14K1 (M : Cut Bool) (k : Nat) : Exit → St → Option Bool := seqK (normAt 0 m14A false (m14c [true, true])) (cutK M m14A (m14c [true, true]) fun s => evC (m14E k) M (m14I k) 0 m14A (m14c [true, true]) s (retK Try.prog Try.f14 [.leaf (.val .bool)])) (retK Try.prog Try.f14 [.leaf (.val .bool)])
noncomputable def m14K2 (M : Cut Bool) (k : Nat) : Exit → St → Option Bool := seqK (normAt 0 m14A false (m14c [true, false, true])) (cutK M m14A (m14c [true, false, true]) fun s => evC (m14E k) M (m14I k) 0 m14A (m14c [true, false, true]) s (m14K1 M k)) (m14K1 M k)
noncomputable def m14K3 (M : Cut Bool) (k : Nat) : Exit → St → Option Bool := seqK (normAt 0 m14A false (m14c [true, false, true, false, true])) (cutK M m14A (m14c [true, false, true, false, true]) fun s => evC (m14E k) M (m14I k) 0 m14A (m14c [true, false, true, false, true]) s (m14K1 M k)) (m14K1 M k)
noncomputable def m14K4 (M : Cut Bool) (k : Nat) : Exit → St → Option Bool := seqK (normAt 0 m14A false (m14c [true, true, true])) (cutK M m14A (m14c [true, true, true]) fun s => evC (m14E k) M (m14I k) 0 m14A (m14c [true, true, true]) s (retK Try.prog Try.f14 [.leaf (.val .bool)])) (retK Try.prog Try.f14 [.leaf (.val .bool)])
noncomputable def m14K5 (M : Cut Bool) (k : Nat) : Exit → St → Option Bool := seqK (normAt 0 m14A false (m14c [true, true, false, true])) (cutK M m14A (m14c [true, true, false, true]) fun s => evC (m14E k) M (m14I k) 0 m14A (m14c [true, true, false, true]) s (m14K4 M k)) (m14K4 M k)
noncomputable def m14K6 (M : Cut Bool) (k : Nat) : Exit → St → Option Bool := blockK 0 (m14K4 M k)
noncomputable def m14K7 (M : Cut Bool) (k : Nat) (L9 : St → Option Bool) : Exit → St → Option Bool := seqK (normAt 0 m14A true (m14c [true, true, false, true, true, true])) L9 (m14K6 M k)
noncomputable def m14K8 (M : Cut Bool) (k : Nat) (L9 : St → Option Bool) : Exit → St → Option Bool := seqK (normAt 0 m14A false (m14c [true, true, false, true, true, true, true])) (cutK M m14A (m14c [true, true, false, true, true, true, true]) fun s => evC (m14E k) M (m14I k) 0 m14A (m14c [true, true, false, true, true, true, true]) s (m14K7 M k L9)) (m14K7 M k L9)
noncomputable def m14K9 (M : Cut Bool) (k : Nat) (L9 : St → Option Bool) : Exit → St → Option Bool := seqK (normAt 0 m14A false (m14c [true, true, false, true, true, true, false, true])) (cutK M m14A (m14c [true, true, false, true, true, true, false, true]) fun s => evC (m14E k) M (m14I k) 0 m14A (m14c [true, true, false, true, true, true, false, true]) s (m14K8 M k L9)) (m14K8 M k L9)
noncomputable def m14K10 (M : Cut Bool) (k : Nat) (L9 : St → Option Bool) : Exit → St → Option Bool := seqK (normAt 0 m14A false (m14c [true, true, false, true, true, true, true, true])) (cutK M m14A (m14c [true, true, false, true, true, true, true, true]) fun s => evC (m14E k) M (m14I k) 0 m14A (m14c [true, true, false, true, true, true, true, true]) s (m14K7 M k L9)) (m14K7 M k L9)
noncomputable def m14K11 (M : Cut Bool) (k : Nat) (L9 : St → Option Bool) : Exit → St → Option Bool := blockK 1 (m14K10 M k L9)
noncomputable def m14K12 (M : Cut Bool) (k : Nat) (L9 : St → Option Bool) : Exit → St → Option Bool := seqK (normAt 0 m14A false (m14c [true, true, false, true, true, true, true, false, true, true])) (cutK M m14A (m14c [true, true, false, true, true, true, true, false, true, true]) fun s => evC (m14E k) M (m14I k) 0 m14A (m14c [true, true, false, true, true, true, true, false, true, true]) s (m14K11 M k L9)) (m14K11 M k L9)
noncomputable def m14K13 (M : Cut Bool) (k : Nat) (L9 : St → Option Bool) : Exit → St → Option Bool := seqK (normAt 0 m14A false (m14c [true, true, false, true, true, true, true, false, true, true, false, true])) (cutK M m14A (m14c [true, true, false, true, true, true, true, false, true, true, false, true]) fun s => evC (m14E k) M (m14I k) 0 m14A (m14c [true, true, false, true, true, true, true, false, true, true, false, true]) s (m14K11 M k L9)) (m14K11 M k L9)
noncomputable def m14K14 (M : Cut Bool) (k : Nat) : Exit → St → Option Bool := seqK (normAt 0 m14A false (m14c [true, true, true, true])) (cutK M m14A (m14c [true, true, true, true]) fun s => evC (m14E k) M (m14I k) 0 m14A (m14c [true, true, true, true]) s (retK Try.prog Try.f14 [.leaf (.val .bool)])) (retK Try.prog Try.f14 [.leaf (.val .bool)])
noncomputable def m14S9 (t0 : List Int) (t1 : List Int) (t5 : Int) : St := { n := 26, tm := slots [(0, .row (.int .u8) t0), (1, .row (.int .u8) t1), (5, .int .i64 t5)], tab := blks [], nx := 0 }

noncomputable def m14X (X9 : List Int → List Int → Int → Option Bool) (k : Nat) (p0 : (List Int)) (p1 : (List Int)) : Option Bool := (if (!eqI (↑(List.length p0) : Int) (↑(List.length p1) : Int)) = true then some (false) else X9 p0 p1 (0))

theorem m14x (M : Cut Bool) (k : Nat) (p0 : (List Int)) (p1 : (List Int)) : evC (m14E k) M (m14I k) 0 m14A (m14c []) (stAt Try.f14 (argSs [.leaf (.val (.row (.int .u8))), .leaf (.val (.row (.int .u8)))] (p0, p1)) (fun _ => none) 0) (retK Try.prog Try.f14 [.leaf (.val .bool)]) = m14X (fun t0' t1' t5' => loopN (normAt 0 m14A true (m14c [true, true, false, true, true, true])) (fun K s => evC (m14E k) M (m14I k) 0 m14A (m14c [true, true, false, true, true, true]) s K) (m14K6 M k) k (m14S9 t0' t1' t5')) k p0 p1 := by kernel_rfl

noncomputable def m14X9 (L9 : List Int → List Int → Int → Option Bool) (k : Nat) (t0 : List Int) (t1 : List Int) (t5 : Int) : Option Bool := (if ltI t5 (↑(List.length t0) : Int) = true then (if leI 0 t5 = true then (if ltI t5 (↑(List.length t0) : Int) = true then (if leI 0 t5 = true then (if ltI t5 (↑(List.length t1) : Int) = true then (if (!eqI (List.getD t0 (Int.toNat t5) 0) (List.getD t1 (Int.toNat t5) 0)) = true then some (false) else L9 t0 t1 (wr IntKind.i64 (t5 + 1))) else none) else none) else none) else none) else some (true))

theorem m14x9 (M : Cut Bool) (k : Nat) (L9 : St → Option Bool) (t0 : List Int) (t1 : List Int) (t5 : Int) : evC (m14E k) M (m14I k) 0 m14A (m14c [true, true, false, true, true, true]) (m14S9 t0 t1 t5) (seqK (normAt 0 m14A true (m14c [true, true, false, true, true, true])) L9 (m14K6 M k)) = m14X9 (fun t0' t1' t5' => L9 (m14S9 t0' t1' t5')) k t0 t1 t5 := by kernel_rfl

noncomputable def m14F9 (k : Nat) : Nat → List Int → List Int → Int → Option Bool
  | 0, _, _, _ => none
  | j + 1, t0, t1, t5 => m14X9 (m14F9 k j) k t0 t1 t5

theorem m14q9 (k : Nat) : ∀ (j : Nat) (t0 : List Int) (t1 : List Int) (t5 : Int), loopN (normAt 0 m14A true (m14c [true, true, false, true, true, true])) (fun K s => evC (m14E k) (fun _ f => f) (m14I k) 0 m14A (m14c [true, true, false, true, true, true]) s K) (m14K6 (fun _ f => f) k) j (m14S9 t0 t1 t5) = m14F9 k j t0 t1 t5
  | 0, _, _, _ => rfl
  | j + 1, t0, t1, t5 => by
    have e0 : m14F9 k j = (fun t0' t1' t5' => loopN (normAt 0 m14A true (m14c [true, true, false, true, true, true])) (fun K s => evC (m14E k) (fun _ f => f) (m14I k) 0 m14A (m14c [true, true, false, true, true, true]) s K) (m14K6 (fun _ f => f) k) j (m14S9 t0' t1' t5')) := funext fun t0' => funext fun t1' => funext fun t5' => (m14q9 k j t0' t1' t5').symm
    show _ = m14X9 (m14F9 k j) k t0 t1 t5
    rw [e0]
    exact m14x9 (fun _ f => f) k (loopN (normAt 0 m14A true (m14c [true, true, false, true, true, true])) (fun K s => evC (m14E k) (fun _ f => f) (m14I k) 0 m14A (m14c [true, true, false, true, true, true]) s K) (m14K6 (fun _ f => f) k) j) t0 t1 t5

noncomputable def m14F (k : Nat) (p0 : (List Int)) (p1 : (List Int)) : Option Bool := m14X (m14F9 k k) k p0 p1

theorem m14q (k : Nat) (p0 : (List Int)) (p1 : (List Int)) : evC (m14E k) (fun _ f => f) (m14I k) 0 m14A (m14c []) (stAt Try.f14 (argSs [.leaf (.val (.row (.int .u8))), .leaf (.val (.row (.int .u8)))] (p0, p1)) (fun _ => none) 0) (retK Try.prog Try.f14 [.leaf (.val .bool)]) = m14F k p0 p1 := by
    have e9 : m14F9 k k = (fun t0' t1' t5' => loopN (normAt 0 m14A true (m14c [true, true, false, true, true, true])) (fun K s => evC (m14E k) (fun _ f => f) (m14I k) 0 m14A (m14c [true, true, false, true, true, true]) s K) (m14K6 (fun _ f => f) k) k (m14S9 t0' t1' t5')) := funext fun t0' => funext fun t1' => funext fun t5' => (m14q9 k k t0' t1' t5').symm
    show _ = m14X (m14F9 k k) k p0 p1
    rw [e9]
    exact m14x (fun _ f => f) k p0 p1

noncomputable def m14sp : Spec := { ps := [.leaf (.val (.row (.int .u8))), .leaf (.val (.row (.int .u8)))], rs := [.leaf (.val .bool)], f := fun k a => m14F k a.1 a.2 }

theorem m14ok (k : Nat) : EnvOk (m14E k) := envOk_of (l := []) progNames progMixed rfl (.nil)

theorem m14con (k : Nat) : Contract Try.prog k 14 m14sp := contract_of (E := m14E k) (m14ok k) (A := only 14 m14A) (d := 3) (c := m14c []) (by kernel_rfl) (by kernel_rfl) fun a _ h => (m14q k a.1 a.2).trans h

noncomputable def m12A : Anns := tabA []
noncomputable def m12E (k : Nat) : Env := { P := Try.prog, k := k, G := tabG [(14, m14sp)] }
noncomputable def m12c (p : List Bool) : Code := sub p (bodyOf Try.f12)
noncomputable def m12I (k : Nat) : Inl Bool := inlOf (m12E k) (only 12 m12A) 3
noncomputable def m12K0 (M : Cut Bool) (k : Nat) : Exit → St → Option Bool := seqK (normAt 0 m12A false (m12c [true])) (cutK M m12A (m12c [true]) fun s => evC (m12E k) M (m12I k) 0 m12A (m12c [true]) s (retK Try.prog Try.f12 [.leaf (.val .bool)])) (retK Try.prog Try.f12 [.leaf (.val .bool)])
noncomputable def m12K1 (M : Cut Bool) (k : Nat) : Exit → St → Option Bool := seqK (normAt 0 m12A false (m12c [true, true])) (cutK M m12A (m12c [true, true]) fun s => evC (m12E k) M (m12I k) 0 m12A (m12c [true, true]) s (retK Try.prog Try.f12 [.leaf (.val .bool)])) (retK Try.prog Try.f12 [.leaf (.val .bool)])

noncomputable def m12X (k : Nat) (p0 : (Int × (Int × (List Int)))) (p1 : (Int × (Int × (List Int)))) : Option Bool := (if eqI (Prod.fst p0) (Prod.fst p1) = true then (if eqI (Prod.fst (Prod.snd p0)) (Prod.fst (Prod.snd p1)) = true then (Option.bind (m14F k (Prod.snd (Prod.snd p0)) (Prod.snd (Prod.snd p1))) fun (c4 : Bool) => some c4) else some (false)) else some (false))

theorem m12x (M : Cut Bool) (k : Nat) (p0 : (Int × (Int × (List Int)))) (p1 : (Int × (Int × (List Int)))) : evC (m12E k) M (m12I k) 0 m12A (m12c []) (stAt Try.f12 (argSs [.st (.pair (.int .i64) (.pair (.int .i64) (.row (.int .u8)))), .st (.pair (.int .i64) (.pair (.int .i64) (.row (.int .u8))))] (p0, p1)) (fun _ => none) 0) (retK Try.prog Try.f12 [.leaf (.val .bool)]) = m12X k p0 p1 := by kernel_rfl

noncomputable def m12F (k : Nat) (p0 : (Int × (Int × (List Int)))) (p1 : (Int × (Int × (List Int)))) : Option Bool := m12X k p0 p1

theorem m12q (k : Nat) (p0 : (Int × (Int × (List Int)))) (p1 : (Int × (Int × (List Int)))) : evC (m12E k) (fun _ f => f) (m12I k) 0 m12A (m12c []) (stAt Try.f12 (argSs [.st (.pair (.int .i64) (.pair (.int .i64) (.row (.int .u8)))), .st (.pair (.int .i64) (.pair (.int .i64) (.row (.int .u8))))] (p0, p1)) (fun _ => none) 0) (retK Try.prog Try.f12 [.leaf (.val .bool)]) = m12F k p0 p1 := by
    show _ = m12X k p0 p1
    exact m12x (fun _ f => f) k p0 p1

noncomputable def m12sp : Spec := { ps := [.st (.pair (.int .i64) (.pair (.int .i64) (.row (.int .u8)))), .st (.pair (.int .i64) (.pair (.int .i64) (.row (.int .u8))))], rs := [.leaf (.val .bool)], f := fun k a => m12F k a.1 a.2 }

theorem m12ok (k : Nat) : EnvOk (m12E k) := envOk_of (l := [(14, m14sp)]) progNames progMixed rfl (.cons ⟨m14con k, Try.f14, by kernel_rfl, by kernel_rfl⟩ (.nil))

theorem m12con (k : Nat) : Contract Try.prog k 12 m12sp := contract_of (E := m12E k) (m12ok k) (A := only 12 m12A) (d := 3) (c := m12c []) (by kernel_rfl) (by kernel_rfl) fun a _ h => (m12q k a.1 a.2).trans h

noncomputable def m26A : Anns := tabA [(9, { keep := [0, 1, 12, 13] })]
noncomputable def m26E (k : Nat) : Env := { P := Try.prog, k := k, G := tabG [] }
noncomputable def m26c (p : List Bool) : Code := sub p (bodyOf Try.f26)
noncomputable def m26I (k : Nat) : Inl Bool := inlOf (m26E k) (only 26 m26A) 3
noncomputable def m26K0 (M : Cut Bool) (k : Nat) : Exit → St → Option Bool := seqK (normAt 0 m26A false (m26c [true])) (cutK M m26A (m26c [true]) fun s => evC (m26E k) M (m26I k) 0 m26A (m26c [true]) s (retK Try.prog Try.f26 [.leaf (.val .bool)])) (retK Try.prog Try.f26 [.leaf (.val .bool)])
noncomputable def m26K1 (M : Cut Bool) (k : Nat) : Exit → St → Option Bool := seqK (normAt 0 m26A false (m26c [true, true])) (cutK M m26A (m26c [true, true]) fun s => evC (m26E k) M (m26I k) 0 m26A (m26c [true, true]) s (retK Try.prog Try.f26 [.leaf (.val .bool)])) (retK Try.prog Try.f26 [.leaf (.val .bool)])
noncomputable def m26K2 (M : Cut Bool) (k : Nat) : Exit → St → Option Bool := seqK (normAt 0 m26A false (m26c [true, false, true])) (cutK M m26A (m26c [true, false, true]) fun s => evC (m26E k) M (m26I k) 0 m26A (m26c [true, false, true]) s (m26K1 M k)) (m26K1 M k)
noncomputable def m26K3 (M : Cut Bool) (k : Nat) : Exit → St → Option Bool := seqK (normAt 0 m26A false (m26c [true, false, true, false, true])) (cutK M m26A (m26c [true, false, true, false, true]) fun s => evC (m26E k) M (m26I k) 0 m26A (m26c [true, false, true, false, true]) s (m26K1 M k)) (m26K1 M k)
noncomputable def m26K4 (M : Cut Bool) (k : Nat) : Exit → St → Option Bool := seqK (normAt 0 m26A false (m26c [true, true, true])) (cutK M m26A (m26c [true, true, true]) fun s => evC (m26E k) M (m26I k) 0 m26A (m26c [true, true, true]) s (retK Try.prog Try.f26 [.leaf (.val .bool)])) (retK Try.prog Try.f26 [.leaf (.val .bool)])
noncomputable def m26K5 (M : Cut Bool) (k : Nat) : Exit → St → Option Bool := seqK (normAt 0 m26A false (m26c [true, true, false, true])) (cutK M m26A (m26c [true, true, false, true]) fun s => evC (m26E k) M (m26I k) 0 m26A (m26c [true, true, false, true]) s (m26K4 M k)) (m26K4 M k)
noncomputable def m26K6 (M : Cut Bool) (k : Nat) : Exit → St → Option Bool := blockK 0 (m26K4 M k)
noncomputable def m26K7 (M : Cut Bool) (k : Nat) (L9 : St → Option Bool) : Exit → St → Option Bool := seqK (normAt 0 m26A true (m26c [true, true, false, true, true, true])) L9 (m26K6 M k)
noncomputable def m26K8 (M : Cut Bool) (k : Nat) (L9 : St → Option Bool) : Exit → St → Option Bool := seqK (normAt 0 m26A false (m26c [true, true, false, true, true, true, true])) (cutK M m26A (m26c [true, true, false, true, true, true, true]) fun s => evC (m26E k) M (m26I k) 0 m26A (m26c [true, true, false, true, true, true, true]) s (m26K7 M k L9)) (m26K7 M k L9)
noncomputable def m26K9 (M : Cut Bool) (k : Nat) (L9 : St → Option Bool) : Exit → St → Option Bool := seqK (normAt 0 m26A false (m26c [true, true, false, true, true, true, true, true])) (cutK M m26A (m26c [true, true, false, true, true, true, true, true]) fun s => evC (m26E k) M (m26I k) 0 m26A (m26c [true, true, false, true, true, true, true, true]) s (m26K7 M k L9)) (m26K7 M k L9)
noncomputable def m26K10 (M : Cut Bool) (k : Nat) (L9 : St → Option Bool) : Exit → St → Option Bool := seqK (normAt 0 m26A false (m26c [true, true, false, true, true, true, true, true, true])) (cutK M m26A (m26c [true, true, false, true, true, true, true, true, true]) fun s => evC (m26E k) M (m26I k) 0 m26A (m26c [true, true, false, true, true, true, true, true, true]) s (m26K7 M k L9)) (m26K7 M k L9)
noncomputable def m26K11 (M : Cut Bool) (k : Nat) (L9 : St → Option Bool) : Exit → St → Option Bool := blockK 1 (m26K10 M k L9)
noncomputable def m26K12 (M : Cut Bool) (k : Nat) (L9 : St → Option Bool) : Exit → St → Option Bool := seqK (normAt 0 m26A false (m26c [true, true, false, true, true, true, true, true, false, true, true])) (cutK M m26A (m26c [true, true, false, true, true, true, true, true, false, true, true]) fun s => evC (m26E k) M (m26I k) 0 m26A (m26c [true, true, false, true, true, true, true, true, false, true, true]) s (m26K11 M k L9)) (m26K11 M k L9)
noncomputable def m26K13 (M : Cut Bool) (k : Nat) (L9 : St → Option Bool) : Exit → St → Option Bool := seqK (normAt 0 m26A false (m26c [true, true, false, true, true, true, true, true, false, true, true, true])) (cutK M m26A (m26c [true, true, false, true, true, true, true, true, false, true, true, true]) fun s => evC (m26E k) M (m26I k) 0 m26A (m26c [true, true, false, true, true, true, true, true, false, true, true, true]) s (m26K11 M k L9)) (m26K11 M k L9)
noncomputable def m26K14 (M : Cut Bool) (k : Nat) (L9 : St → Option Bool) : Exit → St → Option Bool := seqK (normAt 0 m26A false (m26c [true, true, false, true, true, true, true, true, false, true, true, true, false, true])) (cutK M m26A (m26c [true, true, false, true, true, true, true, true, false, true, true, true, false, true]) fun s => evC (m26E k) M (m26I k) 0 m26A (m26c [true, true, false, true, true, true, true, true, false, true, true, true, false, true]) s (m26K11 M k L9)) (m26K11 M k L9)
noncomputable def m26K15 (M : Cut Bool) (k : Nat) : Exit → St → Option Bool := seqK (normAt 0 m26A false (m26c [true, true, true, true])) (cutK M m26A (m26c [true, true, true, true]) fun s => evC (m26E k) M (m26I k) 0 m26A (m26c [true, true, true, true]) s (retK Try.prog Try.f26 [.leaf (.val .bool)])) (retK Try.prog Try.f26 [.leaf (.val .bool)])
noncomputable def m26S9 (t0 : List Int) (t1 : List Int) (t12 : Int) (t13 : Int) : St := { n := 26, tm := slots [(0, .row (.int .u8) t0), (1, .row (.int .u8) t1), (12, .int .i64 t12), (13, .int .i64 t13)], tab := blks [], nx := 0 }

noncomputable def m26X (X9 : List Int → List Int → Int → Int → Option Bool) (k : Nat) (p0 : (List Int)) (p1 : (List Int)) : Option Bool := (if (!eqI (↑(List.length p0) : Int) (↑(List.length p1) : Int)) = true then some (false) else X9 p0 p1 ((↑(List.length p0) : Int)) (0))

theorem m26x (M : Cut Bool) (k : Nat) (p0 : (List Int)) (p1 : (List Int)) : evC (m26E k) M (m26I k) 0 m26A (m26c []) (stAt Try.f26 (argSs [.leaf (.val (.row (.int .u8))), .leaf (.val (.row (.int .u8)))] (p0, p1)) (fun _ => none) 0) (retK Try.prog Try.f26 [.leaf (.val .bool)]) = m26X (fun t0' t1' t12' t13' => loopN (normAt 0 m26A true (m26c [true, true, false, true, true, true])) (fun K s => evC (m26E k) M (m26I k) 0 m26A (m26c [true, true, false, true, true, true]) s K) (m26K6 M k) k (m26S9 t0' t1' t12' t13')) k p0 p1 := by kernel_rfl

noncomputable def m26X9 (L9 : List Int → List Int → Int → Int → Option Bool) (k : Nat) (t0 : List Int) (t1 : List Int) (t12 : Int) (t13 : Int) : Option Bool := (if ltI t13 t12 = true then (if leI 0 t13 = true then (if ltI t13 (↑(List.length t0) : Int) = true then (if leI 0 t13 = true then (if ltI t13 (↑(List.length t1) : Int) = true then (if (!eqI (List.getD t0 (Int.toNat t13) 0) (List.getD t1 (Int.toNat t13) 0)) = true then some (false) else L9 t0 t1 t12 (wr IntKind.i64 (t13 + 1))) else none) else none) else none) else none) else some (true))

theorem m26x9 (M : Cut Bool) (k : Nat) (L9 : St → Option Bool) (t0 : List Int) (t1 : List Int) (t12 : Int) (t13 : Int) : evC (m26E k) M (m26I k) 0 m26A (m26c [true, true, false, true, true, true]) (m26S9 t0 t1 t12 t13) (seqK (normAt 0 m26A true (m26c [true, true, false, true, true, true])) L9 (m26K6 M k)) = m26X9 (fun t0' t1' t12' t13' => L9 (m26S9 t0' t1' t12' t13')) k t0 t1 t12 t13 := by kernel_rfl

noncomputable def m26F9 (k : Nat) : Nat → List Int → List Int → Int → Int → Option Bool
  | 0, _, _, _, _ => none
  | j + 1, t0, t1, t12, t13 => m26X9 (m26F9 k j) k t0 t1 t12 t13

theorem m26q9 (k : Nat) : ∀ (j : Nat) (t0 : List Int) (t1 : List Int) (t12 : Int) (t13 : Int), loopN (normAt 0 m26A true (m26c [true, true, false, true, true, true])) (fun K s => evC (m26E k) (fun _ f => f) (m26I k) 0 m26A (m26c [true, true, false, true, true, true]) s K) (m26K6 (fun _ f => f) k) j (m26S9 t0 t1 t12 t13) = m26F9 k j t0 t1 t12 t13
  | 0, _, _, _, _ => rfl
  | j + 1, t0, t1, t12, t13 => by
    have e0 : m26F9 k j = (fun t0' t1' t12' t13' => loopN (normAt 0 m26A true (m26c [true, true, false, true, true, true])) (fun K s => evC (m26E k) (fun _ f => f) (m26I k) 0 m26A (m26c [true, true, false, true, true, true]) s K) (m26K6 (fun _ f => f) k) j (m26S9 t0' t1' t12' t13')) := funext fun t0' => funext fun t1' => funext fun t12' => funext fun t13' => (m26q9 k j t0' t1' t12' t13').symm
    show _ = m26X9 (m26F9 k j) k t0 t1 t12 t13
    rw [e0]
    exact m26x9 (fun _ f => f) k (loopN (normAt 0 m26A true (m26c [true, true, false, true, true, true])) (fun K s => evC (m26E k) (fun _ f => f) (m26I k) 0 m26A (m26c [true, true, false, true, true, true]) s K) (m26K6 (fun _ f => f) k) j) t0 t1 t12 t13

noncomputable def m26F (k : Nat) (p0 : (List Int)) (p1 : (List Int)) : Option Bool := m26X (m26F9 k k) k p0 p1

theorem m26q (k : Nat) (p0 : (List Int)) (p1 : (List Int)) : evC (m26E k) (fun _ f => f) (m26I k) 0 m26A (m26c []) (stAt Try.f26 (argSs [.leaf (.val (.row (.int .u8))), .leaf (.val (.row (.int .u8)))] (p0, p1)) (fun _ => none) 0) (retK Try.prog Try.f26 [.leaf (.val .bool)]) = m26F k p0 p1 := by
    have e9 : m26F9 k k = (fun t0' t1' t12' t13' => loopN (normAt 0 m26A true (m26c [true, true, false, true, true, true])) (fun K s => evC (m26E k) (fun _ f => f) (m26I k) 0 m26A (m26c [true, true, false, true, true, true]) s K) (m26K6 (fun _ f => f) k) k (m26S9 t0' t1' t12' t13')) := funext fun t0' => funext fun t1' => funext fun t12' => funext fun t13' => (m26q9 k k t0' t1' t12' t13').symm
    show _ = m26X (m26F9 k k) k p0 p1
    rw [e9]
    exact m26x (fun _ f => f) k p0 p1

noncomputable def m26sp : Spec := { ps := [.leaf (.val (.row (.int .u8))), .leaf (.val (.row (.int .u8)))], rs := [.leaf (.val .bool)], f := fun k a => m26F k a.1 a.2 }

theorem m26ok (k : Nat) : EnvOk (m26E k) := envOk_of (l := []) progNames progMixed rfl (.nil)

theorem m26con (k : Nat) : Contract Try.prog k 26 m26sp := contract_of (E := m26E k) (m26ok k) (A := only 26 m26A) (d := 3) (c := m26c []) (by kernel_rfl) (by kernel_rfl) fun a _ h => (m26q k a.1 a.2).trans h

noncomputable def m18A : Anns := tabA []
noncomputable def m18E (k : Nat) : Env := { P := Try.prog, k := k, G := tabG [(19, m19sp), (26, m26sp)] }
noncomputable def m18c (p : List Bool) : Code := sub p (bodyOf Try.f18)
noncomputable def m18I (k : Nat) : Inl (Bool × Int) := inlOf (m18E k) (only 18 m18A) 3
noncomputable def m18K0 (M : Cut (Bool × Int)) (k : Nat) : Exit → St → Option (Bool × Int) := seqK (normAt 0 m18A false (m18c [true])) (cutK M m18A (m18c [true]) fun s => evC (m18E k) M (m18I k) 0 m18A (m18c [true]) s (retK Try.prog Try.f18 [.leaf (.val .bool), .leaf (.val (.int .i64))])) (retK Try.prog Try.f18 [.leaf (.val .bool), .leaf (.val (.int .i64))])
noncomputable def m18K1 (M : Cut (Bool × Int)) (k : Nat) : Exit → St → Option (Bool × Int) := seqK (normAt 0 m18A false (m18c [true, true])) (cutK M m18A (m18c [true, true]) fun s => evC (m18E k) M (m18I k) 0 m18A (m18c [true, true]) s (retK Try.prog Try.f18 [.leaf (.val .bool), .leaf (.val (.int .i64))])) (retK Try.prog Try.f18 [.leaf (.val .bool), .leaf (.val (.int .i64))])
noncomputable def m18K2 (M : Cut (Bool × Int)) (k : Nat) : Exit → St → Option (Bool × Int) := blockK 0 (m18K1 M k)
noncomputable def m18K3 (M : Cut (Bool × Int)) (k : Nat) : Exit → St → Option (Bool × Int) := seqK (normAt 0 m18A false (m18c [true, false, true, true])) (cutK M m18A (m18c [true, false, true, true]) fun s => evC (m18E k) M (m18I k) 0 m18A (m18c [true, false, true, true]) s (m18K2 M k)) (m18K2 M k)
noncomputable def m18K4 (M : Cut (Bool × Int)) (k : Nat) : Exit → St → Option (Bool × Int) := seqK (normAt 0 m18A false (m18c [true, false, true, true, false, true])) (cutK M m18A (m18c [true, false, true, true, false, true]) fun s => evC (m18E k) M (m18I k) 0 m18A (m18c [true, false, true, true, false, true]) s (m18K2 M k)) (m18K2 M k)
noncomputable def m18K5 (M : Cut (Bool × Int)) (k : Nat) : Exit → St → Option (Bool × Int) := seqK (normAt 0 m18A false (m18c [true, false, true, true, true, true])) (cutK M m18A (m18c [true, false, true, true, true, true]) fun s => evC (m18E k) M (m18I k) 0 m18A (m18c [true, false, true, true, true, true]) s (m18K2 M k)) (m18K2 M k)
noncomputable def m18K6 (M : Cut (Bool × Int)) (k : Nat) : Exit → St → Option (Bool × Int) := seqK (normAt 0 m18A false (m18c [true, false, true, true, true, true, false, true])) (cutK M m18A (m18c [true, false, true, true, true, true, false, true]) fun s => evC (m18E k) M (m18I k) 0 m18A (m18c [true, false, true, true, true, true, false, true]) s (m18K2 M k)) (m18K2 M k)
noncomputable def m18K7 (M : Cut (Bool × Int)) (k : Nat) : Exit → St → Option (Bool × Int) := seqK (normAt 0 m18A false (m18c [true, true, true])) (cutK M m18A (m18c [true, true, true]) fun s => evC (m18E k) M (m18I k) 0 m18A (m18c [true, true, true]) s (retK Try.prog Try.f18 [.leaf (.val .bool), .leaf (.val (.int .i64))])) (retK Try.prog Try.f18 [.leaf (.val .bool), .leaf (.val (.int .i64))])
noncomputable def m18K8 (M : Cut (Bool × Int)) (k : Nat) : Exit → St → Option (Bool × Int) := seqK (normAt 0 m18A false (m18c [true, true, true, true])) (cutK M m18A (m18c [true, true, true, true]) fun s => evC (m18E k) M (m18I k) 0 m18A (m18c [true, true, true, true]) s (retK Try.prog Try.f18 [.leaf (.val .bool), .leaf (.val (.int .i64))])) (retK Try.prog Try.f18 [.leaf (.val .bool), .leaf (.val (.int .i64))])

noncomputable def m18X (k : Nat) (p0 : (List Int)) : Option (Bool × Int) := (if ltI 4096 (↑(List.length p0) : Int) = true then some ((false, 2)) else (if ltI (↑(List.length p0) : Int) 4 = true then some ((false, 0)) else (if leI 0 (wr IntKind.i64 ((↑(List.length p0) : Int) - 4)) = true then (if leI (wr IntKind.i64 ((↑(List.length p0) : Int) - 4)) (↑(List.length p0) : Int) = true then (Option.bind (m19F k (List.take (Int.toNat (wr IntKind.i64 ((↑(List.length p0) : Int) - 4))) p0)) fun (c3 : ((List Int) × Int)) => (if eqI (Prod.snd c3) 0 = true then (Option.bind (m26F k (Prod.fst c3) p0) fun (c4 : Bool) => some ((c4, 0))) else some ((false, 0)))) else none) else none)))

theorem m18x (M : Cut (Bool × Int)) (k : Nat) (p0 : (List Int)) : evC (m18E k) M (m18I k) 0 m18A (m18c []) (stAt Try.f18 (argSs [.leaf (.val (.row (.int .u8)))] p0) (fun _ => none) 0) (retK Try.prog Try.f18 [.leaf (.val .bool), .leaf (.val (.int .i64))]) = m18X k p0 := by kernel_rfl

noncomputable def m18F (k : Nat) (p0 : (List Int)) : Option (Bool × Int) := m18X k p0

theorem m18q (k : Nat) (p0 : (List Int)) : evC (m18E k) (fun _ f => f) (m18I k) 0 m18A (m18c []) (stAt Try.f18 (argSs [.leaf (.val (.row (.int .u8)))] p0) (fun _ => none) 0) (retK Try.prog Try.f18 [.leaf (.val .bool), .leaf (.val (.int .i64))]) = m18F k p0 := by
    show _ = m18X k p0
    exact m18x (fun _ f => f) k p0

noncomputable def m18sp : Spec := { ps := [.leaf (.val (.row (.int .u8)))], rs := [.leaf (.val .bool), .leaf (.val (.int .i64))], f := fun k a => m18F k a }

theorem m18ok (k : Nat) : EnvOk (m18E k) := envOk_of (l := [(19, m19sp), (26, m26sp)]) progNames progMixed rfl (.cons ⟨m19con k, Try.f19, by kernel_rfl, by kernel_rfl⟩ (.cons ⟨m26con k, Try.f26, by kernel_rfl, by kernel_rfl⟩ (.nil)))

theorem m18con (k : Nat) : Contract Try.prog k 18 m18sp := contract_of (E := m18E k) (m18ok k) (A := only 18 m18A) (d := 3) (c := m18c []) (by kernel_rfl) (by kernel_rfl) fun a _ h => (m18q k a).trans h

noncomputable def m24A : Anns := tabA [(15, { keep := [8, 40, 41, 42] }), (22, { keep := [8] })]
noncomputable def m24E (k : Nat) : Env := { P := Try.prog, k := k, G := tabG [] }
noncomputable def m24c (p : List Bool) : Code := sub p (bodyOf Try.f24)
noncomputable def m24I (k : Nat) : Inl (Int × Int) := inlOf (m24E k) (only 24 m24A) 3
noncomputable def m24K0 (M : Cut (Int × Int)) (k : Nat) : Exit → St → Option (Int × Int) := seqK (normAt 0 m24A false (m24c [true])) (cutK M m24A (m24c [true]) fun s => evC (m24E k) M (m24I k) 0 m24A (m24c [true]) s (retK Try.prog Try.f24 [.leaf (.val (.int .i64)), .leaf (.val (.int .i64))])) (retK Try.prog Try.f24 [.leaf (.val (.int .i64)), .leaf (.val (.int .i64))])
noncomputable def m24K1 (M : Cut (Int × Int)) (k : Nat) : Exit → St → Option (Int × Int) := seqK (normAt 0 m24A false (m24c [true, true])) (cutK M m24A (m24c [true, true]) fun s => evC (m24E k) M (m24I k) 0 m24A (m24c [true, true]) s (retK Try.prog Try.f24 [.leaf (.val (.int .i64)), .leaf (.val (.int .i64))])) (retK Try.prog Try.f24 [.leaf (.val (.int .i64)), .leaf (.val (.int .i64))])
noncomputable def m24K2 (M : Cut (Int × Int)) (k : Nat) : Exit → St → Option (Int × Int) := blockK 0 (m24K1 M k)
noncomputable def m24K3 (M : Cut (Int × Int)) (k : Nat) : Exit → St → Option (Int × Int) := seqK (normAt 0 m24A false (m24c [true, false, true, true])) (cutK M m24A (m24c [true, false, true, true]) fun s => evC (m24E k) M (m24I k) 0 m24A (m24c [true, false, true, true]) s (m24K2 M k)) (m24K2 M k)
noncomputable def m24K4 (M : Cut (Int × Int)) (k : Nat) : Exit → St → Option (Int × Int) := seqK (normAt 0 m24A false (m24c [true, false, true, true, false, true])) (cutK M m24A (m24c [true, false, true, true, false, true]) fun s => evC (m24E k) M (m24I k) 0 m24A (m24c [true, false, true, true, false, true]) s (m24K2 M k)) (m24K2 M k)
noncomputable def m24K5 (M : Cut (Int × Int)) (k : Nat) : Exit → St → Option (Int × Int) := seqK (normAt 0 m24A false (m24c [true, false, true, true, true, true])) (cutK M m24A (m24c [true, false, true, true, true, true]) fun s => evC (m24E k) M (m24I k) 0 m24A (m24c [true, false, true, true, true, true]) s (m24K2 M k)) (m24K2 M k)
noncomputable def m24K6 (M : Cut (Int × Int)) (k : Nat) : Exit → St → Option (Int × Int) := seqK (normAt 0 m24A false (m24c [true, false, true, true, true, true, false, true])) (cutK M m24A (m24c [true, false, true, true, true, true, false, true]) fun s => evC (m24E k) M (m24I k) 0 m24A (m24c [true, false, true, true, true, true, false, true]) s (m24K2 M k)) (m24K2 M k)
noncomputable def m24K7 (M : Cut (Int × Int)) (k : Nat) : Exit → St → Option (Int × Int) := seqK (normAt 0 m24A false (m24c [true, true, true])) (cutK M m24A (m24c [true, true, true]) fun s => evC (m24E k) M (m24I k) 0 m24A (m24c [true, true, true]) s (retK Try.prog Try.f24 [.leaf (.val (.int .i64)), .leaf (.val (.int .i64))])) (retK Try.prog Try.f24 [.leaf (.val (.int .i64)), .leaf (.val (.int .i64))])
noncomputable def m24K8 (M : Cut (Int × Int)) (k : Nat) : Exit → St → Option (Int × Int) := seqK (normAt 0 m24A false (m24c [true, true, true, true])) (cutK M m24A (m24c [true, true, true, true]) fun s => evC (m24E k) M (m24I k) 0 m24A (m24c [true, true, true, true]) s (retK Try.prog Try.f24 [.leaf (.val (.int .i64)), .leaf (.val (.int .i64))])) (retK Try.prog Try.f24 [.leaf (.val (.int .i64)), .leaf (.val (.int .i64))])
noncomputable def m24K9 (M : Cut (Int × Int)) (k : Nat) : Exit → St → Option (Int × Int) := seqK (normAt 0 m24A false (m24c [true, true, true, false, true])) (cutK M m24A (m24c [true, true, true, false, true]) fun s => evC (m24E k) M (m24I k) 0 m24A (m24c [true, true, true, false, true]) s (m24K8 M k)) (m24K8 M k)
noncomputable def m24K10 (M : Cut (Int × Int)) (k : Nat) : Exit → St → Option (Int × Int) := blockK 1 (m24K8 M k)
noncomputable def m24K11 (M : Cut (Int × Int)) (k : Nat) (L15 : St → Option (Int × Int)) : Exit → St → Option (Int × Int) := seqK (normAt 0 m24A true (m24c [true, true, true, false, true, true, true])) L15 (m24K10 M k)
noncomputable def m24K12 (M : Cut (Int × Int)) (k : Nat) (L15 : St → Option (Int × Int)) : Exit → St → Option (Int × Int) := seqK (normAt 0 m24A false (m24c [true, true, true, false, true, true, true, true])) (cutK M m24A (m24c [true, true, true, false, true, true, true, true]) fun s => evC (m24E k) M (m24I k) 0 m24A (m24c [true, true, true, false, true, true, true, true]) s (m24K11 M k L15)) (m24K11 M k L15)
noncomputable def m24K13 (M : Cut (Int × Int)) (k : Nat) (L15 : St → Option (Int × Int)) : Exit → St → Option (Int × Int) := seqK (normAt 0 m24A false (m24c [true, true, true, false, true, true, true, true, true])) (cutK M m24A (m24c [true, true, true, false, true, true, true, true, true]) fun s => evC (m24E k) M (m24I k) 0 m24A (m24c [true, true, true, false, true, true, true, true, true]) s (m24K11 M k L15)) (m24K11 M k L15)
noncomputable def m24K14 (M : Cut (Int × Int)) (k : Nat) (L15 : St → Option (Int × Int)) : Exit → St → Option (Int × Int) := seqK (normAt 0 m24A false (m24c [true, true, true, false, true, true, true, true, true, true])) (cutK M m24A (m24c [true, true, true, false, true, true, true, true, true, true]) fun s => evC (m24E k) M (m24I k) 0 m24A (m24c [true, true, true, false, true, true, true, true, true, true]) s (m24K11 M k L15)) (m24K11 M k L15)
noncomputable def m24K15 (M : Cut (Int × Int)) (k : Nat) (L15 : St → Option (Int × Int)) : Exit → St → Option (Int × Int) := blockK 2 (m24K14 M k L15)
noncomputable def m24K16 (M : Cut (Int × Int)) (k : Nat) (L15 : St → Option (Int × Int)) : Exit → St → Option (Int × Int) := seqK (normAt 0 m24A false (m24c [true, true, true, false, true, true, true, true, true, false, true, true])) (cutK M m24A (m24c [true, true, true, false, true, true, true, true, true, false, true, true]) fun s => evC (m24E k) M (m24I k) 0 m24A (m24c [true, true, true, false, true, true, true, true, true, false, true, true]) s (m24K15 M k L15)) (m24K15 M k L15)
noncomputable def m24K17 (M : Cut (Int × Int)) (k : Nat) : Exit → St → Option (Int × Int) := seqK (normAt 0 m24A false (m24c [true, true, true, true, true])) (cutK M m24A (m24c [true, true, true, true, true]) fun s => evC (m24E k) M (m24I k) 0 m24A (m24c [true, true, true, true, true]) s (retK Try.prog Try.f24 [.leaf (.val (.int .i64)), .leaf (.val (.int .i64))])) (retK Try.prog Try.f24 [.leaf (.val (.int .i64)), .leaf (.val (.int .i64))])
noncomputable def m24S15 (t8 : Int) (t40 : List Int) (t41 : Int) (t42 : Int) : St := { n := 53, tm := slots [(8, .int .i64 t8), (40, .row (.int .u8) t40), (41, .int .i64 t41), (42, .int .i64 t42)], tab := blks [], nx := 0 }
noncomputable def m24S22 (t8 : Int) : St := { n := 53, tm := slots [(8, .int .i64 t8)], tab := blks [], nx := 0 }

noncomputable def m24X (X15 : Int → List Int → Int → Int → Option (Int × Int)) (k : Nat) (p0 : (List Int)) (p1 : Int) (p2 : Int) : Option (Int × Int) := (if ltI p2 1 = true then some ((0, 1)) else (if ltI 4 p2 = true then some ((0, 1)) else (if ltI p1 0 = true then some ((0, 1)) else (if ltI (↑(List.length p0) : Int) p1 = true then some ((0, 1)) else (if ltI (wr IntKind.i64 ((↑(List.length p0) : Int) - p1)) p2 = true then some ((0, 3)) else (if leI 0 (wr IntKind.i64 (p1 + p2)) = true then (if leI (wr IntKind.i64 (p1 + p2)) (↑(List.length p0) : Int) = true then (if leI 0 p1 = true then (if leI p1 (wr IntKind.i64 (p1 + p2)) = true then X15 (0) (List.drop (Int.toNat p1) (List.take (Int.toNat (wr IntKind.i64 (p1 + p2))) p0)) ((↑(List.length (List.drop (Int.toNat p1) (List.take (Int.toNat (wr IntKind.i64 (p1 + p2))) p0))) : Int)) (0) else none) else none) else none) else none))))))

theorem m24x (M : Cut (Int × Int)) (k : Nat) (p0 : (List Int)) (p1 : Int) (p2 : Int) : evC (m24E k) M (m24I k) 0 m24A (m24c []) (stAt Try.f24 (argSs [.leaf (.val (.row (.int .u8))), .leaf (.val (.int .i64)), .leaf (.val (.int .i64))] (p0, p1, p2)) (fun _ => none) 0) (retK Try.prog Try.f24 [.leaf (.val (.int .i64)), .leaf (.val (.int .i64))]) = m24X (fun t8' t40' t41' t42' => loopN (normAt 0 m24A true (m24c [true, true, true, false, true, true, true])) (fun K s => evC (m24E k) M (m24I k) 0 m24A (m24c [true, true, true, false, true, true, true]) s K) (m24K10 M k) k (m24S15 t8' t40' t41' t42')) k p0 p1 p2 := by kernel_rfl

noncomputable def m24X15 (X22 : Int → Option (Int × Int)) (L15 : Int → List Int → Int → Int → Option (Int × Int)) (k : Nat) (t8 : Int) (t40 : List Int) (t41 : Int) (t42 : Int) : Option (Int × Int) := (if ltI t42 t41 = true then (if leI 0 t42 = true then (if ltI t42 (↑(List.length t40) : Int) = true then (if leI 0 8 = true then L15 (bits BinOp.or IntKind.i64 (wr IntKind.i64 (t8 * 256)) (wr IntKind.i64 (List.getD t40 (Int.toNat t42) 0))) t40 t41 (wr IntKind.i64 (t42 + 1)) else none) else none) else none) else X22 t8)

theorem m24x15 (M : Cut (Int × Int)) (k : Nat) (L15 : St → Option (Int × Int)) (t8 : Int) (t40 : List Int) (t41 : Int) (t42 : Int) : evC (m24E k) M (m24I k) 0 m24A (m24c [true, true, true, false, true, true, true]) (m24S15 t8 t40 t41 t42) (seqK (normAt 0 m24A true (m24c [true, true, true, false, true, true, true])) L15 (m24K10 M k)) = m24X15 (fun t8' => M 22 (fun s => evC (m24E k) M (m24I k) 0 m24A (m24c [true, true, true, true]) s (retK Try.prog Try.f24 [.leaf (.val (.int .i64)), .leaf (.val (.int .i64))])) (m24S22 t8')) (fun t8' t40' t41' t42' => L15 (m24S15 t8' t40' t41' t42')) k t8 t40 t41 t42 := by kernel_rfl

noncomputable def m24X22 (k : Nat) (t8 : Int) : Option (Int × Int) := some ((t8, 0))

theorem m24x22 (M : Cut (Int × Int)) (k : Nat) (t8 : Int) : evC (m24E k) M (m24I k) 0 m24A (m24c [true, true, true, true]) (m24S22 t8) (retK Try.prog Try.f24 [.leaf (.val (.int .i64)), .leaf (.val (.int .i64))]) = m24X22 k t8 := by kernel_rfl

noncomputable def m24F22 (k : Nat) (t8 : Int) : Option (Int × Int) := m24X22 k t8

theorem m24q22 (k : Nat) (t8 : Int) : evC (m24E k) (fun _ f => f) (m24I k) 0 m24A (m24c [true, true, true, true]) (m24S22 t8) (retK Try.prog Try.f24 [.leaf (.val (.int .i64)), .leaf (.val (.int .i64))]) = m24F22 k t8 := by
    show _ = m24X22 k t8
    exact m24x22 (fun _ f => f) k t8

noncomputable def m24F15 (k : Nat) : Nat → Int → List Int → Int → Int → Option (Int × Int)
  | 0, _, _, _, _ => none
  | j + 1, t8, t40, t41, t42 => m24X15 (m24F22 k) (m24F15 k j) k t8 t40 t41 t42

theorem m24q15 (k : Nat) : ∀ (j : Nat) (t8 : Int) (t40 : List Int) (t41 : Int) (t42 : Int), loopN (normAt 0 m24A true (m24c [true, true, true, false, true, true, true])) (fun K s => evC (m24E k) (fun _ f => f) (m24I k) 0 m24A (m24c [true, true, true, false, true, true, true]) s K) (m24K10 (fun _ f => f) k) j (m24S15 t8 t40 t41 t42) = m24F15 k j t8 t40 t41 t42
  | 0, _, _, _, _ => rfl
  | j + 1, t8, t40, t41, t42 => by
    have e0 : m24F15 k j = (fun t8' t40' t41' t42' => loopN (normAt 0 m24A true (m24c [true, true, true, false, true, true, true])) (fun K s => evC (m24E k) (fun _ f => f) (m24I k) 0 m24A (m24c [true, true, true, false, true, true, true]) s K) (m24K10 (fun _ f => f) k) j (m24S15 t8' t40' t41' t42')) := funext fun t8' => funext fun t40' => funext fun t41' => funext fun t42' => (m24q15 k j t8' t40' t41' t42').symm
    have e22 : m24F22 k = (fun t8' => evC (m24E k) (fun _ f => f) (m24I k) 0 m24A (m24c [true, true, true, true]) (m24S22 t8') (retK Try.prog Try.f24 [.leaf (.val (.int .i64)), .leaf (.val (.int .i64))])) := funext fun t8' => (m24q22 k t8').symm
    show _ = m24X15 (m24F22 k) (m24F15 k j) k t8 t40 t41 t42
    rw [e0, e22]
    exact m24x15 (fun _ f => f) k (loopN (normAt 0 m24A true (m24c [true, true, true, false, true, true, true])) (fun K s => evC (m24E k) (fun _ f => f) (m24I k) 0 m24A (m24c [true, true, true, false, true, true, true]) s K) (m24K10 (fun _ f => f) k) j) t8 t40 t41 t42

noncomputable def m24F (k : Nat) (p0 : (List Int)) (p1 : Int) (p2 : Int) : Option (Int × Int) := m24X (m24F15 k k) k p0 p1 p2

theorem m24q (k : Nat) (p0 : (List Int)) (p1 : Int) (p2 : Int) : evC (m24E k) (fun _ f => f) (m24I k) 0 m24A (m24c []) (stAt Try.f24 (argSs [.leaf (.val (.row (.int .u8))), .leaf (.val (.int .i64)), .leaf (.val (.int .i64))] (p0, p1, p2)) (fun _ => none) 0) (retK Try.prog Try.f24 [.leaf (.val (.int .i64)), .leaf (.val (.int .i64))]) = m24F k p0 p1 p2 := by
    have e15 : m24F15 k k = (fun t8' t40' t41' t42' => loopN (normAt 0 m24A true (m24c [true, true, true, false, true, true, true])) (fun K s => evC (m24E k) (fun _ f => f) (m24I k) 0 m24A (m24c [true, true, true, false, true, true, true]) s K) (m24K10 (fun _ f => f) k) k (m24S15 t8' t40' t41' t42')) := funext fun t8' => funext fun t40' => funext fun t41' => funext fun t42' => (m24q15 k k t8' t40' t41' t42').symm
    show _ = m24X (m24F15 k k) k p0 p1 p2
    rw [e15]
    exact m24x (fun _ f => f) k p0 p1 p2

noncomputable def m24sp : Spec := { ps := [.leaf (.val (.row (.int .u8))), .leaf (.val (.int .i64)), .leaf (.val (.int .i64))], rs := [.leaf (.val (.int .i64)), .leaf (.val (.int .i64))], f := fun k a => m24F k a.1 a.2.1 a.2.2 }

theorem m24ok (k : Nat) : EnvOk (m24E k) := envOk_of (l := []) progNames progMixed rfl (.nil)

theorem m24con (k : Nat) : Contract Try.prog k 24 m24sp := contract_of (E := m24E k) (m24ok k) (A := only 24 m24A) (d := 3) (c := m24c []) (by kernel_rfl) (by kernel_rfl) fun a _ h => (m24q k a.1 a.2.1 a.2.2).trans h

noncomputable def m16A : Anns := tabA []
noncomputable def m16E (k : Nat) : Env := { P := Try.prog, k := k, G := tabG [(10, m10sp), (18, m18sp), (21, m21sp), (24, m24sp), (25, m25sp), (26, m26sp)] }
noncomputable def m16c (p : List Bool) : Code := sub p (bodyOf Try.f16)
noncomputable def m16I (k : Nat) : Inl ((Int × (Int × (List Int))) × Int) := inlOf (m16E k) (only 16 m16A) 3
noncomputable def m16K0 (M : Cut ((Int × (Int × (List Int))) × Int)) (k : Nat) : Exit → St → Option ((Int × (Int × (List Int))) × Int) := seqK (normAt 0 m16A false (m16c [true])) (cutK M m16A (m16c [true]) fun s => evC (m16E k) M (m16I k) 0 m16A (m16c [true]) s (retK Try.prog Try.f16 [.st (.pair (.int .i64) (.pair (.int .i64) (.row (.int .u8)))), .leaf (.val (.int .i64))])) (retK Try.prog Try.f16 [.st (.pair (.int .i64) (.pair (.int .i64) (.row (.int .u8)))), .leaf (.val (.int .i64))])
noncomputable def m16K1 (M : Cut ((Int × (Int × (List Int))) × Int)) (k : Nat) : Exit → St → Option ((Int × (Int × (List Int))) × Int) := seqK (normAt 0 m16A false (m16c [true, true])) (cutK M m16A (m16c [true, true]) fun s => evC (m16E k) M (m16I k) 0 m16A (m16c [true, true]) s (retK Try.prog Try.f16 [.st (.pair (.int .i64) (.pair (.int .i64) (.row (.int .u8)))), .leaf (.val (.int .i64))])) (retK Try.prog Try.f16 [.st (.pair (.int .i64) (.pair (.int .i64) (.row (.int .u8)))), .leaf (.val (.int .i64))])
noncomputable def m16K2 (M : Cut ((Int × (Int × (List Int))) × Int)) (k : Nat) : Exit → St → Option ((Int × (Int × (List Int))) × Int) := blockK 0 (m16K1 M k)
noncomputable def m16K3 (M : Cut ((Int × (Int × (List Int))) × Int)) (k : Nat) : Exit → St → Option ((Int × (Int × (List Int))) × Int) := seqK (normAt 0 m16A false (m16c [true, false, true, true])) (cutK M m16A (m16c [true, false, true, true]) fun s => evC (m16E k) M (m16I k) 0 m16A (m16c [true, false, true, true]) s (m16K2 M k)) (m16K2 M k)
noncomputable def m16K4 (M : Cut ((Int × (Int × (List Int))) × Int)) (k : Nat) : Exit → St → Option ((Int × (Int × (List Int))) × Int) := seqK (normAt 0 m16A false (m16c [true, false, true, true, false, true])) (cutK M m16A (m16c [true, false, true, true, false, true]) fun s => evC (m16E k) M (m16I k) 0 m16A (m16c [true, false, true, true, false, true]) s (m16K2 M k)) (m16K2 M k)
noncomputable def m16K5 (M : Cut ((Int × (Int × (List Int))) × Int)) (k : Nat) : Exit → St → Option ((Int × (Int × (List Int))) × Int) := seqK (normAt 0 m16A false (m16c [true, false, true, true, true, true])) (cutK M m16A (m16c [true, false, true, true, true, true]) fun s => evC (m16E k) M (m16I k) 0 m16A (m16c [true, false, true, true, true, true]) s (m16K2 M k)) (m16K2 M k)
noncomputable def m16K6 (M : Cut ((Int × (Int × (List Int))) × Int)) (k : Nat) : Exit → St → Option ((Int × (Int × (List Int))) × Int) := seqK (normAt 0 m16A false (m16c [true, false, true, true, true, true, false, true])) (cutK M m16A (m16c [true, false, true, true, true, true, false, true]) fun s => evC (m16E k) M (m16I k) 0 m16A (m16c [true, false, true, true, true, true, false, true]) s (m16K2 M k)) (m16K2 M k)
noncomputable def m16K7 (M : Cut ((Int × (Int × (List Int))) × Int)) (k : Nat) : Exit → St → Option ((Int × (Int × (List Int))) × Int) := seqK (normAt 0 m16A false (m16c [true, true, true])) (cutK M m16A (m16c [true, true, true]) fun s => evC (m16E k) M (m16I k) 0 m16A (m16c [true, true, true]) s (retK Try.prog Try.f16 [.st (.pair (.int .i64) (.pair (.int .i64) (.row (.int .u8)))), .leaf (.val (.int .i64))])) (retK Try.prog Try.f16 [.st (.pair (.int .i64) (.pair (.int .i64) (.row (.int .u8)))), .leaf (.val (.int .i64))])
noncomputable def m16K8 (M : Cut ((Int × (Int × (List Int))) × Int)) (k : Nat) : Exit → St → Option ((Int × (Int × (List Int))) × Int) := seqK (normAt 0 m16A false (m16c [true, true, true, true])) (cutK M m16A (m16c [true, true, true, true]) fun s => evC (m16E k) M (m16I k) 0 m16A (m16c [true, true, true, true]) s (retK Try.prog Try.f16 [.st (.pair (.int .i64) (.pair (.int .i64) (.row (.int .u8)))), .leaf (.val (.int .i64))])) (retK Try.prog Try.f16 [.st (.pair (.int .i64) (.pair (.int .i64) (.row (.int .u8)))), .leaf (.val (.int .i64))])
noncomputable def m16K9 (M : Cut ((Int × (Int × (List Int))) × Int)) (k : Nat) : Exit → St → Option ((Int × (Int × (List Int))) × Int) := seqK (normAt 0 m16A false (m16c [true, true, true, false, true])) (cutK M m16A (m16c [true, true, true, false, true]) fun s => evC (m16E k) M (m16I k) 0 m16A (m16c [true, true, true, false, true]) s (m16K8 M k)) (m16K8 M k)
noncomputable def m16K10 (M : Cut ((Int × (Int × (List Int))) × Int)) (k : Nat) : Exit → St → Option ((Int × (Int × (List Int))) × Int) := seqK (normAt 0 m16A false (m16c [true, true, true, false, true, false, true])) (cutK M m16A (m16c [true, true, true, false, true, false, true]) fun s => evC (m16E k) M (m16I k) 0 m16A (m16c [true, true, true, false, true, false, true]) s (m16K8 M k)) (m16K8 M k)
noncomputable def m16K11 (M : Cut ((Int × (Int × (List Int))) × Int)) (k : Nat) : Exit → St → Option ((Int × (Int × (List Int))) × Int) := seqK (normAt 0 m16A false (m16c [true, true, true, true, true])) (cutK M m16A (m16c [true, true, true, true, true]) fun s => evC (m16E k) M (m16I k) 0 m16A (m16c [true, true, true, true, true]) s (retK Try.prog Try.f16 [.st (.pair (.int .i64) (.pair (.int .i64) (.row (.int .u8)))), .leaf (.val (.int .i64))])) (retK Try.prog Try.f16 [.st (.pair (.int .i64) (.pair (.int .i64) (.row (.int .u8)))), .leaf (.val (.int .i64))])
noncomputable def m16K12 (M : Cut ((Int × (Int × (List Int))) × Int)) (k : Nat) : Exit → St → Option ((Int × (Int × (List Int))) × Int) := seqK (normAt 0 m16A false (m16c [true, true, true, true, true, true])) (cutK M m16A (m16c [true, true, true, true, true, true]) fun s => evC (m16E k) M (m16I k) 0 m16A (m16c [true, true, true, true, true, true]) s (retK Try.prog Try.f16 [.st (.pair (.int .i64) (.pair (.int .i64) (.row (.int .u8)))), .leaf (.val (.int .i64))])) (retK Try.prog Try.f16 [.st (.pair (.int .i64) (.pair (.int .i64) (.row (.int .u8)))), .leaf (.val (.int .i64))])
noncomputable def m16K13 (M : Cut ((Int × (Int × (List Int))) × Int)) (k : Nat) : Exit → St → Option ((Int × (Int × (List Int))) × Int) := seqK (normAt 0 m16A false (m16c [true, true, true, true, true, true, true])) (cutK M m16A (m16c [true, true, true, true, true, true, true]) fun s => evC (m16E k) M (m16I k) 0 m16A (m16c [true, true, true, true, true, true, true]) s (retK Try.prog Try.f16 [.st (.pair (.int .i64) (.pair (.int .i64) (.row (.int .u8)))), .leaf (.val (.int .i64))])) (retK Try.prog Try.f16 [.st (.pair (.int .i64) (.pair (.int .i64) (.row (.int .u8)))), .leaf (.val (.int .i64))])
noncomputable def m16K14 (M : Cut ((Int × (Int × (List Int))) × Int)) (k : Nat) : Exit → St → Option ((Int × (Int × (List Int))) × Int) := seqK (normAt 0 m16A false (m16c [true, true, true, true, true, true, true, true])) (cutK M m16A (m16c [true, true, true, true, true, true, true, true]) fun s => evC (m16E k) M (m16I k) 0 m16A (m16c [true, true, true, true, true, true, true, true]) s (retK Try.prog Try.f16 [.st (.pair (.int .i64) (.pair (.int .i64) (.row (.int .u8)))), .leaf (.val (.int .i64))])) (retK Try.prog Try.f16 [.st (.pair (.int .i64) (.pair (.int .i64) (.row (.int .u8)))), .leaf (.val (.int .i64))])
noncomputable def m16K15 (M : Cut ((Int × (Int × (List Int))) × Int)) (k : Nat) : Exit → St → Option ((Int × (Int × (List Int))) × Int) := seqK (normAt 0 m16A false (m16c [true, true, true, true, true, true, true, false, true])) (cutK M m16A (m16c [true, true, true, true, true, true, true, false, true]) fun s => evC (m16E k) M (m16I k) 0 m16A (m16c [true, true, true, true, true, true, true, false, true]) s (m16K14 M k)) (m16K14 M k)
noncomputable def m16K16 (M : Cut ((Int × (Int × (List Int))) × Int)) (k : Nat) : Exit → St → Option ((Int × (Int × (List Int))) × Int) := seqK (normAt 0 m16A false (m16c [true, true, true, true, true, true, true, false, true, false, true])) (cutK M m16A (m16c [true, true, true, true, true, true, true, false, true, false, true]) fun s => evC (m16E k) M (m16I k) 0 m16A (m16c [true, true, true, true, true, true, true, false, true, false, true]) s (m16K14 M k)) (m16K14 M k)
noncomputable def m16K17 (M : Cut ((Int × (Int × (List Int))) × Int)) (k : Nat) : Exit → St → Option ((Int × (Int × (List Int))) × Int) := seqK (normAt 0 m16A false (m16c [true, true, true, true, true, true, true, true, true])) (cutK M m16A (m16c [true, true, true, true, true, true, true, true, true]) fun s => evC (m16E k) M (m16I k) 0 m16A (m16c [true, true, true, true, true, true, true, true, true]) s (retK Try.prog Try.f16 [.st (.pair (.int .i64) (.pair (.int .i64) (.row (.int .u8)))), .leaf (.val (.int .i64))])) (retK Try.prog Try.f16 [.st (.pair (.int .i64) (.pair (.int .i64) (.row (.int .u8)))), .leaf (.val (.int .i64))])
noncomputable def m16K18 (M : Cut ((Int × (Int × (List Int))) × Int)) (k : Nat) : Exit → St → Option ((Int × (Int × (List Int))) × Int) := seqK (normAt 0 m16A false (m16c [true, true, true, true, true, true, true, true, true, true])) (cutK M m16A (m16c [true, true, true, true, true, true, true, true, true, true]) fun s => evC (m16E k) M (m16I k) 0 m16A (m16c [true, true, true, true, true, true, true, true, true, true]) s (retK Try.prog Try.f16 [.st (.pair (.int .i64) (.pair (.int .i64) (.row (.int .u8)))), .leaf (.val (.int .i64))])) (retK Try.prog Try.f16 [.st (.pair (.int .i64) (.pair (.int .i64) (.row (.int .u8)))), .leaf (.val (.int .i64))])
noncomputable def m16K19 (M : Cut ((Int × (Int × (List Int))) × Int)) (k : Nat) : Exit → St → Option ((Int × (Int × (List Int))) × Int) := seqK (normAt 0 m16A false (m16c [true, true, true, true, true, true, true, true, true, true, true])) (cutK M m16A (m16c [true, true, true, true, true, true, true, true, true, true, true]) fun s => evC (m16E k) M (m16I k) 0 m16A (m16c [true, true, true, true, true, true, true, true, true, true, true]) s (retK Try.prog Try.f16 [.st (.pair (.int .i64) (.pair (.int .i64) (.row (.int .u8)))), .leaf (.val (.int .i64))])) (retK Try.prog Try.f16 [.st (.pair (.int .i64) (.pair (.int .i64) (.row (.int .u8)))), .leaf (.val (.int .i64))])
noncomputable def m16K20 (M : Cut ((Int × (Int × (List Int))) × Int)) (k : Nat) : Exit → St → Option ((Int × (Int × (List Int))) × Int) := seqK (normAt 0 m16A false (m16c [true, true, true, true, true, true, true, true, true, true, false, true])) (cutK M m16A (m16c [true, true, true, true, true, true, true, true, true, true, false, true]) fun s => evC (m16E k) M (m16I k) 0 m16A (m16c [true, true, true, true, true, true, true, true, true, true, false, true]) s (m16K19 M k)) (m16K19 M k)
noncomputable def m16K21 (M : Cut ((Int × (Int × (List Int))) × Int)) (k : Nat) : Exit → St → Option ((Int × (Int × (List Int))) × Int) := seqK (normAt 0 m16A false (m16c [true, true, true, true, true, true, true, true, true, true, false, true, false, true])) (cutK M m16A (m16c [true, true, true, true, true, true, true, true, true, true, false, true, false, true]) fun s => evC (m16E k) M (m16I k) 0 m16A (m16c [true, true, true, true, true, true, true, true, true, true, false, true, false, true]) s (m16K19 M k)) (m16K19 M k)
noncomputable def m16K22 (M : Cut ((Int × (Int × (List Int))) × Int)) (k : Nat) : Exit → St → Option ((Int × (Int × (List Int))) × Int) := seqK (normAt 0 m16A false (m16c [true, true, true, true, true, true, true, true, true, true, true, true])) (cutK M m16A (m16c [true, true, true, true, true, true, true, true, true, true, true, true]) fun s => evC (m16E k) M (m16I k) 0 m16A (m16c [true, true, true, true, true, true, true, true, true, true, true, true]) s (retK Try.prog Try.f16 [.st (.pair (.int .i64) (.pair (.int .i64) (.row (.int .u8)))), .leaf (.val (.int .i64))])) (retK Try.prog Try.f16 [.st (.pair (.int .i64) (.pair (.int .i64) (.row (.int .u8)))), .leaf (.val (.int .i64))])

noncomputable def m16X (k : Nat) (p0 : Int) (p1 : (List Int)) : Option ((Int × (Int × (List Int))) × Int) := (Option.bind (m21F k p0) fun (c4 : Bool) => (if (!c4) = true then some (((0, 0, []), 1)) else (if (!eqI (↑(List.length p1) : Int) (wr IntKind.i64 (p0 + 10))) = true then some (((0, 0, []), 2)) else (Option.bind (m18F k p1) fun (c5 : (Bool × Int)) => (if (!eqI (Prod.snd c5) 0) = true then some (((0, 0, []), 4)) else (if (!Prod.fst c5) = true then some (((0, 0, []), 4)) else (Option.bind (m24F k p1 0 4) fun (c6 : (Int × Int)) => (if leI 0 4 = true then (if ltI 4 (↑(List.length p1) : Int) = true then (if leI 0 5 = true then (if ltI 5 (↑(List.length p1) : Int) = true then (if ltI p0 (wr IntKind.i64 (List.getD p1 5 0)) = true then some (((0, 0, []), 3)) else (if leI 0 (wr IntKind.i64 (6 + wr IntKind.i64 (List.getD p1 5 0))) = true then (if leI (wr IntKind.i64 (6 + wr IntKind.i64 (List.getD p1 5 0))) (↑(List.length p1) : Int) = true then (if leI 0 6 = true then (if leI 6 (wr IntKind.i64 (6 + wr IntKind.i64 (List.getD p1 5 0))) = true then (Option.bind (m25F k (List.drop 6 (List.take (Int.toNat (wr IntKind.i64 (6 + wr IntKind.i64 (List.getD p1 5 0)))) p1))) fun (c7 : (List Int)) => (Option.bind (m10F k p0 (Prod.fst c6, wr IntKind.i64 (List.getD p1 4 0), c7)) fun (c8 : ((List Int) × Int)) => (if (!eqI (Prod.snd c8) 0) = true then some (((0, 0, []), 3)) else (Option.bind (m26F k (Prod.fst c8) p1) fun (c9 : Bool) => (if (!c9) = true then some (((0, 0, []), 3)) else some (((Prod.fst c6, wr IntKind.i64 (List.getD p1 4 0), c7), 0))))))) else none) else none) else none) else none)) else none) else none) else none) else none))))))))

theorem m16x (M : Cut ((Int × (Int × (List Int))) × Int)) (k : Nat) (p0 : Int) (p1 : (List Int)) : evC (m16E k) M (m16I k) 0 m16A (m16c []) (stAt Try.f16 (argSs [.leaf (.val (.int .i64)), .leaf (.val (.row (.int .u8)))] (p0, p1)) (fun _ => none) 0) (retK Try.prog Try.f16 [.st (.pair (.int .i64) (.pair (.int .i64) (.row (.int .u8)))), .leaf (.val (.int .i64))]) = m16X k p0 p1 := by kernel_rfl

noncomputable def m16F (k : Nat) (p0 : Int) (p1 : (List Int)) : Option ((Int × (Int × (List Int))) × Int) := m16X k p0 p1

theorem m16q (k : Nat) (p0 : Int) (p1 : (List Int)) : evC (m16E k) (fun _ f => f) (m16I k) 0 m16A (m16c []) (stAt Try.f16 (argSs [.leaf (.val (.int .i64)), .leaf (.val (.row (.int .u8)))] (p0, p1)) (fun _ => none) 0) (retK Try.prog Try.f16 [.st (.pair (.int .i64) (.pair (.int .i64) (.row (.int .u8)))), .leaf (.val (.int .i64))]) = m16F k p0 p1 := by
    show _ = m16X k p0 p1
    exact m16x (fun _ f => f) k p0 p1

noncomputable def m16sp : Spec := { ps := [.leaf (.val (.int .i64)), .leaf (.val (.row (.int .u8)))], rs := [.st (.pair (.int .i64) (.pair (.int .i64) (.row (.int .u8)))), .leaf (.val (.int .i64))], f := fun k a => m16F k a.1 a.2 }

theorem m16ok (k : Nat) : EnvOk (m16E k) := envOk_of (l := [(10, m10sp), (18, m18sp), (21, m21sp), (24, m24sp), (25, m25sp), (26, m26sp)]) progNames progMixed rfl (.cons ⟨m10con k, Try.f10, by kernel_rfl, by kernel_rfl⟩ (.cons ⟨m18con k, Try.f18, by kernel_rfl, by kernel_rfl⟩ (.cons ⟨m21con k, Try.f21, by kernel_rfl, by kernel_rfl⟩ (.cons ⟨m24con k, Try.f24, by kernel_rfl, by kernel_rfl⟩ (.cons ⟨m25con k, Try.f25, by kernel_rfl, by kernel_rfl⟩ (.cons ⟨m26con k, Try.f26, by kernel_rfl, by kernel_rfl⟩ (.nil)))))))

theorem m16con (k : Nat) : Contract Try.prog k 16 m16sp := contract_of (E := m16E k) (m16ok k) (A := only 16 m16A) (d := 3) (c := m16c []) (by kernel_rfl) (by kernel_rfl) fun a _ h => (m16q k a.1 a.2).trans h

noncomputable def m13A : Anns := tabA []
noncomputable def m13E (k : Nat) : Env := { P := Try.prog, k := k, G := tabG [(10, m10sp), (16, m16sp)] }
noncomputable def m13c (p : List Bool) : Code := sub p (bodyOf Try.f13)
noncomputable def m13I (k : Nat) : Inl Bool := inlOf (m13E k) (only 13 m13A) 3
noncomputable def m13K0 (M : Cut Bool) (k : Nat) : Exit → St → Option Bool := seqK (normAt 0 m13A false (m13c [true])) (cutK M m13A (m13c [true]) fun s => evC (m13E k) M (m13I k) 0 m13A (m13c [true]) s (retK Try.prog Try.f13 [.leaf (.val .bool)])) (retK Try.prog Try.f13 [.leaf (.val .bool)])
noncomputable def m13K1 (M : Cut Bool) (k : Nat) : Exit → St → Option Bool := seqK (normAt 0 m13A false (m13c [true, true])) (cutK M m13A (m13c [true, true]) fun s => evC (m13E k) M (m13I k) 0 m13A (m13c [true, true]) s (retK Try.prog Try.f13 [.leaf (.val .bool)])) (retK Try.prog Try.f13 [.leaf (.val .bool)])
noncomputable def m13K2 (M : Cut Bool) (k : Nat) : Exit → St → Option Bool := seqK (normAt 0 m13A false (m13c [true, true, true])) (cutK M m13A (m13c [true, true, true]) fun s => evC (m13E k) M (m13I k) 0 m13A (m13c [true, true, true]) s (retK Try.prog Try.f13 [.leaf (.val .bool)])) (retK Try.prog Try.f13 [.leaf (.val .bool)])
noncomputable def m13K3 (M : Cut Bool) (k : Nat) : Exit → St → Option Bool := seqK (normAt 0 m13A false (m13c [true, true, true, true])) (cutK M m13A (m13c [true, true, true, true]) fun s => evC (m13E k) M (m13I k) 0 m13A (m13c [true, true, true, true]) s (retK Try.prog Try.f13 [.leaf (.val .bool)])) (retK Try.prog Try.f13 [.leaf (.val .bool)])

noncomputable def m13X (k : Nat) : Option Bool := (Option.bind (m10F k 1 (7, 3, List.set (List.replicate 1 0) 0 120)) fun (c2 : ((List Int) × Int)) => (Option.bind (m16F k 1 (Prod.fst c2)) fun (c3 : ((Int × (Int × (List Int))) × Int)) => (if eqI (Prod.snd c2) 0 = true then (if eqI (Prod.snd c3) 0 = true then (if eqI (↑(List.length (Prod.fst c2)) : Int) 11 = true then (if eqI (Prod.fst (Prod.fst c3)) 7 = true then (if eqI (Prod.fst (Prod.snd (Prod.fst c3))) 3 = true then some (ByteArray.toList (strOf (Prod.snd (Prod.snd (Prod.fst c3)))) == ByteArray.toList (ByteArray.mk #[120])) else some (false)) else some (false)) else some (false)) else some (false)) else some (false))))

theorem m13x (M : Cut Bool) (k : Nat) : evC (m13E k) M (m13I k) 0 m13A (m13c []) (stAt Try.f13 (argSs [] ()) (fun _ => none) 0) (retK Try.prog Try.f13 [.leaf (.val .bool)]) = m13X k := by kernel_rfl

noncomputable def m13F (k : Nat) : Option Bool := m13X k

theorem m13q (k : Nat) : evC (m13E k) (fun _ f => f) (m13I k) 0 m13A (m13c []) (stAt Try.f13 (argSs [] ()) (fun _ => none) 0) (retK Try.prog Try.f13 [.leaf (.val .bool)]) = m13F k := by
    show _ = m13X k
    exact m13x (fun _ f => f) k

noncomputable def m13sp : Spec := { ps := [], rs := [.leaf (.val .bool)], f := fun k a => m13F k }

theorem m13ok (k : Nat) : EnvOk (m13E k) := envOk_of (l := [(10, m10sp), (16, m16sp)]) progNames progMixed rfl (.cons ⟨m10con k, Try.f10, by kernel_rfl, by kernel_rfl⟩ (.cons ⟨m16con k, Try.f16, by kernel_rfl, by kernel_rfl⟩ (.nil)))

theorem m13con (k : Nat) : Contract Try.prog k 13 m13sp := contract_of (E := m13E k) (m13ok k) (A := only 13 m13A) (d := 3) (c := m13c []) (by kernel_rfl) (by kernel_rfl) fun a _ h => (m13q k).trans h

noncomputable def m22A : Anns := tabA [(7, { keep := [0, 5, 6], mat := [(5, (.int .u8), 5)] })]
noncomputable def m22E (k : Nat) : Env := { P := Try.prog, k := k, G := tabG [] }
noncomputable def m22c (p : List Bool) : Code := sub p (bodyOf Try.f22)
noncomputable def m22I (k : Nat) : Inl (List Int) := inlOf (m22E k) (only 22 m22A) 3
noncomputable def m22K0 (M : Cut (List Int)) (k : Nat) : Exit → St → Option (List Int) := seqK (normAt 0 m22A false (m22c [true])) (cutK M m22A (m22c [true]) fun s => evC (m22E k) M (m22I k) 0 m22A (m22c [true]) s (retK Try.prog Try.f22 [.leaf (.own (.int .u8) 5)])) (retK Try.prog Try.f22 [.leaf (.own (.int .u8) 5)])
noncomputable def m22K1 (M : Cut (List Int)) (k : Nat) : Exit → St → Option (List Int) := seqK (normAt 0 m22A false (m22c [true, true])) (cutK M m22A (m22c [true, true]) fun s => evC (m22E k) M (m22I k) 0 m22A (m22c [true, true]) s (retK Try.prog Try.f22 [.leaf (.own (.int .u8) 5)])) (retK Try.prog Try.f22 [.leaf (.own (.int .u8) 5)])
noncomputable def m22K2 (M : Cut (List Int)) (k : Nat) : Exit → St → Option (List Int) := seqK (normAt 0 m22A false (m22c [true, true, true])) (cutK M m22A (m22c [true, true, true]) fun s => evC (m22E k) M (m22I k) 0 m22A (m22c [true, true, true]) s (retK Try.prog Try.f22 [.leaf (.own (.int .u8) 5)])) (retK Try.prog Try.f22 [.leaf (.own (.int .u8) 5)])
noncomputable def m22K3 (M : Cut (List Int)) (k : Nat) : Exit → St → Option (List Int) := seqK (normAt 0 m22A false (m22c [true, true, false, true])) (cutK M m22A (m22c [true, true, false, true]) fun s => evC (m22E k) M (m22I k) 0 m22A (m22c [true, true, false, true]) s (m22K2 M k)) (m22K2 M k)
noncomputable def m22K4 (M : Cut (List Int)) (k : Nat) : Exit → St → Option (List Int) := blockK 0 (m22K2 M k)
noncomputable def m22K5 (M : Cut (List Int)) (k : Nat) (L7 : St → Option (List Int)) : Exit → St → Option (List Int) := seqK (normAt 0 m22A true (m22c [true, true, false, true, true, true])) L7 (m22K4 M k)
noncomputable def m22K6 (M : Cut (List Int)) (k : Nat) (L7 : St → Option (List Int)) : Exit → St → Option (List Int) := seqK (normAt 0 m22A false (m22c [true, true, false, true, true, true, true])) (cutK M m22A (m22c [true, true, false, true, true, true, true]) fun s => evC (m22E k) M (m22I k) 0 m22A (m22c [true, true, false, true, true, true, true]) s (m22K5 M k L7)) (m22K5 M k L7)
noncomputable def m22K7 (M : Cut (List Int)) (k : Nat) (L7 : St → Option (List Int)) : Exit → St → Option (List Int) := seqK (normAt 0 m22A false (m22c [true, true, false, true, true, true, false, true])) (cutK M m22A (m22c [true, true, false, true, true, true, false, true]) fun s => evC (m22E k) M (m22I k) 0 m22A (m22c [true, true, false, true, true, true, false, true]) s (m22K6 M k L7)) (m22K6 M k L7)
noncomputable def m22K8 (M : Cut (List Int)) (k : Nat) (L7 : St → Option (List Int)) : Exit → St → Option (List Int) := seqK (normAt 0 m22A false (m22c [true, true, false, true, true, true, true, true])) (cutK M m22A (m22c [true, true, false, true, true, true, true, true]) fun s => evC (m22E k) M (m22I k) 0 m22A (m22c [true, true, false, true, true, true, true, true]) s (m22K5 M k L7)) (m22K5 M k L7)
noncomputable def m22K9 (M : Cut (List Int)) (k : Nat) (L7 : St → Option (List Int)) : Exit → St → Option (List Int) := blockK 1 (m22K8 M k L7)
noncomputable def m22K10 (M : Cut (List Int)) (k : Nat) : Exit → St → Option (List Int) := seqK (normAt 0 m22A false (m22c [true, true, true, true])) (cutK M m22A (m22c [true, true, true, true]) fun s => evC (m22E k) M (m22I k) 0 m22A (m22c [true, true, true, true]) s (retK Try.prog Try.f22 [.leaf (.own (.int .u8) 5)])) (retK Try.prog Try.f22 [.leaf (.own (.int .u8) 5)])
noncomputable def m22S7 (t0 : Int) (t6 : Int) (b0 : List Int) : St := { n := 23, tm := slots [(0, .int .i64 t0), (5, .own 0), (6, .int .i64 t6)], tab := blks [some (.row true (.int .u8) 5 b0)], nx := 1 }

noncomputable def m22X (X7 : Int → Int → List Int → Option (List Int)) (k : Nat) (p0 : Int) (p1 : Int) : Option (List Int) := X7 p0 (wr IntKind.i64 (p1 - 1)) ([])

theorem m22x (M : Cut (List Int)) (k : Nat) (p0 : Int) (p1 : Int) : evC (m22E k) M (m22I k) 0 m22A (m22c []) (stAt Try.f22 (argSs [.leaf (.val (.int .i64)), .leaf (.val (.int .i64))] (p0, p1)) (fun _ => none) 0) (retK Try.prog Try.f22 [.leaf (.own (.int .u8) 5)]) = m22X (fun t0' t6' b0' => loopN (normAt 0 m22A true (m22c [true, true, false, true, true, true])) (fun K s => evC (m22E k) M (m22I k) 0 m22A (m22c [true, true, false, true, true, true]) s K) (m22K4 M k) k (m22S7 t0' t6' b0')) k p0 p1 := by kernel_rfl

noncomputable def m22X7 (L7 : Int → Int → List Int → Option (List Int)) (k : Nat) (t0 : Int) (t6 : Int) (b0 : List Int) : Option (List Int) := (if leI 0 t6 = true then (if leI 0 (wr IntKind.u64 (wr IntKind.i64 (8 * t6))) = true then (if leI
    (↑((List.length b0 +
            List.length
              (List.set (List.replicate 1 0) 0
                (wr IntKind.u8 (t0 / p2 (min (Int.toNat (wr IntKind.u64 (wr IntKind.i64 (8 * t6)))) 64))))) *
          1) :
      Int)
    140737488355328 =
  true then L7 t0 (wr IntKind.i64 (t6 - 1)) (b0 ++
  List.set (List.replicate 1 0) 0
    (wr IntKind.u8 (t0 / p2 (min (Int.toNat (wr IntKind.u64 (wr IntKind.i64 (8 * t6)))) 64)))) else none) else none) else some b0)

theorem m22x7 (M : Cut (List Int)) (k : Nat) (L7 : St → Option (List Int)) (t0 : Int) (t6 : Int) (b0 : List Int) : evC (m22E k) M (m22I k) 0 m22A (m22c [true, true, false, true, true, true]) (m22S7 t0 t6 b0) (seqK (normAt 0 m22A true (m22c [true, true, false, true, true, true])) L7 (m22K4 M k)) = m22X7 (fun t0' t6' b0' => L7 (m22S7 t0' t6' b0')) k t0 t6 b0 := by kernel_rfl

noncomputable def m22F7 (k : Nat) : Nat → Int → Int → List Int → Option (List Int)
  | 0, _, _, _ => none
  | j + 1, t0, t6, b0 => m22X7 (m22F7 k j) k t0 t6 b0

theorem m22q7 (k : Nat) : ∀ (j : Nat) (t0 : Int) (t6 : Int) (b0 : List Int), loopN (normAt 0 m22A true (m22c [true, true, false, true, true, true])) (fun K s => evC (m22E k) (fun _ f => f) (m22I k) 0 m22A (m22c [true, true, false, true, true, true]) s K) (m22K4 (fun _ f => f) k) j (m22S7 t0 t6 b0) = m22F7 k j t0 t6 b0
  | 0, _, _, _ => rfl
  | j + 1, t0, t6, b0 => by
    have e0 : m22F7 k j = (fun t0' t6' b0' => loopN (normAt 0 m22A true (m22c [true, true, false, true, true, true])) (fun K s => evC (m22E k) (fun _ f => f) (m22I k) 0 m22A (m22c [true, true, false, true, true, true]) s K) (m22K4 (fun _ f => f) k) j (m22S7 t0' t6' b0')) := funext fun t0' => funext fun t6' => funext fun b0' => (m22q7 k j t0' t6' b0').symm
    show _ = m22X7 (m22F7 k j) k t0 t6 b0
    rw [e0]
    exact m22x7 (fun _ f => f) k (loopN (normAt 0 m22A true (m22c [true, true, false, true, true, true])) (fun K s => evC (m22E k) (fun _ f => f) (m22I k) 0 m22A (m22c [true, true, false, true, true, true]) s K) (m22K4 (fun _ f => f) k) j) t0 t6 b0

noncomputable def m22F (k : Nat) (p0 : Int) (p1 : Int) : Option (List Int) := m22X (m22F7 k k) k p0 p1

theorem m22q (k : Nat) (p0 : Int) (p1 : Int) : evC (m22E k) (fun _ f => f) (m22I k) 0 m22A (m22c []) (stAt Try.f22 (argSs [.leaf (.val (.int .i64)), .leaf (.val (.int .i64))] (p0, p1)) (fun _ => none) 0) (retK Try.prog Try.f22 [.leaf (.own (.int .u8) 5)]) = m22F k p0 p1 := by
    have e7 : m22F7 k k = (fun t0' t6' b0' => loopN (normAt 0 m22A true (m22c [true, true, false, true, true, true])) (fun K s => evC (m22E k) (fun _ f => f) (m22I k) 0 m22A (m22c [true, true, false, true, true, true]) s K) (m22K4 (fun _ f => f) k) k (m22S7 t0' t6' b0')) := funext fun t0' => funext fun t6' => funext fun b0' => (m22q7 k k t0' t6' b0').symm
    show _ = m22X (m22F7 k k) k p0 p1
    rw [e7]
    exact m22x (fun _ f => f) k p0 p1

noncomputable def m22sp : Spec := { ps := [.leaf (.val (.int .i64)), .leaf (.val (.int .i64))], rs := [.leaf (.own (.int .u8) 5)], f := fun k a => m22F k a.1 a.2 }

theorem m22ok (k : Nat) : EnvOk (m22E k) := envOk_of (l := []) progNames progMixed rfl (.nil)

theorem m22con (k : Nat) : Contract Try.prog k 22 m22sp := contract_of (E := m22E k) (m22ok k) (A := only 22 m22A) (d := 3) (c := m22c []) (by kernel_rfl) (by kernel_rfl) fun a _ h => (m22q k a.1 a.2).trans h

noncomputable def m32A : Anns := tabA []
noncomputable def m32E (k : Nat) : Env := { P := Try.prog, k := k, G := tabG [] }
noncomputable def m32c (p : List Bool) : Code := sub p (bodyOf Try.f32)
noncomputable def m32I (k : Nat) : Inl Int := inlOf (m32E k) (only 32 m32A) 3
noncomputable def m32K0 (M : Cut Int) (k : Nat) : Exit → St → Option Int := seqK (normAt 0 m32A false (m32c [true])) (cutK M m32A (m32c [true]) fun s => evC (m32E k) M (m32I k) 0 m32A (m32c [true]) s (retK Try.prog Try.f32 [.leaf (.val (.int .i64))])) (retK Try.prog Try.f32 [.leaf (.val (.int .i64))])
noncomputable def m32K1 (M : Cut Int) (k : Nat) : Exit → St → Option Int := seqK (normAt 0 m32A false (m32c [true, true])) (cutK M m32A (m32c [true, true]) fun s => evC (m32E k) M (m32I k) 0 m32A (m32c [true, true]) s (retK Try.prog Try.f32 [.leaf (.val (.int .i64))])) (retK Try.prog Try.f32 [.leaf (.val (.int .i64))])
noncomputable def m32K2 (M : Cut Int) (k : Nat) : Exit → St → Option Int := seqK (normAt 0 m32A false (m32c [true, false, true])) (cutK M m32A (m32c [true, false, true]) fun s => evC (m32E k) M (m32I k) 0 m32A (m32c [true, false, true]) s (m32K1 M k)) (m32K1 M k)
noncomputable def m32K3 (M : Cut Int) (k : Nat) : Exit → St → Option Int := seqK (normAt 0 m32A false (m32c [true, false, true, false, true])) (cutK M m32A (m32c [true, false, true, false, true]) fun s => evC (m32E k) M (m32I k) 0 m32A (m32c [true, false, true, false, true]) s (m32K1 M k)) (m32K1 M k)
noncomputable def m32K4 (M : Cut Int) (k : Nat) : Exit → St → Option Int := seqK (normAt 0 m32A false (m32c [true, true, true])) (cutK M m32A (m32c [true, true, true]) fun s => evC (m32E k) M (m32I k) 0 m32A (m32c [true, true, true]) s (retK Try.prog Try.f32 [.leaf (.val (.int .i64))])) (retK Try.prog Try.f32 [.leaf (.val (.int .i64))])

noncomputable def m32X (k : Nat) (p0 : Int) (p1 : Int) : Option Int := (if (!eqI (bits BinOp.and IntKind.i64 p0 1) p1) = true then (if leI 0 1 = true then some (bits BinOp.xor IntKind.i64 (p0 / 2) 3988292384) else none) else (if leI 0 1 = true then some (p0 / 2) else none))

theorem m32x (M : Cut Int) (k : Nat) (p0 : Int) (p1 : Int) : evC (m32E k) M (m32I k) 0 m32A (m32c []) (stAt Try.f32 (argSs [.leaf (.val (.int .i64)), .leaf (.val (.int .i64))] (p0, p1)) (fun _ => none) 0) (retK Try.prog Try.f32 [.leaf (.val (.int .i64))]) = m32X k p0 p1 := by kernel_rfl

noncomputable def m32F (k : Nat) (p0 : Int) (p1 : Int) : Option Int := m32X k p0 p1

theorem m32q (k : Nat) (p0 : Int) (p1 : Int) : evC (m32E k) (fun _ f => f) (m32I k) 0 m32A (m32c []) (stAt Try.f32 (argSs [.leaf (.val (.int .i64)), .leaf (.val (.int .i64))] (p0, p1)) (fun _ => none) 0) (retK Try.prog Try.f32 [.leaf (.val (.int .i64))]) = m32F k p0 p1 := by
    show _ = m32X k p0 p1
    exact m32x (fun _ f => f) k p0 p1

noncomputable def m32sp : Spec := { ps := [.leaf (.val (.int .i64)), .leaf (.val (.int .i64))], rs := [.leaf (.val (.int .i64))], f := fun k a => m32F k a.1 a.2 }

theorem m32ok (k : Nat) : EnvOk (m32E k) := envOk_of (l := []) progNames progMixed rfl (.nil)

theorem m32con (k : Nat) : Contract Try.prog k 32 m32sp := contract_of (E := m32E k) (m32ok k) (A := only 32 m32A) (d := 3) (c := m32c []) (by kernel_rfl) (by kernel_rfl) fun a _ h => (m32q k a.1 a.2).trans h

noncomputable def m30A : Anns := tabA [(7, { keep := [0, 3, 4] }), (8, { keep := [0, 3, 4] }), (13, { keep := [0, 3, 4, 5] }), (18, { keep := [3] })]
noncomputable def m30E (k : Nat) : Env := { P := Try.prog, k := k, G := tabG [(32, m32sp)] }
noncomputable def m30c (p : List Bool) : Code := sub p (bodyOf Try.f30)
noncomputable def m30I (k : Nat) : Inl Int := inlOf (m30E k) (only 30 m30A) 3
noncomputable def m30K0 (M : Cut Int) (k : Nat) : Exit → St → Option Int := seqK (normAt 0 m30A false (m30c [true])) (cutK M m30A (m30c [true]) fun s => evC (m30E k) M (m30I k) 0 m30A (m30c [true]) s (retK Try.prog Try.f30 [.leaf (.val (.int .i64))])) (retK Try.prog Try.f30 [.leaf (.val (.int .i64))])
noncomputable def m30K1 (M : Cut Int) (k : Nat) : Exit → St → Option Int := seqK (normAt 0 m30A false (m30c [true, true])) (cutK M m30A (m30c [true, true]) fun s => evC (m30E k) M (m30I k) 0 m30A (m30c [true, true]) s (retK Try.prog Try.f30 [.leaf (.val (.int .i64))])) (retK Try.prog Try.f30 [.leaf (.val (.int .i64))])
noncomputable def m30K2 (M : Cut Int) (k : Nat) : Exit → St → Option Int := seqK (normAt 0 m30A false (m30c [true, true, true])) (cutK M m30A (m30c [true, true, true]) fun s => evC (m30E k) M (m30I k) 0 m30A (m30c [true, true, true]) s (retK Try.prog Try.f30 [.leaf (.val (.int .i64))])) (retK Try.prog Try.f30 [.leaf (.val (.int .i64))])
noncomputable def m30K3 (M : Cut Int) (k : Nat) : Exit → St → Option Int := seqK (normAt 0 m30A false (m30c [true, true, false, true])) (cutK M m30A (m30c [true, true, false, true]) fun s => evC (m30E k) M (m30I k) 0 m30A (m30c [true, true, false, true]) s (m30K2 M k)) (m30K2 M k)
noncomputable def m30K4 (M : Cut Int) (k : Nat) : Exit → St → Option Int := blockK 0 (m30K2 M k)
noncomputable def m30K5 (M : Cut Int) (k : Nat) (L7 : St → Option Int) : Exit → St → Option Int := seqK (normAt 0 m30A true (m30c [true, true, false, true, true, true])) L7 (m30K4 M k)
noncomputable def m30K6 (M : Cut Int) (k : Nat) (L7 : St → Option Int) : Exit → St → Option Int := seqK (normAt 0 m30A false (m30c [true, true, false, true, true, true, true])) (cutK M m30A (m30c [true, true, false, true, true, true, true]) fun s => evC (m30E k) M (m30I k) 0 m30A (m30c [true, true, false, true, true, true, true]) s (m30K5 M k L7)) (m30K5 M k L7)
noncomputable def m30K7 (M : Cut Int) (k : Nat) (L7 : St → Option Int) : Exit → St → Option Int := seqK (normAt 0 m30A false (m30c [true, true, false, true, true, true, false, true])) (cutK M m30A (m30c [true, true, false, true, true, true, false, true]) fun s => evC (m30E k) M (m30I k) 0 m30A (m30c [true, true, false, true, true, true, false, true]) s (m30K6 M k L7)) (m30K6 M k L7)
noncomputable def m30K8 (M : Cut Int) (k : Nat) (L7 : St → Option Int) : Exit → St → Option Int := seqK (normAt 0 m30A false (m30c [true, true, false, true, true, true, true, true])) (cutK M m30A (m30c [true, true, false, true, true, true, true, true]) fun s => evC (m30E k) M (m30I k) 0 m30A (m30c [true, true, false, true, true, true, true, true]) s (m30K5 M k L7)) (m30K5 M k L7)
noncomputable def m30K9 (M : Cut Int) (k : Nat) (L7 : St → Option Int) : Exit → St → Option Int := blockK 1 (m30K8 M k L7)
noncomputable def m30K10 (M : Cut Int) (k : Nat) (L7 : St → Option Int) : Exit → St → Option Int := seqK (normAt 0 m30A false (m30c [true, true, false, true, true, true, true, false, true, true])) (cutK M m30A (m30c [true, true, false, true, true, true, true, false, true, true]) fun s => evC (m30E k) M (m30I k) 0 m30A (m30c [true, true, false, true, true, true, true, false, true, true]) s (m30K9 M k L7)) (m30K9 M k L7)
noncomputable def m30K11 (M : Cut Int) (k : Nat) (L7 : St → Option Int) : Exit → St → Option Int := blockK 2 (m30K9 M k L7)
noncomputable def m30K12 (M : Cut Int) (k : Nat) (L7 : St → Option Int) (L13 : St → Option Int) : Exit → St → Option Int := seqK (normAt 0 m30A true (m30c [true, true, false, true, true, true, true, false, true, true, true, true])) L13 (m30K11 M k L7)
noncomputable def m30K13 (M : Cut Int) (k : Nat) (L7 : St → Option Int) (L13 : St → Option Int) : Exit → St → Option Int := seqK (normAt 0 m30A false (m30c [true, true, false, true, true, true, true, false, true, true, true, true, true])) (cutK M m30A (m30c [true, true, false, true, true, true, true, false, true, true, true, true, true]) fun s => evC (m30E k) M (m30I k) 0 m30A (m30c [true, true, false, true, true, true, true, false, true, true, true, true, true]) s (m30K12 M k L7 L13)) (m30K12 M k L7 L13)
noncomputable def m30K14 (M : Cut Int) (k : Nat) (L7 : St → Option Int) (L13 : St → Option Int) : Exit → St → Option Int := seqK (normAt 0 m30A false (m30c [true, true, false, true, true, true, true, false, true, true, true, true, false, true])) (cutK M m30A (m30c [true, true, false, true, true, true, true, false, true, true, true, true, false, true]) fun s => evC (m30E k) M (m30I k) 0 m30A (m30c [true, true, false, true, true, true, true, false, true, true, true, true, false, true]) s (m30K13 M k L7 L13)) (m30K13 M k L7 L13)
noncomputable def m30K15 (M : Cut Int) (k : Nat) (L7 : St → Option Int) (L13 : St → Option Int) : Exit → St → Option Int := seqK (normAt 0 m30A false (m30c [true, true, false, true, true, true, true, false, true, true, true, true, true, true])) (cutK M m30A (m30c [true, true, false, true, true, true, true, false, true, true, true, true, true, true]) fun s => evC (m30E k) M (m30I k) 0 m30A (m30c [true, true, false, true, true, true, true, false, true, true, true, true, true, true]) s (m30K12 M k L7 L13)) (m30K12 M k L7 L13)
noncomputable def m30K16 (M : Cut Int) (k : Nat) (L7 : St → Option Int) (L13 : St → Option Int) : Exit → St → Option Int := blockK 3 (m30K15 M k L7 L13)
noncomputable def m30K17 (M : Cut Int) (k : Nat) : Exit → St → Option Int := seqK (normAt 0 m30A false (m30c [true, true, true, true])) (cutK M m30A (m30c [true, true, true, true]) fun s => evC (m30E k) M (m30I k) 0 m30A (m30c [true, true, true, true]) s (retK Try.prog Try.f30 [.leaf (.val (.int .i64))])) (retK Try.prog Try.f30 [.leaf (.val (.int .i64))])
noncomputable def m30S7 (t0 : List Int) (t3 : Int) (t4 : Int) : St := { n := 29, tm := slots [(0, .row (.int .u8) t0), (3, .int .i64 t3), (4, .int .i64 t4)], tab := blks [], nx := 0 }
noncomputable def m30S13 (t0 : List Int) (t3 : Int) (t4 : Int) (t5 : Int) : St := { n := 29, tm := slots [(0, .row (.int .u8) t0), (3, .int .i64 t3), (4, .int .i64 t4), (5, .int .i64 t5)], tab := blks [], nx := 0 }
noncomputable def m30S18 (t3 : Int) : St := { n := 29, tm := slots [(3, .int .i64 t3)], tab := blks [], nx := 0 }
noncomputable def m30S8 (t0 : List Int) (t3 : Int) (t4 : Int) : St := { n := 29, tm := slots [(0, .row (.int .u8) t0), (3, .int .i64 t3), (4, .int .i64 t4)], tab := blks [], nx := 0 }

noncomputable def m30X (X7 : List Int → Int → Int → Option Int) (k : Nat) (p0 : (List Int)) : Option Int := X7 p0 (4294967295) (0)

theorem m30x (M : Cut Int) (k : Nat) (p0 : (List Int)) : evC (m30E k) M (m30I k) 0 m30A (m30c []) (stAt Try.f30 (argSs [.leaf (.val (.row (.int .u8)))] p0) (fun _ => none) 0) (retK Try.prog Try.f30 [.leaf (.val (.int .i64))]) = m30X (fun t0' t3' t4' => loopN (normAt 0 m30A true (m30c [true, true, false, true, true, true])) (fun K s => evC (m30E k) M (m30I k) 0 m30A (m30c [true, true, false, true, true, true]) s K) (m30K4 M k) k (m30S7 t0' t3' t4')) k p0 := by kernel_rfl

noncomputable def m30X7 (X13 : List Int → Int → Int → Int → Option Int) (X18 : Int → Option Int) (k : Nat) (t0 : List Int) (t3 : Int) (t4 : Int) : Option Int := (if ltI t4 (↑(List.length t0) : Int) = true then X13 t0 t3 t4 (0) else X18 t3)

theorem m30x7 (M : Cut Int) (k : Nat) (L7 : St → Option Int) (t0 : List Int) (t3 : Int) (t4 : Int) : evC (m30E k) M (m30I k) 0 m30A (m30c [true, true, false, true, true, true]) (m30S7 t0 t3 t4) (seqK (normAt 0 m30A true (m30c [true, true, false, true, true, true])) L7 (m30K4 M k)) = m30X7 (fun t0' t3' t4' t5' => loopN (normAt 0 m30A true (m30c [true, true, false, true, true, true, true, false, true, true, true, true])) (fun K s => evC (m30E k) M (m30I k) 0 m30A (m30c [true, true, false, true, true, true, true, false, true, true, true, true]) s K) (m30K11 M k L7) k (m30S13 t0' t3' t4' t5')) (fun t3' => M 18 (fun s => evC (m30E k) M (m30I k) 0 m30A (m30c [true, true, true]) s (retK Try.prog Try.f30 [.leaf (.val (.int .i64))])) (m30S18 t3')) k t0 t3 t4 := by kernel_rfl

noncomputable def m30X13 (X8 : List Int → Int → Int → Option Int) (L13 : List Int → Int → Int → Int → Option Int) (k : Nat) (t0 : List Int) (t3 : Int) (t4 : Int) (t5 : Int) : Option Int := (if ltI t5 8 = true then (if leI 0 t4 = true then (if ltI t4 (↑(List.length t0) : Int) = true then (if leI 0 (wr IntKind.u64 t5) = true then (Option.bind (m32F k t3
  (bits BinOp.and IntKind.i64
    (wr IntKind.i64 (List.getD t0 (Int.toNat t4) 0 / p2 (min (Int.toNat (wr IntKind.u64 t5)) 8))) 1)) fun (c8 : Int) => L13 t0 c8 t4 (wr IntKind.i64 (t5 + 1))) else none) else none) else none) else X8 t0 t3 t4)

theorem m30x13 (M : Cut Int) (k : Nat) (L7 : St → Option Int) (L13 : St → Option Int) (t0 : List Int) (t3 : Int) (t4 : Int) (t5 : Int) : evC (m30E k) M (m30I k) 0 m30A (m30c [true, true, false, true, true, true, true, false, true, true, true, true]) (m30S13 t0 t3 t4 t5) (seqK (normAt 0 m30A true (m30c [true, true, false, true, true, true, true, false, true, true, true, true])) L13 (m30K11 M k L7)) = m30X13 (fun t0' t3' t4' => M 8 (fun s => evC (m30E k) M (m30I k) 0 m30A (m30c [true, true, false, true, true, true, true, true]) s (m30K5 M k L7)) (m30S8 t0' t3' t4')) (fun t0' t3' t4' t5' => L13 (m30S13 t0' t3' t4' t5')) k t0 t3 t4 t5 := by kernel_rfl

noncomputable def m30X18 (k : Nat) (t3 : Int) : Option Int := some (bits BinOp.xor IntKind.i64 t3 4294967295)

theorem m30x18 (M : Cut Int) (k : Nat) (t3 : Int) : evC (m30E k) M (m30I k) 0 m30A (m30c [true, true, true]) (m30S18 t3) (retK Try.prog Try.f30 [.leaf (.val (.int .i64))]) = m30X18 k t3 := by kernel_rfl

noncomputable def m30X8 (L7 : List Int → Int → Int → Option Int) (k : Nat) (t0 : List Int) (t3 : Int) (t4 : Int) : Option Int := L7 t0 t3 (wr IntKind.i64 (t4 + 1))

theorem m30x8 (M : Cut Int) (k : Nat) (L7 : St → Option Int) (t0 : List Int) (t3 : Int) (t4 : Int) : evC (m30E k) M (m30I k) 0 m30A (m30c [true, true, false, true, true, true, true, true]) (m30S8 t0 t3 t4) (m30K5 M k L7) = m30X8 (fun t0' t3' t4' => L7 (m30S7 t0' t3' t4')) k t0 t3 t4 := by kernel_rfl

noncomputable def m30F18 (k : Nat) (t3 : Int) : Option Int := m30X18 k t3

theorem m30q18 (k : Nat) (t3 : Int) : evC (m30E k) (fun _ f => f) (m30I k) 0 m30A (m30c [true, true, true]) (m30S18 t3) (retK Try.prog Try.f30 [.leaf (.val (.int .i64))]) = m30F18 k t3 := by
    show _ = m30X18 k t3
    exact m30x18 (fun _ f => f) k t3

noncomputable def m30F8 (k : Nat) (L7 : List Int → Int → Int → Option Int) (t0 : List Int) (t3 : Int) (t4 : Int) : Option Int := m30X8 L7 k t0 t3 t4

theorem m30q8 (k : Nat) (L7 : St → Option Int) (t0 : List Int) (t3 : Int) (t4 : Int) : evC (m30E k) (fun _ f => f) (m30I k) 0 m30A (m30c [true, true, false, true, true, true, true, true]) (m30S8 t0 t3 t4) (m30K5 (fun _ f => f) k L7) = m30F8 k (fun t0' t3' t4' => L7 (m30S7 t0' t3' t4')) t0 t3 t4 := by
    show _ = m30X8 (fun t0' t3' t4' => L7 (m30S7 t0' t3' t4')) k t0 t3 t4
    exact m30x8 (fun _ f => f) k L7 t0 t3 t4

noncomputable def m30F13 (k : Nat) (L7 : List Int → Int → Int → Option Int) : Nat → List Int → Int → Int → Int → Option Int
  | 0, _, _, _, _ => none
  | j + 1, t0, t3, t4, t5 => m30X13 (m30F8 k L7) (m30F13 k L7 j) k t0 t3 t4 t5

theorem m30q13 (k : Nat) (L7 : St → Option Int) : ∀ (j : Nat) (t0 : List Int) (t3 : Int) (t4 : Int) (t5 : Int), loopN (normAt 0 m30A true (m30c [true, true, false, true, true, true, true, false, true, true, true, true])) (fun K s => evC (m30E k) (fun _ f => f) (m30I k) 0 m30A (m30c [true, true, false, true, true, true, true, false, true, true, true, true]) s K) (m30K11 (fun _ f => f) k L7) j (m30S13 t0 t3 t4 t5) = m30F13 k (fun t0' t3' t4' => L7 (m30S7 t0' t3' t4')) j t0 t3 t4 t5
  | 0, _, _, _, _ => rfl
  | j + 1, t0, t3, t4, t5 => by
    have e0 : m30F13 k (fun t0' t3' t4' => L7 (m30S7 t0' t3' t4')) j = (fun t0' t3' t4' t5' => loopN (normAt 0 m30A true (m30c [true, true, false, true, true, true, true, false, true, true, true, true])) (fun K s => evC (m30E k) (fun _ f => f) (m30I k) 0 m30A (m30c [true, true, false, true, true, true, true, false, true, true, true, true]) s K) (m30K11 (fun _ f => f) k L7) j (m30S13 t0' t3' t4' t5')) := funext fun t0' => funext fun t3' => funext fun t4' => funext fun t5' => (m30q13 k L7 j t0' t3' t4' t5').symm
    have e8 : m30F8 k (fun t0' t3' t4' => L7 (m30S7 t0' t3' t4')) = (fun t0' t3' t4' => evC (m30E k) (fun _ f => f) (m30I k) 0 m30A (m30c [true, true, false, true, true, true, true, true]) (m30S8 t0' t3' t4') (m30K5 (fun _ f => f) k L7)) := funext fun t0' => funext fun t3' => funext fun t4' => (m30q8 k L7 t0' t3' t4').symm
    show _ = m30X13 (m30F8 k (fun t0' t3' t4' => L7 (m30S7 t0' t3' t4'))) (m30F13 k (fun t0' t3' t4' => L7 (m30S7 t0' t3' t4')) j) k t0 t3 t4 t5
    rw [e0, e8]
    exact m30x13 (fun _ f => f) k L7 (loopN (normAt 0 m30A true (m30c [true, true, false, true, true, true, true, false, true, true, true, true])) (fun K s => evC (m30E k) (fun _ f => f) (m30I k) 0 m30A (m30c [true, true, false, true, true, true, true, false, true, true, true, true]) s K) (m30K11 (fun _ f => f) k L7) j) t0 t3 t4 t5

noncomputable def m30F7 (k : Nat) : Nat → List Int → Int → Int → Option Int
  | 0, _, _, _ => none
  | j + 1, t0, t3, t4 => m30X7 (m30F13 k (m30F7 k j) k) (m30F18 k) k t0 t3 t4

theorem m30q7 (k : Nat) : ∀ (j : Nat) (t0 : List Int) (t3 : Int) (t4 : Int), loopN (normAt 0 m30A true (m30c [true, true, false, true, true, true])) (fun K s => evC (m30E k) (fun _ f => f) (m30I k) 0 m30A (m30c [true, true, false, true, true, true]) s K) (m30K4 (fun _ f => f) k) j (m30S7 t0 t3 t4) = m30F7 k j t0 t3 t4
  | 0, _, _, _ => rfl
  | j + 1, t0, t3, t4 => by
    have e0 : m30F7 k j = (fun t0' t3' t4' => loopN (normAt 0 m30A true (m30c [true, true, false, true, true, true])) (fun K s => evC (m30E k) (fun _ f => f) (m30I k) 0 m30A (m30c [true, true, false, true, true, true]) s K) (m30K4 (fun _ f => f) k) j (m30S7 t0' t3' t4')) := funext fun t0' => funext fun t3' => funext fun t4' => (m30q7 k j t0' t3' t4').symm
    have e13 : m30F13 k (fun t0' t3' t4' => loopN (normAt 0 m30A true (m30c [true, true, false, true, true, true])) (fun K s => evC (m30E k) (fun _ f => f) (m30I k) 0 m30A (m30c [true, true, false, true, true, true]) s K) (m30K4 (fun _ f => f) k) j (m30S7 t0' t3' t4')) k = (fun t0' t3' t4' t5' => loopN (normAt 0 m30A true (m30c [true, true, false, true, true, true, true, false, true, true, true, true])) (fun K s => evC (m30E k) (fun _ f => f) (m30I k) 0 m30A (m30c [true, true, false, true, true, true, true, false, true, true, true, true]) s K) (m30K11 (fun _ f => f) k (loopN (normAt 0 m30A true (m30c [true, true, false, true, true, true])) (fun K s => evC (m30E k) (fun _ f => f) (m30I k) 0 m30A (m30c [true, true, false, true, true, true]) s K) (m30K4 (fun _ f => f) k) j)) k (m30S13 t0' t3' t4' t5')) := funext fun t0' => funext fun t3' => funext fun t4' => funext fun t5' => (m30q13 k (loopN (normAt 0 m30A true (m30c [true, true, false, true, true, true])) (fun K s => evC (m30E k) (fun _ f => f) (m30I k) 0 m30A (m30c [true, true, false, true, true, true]) s K) (m30K4 (fun _ f => f) k) j) k t0' t3' t4' t5').symm
    have e18 : m30F18 k = (fun t3' => evC (m30E k) (fun _ f => f) (m30I k) 0 m30A (m30c [true, true, true]) (m30S18 t3') (retK Try.prog Try.f30 [.leaf (.val (.int .i64))])) := funext fun t3' => (m30q18 k t3').symm
    show _ = m30X7 (m30F13 k (m30F7 k j) k) (m30F18 k) k t0 t3 t4
    rw [e0, e13, e18]
    exact m30x7 (fun _ f => f) k (loopN (normAt 0 m30A true (m30c [true, true, false, true, true, true])) (fun K s => evC (m30E k) (fun _ f => f) (m30I k) 0 m30A (m30c [true, true, false, true, true, true]) s K) (m30K4 (fun _ f => f) k) j) t0 t3 t4

noncomputable def m30F (k : Nat) (p0 : (List Int)) : Option Int := m30X (m30F7 k k) k p0

theorem m30q (k : Nat) (p0 : (List Int)) : evC (m30E k) (fun _ f => f) (m30I k) 0 m30A (m30c []) (stAt Try.f30 (argSs [.leaf (.val (.row (.int .u8)))] p0) (fun _ => none) 0) (retK Try.prog Try.f30 [.leaf (.val (.int .i64))]) = m30F k p0 := by
    have e7 : m30F7 k k = (fun t0' t3' t4' => loopN (normAt 0 m30A true (m30c [true, true, false, true, true, true])) (fun K s => evC (m30E k) (fun _ f => f) (m30I k) 0 m30A (m30c [true, true, false, true, true, true]) s K) (m30K4 (fun _ f => f) k) k (m30S7 t0' t3' t4')) := funext fun t0' => funext fun t3' => funext fun t4' => (m30q7 k k t0' t3' t4').symm
    show _ = m30X (m30F7 k k) k p0
    rw [e7]
    exact m30x (fun _ f => f) k p0

noncomputable def m30sp : Spec := { ps := [.leaf (.val (.row (.int .u8)))], rs := [.leaf (.val (.int .i64))], f := fun k a => m30F k a }

theorem m30ok (k : Nat) : EnvOk (m30E k) := envOk_of (l := [(32, m32sp)]) progNames progMixed rfl (.cons ⟨m32con k, Try.f32, by kernel_rfl, by kernel_rfl⟩ (.nil))

theorem m30con (k : Nat) : Contract Try.prog k 30 m30sp := contract_of (E := m30E k) (m30ok k) (A := only 30 m30A) (d := 3) (c := m30c []) (by kernel_rfl) (by kernel_rfl) fun a _ h => (m30q k a).trans h

noncomputable def m23A : Anns := tabA []
noncomputable def m23E (k : Nat) : Env := { P := Try.prog, k := k, G := tabG [(8, m8sp), (30, m30sp)] }
noncomputable def m23c (p : List Bool) : Code := sub p (bodyOf Try.f23)
noncomputable def m23I (k : Nat) : Inl (List Int) := inlOf (m23E k) (only 23 m23A) 3
noncomputable def m23K0 (M : Cut (List Int)) (k : Nat) : Exit → St → Option (List Int) := seqK (normAt 0 m23A false (m23c [true])) (cutK M m23A (m23c [true]) fun s => evC (m23E k) M (m23I k) 0 m23A (m23c [true]) s (retK Try.prog Try.f23 [.leaf (.own (.int .u8) 5)])) (retK Try.prog Try.f23 [.leaf (.own (.int .u8) 5)])
noncomputable def m23K1 (M : Cut (List Int)) (k : Nat) : Exit → St → Option (List Int) := seqK (normAt 0 m23A false (m23c [true, true])) (cutK M m23A (m23c [true, true]) fun s => evC (m23E k) M (m23I k) 0 m23A (m23c [true, true]) s (retK Try.prog Try.f23 [.leaf (.own (.int .u8) 5)])) (retK Try.prog Try.f23 [.leaf (.own (.int .u8) 5)])
noncomputable def m23K2 (M : Cut (List Int)) (k : Nat) : Exit → St → Option (List Int) := seqK (normAt 0 m23A false (m23c [true, true, true])) (cutK M m23A (m23c [true, true, true]) fun s => evC (m23E k) M (m23I k) 0 m23A (m23c [true, true, true]) s (retK Try.prog Try.f23 [.leaf (.own (.int .u8) 5)])) (retK Try.prog Try.f23 [.leaf (.own (.int .u8) 5)])

noncomputable def m23X (k : Nat) (p0 : (List Int)) : Option (List Int) := (Option.bind (m30F k p0) fun (c3 : Int) => (Option.bind (m8F k p0) fun (c4 : (List Int)) => (if leI 0 8 = true then (if leI 0 16 = true then (if leI 0 24 = true then (if leI
    (↑((List.length c4 +
            List.length
              (List.set
                (List.set (List.set (List.set (List.replicate 4 0) 0 (wr IntKind.u8 c3)) 1 (wr IntKind.u8 (c3 / 256))) 2
                  (wr IntKind.u8 (c3 / 65536)))
                3 (wr IntKind.u8 (c3 / 16777216)))) *
          1) :
      Int)
    140737488355328 =
  true then some (c4 ++
  List.set
    (List.set (List.set (List.set (List.replicate 4 0) 0 (wr IntKind.u8 c3)) 1 (wr IntKind.u8 (c3 / 256))) 2
      (wr IntKind.u8 (c3 / 65536)))
    3 (wr IntKind.u8 (c3 / 16777216))) else none) else none) else none) else none)))

theorem m23x (M : Cut (List Int)) (k : Nat) (p0 : (List Int)) : evC (m23E k) M (m23I k) 0 m23A (m23c []) (stAt Try.f23 (argSs [.leaf (.val (.row (.int .u8)))] p0) (fun _ => none) 0) (retK Try.prog Try.f23 [.leaf (.own (.int .u8) 5)]) = m23X k p0 := by kernel_rfl

noncomputable def m23F (k : Nat) (p0 : (List Int)) : Option (List Int) := m23X k p0

theorem m23q (k : Nat) (p0 : (List Int)) : evC (m23E k) (fun _ f => f) (m23I k) 0 m23A (m23c []) (stAt Try.f23 (argSs [.leaf (.val (.row (.int .u8)))] p0) (fun _ => none) 0) (retK Try.prog Try.f23 [.leaf (.own (.int .u8) 5)]) = m23F k p0 := by
    show _ = m23X k p0
    exact m23x (fun _ f => f) k p0

noncomputable def m23sp : Spec := { ps := [.leaf (.val (.row (.int .u8)))], rs := [.leaf (.own (.int .u8) 5)], f := fun k a => m23F k a }

theorem m23ok (k : Nat) : EnvOk (m23E k) := envOk_of (l := [(8, m8sp), (30, m30sp)]) progNames progMixed rfl (.cons ⟨m8con k, Try.f8, by kernel_rfl, by kernel_rfl⟩ (.cons ⟨m30con k, Try.f30, by kernel_rfl, by kernel_rfl⟩ (.nil)))

theorem m23con (k : Nat) : Contract Try.prog k 23 m23sp := contract_of (E := m23E k) (m23ok k) (A := only 23 m23A) (d := 3) (c := m23c []) (by kernel_rfl) (by kernel_rfl) fun a _ h => (m23q k a).trans h

noncomputable def m15A : Anns := tabA [(7, { keep := [0, 5] }), (10, { keep := [5] })]
noncomputable def m15E (k : Nat) : Env := { P := Try.prog, k := k, G := tabG [(22, m22sp), (23, m23sp)] }
noncomputable def m15c (p : List Bool) : Code := sub p (bodyOf Try.f15)
noncomputable def m15I (k : Nat) : Inl (List Int) := inlOf (m15E k) (only 15 m15A) 3
noncomputable def m15K0 (M : Cut (List Int)) (k : Nat) : Exit → St → Option (List Int) := seqK (normAt 0 m15A false (m15c [true])) (cutK M m15A (m15c [true]) fun s => evC (m15E k) M (m15I k) 0 m15A (m15c [true]) s (retK Try.prog Try.f15 [.leaf (.own (.int .u8) 5)])) (retK Try.prog Try.f15 [.leaf (.own (.int .u8) 5)])
noncomputable def m15K1 (M : Cut (List Int)) (k : Nat) : Exit → St → Option (List Int) := seqK (normAt 0 m15A false (m15c [true, true])) (cutK M m15A (m15c [true, true]) fun s => evC (m15E k) M (m15I k) 0 m15A (m15c [true, true]) s (retK Try.prog Try.f15 [.leaf (.own (.int .u8) 5)])) (retK Try.prog Try.f15 [.leaf (.own (.int .u8) 5)])
noncomputable def m15K2 (M : Cut (List Int)) (k : Nat) : Exit → St → Option (List Int) := seqK (normAt 0 m15A false (m15c [true, true, true])) (cutK M m15A (m15c [true, true, true]) fun s => evC (m15E k) M (m15I k) 0 m15A (m15c [true, true, true]) s (retK Try.prog Try.f15 [.leaf (.own (.int .u8) 5)])) (retK Try.prog Try.f15 [.leaf (.own (.int .u8) 5)])
noncomputable def m15K3 (M : Cut (List Int)) (k : Nat) : Exit → St → Option (List Int) := seqK (normAt 0 m15A false (m15c [true, true, true, true])) (cutK M m15A (m15c [true, true, true, true]) fun s => evC (m15E k) M (m15I k) 0 m15A (m15c [true, true, true, true]) s (retK Try.prog Try.f15 [.leaf (.own (.int .u8) 5)])) (retK Try.prog Try.f15 [.leaf (.own (.int .u8) 5)])
noncomputable def m15K4 (M : Cut (List Int)) (k : Nat) : Exit → St → Option (List Int) := blockK 0 (m15K3 M k)
noncomputable def m15K5 (M : Cut (List Int)) (k : Nat) (L7 : St → Option (List Int)) : Exit → St → Option (List Int) := seqK (normAt 0 m15A true (m15c [true, true, true, false, true, true])) L7 (m15K4 M k)
noncomputable def m15K6 (M : Cut (List Int)) (k : Nat) (L7 : St → Option (List Int)) : Exit → St → Option (List Int) := seqK (normAt 0 m15A false (m15c [true, true, true, false, true, true, true])) (cutK M m15A (m15c [true, true, true, false, true, true, true]) fun s => evC (m15E k) M (m15I k) 0 m15A (m15c [true, true, true, false, true, true, true]) s (m15K5 M k L7)) (m15K5 M k L7)
noncomputable def m15K7 (M : Cut (List Int)) (k : Nat) (L7 : St → Option (List Int)) : Exit → St → Option (List Int) := seqK (normAt 0 m15A false (m15c [true, true, true, false, true, true, false, true])) (cutK M m15A (m15c [true, true, true, false, true, true, false, true]) fun s => evC (m15E k) M (m15I k) 0 m15A (m15c [true, true, true, false, true, true, false, true]) s (m15K6 M k L7)) (m15K6 M k L7)
noncomputable def m15K8 (M : Cut (List Int)) (k : Nat) (L7 : St → Option (List Int)) : Exit → St → Option (List Int) := blockK 1 (m15K5 M k L7)
noncomputable def m15K9 (M : Cut (List Int)) (k : Nat) : Exit → St → Option (List Int) := seqK (normAt 0 m15A false (m15c [true, true, true, true, true])) (cutK M m15A (m15c [true, true, true, true, true]) fun s => evC (m15E k) M (m15I k) 0 m15A (m15c [true, true, true, true, true]) s (retK Try.prog Try.f15 [.leaf (.own (.int .u8) 5)])) (retK Try.prog Try.f15 [.leaf (.own (.int .u8) 5)])
noncomputable def m15S7 (t0 : Int) (b0 : List Int) : St := { n := 32, tm := slots [(0, .int .i64 t0), (5, .own 0)], tab := blks [some (.row true (.int .u8) 5 b0)], nx := 1 }
noncomputable def m15S10 (b0 : List Int) : St := { n := 32, tm := slots [(5, .own 0)], tab := blks [some (.row true (.int .u8) 5 b0)], nx := 1 }

noncomputable def m15X (X7 : Int → List Int → Option (List Int)) (k : Nat) (p0 : Int) (p1 : (Int × (Int × (List Int)))) : Option (List Int) := (Option.bind (m22F k (Prod.fst p1) 4) fun (c4 : (List Int)) => (if leI
    (↑((List.length c4 +
            List.length
              (List.set (List.set (List.replicate 2 0) 0 (wr IntKind.u8 (Prod.fst (Prod.snd p1)))) 1
                (wr IntKind.u8 (↑(List.length (Prod.snd (Prod.snd p1))) : Int)))) *
          1) :
      Int)
    140737488355328 =
  true then (if leI
    (↑((List.length
              (c4 ++
                List.set (List.set (List.replicate 2 0) 0 (wr IntKind.u8 (Prod.fst (Prod.snd p1)))) 1
                  (wr IntKind.u8 (↑(List.length (Prod.snd (Prod.snd p1))) : Int))) +
            List.length (Prod.snd (Prod.snd p1))) *
          1) :
      Int)
    140737488355328 =
  true then X7 p0 (c4 ++
    List.set (List.set (List.replicate 2 0) 0 (wr IntKind.u8 (Prod.fst (Prod.snd p1)))) 1
      (wr IntKind.u8 (↑(List.length (Prod.snd (Prod.snd p1))) : Int)) ++
  Prod.snd (Prod.snd p1)) else none) else none))

theorem m15x (M : Cut (List Int)) (k : Nat) (p0 : Int) (p1 : (Int × (Int × (List Int)))) : evC (m15E k) M (m15I k) 0 m15A (m15c []) (stAt Try.f15 (argSs [.leaf (.val (.int .i64)), .st (.pair (.int .i64) (.pair (.int .i64) (.row (.int .u8))))] (p0, p1)) (fun _ => none) 0) (retK Try.prog Try.f15 [.leaf (.own (.int .u8) 5)]) = m15X (fun t0' b0' => loopN (normAt 0 m15A true (m15c [true, true, true, false, true, true])) (fun K s => evC (m15E k) M (m15I k) 0 m15A (m15c [true, true, true, false, true, true]) s K) (m15K4 M k) k (m15S7 t0' b0')) k p0 p1 := by kernel_rfl

noncomputable def m15X7 (X10 : List Int → Option (List Int)) (L7 : Int → List Int → Option (List Int)) (k : Nat) (t0 : Int) (b0 : List Int) : Option (List Int) := (if ltI (↑(List.length b0) : Int) (wr IntKind.i64 (t0 + 6)) = true then (if leI (↑((List.length b0 + 1) * 1) : Int) 140737488355328 = true then L7 t0 (b0 ++ List.set (List.replicate 1 0) 0 0) else none) else X10 b0)

theorem m15x7 (M : Cut (List Int)) (k : Nat) (L7 : St → Option (List Int)) (t0 : Int) (b0 : List Int) : evC (m15E k) M (m15I k) 0 m15A (m15c [true, true, true, false, true, true]) (m15S7 t0 b0) (seqK (normAt 0 m15A true (m15c [true, true, true, false, true, true])) L7 (m15K4 M k)) = m15X7 (fun b0' => M 10 (fun s => evC (m15E k) M (m15I k) 0 m15A (m15c [true, true, true, true]) s (retK Try.prog Try.f15 [.leaf (.own (.int .u8) 5)])) (m15S10 b0')) (fun t0' b0' => L7 (m15S7 t0' b0')) k t0 b0 := by kernel_rfl

noncomputable def m15X10 (k : Nat) (b0 : List Int) : Option (List Int) := (Option.bind (m23F k b0) fun (c3 : (List Int)) => some c3)

theorem m15x10 (M : Cut (List Int)) (k : Nat) (b0 : List Int) : evC (m15E k) M (m15I k) 0 m15A (m15c [true, true, true, true]) (m15S10 b0) (retK Try.prog Try.f15 [.leaf (.own (.int .u8) 5)]) = m15X10 k b0 := by kernel_rfl

noncomputable def m15F10 (k : Nat) (b0 : List Int) : Option (List Int) := m15X10 k b0

theorem m15q10 (k : Nat) (b0 : List Int) : evC (m15E k) (fun _ f => f) (m15I k) 0 m15A (m15c [true, true, true, true]) (m15S10 b0) (retK Try.prog Try.f15 [.leaf (.own (.int .u8) 5)]) = m15F10 k b0 := by
    show _ = m15X10 k b0
    exact m15x10 (fun _ f => f) k b0

noncomputable def m15F7 (k : Nat) : Nat → Int → List Int → Option (List Int)
  | 0, _, _ => none
  | j + 1, t0, b0 => m15X7 (m15F10 k) (m15F7 k j) k t0 b0

theorem m15q7 (k : Nat) : ∀ (j : Nat) (t0 : Int) (b0 : List Int), loopN (normAt 0 m15A true (m15c [true, true, true, false, true, true])) (fun K s => evC (m15E k) (fun _ f => f) (m15I k) 0 m15A (m15c [true, true, true, false, true, true]) s K) (m15K4 (fun _ f => f) k) j (m15S7 t0 b0) = m15F7 k j t0 b0
  | 0, _, _ => rfl
  | j + 1, t0, b0 => by
    have e0 : m15F7 k j = (fun t0' b0' => loopN (normAt 0 m15A true (m15c [true, true, true, false, true, true])) (fun K s => evC (m15E k) (fun _ f => f) (m15I k) 0 m15A (m15c [true, true, true, false, true, true]) s K) (m15K4 (fun _ f => f) k) j (m15S7 t0' b0')) := funext fun t0' => funext fun b0' => (m15q7 k j t0' b0').symm
    have e10 : m15F10 k = (fun b0' => evC (m15E k) (fun _ f => f) (m15I k) 0 m15A (m15c [true, true, true, true]) (m15S10 b0') (retK Try.prog Try.f15 [.leaf (.own (.int .u8) 5)])) := funext fun b0' => (m15q10 k b0').symm
    show _ = m15X7 (m15F10 k) (m15F7 k j) k t0 b0
    rw [e0, e10]
    exact m15x7 (fun _ f => f) k (loopN (normAt 0 m15A true (m15c [true, true, true, false, true, true])) (fun K s => evC (m15E k) (fun _ f => f) (m15I k) 0 m15A (m15c [true, true, true, false, true, true]) s K) (m15K4 (fun _ f => f) k) j) t0 b0

noncomputable def m15F (k : Nat) (p0 : Int) (p1 : (Int × (Int × (List Int)))) : Option (List Int) := m15X (m15F7 k k) k p0 p1

theorem m15q (k : Nat) (p0 : Int) (p1 : (Int × (Int × (List Int)))) : evC (m15E k) (fun _ f => f) (m15I k) 0 m15A (m15c []) (stAt Try.f15 (argSs [.leaf (.val (.int .i64)), .st (.pair (.int .i64) (.pair (.int .i64) (.row (.int .u8))))] (p0, p1)) (fun _ => none) 0) (retK Try.prog Try.f15 [.leaf (.own (.int .u8) 5)]) = m15F k p0 p1 := by
    have e7 : m15F7 k k = (fun t0' b0' => loopN (normAt 0 m15A true (m15c [true, true, true, false, true, true])) (fun K s => evC (m15E k) (fun _ f => f) (m15I k) 0 m15A (m15c [true, true, true, false, true, true]) s K) (m15K4 (fun _ f => f) k) k (m15S7 t0' b0')) := funext fun t0' => funext fun b0' => (m15q7 k k t0' b0').symm
    show _ = m15X (m15F7 k k) k p0 p1
    rw [e7]
    exact m15x (fun _ f => f) k p0 p1

noncomputable def m15sp : Spec := { ps := [.leaf (.val (.int .i64)), .st (.pair (.int .i64) (.pair (.int .i64) (.row (.int .u8))))], rs := [.leaf (.own (.int .u8) 5)], f := fun k a => m15F k a.1 a.2 }

theorem m15ok (k : Nat) : EnvOk (m15E k) := envOk_of (l := [(22, m22sp), (23, m23sp)]) progNames progMixed rfl (.cons ⟨m22con k, Try.f22, by kernel_rfl, by kernel_rfl⟩ (.cons ⟨m23con k, Try.f23, by kernel_rfl, by kernel_rfl⟩ (.nil)))

theorem m15con (k : Nat) : Contract Try.prog k 15 m15sp := contract_of (E := m15E k) (m15ok k) (A := only 15 m15A) (d := 3) (c := m15c []) (by kernel_rfl) (by kernel_rfl) fun a _ h => (m15q k a.1 a.2).trans h

noncomputable def m27A : Anns := tabA []
noncomputable def m27E (k : Nat) : Env := { P := Try.prog, k := k, G := tabG [(14, m14sp), (23, m23sp)] }
noncomputable def m27c (p : List Bool) : Code := sub p (bodyOf Try.f27)
noncomputable def m27I (k : Nat) : Inl Bool := inlOf (m27E k) (only 27 m27A) 3
noncomputable def m27K0 (M : Cut Bool) (k : Nat) : Exit → St → Option Bool := seqK (normAt 0 m27A false (m27c [true])) (cutK M m27A (m27c [true]) fun s => evC (m27E k) M (m27I k) 0 m27A (m27c [true]) s (retK Try.prog Try.f27 [.leaf (.val .bool)])) (retK Try.prog Try.f27 [.leaf (.val .bool)])
noncomputable def m27K1 (M : Cut Bool) (k : Nat) : Exit → St → Option Bool := seqK (normAt 0 m27A false (m27c [true, true])) (cutK M m27A (m27c [true, true]) fun s => evC (m27E k) M (m27I k) 0 m27A (m27c [true, true]) s (retK Try.prog Try.f27 [.leaf (.val .bool)])) (retK Try.prog Try.f27 [.leaf (.val .bool)])

noncomputable def m27X (k : Nat) (p0 : (List Int)) : Option Bool := (if leI 4 (↑(List.length p0) : Int) = true then (if leI 0 (wr IntKind.i64 ((↑(List.length p0) : Int) - 4)) = true then (if leI (wr IntKind.i64 ((↑(List.length p0) : Int) - 4)) (↑(List.length p0) : Int) = true then (Option.bind (m23F k (List.take (Int.toNat (wr IntKind.i64 ((↑(List.length p0) : Int) - 4))) p0)) fun (c3 : (List Int)) => (Option.bind (m14F k c3 p0) fun (c4 : Bool) => some c4)) else none) else none) else some (false))

theorem m27x (M : Cut Bool) (k : Nat) (p0 : (List Int)) : evC (m27E k) M (m27I k) 0 m27A (m27c []) (stAt Try.f27 (argSs [.leaf (.val (.row (.int .u8)))] p0) (fun _ => none) 0) (retK Try.prog Try.f27 [.leaf (.val .bool)]) = m27X k p0 := by kernel_rfl

noncomputable def m27F (k : Nat) (p0 : (List Int)) : Option Bool := m27X k p0

theorem m27q (k : Nat) (p0 : (List Int)) : evC (m27E k) (fun _ f => f) (m27I k) 0 m27A (m27c []) (stAt Try.f27 (argSs [.leaf (.val (.row (.int .u8)))] p0) (fun _ => none) 0) (retK Try.prog Try.f27 [.leaf (.val .bool)]) = m27F k p0 := by
    show _ = m27X k p0
    exact m27x (fun _ f => f) k p0

noncomputable def m27sp : Spec := { ps := [.leaf (.val (.row (.int .u8)))], rs := [.leaf (.val .bool)], f := fun k a => m27F k a }

theorem m27ok (k : Nat) : EnvOk (m27E k) := envOk_of (l := [(14, m14sp), (23, m23sp)]) progNames progMixed rfl (.cons ⟨m14con k, Try.f14, by kernel_rfl, by kernel_rfl⟩ (.cons ⟨m23con k, Try.f23, by kernel_rfl, by kernel_rfl⟩ (.nil)))

theorem m27con (k : Nat) : Contract Try.prog k 27 m27sp := contract_of (E := m27E k) (m27ok k) (A := only 27 m27A) (d := 3) (c := m27c []) (by kernel_rfl) (by kernel_rfl) fun a _ h => (m27q k a).trans h

noncomputable def m28A : Anns := tabA [(7, { keep := [0, 3, 4] })]
noncomputable def m28E (k : Nat) : Env := { P := Try.prog, k := k, G := tabG [] }
noncomputable def m28c (p : List Bool) : Code := sub p (bodyOf Try.f28)
noncomputable def m28I (k : Nat) : Inl Int := inlOf (m28E k) (only 28 m28A) 3
noncomputable def m28K0 (M : Cut Int) (k : Nat) : Exit → St → Option Int := seqK (normAt 0 m28A false (m28c [true])) (cutK M m28A (m28c [true]) fun s => evC (m28E k) M (m28I k) 0 m28A (m28c [true]) s (retK Try.prog Try.f28 [.leaf (.val (.int .i64))])) (retK Try.prog Try.f28 [.leaf (.val (.int .i64))])
noncomputable def m28K1 (M : Cut Int) (k : Nat) : Exit → St → Option Int := seqK (normAt 0 m28A false (m28c [true, true])) (cutK M m28A (m28c [true, true]) fun s => evC (m28E k) M (m28I k) 0 m28A (m28c [true, true]) s (retK Try.prog Try.f28 [.leaf (.val (.int .i64))])) (retK Try.prog Try.f28 [.leaf (.val (.int .i64))])
noncomputable def m28K2 (M : Cut Int) (k : Nat) : Exit → St → Option Int := seqK (normAt 0 m28A false (m28c [true, true, true])) (cutK M m28A (m28c [true, true, true]) fun s => evC (m28E k) M (m28I k) 0 m28A (m28c [true, true, true]) s (retK Try.prog Try.f28 [.leaf (.val (.int .i64))])) (retK Try.prog Try.f28 [.leaf (.val (.int .i64))])
noncomputable def m28K3 (M : Cut Int) (k : Nat) : Exit → St → Option Int := seqK (normAt 0 m28A false (m28c [true, true, false, true])) (cutK M m28A (m28c [true, true, false, true]) fun s => evC (m28E k) M (m28I k) 0 m28A (m28c [true, true, false, true]) s (m28K2 M k)) (m28K2 M k)
noncomputable def m28K4 (M : Cut Int) (k : Nat) : Exit → St → Option Int := blockK 0 (m28K2 M k)
noncomputable def m28K5 (M : Cut Int) (k : Nat) (L7 : St → Option Int) : Exit → St → Option Int := seqK (normAt 0 m28A true (m28c [true, true, false, true, true, true])) L7 (m28K4 M k)
noncomputable def m28K6 (M : Cut Int) (k : Nat) (L7 : St → Option Int) : Exit → St → Option Int := seqK (normAt 0 m28A false (m28c [true, true, false, true, true, true, true])) (cutK M m28A (m28c [true, true, false, true, true, true, true]) fun s => evC (m28E k) M (m28I k) 0 m28A (m28c [true, true, false, true, true, true, true]) s (m28K5 M k L7)) (m28K5 M k L7)
noncomputable def m28K7 (M : Cut Int) (k : Nat) (L7 : St → Option Int) : Exit → St → Option Int := seqK (normAt 0 m28A false (m28c [true, true, false, true, true, true, false, true])) (cutK M m28A (m28c [true, true, false, true, true, true, false, true]) fun s => evC (m28E k) M (m28I k) 0 m28A (m28c [true, true, false, true, true, true, false, true]) s (m28K6 M k L7)) (m28K6 M k L7)
noncomputable def m28K8 (M : Cut Int) (k : Nat) (L7 : St → Option Int) : Exit → St → Option Int := seqK (normAt 0 m28A false (m28c [true, true, false, true, true, true, true, true])) (cutK M m28A (m28c [true, true, false, true, true, true, true, true]) fun s => evC (m28E k) M (m28I k) 0 m28A (m28c [true, true, false, true, true, true, true, true]) s (m28K5 M k L7)) (m28K5 M k L7)
noncomputable def m28K9 (M : Cut Int) (k : Nat) (L7 : St → Option Int) : Exit → St → Option Int := blockK 1 (m28K8 M k L7)
noncomputable def m28K10 (M : Cut Int) (k : Nat) : Exit → St → Option Int := seqK (normAt 0 m28A false (m28c [true, true, true, true])) (cutK M m28A (m28c [true, true, true, true]) fun s => evC (m28E k) M (m28I k) 0 m28A (m28c [true, true, true, true]) s (retK Try.prog Try.f28 [.leaf (.val (.int .i64))])) (retK Try.prog Try.f28 [.leaf (.val (.int .i64))])
noncomputable def m28S7 (t0 : List Int) (t3 : Int) (t4 : Int) : St := { n := 20, tm := slots [(0, .row (.int .u8) t0), (3, .int .i64 t3), (4, .int .i64 t4)], tab := blks [], nx := 0 }

noncomputable def m28X (X7 : List Int → Int → Int → Option Int) (k : Nat) (p0 : (List Int)) : Option Int := X7 p0 (0) (0)

theorem m28x (M : Cut Int) (k : Nat) (p0 : (List Int)) : evC (m28E k) M (m28I k) 0 m28A (m28c []) (stAt Try.f28 (argSs [.leaf (.val (.row (.int .u8)))] p0) (fun _ => none) 0) (retK Try.prog Try.f28 [.leaf (.val (.int .i64))]) = m28X (fun t0' t3' t4' => loopN (normAt 0 m28A true (m28c [true, true, false, true, true, true])) (fun K s => evC (m28E k) M (m28I k) 0 m28A (m28c [true, true, false, true, true, true]) s K) (m28K4 M k) k (m28S7 t0' t3' t4')) k p0 := by kernel_rfl

noncomputable def m28X7 (L7 : List Int → Int → Int → Option Int) (k : Nat) (t0 : List Int) (t3 : Int) (t4 : Int) : Option Int := (if ltI t4 (↑(List.length t0) : Int) = true then (if leI 0 8 = true then (if leI 0 t4 = true then (if ltI t4 (↑(List.length t0) : Int) = true then L7 t0 (bits BinOp.or IntKind.i64 (wr IntKind.i64 (t3 * 256)) (wr IntKind.i64 (List.getD t0 (Int.toNat t4) 0))) (wr IntKind.i64 (t4 + 1)) else none) else none) else none) else some t3)

theorem m28x7 (M : Cut Int) (k : Nat) (L7 : St → Option Int) (t0 : List Int) (t3 : Int) (t4 : Int) : evC (m28E k) M (m28I k) 0 m28A (m28c [true, true, false, true, true, true]) (m28S7 t0 t3 t4) (seqK (normAt 0 m28A true (m28c [true, true, false, true, true, true])) L7 (m28K4 M k)) = m28X7 (fun t0' t3' t4' => L7 (m28S7 t0' t3' t4')) k t0 t3 t4 := by kernel_rfl

noncomputable def m28F7 (k : Nat) : Nat → List Int → Int → Int → Option Int
  | 0, _, _, _ => none
  | j + 1, t0, t3, t4 => m28X7 (m28F7 k j) k t0 t3 t4

theorem m28q7 (k : Nat) : ∀ (j : Nat) (t0 : List Int) (t3 : Int) (t4 : Int), loopN (normAt 0 m28A true (m28c [true, true, false, true, true, true])) (fun K s => evC (m28E k) (fun _ f => f) (m28I k) 0 m28A (m28c [true, true, false, true, true, true]) s K) (m28K4 (fun _ f => f) k) j (m28S7 t0 t3 t4) = m28F7 k j t0 t3 t4
  | 0, _, _, _ => rfl
  | j + 1, t0, t3, t4 => by
    have e0 : m28F7 k j = (fun t0' t3' t4' => loopN (normAt 0 m28A true (m28c [true, true, false, true, true, true])) (fun K s => evC (m28E k) (fun _ f => f) (m28I k) 0 m28A (m28c [true, true, false, true, true, true]) s K) (m28K4 (fun _ f => f) k) j (m28S7 t0' t3' t4')) := funext fun t0' => funext fun t3' => funext fun t4' => (m28q7 k j t0' t3' t4').symm
    show _ = m28X7 (m28F7 k j) k t0 t3 t4
    rw [e0]
    exact m28x7 (fun _ f => f) k (loopN (normAt 0 m28A true (m28c [true, true, false, true, true, true])) (fun K s => evC (m28E k) (fun _ f => f) (m28I k) 0 m28A (m28c [true, true, false, true, true, true]) s K) (m28K4 (fun _ f => f) k) j) t0 t3 t4

noncomputable def m28F (k : Nat) (p0 : (List Int)) : Option Int := m28X (m28F7 k k) k p0

theorem m28q (k : Nat) (p0 : (List Int)) : evC (m28E k) (fun _ f => f) (m28I k) 0 m28A (m28c []) (stAt Try.f28 (argSs [.leaf (.val (.row (.int .u8)))] p0) (fun _ => none) 0) (retK Try.prog Try.f28 [.leaf (.val (.int .i64))]) = m28F k p0 := by
    have e7 : m28F7 k k = (fun t0' t3' t4' => loopN (normAt 0 m28A true (m28c [true, true, false, true, true, true])) (fun K s => evC (m28E k) (fun _ f => f) (m28I k) 0 m28A (m28c [true, true, false, true, true, true]) s K) (m28K4 (fun _ f => f) k) k (m28S7 t0' t3' t4')) := funext fun t0' => funext fun t3' => funext fun t4' => (m28q7 k k t0' t3' t4').symm
    show _ = m28X (m28F7 k k) k p0
    rw [e7]
    exact m28x (fun _ f => f) k p0

noncomputable def m28sp : Spec := { ps := [.leaf (.val (.row (.int .u8)))], rs := [.leaf (.val (.int .i64))], f := fun k a => m28F k a }

theorem m28ok (k : Nat) : EnvOk (m28E k) := envOk_of (l := []) progNames progMixed rfl (.nil)

theorem m28con (k : Nat) : Contract Try.prog k 28 m28sp := contract_of (E := m28E k) (m28ok k) (A := only 28 m28A) (d := 3) (c := m28c []) (by kernel_rfl) (by kernel_rfl) fun a _ h => (m28q k a).trans h

noncomputable def m17A : Anns := tabA []
noncomputable def m17E (k : Nat) : Env := { P := Try.prog, k := k, G := tabG [(8, m8sp), (9, m9sp), (14, m14sp), (15, m15sp), (27, m27sp), (28, m28sp)] }
noncomputable def m17c (p : List Bool) : Code := sub p (bodyOf Try.f17)
noncomputable def m17I (k : Nat) : Inl ((Int × (Int × (List Int))) × Int) := inlOf (m17E k) (only 17 m17A) 3
noncomputable def m17K0 (M : Cut ((Int × (Int × (List Int))) × Int)) (k : Nat) : Exit → St → Option ((Int × (Int × (List Int))) × Int) := seqK (normAt 0 m17A false (m17c [true])) (cutK M m17A (m17c [true]) fun s => evC (m17E k) M (m17I k) 0 m17A (m17c [true]) s (retK Try.prog Try.f17 [.st (.pair (.int .i64) (.pair (.int .i64) (.row (.int .u8)))), .leaf (.val (.int .i64))])) (retK Try.prog Try.f17 [.st (.pair (.int .i64) (.pair (.int .i64) (.row (.int .u8)))), .leaf (.val (.int .i64))])
noncomputable def m17K1 (M : Cut ((Int × (Int × (List Int))) × Int)) (k : Nat) : Exit → St → Option ((Int × (Int × (List Int))) × Int) := seqK (normAt 0 m17A false (m17c [true, true])) (cutK M m17A (m17c [true, true]) fun s => evC (m17E k) M (m17I k) 0 m17A (m17c [true, true]) s (retK Try.prog Try.f17 [.st (.pair (.int .i64) (.pair (.int .i64) (.row (.int .u8)))), .leaf (.val (.int .i64))])) (retK Try.prog Try.f17 [.st (.pair (.int .i64) (.pair (.int .i64) (.row (.int .u8)))), .leaf (.val (.int .i64))])
noncomputable def m17K2 (M : Cut ((Int × (Int × (List Int))) × Int)) (k : Nat) : Exit → St → Option ((Int × (Int × (List Int))) × Int) := seqK (normAt 0 m17A false (m17c [true, false, true])) (cutK M m17A (m17c [true, false, true]) fun s => evC (m17E k) M (m17I k) 0 m17A (m17c [true, false, true]) s (m17K1 M k)) (m17K1 M k)
noncomputable def m17K3 (M : Cut ((Int × (Int × (List Int))) × Int)) (k : Nat) : Exit → St → Option ((Int × (Int × (List Int))) × Int) := seqK (normAt 0 m17A false (m17c [true, false, true, false, true])) (cutK M m17A (m17c [true, false, true, false, true]) fun s => evC (m17E k) M (m17I k) 0 m17A (m17c [true, false, true, false, true]) s (m17K1 M k)) (m17K1 M k)
noncomputable def m17K4 (M : Cut ((Int × (Int × (List Int))) × Int)) (k : Nat) : Exit → St → Option ((Int × (Int × (List Int))) × Int) := seqK (normAt 0 m17A false (m17c [true, true, true])) (cutK M m17A (m17c [true, true, true]) fun s => evC (m17E k) M (m17I k) 0 m17A (m17c [true, true, true]) s (retK Try.prog Try.f17 [.st (.pair (.int .i64) (.pair (.int .i64) (.row (.int .u8)))), .leaf (.val (.int .i64))])) (retK Try.prog Try.f17 [.st (.pair (.int .i64) (.pair (.int .i64) (.row (.int .u8)))), .leaf (.val (.int .i64))])
noncomputable def m17K5 (M : Cut ((Int × (Int × (List Int))) × Int)) (k : Nat) : Exit → St → Option ((Int × (Int × (List Int))) × Int) := seqK (normAt 0 m17A false (m17c [true, true, false, true])) (cutK M m17A (m17c [true, true, false, true]) fun s => evC (m17E k) M (m17I k) 0 m17A (m17c [true, true, false, true]) s (m17K4 M k)) (m17K4 M k)
noncomputable def m17K6 (M : Cut ((Int × (Int × (List Int))) × Int)) (k : Nat) : Exit → St → Option ((Int × (Int × (List Int))) × Int) := seqK (normAt 0 m17A false (m17c [true, true, false, true, false, true])) (cutK M m17A (m17c [true, true, false, true, false, true]) fun s => evC (m17E k) M (m17I k) 0 m17A (m17c [true, true, false, true, false, true]) s (m17K4 M k)) (m17K4 M k)
noncomputable def m17K7 (M : Cut ((Int × (Int × (List Int))) × Int)) (k : Nat) : Exit → St → Option ((Int × (Int × (List Int))) × Int) := seqK (normAt 0 m17A false (m17c [true, true, true, true])) (cutK M m17A (m17c [true, true, true, true]) fun s => evC (m17E k) M (m17I k) 0 m17A (m17c [true, true, true, true]) s (retK Try.prog Try.f17 [.st (.pair (.int .i64) (.pair (.int .i64) (.row (.int .u8)))), .leaf (.val (.int .i64))])) (retK Try.prog Try.f17 [.st (.pair (.int .i64) (.pair (.int .i64) (.row (.int .u8)))), .leaf (.val (.int .i64))])
noncomputable def m17K8 (M : Cut ((Int × (Int × (List Int))) × Int)) (k : Nat) : Exit → St → Option ((Int × (Int × (List Int))) × Int) := seqK (normAt 0 m17A false (m17c [true, true, true, false, true])) (cutK M m17A (m17c [true, true, true, false, true]) fun s => evC (m17E k) M (m17I k) 0 m17A (m17c [true, true, true, false, true]) s (m17K7 M k)) (m17K7 M k)
noncomputable def m17K9 (M : Cut ((Int × (Int × (List Int))) × Int)) (k : Nat) : Exit → St → Option ((Int × (Int × (List Int))) × Int) := seqK (normAt 0 m17A false (m17c [true, true, true, false, true, false, true])) (cutK M m17A (m17c [true, true, true, false, true, false, true]) fun s => evC (m17E k) M (m17I k) 0 m17A (m17c [true, true, true, false, true, false, true]) s (m17K7 M k)) (m17K7 M k)
noncomputable def m17K10 (M : Cut ((Int × (Int × (List Int))) × Int)) (k : Nat) : Exit → St → Option ((Int × (Int × (List Int))) × Int) := seqK (normAt 0 m17A false (m17c [true, true, true, true, true])) (cutK M m17A (m17c [true, true, true, true, true]) fun s => evC (m17E k) M (m17I k) 0 m17A (m17c [true, true, true, true, true]) s (retK Try.prog Try.f17 [.st (.pair (.int .i64) (.pair (.int .i64) (.row (.int .u8)))), .leaf (.val (.int .i64))])) (retK Try.prog Try.f17 [.st (.pair (.int .i64) (.pair (.int .i64) (.row (.int .u8)))), .leaf (.val (.int .i64))])
noncomputable def m17K11 (M : Cut ((Int × (Int × (List Int))) × Int)) (k : Nat) : Exit → St → Option ((Int × (Int × (List Int))) × Int) := seqK (normAt 0 m17A false (m17c [true, true, true, true, true, true])) (cutK M m17A (m17c [true, true, true, true, true, true]) fun s => evC (m17E k) M (m17I k) 0 m17A (m17c [true, true, true, true, true, true]) s (retK Try.prog Try.f17 [.st (.pair (.int .i64) (.pair (.int .i64) (.row (.int .u8)))), .leaf (.val (.int .i64))])) (retK Try.prog Try.f17 [.st (.pair (.int .i64) (.pair (.int .i64) (.row (.int .u8)))), .leaf (.val (.int .i64))])
noncomputable def m17K12 (M : Cut ((Int × (Int × (List Int))) × Int)) (k : Nat) : Exit → St → Option ((Int × (Int × (List Int))) × Int) := seqK (normAt 0 m17A false (m17c [true, true, true, true, true, false, true])) (cutK M m17A (m17c [true, true, true, true, true, false, true]) fun s => evC (m17E k) M (m17I k) 0 m17A (m17c [true, true, true, true, true, false, true]) s (m17K11 M k)) (m17K11 M k)
noncomputable def m17K13 (M : Cut ((Int × (Int × (List Int))) × Int)) (k : Nat) : Exit → St → Option ((Int × (Int × (List Int))) × Int) := seqK (normAt 0 m17A false (m17c [true, true, true, true, true, false, true, false, true])) (cutK M m17A (m17c [true, true, true, true, true, false, true, false, true]) fun s => evC (m17E k) M (m17I k) 0 m17A (m17c [true, true, true, true, true, false, true, false, true]) s (m17K11 M k)) (m17K11 M k)
noncomputable def m17K14 (M : Cut ((Int × (Int × (List Int))) × Int)) (k : Nat) : Exit → St → Option ((Int × (Int × (List Int))) × Int) := seqK (normAt 0 m17A false (m17c [true, true, true, true, true, true, true])) (cutK M m17A (m17c [true, true, true, true, true, true, true]) fun s => evC (m17E k) M (m17I k) 0 m17A (m17c [true, true, true, true, true, true, true]) s (retK Try.prog Try.f17 [.st (.pair (.int .i64) (.pair (.int .i64) (.row (.int .u8)))), .leaf (.val (.int .i64))])) (retK Try.prog Try.f17 [.st (.pair (.int .i64) (.pair (.int .i64) (.row (.int .u8)))), .leaf (.val (.int .i64))])
noncomputable def m17K15 (M : Cut ((Int × (Int × (List Int))) × Int)) (k : Nat) : Exit → St → Option ((Int × (Int × (List Int))) × Int) := seqK (normAt 0 m17A false (m17c [true, true, true, true, true, true, true, true])) (cutK M m17A (m17c [true, true, true, true, true, true, true, true]) fun s => evC (m17E k) M (m17I k) 0 m17A (m17c [true, true, true, true, true, true, true, true]) s (retK Try.prog Try.f17 [.st (.pair (.int .i64) (.pair (.int .i64) (.row (.int .u8)))), .leaf (.val (.int .i64))])) (retK Try.prog Try.f17 [.st (.pair (.int .i64) (.pair (.int .i64) (.row (.int .u8)))), .leaf (.val (.int .i64))])
noncomputable def m17K16 (M : Cut ((Int × (Int × (List Int))) × Int)) (k : Nat) : Exit → St → Option ((Int × (Int × (List Int))) × Int) := seqK (normAt 0 m17A false (m17c [true, true, true, true, true, true, true, false, true])) (cutK M m17A (m17c [true, true, true, true, true, true, true, false, true]) fun s => evC (m17E k) M (m17I k) 0 m17A (m17c [true, true, true, true, true, true, true, false, true]) s (m17K15 M k)) (m17K15 M k)
noncomputable def m17K17 (M : Cut ((Int × (Int × (List Int))) × Int)) (k : Nat) : Exit → St → Option ((Int × (Int × (List Int))) × Int) := seqK (normAt 0 m17A false (m17c [true, true, true, true, true, true, true, false, true, false, true])) (cutK M m17A (m17c [true, true, true, true, true, true, true, false, true, false, true]) fun s => evC (m17E k) M (m17I k) 0 m17A (m17c [true, true, true, true, true, true, true, false, true, false, true]) s (m17K15 M k)) (m17K15 M k)
noncomputable def m17K18 (M : Cut ((Int × (Int × (List Int))) × Int)) (k : Nat) : Exit → St → Option ((Int × (Int × (List Int))) × Int) := seqK (normAt 0 m17A false (m17c [true, true, true, true, true, true, true, true, true])) (cutK M m17A (m17c [true, true, true, true, true, true, true, true, true]) fun s => evC (m17E k) M (m17I k) 0 m17A (m17c [true, true, true, true, true, true, true, true, true]) s (retK Try.prog Try.f17 [.st (.pair (.int .i64) (.pair (.int .i64) (.row (.int .u8)))), .leaf (.val (.int .i64))])) (retK Try.prog Try.f17 [.st (.pair (.int .i64) (.pair (.int .i64) (.row (.int .u8)))), .leaf (.val (.int .i64))])

noncomputable def m17X (k : Nat) (p0 : Int) (p1 : (List Int)) : Option ((Int × (Int × (List Int))) × Int) := (if ltI p0 1 = true then some (((0, 0, []), 1)) else (if ltI 16 p0 = true then some (((0, 0, []), 1)) else (if (!eqI (↑(List.length p1) : Int) (wr IntKind.i64 (p0 + 10))) = true then some (((0, 0, []), 2)) else (Option.bind (m27F k p1) fun (c4 : Bool) => (if (!c4) = true then some (((0, 0, []), 4)) else (if leI 0 4 = true then (if leI 4 (↑(List.length p1) : Int) = true then (Option.bind (m28F k (List.take 4 p1)) fun (c5 : Int) => (if leI 0 4 = true then (if ltI 4 (↑(List.length p1) : Int) = true then (if leI 0 5 = true then (if ltI 5 (↑(List.length p1) : Int) = true then (if ltI p0 (wr IntKind.i64 (List.getD p1 5 0)) = true then some (((0, 0, []), 3)) else (if leI 0 5 = true then (if ltI 5 (↑(List.length p1) : Int) = true then (if leI 0 (wr IntKind.i64 (6 + wr IntKind.i64 (List.getD p1 5 0))) = true then (if leI (wr IntKind.i64 (6 + wr IntKind.i64 (List.getD p1 5 0))) (↑(List.length p1) : Int) = true then (if leI 0 6 = true then (if leI 6 (wr IntKind.i64 (6 + wr IntKind.i64 (List.getD p1 5 0))) = true then (Option.bind (m8F k (List.drop 6 (List.take (Int.toNat (wr IntKind.i64 (6 + wr IntKind.i64 (List.getD p1 5 0)))) p1))) fun (c6 : (List Int)) => (Option.bind (m9F k p0 (c5, wr IntKind.i64 (List.getD p1 4 0), c6)) fun (c7 : Int) => (if (!eqI c7 0) = true then some (((0, 0, []), 3)) else (Option.bind (m15F k p0 (c5, wr IntKind.i64 (List.getD p1 4 0), c6)) fun (c8 : (List Int)) => (Option.bind (m14F k c8 p1) fun (c9 : Bool) => (if (!c9) = true then some (((0, 0, []), 3)) else some (((c5, wr IntKind.i64 (List.getD p1 4 0), c6), 0)))))))) else none) else none) else none) else none) else none) else none)) else none) else none) else none) else none)) else none) else none))))))

theorem m17x (M : Cut ((Int × (Int × (List Int))) × Int)) (k : Nat) (p0 : Int) (p1 : (List Int)) : evC (m17E k) M (m17I k) 0 m17A (m17c []) (stAt Try.f17 (argSs [.leaf (.val (.int .i64)), .leaf (.val (.row (.int .u8)))] (p0, p1)) (fun _ => none) 0) (retK Try.prog Try.f17 [.st (.pair (.int .i64) (.pair (.int .i64) (.row (.int .u8)))), .leaf (.val (.int .i64))]) = m17X k p0 p1 := by kernel_rfl

noncomputable def m17F (k : Nat) (p0 : Int) (p1 : (List Int)) : Option ((Int × (Int × (List Int))) × Int) := m17X k p0 p1

theorem m17q (k : Nat) (p0 : Int) (p1 : (List Int)) : evC (m17E k) (fun _ f => f) (m17I k) 0 m17A (m17c []) (stAt Try.f17 (argSs [.leaf (.val (.int .i64)), .leaf (.val (.row (.int .u8)))] (p0, p1)) (fun _ => none) 0) (retK Try.prog Try.f17 [.st (.pair (.int .i64) (.pair (.int .i64) (.row (.int .u8)))), .leaf (.val (.int .i64))]) = m17F k p0 p1 := by
    show _ = m17X k p0 p1
    exact m17x (fun _ f => f) k p0 p1

noncomputable def m17sp : Spec := { ps := [.leaf (.val (.int .i64)), .leaf (.val (.row (.int .u8)))], rs := [.st (.pair (.int .i64) (.pair (.int .i64) (.row (.int .u8)))), .leaf (.val (.int .i64))], f := fun k a => m17F k a.1 a.2 }

theorem m17ok (k : Nat) : EnvOk (m17E k) := envOk_of (l := [(8, m8sp), (9, m9sp), (14, m14sp), (15, m15sp), (27, m27sp), (28, m28sp)]) progNames progMixed rfl (.cons ⟨m8con k, Try.f8, by kernel_rfl, by kernel_rfl⟩ (.cons ⟨m9con k, Try.f9, by kernel_rfl, by kernel_rfl⟩ (.cons ⟨m14con k, Try.f14, by kernel_rfl, by kernel_rfl⟩ (.cons ⟨m15con k, Try.f15, by kernel_rfl, by kernel_rfl⟩ (.cons ⟨m27con k, Try.f27, by kernel_rfl, by kernel_rfl⟩ (.cons ⟨m28con k, Try.f28, by kernel_rfl, by kernel_rfl⟩ (.nil)))))))

theorem m17con (k : Nat) : Contract Try.prog k 17 m17sp := contract_of (E := m17E k) (m17ok k) (A := only 17 m17A) (d := 3) (c := m17c []) (by kernel_rfl) (by kernel_rfl) fun a _ h => (m17q k a.1 a.2).trans h

end Go.Proofs.Ytojomolplnnpmaa.Mini
