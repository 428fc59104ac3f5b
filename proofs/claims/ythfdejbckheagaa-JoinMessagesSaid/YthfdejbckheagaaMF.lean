/- Printed by a program of this session's (MPrint, over wip/mini): plain functions of the program's, and that they are what it does. Lean checks it. -/
import Derived.Test.YthfdejbckheagaaXMO
import Derived.Test.YthfdejbckheagaaProg
import Derived.KernelRfl
set_option linter.unusedVariables false
namespace Go.Proofs.Ythfdejbckheagaa.Mini
open Go Go.RowKit Go.Proofs
theorem progNames : (Try.prog.funcs.all fun f => !(f.name == "runtime.NumGoroutine")) = true := by kernel_rfl
theorem progMixed : Try.prog.follows .mixedOrders = true := by kernel_rfl

noncomputable def m35A : Anns := tabA []
noncomputable def m35E (k : Nat) : Env := { P := Try.prog, k := k, G := tabG [] }
noncomputable def m35c (p : List Bool) : Code := sub p (bodyOf Try.f35)
noncomputable def m35I (k : Nat) : Inl Bool := inlOf (m35E k) (only 35 m35A) 3
noncomputable def m35K0 (M : Cut Bool) (k : Nat) : Exit → St → Option Bool := seqK (normAt 0 m35A false (m35c [true])) (cutK M m35A (m35c [true]) fun s => evC (m35E k) M (m35I k) 0 m35A (m35c [true]) s (retK Try.prog Try.f35 [.leaf (.val .bool)])) (retK Try.prog Try.f35 [.leaf (.val .bool)])
noncomputable def m35K1 (M : Cut Bool) (k : Nat) : Exit → St → Option Bool := seqK (normAt 0 m35A false (m35c [true, true])) (cutK M m35A (m35c [true, true]) fun s => evC (m35E k) M (m35I k) 0 m35A (m35c [true, true]) s (retK Try.prog Try.f35 [.leaf (.val .bool)])) (retK Try.prog Try.f35 [.leaf (.val .bool)])

noncomputable def m35X (k : Nat) (p0 : Int) (p1 : Int) (p2 : Int) : Option Bool := (if leI p1 p0 = true then some (leI p0 p2) else some (false))

theorem m35x (M : Cut Bool) (k : Nat) (p0 : Int) (p1 : Int) (p2 : Int) : evC (m35E k) M (m35I k) 0 m35A (m35c []) (stAt Try.f35 (argSs [.leaf (.val (.int .i64)), .leaf (.val (.int .i64)), .leaf (.val (.int .i64))] (p0, p1, p2)) (fun _ => none) 0) (retK Try.prog Try.f35 [.leaf (.val .bool)]) = m35X k p0 p1 p2 := by kernel_rfl

noncomputable def m35F (k : Nat) (p0 : Int) (p1 : Int) (p2 : Int) : Option Bool := m35X k p0 p1 p2

theorem m35q (k : Nat) (p0 : Int) (p1 : Int) (p2 : Int) : evC (m35E k) (fun _ f => f) (m35I k) 0 m35A (m35c []) (stAt Try.f35 (argSs [.leaf (.val (.int .i64)), .leaf (.val (.int .i64)), .leaf (.val (.int .i64))] (p0, p1, p2)) (fun _ => none) 0) (retK Try.prog Try.f35 [.leaf (.val .bool)]) = m35F k p0 p1 p2 := by
    show _ = m35X k p0 p1 p2
    exact m35x (fun _ f => f) k p0 p1 p2

noncomputable def m35sp : Spec := { ps := [.leaf (.val (.int .i64)), .leaf (.val (.int .i64)), .leaf (.val (.int .i64))], rs := [.leaf (.val .bool)], f := fun k a => m35F k a.1 a.2.1 a.2.2 }

theorem m35ok (k : Nat) : EnvOk (m35E k) := envOk_of (l := []) progNames progMixed rfl (.nil)

theorem m35con (k : Nat) : Contract Try.prog k 35 m35sp := contract_of (E := m35E k) (m35ok k) (A := only 35 m35A) (d := 3) (c := m35c []) (by kernel_rfl) (by kernel_rfl) fun a _ h => (m35q k a.1 a.2.1 a.2.2).trans h

noncomputable def m11A : Anns := tabA []
noncomputable def m11E (k : Nat) : Env := { P := Try.prog, k := k, G := tabG [(35, m35sp)] }
noncomputable def m11c (p : List Bool) : Code := sub p (bodyOf Try.f11)
noncomputable def m11I (k : Nat) : Inl Bool := inlOf (m11E k) (only 11 m11A) 3
noncomputable def m11K0 (M : Cut Bool) (k : Nat) : Exit → St → Option Bool := seqK (normAt 0 m11A false (m11c [true])) (cutK M m11A (m11c [true]) fun s => evC (m11E k) M (m11I k) 0 m11A (m11c [true]) s (retK Try.prog Try.f11 [.leaf (.val .bool)])) (retK Try.prog Try.f11 [.leaf (.val .bool)])
noncomputable def m11K1 (M : Cut Bool) (k : Nat) : Exit → St → Option Bool := seqK (normAt 0 m11A false (m11c [true, true])) (cutK M m11A (m11c [true, true]) fun s => evC (m11E k) M (m11I k) 0 m11A (m11c [true, true]) s (retK Try.prog Try.f11 [.leaf (.val .bool)])) (retK Try.prog Try.f11 [.leaf (.val .bool)])

noncomputable def m11X (k : Nat) (p0 : (Int × (Int × (Int × (Int × (Int × (Int × (Int × (Int × (Int × Int)))))))))) : Option Bool := (Option.bind (m35F k (Prod.fst p0) 1 16) fun (c3 : Bool) => (if c3 = true then (Option.bind (m35F k (Prod.fst (Prod.snd p0)) 1 16) fun (c4 : Bool) => (if c4 = true then (Option.bind (m35F k (Prod.fst (Prod.snd (Prod.snd p0))) 1 3) fun (c5 : Bool) => (if c5 = true then (Option.bind (m35F k (Prod.fst (Prod.snd (Prod.snd (Prod.snd p0)))) 1 16) fun (c6 : Bool) => (if c6 = true then (Option.bind (m35F k (Prod.fst (Prod.snd (Prod.snd (Prod.snd (Prod.snd p0))))) 1 16) fun (c7 : Bool) => (if c7 = true then (Option.bind (m35F k (Prod.fst (Prod.snd (Prod.snd (Prod.snd (Prod.snd (Prod.snd p0)))))) 1 16) fun (c8 : Bool) => (if c8 = true then (Option.bind (m35F k (Prod.fst (Prod.snd (Prod.snd (Prod.snd (Prod.snd (Prod.snd (Prod.snd p0))))))) 1 64) fun (c9 : Bool) => (if c9 = true then (Option.bind (m35F k (Prod.fst (Prod.snd (Prod.snd (Prod.snd (Prod.snd (Prod.snd (Prod.snd (Prod.snd p0)))))))) 4 16) fun (c10 : Bool) => (if c10 = true then (Option.bind (m35F k (Prod.fst (Prod.snd (Prod.snd (Prod.snd (Prod.snd (Prod.snd (Prod.snd (Prod.snd (Prod.snd p0))))))))) 0 200) fun (c11 : Bool) => (if c11 = true then (Option.bind (m35F k (Prod.snd (Prod.snd (Prod.snd (Prod.snd (Prod.snd (Prod.snd (Prod.snd (Prod.snd (Prod.snd p0))))))))) 0
  1073741824) fun (c12 : Bool) => some c12) else some (false))) else some (false))) else some (false))) else some (false))) else some (false))) else some (false))) else some (false))) else some (false))) else some (false)))

theorem m11x (M : Cut Bool) (k : Nat) (p0 : (Int × (Int × (Int × (Int × (Int × (Int × (Int × (Int × (Int × Int)))))))))) : evC (m11E k) M (m11I k) 0 m11A (m11c []) (stAt Try.f11 (argSs [.st (.pair (.int .i64) (.pair (.int .i64) (.pair (.int .i64) (.pair (.int .i64) (.pair (.int .i64) (.pair (.int .i64) (.pair (.int .i64) (.pair (.int .i64) (.pair (.int .i64) (.int .i64))))))))))] p0) (fun _ => none) 0) (retK Try.prog Try.f11 [.leaf (.val .bool)]) = m11X k p0 := by kernel_rfl

noncomputable def m11F (k : Nat) (p0 : (Int × (Int × (Int × (Int × (Int × (Int × (Int × (Int × (Int × Int)))))))))) : Option Bool := m11X k p0

theorem m11q (k : Nat) (p0 : (Int × (Int × (Int × (Int × (Int × (Int × (Int × (Int × (Int × Int)))))))))) : evC (m11E k) (fun _ f => f) (m11I k) 0 m11A (m11c []) (stAt Try.f11 (argSs [.st (.pair (.int .i64) (.pair (.int .i64) (.pair (.int .i64) (.pair (.int .i64) (.pair (.int .i64) (.pair (.int .i64) (.pair (.int .i64) (.pair (.int .i64) (.pair (.int .i64) (.int .i64))))))))))] p0) (fun _ => none) 0) (retK Try.prog Try.f11 [.leaf (.val .bool)]) = m11F k p0 := by
    show _ = m11X k p0
    exact m11x (fun _ f => f) k p0

noncomputable def m11sp : Spec := { ps := [.st (.pair (.int .i64) (.pair (.int .i64) (.pair (.int .i64) (.pair (.int .i64) (.pair (.int .i64) (.pair (.int .i64) (.pair (.int .i64) (.pair (.int .i64) (.pair (.int .i64) (.int .i64))))))))))], rs := [.leaf (.val .bool)], f := fun k a => m11F k a }

theorem m11ok (k : Nat) : EnvOk (m11E k) := envOk_of (l := [(35, m35sp)]) progNames progMixed rfl (.cons ⟨m35con k, Try.f35, by kernel_rfl, by kernel_rfl⟩ (.nil))

theorem m11con (k : Nat) : Contract Try.prog k 11 m11sp := contract_of (E := m11E k) (m11ok k) (A := only 11 m11A) (d := 3) (c := m11c []) (by kernel_rfl) (by kernel_rfl) fun a _ h => (m11q k a).trans h

noncomputable def m36A : Anns := tabA []
noncomputable def m36E (k : Nat) : Env := { P := Try.prog, k := k, G := tabG [] }
noncomputable def m36c (p : List Bool) : Code := sub p (bodyOf Try.f36)
noncomputable def m36I (k : Nat) : Inl Bool := inlOf (m36E k) (only 36 m36A) 3
noncomputable def m36K0 (M : Cut Bool) (k : Nat) : Exit → St → Option Bool := seqK (normAt 0 m36A false (m36c [true])) (cutK M m36A (m36c [true]) fun s => evC (m36E k) M (m36I k) 0 m36A (m36c [true]) s (retK Try.prog Try.f36 [.leaf (.val .bool)])) (retK Try.prog Try.f36 [.leaf (.val .bool)])
noncomputable def m36K1 (M : Cut Bool) (k : Nat) : Exit → St → Option Bool := seqK (normAt 0 m36A false (m36c [true, true])) (cutK M m36A (m36c [true, true]) fun s => evC (m36E k) M (m36I k) 0 m36A (m36c [true, true]) s (retK Try.prog Try.f36 [.leaf (.val .bool)])) (retK Try.prog Try.f36 [.leaf (.val .bool)])

noncomputable def m36X (k : Nat) (p0 : Int) (p1 : Int) (p2 : Int) : Option Bool := (if leI p1 p0 = true then some (leI p0 p2) else some (false))

theorem m36x (M : Cut Bool) (k : Nat) (p0 : Int) (p1 : Int) (p2 : Int) : evC (m36E k) M (m36I k) 0 m36A (m36c []) (stAt Try.f36 (argSs [.leaf (.val (.int .i64)), .leaf (.val (.int .i64)), .leaf (.val (.int .i64))] (p0, p1, p2)) (fun _ => none) 0) (retK Try.prog Try.f36 [.leaf (.val .bool)]) = m36X k p0 p1 p2 := by kernel_rfl

noncomputable def m36F (k : Nat) (p0 : Int) (p1 : Int) (p2 : Int) : Option Bool := m36X k p0 p1 p2

theorem m36q (k : Nat) (p0 : Int) (p1 : Int) (p2 : Int) : evC (m36E k) (fun _ f => f) (m36I k) 0 m36A (m36c []) (stAt Try.f36 (argSs [.leaf (.val (.int .i64)), .leaf (.val (.int .i64)), .leaf (.val (.int .i64))] (p0, p1, p2)) (fun _ => none) 0) (retK Try.prog Try.f36 [.leaf (.val .bool)]) = m36F k p0 p1 p2 := by
    show _ = m36X k p0 p1 p2
    exact m36x (fun _ f => f) k p0 p1 p2

noncomputable def m36sp : Spec := { ps := [.leaf (.val (.int .i64)), .leaf (.val (.int .i64)), .leaf (.val (.int .i64))], rs := [.leaf (.val .bool)], f := fun k a => m36F k a.1 a.2.1 a.2.2 }

theorem m36ok (k : Nat) : EnvOk (m36E k) := envOk_of (l := []) progNames progMixed rfl (.nil)

theorem m36con (k : Nat) : Contract Try.prog k 36 m36sp := contract_of (E := m36E k) (m36ok k) (A := only 36 m36A) (d := 3) (c := m36c []) (by kernel_rfl) (by kernel_rfl) fun a _ h => (m36q k a.1 a.2.1 a.2.2).trans h

noncomputable def m12A : Anns := tabA []
noncomputable def m12E (k : Nat) : Env := { P := Try.prog, k := k, G := tabG [(36, m36sp)] }
noncomputable def m12c (p : List Bool) : Code := sub p (bodyOf Try.f12)
noncomputable def m12I (k : Nat) : Inl Int := inlOf (m12E k) (only 12 m12A) 3
noncomputable def m12K0 (M : Cut Int) (k : Nat) : Exit → St → Option Int := seqK (normAt 0 m12A false (m12c [true])) (cutK M m12A (m12c [true]) fun s => evC (m12E k) M (m12I k) 0 m12A (m12c [true]) s (retK Try.prog Try.f12 [.leaf (.val (.int .i64))])) (retK Try.prog Try.f12 [.leaf (.val (.int .i64))])
noncomputable def m12K1 (M : Cut Int) (k : Nat) : Exit → St → Option Int := seqK (normAt 0 m12A false (m12c [true, true])) (cutK M m12A (m12c [true, true]) fun s => evC (m12E k) M (m12I k) 0 m12A (m12c [true, true]) s (retK Try.prog Try.f12 [.leaf (.val (.int .i64))])) (retK Try.prog Try.f12 [.leaf (.val (.int .i64))])
noncomputable def m12K2 (M : Cut Int) (k : Nat) : Exit → St → Option Int := seqK (normAt 0 m12A false (m12c [true, false, true])) (cutK M m12A (m12c [true, false, true]) fun s => evC (m12E k) M (m12I k) 0 m12A (m12c [true, false, true]) s (m12K1 M k)) (m12K1 M k)
noncomputable def m12K3 (M : Cut Int) (k : Nat) : Exit → St → Option Int := seqK (normAt 0 m12A false (m12c [true, false, true, false, true])) (cutK M m12A (m12c [true, false, true, false, true]) fun s => evC (m12E k) M (m12I k) 0 m12A (m12c [true, false, true, false, true]) s (m12K1 M k)) (m12K1 M k)
noncomputable def m12K4 (M : Cut Int) (k : Nat) : Exit → St → Option Int := seqK (normAt 0 m12A false (m12c [true, true, true])) (cutK M m12A (m12c [true, true, true]) fun s => evC (m12E k) M (m12I k) 0 m12A (m12c [true, true, true]) s (retK Try.prog Try.f12 [.leaf (.val (.int .i64))])) (retK Try.prog Try.f12 [.leaf (.val (.int .i64))])

noncomputable def m12X (k : Nat) (p0 : (Int × (Int × (Int × (Int × (Int × (Int × (Int × (Int × (Int × Int)))))))))) : Option Int := (Option.bind (m36F k (Prod.fst p0) 1 16) fun (c3 : Bool) => (if c3 = true then (Option.bind (m36F k (Prod.fst (Prod.snd p0)) 1 16) fun (c4 : Bool) => (if c4 = true then (Option.bind (m36F k (Prod.fst (Prod.snd (Prod.snd p0))) 1 3) fun (c5 : Bool) => (if c5 = true then (Option.bind (m36F k (Prod.fst (Prod.snd (Prod.snd (Prod.snd p0)))) 1 16) fun (c6 : Bool) => (if c6 = true then (Option.bind (m36F k (Prod.fst (Prod.snd (Prod.snd (Prod.snd (Prod.snd p0))))) 1 16) fun (c7 : Bool) => (if c7 = true then (Option.bind (m36F k (Prod.fst (Prod.snd (Prod.snd (Prod.snd (Prod.snd (Prod.snd p0)))))) 1 16) fun (c8 : Bool) => (if c8 = true then (Option.bind (m36F k (Prod.fst (Prod.snd (Prod.snd (Prod.snd (Prod.snd (Prod.snd (Prod.snd p0))))))) 1 64) fun (c9 : Bool) => (if c9 = true then (Option.bind (m36F k (Prod.fst (Prod.snd (Prod.snd (Prod.snd (Prod.snd (Prod.snd (Prod.snd (Prod.snd p0)))))))) 4 16) fun (c10 : Bool) => (if c10 = true then (Option.bind (m36F k (Prod.fst (Prod.snd (Prod.snd (Prod.snd (Prod.snd (Prod.snd (Prod.snd (Prod.snd (Prod.snd p0))))))))) 0 200) fun (c11 : Bool) => (if c11 = true then (Option.bind (m36F k (Prod.snd (Prod.snd (Prod.snd (Prod.snd (Prod.snd (Prod.snd (Prod.snd (Prod.snd (Prod.snd p0))))))))) 0
  1073741824) fun (c12 : Bool) => (if c12 = true then some (0) else some (1))) else some (1))) else some (1))) else some (1))) else some (1))) else some (1))) else some (1))) else some (1))) else some (1))) else some (1)))

theorem m12x (M : Cut Int) (k : Nat) (p0 : (Int × (Int × (Int × (Int × (Int × (Int × (Int × (Int × (Int × Int)))))))))) : evC (m12E k) M (m12I k) 0 m12A (m12c []) (stAt Try.f12 (argSs [.st (.pair (.int .i64) (.pair (.int .i64) (.pair (.int .i64) (.pair (.int .i64) (.pair (.int .i64) (.pair (.int .i64) (.pair (.int .i64) (.pair (.int .i64) (.pair (.int .i64) (.int .i64))))))))))] p0) (fun _ => none) 0) (retK Try.prog Try.f12 [.leaf (.val (.int .i64))]) = m12X k p0 := by kernel_rfl

noncomputable def m12F (k : Nat) (p0 : (Int × (Int × (Int × (Int × (Int × (Int × (Int × (Int × (Int × Int)))))))))) : Option Int := m12X k p0

theorem m12q (k : Nat) (p0 : (Int × (Int × (Int × (Int × (Int × (Int × (Int × (Int × (Int × Int)))))))))) : evC (m12E k) (fun _ f => f) (m12I k) 0 m12A (m12c []) (stAt Try.f12 (argSs [.st (.pair (.int .i64) (.pair (.int .i64) (.pair (.int .i64) (.pair (.int .i64) (.pair (.int .i64) (.pair (.int .i64) (.pair (.int .i64) (.pair (.int .i64) (.pair (.int .i64) (.int .i64))))))))))] p0) (fun _ => none) 0) (retK Try.prog Try.f12 [.leaf (.val (.int .i64))]) = m12F k p0 := by
    show _ = m12X k p0
    exact m12x (fun _ f => f) k p0

noncomputable def m12sp : Spec := { ps := [.st (.pair (.int .i64) (.pair (.int .i64) (.pair (.int .i64) (.pair (.int .i64) (.pair (.int .i64) (.pair (.int .i64) (.pair (.int .i64) (.pair (.int .i64) (.pair (.int .i64) (.int .i64))))))))))], rs := [.leaf (.val (.int .i64))], f := fun k a => m12F k a }

theorem m12ok (k : Nat) : EnvOk (m12E k) := envOk_of (l := [(36, m36sp)]) progNames progMixed rfl (.cons ⟨m36con k, Try.f36, by kernel_rfl, by kernel_rfl⟩ (.nil))

theorem m12con (k : Nat) : Contract Try.prog k 12 m12sp := contract_of (E := m12E k) (m12ok k) (A := only 12 m12A) (d := 3) (c := m12c []) (by kernel_rfl) (by kernel_rfl) fun a _ h => (m12q k a).trans h

noncomputable def m39A : Anns := tabA []
noncomputable def m39E (k : Nat) : Env := { P := Try.prog, k := k, G := tabG [] }
noncomputable def m39c (p : List Bool) : Code := sub p (bodyOf Try.f39)
noncomputable def m39I (k : Nat) : Inl Int := inlOf (m39E k) (only 39 m39A) 3
noncomputable def m39K0 (M : Cut Int) (k : Nat) : Exit → St → Option Int := seqK (normAt 0 m39A false (m39c [true])) (cutK M m39A (m39c [true]) fun s => evC (m39E k) M (m39I k) 0 m39A (m39c [true]) s (retK Try.prog Try.f39 [.leaf (.val (.int .i64))])) (retK Try.prog Try.f39 [.leaf (.val (.int .i64))])
noncomputable def m39K1 (M : Cut Int) (k : Nat) : Exit → St → Option Int := seqK (normAt 0 m39A false (m39c [true, true])) (cutK M m39A (m39c [true, true]) fun s => evC (m39E k) M (m39I k) 0 m39A (m39c [true, true]) s (retK Try.prog Try.f39 [.leaf (.val (.int .i64))])) (retK Try.prog Try.f39 [.leaf (.val (.int .i64))])
noncomputable def m39K2 (M : Cut Int) (k : Nat) : Exit → St → Option Int := seqK (normAt 0 m39A false (m39c [true, false, true])) (cutK M m39A (m39c [true, false, true]) fun s => evC (m39E k) M (m39I k) 0 m39A (m39c [true, false, true]) s (m39K1 M k)) (m39K1 M k)
noncomputable def m39K3 (M : Cut Int) (k : Nat) : Exit → St → Option Int := seqK (normAt 0 m39A false (m39c [true, false, true, false, true])) (cutK M m39A (m39c [true, false, true, false, true]) fun s => evC (m39E k) M (m39I k) 0 m39A (m39c [true, false, true, false, true]) s (m39K1 M k)) (m39K1 M k)
noncomputable def m39K4 (M : Cut Int) (k : Nat) : Exit → St → Option Int := seqK (normAt 0 m39A false (m39c [true, true, true])) (cutK M m39A (m39c [true, true, true]) fun s => evC (m39E k) M (m39I k) 0 m39A (m39c [true, true, true]) s (retK Try.prog Try.f39 [.leaf (.val (.int .i64))])) (retK Try.prog Try.f39 [.leaf (.val (.int .i64))])

noncomputable def m39X (k : Nat) (p0 : (Bool × (List Int))) : Option Int := (if ltI 4096 (↑(List.length (Prod.snd p0)) : Int) = true then some (1) else (if (!Prod.fst p0) = true then (if ltI 0 (↑(List.length (Prod.snd p0)) : Int) = true then some (1) else some (0)) else some (0)))

theorem m39x (M : Cut Int) (k : Nat) (p0 : (Bool × (List Int))) : evC (m39E k) M (m39I k) 0 m39A (m39c []) (stAt Try.f39 (argSs [.st (.pair .bool (.row (.int .u8)))] p0) (fun _ => none) 0) (retK Try.prog Try.f39 [.leaf (.val (.int .i64))]) = m39X k p0 := by kernel_rfl

noncomputable def m39F (k : Nat) (p0 : (Bool × (List Int))) : Option Int := m39X k p0

theorem m39q (k : Nat) (p0 : (Bool × (List Int))) : evC (m39E k) (fun _ f => f) (m39I k) 0 m39A (m39c []) (stAt Try.f39 (argSs [.st (.pair .bool (.row (.int .u8)))] p0) (fun _ => none) 0) (retK Try.prog Try.f39 [.leaf (.val (.int .i64))]) = m39F k p0 := by
    show _ = m39X k p0
    exact m39x (fun _ f => f) k p0

noncomputable def m39sp : Spec := { ps := [.st (.pair .bool (.row (.int .u8)))], rs := [.leaf (.val (.int .i64))], f := fun k a => m39F k a }

theorem m39ok (k : Nat) : EnvOk (m39E k) := envOk_of (l := []) progNames progMixed rfl (.nil)

theorem m39con (k : Nat) : Contract Try.prog k 39 m39sp := contract_of (E := m39E k) (m39ok k) (A := only 39 m39A) (d := 3) (c := m39c []) (by kernel_rfl) (by kernel_rfl) fun a _ h => (m39q k a).trans h

noncomputable def m40A : Anns := tabA []
noncomputable def m40E (k : Nat) : Env := { P := Try.prog, k := k, G := tabG [] }
noncomputable def m40c (p : List Bool) : Code := sub p (bodyOf Try.f40)
noncomputable def m40I (k : Nat) : Inl (List Int) := inlOf (m40E k) (only 40 m40A) 3
noncomputable def m40K0 (M : Cut (List Int)) (k : Nat) : Exit → St → Option (List Int) := seqK (normAt 0 m40A false (m40c [true])) (cutK M m40A (m40c [true]) fun s => evC (m40E k) M (m40I k) 0 m40A (m40c [true]) s (retK Try.prog Try.f40 [.leaf (.own (.int .u8) 5)])) (retK Try.prog Try.f40 [.leaf (.own (.int .u8) 5)])
noncomputable def m40K1 (M : Cut (List Int)) (k : Nat) : Exit → St → Option (List Int) := seqK (normAt 0 m40A false (m40c [true, true])) (cutK M m40A (m40c [true, true]) fun s => evC (m40E k) M (m40I k) 0 m40A (m40c [true, true]) s (retK Try.prog Try.f40 [.leaf (.own (.int .u8) 5)])) (retK Try.prog Try.f40 [.leaf (.own (.int .u8) 5)])
noncomputable def m40K2 (M : Cut (List Int)) (k : Nat) : Exit → St → Option (List Int) := seqK (normAt 0 m40A false (m40c [true, false, true])) (cutK M m40A (m40c [true, false, true]) fun s => evC (m40E k) M (m40I k) 0 m40A (m40c [true, false, true]) s (m40K1 M k)) (m40K1 M k)
noncomputable def m40K3 (M : Cut (List Int)) (k : Nat) : Exit → St → Option (List Int) := seqK (normAt 0 m40A false (m40c [true, false, true, false, true])) (cutK M m40A (m40c [true, false, true, false, true]) fun s => evC (m40E k) M (m40I k) 0 m40A (m40c [true, false, true, false, true]) s (m40K1 M k)) (m40K1 M k)
noncomputable def m40K4 (M : Cut (List Int)) (k : Nat) : Exit → St → Option (List Int) := seqK (normAt 0 m40A false (m40c [true, true, true])) (cutK M m40A (m40c [true, true, true]) fun s => evC (m40E k) M (m40I k) 0 m40A (m40c [true, true, true]) s (retK Try.prog Try.f40 [.leaf (.own (.int .u8) 5)])) (retK Try.prog Try.f40 [.leaf (.own (.int .u8) 5)])

noncomputable def m40X (k : Nat) (p0 : (List Int)) : Option (List Int) := (nilK (List.isEmpty p0) (some ([])) ((if leI (↑((0 + List.length p0) * 1) : Int) 140737488355328 = true then some (List.replicate 0 0 ++ p0) else none)))

theorem m40x (M : Cut (List Int)) (k : Nat) (p0 : (List Int)) : evC (m40E k) M (m40I k) 0 m40A (m40c []) (stAt Try.f40 (argSs [.leaf (.val (.row (.int .u8)))] p0) (fun _ => none) 0) (retK Try.prog Try.f40 [.leaf (.own (.int .u8) 5)]) = m40X k p0 := by kernel_rfl

noncomputable def m40F (k : Nat) (p0 : (List Int)) : Option (List Int) := m40X k p0

theorem m40q (k : Nat) (p0 : (List Int)) : evC (m40E k) (fun _ f => f) (m40I k) 0 m40A (m40c []) (stAt Try.f40 (argSs [.leaf (.val (.row (.int .u8)))] p0) (fun _ => none) 0) (retK Try.prog Try.f40 [.leaf (.own (.int .u8) 5)]) = m40F k p0 := by
    show _ = m40X k p0
    exact m40x (fun _ f => f) k p0

noncomputable def m40sp : Spec := { ps := [.leaf (.val (.row (.int .u8)))], rs := [.leaf (.own (.int .u8) 5)], f := fun k a => m40F k a }

theorem m40ok (k : Nat) : EnvOk (m40E k) := envOk_of (l := []) progNames progMixed rfl (.nil)

theorem m40con (k : Nat) : Contract Try.prog k 40 m40sp := contract_of (E := m40E k) (m40ok k) (A := only 40 m40A) (d := 3) (c := m40c []) (by kernel_rfl) (by kernel_rfl) fun a _ h => (m40q k a).trans h

noncomputable def m16A : Anns := tabA [(16, { keep := [3, 4], matc := [(4, 1, (.int .u8), 5)] })]
noncomputable def m16E (k : Nat) : Env := { P := Try.prog, k := k, G := tabG [(39, m39sp), (40, m40sp)] }
noncomputable def m16c (p : List Bool) : Code := sub p (bodyOf Try.f16)
noncomputable def m16I (k : Nat) : Inl ((Bool × (List Int)) × (List Int) × Bool × Int) := inlOf (m16E k) (only 16 m16A) 3
noncomputable def m16K0 (M : Cut ((Bool × (List Int)) × (List Int) × Bool × Int)) (k : Nat) : Exit → St → Option ((Bool × (List Int)) × (List Int) × Bool × Int) := seqK (normAt 0 m16A false (m16c [true])) (cutK M m16A (m16c [true]) fun s => evC (m16E k) M (m16I k) 0 m16A (m16c [true]) s (retK Try.prog Try.f16 [.st (.pair .bool (.row (.int .u8))), .leaf (.own (.int .u8) 5), .leaf (.val .bool), .leaf (.val (.int .i64))])) (retK Try.prog Try.f16 [.st (.pair .bool (.row (.int .u8))), .leaf (.own (.int .u8) 5), .leaf (.val .bool), .leaf (.val (.int .i64))])
noncomputable def m16K1 (M : Cut ((Bool × (List Int)) × (List Int) × Bool × Int)) (k : Nat) : Exit → St → Option ((Bool × (List Int)) × (List Int) × Bool × Int) := seqK (normAt 0 m16A false (m16c [true, true])) (cutK M m16A (m16c [true, true]) fun s => evC (m16E k) M (m16I k) 0 m16A (m16c [true, true]) s (retK Try.prog Try.f16 [.st (.pair .bool (.row (.int .u8))), .leaf (.own (.int .u8) 5), .leaf (.val .bool), .leaf (.val (.int .i64))])) (retK Try.prog Try.f16 [.st (.pair .bool (.row (.int .u8))), .leaf (.own (.int .u8) 5), .leaf (.val .bool), .leaf (.val (.int .i64))])
noncomputable def m16K2 (M : Cut ((Bool × (List Int)) × (List Int) × Bool × Int)) (k : Nat) : Exit → St → Option ((Bool × (List Int)) × (List Int) × Bool × Int) := blockK 0 (m16K1 M k)
noncomputable def m16K3 (M : Cut ((Bool × (List Int)) × (List Int) × Bool × Int)) (k : Nat) : Exit → St → Option ((Bool × (List Int)) × (List Int) × Bool × Int) := seqK (normAt 0 m16A false (m16c [true, false, true, true])) (cutK M m16A (m16c [true, false, true, true]) fun s => evC (m16E k) M (m16I k) 0 m16A (m16c [true, false, true, true]) s (m16K2 M k)) (m16K2 M k)
noncomputable def m16K4 (M : Cut ((Bool × (List Int)) × (List Int) × Bool × Int)) (k : Nat) : Exit → St → Option ((Bool × (List Int)) × (List Int) × Bool × Int) := seqK (normAt 0 m16A false (m16c [true, false, true, true, false, true])) (cutK M m16A (m16c [true, false, true, true, false, true]) fun s => evC (m16E k) M (m16I k) 0 m16A (m16c [true, false, true, true, false, true]) s (m16K2 M k)) (m16K2 M k)
noncomputable def m16K5 (M : Cut ((Bool × (List Int)) × (List Int) × Bool × Int)) (k : Nat) : Exit → St → Option ((Bool × (List Int)) × (List Int) × Bool × Int) := seqK (normAt 0 m16A false (m16c [true, false, true, true, true, true])) (cutK M m16A (m16c [true, false, true, true, true, true]) fun s => evC (m16E k) M (m16I k) 0 m16A (m16c [true, false, true, true, true, true]) s (m16K2 M k)) (m16K2 M k)
noncomputable def m16K6 (M : Cut ((Bool × (List Int)) × (List Int) × Bool × Int)) (k : Nat) : Exit → St → Option ((Bool × (List Int)) × (List Int) × Bool × Int) := seqK (normAt 0 m16A false (m16c [true, false, true, true, true, true, false, true])) (cutK M m16A (m16c [true, false, true, true, true, true, false, true]) fun s => evC (m16E k) M (m16I k) 0 m16A (m16c [true, false, true, true, true, true, false, true]) s (m16K2 M k)) (m16K2 M k)
noncomputable def m16K7 (M : Cut ((Bool × (List Int)) × (List Int) × Bool × Int)) (k : Nat) : Exit → St → Option ((Bool × (List Int)) × (List Int) × Bool × Int) := seqK (normAt 0 m16A false (m16c [true, true, true])) (cutK M m16A (m16c [true, true, true]) fun s => evC (m16E k) M (m16I k) 0 m16A (m16c [true, true, true]) s (retK Try.prog Try.f16 [.st (.pair .bool (.row (.int .u8))), .leaf (.own (.int .u8) 5), .leaf (.val .bool), .leaf (.val (.int .i64))])) (retK Try.prog Try.f16 [.st (.pair .bool (.row (.int .u8))), .leaf (.own (.int .u8) 5), .leaf (.val .bool), .leaf (.val (.int .i64))])
noncomputable def m16K8 (M : Cut ((Bool × (List Int)) × (List Int) × Bool × Int)) (k : Nat) : Exit → St → Option ((Bool × (List Int)) × (List Int) × Bool × Int) := seqK (normAt 0 m16A false (m16c [true, true, true, true])) (cutK M m16A (m16c [true, true, true, true]) fun s => evC (m16E k) M (m16I k) 0 m16A (m16c [true, true, true, true]) s (retK Try.prog Try.f16 [.st (.pair .bool (.row (.int .u8))), .leaf (.own (.int .u8) 5), .leaf (.val .bool), .leaf (.val (.int .i64))])) (retK Try.prog Try.f16 [.st (.pair .bool (.row (.int .u8))), .leaf (.own (.int .u8) 5), .leaf (.val .bool), .leaf (.val (.int .i64))])
noncomputable def m16K9 (M : Cut ((Bool × (List Int)) × (List Int) × Bool × Int)) (k : Nat) : Exit → St → Option ((Bool × (List Int)) × (List Int) × Bool × Int) := seqK (normAt 0 m16A false (m16c [true, true, true, false, true])) (cutK M m16A (m16c [true, true, true, false, true]) fun s => evC (m16E k) M (m16I k) 0 m16A (m16c [true, true, true, false, true]) s (m16K8 M k)) (m16K8 M k)
noncomputable def m16K10 (M : Cut ((Bool × (List Int)) × (List Int) × Bool × Int)) (k : Nat) : Exit → St → Option ((Bool × (List Int)) × (List Int) × Bool × Int) := seqK (normAt 0 m16A false (m16c [true, true, true, true, true])) (cutK M m16A (m16c [true, true, true, true, true]) fun s => evC (m16E k) M (m16I k) 0 m16A (m16c [true, true, true, true, true]) s (retK Try.prog Try.f16 [.st (.pair .bool (.row (.int .u8))), .leaf (.own (.int .u8) 5), .leaf (.val .bool), .leaf (.val (.int .i64))])) (retK Try.prog Try.f16 [.st (.pair .bool (.row (.int .u8))), .leaf (.own (.int .u8) 5), .leaf (.val .bool), .leaf (.val (.int .i64))])
noncomputable def m16K11 (M : Cut ((Bool × (List Int)) × (List Int) × Bool × Int)) (k : Nat) : Exit → St → Option ((Bool × (List Int)) × (List Int) × Bool × Int) := seqK (normAt 0 m16A false (m16c [true, true, true, true, false, true])) (cutK M m16A (m16c [true, true, true, true, false, true]) fun s => evC (m16E k) M (m16I k) 0 m16A (m16c [true, true, true, true, false, true]) s (m16K10 M k)) (m16K10 M k)
noncomputable def m16K12 (M : Cut ((Bool × (List Int)) × (List Int) × Bool × Int)) (k : Nat) : Exit → St → Option ((Bool × (List Int)) × (List Int) × Bool × Int) := seqK (normAt 0 m16A false (m16c [true, true, true, true, false, true, false, true])) (cutK M m16A (m16c [true, true, true, true, false, true, false, true]) fun s => evC (m16E k) M (m16I k) 0 m16A (m16c [true, true, true, true, false, true, false, true]) s (m16K10 M k)) (m16K10 M k)
noncomputable def m16K13 (M : Cut ((Bool × (List Int)) × (List Int) × Bool × Int)) (k : Nat) : Exit → St → Option ((Bool × (List Int)) × (List Int) × Bool × Int) := seqK (normAt 0 m16A false (m16c [true, true, true, true, true, true])) (cutK M m16A (m16c [true, true, true, true, true, true]) fun s => evC (m16E k) M (m16I k) 0 m16A (m16c [true, true, true, true, true, true]) s (retK Try.prog Try.f16 [.st (.pair .bool (.row (.int .u8))), .leaf (.own (.int .u8) 5), .leaf (.val .bool), .leaf (.val (.int .i64))])) (retK Try.prog Try.f16 [.st (.pair .bool (.row (.int .u8))), .leaf (.own (.int .u8) 5), .leaf (.val .bool), .leaf (.val (.int .i64))])
noncomputable def m16K14 (M : Cut ((Bool × (List Int)) × (List Int) × Bool × Int)) (k : Nat) : Exit → St → Option ((Bool × (List Int)) × (List Int) × Bool × Int) := seqK (normAt 0 m16A false (m16c [true, true, true, true, true, false, true])) (cutK M m16A (m16c [true, true, true, true, true, false, true]) fun s => evC (m16E k) M (m16I k) 0 m16A (m16c [true, true, true, true, true, false, true]) s (m16K13 M k)) (m16K13 M k)
noncomputable def m16K15 (M : Cut ((Bool × (List Int)) × (List Int) × Bool × Int)) (k : Nat) : Exit → St → Option ((Bool × (List Int)) × (List Int) × Bool × Int) := seqK (normAt 0 m16A false (m16c [true, true, true, true, true, false, true, false, true])) (cutK M m16A (m16c [true, true, true, true, true, false, true, false, true]) fun s => evC (m16E k) M (m16I k) 0 m16A (m16c [true, true, true, true, true, false, true, false, true]) s (m16K13 M k)) (m16K13 M k)
noncomputable def m16K16 (M : Cut ((Bool × (List Int)) × (List Int) × Bool × Int)) (k : Nat) : Exit → St → Option ((Bool × (List Int)) × (List Int) × Bool × Int) := seqK (normAt 0 m16A false (m16c [true, true, true, true, true, true, true])) (cutK M m16A (m16c [true, true, true, true, true, true, true]) fun s => evC (m16E k) M (m16I k) 0 m16A (m16c [true, true, true, true, true, true, true]) s (retK Try.prog Try.f16 [.st (.pair .bool (.row (.int .u8))), .leaf (.own (.int .u8) 5), .leaf (.val .bool), .leaf (.val (.int .i64))])) (retK Try.prog Try.f16 [.st (.pair .bool (.row (.int .u8))), .leaf (.own (.int .u8) 5), .leaf (.val .bool), .leaf (.val (.int .i64))])
noncomputable def m16K17 (M : Cut ((Bool × (List Int)) × (List Int) × Bool × Int)) (k : Nat) : Exit → St → Option ((Bool × (List Int)) × (List Int) × Bool × Int) := seqK (normAt 0 m16A false (m16c [true, true, true, true, true, true, true, true])) (cutK M m16A (m16c [true, true, true, true, true, true, true, true]) fun s => evC (m16E k) M (m16I k) 0 m16A (m16c [true, true, true, true, true, true, true, true]) s (retK Try.prog Try.f16 [.st (.pair .bool (.row (.int .u8))), .leaf (.own (.int .u8) 5), .leaf (.val .bool), .leaf (.val (.int .i64))])) (retK Try.prog Try.f16 [.st (.pair .bool (.row (.int .u8))), .leaf (.own (.int .u8) 5), .leaf (.val .bool), .leaf (.val (.int .i64))])
noncomputable def m16K18 (M : Cut ((Bool × (List Int)) × (List Int) × Bool × Int)) (k : Nat) : Exit → St → Option ((Bool × (List Int)) × (List Int) × Bool × Int) := seqK (normAt 0 m16A false (m16c [true, true, true, true, true, true, true, false, true])) (cutK M m16A (m16c [true, true, true, true, true, true, true, false, true]) fun s => evC (m16E k) M (m16I k) 0 m16A (m16c [true, true, true, true, true, true, true, false, true]) s (m16K17 M k)) (m16K17 M k)
noncomputable def m16K19 (M : Cut ((Bool × (List Int)) × (List Int) × Bool × Int)) (k : Nat) : Exit → St → Option ((Bool × (List Int)) × (List Int) × Bool × Int) := seqK (normAt 0 m16A false (m16c [true, true, true, true, true, true, true, false, true, false, true])) (cutK M m16A (m16c [true, true, true, true, true, true, true, false, true, false, true]) fun s => evC (m16E k) M (m16I k) 0 m16A (m16c [true, true, true, true, true, true, true, false, true, false, true]) s (m16K17 M k)) (m16K17 M k)
noncomputable def m16K20 (M : Cut ((Bool × (List Int)) × (List Int) × Bool × Int)) (k : Nat) : Exit → St → Option ((Bool × (List Int)) × (List Int) × Bool × Int) := seqK (normAt 0 m16A false (m16c [true, true, true, true, true, true, true, true, true])) (cutK M m16A (m16c [true, true, true, true, true, true, true, true, true]) fun s => evC (m16E k) M (m16I k) 0 m16A (m16c [true, true, true, true, true, true, true, true, true]) s (retK Try.prog Try.f16 [.st (.pair .bool (.row (.int .u8))), .leaf (.own (.int .u8) 5), .leaf (.val .bool), .leaf (.val (.int .i64))])) (retK Try.prog Try.f16 [.st (.pair .bool (.row (.int .u8))), .leaf (.own (.int .u8) 5), .leaf (.val .bool), .leaf (.val (.int .i64))])
noncomputable def m16S16 (b0_0 : Int) (b0_1 : Int) (b0_2 : List Int) (b1_0 : Bool) (b2 : List Int) : St := { n := 67, tm := slots [(3, .ptr 0 0), (4, .ptr 1 0)], tab := blks [some (.cells 38 [.int .i64 b0_0, .int .i64 b0_1, .row (.int .u8) b0_2]), some (.cells 34 [.bool b1_0, .own 2]), some (.row true (.int .u8) 5 b2)], nx := 3 }

noncomputable def m16X (X16 : Int → Int → List Int → Bool → List Int → Option ((Bool × (List Int)) × (List Int) × Bool × Int)) (k : Nat) (p0 : (Bool × (List Int))) (p1 : (Int × (Int × (List Int)))) : Option ((Bool × (List Int)) × (List Int) × Bool × Int) := (Option.bind (m39F k (Prod.fst p0, Prod.snd p0)) fun (c4 : Int) => (if (!eqI c4 0) = true then some (((false, []), [], false, 1)) else (if ltI (Prod.fst (Prod.snd p1)) 0 = true then some (((false, []), [], false, 1)) else (if ltI 3 (Prod.fst (Prod.snd p1)) = true then some (((false, []), [], false, 1)) else (if ltI 16 (↑(List.length (Prod.snd (Prod.snd p1))) : Int) = true then some (((false, []), [], false, 2)) else (Option.bind (m40F k (Prod.snd p0)) fun (c5 : (List Int)) => (if (!eqI (bits BinOp.and IntKind.i64 (Prod.fst (Prod.snd p1)) 1) 0) = true then X16 (Prod.fst p1) (Prod.fst (Prod.snd p1)) (Prod.snd (Prod.snd p1)) (true) ([]) else X16 (Prod.fst p1) (Prod.fst (Prod.snd p1)) (Prod.snd (Prod.snd p1)) (Prod.fst p0) c5)))))))

theorem m16x (M : Cut ((Bool × (List Int)) × (List Int) × Bool × Int)) (k : Nat) (p0 : (Bool × (List Int))) (p1 : (Int × (Int × (List Int)))) : evC (m16E k) M (m16I k) 0 m16A (m16c []) (stAt Try.f16 (argSs [.st (.pair .bool (.row (.int .u8))), .st (.pair (.int .i64) (.pair (.int .i64) (.row (.int .u8))))] (p0, p1)) (fun _ => none) 0) (retK Try.prog Try.f16 [.st (.pair .bool (.row (.int .u8))), .leaf (.own (.int .u8) 5), .leaf (.val .bool), .leaf (.val (.int .i64))]) = m16X (fun b0_0' b0_1' b0_2' b1_0' b2' => M 16 (fun s => evC (m16E k) M (m16I k) 0 m16A (m16c [true, true, true, true]) s (retK Try.prog Try.f16 [.st (.pair .bool (.row (.int .u8))), .leaf (.own (.int .u8) 5), .leaf (.val .bool), .leaf (.val (.int .i64))])) (m16S16 b0_0' b0_1' b0_2' b1_0' b2')) k p0 p1 := by kernel_rfl

noncomputable def m16X16 (k : Nat) (b0_0 : Int) (b0_1 : Int) (b0_2 : List Int) (b1_0 : Bool) (b2 : List Int) : Option ((Bool × (List Int)) × (List Int) × Bool × Int) := (if (!b1_0) = true then some (((b1_0, b2), [], false, 0)) else (if ltI 4096 (wr IntKind.i64 ((↑(List.length b2) : Int) + (↑(List.length b0_2) : Int))) = true then some (((false, []), [], false, 2)) else (if leI (↑((List.length b2 + List.length b0_2) * 1) : Int) 140737488355328 = true then (if (!eqI (bits BinOp.and IntKind.i64 b0_1 2) 0) = true then some (((false, []), b2 ++ b0_2, true, 0)) else some (((b1_0, b2 ++ b0_2), [], false, 0))) else none)))

theorem m16x16 (M : Cut ((Bool × (List Int)) × (List Int) × Bool × Int)) (k : Nat) (b0_0 : Int) (b0_1 : Int) (b0_2 : List Int) (b1_0 : Bool) (b2 : List Int) : evC (m16E k) M (m16I k) 0 m16A (m16c [true, true, true, true]) (m16S16 b0_0 b0_1 b0_2 b1_0 b2) (retK Try.prog Try.f16 [.st (.pair .bool (.row (.int .u8))), .leaf (.own (.int .u8) 5), .leaf (.val .bool), .leaf (.val (.int .i64))]) = m16X16 k b0_0 b0_1 b0_2 b1_0 b2 := by kernel_rfl

noncomputable def m16F16 (k : Nat) (b0_0 : Int) (b0_1 : Int) (b0_2 : List Int) (b1_0 : Bool) (b2 : List Int) : Option ((Bool × (List Int)) × (List Int) × Bool × Int) := m16X16 k b0_0 b0_1 b0_2 b1_0 b2

theorem m16q16 (k : Nat) (b0_0 : Int) (b0_1 : Int) (b0_2 : List Int) (b1_0 : Bool) (b2 : List Int) : evC (m16E k) (fun _ f => f) (m16I k) 0 m16A (m16c [true, true, true, true]) (m16S16 b0_0 b0_1 b0_2 b1_0 b2) (retK Try.prog Try.f16 [.st (.pair .bool (.row (.int .u8))), .leaf (.own (.int .u8) 5), .leaf (.val .bool), .leaf (.val (.int .i64))]) = m16F16 k b0_0 b0_1 b0_2 b1_0 b2 := by
    show _ = m16X16 k b0_0 b0_1 b0_2 b1_0 b2
    exact m16x16 (fun _ f => f) k b0_0 b0_1 b0_2 b1_0 b2

noncomputable def m16F (k : Nat) (p0 : (Bool × (List Int))) (p1 : (Int × (Int × (List Int)))) : Option ((Bool × (List Int)) × (List Int) × Bool × Int) := m16X (m16F16 k) k p0 p1

theorem m16q (k : Nat) (p0 : (Bool × (List Int))) (p1 : (Int × (Int × (List Int)))) : evC (m16E k) (fun _ f => f) (m16I k) 0 m16A (m16c []) (stAt Try.f16 (argSs [.st (.pair .bool (.row (.int .u8))), .st (.pair (.int .i64) (.pair (.int .i64) (.row (.int .u8))))] (p0, p1)) (fun _ => none) 0) (retK Try.prog Try.f16 [.st (.pair .bool (.row (.int .u8))), .leaf (.own (.int .u8) 5), .leaf (.val .bool), .leaf (.val (.int .i64))]) = m16F k p0 p1 := by
    have e16 : m16F16 k = (fun b0_0' b0_1' b0_2' b1_0' b2' => evC (m16E k) (fun _ f => f) (m16I k) 0 m16A (m16c [true, true, true, true]) (m16S16 b0_0' b0_1' b0_2' b1_0' b2') (retK Try.prog Try.f16 [.st (.pair .bool (.row (.int .u8))), .leaf (.own (.int .u8) 5), .leaf (.val .bool), .leaf (.val (.int .i64))])) := funext fun b0_0' => funext fun b0_1' => funext fun b0_2' => funext fun b1_0' => funext fun b2' => (m16q16 k b0_0' b0_1' b0_2' b1_0' b2').symm
    show _ = m16X (m16F16 k) k p0 p1
    rw [e16]
    exact m16x (fun _ f => f) k p0 p1

noncomputable def m16sp : Spec := { ps := [.st (.pair .bool (.row (.int .u8))), .st (.pair (.int .i64) (.pair (.int .i64) (.row (.int .u8))))], rs := [.st (.pair .bool (.row (.int .u8))), .leaf (.own (.int .u8) 5), .leaf (.val .bool), .leaf (.val (.int .i64))], f := fun k a => m16F k a.1 a.2 }

theorem m16ok (k : Nat) : EnvOk (m16E k) := envOk_of (l := [(39, m39sp), (40, m40sp)]) progNames progMixed rfl (.cons ⟨m39con k, Try.f39, by kernel_rfl, by kernel_rfl⟩ (.cons ⟨m40con k, Try.f40, by kernel_rfl, by kernel_rfl⟩ (.nil)))

theorem m16con (k : Nat) : Contract Try.prog k 16 m16sp := contract_of (E := m16E k) (m16ok k) (A := only 16 m16A) (d := 3) (c := m16c []) (by kernel_rfl) (by kernel_rfl) fun a _ h => (m16q k a.1 a.2).trans h

noncomputable def m17A : Anns := tabA []
noncomputable def m17E (k : Nat) : Env := { P := Try.prog, k := k, G := tabG [(16, m16sp)] }
noncomputable def m17c (p : List Bool) : Code := sub p (bodyOf Try.f17)
noncomputable def m17I (k : Nat) : Inl Bool := inlOf (m17E k) (only 17 m17A) 3
noncomputable def m17K0 (M : Cut Bool) (k : Nat) : Exit → St → Option Bool := seqK (normAt 0 m17A false (m17c [true])) (cutK M m17A (m17c [true]) fun s => evC (m17E k) M (m17I k) 0 m17A (m17c [true]) s (retK Try.prog Try.f17 [.leaf (.val .bool)])) (retK Try.prog Try.f17 [.leaf (.val .bool)])
noncomputable def m17K1 (M : Cut Bool) (k : Nat) : Exit → St → Option Bool := seqK (normAt 0 m17A false (m17c [true, true])) (cutK M m17A (m17c [true, true]) fun s => evC (m17E k) M (m17I k) 0 m17A (m17c [true, true]) s (retK Try.prog Try.f17 [.leaf (.val .bool)])) (retK Try.prog Try.f17 [.leaf (.val .bool)])
noncomputable def m17K2 (M : Cut Bool) (k : Nat) : Exit → St → Option Bool := seqK (normAt 0 m17A false (m17c [true, true, true])) (cutK M m17A (m17c [true, true, true]) fun s => evC (m17E k) M (m17I k) 0 m17A (m17c [true, true, true]) s (retK Try.prog Try.f17 [.leaf (.val .bool)])) (retK Try.prog Try.f17 [.leaf (.val .bool)])

noncomputable def m17X (k : Nat) : Option Bool := (Option.bind (m16F k (false, []) (0, 3, List.set (List.replicate 1 0) 0 120)) fun (c2 : ((Bool × (List Int)) × ((List Int) × (Bool × Int)))) => (if eqI (Prod.snd (Prod.snd (Prod.snd c2))) 0 = true then (if Prod.fst (Prod.snd (Prod.snd c2)) = true then (if (ByteArray.toList (strOf (Prod.fst (Prod.snd c2))) == ByteArray.toList (ByteArray.mk #[120])) = true then (if (!Prod.fst (Prod.fst c2)) = true then some (eqI (↑(List.length (Prod.snd (Prod.fst c2))) : Int) 0) else some (false)) else some (false)) else some (false)) else some (false)))

theorem m17x (M : Cut Bool) (k : Nat) : evC (m17E k) M (m17I k) 0 m17A (m17c []) (stAt Try.f17 (argSs [] ()) (fun _ => none) 0) (retK Try.prog Try.f17 [.leaf (.val .bool)]) = m17X k := by kernel_rfl

noncomputable def m17F (k : Nat) : Option Bool := m17X k

theorem m17q (k : Nat) : evC (m17E k) (fun _ f => f) (m17I k) 0 m17A (m17c []) (stAt Try.f17 (argSs [] ()) (fun _ => none) 0) (retK Try.prog Try.f17 [.leaf (.val .bool)]) = m17F k := by
    show _ = m17X k
    exact m17x (fun _ f => f) k

noncomputable def m17sp : Spec := { ps := [], rs := [.leaf (.val .bool)], f := fun k a => m17F k }

theorem m17ok (k : Nat) : EnvOk (m17E k) := envOk_of (l := [(16, m16sp)]) progNames progMixed rfl (.cons ⟨m16con k, Try.f16, by kernel_rfl, by kernel_rfl⟩ (.nil))

theorem m17con (k : Nat) : Contract Try.prog k 17 m17sp := contract_of (E := m17E k) (m17ok k) (A := only 17 m17A) (d := 3) (c := m17c []) (by kernel_rfl) (by kernel_rfl) fun a _ h => (m17q k).trans h

noncomputable def m38A : Anns := tabA []
noncomputable def m38E (k : Nat) : Env := { P := Try.prog, k := k, G := tabG [] }
noncomputable def m38c (p : List Bool) : Code := sub p (bodyOf Try.f38)
noncomputable def m38I (k : Nat) : Inl Int := inlOf (m38E k) (only 38 m38A) 3
noncomputable def m38K0 (M : Cut Int) (k : Nat) : Exit → St → Option Int := seqK (normAt 0 m38A false (m38c [true])) (cutK M m38A (m38c [true]) fun s => evC (m38E k) M (m38I k) 0 m38A (m38c [true]) s (retK Try.prog Try.f38 [.leaf (.val (.int .i64))])) (retK Try.prog Try.f38 [.leaf (.val (.int .i64))])
noncomputable def m38K1 (M : Cut Int) (k : Nat) : Exit → St → Option Int := seqK (normAt 0 m38A false (m38c [true, true])) (cutK M m38A (m38c [true, true]) fun s => evC (m38E k) M (m38I k) 0 m38A (m38c [true, true]) s (retK Try.prog Try.f38 [.leaf (.val (.int .i64))])) (retK Try.prog Try.f38 [.leaf (.val (.int .i64))])

noncomputable def m38X (k : Nat) (p0 : Int) (p1 : Int) : Option Int := (if (!eqI p1 0) = true then some (wr IntKind.i64 (Int.tdiv (wr IntKind.i64 (wr IntKind.i64 (p0 + p1) - 1)) p1)) else none)

theorem m38x (M : Cut Int) (k : Nat) (p0 : Int) (p1 : Int) : evC (m38E k) M (m38I k) 0 m38A (m38c []) (stAt Try.f38 (argSs [.leaf (.val (.int .i64)), .leaf (.val (.int .i64))] (p0, p1)) (fun _ => none) 0) (retK Try.prog Try.f38 [.leaf (.val (.int .i64))]) = m38X k p0 p1 := by kernel_rfl

noncomputable def m38F (k : Nat) (p0 : Int) (p1 : Int) : Option Int := m38X k p0 p1

theorem m38q (k : Nat) (p0 : Int) (p1 : Int) : evC (m38E k) (fun _ f => f) (m38I k) 0 m38A (m38c []) (stAt Try.f38 (argSs [.leaf (.val (.int .i64)), .leaf (.val (.int .i64))] (p0, p1)) (fun _ => none) 0) (retK Try.prog Try.f38 [.leaf (.val (.int .i64))]) = m38F k p0 p1 := by
    show _ = m38X k p0 p1
    exact m38x (fun _ f => f) k p0 p1

noncomputable def m38sp : Spec := { ps := [.leaf (.val (.int .i64)), .leaf (.val (.int .i64))], rs := [.leaf (.val (.int .i64))], f := fun k a => m38F k a.1 a.2 }

theorem m38ok (k : Nat) : EnvOk (m38E k) := envOk_of (l := []) progNames progMixed rfl (.nil)

theorem m38con (k : Nat) : Contract Try.prog k 38 m38sp := contract_of (E := m38E k) (m38ok k) (A := only 38 m38A) (d := 3) (c := m38c []) (by kernel_rfl) (by kernel_rfl) fun a _ h => (m38q k a.1 a.2).trans h

noncomputable def m19A : Anns := tabA []
noncomputable def m19E (k : Nat) : Env := { P := Try.prog, k := k, G := tabG [(12, m12sp), (38, m38sp)] }
noncomputable def m19c (p : List Bool) : Code := sub p (bodyOf Try.f19)
noncomputable def m19I (k : Nat) : Inl Int := inlOf (m19E k) (only 19 m19A) 3
noncomputable def m19K0 (M : Cut Int) (k : Nat) : Exit → St → Option Int := seqK (normAt 0 m19A false (m19c [true])) (cutK M m19A (m19c [true]) fun s => evC (m19E k) M (m19I k) 0 m19A (m19c [true]) s (retK Try.prog Try.f19 [.leaf (.val (.int .i64))])) (retK Try.prog Try.f19 [.leaf (.val (.int .i64))])
noncomputable def m19K1 (M : Cut Int) (k : Nat) : Exit → St → Option Int := seqK (normAt 0 m19A false (m19c [true, true])) (cutK M m19A (m19c [true, true]) fun s => evC (m19E k) M (m19I k) 0 m19A (m19c [true, true]) s (retK Try.prog Try.f19 [.leaf (.val (.int .i64))])) (retK Try.prog Try.f19 [.leaf (.val (.int .i64))])
noncomputable def m19K2 (M : Cut Int) (k : Nat) : Exit → St → Option Int := blockK 0 (m19K1 M k)
noncomputable def m19K3 (M : Cut Int) (k : Nat) : Exit → St → Option Int := seqK (normAt 0 m19A false (m19c [true, false, true, true])) (cutK M m19A (m19c [true, false, true, true]) fun s => evC (m19E k) M (m19I k) 0 m19A (m19c [true, false, true, true]) s (m19K2 M k)) (m19K2 M k)
noncomputable def m19K4 (M : Cut Int) (k : Nat) : Exit → St → Option Int := seqK (normAt 0 m19A false (m19c [true, false, true, true, false, true])) (cutK M m19A (m19c [true, false, true, true, false, true]) fun s => evC (m19E k) M (m19I k) 0 m19A (m19c [true, false, true, true, false, true]) s (m19K2 M k)) (m19K2 M k)
noncomputable def m19K5 (M : Cut Int) (k : Nat) : Exit → St → Option Int := seqK (normAt 0 m19A false (m19c [true, false, true, true, true, true])) (cutK M m19A (m19c [true, false, true, true, true, true]) fun s => evC (m19E k) M (m19I k) 0 m19A (m19c [true, false, true, true, true, true]) s (m19K2 M k)) (m19K2 M k)
noncomputable def m19K6 (M : Cut Int) (k : Nat) : Exit → St → Option Int := seqK (normAt 0 m19A false (m19c [true, false, true, true, true, true, false, true])) (cutK M m19A (m19c [true, false, true, true, true, true, false, true]) fun s => evC (m19E k) M (m19I k) 0 m19A (m19c [true, false, true, true, true, true, false, true]) s (m19K2 M k)) (m19K2 M k)
noncomputable def m19K7 (M : Cut Int) (k : Nat) : Exit → St → Option Int := seqK (normAt 0 m19A false (m19c [true, true, true])) (cutK M m19A (m19c [true, true, true]) fun s => evC (m19E k) M (m19I k) 0 m19A (m19c [true, true, true]) s (retK Try.prog Try.f19 [.leaf (.val (.int .i64))])) (retK Try.prog Try.f19 [.leaf (.val (.int .i64))])

noncomputable def m19X (k : Nat) (p0 : (Int × (Int × (Int × (Int × (Int × (Int × (Int × (Int × (Int × Int)))))))))) (p1 : Int) : Option Int := (Option.bind (m12F k
  (Prod.fst p0, Prod.fst (Prod.snd p0), Prod.fst (Prod.snd (Prod.snd p0)), Prod.fst (Prod.snd (Prod.snd (Prod.snd p0))),
    Prod.fst (Prod.snd (Prod.snd (Prod.snd (Prod.snd p0)))),
    Prod.fst (Prod.snd (Prod.snd (Prod.snd (Prod.snd (Prod.snd p0))))),
    Prod.fst (Prod.snd (Prod.snd (Prod.snd (Prod.snd (Prod.snd (Prod.snd p0)))))),
    Prod.fst (Prod.snd (Prod.snd (Prod.snd (Prod.snd (Prod.snd (Prod.snd (Prod.snd p0))))))),
    Prod.fst (Prod.snd (Prod.snd (Prod.snd (Prod.snd (Prod.snd (Prod.snd (Prod.snd (Prod.snd p0)))))))),
    Prod.snd (Prod.snd (Prod.snd (Prod.snd (Prod.snd (Prod.snd (Prod.snd (Prod.snd (Prod.snd p0)))))))))) fun (c4 : Int) => (if (!eqI c4 0) = true then some (0) else (if ltI p1 0 = true then some (0) else (if ltI 200 p1 = true then some (0) else (if eqI p1 0 = true then some (1) else (Option.bind (m38F k p1 (Prod.fst p0)) fun (c5 : Int) => some c5))))))

theorem m19x (M : Cut Int) (k : Nat) (p0 : (Int × (Int × (Int × (Int × (Int × (Int × (Int × (Int × (Int × Int)))))))))) (p1 : Int) : evC (m19E k) M (m19I k) 0 m19A (m19c []) (stAt Try.f19 (argSs [.st (.pair (.int .i64) (.pair (.int .i64) (.pair (.int .i64) (.pair (.int .i64) (.pair (.int .i64) (.pair (.int .i64) (.pair (.int .i64) (.pair (.int .i64) (.pair (.int .i64) (.int .i64)))))))))), .leaf (.val (.int .i64))] (p0, p1)) (fun _ => none) 0) (retK Try.prog Try.f19 [.leaf (.val (.int .i64))]) = m19X k p0 p1 := by kernel_rfl

noncomputable def m19F (k : Nat) (p0 : (Int × (Int × (Int × (Int × (Int × (Int × (Int × (Int × (Int × Int)))))))))) (p1 : Int) : Option Int := m19X k p0 p1

theorem m19q (k : Nat) (p0 : (Int × (Int × (Int × (Int × (Int × (Int × (Int × (Int × (Int × Int)))))))))) (p1 : Int) : evC (m19E k) (fun _ f => f) (m19I k) 0 m19A (m19c []) (stAt Try.f19 (argSs [.st (.pair (.int .i64) (.pair (.int .i64) (.pair (.int .i64) (.pair (.int .i64) (.pair (.int .i64) (.pair (.int .i64) (.pair (.int .i64) (.pair (.int .i64) (.pair (.int .i64) (.int .i64)))))))))), .leaf (.val (.int .i64))] (p0, p1)) (fun _ => none) 0) (retK Try.prog Try.f19 [.leaf (.val (.int .i64))]) = m19F k p0 p1 := by
    show _ = m19X k p0 p1
    exact m19x (fun _ f => f) k p0 p1

noncomputable def m19sp : Spec := { ps := [.st (.pair (.int .i64) (.pair (.int .i64) (.pair (.int .i64) (.pair (.int .i64) (.pair (.int .i64) (.pair (.int .i64) (.pair (.int .i64) (.pair (.int .i64) (.pair (.int .i64) (.int .i64)))))))))), .leaf (.val (.int .i64))], rs := [.leaf (.val (.int .i64))], f := fun k a => m19F k a.1 a.2 }

theorem m19ok (k : Nat) : EnvOk (m19E k) := envOk_of (l := [(12, m12sp), (38, m38sp)]) progNames progMixed rfl (.cons ⟨m12con k, Try.f12, by kernel_rfl, by kernel_rfl⟩ (.cons ⟨m38con k, Try.f38, by kernel_rfl, by kernel_rfl⟩ (.nil)))

theorem m19con (k : Nat) : Contract Try.prog k 19 m19sp := contract_of (E := m19E k) (m19ok k) (A := only 19 m19A) (d := 3) (c := m19c []) (by kernel_rfl) (by kernel_rfl) fun a _ h => (m19q k a.1 a.2).trans h

noncomputable def m26A : Anns := tabA []
noncomputable def m26E (k : Nat) : Env := { P := Try.prog, k := k, G := tabG [] }
noncomputable def m26c (p : List Bool) : Code := sub p (bodyOf Try.f26)
noncomputable def m26I (k : Nat) : Inl (List Int) := inlOf (m26E k) (only 26 m26A) 3
noncomputable def m26K0 (M : Cut (List Int)) (k : Nat) : Exit → St → Option (List Int) := seqK (normAt 0 m26A false (m26c [true])) (cutK M m26A (m26c [true]) fun s => evC (m26E k) M (m26I k) 0 m26A (m26c [true]) s (retK Try.prog Try.f26 [.leaf (.own (.int .u8) 5)])) (retK Try.prog Try.f26 [.leaf (.own (.int .u8) 5)])
noncomputable def m26K1 (M : Cut (List Int)) (k : Nat) : Exit → St → Option (List Int) := seqK (normAt 0 m26A false (m26c [true, true])) (cutK M m26A (m26c [true, true]) fun s => evC (m26E k) M (m26I k) 0 m26A (m26c [true, true]) s (retK Try.prog Try.f26 [.leaf (.own (.int .u8) 5)])) (retK Try.prog Try.f26 [.leaf (.own (.int .u8) 5)])
noncomputable def m26K2 (M : Cut (List Int)) (k : Nat) : Exit → St → Option (List Int) := seqK (normAt 0 m26A false (m26c [true, true, true])) (cutK M m26A (m26c [true, true, true]) fun s => evC (m26E k) M (m26I k) 0 m26A (m26c [true, true, true]) s (retK Try.prog Try.f26 [.leaf (.own (.int .u8) 5)])) (retK Try.prog Try.f26 [.leaf (.own (.int .u8) 5)])

noncomputable def m26X (k : Nat) (p0 : (List Int)) : Option (List Int) := (if leI (↑(List.length p0 * 1) : Int) 140737488355328 = true then some p0 else none)

theorem m26x (M : Cut (List Int)) (k : Nat) (p0 : (List Int)) : evC (m26E k) M (m26I k) 0 m26A (m26c []) (stAt Try.f26 (argSs [.leaf (.val (.row (.int .u8)))] p0) (fun _ => none) 0) (retK Try.prog Try.f26 [.leaf (.own (.int .u8) 5)]) = m26X k p0 := by kernel_rfl

noncomputable def m26F (k : Nat) (p0 : (List Int)) : Option (List Int) := m26X k p0

theorem m26q (k : Nat) (p0 : (List Int)) : evC (m26E k) (fun _ f => f) (m26I k) 0 m26A (m26c []) (stAt Try.f26 (argSs [.leaf (.val (.row (.int .u8)))] p0) (fun _ => none) 0) (retK Try.prog Try.f26 [.leaf (.own (.int .u8) 5)]) = m26F k p0 := by
    show _ = m26X k p0
    exact m26x (fun _ f => f) k p0

noncomputable def m26sp : Spec := { ps := [.leaf (.val (.row (.int .u8)))], rs := [.leaf (.own (.int .u8) 5)], f := fun k a => m26F k a }

theorem m26ok (k : Nat) : EnvOk (m26E k) := envOk_of (l := []) progNames progMixed rfl (.nil)

theorem m26con (k : Nat) : Contract Try.prog k 26 m26sp := contract_of (E := m26E k) (m26ok k) (A := only 26 m26A) (d := 3) (c := m26c []) (by kernel_rfl) (by kernel_rfl) fun a _ h => (m26q k a).trans h

noncomputable def m27A : Anns := tabA [(23, { keep := [1, 2, 3, 9, 10, 37, 38], mat := [(10, (.pair (.int .i64) (.pair (.int .i64) (.row (.int .u8)))), 38)] }), (32, { keep := [1, 2, 3, 9, 10, 11, 12, 37, 38] }), (36, { keep := [1, 2, 3, 9, 10, 12, 37, 38] }), (40, { keep := [10] })]
noncomputable def m27E (k : Nat) : Env := { P := Try.prog, k := k, G := tabG [(12, m12sp), (19, m19sp), (40, m40sp)] }
noncomputable def m27c (p : List Bool) : Code := sub p (bodyOf Try.f27)
noncomputable def m27I (k : Nat) : Inl ((List (Int × (Int × (List Int)))) × Int) := inlOf (m27E k) (only 27 m27A) 3
noncomputable def m27K0 (M : Cut ((List (Int × (Int × (List Int)))) × Int)) (k : Nat) : Exit → St → Option ((List (Int × (Int × (List Int)))) × Int) := seqK (normAt 0 m27A false (m27c [true])) (cutK M m27A (m27c [true]) fun s => evC (m27E k) M (m27I k) 0 m27A (m27c [true]) s (retK Try.prog Try.f27 [.leaf (.own (.pair (.int .i64) (.pair (.int .i64) (.row (.int .u8)))) 38), .leaf (.val (.int .i64))])) (retK Try.prog Try.f27 [.leaf (.own (.pair (.int .i64) (.pair (.int .i64) (.row (.int .u8)))) 38), .leaf (.val (.int .i64))])
noncomputable def m27K1 (M : Cut ((List (Int × (Int × (List Int)))) × Int)) (k : Nat) : Exit → St → Option ((List (Int × (Int × (List Int)))) × Int) := seqK (normAt 0 m27A false (m27c [true, true])) (cutK M m27A (m27c [true, true]) fun s => evC (m27E k) M (m27I k) 0 m27A (m27c [true, true]) s (retK Try.prog Try.f27 [.leaf (.own (.pair (.int .i64) (.pair (.int .i64) (.row (.int .u8)))) 38), .leaf (.val (.int .i64))])) (retK Try.prog Try.f27 [.leaf (.own (.pair (.int .i64) (.pair (.int .i64) (.row (.int .u8)))) 38), .leaf (.val (.int .i64))])
noncomputable def m27K2 (M : Cut ((List (Int × (Int × (List Int)))) × Int)) (k : Nat) : Exit → St → Option ((List (Int × (Int × (List Int)))) × Int) := seqK (normAt 0 m27A false (m27c [true, true, true])) (cutK M m27A (m27c [true, true, true]) fun s => evC (m27E k) M (m27I k) 0 m27A (m27c [true, true, true]) s (retK Try.prog Try.f27 [.leaf (.own (.pair (.int .i64) (.pair (.int .i64) (.row (.int .u8)))) 38), .leaf (.val (.int .i64))])) (retK Try.prog Try.f27 [.leaf (.own (.pair (.int .i64) (.pair (.int .i64) (.row (.int .u8)))) 38), .leaf (.val (.int .i64))])
noncomputable def m27K3 (M : Cut ((List (Int × (Int × (List Int)))) × Int)) (k : Nat) : Exit → St → Option ((List (Int × (Int × (List Int)))) × Int) := blockK 0 (m27K2 M k)
noncomputable def m27K4 (M : Cut ((List (Int × (Int × (List Int)))) × Int)) (k : Nat) : Exit → St → Option ((List (Int × (Int × (List Int)))) × Int) := seqK (normAt 0 m27A false (m27c [true, true, false, true, true])) (cutK M m27A (m27c [true, true, false, true, true]) fun s => evC (m27E k) M (m27I k) 0 m27A (m27c [true, true, false, true, true]) s (m27K3 M k)) (m27K3 M k)
noncomputable def m27K5 (M : Cut ((List (Int × (Int × (List Int)))) × Int)) (k : Nat) : Exit → St → Option ((List (Int × (Int × (List Int)))) × Int) := seqK (normAt 0 m27A false (m27c [true, true, false, true, true, false, true])) (cutK M m27A (m27c [true, true, false, true, true, false, true]) fun s => evC (m27E k) M (m27I k) 0 m27A (m27c [true, true, false, true, true, false, true]) s (m27K3 M k)) (m27K3 M k)
noncomputable def m27K6 (M : Cut ((List (Int × (Int × (List Int)))) × Int)) (k : Nat) : Exit → St → Option ((List (Int × (Int × (List Int)))) × Int) := seqK (normAt 0 m27A false (m27c [true, true, false, true, true, true, true])) (cutK M m27A (m27c [true, true, false, true, true, true, true]) fun s => evC (m27E k) M (m27I k) 0 m27A (m27c [true, true, false, true, true, true, true]) s (m27K3 M k)) (m27K3 M k)
noncomputable def m27K7 (M : Cut ((List (Int × (Int × (List Int)))) × Int)) (k : Nat) : Exit → St → Option ((List (Int × (Int × (List Int)))) × Int) := seqK (normAt 0 m27A false (m27c [true, true, false, true, true, true, true, false, true])) (cutK M m27A (m27c [true, true, false, true, true, true, true, false, true]) fun s => evC (m27E k) M (m27I k) 0 m27A (m27c [true, true, false, true, true, true, true, false, true]) s (m27K3 M k)) (m27K3 M k)
noncomputable def m27K8 (M : Cut ((List (Int × (Int × (List Int)))) × Int)) (k : Nat) : Exit → St → Option ((List (Int × (Int × (List Int)))) × Int) := seqK (normAt 0 m27A false (m27c [true, true, true, true])) (cutK M m27A (m27c [true, true, true, true]) fun s => evC (m27E k) M (m27I k) 0 m27A (m27c [true, true, true, true]) s (retK Try.prog Try.f27 [.leaf (.own (.pair (.int .i64) (.pair (.int .i64) (.row (.int .u8)))) 38), .leaf (.val (.int .i64))])) (retK Try.prog Try.f27 [.leaf (.own (.pair (.int .i64) (.pair (.int .i64) (.row (.int .u8)))) 38), .leaf (.val (.int .i64))])
noncomputable def m27K9 (M : Cut ((List (Int × (Int × (List Int)))) × Int)) (k : Nat) : Exit → St → Option ((List (Int × (Int × (List Int)))) × Int) := seqK (normAt 0 m27A false (m27c [true, true, true, true, true])) (cutK M m27A (m27c [true, true, true, true, true]) fun s => evC (m27E k) M (m27I k) 0 m27A (m27c [true, true, true, true, true]) s (retK Try.prog Try.f27 [.leaf (.own (.pair (.int .i64) (.pair (.int .i64) (.row (.int .u8)))) 38), .leaf (.val (.int .i64))])) (retK Try.prog Try.f27 [.leaf (.own (.pair (.int .i64) (.pair (.int .i64) (.row (.int .u8)))) 38), .leaf (.val (.int .i64))])
noncomputable def m27K10 (M : Cut ((List (Int × (Int × (List Int)))) × Int)) (k : Nat) : Exit → St → Option ((List (Int × (Int × (List Int)))) × Int) := seqK (normAt 0 m27A false (m27c [true, true, true, true, false, true])) (cutK M m27A (m27c [true, true, true, true, false, true]) fun s => evC (m27E k) M (m27I k) 0 m27A (m27c [true, true, true, true, false, true]) s (m27K9 M k)) (m27K9 M k)
noncomputable def m27K11 (M : Cut ((List (Int × (Int × (List Int)))) × Int)) (k : Nat) : Exit → St → Option ((List (Int × (Int × (List Int)))) × Int) := seqK (normAt 0 m27A false (m27c [true, true, true, true, false, true, false, true])) (cutK M m27A (m27c [true, true, true, true, false, true, false, true]) fun s => evC (m27E k) M (m27I k) 0 m27A (m27c [true, true, true, true, false, true, false, true]) s (m27K9 M k)) (m27K9 M k)
noncomputable def m27K12 (M : Cut ((List (Int × (Int × (List Int)))) × Int)) (k : Nat) : Exit → St → Option ((List (Int × (Int × (List Int)))) × Int) := seqK (normAt 0 m27A false (m27c [true, true, true, true, true, true])) (cutK M m27A (m27c [true, true, true, true, true, true]) fun s => evC (m27E k) M (m27I k) 0 m27A (m27c [true, true, true, true, true, true]) s (retK Try.prog Try.f27 [.leaf (.own (.pair (.int .i64) (.pair (.int .i64) (.row (.int .u8)))) 38), .leaf (.val (.int .i64))])) (retK Try.prog Try.f27 [.leaf (.own (.pair (.int .i64) (.pair (.int .i64) (.row (.int .u8)))) 38), .leaf (.val (.int .i64))])
noncomputable def m27K13 (M : Cut ((List (Int × (Int × (List Int)))) × Int)) (k : Nat) : Exit → St → Option ((List (Int × (Int × (List Int)))) × Int) := seqK (normAt 0 m27A false (m27c [true, true, true, true, true, true, true])) (cutK M m27A (m27c [true, true, true, true, true, true, true]) fun s => evC (m27E k) M (m27I k) 0 m27A (m27c [true, true, true, true, true, true, true]) s (retK Try.prog Try.f27 [.leaf (.own (.pair (.int .i64) (.pair (.int .i64) (.row (.int .u8)))) 38), .leaf (.val (.int .i64))])) (retK Try.prog Try.f27 [.leaf (.own (.pair (.int .i64) (.pair (.int .i64) (.row (.int .u8)))) 38), .leaf (.val (.int .i64))])
noncomputable def m27K14 (M : Cut ((List (Int × (Int × (List Int)))) × Int)) (k : Nat) : Exit → St → Option ((List (Int × (Int × (List Int)))) × Int) := seqK (normAt 0 m27A false (m27c [true, true, true, true, true, true, false, true])) (cutK M m27A (m27c [true, true, true, true, true, true, false, true]) fun s => evC (m27E k) M (m27I k) 0 m27A (m27c [true, true, true, true, true, true, false, true]) s (m27K13 M k)) (m27K13 M k)
noncomputable def m27K15 (M : Cut ((List (Int × (Int × (List Int)))) × Int)) (k : Nat) : Exit → St → Option ((List (Int × (Int × (List Int)))) × Int) := blockK 1 (m27K13 M k)
noncomputable def m27K16 (M : Cut ((List (Int × (Int × (List Int)))) × Int)) (k : Nat) (L23 : St → Option ((List (Int × (Int × (List Int)))) × Int)) : Exit → St → Option ((List (Int × (Int × (List Int)))) × Int) := seqK (normAt 0 m27A true (m27c [true, true, true, true, true, true, false, true, true, true])) L23 (m27K15 M k)
noncomputable def m27K17 (M : Cut ((List (Int × (Int × (List Int)))) × Int)) (k : Nat) (L23 : St → Option ((List (Int × (Int × (List Int)))) × Int)) : Exit → St → Option ((List (Int × (Int × (List Int)))) × Int) := seqK (normAt 0 m27A false (m27c [true, true, true, true, true, true, false, true, true, true, true])) (cutK M m27A (m27c [true, true, true, true, true, true, false, true, true, true, true]) fun s => evC (m27E k) M (m27I k) 0 m27A (m27c [true, true, true, true, true, true, false, true, true, true, true]) s (m27K16 M k L23)) (m27K16 M k L23)
noncomputable def m27K18 (M : Cut ((List (Int × (Int × (List Int)))) × Int)) (k : Nat) (L23 : St → Option ((List (Int × (Int × (List Int)))) × Int)) : Exit → St → Option ((List (Int × (Int × (List Int)))) × Int) := seqK (normAt 0 m27A false (m27c [true, true, true, true, true, true, false, true, true, true, true, true])) (cutK M m27A (m27c [true, true, true, true, true, true, false, true, true, true, true, true]) fun s => evC (m27E k) M (m27I k) 0 m27A (m27c [true, true, true, true, true, true, false, true, true, true, true, true]) s (m27K16 M k L23)) (m27K16 M k L23)
noncomputable def m27K19 (M : Cut ((List (Int × (Int × (List Int)))) × Int)) (k : Nat) (L23 : St → Option ((List (Int × (Int × (List Int)))) × Int)) : Exit → St → Option ((List (Int × (Int × (List Int)))) × Int) := seqK (normAt 0 m27A false (m27c [true, true, true, true, true, true, false, true, true, true, true, true, true])) (cutK M m27A (m27c [true, true, true, true, true, true, false, true, true, true, true, true, true]) fun s => evC (m27E k) M (m27I k) 0 m27A (m27c [true, true, true, true, true, true, false, true, true, true, true, true, true]) s (m27K16 M k L23)) (m27K16 M k L23)
noncomputable def m27K20 (M : Cut ((List (Int × (Int × (List Int)))) × Int)) (k : Nat) (L23 : St → Option ((List (Int × (Int × (List Int)))) × Int)) : Exit → St → Option ((List (Int × (Int × (List Int)))) × Int) := blockK 2 (m27K19 M k L23)
noncomputable def m27K21 (M : Cut ((List (Int × (Int × (List Int)))) × Int)) (k : Nat) (L23 : St → Option ((List (Int × (Int × (List Int)))) × Int)) : Exit → St → Option ((List (Int × (Int × (List Int)))) × Int) := seqK (normAt 0 m27A false (m27c [true, true, true, true, true, true, false, true, true, true, true, true, false, true, true])) (cutK M m27A (m27c [true, true, true, true, true, true, false, true, true, true, true, true, false, true, true]) fun s => evC (m27E k) M (m27I k) 0 m27A (m27c [true, true, true, true, true, true, false, true, true, true, true, true, false, true, true]) s (m27K20 M k L23)) (m27K20 M k L23)
noncomputable def m27K22 (M : Cut ((List (Int × (Int × (List Int)))) × Int)) (k : Nat) (L23 : St → Option ((List (Int × (Int × (List Int)))) × Int)) : Exit → St → Option ((List (Int × (Int × (List Int)))) × Int) := seqK (normAt 0 m27A false (m27c [true, true, true, true, true, true, false, true, true, true, true, true, false, true, true, true])) (cutK M m27A (m27c [true, true, true, true, true, true, false, true, true, true, true, true, false, true, true, true]) fun s => evC (m27E k) M (m27I k) 0 m27A (m27c [true, true, true, true, true, true, false, true, true, true, true, true, false, true, true, true]) s (m27K20 M k L23)) (m27K20 M k L23)
noncomputable def m27K23 (M : Cut ((List (Int × (Int × (List Int)))) × Int)) (k : Nat) (L23 : St → Option ((List (Int × (Int × (List Int)))) × Int)) : Exit → St → Option ((List (Int × (Int × (List Int)))) × Int) := seqK (normAt 0 m27A false (m27c [true, true, true, true, true, true, false, true, true, true, true, true, false, true, true, true, true])) (cutK M m27A (m27c [true, true, true, true, true, true, false, true, true, true, true, true, false, true, true, true, true]) fun s => evC (m27E k) M (m27I k) 0 m27A (m27c [true, true, true, true, true, true, false, true, true, true, true, true, false, true, true, true, true]) s (m27K20 M k L23)) (m27K20 M k L23)
noncomputable def m27K24 (M : Cut ((List (Int × (Int × (List Int)))) × Int)) (k : Nat) (L23 : St → Option ((List (Int × (Int × (List Int)))) × Int)) : Exit → St → Option ((List (Int × (Int × (List Int)))) × Int) := seqK (normAt 0 m27A false (m27c [true, true, true, true, true, true, false, true, true, true, true, true, false, true, true, true, false, true])) (cutK M m27A (m27c [true, true, true, true, true, true, false, true, true, true, true, true, false, true, true, true, false, true]) fun s => evC (m27E k) M (m27I k) 0 m27A (m27c [true, true, true, true, true, true, false, true, true, true, true, true, false, true, true, true, false, true]) s (m27K23 M k L23)) (m27K23 M k L23)
noncomputable def m27K25 (M : Cut ((List (Int × (Int × (List Int)))) × Int)) (k : Nat) (L23 : St → Option ((List (Int × (Int × (List Int)))) × Int)) : Exit → St → Option ((List (Int × (Int × (List Int)))) × Int) := seqK (normAt 0 m27A false (m27c [true, true, true, true, true, true, false, true, true, true, true, true, false, true, true, true, true, true])) (cutK M m27A (m27c [true, true, true, true, true, true, false, true, true, true, true, true, false, true, true, true, true, true]) fun s => evC (m27E k) M (m27I k) 0 m27A (m27c [true, true, true, true, true, true, false, true, true, true, true, true, false, true, true, true, true, true]) s (m27K20 M k L23)) (m27K20 M k L23)
noncomputable def m27K26 (M : Cut ((List (Int × (Int × (List Int)))) × Int)) (k : Nat) (L23 : St → Option ((List (Int × (Int × (List Int)))) × Int)) : Exit → St → Option ((List (Int × (Int × (List Int)))) × Int) := seqK (normAt 0 m27A false (m27c [true, true, true, true, true, true, false, true, true, true, true, true, false, true, true, true, true, false, true])) (cutK M m27A (m27c [true, true, true, true, true, true, false, true, true, true, true, true, false, true, true, true, true, false, true]) fun s => evC (m27E k) M (m27I k) 0 m27A (m27c [true, true, true, true, true, true, false, true, true, true, true, true, false, true, true, true, true, false, true]) s (m27K25 M k L23)) (m27K25 M k L23)
noncomputable def m27K27 (M : Cut ((List (Int × (Int × (List Int)))) × Int)) (k : Nat) : Exit → St → Option ((List (Int × (Int × (List Int)))) × Int) := seqK (normAt 0 m27A false (m27c [true, true, true, true, true, true, true, true])) (cutK M m27A (m27c [true, true, true, true, true, true, true, true]) fun s => evC (m27E k) M (m27I k) 0 m27A (m27c [true, true, true, true, true, true, true, true]) s (retK Try.prog Try.f27 [.leaf (.own (.pair (.int .i64) (.pair (.int .i64) (.row (.int .u8)))) 38), .leaf (.val (.int .i64))])) (retK Try.prog Try.f27 [.leaf (.own (.pair (.int .i64) (.pair (.int .i64) (.row (.int .u8)))) 38), .leaf (.val (.int .i64))])
noncomputable def m27S23 (t1 : Int) (t2 : List Int) (t9 : Int) (t37 : Int) (t38 : Int) (b0_0 : Int) (b0_1 : Int) (b0_2 : Int) (b0_3 : Int) (b0_4 : Int) (b0_5 : Int) (b0_6 : Int) (b0_7 : Int) (b0_8 : Int) (b0_9 : Int) (b1 : List (Int × (Int × (List Int)))) : St := { n := 80, tm := slots [(1, .int .i64 t1), (2, .row (.int .u8) t2), (3, .ptr 0 0), (9, .int .i64 t9), (10, .own 1), (37, .int .i64 t37), (38, .int .i64 t38)], tab := blks [some (.cells 23 [.int .i64 b0_0, .int .i64 b0_1, .int .i64 b0_2, .int .i64 b0_3, .int .i64 b0_4, .int .i64 b0_5, .int .i64 b0_6, .int .i64 b0_7, .int .i64 b0_8, .int .i64 b0_9]), some (.row true (.pair (.int .i64) (.pair (.int .i64) (.row (.int .u8)))) 38 b1)], nx := 2 }
noncomputable def m27S32 (t1 : Int) (t2 : List Int) (t9 : Int) (t11 : Int) (t37 : Int) (t38 : Int) (b0_0 : Int) (b0_1 : Int) (b0_2 : Int) (b0_3 : Int) (b0_4 : Int) (b0_5 : Int) (b0_6 : Int) (b0_7 : Int) (b0_8 : Int) (b0_9 : Int) (b1 : List (Int × (Int × (List Int)))) (b2_0 : Int) (b2_1 : Int) (b3 : List Int) : St := { n := 80, tm := slots [(1, .int .i64 t1), (2, .row (.int .u8) t2), (3, .ptr 0 0), (9, .int .i64 t9), (10, .own 1), (11, .int .i64 t11), (12, .ptr 2 0), (37, .int .i64 t37), (38, .int .i64 t38)], tab := blks [some (.cells 23 [.int .i64 b0_0, .int .i64 b0_1, .int .i64 b0_2, .int .i64 b0_3, .int .i64 b0_4, .int .i64 b0_5, .int .i64 b0_6, .int .i64 b0_7, .int .i64 b0_8, .int .i64 b0_9]), some (.row true (.pair (.int .i64) (.pair (.int .i64) (.row (.int .u8)))) 38 b1), some (.cells 38 [.int .i64 b2_0, .int .i64 b2_1, .own 3]), some (.row true (.int .u8) 5 b3)], nx := 4 }
noncomputable def m27S40 (b0 : List (Int × (Int × (List Int)))) : St := { n := 80, tm := slots [(10, .own 0)], tab := blks [some (.row true (.pair (.int .i64) (.pair (.int .i64) (.row (.int .u8)))) 38 b0)], nx := 1 }
noncomputable def m27S36 (t1 : Int) (t2 : List Int) (t9 : Int) (t37 : Int) (t38 : Int) (b0_0 : Int) (b0_1 : Int) (b0_2 : Int) (b0_3 : Int) (b0_4 : Int) (b0_5 : Int) (b0_6 : Int) (b0_7 : Int) (b0_8 : Int) (b0_9 : Int) (b1 : List (Int × (Int × (List Int)))) (b2_0 : Int) (b2_1 : Int) (b3 : List Int) : St := { n := 80, tm := slots [(1, .int .i64 t1), (2, .row (.int .u8) t2), (3, .ptr 0 0), (9, .int .i64 t9), (10, .own 1), (12, .ptr 2 0), (37, .int .i64 t37), (38, .int .i64 t38)], tab := blks [some (.cells 23 [.int .i64 b0_0, .int .i64 b0_1, .int .i64 b0_2, .int .i64 b0_3, .int .i64 b0_4, .int .i64 b0_5, .int .i64 b0_6, .int .i64 b0_7, .int .i64 b0_8, .int .i64 b0_9]), some (.row true (.pair (.int .i64) (.pair (.int .i64) (.row (.int .u8)))) 38 b1), some (.cells 38 [.int .i64 b2_0, .int .i64 b2_1, .own 3]), some (.row true (.int .u8) 5 b3)], nx := 4 }

noncomputable def m27X (X23 : Int → List Int → Int → Int → Int → Int → Int → Int → Int → Int → Int → Int → Int → Int → Int → List (Int × (Int × (List Int))) → Option ((List (Int × (Int × (List Int)))) × Int)) (k : Nat) (p0 : (Int × (Int × (Int × (Int × (Int × (Int × (Int × (Int × (Int × Int)))))))))) (p1 : Int) (p2 : (List Int)) : Option ((List (Int × (Int × (List Int)))) × Int) := (Option.bind (m12F k
  (Prod.fst p0, Prod.fst (Prod.snd p0), Prod.fst (Prod.snd (Prod.snd p0)), Prod.fst (Prod.snd (Prod.snd (Prod.snd p0))),
    Prod.fst (Prod.snd (Prod.snd (Prod.snd (Prod.snd p0)))),
    Prod.fst (Prod.snd (Prod.snd (Prod.snd (Prod.snd (Prod.snd p0))))),
    Prod.fst (Prod.snd (Prod.snd (Prod.snd (Prod.snd (Prod.snd (Prod.snd p0)))))),
    Prod.fst (Prod.snd (Prod.snd (Prod.snd (Prod.snd (Prod.snd (Prod.snd (Prod.snd p0))))))),
    Prod.fst (Prod.snd (Prod.snd (Prod.snd (Prod.snd (Prod.snd (Prod.snd (Prod.snd (Prod.snd p0)))))))),
    Prod.snd (Prod.snd (Prod.snd (Prod.snd (Prod.snd (Prod.snd (Prod.snd (Prod.snd (Prod.snd p0)))))))))) fun (c5 : Int) => (if (!eqI c5 0) = true then some (([], c5)) else (if ltI (Prod.fst (Prod.snd (Prod.snd (Prod.snd (Prod.snd (Prod.snd (Prod.snd (Prod.snd (Prod.snd p0)))))))))
    (↑(List.length p2) : Int) =
  true then some (([], 2)) else (Option.bind (m19F k
  (Prod.fst p0, Prod.fst (Prod.snd p0), Prod.fst (Prod.snd (Prod.snd p0)), Prod.fst (Prod.snd (Prod.snd (Prod.snd p0))),
    Prod.fst (Prod.snd (Prod.snd (Prod.snd (Prod.snd p0)))),
    Prod.fst (Prod.snd (Prod.snd (Prod.snd (Prod.snd (Prod.snd p0))))),
    Prod.fst (Prod.snd (Prod.snd (Prod.snd (Prod.snd (Prod.snd (Prod.snd p0)))))),
    Prod.fst (Prod.snd (Prod.snd (Prod.snd (Prod.snd (Prod.snd (Prod.snd (Prod.snd p0))))))),
    Prod.fst (Prod.snd (Prod.snd (Prod.snd (Prod.snd (Prod.snd (Prod.snd (Prod.snd (Prod.snd p0)))))))),
    Prod.snd (Prod.snd (Prod.snd (Prod.snd (Prod.snd (Prod.snd (Prod.snd (Prod.snd (Prod.snd p0)))))))))
  (↑(List.length p2) : Int)) fun (c6 : Int) => (if ltI p1 0 = true then some (([], 1)) else (if ltI (wr IntKind.i64 (1073741824 - c6)) p1 = true then some (([], 1)) else X23 p1 p2 c6 c6 (0) (Prod.fst p0) (Prod.fst (Prod.snd p0)) (Prod.fst (Prod.snd (Prod.snd p0))) (Prod.fst (Prod.snd (Prod.snd (Prod.snd p0)))) (Prod.fst (Prod.snd (Prod.snd (Prod.snd (Prod.snd p0))))) (Prod.fst (Prod.snd (Prod.snd (Prod.snd (Prod.snd (Prod.snd p0)))))) (Prod.fst (Prod.snd (Prod.snd (Prod.snd (Prod.snd (Prod.snd (Prod.snd p0))))))) (Prod.fst (Prod.snd (Prod.snd (Prod.snd (Prod.snd (Prod.snd (Prod.snd (Prod.snd p0)))))))) (Prod.fst (Prod.snd (Prod.snd (Prod.snd (Prod.snd (Prod.snd (Prod.snd (Prod.snd (Prod.snd p0))))))))) (Prod.snd (Prod.snd (Prod.snd (Prod.snd (Prod.snd (Prod.snd (Prod.snd (Prod.snd (Prod.snd p0))))))))) ([])))))))

theorem m27x (M : Cut ((List (Int × (Int × (List Int)))) × Int)) (k : Nat) (p0 : (Int × (Int × (Int × (Int × (Int × (Int × (Int × (Int × (Int × Int)))))))))) (p1 : Int) (p2 : (List Int)) : evC (m27E k) M (m27I k) 0 m27A (m27c []) (stAt Try.f27 (argSs [.st (.pair (.int .i64) (.pair (.int .i64) (.pair (.int .i64) (.pair (.int .i64) (.pair (.int .i64) (.pair (.int .i64) (.pair (.int .i64) (.pair (.int .i64) (.pair (.int .i64) (.int .i64)))))))))), .leaf (.val (.int .i64)), .leaf (.val (.row (.int .u8)))] (p0, p1, p2)) (fun _ => none) 0) (retK Try.prog Try.f27 [.leaf (.own (.pair (.int .i64) (.pair (.int .i64) (.row (.int .u8)))) 38), .leaf (.val (.int .i64))]) = m27X (fun t1' t2' t9' t37' t38' b0_0' b0_1' b0_2' b0_3' b0_4' b0_5' b0_6' b0_7' b0_8' b0_9' b1' => loopN (normAt 0 m27A true (m27c [true, true, true, true, true, true, false, true, true, true])) (fun K s => evC (m27E k) M (m27I k) 0 m27A (m27c [true, true, true, true, true, true, false, true, true, true]) s K) (m27K15 M k) k (m27S23 t1' t2' t9' t37' t38' b0_0' b0_1' b0_2' b0_3' b0_4' b0_5' b0_6' b0_7' b0_8' b0_9' b1')) k p0 p1 p2 := by kernel_rfl

noncomputable def m27X23 (X32 : Int → List Int → Int → Int → Int → Int → Int → Int → Int → Int → Int → Int → Int → Int → Int → Int → List (Int × (Int × (List Int))) → Int → Int → List Int → Option ((List (Int × (Int × (List Int)))) × Int)) (X40 : List (Int × (Int × (List Int))) → Option ((List (Int × (Int × (List Int)))) × Int)) (k : Nat) (t1 : Int) (t2 : List Int) (t9 : Int) (t37 : Int) (t38 : Int) (b0_0 : Int) (b0_1 : Int) (b0_2 : Int) (b0_3 : Int) (b0_4 : Int) (b0_5 : Int) (b0_6 : Int) (b0_7 : Int) (b0_8 : Int) (b0_9 : Int) (b1 : List (Int × (Int × (List Int)))) : Option ((List (Int × (Int × (List Int)))) × Int) := (if ltI t38 t37 = true then (if leI 0 (mn (wr IntKind.i64 (wr IntKind.i64 (t38 + 1) * b0_0)) (↑(List.length t2) : Int)) = true then (if leI (mn (wr IntKind.i64 (wr IntKind.i64 (t38 + 1) * b0_0)) (↑(List.length t2) : Int)) (↑(List.length t2) : Int) = true then (if leI 0 (wr IntKind.i64 (t38 * b0_0)) = true then (if leI (wr IntKind.i64 (t38 * b0_0)) (mn (wr IntKind.i64 (wr IntKind.i64 (t38 + 1) * b0_0)) (↑(List.length t2) : Int)) =
  true then (Option.bind (m40F k
  (List.drop (Int.toNat (wr IntKind.i64 (t38 * b0_0)))
    (List.take (Int.toNat (mn (wr IntKind.i64 (wr IntKind.i64 (t38 + 1) * b0_0)) (↑(List.length t2) : Int))) t2))) fun (c19 : (List Int)) => (if eqI t38 0 = true then X32 t1 t2 t9 t38 t37 t38 b0_0 b0_1 b0_2 b0_3 b0_4 b0_5 b0_6 b0_7 b0_8 b0_9 b1 (wr IntKind.i64 (t1 + t38)) (1) c19 else X32 t1 t2 t9 t38 t37 t38 b0_0 b0_1 b0_2 b0_3 b0_4 b0_5 b0_6 b0_7 b0_8 b0_9 b1 (wr IntKind.i64 (t1 + t38)) (0) c19)) else none) else none) else none) else none) else X40 b1)

theorem m27x23 (M : Cut ((List (Int × (Int × (List Int)))) × Int)) (k : Nat) (L23 : St → Option ((List (Int × (Int × (List Int)))) × Int)) (t1 : Int) (t2 : List Int) (t9 : Int) (t37 : Int) (t38 : Int) (b0_0 : Int) (b0_1 : Int) (b0_2 : Int) (b0_3 : Int) (b0_4 : Int) (b0_5 : Int) (b0_6 : Int) (b0_7 : Int) (b0_8 : Int) (b0_9 : Int) (b1 : List (Int × (Int × (List Int)))) : evC (m27E k) M (m27I k) 0 m27A (m27c [true, true, true, true, true, true, false, true, true, true]) (m27S23 t1 t2 t9 t37 t38 b0_0 b0_1 b0_2 b0_3 b0_4 b0_5 b0_6 b0_7 b0_8 b0_9 b1) (seqK (normAt 0 m27A true (m27c [true, true, true, true, true, true, false, true, true, true])) L23 (m27K15 M k)) = m27X23 (fun t1' t2' t9' t11' t37' t38' b0_0' b0_1' b0_2' b0_3' b0_4' b0_5' b0_6' b0_7' b0_8' b0_9' b1' b2_0' b2_1' b3' => M 32 (fun s => evC (m27E k) M (m27I k) 0 m27A (m27c [true, true, true, true, true, true, false, true, true, true, true, true, false, true, true, true, true]) s (m27K20 M k L23)) (m27S32 t1' t2' t9' t11' t37' t38' b0_0' b0_1' b0_2' b0_3' b0_4' b0_5' b0_6' b0_7' b0_8' b0_9' b1' b2_0' b2_1' b3')) (fun b0' => M 40 (fun s => evC (m27E k) M (m27I k) 0 m27A (m27c [true, true, true, true, true, true, true]) s (retK Try.prog Try.f27 [.leaf (.own (.pair (.int .i64) (.pair (.int .i64) (.row (.int .u8)))) 38), .leaf (.val (.int .i64))])) (m27S40 b0')) k t1 t2 t9 t37 t38 b0_0 b0_1 b0_2 b0_3 b0_4 b0_5 b0_6 b0_7 b0_8 b0_9 b1 := by kernel_rfl

noncomputable def m27X32 (X36 : Int → List Int → Int → Int → Int → Int → Int → Int → Int → Int → Int → Int → Int → Int → Int → List (Int × (Int × (List Int))) → Int → Int → List Int → Option ((List (Int × (Int × (List Int)))) × Int)) (k : Nat) (t1 : Int) (t2 : List Int) (t9 : Int) (t11 : Int) (t37 : Int) (t38 : Int) (b0_0 : Int) (b0_1 : Int) (b0_2 : Int) (b0_3 : Int) (b0_4 : Int) (b0_5 : Int) (b0_6 : Int) (b0_7 : Int) (b0_8 : Int) (b0_9 : Int) (b1 : List (Int × (Int × (List Int)))) (b2_0 : Int) (b2_1 : Int) (b3 : List Int) : Option ((List (Int × (Int × (List Int)))) × Int) := (if eqI t11 (wr IntKind.i64 (t9 - 1)) = true then X36 t1 t2 t9 t37 t38 b0_0 b0_1 b0_2 b0_3 b0_4 b0_5 b0_6 b0_7 b0_8 b0_9 b1 b2_0 (bits BinOp.or IntKind.i64 b2_1 2) b3 else X36 t1 t2 t9 t37 t38 b0_0 b0_1 b0_2 b0_3 b0_4 b0_5 b0_6 b0_7 b0_8 b0_9 b1 b2_0 b2_1 b3)

theorem m27x32 (M : Cut ((List (Int × (Int × (List Int)))) × Int)) (k : Nat) (L23 : St → Option ((List (Int × (Int × (List Int)))) × Int)) (t1 : Int) (t2 : List Int) (t9 : Int) (t11 : Int) (t37 : Int) (t38 : Int) (b0_0 : Int) (b0_1 : Int) (b0_2 : Int) (b0_3 : Int) (b0_4 : Int) (b0_5 : Int) (b0_6 : Int) (b0_7 : Int) (b0_8 : Int) (b0_9 : Int) (b1 : List (Int × (Int × (List Int)))) (b2_0 : Int) (b2_1 : Int) (b3 : List Int) : evC (m27E k) M (m27I k) 0 m27A (m27c [true, true, true, true, true, true, false, true, true, true, true, true, false, true, true, true, true]) (m27S32 t1 t2 t9 t11 t37 t38 b0_0 b0_1 b0_2 b0_3 b0_4 b0_5 b0_6 b0_7 b0_8 b0_9 b1 b2_0 b2_1 b3) (m27K20 M k L23) = m27X32 (fun t1' t2' t9' t37' t38' b0_0' b0_1' b0_2' b0_3' b0_4' b0_5' b0_6' b0_7' b0_8' b0_9' b1' b2_0' b2_1' b3' => M 36 (fun s => evC (m27E k) M (m27I k) 0 m27A (m27c [true, true, true, true, true, true, false, true, true, true, true, true, false, true, true, true, true, true]) s (m27K20 M k L23)) (m27S36 t1' t2' t9' t37' t38' b0_0' b0_1' b0_2' b0_3' b0_4' b0_5' b0_6' b0_7' b0_8' b0_9' b1' b2_0' b2_1' b3')) k t1 t2 t9 t11 t37 t38 b0_0 b0_1 b0_2 b0_3 b0_4 b0_5 b0_6 b0_7 b0_8 b0_9 b1 b2_0 b2_1 b3 := by kernel_rfl

noncomputable def m27X40 (k : Nat) (b0 : List (Int × (Int × (List Int)))) : Option ((List (Int × (Int × (List Int)))) × Int) := some ((b0, 0))

theorem m27x40 (M : Cut ((List (Int × (Int × (List Int)))) × Int)) (k : Nat) (b0 : List (Int × (Int × (List Int)))) : evC (m27E k) M (m27I k) 0 m27A (m27c [true, true, true, true, true, true, true]) (m27S40 b0) (retK Try.prog Try.f27 [.leaf (.own (.pair (.int .i64) (.pair (.int .i64) (.row (.int .u8)))) 38), .leaf (.val (.int .i64))]) = m27X40 k b0 := by kernel_rfl

noncomputable def m27X36 (L23 : Int → List Int → Int → Int → Int → Int → Int → Int → Int → Int → Int → Int → Int → Int → Int → List (Int × (Int × (List Int))) → Option ((List (Int × (Int × (List Int)))) × Int)) (k : Nat) (t1 : Int) (t2 : List Int) (t9 : Int) (t37 : Int) (t38 : Int) (b0_0 : Int) (b0_1 : Int) (b0_2 : Int) (b0_3 : Int) (b0_4 : Int) (b0_5 : Int) (b0_6 : Int) (b0_7 : Int) (b0_8 : Int) (b0_9 : Int) (b1 : List (Int × (Int × (List Int)))) (b2_0 : Int) (b2_1 : Int) (b3 : List Int) : Option ((List (Int × (Int × (List Int)))) × Int) := (if leI (↑((List.length b1 + List.length (List.set (List.replicate 1 (0, 0, [])) 0 (b2_0, b2_1, b3))) * 40) : Int)
    140737488355328 =
  true then L23 t1 t2 t9 t37 (wr IntKind.i64 (t38 + 1)) b0_0 b0_1 b0_2 b0_3 b0_4 b0_5 b0_6 b0_7 b0_8 b0_9 (b1 ++ List.set (List.replicate 1 (0, 0, [])) 0 (b2_0, b2_1, b3)) else none)

theorem m27x36 (M : Cut ((List (Int × (Int × (List Int)))) × Int)) (k : Nat) (L23 : St → Option ((List (Int × (Int × (List Int)))) × Int)) (t1 : Int) (t2 : List Int) (t9 : Int) (t37 : Int) (t38 : Int) (b0_0 : Int) (b0_1 : Int) (b0_2 : Int) (b0_3 : Int) (b0_4 : Int) (b0_5 : Int) (b0_6 : Int) (b0_7 : Int) (b0_8 : Int) (b0_9 : Int) (b1 : List (Int × (Int × (List Int)))) (b2_0 : Int) (b2_1 : Int) (b3 : List Int) : evC (m27E k) M (m27I k) 0 m27A (m27c [true, true, true, true, true, true, false, true, true, true, true, true, false, true, true, true, true, true]) (m27S36 t1 t2 t9 t37 t38 b0_0 b0_1 b0_2 b0_3 b0_4 b0_5 b0_6 b0_7 b0_8 b0_9 b1 b2_0 b2_1 b3) (m27K20 M k L23) = m27X36 (fun t1' t2' t9' t37' t38' b0_0' b0_1' b0_2' b0_3' b0_4' b0_5' b0_6' b0_7' b0_8' b0_9' b1' => L23 (m27S23 t1' t2' t9' t37' t38' b0_0' b0_1' b0_2' b0_3' b0_4' b0_5' b0_6' b0_7' b0_8' b0_9' b1')) k t1 t2 t9 t37 t38 b0_0 b0_1 b0_2 b0_3 b0_4 b0_5 b0_6 b0_7 b0_8 b0_9 b1 b2_0 b2_1 b3 := by kernel_rfl

noncomputable def m27F40 (k : Nat) (b0 : List (Int × (Int × (List Int)))) : Option ((List (Int × (Int × (List Int)))) × Int) := m27X40 k b0

theorem m27q40 (k : Nat) (b0 : List (Int × (Int × (List Int)))) : evC (m27E k) (fun _ f => f) (m27I k) 0 m27A (m27c [true, true, true, true, true, true, true]) (m27S40 b0) (retK Try.prog Try.f27 [.leaf (.own (.pair (.int .i64) (.pair (.int .i64) (.row (.int .u8)))) 38), .leaf (.val (.int .i64))]) = m27F40 k b0 := by
    show _ = m27X40 k b0
    exact m27x40 (fun _ f => f) k b0

noncomputable def m27F36 (k : Nat) (L23 : Int → List Int → Int → Int → Int → Int → Int → Int → Int → Int → Int → Int → Int → Int → Int → List (Int × (Int × (List Int))) → Option ((List (Int × (Int × (List Int)))) × Int)) (t1 : Int) (t2 : List Int) (t9 : Int) (t37 : Int) (t38 : Int) (b0_0 : Int) (b0_1 : Int) (b0_2 : Int) (b0_3 : Int) (b0_4 : Int) (b0_5 : Int) (b0_6 : Int) (b0_7 : Int) (b0_8 : Int) (b0_9 : Int) (b1 : List (Int × (Int × (List Int)))) (b2_0 : Int) (b2_1 : Int) (b3 : List Int) : Option ((List (Int × (Int × (List Int)))) × Int) := m27X36 L23 k t1 t2 t9 t37 t38 b0_0 b0_1 b0_2 b0_3 b0_4 b0_5 b0_6 b0_7 b0_8 b0_9 b1 b2_0 b2_1 b3

theorem m27q36 (k : Nat) (L23 : St → Option ((List (Int × (Int × (List Int)))) × Int)) (t1 : Int) (t2 : List Int) (t9 : Int) (t37 : Int) (t38 : Int) (b0_0 : Int) (b0_1 : Int) (b0_2 : Int) (b0_3 : Int) (b0_4 : Int) (b0_5 : Int) (b0_6 : Int) (b0_7 : Int) (b0_8 : Int) (b0_9 : Int) (b1 : List (Int × (Int × (List Int)))) (b2_0 : Int) (b2_1 : Int) (b3 : List Int) : evC (m27E k) (fun _ f => f) (m27I k) 0 m27A (m27c [true, true, true, true, true, true, false, true, true, true, true, true, false, true, true, true, true, true]) (m27S36 t1 t2 t9 t37 t38 b0_0 b0_1 b0_2 b0_3 b0_4 b0_5 b0_6 b0_7 b0_8 b0_9 b1 b2_0 b2_1 b3) (m27K20 (fun _ f => f) k L23) = m27F36 k (fun t1' t2' t9' t37' t38' b0_0' b0_1' b0_2' b0_3' b0_4' b0_5' b0_6' b0_7' b0_8' b0_9' b1' => L23 (m27S23 t1' t2' t9' t37' t38' b0_0' b0_1' b0_2' b0_3' b0_4' b0_5' b0_6' b0_7' b0_8' b0_9' b1')) t1 t2 t9 t37 t38 b0_0 b0_1 b0_2 b0_3 b0_4 b0_5 b0_6 b0_7 b0_8 b0_9 b1 b2_0 b2_1 b3 := by
    show _ = m27X36 (fun t1' t2' t9' t37' t38' b0_0' b0_1' b0_2' b0_3' b0_4' b0_5' b0_6' b0_7' b0_8' b0_9' b1' => L23 (m27S23 t1' t2' t9' t37' t38' b0_0' b0_1' b0_2' b0_3' b0_4' b0_5' b0_6' b0_7' b0_8' b0_9' b1')) k t1 t2 t9 t37 t38 b0_0 b0_1 b0_2 b0_3 b0_4 b0_5 b0_6 b0_7 b0_8 b0_9 b1 b2_0 b2_1 b3
    exact m27x36 (fun _ f => f) k L23 t1 t2 t9 t37 t38 b0_0 b0_1 b0_2 b0_3 b0_4 b0_5 b0_6 b0_7 b0_8 b0_9 b1 b2_0 b2_1 b3

noncomputable def m27F32 (k : Nat) (L23 : Int → List Int → Int → Int → Int → Int → Int → Int → Int → Int → Int → Int → Int → Int → Int → List (Int × (Int × (List Int))) → Option ((List (Int × (Int × (List Int)))) × Int)) (t1 : Int) (t2 : List Int) (t9 : Int) (t11 : Int) (t37 : Int) (t38 : Int) (b0_0 : Int) (b0_1 : Int) (b0_2 : Int) (b0_3 : Int) (b0_4 : Int) (b0_5 : Int) (b0_6 : Int) (b0_7 : Int) (b0_8 : Int) (b0_9 : Int) (b1 : List (Int × (Int × (List Int)))) (b2_0 : Int) (b2_1 : Int) (b3 : List Int) : Option ((List (Int × (Int × (List Int)))) × Int) := m27X32 (m27F36 k L23) k t1 t2 t9 t11 t37 t38 b0_0 b0_1 b0_2 b0_3 b0_4 b0_5 b0_6 b0_7 b0_8 b0_9 b1 b2_0 b2_1 b3

theorem m27q32 (k : Nat) (L23 : St → Option ((List (Int × (Int × (List Int)))) × Int)) (t1 : Int) (t2 : List Int) (t9 : Int) (t11 : Int) (t37 : Int) (t38 : Int) (b0_0 : Int) (b0_1 : Int) (b0_2 : Int) (b0_3 : Int) (b0_4 : Int) (b0_5 : Int) (b0_6 : Int) (b0_7 : Int) (b0_8 : Int) (b0_9 : Int) (b1 : List (Int × (Int × (List Int)))) (b2_0 : Int) (b2_1 : Int) (b3 : List Int) : evC (m27E k) (fun _ f => f) (m27I k) 0 m27A (m27c [true, true, true, true, true, true, false, true, true, true, true, true, false, true, true, true, true]) (m27S32 t1 t2 t9 t11 t37 t38 b0_0 b0_1 b0_2 b0_3 b0_4 b0_5 b0_6 b0_7 b0_8 b0_9 b1 b2_0 b2_1 b3) (m27K20 (fun _ f => f) k L23) = m27F32 k (fun t1' t2' t9' t37' t38' b0_0' b0_1' b0_2' b0_3' b0_4' b0_5' b0_6' b0_7' b0_8' b0_9' b1' => L23 (m27S23 t1' t2' t9' t37' t38' b0_0' b0_1' b0_2' b0_3' b0_4' b0_5' b0_6' b0_7' b0_8' b0_9' b1')) t1 t2 t9 t11 t37 t38 b0_0 b0_1 b0_2 b0_3 b0_4 b0_5 b0_6 b0_7 b0_8 b0_9 b1 b2_0 b2_1 b3 := by
    have e36 : m27F36 k (fun t1' t2' t9' t37' t38' b0_0' b0_1' b0_2' b0_3' b0_4' b0_5' b0_6' b0_7' b0_8' b0_9' b1' => L23 (m27S23 t1' t2' t9' t37' t38' b0_0' b0_1' b0_2' b0_3' b0_4' b0_5' b0_6' b0_7' b0_8' b0_9' b1')) = (fun t1' t2' t9' t37' t38' b0_0' b0_1' b0_2' b0_3' b0_4' b0_5' b0_6' b0_7' b0_8' b0_9' b1' b2_0' b2_1' b3' => evC (m27E k) (fun _ f => f) (m27I k) 0 m27A (m27c [true, true, true, true, true, true, false, true, true, true, true, true, false, true, true, true, true, true]) (m27S36 t1' t2' t9' t37' t38' b0_0' b0_1' b0_2' b0_3' b0_4' b0_5' b0_6' b0_7' b0_8' b0_9' b1' b2_0' b2_1' b3') (m27K20 (fun _ f => f) k L23)) := funext fun t1' => funext fun t2' => funext fun t9' => funext fun t37' => funext fun t38' => funext fun b0_0' => funext fun b0_1' => funext fun b0_2' => funext fun b0_3' => funext fun b0_4' => funext fun b0_5' => funext fun b0_6' => funext fun b0_7' => funext fun b0_8' => funext fun b0_9' => funext fun b1' => funext fun b2_0' => funext fun b2_1' => funext fun b3' => (m27q36 k L23 t1' t2' t9' t37' t38' b0_0' b0_1' b0_2' b0_3' b0_4' b0_5' b0_6' b0_7' b0_8' b0_9' b1' b2_0' b2_1' b3').symm
    show _ = m27X32 (m27F36 k (fun t1' t2' t9' t37' t38' b0_0' b0_1' b0_2' b0_3' b0_4' b0_5' b0_6' b0_7' b0_8' b0_9' b1' => L23 (m27S23 t1' t2' t9' t37' t38' b0_0' b0_1' b0_2' b0_3' b0_4' b0_5' b0_6' b0_7' b0_8' b0_9' b1'))) k t1 t2 t9 t11 t37 t38 b0_0 b0_1 b0_2 b0_3 b0_4 b0_5 b0_6 b0_7 b0_8 b0_9 b1 b2_0 b2_1 b3
    rw [e36]
    exact m27x32 (fun _ f => f) k L23 t1 t2 t9 t11 t37 t38 b0_0 b0_1 b0_2 b0_3 b0_4 b0_5 b0_6 b0_7 b0_8 b0_9 b1 b2_0 b2_1 b3

noncomputable def m27F23 (k : Nat) : Nat → Int → List Int → Int → Int → Int → Int → Int → Int → Int → Int → Int → Int → Int → Int → Int → List (Int × (Int × (List Int))) → Option ((List (Int × (Int × (List Int)))) × Int)
  | 0, _, _, _, _, _, _, _, _, _, _, _, _, _, _, _, _ => none
  | j + 1, t1, t2, t9, t37, t38, b0_0, b0_1, b0_2, b0_3, b0_4, b0_5, b0_6, b0_7, b0_8, b0_9, b1 => m27X23 (m27F32 k (m27F23 k j)) (m27F40 k) k t1 t2 t9 t37 t38 b0_0 b0_1 b0_2 b0_3 b0_4 b0_5 b0_6 b0_7 b0_8 b0_9 b1

theorem m27q23 (k : Nat) : ∀ (j : Nat) (t1 : Int) (t2 : List Int) (t9 : Int) (t37 : Int) (t38 : Int) (b0_0 : Int) (b0_1 : Int) (b0_2 : Int) (b0_3 : Int) (b0_4 : Int) (b0_5 : Int) (b0_6 : Int) (b0_7 : Int) (b0_8 : Int) (b0_9 : Int) (b1 : List (Int × (Int × (List Int)))), loopN (normAt 0 m27A true (m27c [true, true, true, true, true, true, false, true, true, true])) (fun K s => evC (m27E k) (fun _ f => f) (m27I k) 0 m27A (m27c [true, true, true, true, true, true, false, true, true, true]) s K) (m27K15 (fun _ f => f) k) j (m27S23 t1 t2 t9 t37 t38 b0_0 b0_1 b0_2 b0_3 b0_4 b0_5 b0_6 b0_7 b0_8 b0_9 b1) = m27F23 k j t1 t2 t9 t37 t38 b0_0 b0_1 b0_2 b0_3 b0_4 b0_5 b0_6 b0_7 b0_8 b0_9 b1
  | 0, _, _, _, _, _, _, _, _, _, _, _, _, _, _, _, _ => rfl
  | j + 1, t1, t2, t9, t37, t38, b0_0, b0_1, b0_2, b0_3, b0_4, b0_5, b0_6, b0_7, b0_8, b0_9, b1 => by
    have e0 : m27F23 k j = (fun t1' t2' t9' t37' t38' b0_0' b0_1' b0_2' b0_3' b0_4' b0_5' b0_6' b0_7' b0_8' b0_9' b1' => loopN (normAt 0 m27A true (m27c [true, true, true, true, true, true, false, true, true, true])) (fun K s => evC (m27E k) (fun _ f => f) (m27I k) 0 m27A (m27c [true, true, true, true, true, true, false, true, true, true]) s K) (m27K15 (fun _ f => f) k) j (m27S23 t1' t2' t9' t37' t38' b0_0' b0_1' b0_2' b0_3' b0_4' b0_5' b0_6' b0_7' b0_8' b0_9' b1')) := funext fun t1' => funext fun t2' => funext fun t9' => funext fun t37' => funext fun t38' => funext fun b0_0' => funext fun b0_1' => funext fun b0_2' => funext fun b0_3' => funext fun b0_4' => funext fun b0_5' => funext fun b0_6' => funext fun b0_7' => funext fun b0_8' => funext fun b0_9' => funext fun b1' => (m27q23 k j t1' t2' t9' t37' t38' b0_0' b0_1' b0_2' b0_3' b0_4' b0_5' b0_6' b0_7' b0_8' b0_9' b1').symm
    have e32 : m27F32 k (fun t1' t2' t9' t37' t38' b0_0' b0_1' b0_2' b0_3' b0_4' b0_5' b0_6' b0_7' b0_8' b0_9' b1' => loopN (normAt 0 m27A true (m27c [true, true, true, true, true, true, false, true, true, true])) (fun K s => evC (m27E k) (fun _ f => f) (m27I k) 0 m27A (m27c [true, true, true, true, true, true, false, true, true, true]) s K) (m27K15 (fun _ f => f) k) j (m27S23 t1' t2' t9' t37' t38' b0_0' b0_1' b0_2' b0_3' b0_4' b0_5' b0_6' b0_7' b0_8' b0_9' b1')) = (fun t1' t2' t9' t11' t37' t38' b0_0' b0_1' b0_2' b0_3' b0_4' b0_5' b0_6' b0_7' b0_8' b0_9' b1' b2_0' b2_1' b3' => evC (m27E k) (fun _ f => f) (m27I k) 0 m27A (m27c [true, true, true, true, true, true, false, true, true, true, true, true, false, true, true, true, true]) (m27S32 t1' t2' t9' t11' t37' t38' b0_0' b0_1' b0_2' b0_3' b0_4' b0_5' b0_6' b0_7' b0_8' b0_9' b1' b2_0' b2_1' b3') (m27K20 (fun _ f => f) k (loopN (normAt 0 m27A true (m27c [true, true, true, true, true, true, false, true, true, true])) (fun K s => evC (m27E k) (fun _ f => f) (m27I k) 0 m27A (m27c [true, true, true, true, true, true, false, true, true, true]) s K) (m27K15 (fun _ f => f) k) j))) := funext fun t1' => funext fun t2' => funext fun t9' => funext fun t11' => funext fun t37' => funext fun t38' => funext fun b0_0' => funext fun b0_1' => funext fun b0_2' => funext fun b0_3' => funext fun b0_4' => funext fun b0_5' => funext fun b0_6' => funext fun b0_7' => funext fun b0_8' => funext fun b0_9' => funext fun b1' => funext fun b2_0' => funext fun b2_1' => funext fun b3' => (m27q32 k (loopN (normAt 0 m27A true (m27c [true, true, true, true, true, true, false, true, true, true])) (fun K s => evC (m27E k) (fun _ f => f) (m27I k) 0 m27A (m27c [true, true, true, true, true, true, false, true, true, true]) s K) (m27K15 (fun _ f => f) k) j) t1' t2' t9' t11' t37' t38' b0_0' b0_1' b0_2' b0_3' b0_4' b0_5' b0_6' b0_7' b0_8' b0_9' b1' b2_0' b2_1' b3').symm
    have e40 : m27F40 k = (fun b0' => evC (m27E k) (fun _ f => f) (m27I k) 0 m27A (m27c [true, true, true, true, true, true, true]) (m27S40 b0') (retK Try.prog Try.f27 [.leaf (.own (.pair (.int .i64) (.pair (.int .i64) (.row (.int .u8)))) 38), .leaf (.val (.int .i64))])) := funext fun b0' => (m27q40 k b0').symm
    show _ = m27X23 (m27F32 k (m27F23 k j)) (m27F40 k) k t1 t2 t9 t37 t38 b0_0 b0_1 b0_2 b0_3 b0_4 b0_5 b0_6 b0_7 b0_8 b0_9 b1
    rw [e0, e32, e40]
    exact m27x23 (fun _ f => f) k (loopN (normAt 0 m27A true (m27c [true, true, true, true, true, true, false, true, true, true])) (fun K s => evC (m27E k) (fun _ f => f) (m27I k) 0 m27A (m27c [true, true, true, true, true, true, false, true, true, true]) s K) (m27K15 (fun _ f => f) k) j) t1 t2 t9 t37 t38 b0_0 b0_1 b0_2 b0_3 b0_4 b0_5 b0_6 b0_7 b0_8 b0_9 b1

noncomputable def m27F (k : Nat) (p0 : (Int × (Int × (Int × (Int × (Int × (Int × (Int × (Int × (Int × Int)))))))))) (p1 : Int) (p2 : (List Int)) : Option ((List (Int × (Int × (List Int)))) × Int) := m27X (m27F23 k k) k p0 p1 p2

theorem m27q (k : Nat) (p0 : (Int × (Int × (Int × (Int × (Int × (Int × (Int × (Int × (Int × Int)))))))))) (p1 : Int) (p2 : (List Int)) : evC (m27E k) (fun _ f => f) (m27I k) 0 m27A (m27c []) (stAt Try.f27 (argSs [.st (.pair (.int .i64) (.pair (.int .i64) (.pair (.int .i64) (.pair (.int .i64) (.pair (.int .i64) (.pair (.int .i64) (.pair (.int .i64) (.pair (.int .i64) (.pair (.int .i64) (.int .i64)))))))))), .leaf (.val (.int .i64)), .leaf (.val (.row (.int .u8)))] (p0, p1, p2)) (fun _ => none) 0) (retK Try.prog Try.f27 [.leaf (.own (.pair (.int .i64) (.pair (.int .i64) (.row (.int .u8)))) 38), .leaf (.val (.int .i64))]) = m27F k p0 p1 p2 := by
    have e23 : m27F23 k k = (fun t1' t2' t9' t37' t38' b0_0' b0_1' b0_2' b0_3' b0_4' b0_5' b0_6' b0_7' b0_8' b0_9' b1' => loopN (normAt 0 m27A true (m27c [true, true, true, true, true, true, false, true, true, true])) (fun K s => evC (m27E k) (fun _ f => f) (m27I k) 0 m27A (m27c [true, true, true, true, true, true, false, true, true, true]) s K) (m27K15 (fun _ f => f) k) k (m27S23 t1' t2' t9' t37' t38' b0_0' b0_1' b0_2' b0_3' b0_4' b0_5' b0_6' b0_7' b0_8' b0_9' b1')) := funext fun t1' => funext fun t2' => funext fun t9' => funext fun t37' => funext fun t38' => funext fun b0_0' => funext fun b0_1' => funext fun b0_2' => funext fun b0_3' => funext fun b0_4' => funext fun b0_5' => funext fun b0_6' => funext fun b0_7' => funext fun b0_8' => funext fun b0_9' => funext fun b1' => (m27q23 k k t1' t2' t9' t37' t38' b0_0' b0_1' b0_2' b0_3' b0_4' b0_5' b0_6' b0_7' b0_8' b0_9' b1').symm
    show _ = m27X (m27F23 k k) k p0 p1 p2
    rw [e23]
    exact m27x (fun _ f => f) k p0 p1 p2

noncomputable def m27sp : Spec := { ps := [.st (.pair (.int .i64) (.pair (.int .i64) (.pair (.int .i64) (.pair (.int .i64) (.pair (.int .i64) (.pair (.int .i64) (.pair (.int .i64) (.pair (.int .i64) (.pair (.int .i64) (.int .i64)))))))))), .leaf (.val (.int .i64)), .leaf (.val (.row (.int .u8)))], rs := [.leaf (.own (.pair (.int .i64) (.pair (.int .i64) (.row (.int .u8)))) 38), .leaf (.val (.int .i64))], f := fun k a => m27F k a.1 a.2.1 a.2.2 }

theorem m27ok (k : Nat) : EnvOk (m27E k) := envOk_of (l := [(12, m12sp), (19, m19sp), (40, m40sp)]) progNames progMixed rfl (.cons ⟨m12con k, Try.f12, by kernel_rfl, by kernel_rfl⟩ (.cons ⟨m19con k, Try.f19, by kernel_rfl, by kernel_rfl⟩ (.cons ⟨m40con k, Try.f40, by kernel_rfl, by kernel_rfl⟩ (.nil))))

theorem m27con (k : Nat) : Contract Try.prog k 27 m27sp := contract_of (E := m27E k) (m27ok k) (A := only 27 m27A) (d := 3) (c := m27c []) (by kernel_rfl) (by kernel_rfl) fun a _ h => (m27q k a.1 a.2.1 a.2.2).trans h

noncomputable def m28A : Anns := tabA [(9, { keep := [0, 1, 5] })]
noncomputable def m28E (k : Nat) : Env := { P := Try.prog, k := k, G := tabG [] }
noncomputable def m28c (p : List Bool) : Code := sub p (bodyOf Try.f28)
noncomputable def m28I (k : Nat) : Inl Bool := inlOf (m28E k) (only 28 m28A) 3
noncomputable def m28K0 (M : Cut Bool) (k : Nat) : Exit → St → Option Bool := seqK (normAt 0 m28A false (m28c [true])) (cutK M m28A (m28c [true]) fun s => evC (m28E k) M (m28I k) 0 m28A (m28c [true]) s (retK Try.prog Try.f28 [.leaf (.val .bool)])) (retK Try.prog Try.f28 [.leaf (.val .bool)])
noncomputable def m28K1 (M : Cut Bool) (k : Nat) : Exit → St → Option Bool := seqK (normAt 0 m28A false (m28c [true, true])) (cutK M m28A (m28c [true, true]) fun s => evC (m28E k) M (m28I k) 0 m28A (m28c [true, true]) s (retK Try.prog Try.f28 [.leaf (.val .bool)])) (retK Try.prog Try.f28 [.leaf (.val .bool)])
noncomputable def m28K2 (M : Cut Bool) (k : Nat) : Exit → St → Option Bool := seqK (normAt 0 m28A false (m28c [true, false, true])) (cutK M m28A (m28c [true, false, true]) fun s => evC (m28E k) M (m28I k) 0 m28A (m28c [true, false, true]) s (m28K1 M k)) (m28K1 M k)
noncomputable def m28K3 (M : Cut Bool) (k : Nat) : Exit → St → Option Bool := seqK (normAt 0 m28A false (m28c [true, false, true, false, true])) (cutK M m28A (m28c [true, false, true, false, true]) fun s => evC (m28E k) M (m28I k) 0 m28A (m28c [true, false, true, false, true]) s (m28K1 M k)) (m28K1 M k)
noncomputable def m28K4 (M : Cut Bool) (k : Nat) : Exit → St → Option Bool := seqK (normAt 0 m28A false (m28c [true, true, true])) (cutK M m28A (m28c [true, true, true]) fun s => evC (m28E k) M (m28I k) 0 m28A (m28c [true, true, true]) s (retK Try.prog Try.f28 [.leaf (.val .bool)])) (retK Try.prog Try.f28 [.leaf (.val .bool)])
noncomputable def m28K5 (M : Cut Bool) (k : Nat) : Exit → St → Option Bool := seqK (normAt 0 m28A false (m28c [true, true, false, true])) (cutK M m28A (m28c [true, true, false, true]) fun s => evC (m28E k) M (m28I k) 0 m28A (m28c [true, true, false, true]) s (m28K4 M k)) (m28K4 M k)
noncomputable def m28K6 (M : Cut Bool) (k : Nat) : Exit → St → Option Bool := blockK 0 (m28K4 M k)
noncomputable def m28K7 (M : Cut Bool) (k : Nat) (L9 : St → Option Bool) : Exit → St → Option Bool := seqK (normAt 0 m28A true (m28c [true, true, false, true, true, true])) L9 (m28K6 M k)
noncomputable def m28K8 (M : Cut Bool) (k : Nat) (L9 : St → Option Bool) : Exit → St → Option Bool := seqK (normAt 0 m28A false (m28c [true, true, false, true, true, true, true])) (cutK M m28A (m28c [true, true, false, true, true, true, true]) fun s => evC (m28E k) M (m28I k) 0 m28A (m28c [true, true, false, true, true, true, true]) s (m28K7 M k L9)) (m28K7 M k L9)
noncomputable def m28K9 (M : Cut Bool) (k : Nat) (L9 : St → Option Bool) : Exit → St → Option Bool := seqK (normAt 0 m28A false (m28c [true, true, false, true, true, true, false, true])) (cutK M m28A (m28c [true, true, false, true, true, true, false, true]) fun s => evC (m28E k) M (m28I k) 0 m28A (m28c [true, true, false, true, true, true, false, true]) s (m28K8 M k L9)) (m28K8 M k L9)
noncomputable def m28K10 (M : Cut Bool) (k : Nat) (L9 : St → Option Bool) : Exit → St → Option Bool := seqK (normAt 0 m28A false (m28c [true, true, false, true, true, true, true, true])) (cutK M m28A (m28c [true, true, false, true, true, true, true, true]) fun s => evC (m28E k) M (m28I k) 0 m28A (m28c [true, true, false, true, true, true, true, true]) s (m28K7 M k L9)) (m28K7 M k L9)
noncomputable def m28K11 (M : Cut Bool) (k : Nat) (L9 : St → Option Bool) : Exit → St → Option Bool := blockK 1 (m28K10 M k L9)
noncomputable def m28K12 (M : Cut Bool) (k : Nat) (L9 : St → Option Bool) : Exit → St → Option Bool := seqK (normAt 0 m28A false (m28c [true, true, false, true, true, true, true, false, true, true])) (cutK M m28A (m28c [true, true, false, true, true, true, true, false, true, true]) fun s => evC (m28E k) M (m28I k) 0 m28A (m28c [true, true, false, true, true, true, true, false, true, true]) s (m28K11 M k L9)) (m28K11 M k L9)
noncomputable def m28K13 (M : Cut Bool) (k : Nat) (L9 : St → Option Bool) : Exit → St → Option Bool := seqK (normAt 0 m28A false (m28c [true, true, false, true, true, true, true, false, true, true, false, true])) (cutK M m28A (m28c [true, true, false, true, true, true, true, false, true, true, false, true]) fun s => evC (m28E k) M (m28I k) 0 m28A (m28c [true, true, false, true, true, true, true, false, true, true, false, true]) s (m28K11 M k L9)) (m28K11 M k L9)
noncomputable def m28K14 (M : Cut Bool) (k : Nat) : Exit → St → Option Bool := seqK (normAt 0 m28A false (m28c [true, true, true, true])) (cutK M m28A (m28c [true, true, true, true]) fun s => evC (m28E k) M (m28I k) 0 m28A (m28c [true, true, true, true]) s (retK Try.prog Try.f28 [.leaf (.val .bool)])) (retK Try.prog Try.f28 [.leaf (.val .bool)])
noncomputable def m28S9 (t0 : List Int) (t1 : List Int) (t5 : Int) : St := { n := 26, tm := slots [(0, .row (.int .u8) t0), (1, .row (.int .u8) t1), (5, .int .i64 t5)], tab := blks [], nx := 0 }

noncomputable def m28X (X9 : List Int → List Int → Int → Option Bool) (k : Nat) (p0 : (List Int)) (p1 : (List Int)) : Option Bool := (if (!eqI (↑(List.length p0) : Int) (↑(List.length p1) : Int)) = true then some (false) else X9 p0 p1 (0))

theorem m28x (M : Cut Bool) (k : Nat) (p0 : (List Int)) (p1 : (List Int)) : evC (m28E k) M (m28I k) 0 m28A (m28c []) (stAt Try.f28 (argSs [.leaf (.val (.row (.int .u8))), .leaf (.val (.row (.int .u8)))] (p0, p1)) (fun _ => none) 0) (retK Try.prog Try.f28 [.leaf (.val .bool)]) = m28X (fun t0' t1' t5' => loopN (normAt 0 m28A true (m28c [true, true, false, true, true, true])) (fun K s => evC (m28E k) M (m28I k) 0 m28A (m28c [true, true, false, true, true, true]) s K) (m28K6 M k) k (m28S9 t0' t1' t5')) k p0 p1 := by kernel_rfl

noncomputable def m28X9 (L9 : List Int → List Int → Int → Option Bool) (k : Nat) (t0 : List Int) (t1 : List Int) (t5 : Int) : Option Bool := (if ltI t5 (↑(List.length t0) : Int) = true then (if leI 0 t5 = true then (if ltI t5 (↑(List.length t0) : Int) = true then (if leI 0 t5 = true then (if ltI t5 (↑(List.length t1) : Int) = true then (if (!eqI (List.getD t0 (Int.toNat t5) 0) (List.getD t1 (Int.toNat t5) 0)) = true then some (false) else L9 t0 t1 (wr IntKind.i64 (t5 + 1))) else none) else none) else none) else none) else some (true))

theorem m28x9 (M : Cut Bool) (k : Nat) (L9 : St → Option Bool) (t0 : List Int) (t1 : List Int) (t5 : Int) : evC (m28E k) M (m28I k) 0 m28A (m28c [true, true, false, true, true, true]) (m28S9 t0 t1 t5) (seqK (normAt 0 m28A true (m28c [true, true, false, true, true, true])) L9 (m28K6 M k)) = m28X9 (fun t0' t1' t5' => L9 (m28S9 t0' t1' t5')) k t0 t1 t5 := by kernel_rfl

noncomputable def m28F9 (k : Nat) : Nat → List Int → List Int → Int → Option Bool
  | 0, _, _, _ => none
  | j + 1, t0, t1, t5 => m28X9 (m28F9 k j) k t0 t1 t5

theorem m28q9 (k : Nat) : ∀ (j : Nat) (t0 : List Int) (t1 : List Int) (t5 : Int), loopN (normAt 0 m28A true (m28c [true, true, false, true, true, true])) (fun K s => evC (m28E k) (fun _ f => f) (m28I k) 0 m28A (m28c [true, true, false, true, true, true]) s K) (m28K6 (fun _ f => f) k) j (m28S9 t0 t1 t5) = m28F9 k j t0 t1 t5
  | 0, _, _, _ => rfl
  | j + 1, t0, t1, t5 => by
    have e0 : m28F9 k j = (fun t0' t1' t5' => loopN (normAt 0 m28A true (m28c [true, true, false, true, true, true])) (fun K s => evC (m28E k) (fun _ f => f) (m28I k) 0 m28A (m28c [true, true, false, true, true, true]) s K) (m28K6 (fun _ f => f) k) j (m28S9 t0' t1' t5')) := funext fun t0' => funext fun t1' => funext fun t5' => (m28q9 k j t0' t1' t5').symm
    show _ = m28X9 (m28F9 k j) k t0 t1 t5
    rw [e0]
    exact m28x9 (fun _ f => f) k (loopN (normAt 0 m28A true (m28c [true, true, false, true, true, true])) (fun K s => evC (m28E k) (fun _ f => f) (m28I k) 0 m28A (m28c [true, true, false, true, true, true]) s K) (m28K6 (fun _ f => f) k) j) t0 t1 t5

noncomputable def m28F (k : Nat) (p0 : (List Int)) (p1 : (List Int)) : Option Bool := m28X (m28F9 k k) k p0 p1

theorem m28q (k : Nat) (p0 : (List Int)) (p1 : (List Int)) : evC (m28E k) (fun _ f => f) (m28I k) 0 m28A (m28c []) (stAt Try.f28 (argSs [.leaf (.val (.row (.int .u8))), .leaf (.val (.row (.int .u8)))] (p0, p1)) (fun _ => none) 0) (retK Try.prog Try.f28 [.leaf (.val .bool)]) = m28F k p0 p1 := by
    have e9 : m28F9 k k = (fun t0' t1' t5' => loopN (normAt 0 m28A true (m28c [true, true, false, true, true, true])) (fun K s => evC (m28E k) (fun _ f => f) (m28I k) 0 m28A (m28c [true, true, false, true, true, true]) s K) (m28K6 (fun _ f => f) k) k (m28S9 t0' t1' t5')) := funext fun t0' => funext fun t1' => funext fun t5' => (m28q9 k k t0' t1' t5').symm
    show _ = m28X (m28F9 k k) k p0 p1
    rw [e9]
    exact m28x (fun _ f => f) k p0 p1

noncomputable def m28sp : Spec := { ps := [.leaf (.val (.row (.int .u8))), .leaf (.val (.row (.int .u8)))], rs := [.leaf (.val .bool)], f := fun k a => m28F k a.1 a.2 }

theorem m28ok (k : Nat) : EnvOk (m28E k) := envOk_of (l := []) progNames progMixed rfl (.nil)

theorem m28con (k : Nat) : Contract Try.prog k 28 m28sp := contract_of (E := m28E k) (m28ok k) (A := only 28 m28A) (d := 3) (c := m28c []) (by kernel_rfl) (by kernel_rfl) fun a _ h => (m28q k a.1 a.2).trans h

noncomputable def m29A : Anns := tabA []
noncomputable def m29E (k : Nat) : Env := { P := Try.prog, k := k, G := tabG [(27, m27sp)] }
noncomputable def m29c (p : List Bool) : Code := sub p (bodyOf Try.f29)
noncomputable def m29I (k : Nat) : Inl Bool := inlOf (m29E k) (only 29 m29A) 3
noncomputable def m29K0 (M : Cut Bool) (k : Nat) : Exit → St → Option Bool := seqK (normAt 0 m29A false (m29c [true])) (cutK M m29A (m29c [true]) fun s => evC (m29E k) M (m29I k) 0 m29A (m29c [true]) s (retK Try.prog Try.f29 [.leaf (.val .bool)])) (retK Try.prog Try.f29 [.leaf (.val .bool)])
noncomputable def m29K1 (M : Cut Bool) (k : Nat) : Exit → St → Option Bool := seqK (normAt 0 m29A false (m29c [true, true])) (cutK M m29A (m29c [true, true]) fun s => evC (m29E k) M (m29I k) 0 m29A (m29c [true, true]) s (retK Try.prog Try.f29 [.leaf (.val .bool)])) (retK Try.prog Try.f29 [.leaf (.val .bool)])
noncomputable def m29K2 (M : Cut Bool) (k : Nat) : Exit → St → Option Bool := seqK (normAt 0 m29A false (m29c [true, true, true])) (cutK M m29A (m29c [true, true, true]) fun s => evC (m29E k) M (m29I k) 0 m29A (m29c [true, true, true]) s (retK Try.prog Try.f29 [.leaf (.val .bool)])) (retK Try.prog Try.f29 [.leaf (.val .bool)])
noncomputable def m29K3 (M : Cut Bool) (k : Nat) : Exit → St → Option Bool := seqK (normAt 0 m29A false (m29c [true, true, true, true])) (cutK M m29A (m29c [true, true, true, true]) fun s => evC (m29E k) M (m29I k) 0 m29A (m29c [true, true, true, true]) s (retK Try.prog Try.f29 [.leaf (.val .bool)])) (retK Try.prog Try.f29 [.leaf (.val .bool)])

noncomputable def m29X (k : Nat) : Option Bool := (Option.bind (m27F k (2, 1, 1, 1, 1, 1, 1, 4, 9, 0) 5 []) fun (c2 : ((List (Int × (Int × (List Int)))) × Int)) => (if eqI (Prod.snd c2) 0 = true then (if eqI (↑(List.length (Prod.fst c2)) : Int) 1 = true then (if leI 0 0 = true then (if ltI 0 (↑(List.length (Prod.fst c2)) : Int) = true then (if eqI (Prod.fst (List.getD (Prod.fst c2) 0 (0, 0, []))) 5 = true then (if leI 0 0 = true then (if ltI 0 (↑(List.length (Prod.fst c2)) : Int) = true then some (eqI (Prod.fst (Prod.snd (List.getD (Prod.fst c2) 0 (0, 0, [])))) 3) else none) else none) else some (false)) else none) else none) else some (false)) else some (false)))

theorem m29x (M : Cut Bool) (k : Nat) : evC (m29E k) M (m29I k) 0 m29A (m29c []) (stAt Try.f29 (argSs [] ()) (fun _ => none) 0) (retK Try.prog Try.f29 [.leaf (.val .bool)]) = m29X k := by kernel_rfl

noncomputable def m29F (k : Nat) : Option Bool := m29X k

theorem m29q (k : Nat) : evC (m29E k) (fun _ f => f) (m29I k) 0 m29A (m29c []) (stAt Try.f29 (argSs [] ()) (fun _ => none) 0) (retK Try.prog Try.f29 [.leaf (.val .bool)]) = m29F k := by
    show _ = m29X k
    exact m29x (fun _ f => f) k

noncomputable def m29sp : Spec := { ps := [], rs := [.leaf (.val .bool)], f := fun k a => m29F k }

theorem m29ok (k : Nat) : EnvOk (m29E k) := envOk_of (l := [(27, m27sp)]) progNames progMixed rfl (.cons ⟨m27con k, Try.f27, by kernel_rfl, by kernel_rfl⟩ (.nil))

theorem m29con (k : Nat) : Contract Try.prog k 29 m29sp := contract_of (E := m29E k) (m29ok k) (A := only 29 m29A) (d := 3) (c := m29c []) (by kernel_rfl) (by kernel_rfl) fun a _ h => (m29q k).trans h

noncomputable def m42A : Anns := tabA []
noncomputable def m42E (k : Nat) : Env := { P := Try.prog, k := k, G := tabG [] }
noncomputable def m42c (p : List Bool) : Code := sub p (bodyOf Try.f42)
noncomputable def m42I (k : Nat) : Inl Bool := inlOf (m42E k) (only 42 m42A) 3
noncomputable def m42K0 (M : Cut Bool) (k : Nat) : Exit → St → Option Bool := seqK (normAt 0 m42A false (m42c [true])) (cutK M m42A (m42c [true]) fun s => evC (m42E k) M (m42I k) 0 m42A (m42c [true]) s (retK Try.prog Try.f42 [.leaf (.val .bool)])) (retK Try.prog Try.f42 [.leaf (.val .bool)])
noncomputable def m42K1 (M : Cut Bool) (k : Nat) : Exit → St → Option Bool := seqK (normAt 0 m42A false (m42c [true, true])) (cutK M m42A (m42c [true, true]) fun s => evC (m42E k) M (m42I k) 0 m42A (m42c [true, true]) s (retK Try.prog Try.f42 [.leaf (.val .bool)])) (retK Try.prog Try.f42 [.leaf (.val .bool)])

noncomputable def m42X (k : Nat) (p0 : Int) : Option Bool := (if leI 1 p0 = true then some (leI p0 16) else some (false))

theorem m42x (M : Cut Bool) (k : Nat) (p0 : Int) : evC (m42E k) M (m42I k) 0 m42A (m42c []) (stAt Try.f42 (argSs [.leaf (.val (.int .i64))] p0) (fun _ => none) 0) (retK Try.prog Try.f42 [.leaf (.val .bool)]) = m42X k p0 := by kernel_rfl

noncomputable def m42F (k : Nat) (p0 : Int) : Option Bool := m42X k p0

theorem m42q (k : Nat) (p0 : Int) : evC (m42E k) (fun _ f => f) (m42I k) 0 m42A (m42c []) (stAt Try.f42 (argSs [.leaf (.val (.int .i64))] p0) (fun _ => none) 0) (retK Try.prog Try.f42 [.leaf (.val .bool)]) = m42F k p0 := by
    show _ = m42X k p0
    exact m42x (fun _ f => f) k p0

noncomputable def m42sp : Spec := { ps := [.leaf (.val (.int .i64))], rs := [.leaf (.val .bool)], f := fun k a => m42F k a }

theorem m42ok (k : Nat) : EnvOk (m42E k) := envOk_of (l := []) progNames progMixed rfl (.nil)

theorem m42con (k : Nat) : Contract Try.prog k 42 m42sp := contract_of (E := m42E k) (m42ok k) (A := only 42 m42A) (d := 3) (c := m42c []) (by kernel_rfl) (by kernel_rfl) fun a _ h => (m42q k a).trans h

noncomputable def m33A : Anns := tabA []
noncomputable def m33E (k : Nat) : Env := { P := Try.prog, k := k, G := tabG [(42, m42sp)] }
noncomputable def m33c (p : List Bool) : Code := sub p (bodyOf Try.f33)
noncomputable def m33I (k : Nat) : Inl Int := inlOf (m33E k) (only 33 m33A) 3
noncomputable def m33K0 (M : Cut Int) (k : Nat) : Exit → St → Option Int := seqK (normAt 0 m33A false (m33c [true])) (cutK M m33A (m33c [true]) fun s => evC (m33E k) M (m33I k) 0 m33A (m33c [true]) s (retK Try.prog Try.f33 [.leaf (.val (.int .i64))])) (retK Try.prog Try.f33 [.leaf (.val (.int .i64))])
noncomputable def m33K1 (M : Cut Int) (k : Nat) : Exit → St → Option Int := seqK (normAt 0 m33A false (m33c [true, true])) (cutK M m33A (m33c [true, true]) fun s => evC (m33E k) M (m33I k) 0 m33A (m33c [true, true]) s (retK Try.prog Try.f33 [.leaf (.val (.int .i64))])) (retK Try.prog Try.f33 [.leaf (.val (.int .i64))])
noncomputable def m33K2 (M : Cut Int) (k : Nat) : Exit → St → Option Int := blockK 0 (m33K1 M k)
noncomputable def m33K3 (M : Cut Int) (k : Nat) : Exit → St → Option Int := seqK (normAt 0 m33A false (m33c [true, false, true, true])) (cutK M m33A (m33c [true, false, true, true]) fun s => evC (m33E k) M (m33I k) 0 m33A (m33c [true, false, true, true]) s (m33K2 M k)) (m33K2 M k)
noncomputable def m33K4 (M : Cut Int) (k : Nat) : Exit → St → Option Int := seqK (normAt 0 m33A false (m33c [true, false, true, true, false, true])) (cutK M m33A (m33c [true, false, true, true, false, true]) fun s => evC (m33E k) M (m33I k) 0 m33A (m33c [true, false, true, true, false, true]) s (m33K2 M k)) (m33K2 M k)
noncomputable def m33K5 (M : Cut Int) (k : Nat) : Exit → St → Option Int := seqK (normAt 0 m33A false (m33c [true, false, true, true, true, true])) (cutK M m33A (m33c [true, false, true, true, true, true]) fun s => evC (m33E k) M (m33I k) 0 m33A (m33c [true, false, true, true, true, true]) s (m33K2 M k)) (m33K2 M k)
noncomputable def m33K6 (M : Cut Int) (k : Nat) : Exit → St → Option Int := seqK (normAt 0 m33A false (m33c [true, false, true, true, true, true, false, true])) (cutK M m33A (m33c [true, false, true, true, true, true, false, true]) fun s => evC (m33E k) M (m33I k) 0 m33A (m33c [true, false, true, true, true, true, false, true]) s (m33K2 M k)) (m33K2 M k)
noncomputable def m33K7 (M : Cut Int) (k : Nat) : Exit → St → Option Int := seqK (normAt 0 m33A false (m33c [true, true, true])) (cutK M m33A (m33c [true, true, true]) fun s => evC (m33E k) M (m33I k) 0 m33A (m33c [true, true, true]) s (retK Try.prog Try.f33 [.leaf (.val (.int .i64))])) (retK Try.prog Try.f33 [.leaf (.val (.int .i64))])

noncomputable def m33X (k : Nat) (p0 : Int) (p1 : (Int × (Int × (List Int)))) : Option Int := (Option.bind (m42F k p0) fun (c4 : Bool) => (if (!c4) = true then some (1) else (if ltI (Prod.fst p1) 0 = true then some (1) else (if leI 1073741824 (Prod.fst p1) = true then some (1) else (if ltI (Prod.fst (Prod.snd p1)) 0 = true then some (1) else (if ltI 3 (Prod.fst (Prod.snd p1)) = true then some (1) else (if ltI p0 (↑(List.length (Prod.snd (Prod.snd p1))) : Int) = true then some (2) else (if ltI (↑(List.length (Prod.snd (Prod.snd p1))) : Int) p0 = true then (if eqI (bits BinOp.and IntKind.i64 (Prod.fst (Prod.snd p1)) 2) 0 = true then some (2) else some (0)) else some (0)))))))))

theorem m33x (M : Cut Int) (k : Nat) (p0 : Int) (p1 : (Int × (Int × (List Int)))) : evC (m33E k) M (m33I k) 0 m33A (m33c []) (stAt Try.f33 (argSs [.leaf (.val (.int .i64)), .st (.pair (.int .i64) (.pair (.int .i64) (.row (.int .u8))))] (p0, p1)) (fun _ => none) 0) (retK Try.prog Try.f33 [.leaf (.val (.int .i64))]) = m33X k p0 p1 := by kernel_rfl

noncomputable def m33F (k : Nat) (p0 : Int) (p1 : (Int × (Int × (List Int)))) : Option Int := m33X k p0 p1

theorem m33q (k : Nat) (p0 : Int) (p1 : (Int × (Int × (List Int)))) : evC (m33E k) (fun _ f => f) (m33I k) 0 m33A (m33c []) (stAt Try.f33 (argSs [.leaf (.val (.int .i64)), .st (.pair (.int .i64) (.pair (.int .i64) (.row (.int .u8))))] (p0, p1)) (fun _ => none) 0) (retK Try.prog Try.f33 [.leaf (.val (.int .i64))]) = m33F k p0 p1 := by
    show _ = m33X k p0 p1
    exact m33x (fun _ f => f) k p0 p1

noncomputable def m33sp : Spec := { ps := [.leaf (.val (.int .i64)), .st (.pair (.int .i64) (.pair (.int .i64) (.row (.int .u8))))], rs := [.leaf (.val (.int .i64))], f := fun k a => m33F k a.1 a.2 }

theorem m33ok (k : Nat) : EnvOk (m33E k) := envOk_of (l := [(42, m42sp)]) progNames progMixed rfl (.cons ⟨m42con k, Try.f42, by kernel_rfl, by kernel_rfl⟩ (.nil))

theorem m33con (k : Nat) : Contract Try.prog k 33 m33sp := contract_of (E := m33E k) (m33ok k) (A := only 33 m33A) (d := 3) (c := m33c []) (by kernel_rfl) (by kernel_rfl) fun a _ h => (m33q k a.1 a.2).trans h

noncomputable def m34A : Anns := tabA []
noncomputable def m34E (k : Nat) : Env := { P := Try.prog, k := k, G := tabG [] }
noncomputable def m34c (p : List Bool) : Code := sub p (bodyOf Try.f34)
noncomputable def m34I (k : Nat) : Inl Bool := inlOf (m34E k) (only 34 m34A) 3
noncomputable def m34K0 (M : Cut Bool) (k : Nat) : Exit → St → Option Bool := seqK (normAt 0 m34A false (m34c [true])) (cutK M m34A (m34c [true]) fun s => evC (m34E k) M (m34I k) 0 m34A (m34c [true]) s (retK Try.prog Try.f34 [.leaf (.val .bool)])) (retK Try.prog Try.f34 [.leaf (.val .bool)])
noncomputable def m34K1 (M : Cut Bool) (k : Nat) : Exit → St → Option Bool := seqK (normAt 0 m34A false (m34c [true, true])) (cutK M m34A (m34c [true, true]) fun s => evC (m34E k) M (m34I k) 0 m34A (m34c [true, true]) s (retK Try.prog Try.f34 [.leaf (.val .bool)])) (retK Try.prog Try.f34 [.leaf (.val .bool)])

noncomputable def m34X (k : Nat) (p0 : (Bool × (List Int))) (p1 : (Int × (Int × (List Int)))) : Option Bool := (if (!eqI (bits BinOp.and IntKind.i64 (Prod.fst (Prod.snd p1)) 2) 0) = true then (if Prod.fst p0 = true then some (true) else some (!eqI (bits BinOp.and IntKind.i64 (Prod.fst (Prod.snd p1)) 1) 0)) else some (false))

theorem m34x (M : Cut Bool) (k : Nat) (p0 : (Bool × (List Int))) (p1 : (Int × (Int × (List Int)))) : evC (m34E k) M (m34I k) 0 m34A (m34c []) (stAt Try.f34 (argSs [.st (.pair .bool (.row (.int .u8))), .st (.pair (.int .i64) (.pair (.int .i64) (.row (.int .u8))))] (p0, p1)) (fun _ => none) 0) (retK Try.prog Try.f34 [.leaf (.val .bool)]) = m34X k p0 p1 := by kernel_rfl

noncomputable def m34F (k : Nat) (p0 : (Bool × (List Int))) (p1 : (Int × (Int × (List Int)))) : Option Bool := m34X k p0 p1

theorem m34q (k : Nat) (p0 : (Bool × (List Int))) (p1 : (Int × (Int × (List Int)))) : evC (m34E k) (fun _ f => f) (m34I k) 0 m34A (m34c []) (stAt Try.f34 (argSs [.st (.pair .bool (.row (.int .u8))), .st (.pair (.int .i64) (.pair (.int .i64) (.row (.int .u8))))] (p0, p1)) (fun _ => none) 0) (retK Try.prog Try.f34 [.leaf (.val .bool)]) = m34F k p0 p1 := by
    show _ = m34X k p0 p1
    exact m34x (fun _ f => f) k p0 p1

noncomputable def m34sp : Spec := { ps := [.st (.pair .bool (.row (.int .u8))), .st (.pair (.int .i64) (.pair (.int .i64) (.row (.int .u8))))], rs := [.leaf (.val .bool)], f := fun k a => m34F k a.1 a.2 }

theorem m34ok (k : Nat) : EnvOk (m34E k) := envOk_of (l := []) progNames progMixed rfl (.nil)

theorem m34con (k : Nat) : Contract Try.prog k 34 m34sp := contract_of (E := m34E k) (m34ok k) (A := only 34 m34A) (d := 3) (c := m34c []) (by kernel_rfl) (by kernel_rfl) fun a _ h => (m34q k a.1 a.2).trans h

end Go.Proofs.Ythfdejbckheagaa.Mini
