/- Printed by a program of this session's (MPrint, over wip/mini): plain functions of the program's, and that they are what it does. Lean checks it. -/
import Derived.Test.YthfdejbckheagaaXMO
import Derived.Test.YthfdejbckheagaaProg
import Derived.KernelRfl
set_option linter.unusedVariables false
namespace Go.Proofs.Ythfdejbckheagaa.Mini
open Go Go.RowKit Go.Proofs
theorem progNames : (Try.prog.funcs.all fun f => !(f.name == "runtime.NumGoroutine")) = true := by kernel_rfl
theorem progMixed : Try.prog.follows .mixedOrders = true := by kernel_rfl

noncomputable def m35A : Anns := tabA []
noncomputable def m35E (k : Nat) : Env := { P := Try.prog, k := k, G := tabG [] }
noncomputable def m35c (p : List Bool) : Code := sub p (bodyOf Try.f35)
noncomputable def m35I (k : Nat) : Inl Bool := inlOf (m35E k) (only 35 m35A) 3
noncomputable def m35K0 (M : Cut Bool) (k : Nat) : Exit → St → Option Bool := seqK (normAt 0 m35A false (m35c [true])) (cutK M m35A (m35c [true]) fun s => evC (m35E k) M (m35I k) 0 m35A (m35c [true]) s (retK Try.f35 [.leaf (.val .bool)])) (retK Try.f35 [.leaf (.val .bool)])
noncomputable def m35K1 (M : Cut Bool) (k : Nat) : Exit → St → Option Bool := seqK (normAt 0 m35A false (m35c [true, true])) (cutK M m35A (m35c [true, true]) fun s => evC (m35E k) M (m35I k) 0 m35A (m35c [true, true]) s (retK Try.f35 [.leaf (.val .bool)])) (retK Try.f35 [.leaf (.val .bool)])

noncomputable def m35X (k : Nat) (p0 : Int) (p1 : Int) (p2 : Int) : Option Bool := (if decide (p0 ≥ p1) = true then some (decide (p0 ≤ p2)) else some (false))

theorem m35x (M : Cut Bool) (k : Nat) (p0 : Int) (p1 : Int) (p2 : Int) : evC (m35E k) M (m35I k) 0 m35A (m35c []) (stAt Try.f35 (argSs [.leaf (.val (.int .i64)), .leaf (.val (.int .i64)), .leaf (.val (.int .i64))] (p0, p1, p2)) (fun _ => none) 0) (retK Try.f35 [.leaf (.val .bool)]) = m35X k p0 p1 p2 := by kernel_rfl

noncomputable def m35F (k : Nat) (p0 : Int) (p1 : Int) (p2 : Int) : Option Bool := m35X k p0 p1 p2

theorem m35q (k : Nat) (p0 : Int) (p1 : Int) (p2 : Int) : evC (m35E k) (fun _ f => f) (m35I k) 0 m35A (m35c []) (stAt Try.f35 (argSs [.leaf (.val (.int .i64)), .leaf (.val (.int .i64)), .leaf (.val (.int .i64))] (p0, p1, p2)) (fun _ => none) 0) (retK Try.f35 [.leaf (.val .bool)]) = m35F k p0 p1 p2 := by
    show _ = m35X k p0 p1 p2
    exact m35x (fun _ f => f) k p0 p1 p2

noncomputable def m35sp : Spec := { ps := [.leaf (.val (.int .i64)), .leaf (.val (.int .i64)), .leaf (.val (.int .i64))], rs := [.leaf (.val .bool)], f := fun k a => m35F k a.1 a.2.1 a.2.2 }

theorem m35ok (k : Nat) : EnvOk (m35E k) := envOk_of (l := []) progNames progMixed rfl (.nil)

theorem m35con (k : Nat) : Contract Try.prog k 35 m35sp := contract_of (E := m35E k) (m35ok k) (A := only 35 m35A) (d := 3) (c := m35c []) (by kernel_rfl) (by kernel_rfl) fun a _ h => (m35q k a.1 a.2.1 a.2.2).trans h

noncomputable def m11A : Anns := tabA []
noncomputable def m11E (k : Nat) : Env := { P := Try.prog, k := k, G := tabG [(35, m35sp)] }
noncomputable def m11c (p : List Bool) : Code := sub p (bodyOf Try.f11)
noncomputable def m11I (k : Nat) : Inl Bool := inlOf (m11E k) (only 11 m11A) 3
noncomputable def m11K0 (M : Cut Bool) (k : Nat) : Exit → St → Option Bool := seqK (normAt 0 m11A false (m11c [true])) (cutK M m11A (m11c [true]) fun s => evC (m11E k) M (m11I k) 0 m11A (m11c [true]) s (retK Try.f11 [.leaf (.val .bool)])) (retK Try.f11 [.leaf (.val .bool)])
noncomputable def m11K1 (M : Cut Bool) (k : Nat) : Exit → St → Option Bool := seqK (normAt 0 m11A false (m11c [true, true])) (cutK M m11A (m11c [true, true]) fun s => evC (m11E k) M (m11I k) 0 m11A (m11c [true, true]) s (retK Try.f11 [.leaf (.val .bool)])) (retK Try.f11 [.leaf (.val .bool)])

noncomputable def m11X (k : Nat) (p0 : (Int × (Int × (Int × (Int × (Int × (Int × (Int × (Int × (Int × Int)))))))))) : Option Bool := (Option.bind (m35F k (Prod.fst p0) 1 16) fun (c3 : Bool) => (if c3 = true then (Option.bind (m35F k (Prod.fst (Prod.snd p0)) 1 16) fun (c4 : Bool) => (if c4 = true then (Option.bind (m35F k (Prod.fst (Prod.snd (Prod.snd p0))) 1 3) fun (c5 : Bool) => (if c5 = true then (Option.bind (m35F k (Prod.fst (Prod.snd (Prod.snd (Prod.snd p0)))) 1 16) fun (c6 : Bool) => (if c6 = true then (Option.bind (m35F k (Prod.fst (Prod.snd (Prod.snd (Prod.snd (Prod.snd p0))))) 1 16) fun (c7 : Bool) => (if c7 = true then (Option.bind (m35F k (Prod.fst (Prod.snd (Prod.snd (Prod.snd (Prod.snd (Prod.snd p0)))))) 1 16) fun (c8 : Bool) => (if c8 = true then (Option.bind (m35F k (Prod.fst (Prod.snd (Prod.snd (Prod.snd (Prod.snd (Prod.snd (Prod.snd p0))))))) 1 64) fun (c9 : Bool) => (if c9 = true then (Option.bind (m35F k (Prod.fst (Prod.snd (Prod.snd (Prod.snd (Prod.snd (Prod.snd (Prod.snd (Prod.snd p0)))))))) 4 16) fun (c10 : Bool) => (if c10 = true then (Option.bind (m35F k (Prod.fst (Prod.snd (Prod.snd (Prod.snd (Prod.snd (Prod.snd (Prod.snd (Prod.snd (Prod.snd p0))))))))) 0 200) fun (c11 : Bool) => (if c11 = true then (Option.bind (m35F k (Prod.snd (Prod.snd (Prod.snd (Prod.snd (Prod.snd (Prod.snd (Prod.snd (Prod.snd (Prod.snd p0))))))))) 0
  1073741824) fun (c12 : Bool) => some c12) else some (false))) else some (false))) else some (false))) else some (false))) else some (false))) else some (false))) else some (false))) else some (false))) else some (false)))

theorem m11x (M : Cut Bool) (k : Nat) (p0 : (Int × (Int × (Int × (Int × (Int × (Int × (Int × (Int × (Int × Int)))))))))) : evC (m11E k) M (m11I k) 0 m11A (m11c []) (stAt Try.f11 (argSs [.st (.pair (.int .i64) (.pair (.int .i64) (.pair (.int .i64) (.pair (.int .i64) (.pair (.int .i64) (.pair (.int .i64) (.pair (.int .i64) (.pair (.int .i64) (.pair (.int .i64) (.int .i64))))))))))] p0) (fun _ => none) 0) (retK Try.f11 [.leaf (.val .bool)]) = m11X k p0 := by kernel_rfl

noncomputable def m11F (k : Nat) (p0 : (Int × (Int × (Int × (Int × (Int × (Int × (Int × (Int × (Int × Int)))))))))) : Option Bool := m11X k p0

theorem m11q (k : Nat) (p0 : (Int × (Int × (Int × (Int × (Int × (Int × (Int × (Int × (Int × Int)))))))))) : evC (m11E k) (fun _ f => f) (m11I k) 0 m11A (m11c []) (stAt Try.f11 (argSs [.st (.pair (.int .i64) (.pair (.int .i64) (.pair (.int .i64) (.pair (.int .i64) (.pair (.int .i64) (.pair (.int .i64) (.pair (.int .i64) (.pair (.int .i64) (.pair (.int .i64) (.int .i64))))))))))] p0) (fun _ => none) 0) (retK Try.f11 [.leaf (.val .bool)]) = m11F k p0 := by
    show _ = m11X k p0
    exact m11x (fun _ f => f) k p0

noncomputable def m11sp : Spec := { ps := [.st (.pair (.int .i64) (.pair (.int .i64) (.pair (.int .i64) (.pair (.int .i64) (.pair (.int .i64) (.pair (.int .i64) (.pair (.int .i64) (.pair (.int .i64) (.pair (.int .i64) (.int .i64))))))))))], rs := [.leaf (.val .bool)], f := fun k a => m11F k a }

theorem m11ok (k : Nat) : EnvOk (m11E k) := envOk_of (l := [(35, m35sp)]) progNames progMixed rfl (.cons ⟨m35con k, Try.f35, by kernel_rfl, by kernel_rfl⟩ (.nil))

theorem m11con (k : Nat) : Contract Try.prog k 11 m11sp := contract_of (E := m11E k) (m11ok k) (A := only 11 m11A) (d := 3) (c := m11c []) (by kernel_rfl) (by kernel_rfl) fun a _ h => (m11q k a).trans h

noncomputable def m36A : Anns := tabA []
noncomputable def m36E (k : Nat) : Env := { P := Try.prog, k := k, G := tabG [] }
noncomputable def m36c (p : List Bool) : Code := sub p (bodyOf Try.f36)
noncomputable def m36I (k : Nat) : Inl Bool := inlOf (m36E k) (only 36 m36A) 3
noncomputable def m36K0 (M : Cut Bool) (k : Nat) : Exit → St → Option Bool := seqK (normAt 0 m36A false (m36c [true])) (cutK M m36A (m36c [true]) fun s => evC (m36E k) M (m36I k) 0 m36A (m36c [true]) s (retK Try.f36 [.leaf (.val .bool)])) (retK Try.f36 [.leaf (.val .bool)])
noncomputable def m36K1 (M : Cut Bool) (k : Nat) : Exit → St → Option Bool := seqK (normAt 0 m36A false (m36c [true, true])) (cutK M m36A (m36c [true, true]) fun s => evC (m36E k) M (m36I k) 0 m36A (m36c [true, true]) s (retK Try.f36 [.leaf (.val .bool)])) (retK Try.f36 [.leaf (.val .bool)])

noncomputable def m36X (k : Nat) (p0 : Int) (p1 : Int) (p2 : Int) : Option Bool := (if decide (p0 ≥ p1) = true then some (decide (p0 ≤ p2)) else some (false))

theorem m36x (M : Cut Bool) (k : Nat) (p0 : Int) (p1 : Int) (p2 : Int) : evC (m36E k) M (m36I k) 0 m36A (m36c []) (stAt Try.f36 (argSs [.leaf (.val (.int .i64)), .leaf (.val (.int .i64)), .leaf (.val (.int .i64))] (p0, p1, p2)) (fun _ => none) 0) (retK Try.f36 [.leaf (.val .bool)]) = m36X k p0 p1 p2 := by kernel_rfl

noncomputable def m36F (k : Nat) (p0 : Int) (p1 : Int) (p2 : Int) : Option Bool := m36X k p0 p1 p2

theorem m36q (k : Nat) (p0 : Int) (p1 : Int) (p2 : Int) : evC (m36E k) (fun _ f => f) (m36I k) 0 m36A (m36c []) (stAt Try.f36 (argSs [.leaf (.val (.int .i64)), .leaf (.val (.int .i64)), .leaf (.val (.int .i64))] (p0, p1, p2)) (fun _ => none) 0) (retK Try.f36 [.leaf (.val .bool)]) = m36F k p0 p1 p2 := by
    show _ = m36X k p0 p1 p2
    exact m36x (fun _ f => f) k p0 p1 p2

noncomputable def m36sp : Spec := { ps := [.leaf (.val (.int .i64)), .leaf (.val (.int .i64)), .leaf (.val (.int .i64))], rs := [.leaf (.val .bool)], f := fun k a => m36F k a.1 a.2.1 a.2.2 }

theorem m36ok (k : Nat) : EnvOk (m36E k) := envOk_of (l := []) progNames progMixed rfl (.nil)

theorem m36con (k : Nat) : Contract Try.prog k 36 m36sp := contract_of (E := m36E k) (m36ok k) (A := only 36 m36A) (d := 3) (c := m36c []) (by kernel_rfl) (by kernel_rfl) fun a _ h => (m36q k a.1 a.2.1 a.2.2).trans h

noncomputable def m12A : Anns := tabA []
noncomputable def m12E (k : Nat) : Env := { P := Try.prog, k := k, G := tabG [(36, m36sp)] }
noncomputable def m12c (p : List Bool) : Code := sub p (bodyOf Try.f12)
noncomputable def m12I (k : Nat) : Inl Int := inlOf (m12E k) (only 12 m12A) 3
noncomputable def m12K0 (M : Cut Int) (k : Nat) : Exit → St → Option Int := seqK (normAt 0 m12A false (m12c [true])) (cutK M m12A (m12c [true]) fun s => evC (m12E k) M (m12I k) 0 m12A (m12c [true]) s (retK Try.f12 [.leaf (.val (.int .i64))])) (retK Try.f12 [.leaf (.val (.int .i64))])
noncomputable def m12K1 (M : Cut Int) (k : Nat) : Exit → St → Option Int := seqK (normAt 0 m12A false (m12c [true, true])) (cutK M m12A (m12c [true, true]) fun s => evC (m12E k) M (m12I k) 0 m12A (m12c [true, true]) s (retK Try.f12 [.leaf (.val (.int .i64))])) (retK Try.f12 [.leaf (.val (.int .i64))])
noncomputable def m12K2 (M : Cut Int) (k : Nat) : Exit → St → Option Int := seqK (normAt 0 m12A false (m12c [true, false, true])) (cutK M m12A (m12c [true, false, true]) fun s => evC (m12E k) M (m12I k) 0 m12A (m12c [true, false, true]) s (m12K1 M k)) (m12K1 M k)
noncomputable def m12K3 (M : Cut Int) (k : Nat) : Exit → St → Option Int := seqK (normAt 0 m12A false (m12c [true, false, true, false, true])) (cutK M m12A (m12c [true, false, true, false, true]) fun s => evC (m12E k) M (m12I k) 0 m12A (m12c [true, false, true, false, true]) s (m12K1 M k)) (m12K1 M k)
noncomputable def m12K4 (M : Cut Int) (k : Nat) : Exit → St → Option Int := seqK (normAt 0 m12A false (m12c [true, true, true])) (cutK M m12A (m12c [true, true, true]) fun s => evC (m12E k) M (m12I k) 0 m12A (m12c [true, true, true]) s (retK Try.f12 [.leaf (.val (.int .i64))])) (retK Try.f12 [.leaf (.val (.int .i64))])

noncomputable def m12X (k : Nat) (p0 : (Int × (Int × (Int × (Int × (Int × (Int × (Int × (Int × (Int × Int)))))))))) : Option Int := (Option.bind (m36F k (Prod.fst p0) 1 16) fun (c3 : Bool) => (if c3 = true then (Option.bind (m36F k (Prod.fst (Prod.snd p0)) 1 16) fun (c4 : Bool) => (if c4 = true then (Option.bind (m36F k (Prod.fst (Prod.snd (Prod.snd p0))) 1 3) fun (c5 : Bool) => (if c5 = true then (Option.bind (m36F k (Prod.fst (Prod.snd (Prod.snd (Prod.snd p0)))) 1 16) fun (c6 : Bool) => (if c6 = true then (Option.bind (m36F k (Prod.fst (Prod.snd (Prod.snd (Prod.snd (Prod.snd p0))))) 1 16) fun (c7 : Bool) => (if c7 = true then (Option.bind (m36F k (Prod.fst (Prod.snd (Prod.snd (Prod.snd (Prod.snd (Prod.snd p0)))))) 1 16) fun (c8 : Bool) => (if c8 = true then (Option.bind (m36F k (Prod.fst (Prod.snd (Prod.snd (Prod.snd (Prod.snd (Prod.snd (Prod.snd p0))))))) 1 64) fun (c9 : Bool) => (if c9 = true then (Option.bind (m36F k (Prod.fst (Prod.snd (Prod.snd (Prod.snd (Prod.snd (Prod.snd (Prod.snd (Prod.snd p0)))))))) 4 16) fun (c10 : Bool) => (if c10 = true then (Option.bind (m36F k (Prod.fst (Prod.snd (Prod.snd (Prod.snd (Prod.snd (Prod.snd (Prod.snd (Prod.snd (Prod.snd p0))))))))) 0 200) fun (c11 : Bool) => (if c11 = true then (Option.bind (m36F k (Prod.snd (Prod.snd (Prod.snd (Prod.snd (Prod.snd (Prod.snd (Prod.snd (Prod.snd (Prod.snd p0))))))))) 0
  1073741824) fun (c12 : Bool) => (if c12 = true then some (0) else some (1))) else some (1))) else some (1))) else some (1))) else some (1))) else some (1))) else some (1))) else some (1))) else some (1))) else some (1)))

theorem m12x (M : Cut Int) (k : Nat) (p0 : (Int × (Int × (Int × (Int × (Int × (Int × (Int × (Int × (Int × Int)))))))))) : evC (m12E k) M (m12I k) 0 m12A (m12c []) (stAt Try.f12 (argSs [.st (.pair (.int .i64) (.pair (.int .i64) (.pair (.int .i64) (.pair (.int .i64) (.pair (.int .i64) (.pair (.int .i64) (.pair (.int .i64) (.pair (.int .i64) (.pair (.int .i64) (.int .i64))))))))))] p0) (fun _ => none) 0) (retK Try.f12 [.leaf (.val (.int .i64))]) = m12X k p0 := by kernel_rfl

noncomputable def m12F (k : Nat) (p0 : (Int × (Int × (Int × (Int × (Int × (Int × (Int × (Int × (Int × Int)))))))))) : Option Int := m12X k p0

theorem m12q (k : Nat) (p0 : (Int × (Int × (Int × (Int × (Int × (Int × (Int × (Int × (Int × Int)))))))))) : evC (m12E k) (fun _ f => f) (m12I k) 0 m12A (m12c []) (stAt Try.f12 (argSs [.st (.pair (.int .i64) (.pair (.int .i64) (.pair (.int .i64) (.pair (.int .i64) (.pair (.int .i64) (.pair (.int .i64) (.pair (.int .i64) (.pair (.int .i64) (.pair (.int .i64) (.int .i64))))))))))] p0) (fun _ => none) 0) (retK Try.f12 [.leaf (.val (.int .i64))]) = m12F k p0 := by
    show _ = m12X k p0
    exact m12x (fun _ f => f) k p0

noncomputable def m12sp : Spec := { ps := [.st (.pair (.int .i64) (.pair (.int .i64) (.pair (.int .i64) (.pair (.int .i64) (.pair (.int .i64) (.pair (.int .i64) (.pair (.int .i64) (.pair (.int .i64) (.pair (.int .i64) (.int .i64))))))))))], rs := [.leaf (.val (.int .i64))], f := fun k a => m12F k a }

theorem m12ok (k : Nat) : EnvOk (m12E k) := envOk_of (l := [(36, m36sp)]) progNames progMixed rfl (.cons ⟨m36con k, Try.f36, by kernel_rfl, by kernel_rfl⟩ (.nil))

theorem m12con (k : Nat) : Contract Try.prog k 12 m12sp := contract_of (E := m12E k) (m12ok k) (A := only 12 m12A) (d := 3) (c := m12c []) (by kernel_rfl) (by kernel_rfl) fun a _ h => (m12q k a).trans h

noncomputable def m37A : Anns := tabA []
noncomputable def m37E (k : Nat) : Env := { P := Try.prog, k := k, G := tabG [] }
noncomputable def m37c (p : List Bool) : Code := sub p (bodyOf Try.f37)
noncomputable def m37I (k : Nat) : Inl Int := inlOf (m37E k) (only 37 m37A) 3
noncomputable def m37K0 (M : Cut Int) (k : Nat) : Exit → St → Option Int := seqK (normAt 0 m37A false (m37c [true])) (cutK M m37A (m37c [true]) fun s => evC (m37E k) M (m37I k) 0 m37A (m37c [true]) s (retK Try.f37 [.leaf (.val (.int .i64))])) (retK Try.f37 [.leaf (.val (.int .i64))])
noncomputable def m37K1 (M : Cut Int) (k : Nat) : Exit → St → Option Int := seqK (normAt 0 m37A false (m37c [true, true])) (cutK M m37A (m37c [true, true]) fun s => evC (m37E k) M (m37I k) 0 m37A (m37c [true, true]) s (retK Try.f37 [.leaf (.val (.int .i64))])) (retK Try.f37 [.leaf (.val (.int .i64))])
noncomputable def m37K2 (M : Cut Int) (k : Nat) : Exit → St → Option Int := seqK (normAt 0 m37A false (m37c [true, false, true])) (cutK M m37A (m37c [true, false, true]) fun s => evC (m37E k) M (m37I k) 0 m37A (m37c [true, false, true]) s (m37K1 M k)) (m37K1 M k)
noncomputable def m37K3 (M : Cut Int) (k : Nat) : Exit → St → Option Int := seqK (normAt 0 m37A false (m37c [true, false, true, false, true])) (cutK M m37A (m37c [true, false, true, false, true]) fun s => evC (m37E k) M (m37I k) 0 m37A (m37c [true, false, true, false, true]) s (m37K1 M k)) (m37K1 M k)
noncomputable def m37K4 (M : Cut Int) (k : Nat) : Exit → St → Option Int := seqK (normAt 0 m37A false (m37c [true, true, true])) (cutK M m37A (m37c [true, true, true]) fun s => evC (m37E k) M (m37I k) 0 m37A (m37c [true, true, true]) s (retK Try.f37 [.leaf (.val (.int .i64))])) (retK Try.f37 [.leaf (.val (.int .i64))])

noncomputable def m37X (k : Nat) (p0 : Int) : Option Int := (if decide (p0 < 0) = true then some (0) else (if decide (p0 > 32) = true then some (0) else some (wr IntKind.i64 (2 * p0))))

theorem m37x (M : Cut Int) (k : Nat) (p0 : Int) : evC (m37E k) M (m37I k) 0 m37A (m37c []) (stAt Try.f37 (argSs [.leaf (.val (.int .i64))] p0) (fun _ => none) 0) (retK Try.f37 [.leaf (.val (.int .i64))]) = m37X k p0 := by kernel_rfl

noncomputable def m37F (k : Nat) (p0 : Int) : Option Int := m37X k p0

theorem m37q (k : Nat) (p0 : Int) : evC (m37E k) (fun _ f => f) (m37I k) 0 m37A (m37c []) (stAt Try.f37 (argSs [.leaf (.val (.int .i64))] p0) (fun _ => none) 0) (retK Try.f37 [.leaf (.val (.int .i64))]) = m37F k p0 := by
    show _ = m37X k p0
    exact m37x (fun _ f => f) k p0

noncomputable def m37sp : Spec := { ps := [.leaf (.val (.int .i64))], rs := [.leaf (.val (.int .i64))], f := fun k a => m37F k a }

theorem m37ok (k : Nat) : EnvOk (m37E k) := envOk_of (l := []) progNames progMixed rfl (.nil)

theorem m37con (k : Nat) : Contract Try.prog k 37 m37sp := contract_of (E := m37E k) (m37ok k) (A := only 37 m37A) (d := 3) (c := m37c []) (by kernel_rfl) (by kernel_rfl) fun a _ h => (m37q k a).trans h

noncomputable def m13A : Anns := tabA []
noncomputable def m13E (k : Nat) : Env := { P := Try.prog, k := k, G := tabG [(37, m37sp), (12, m12sp)] }
noncomputable def m13c (p : List Bool) : Code := sub p (bodyOf Try.f13)
noncomputable def m13I (k : Nat) : Inl Int := inlOf (m13E k) (only 13 m13A) 3
noncomputable def m13K0 (M : Cut Int) (k : Nat) : Exit → St → Option Int := seqK (normAt 0 m13A false (m13c [true])) (cutK M m13A (m13c [true]) fun s => evC (m13E k) M (m13I k) 0 m13A (m13c [true]) s (retK Try.f13 [.leaf (.val (.int .i64))])) (retK Try.f13 [.leaf (.val (.int .i64))])
noncomputable def m13K1 (M : Cut Int) (k : Nat) : Exit → St → Option Int := seqK (normAt 0 m13A false (m13c [true, true])) (cutK M m13A (m13c [true, true]) fun s => evC (m13E k) M (m13I k) 0 m13A (m13c [true, true]) s (retK Try.f13 [.leaf (.val (.int .i64))])) (retK Try.f13 [.leaf (.val (.int .i64))])
noncomputable def m13K2 (M : Cut Int) (k : Nat) : Exit → St → Option Int := seqK (normAt 0 m13A false (m13c [true, false, true])) (cutK M m13A (m13c [true, false, true]) fun s => evC (m13E k) M (m13I k) 0 m13A (m13c [true, false, true]) s (m13K1 M k)) (m13K1 M k)
noncomputable def m13K3 (M : Cut Int) (k : Nat) : Exit → St → Option Int := seqK (normAt 0 m13A false (m13c [true, false, true, false, true])) (cutK M m13A (m13c [true, false, true, false, true]) fun s => evC (m13E k) M (m13I k) 0 m13A (m13c [true, false, true, false, true]) s (m13K1 M k)) (m13K1 M k)
noncomputable def m13K4 (M : Cut Int) (k : Nat) : Exit → St → Option Int := seqK (normAt 0 m13A false (m13c [true, true, true])) (cutK M m13A (m13c [true, true, true]) fun s => evC (m13E k) M (m13I k) 0 m13A (m13c [true, true, true]) s (retK Try.f13 [.leaf (.val (.int .i64))])) (retK Try.f13 [.leaf (.val (.int .i64))])

noncomputable def m13X (k : Nat) (p0 : (Int × (Int × (Int × (Int × (Int × (Int × (Int × (Int × (Int × Int)))))))))) : Option Int := (Option.bind (m12F k
  (Prod.fst p0, Prod.fst (Prod.snd p0), Prod.fst (Prod.snd (Prod.snd p0)), Prod.fst (Prod.snd (Prod.snd (Prod.snd p0))),
    Prod.fst (Prod.snd (Prod.snd (Prod.snd (Prod.snd p0)))),
    Prod.fst (Prod.snd (Prod.snd (Prod.snd (Prod.snd (Prod.snd p0))))),
    Prod.fst (Prod.snd (Prod.snd (Prod.snd (Prod.snd (Prod.snd (Prod.snd p0)))))),
    Prod.fst (Prod.snd (Prod.snd (Prod.snd (Prod.snd (Prod.snd (Prod.snd (Prod.snd p0))))))),
    Prod.fst (Prod.snd (Prod.snd (Prod.snd (Prod.snd (Prod.snd (Prod.snd (Prod.snd (Prod.snd p0)))))))),
    Prod.snd (Prod.snd (Prod.snd (Prod.snd (Prod.snd (Prod.snd (Prod.snd (Prod.snd (Prod.snd p0)))))))))) fun (c3 : Int) => (if (!decide (c3 = 0)) = true then some (0) else (Option.bind (m37F k (wr IntKind.i64 (Prod.fst p0 + 10))) fun (c4 : Int) => some c4)))

theorem m13x (M : Cut Int) (k : Nat) (p0 : (Int × (Int × (Int × (Int × (Int × (Int × (Int × (Int × (Int × Int)))))))))) : evC (m13E k) M (m13I k) 0 m13A (m13c []) (stAt Try.f13 (argSs [.st (.pair (.int .i64) (.pair (.int .i64) (.pair (.int .i64) (.pair (.int .i64) (.pair (.int .i64) (.pair (.int .i64) (.pair (.int .i64) (.pair (.int .i64) (.pair (.int .i64) (.int .i64))))))))))] p0) (fun _ => none) 0) (retK Try.f13 [.leaf (.val (.int .i64))]) = m13X k p0 := by kernel_rfl

noncomputable def m13F (k : Nat) (p0 : (Int × (Int × (Int × (Int × (Int × (Int × (Int × (Int × (Int × Int)))))))))) : Option Int := m13X k p0

theorem m13q (k : Nat) (p0 : (Int × (Int × (Int × (Int × (Int × (Int × (Int × (Int × (Int × Int)))))))))) : evC (m13E k) (fun _ f => f) (m13I k) 0 m13A (m13c []) (stAt Try.f13 (argSs [.st (.pair (.int .i64) (.pair (.int .i64) (.pair (.int .i64) (.pair (.int .i64) (.pair (.int .i64) (.pair (.int .i64) (.pair (.int .i64) (.pair (.int .i64) (.pair (.int .i64) (.int .i64))))))))))] p0) (fun _ => none) 0) (retK Try.f13 [.leaf (.val (.int .i64))]) = m13F k p0 := by
    show _ = m13X k p0
    exact m13x (fun _ f => f) k p0

noncomputable def m13sp : Spec := { ps := [.st (.pair (.int .i64) (.pair (.int .i64) (.pair (.int .i64) (.pair (.int .i64) (.pair (.int .i64) (.pair (.int .i64) (.pair (.int .i64) (.pair (.int .i64) (.pair (.int .i64) (.int .i64))))))))))], rs := [.leaf (.val (.int .i64))], f := fun k a => m13F k a }

theorem m13ok (k : Nat) : EnvOk (m13E k) := envOk_of (l := [(37, m37sp), (12, m12sp)]) progNames progMixed rfl (.cons ⟨m37con k, Try.f37, by kernel_rfl, by kernel_rfl⟩ (.cons ⟨m12con k, Try.f12, by kernel_rfl, by kernel_rfl⟩ (.nil)))

theorem m13con (k : Nat) : Contract Try.prog k 13 m13sp := contract_of (E := m13E k) (m13ok k) (A := only 13 m13A) (d := 3) (c := m13c []) (by kernel_rfl) (by kernel_rfl) fun a _ h => (m13q k a).trans h

noncomputable def m18A : Anns := tabA []
noncomputable def m18E (k : Nat) : Env := { P := Try.prog, k := k, G := tabG [(12, m12sp), (13, m13sp)] }
noncomputable def m18c (p : List Bool) : Code := sub p (bodyOf Try.f18)
noncomputable def m18I (k : Nat) : Inl Int := inlOf (m18E k) (only 18 m18A) 3
noncomputable def m18K0 (M : Cut Int) (k : Nat) : Exit → St → Option Int := seqK (normAt 0 m18A false (m18c [true])) (cutK M m18A (m18c [true]) fun s => evC (m18E k) M (m18I k) 0 m18A (m18c [true]) s (retK Try.f18 [.leaf (.val (.int .i64))])) (retK Try.f18 [.leaf (.val (.int .i64))])
noncomputable def m18K1 (M : Cut Int) (k : Nat) : Exit → St → Option Int := seqK (normAt 0 m18A false (m18c [true, true])) (cutK M m18A (m18c [true, true]) fun s => evC (m18E k) M (m18I k) 0 m18A (m18c [true, true]) s (retK Try.f18 [.leaf (.val (.int .i64))])) (retK Try.f18 [.leaf (.val (.int .i64))])
noncomputable def m18K2 (M : Cut Int) (k : Nat) : Exit → St → Option Int := seqK (normAt 0 m18A false (m18c [true, false, true])) (cutK M m18A (m18c [true, false, true]) fun s => evC (m18E k) M (m18I k) 0 m18A (m18c [true, false, true]) s (m18K1 M k)) (m18K1 M k)
noncomputable def m18K3 (M : Cut Int) (k : Nat) : Exit → St → Option Int := seqK (normAt 0 m18A false (m18c [true, false, true, false, true])) (cutK M m18A (m18c [true, false, true, false, true]) fun s => evC (m18E k) M (m18I k) 0 m18A (m18c [true, false, true, false, true]) s (m18K1 M k)) (m18K1 M k)
noncomputable def m18K4 (M : Cut Int) (k : Nat) : Exit → St → Option Int := seqK (normAt 0 m18A false (m18c [true, true, true])) (cutK M m18A (m18c [true, true, true]) fun s => evC (m18E k) M (m18I k) 0 m18A (m18c [true, true, true]) s (retK Try.f18 [.leaf (.val (.int .i64))])) (retK Try.f18 [.leaf (.val (.int .i64))])

noncomputable def m18X (k : Nat) (p0 : (Int × (Int × (Int × (Int × (Int × (Int × (Int × (Int × (Int × Int)))))))))) : Option Int := (Option.bind (m12F k
  (Prod.fst p0, Prod.fst (Prod.snd p0), Prod.fst (Prod.snd (Prod.snd p0)), Prod.fst (Prod.snd (Prod.snd (Prod.snd p0))),
    Prod.fst (Prod.snd (Prod.snd (Prod.snd (Prod.snd p0)))),
    Prod.fst (Prod.snd (Prod.snd (Prod.snd (Prod.snd (Prod.snd p0))))),
    Prod.fst (Prod.snd (Prod.snd (Prod.snd (Prod.snd (Prod.snd (Prod.snd p0)))))),
    Prod.fst (Prod.snd (Prod.snd (Prod.snd (Prod.snd (Prod.snd (Prod.snd (Prod.snd p0))))))),
    Prod.fst (Prod.snd (Prod.snd (Prod.snd (Prod.snd (Prod.snd (Prod.snd (Prod.snd (Prod.snd p0)))))))),
    Prod.snd (Prod.snd (Prod.snd (Prod.snd (Prod.snd (Prod.snd (Prod.snd (Prod.snd (Prod.snd p0)))))))))) fun (c3 : Int) => (if (!decide (c3 = 0)) = true then some (0) else (Option.bind (m13F k
  (Prod.fst p0, Prod.fst (Prod.snd p0), Prod.fst (Prod.snd (Prod.snd p0)), Prod.fst (Prod.snd (Prod.snd (Prod.snd p0))),
    Prod.fst (Prod.snd (Prod.snd (Prod.snd (Prod.snd p0)))),
    Prod.fst (Prod.snd (Prod.snd (Prod.snd (Prod.snd (Prod.snd p0))))),
    Prod.fst (Prod.snd (Prod.snd (Prod.snd (Prod.snd (Prod.snd (Prod.snd p0)))))),
    Prod.fst (Prod.snd (Prod.snd (Prod.snd (Prod.snd (Prod.snd (Prod.snd (Prod.snd p0))))))),
    Prod.fst (Prod.snd (Prod.snd (Prod.snd (Prod.snd (Prod.snd (Prod.snd (Prod.snd (Prod.snd p0)))))))),
    Prod.snd (Prod.snd (Prod.snd (Prod.snd (Prod.snd (Prod.snd (Prod.snd (Prod.snd (Prod.snd p0)))))))))) fun (c4 : Int) => some (wr IntKind.i64 (c4 * Prod.fst (Prod.snd (Prod.snd (Prod.snd (Prod.snd (Prod.snd (Prod.snd (Prod.snd p0))))))))))))

theorem m18x (M : Cut Int) (k : Nat) (p0 : (Int × (Int × (Int × (Int × (Int × (Int × (Int × (Int × (Int × Int)))))))))) : evC (m18E k) M (m18I k) 0 m18A (m18c []) (stAt Try.f18 (argSs [.st (.pair (.int .i64) (.pair (.int .i64) (.pair (.int .i64) (.pair (.int .i64) (.pair (.int .i64) (.pair (.int .i64) (.pair (.int .i64) (.pair (.int .i64) (.pair (.int .i64) (.int .i64))))))))))] p0) (fun _ => none) 0) (retK Try.f18 [.leaf (.val (.int .i64))]) = m18X k p0 := by kernel_rfl

noncomputable def m18F (k : Nat) (p0 : (Int × (Int × (Int × (Int × (Int × (Int × (Int × (Int × (Int × Int)))))))))) : Option Int := m18X k p0

theorem m18q (k : Nat) (p0 : (Int × (Int × (Int × (Int × (Int × (Int × (Int × (Int × (Int × Int)))))))))) : evC (m18E k) (fun _ f => f) (m18I k) 0 m18A (m18c []) (stAt Try.f18 (argSs [.st (.pair (.int .i64) (.pair (.int .i64) (.pair (.int .i64) (.pair (.int .i64) (.pair (.int .i64) (.pair (.int .i64) (.pair (.int .i64) (.pair (.int .i64) (.pair (.int .i64) (.int .i64))))))))))] p0) (fun _ => none) 0) (retK Try.f18 [.leaf (.val (.int .i64))]) = m18F k p0 := by
    show _ = m18X k p0
    exact m18x (fun _ f => f) k p0

noncomputable def m18sp : Spec := { ps := [.st (.pair (.int .i64) (.pair (.int .i64) (.pair (.int .i64) (.pair (.int .i64) (.pair (.int .i64) (.pair (.int .i64) (.pair (.int .i64) (.pair (.int .i64) (.pair (.int .i64) (.int .i64))))))))))], rs := [.leaf (.val (.int .i64))], f := fun k a => m18F k a }

theorem m18ok (k : Nat) : EnvOk (m18E k) := envOk_of (l := [(12, m12sp), (13, m13sp)]) progNames progMixed rfl (.cons ⟨m12con k, Try.f12, by kernel_rfl, by kernel_rfl⟩ (.cons ⟨m13con k, Try.f13, by kernel_rfl, by kernel_rfl⟩ (.nil)))

theorem m18con (k : Nat) : Contract Try.prog k 18 m18sp := contract_of (E := m18E k) (m18ok k) (A := only 18 m18A) (d := 3) (c := m18c []) (by kernel_rfl) (by kernel_rfl) fun a _ h => (m18q k a).trans h

noncomputable def m38A : Anns := tabA []
noncomputable def m38E (k : Nat) : Env := { P := Try.prog, k := k, G := tabG [] }
noncomputable def m38c (p : List Bool) : Code := sub p (bodyOf Try.f38)
noncomputable def m38I (k : Nat) : Inl Int := inlOf (m38E k) (only 38 m38A) 3
noncomputable def m38K0 (M : Cut Int) (k : Nat) : Exit → St → Option Int := seqK (normAt 0 m38A false (m38c [true])) (cutK M m38A (m38c [true]) fun s => evC (m38E k) M (m38I k) 0 m38A (m38c [true]) s (retK Try.f38 [.leaf (.val (.int .i64))])) (retK Try.f38 [.leaf (.val (.int .i64))])
noncomputable def m38K1 (M : Cut Int) (k : Nat) : Exit → St → Option Int := seqK (normAt 0 m38A false (m38c [true, true])) (cutK M m38A (m38c [true, true]) fun s => evC (m38E k) M (m38I k) 0 m38A (m38c [true, true]) s (retK Try.f38 [.leaf (.val (.int .i64))])) (retK Try.f38 [.leaf (.val (.int .i64))])

noncomputable def m38X (k : Nat) (p0 : Int) (p1 : Int) : Option Int := (if p1 ≠ 0 then some (wr IntKind.i64 (Int.tdiv (wr IntKind.i64 (wr IntKind.i64 (p0 + p1) - 1)) p1)) else none)

theorem m38x (M : Cut Int) (k : Nat) (p0 : Int) (p1 : Int) : evC (m38E k) M (m38I k) 0 m38A (m38c []) (stAt Try.f38 (argSs [.leaf (.val (.int .i64)), .leaf (.val (.int .i64))] (p0, p1)) (fun _ => none) 0) (retK Try.f38 [.leaf (.val (.int .i64))]) = m38X k p0 p1 := by kernel_rfl

noncomputable def m38F (k : Nat) (p0 : Int) (p1 : Int) : Option Int := m38X k p0 p1

theorem m38q (k : Nat) (p0 : Int) (p1 : Int) : evC (m38E k) (fun _ f => f) (m38I k) 0 m38A (m38c []) (stAt Try.f38 (argSs [.leaf (.val (.int .i64)), .leaf (.val (.int .i64))] (p0, p1)) (fun _ => none) 0) (retK Try.f38 [.leaf (.val (.int .i64))]) = m38F k p0 p1 := by
    show _ = m38X k p0 p1
    exact m38x (fun _ f => f) k p0 p1

noncomputable def m38sp : Spec := { ps := [.leaf (.val (.int .i64)), .leaf (.val (.int .i64))], rs := [.leaf (.val (.int .i64))], f := fun k a => m38F k a.1 a.2 }

theorem m38ok (k : Nat) : EnvOk (m38E k) := envOk_of (l := []) progNames progMixed rfl (.nil)

theorem m38con (k : Nat) : Contract Try.prog k 38 m38sp := contract_of (E := m38E k) (m38ok k) (A := only 38 m38A) (d := 3) (c := m38c []) (by kernel_rfl) (by kernel_rfl) fun a _ h => (m38q k a.1 a.2).trans h

noncomputable def m14A : Anns := tabA []
noncomputable def m14E (k : Nat) : Env := { P := Try.prog, k := k, G := tabG [(12, m12sp), (18, m18sp), (38, m38sp)] }
noncomputable def m14c (p : List Bool) : Code := sub p (bodyOf Try.f14)
noncomputable def m14I (k : Nat) : Inl Int := inlOf (m14E k) (only 14 m14A) 3
noncomputable def m14K0 (M : Cut Int) (k : Nat) : Exit → St → Option Int := seqK (normAt 0 m14A false (m14c [true])) (cutK M m14A (m14c [true]) fun s => evC (m14E k) M (m14I k) 0 m14A (m14c [true]) s (retK Try.f14 [.leaf (.val (.int .i64))])) (retK Try.f14 [.leaf (.val (.int .i64))])
noncomputable def m14K1 (M : Cut Int) (k : Nat) : Exit → St → Option Int := seqK (normAt 0 m14A false (m14c [true, true])) (cutK M m14A (m14c [true, true]) fun s => evC (m14E k) M (m14I k) 0 m14A (m14c [true, true]) s (retK Try.f14 [.leaf (.val (.int .i64))])) (retK Try.f14 [.leaf (.val (.int .i64))])
noncomputable def m14K2 (M : Cut Int) (k : Nat) : Exit → St → Option Int := seqK (normAt 0 m14A false (m14c [true, false, true])) (cutK M m14A (m14c [true, false, true]) fun s => evC (m14E k) M (m14I k) 0 m14A (m14c [true, false, true]) s (m14K1 M k)) (m14K1 M k)
noncomputable def m14K3 (M : Cut Int) (k : Nat) : Exit → St → Option Int := seqK (normAt 0 m14A false (m14c [true, false, true, false, true])) (cutK M m14A (m14c [true, false, true, false, true]) fun s => evC (m14E k) M (m14I k) 0 m14A (m14c [true, false, true, false, true]) s (m14K1 M k)) (m14K1 M k)
noncomputable def m14K4 (M : Cut Int) (k : Nat) : Exit → St → Option Int := seqK (normAt 0 m14A false (m14c [true, true, true])) (cutK M m14A (m14c [true, true, true]) fun s => evC (m14E k) M (m14I k) 0 m14A (m14c [true, true, true]) s (retK Try.f14 [.leaf (.val (.int .i64))])) (retK Try.f14 [.leaf (.val (.int .i64))])

noncomputable def m14X (k : Nat) (p0 : (Int × (Int × (Int × (Int × (Int × (Int × (Int × (Int × (Int × Int)))))))))) : Option Int := (Option.bind (m12F k
  (Prod.fst p0, Prod.fst (Prod.snd p0), Prod.fst (Prod.snd (Prod.snd p0)), Prod.fst (Prod.snd (Prod.snd (Prod.snd p0))),
    Prod.fst (Prod.snd (Prod.snd (Prod.snd (Prod.snd p0)))),
    Prod.fst (Prod.snd (Prod.snd (Prod.snd (Prod.snd (Prod.snd p0))))),
    Prod.fst (Prod.snd (Prod.snd (Prod.snd (Prod.snd (Prod.snd (Prod.snd p0)))))),
    Prod.fst (Prod.snd (Prod.snd (Prod.snd (Prod.snd (Prod.snd (Prod.snd (Prod.snd p0))))))),
    Prod.fst (Prod.snd (Prod.snd (Prod.snd (Prod.snd (Prod.snd (Prod.snd (Prod.snd (Prod.snd p0)))))))),
    Prod.snd (Prod.snd (Prod.snd (Prod.snd (Prod.snd (Prod.snd (Prod.snd (Prod.snd (Prod.snd p0)))))))))) fun (c3 : Int) => (if (!decide (c3 = 0)) = true then some (0) else (Option.bind (m18F k
  (Prod.fst p0, Prod.fst (Prod.snd p0), Prod.fst (Prod.snd (Prod.snd p0)), Prod.fst (Prod.snd (Prod.snd (Prod.snd p0))),
    Prod.fst (Prod.snd (Prod.snd (Prod.snd (Prod.snd p0)))),
    Prod.fst (Prod.snd (Prod.snd (Prod.snd (Prod.snd (Prod.snd p0))))),
    Prod.fst (Prod.snd (Prod.snd (Prod.snd (Prod.snd (Prod.snd (Prod.snd p0)))))),
    Prod.fst (Prod.snd (Prod.snd (Prod.snd (Prod.snd (Prod.snd (Prod.snd (Prod.snd p0))))))),
    Prod.fst (Prod.snd (Prod.snd (Prod.snd (Prod.snd (Prod.snd (Prod.snd (Prod.snd (Prod.snd p0)))))))),
    Prod.snd (Prod.snd (Prod.snd (Prod.snd (Prod.snd (Prod.snd (Prod.snd (Prod.snd (Prod.snd p0)))))))))) fun (c4 : Int) => (Option.bind (m38F k c4 (Prod.fst (Prod.snd (Prod.snd (Prod.snd (Prod.snd (Prod.snd (Prod.snd p0)))))))) fun (c5 : Int) => some c5))))

theorem m14x (M : Cut Int) (k : Nat) (p0 : (Int × (Int × (Int × (Int × (Int × (Int × (Int × (Int × (Int × Int)))))))))) : evC (m14E k) M (m14I k) 0 m14A (m14c []) (stAt Try.f14 (argSs [.st (.pair (.int .i64) (.pair (.int .i64) (.pair (.int .i64) (.pair (.int .i64) (.pair (.int .i64) (.pair (.int .i64) (.pair (.int .i64) (.pair (.int .i64) (.pair (.int .i64) (.int .i64))))))))))] p0) (fun _ => none) 0) (retK Try.f14 [.leaf (.val (.int .i64))]) = m14X k p0 := by kernel_rfl

noncomputable def m14F (k : Nat) (p0 : (Int × (Int × (Int × (Int × (Int × (Int × (Int × (Int × (Int × Int)))))))))) : Option Int := m14X k p0

theorem m14q (k : Nat) (p0 : (Int × (Int × (Int × (Int × (Int × (Int × (Int × (Int × (Int × Int)))))))))) : evC (m14E k) (fun _ f => f) (m14I k) 0 m14A (m14c []) (stAt Try.f14 (argSs [.st (.pair (.int .i64) (.pair (.int .i64) (.pair (.int .i64) (.pair (.int .i64) (.pair (.int .i64) (.pair (.int .i64) (.pair (.int .i64) (.pair (.int .i64) (.pair (.int .i64) (.int .i64))))))))))] p0) (fun _ => none) 0) (retK Try.f14 [.leaf (.val (.int .i64))]) = m14F k p0 := by
    show _ = m14X k p0
    exact m14x (fun _ f => f) k p0

noncomputable def m14sp : Spec := { ps := [.st (.pair (.int .i64) (.pair (.int .i64) (.pair (.int .i64) (.pair (.int .i64) (.pair (.int .i64) (.pair (.int .i64) (.pair (.int .i64) (.pair (.int .i64) (.pair (.int .i64) (.int .i64))))))))))], rs := [.leaf (.val (.int .i64))], f := fun k a => m14F k a }

theorem m14ok (k : Nat) : EnvOk (m14E k) := envOk_of (l := [(12, m12sp), (18, m18sp), (38, m38sp)]) progNames progMixed rfl (.cons ⟨m12con k, Try.f12, by kernel_rfl, by kernel_rfl⟩ (.cons ⟨m18con k, Try.f18, by kernel_rfl, by kernel_rfl⟩ (.cons ⟨m38con k, Try.f38, by kernel_rfl, by kernel_rfl⟩ (.nil))))

theorem m14con (k : Nat) : Contract Try.prog k 14 m14sp := contract_of (E := m14E k) (m14ok k) (A := only 14 m14A) (d := 3) (c := m14c []) (by kernel_rfl) (by kernel_rfl) fun a _ h => (m14q k a).trans h

noncomputable def m15A : Anns := tabA []
noncomputable def m15E (k : Nat) : Env := { P := Try.prog, k := k, G := tabG [(12, m12sp), (13, m13sp), (18, m18sp)] }
noncomputable def m15c (p : List Bool) : Code := sub p (bodyOf Try.f15)
noncomputable def m15I (k : Nat) : Inl Bool := inlOf (m15E k) (only 15 m15A) 3
noncomputable def m15K0 (M : Cut Bool) (k : Nat) : Exit → St → Option Bool := seqK (normAt 0 m15A false (m15c [true])) (cutK M m15A (m15c [true]) fun s => evC (m15E k) M (m15I k) 0 m15A (m15c [true]) s (retK Try.f15 [.leaf (.val .bool)])) (retK Try.f15 [.leaf (.val .bool)])
noncomputable def m15K1 (M : Cut Bool) (k : Nat) : Exit → St → Option Bool := seqK (normAt 0 m15A false (m15c [true, true])) (cutK M m15A (m15c [true, true]) fun s => evC (m15E k) M (m15I k) 0 m15A (m15c [true, true]) s (retK Try.f15 [.leaf (.val .bool)])) (retK Try.f15 [.leaf (.val .bool)])
noncomputable def m15K2 (M : Cut Bool) (k : Nat) : Exit → St → Option Bool := seqK (normAt 0 m15A false (m15c [true, true, true])) (cutK M m15A (m15c [true, true, true]) fun s => evC (m15E k) M (m15I k) 0 m15A (m15c [true, true, true]) s (retK Try.f15 [.leaf (.val .bool)])) (retK Try.f15 [.leaf (.val .bool)])

noncomputable def m15X (k : Nat) : Option Bool := (Option.bind (m12F k (4, 1, 1, 1, 1, 1, 1, 4, 0, 0)) fun (c2 : Int) => (if decide (c2 = 0) = true then (Option.bind (m13F k (4, 1, 1, 1, 1, 1, 1, 4, 0, 0)) fun (c3 : Int) => (if decide (c3 = 28) = true then (Option.bind (m18F k (4, 1, 1, 1, 1, 1, 1, 4, 0, 0)) fun (c4 : Int) => some (decide (c4 = 112))) else some (false))) else some (false)))

theorem m15x (M : Cut Bool) (k : Nat) : evC (m15E k) M (m15I k) 0 m15A (m15c []) (stAt Try.f15 (argSs [] ()) (fun _ => none) 0) (retK Try.f15 [.leaf (.val .bool)]) = m15X k := by kernel_rfl

noncomputable def m15F (k : Nat) : Option Bool := m15X k

theorem m15q (k : Nat) : evC (m15E k) (fun _ f => f) (m15I k) 0 m15A (m15c []) (stAt Try.f15 (argSs [] ()) (fun _ => none) 0) (retK Try.f15 [.leaf (.val .bool)]) = m15F k := by
    show _ = m15X k
    exact m15x (fun _ f => f) k

noncomputable def m15sp : Spec := { ps := [], rs := [.leaf (.val .bool)], f := fun k a => m15F k }

theorem m15ok (k : Nat) : EnvOk (m15E k) := envOk_of (l := [(12, m12sp), (13, m13sp), (18, m18sp)]) progNames progMixed rfl (.cons ⟨m12con k, Try.f12, by kernel_rfl, by kernel_rfl⟩ (.cons ⟨m13con k, Try.f13, by kernel_rfl, by kernel_rfl⟩ (.cons ⟨m18con k, Try.f18, by kernel_rfl, by kernel_rfl⟩ (.nil))))

theorem m15con (k : Nat) : Contract Try.prog k 15 m15sp := contract_of (E := m15E k) (m15ok k) (A := only 15 m15A) (d := 3) (c := m15c []) (by kernel_rfl) (by kernel_rfl) fun a _ h => (m15q k).trans h

noncomputable def m3A : Anns := tabA [(15, { keep := [2, 7, 38, 39, 40] }), (60, { keep := [2, 7, 8, 10, 38, 39, 40] }), (66, { keep := [2] })]
noncomputable def m3E (k : Nat) : Env := { P := Try.prog, k := k, G := tabG [(11, m11sp), (12, m12sp), (13, m13sp), (14, m14sp), (15, m15sp)] }
noncomputable def m3c (p : List Bool) : Code := sub p (bodyOf Try.f3)
noncomputable def m3I (k : Nat) : Inl Bool := inlOf (m3E k) (only 3 m3A) 3
noncomputable def m3K0 (M : Cut Bool) (k : Nat) : Exit → St → Option Bool := seqK (normAt 0 m3A false (m3c [true])) (cutK M m3A (m3c [true]) fun s => evC (m3E k) M (m3I k) 0 m3A (m3c [true]) s (retK Try.f3 [.leaf (.val .bool)])) (retK Try.f3 [.leaf (.val .bool)])
noncomputable def m3K1 (M : Cut Bool) (k : Nat) : Exit → St → Option Bool := seqK (normAt 0 m3A false (m3c [true, true])) (cutK M m3A (m3c [true, true]) fun s => evC (m3E k) M (m3I k) 0 m3A (m3c [true, true]) s (retK Try.f3 [.leaf (.val .bool)])) (retK Try.f3 [.leaf (.val .bool)])
noncomputable def m3K2 (M : Cut Bool) (k : Nat) : Exit → St → Option Bool := seqK (normAt 0 m3A false (m3c [true, false, true])) (cutK M m3A (m3c [true, false, true]) fun s => evC (m3E k) M (m3I k) 0 m3A (m3c [true, false, true]) s (m3K1 M k)) (m3K1 M k)
noncomputable def m3K3 (M : Cut Bool) (k : Nat) : Exit → St → Option Bool := seqK (normAt 0 m3A false (m3c [true, false, true, false, true])) (cutK M m3A (m3c [true, false, true, false, true]) fun s => evC (m3E k) M (m3I k) 0 m3A (m3c [true, false, true, false, true]) s (m3K1 M k)) (m3K1 M k)
noncomputable def m3K4 (M : Cut Bool) (k : Nat) : Exit → St → Option Bool := seqK (normAt 0 m3A false (m3c [true, true, true])) (cutK M m3A (m3c [true, true, true]) fun s => evC (m3E k) M (m3I k) 0 m3A (m3c [true, true, true]) s (retK Try.f3 [.leaf (.val .bool)])) (retK Try.f3 [.leaf (.val .bool)])
noncomputable def m3K5 (M : Cut Bool) (k : Nat) : Exit → St → Option Bool := seqK (normAt 0 m3A false (m3c [true, true, true, true])) (cutK M m3A (m3c [true, true, true, true]) fun s => evC (m3E k) M (m3I k) 0 m3A (m3c [true, true, true, true]) s (retK Try.f3 [.leaf (.val .bool)])) (retK Try.f3 [.leaf (.val .bool)])
noncomputable def m3K6 (M : Cut Bool) (k : Nat) : Exit → St → Option Bool := seqK (normAt 0 m3A false (m3c [true, true, true, true, true])) (cutK M m3A (m3c [true, true, true, true, true]) fun s => evC (m3E k) M (m3I k) 0 m3A (m3c [true, true, true, true, true]) s (retK Try.f3 [.leaf (.val .bool)])) (retK Try.f3 [.leaf (.val .bool)])
noncomputable def m3K7 (M : Cut Bool) (k : Nat) : Exit → St → Option Bool := seqK (normAt 0 m3A false (m3c [true, true, true, true, true, true])) (cutK M m3A (m3c [true, true, true, true, true, true]) fun s => evC (m3E k) M (m3I k) 0 m3A (m3c [true, true, true, true, true, true]) s (retK Try.f3 [.leaf (.val .bool)])) (retK Try.f3 [.leaf (.val .bool)])
noncomputable def m3K8 (M : Cut Bool) (k : Nat) : Exit → St → Option Bool := seqK (normAt 0 m3A false (m3c [true, true, true, true, true, false, true])) (cutK M m3A (m3c [true, true, true, true, true, false, true]) fun s => evC (m3E k) M (m3I k) 0 m3A (m3c [true, true, true, true, true, false, true]) s (m3K7 M k)) (m3K7 M k)
noncomputable def m3K9 (M : Cut Bool) (k : Nat) : Exit → St → Option Bool := blockK 0 (m3K7 M k)
noncomputable def m3K10 (M : Cut Bool) (k : Nat) (L15 : St → Option Bool) : Exit → St → Option Bool := seqK (normAt 0 m3A true (m3c [true, true, true, true, true, false, true, true, true])) L15 (m3K9 M k)
noncomputable def m3K11 (M : Cut Bool) (k : Nat) (L15 : St → Option Bool) : Exit → St → Option Bool := seqK (normAt 0 m3A false (m3c [true, true, true, true, true, false, true, true, true, true])) (cutK M m3A (m3c [true, true, true, true, true, false, true, true, true, true]) fun s => evC (m3E k) M (m3I k) 0 m3A (m3c [true, true, true, true, true, false, true, true, true, true]) s (m3K10 M k L15)) (m3K10 M k L15)
noncomputable def m3K12 (M : Cut Bool) (k : Nat) (L15 : St → Option Bool) : Exit → St → Option Bool := seqK (normAt 0 m3A false (m3c [true, true, true, true, true, false, true, true, true, true, true])) (cutK M m3A (m3c [true, true, true, true, true, false, true, true, true, true, true]) fun s => evC (m3E k) M (m3I k) 0 m3A (m3c [true, true, true, true, true, false, true, true, true, true, true]) s (m3K10 M k L15)) (m3K10 M k L15)
noncomputable def m3K13 (M : Cut Bool) (k : Nat) (L15 : St → Option Bool) : Exit → St → Option Bool := seqK (normAt 0 m3A false (m3c [true, true, true, true, true, false, true, true, true, true, true, true])) (cutK M m3A (m3c [true, true, true, true, true, false, true, true, true, true, true, true]) fun s => evC (m3E k) M (m3I k) 0 m3A (m3c [true, true, true, true, true, false, true, true, true, true, true, true]) s (m3K10 M k L15)) (m3K10 M k L15)
noncomputable def m3K14 (M : Cut Bool) (k : Nat) (L15 : St → Option Bool) : Exit → St → Option Bool := blockK 1 (m3K13 M k L15)
noncomputable def m3K15 (M : Cut Bool) (k : Nat) (L15 : St → Option Bool) : Exit → St → Option Bool := seqK (normAt 0 m3A false (m3c [true, true, true, true, true, false, true, true, true, true, true, false, true, true])) (cutK M m3A (m3c [true, true, true, true, true, false, true, true, true, true, true, false, true, true]) fun s => evC (m3E k) M (m3I k) 0 m3A (m3c [true, true, true, true, true, false, true, true, true, true, true, false, true, true]) s (m3K14 M k L15)) (m3K14 M k L15)
noncomputable def m3K16 (M : Cut Bool) (k : Nat) (L15 : St → Option Bool) : Exit → St → Option Bool := seqK (normAt 0 m3A false (m3c [true, true, true, true, true, false, true, true, true, true, true, false, true, true, true])) (cutK M m3A (m3c [true, true, true, true, true, false, true, true, true, true, true, false, true, true, true]) fun s => evC (m3E k) M (m3I k) 0 m3A (m3c [true, true, true, true, true, false, true, true, true, true, true, false, true, true, true]) s (m3K14 M k L15)) (m3K14 M k L15)
noncomputable def m3K17 (M : Cut Bool) (k : Nat) (L15 : St → Option Bool) : Exit → St → Option Bool := seqK (normAt 0 m3A false (m3c [true, true, true, true, true, false, true, true, true, true, true, false, true, true, true, true])) (cutK M m3A (m3c [true, true, true, true, true, false, true, true, true, true, true, false, true, true, true, true]) fun s => evC (m3E k) M (m3I k) 0 m3A (m3c [true, true, true, true, true, false, true, true, true, true, true, false, true, true, true, true]) s (m3K14 M k L15)) (m3K14 M k L15)
noncomputable def m3K18 (M : Cut Bool) (k : Nat) (L15 : St → Option Bool) : Exit → St → Option Bool := seqK (normAt 0 m3A false (m3c [true, true, true, true, true, false, true, true, true, true, true, false, true, true, true, false, true])) (cutK M m3A (m3c [true, true, true, true, true, false, true, true, true, true, true, false, true, true, true, false, true]) fun s => evC (m3E k) M (m3I k) 0 m3A (m3c [true, true, true, true, true, false, true, true, true, true, true, false, true, true, true, false, true]) s (m3K17 M k L15)) (m3K17 M k L15)
noncomputable def m3K19 (M : Cut Bool) (k : Nat) (L15 : St → Option Bool) : Exit → St → Option Bool := blockK 2 (m3K17 M k L15)
noncomputable def m3K20 (M : Cut Bool) (k : Nat) (L15 : St → Option Bool) : Exit → St → Option Bool := seqK (normAt 0 m3A false (m3c [true, true, true, true, true, false, true, true, true, true, true, false, true, true, true, false, true, true, true])) (cutK M m3A (m3c [true, true, true, true, true, false, true, true, true, true, true, false, true, true, true, false, true, true, true]) fun s => evC (m3E k) M (m3I k) 0 m3A (m3c [true, true, true, true, true, false, true, true, true, true, true, false, true, true, true, false, true, true, true]) s (m3K19 M k L15)) (m3K19 M k L15)
noncomputable def m3K21 (M : Cut Bool) (k : Nat) (L15 : St → Option Bool) : Exit → St → Option Bool := seqK (normAt 0 m3A false (m3c [true, true, true, true, true, false, true, true, true, true, true, false, true, true, true, false, true, true, true, true, true])) (cutK M m3A (m3c [true, true, true, true, true, false, true, true, true, true, true, false, true, true, true, false, true, true, true, true, true]) fun s => evC (m3E k) M (m3I k) 0 m3A (m3c [true, true, true, true, true, false, true, true, true, true, true, false, true, true, true, false, true, true, true, true, true]) s (m3K19 M k L15)) (m3K19 M k L15)
noncomputable def m3K22 (M : Cut Bool) (k : Nat) (L15 : St → Option Bool) : Exit → St → Option Bool := seqK (normAt 0 m3A false (m3c [true, true, true, true, true, false, true, true, true, true, true, false, true, true, true, false, true, true, true, true, true, true, true])) (cutK M m3A (m3c [true, true, true, true, true, false, true, true, true, true, true, false, true, true, true, false, true, true, true, true, true, true, true]) fun s => evC (m3E k) M (m3I k) 0 m3A (m3c [true, true, true, true, true, false, true, true, true, true, true, false, true, true, true, false, true, true, true, true, true, true, true]) s (m3K19 M k L15)) (m3K19 M k L15)
noncomputable def m3K23 (M : Cut Bool) (k : Nat) (L15 : St → Option Bool) : Exit → St → Option Bool := seqK (normAt 0 m3A false (m3c [true, true, true, true, true, false, true, true, true, true, true, false, true, true, true, false, true, true, true, true, true, true, true, true, true])) (cutK M m3A (m3c [true, true, true, true, true, false, true, true, true, true, true, false, true, true, true, false, true, true, true, true, true, true, true, true, true]) fun s => evC (m3E k) M (m3I k) 0 m3A (m3c [true, true, true, true, true, false, true, true, true, true, true, false, true, true, true, false, true, true, true, true, true, true, true, true, true]) s (m3K19 M k L15)) (m3K19 M k L15)
noncomputable def m3K24 (M : Cut Bool) (k : Nat) (L15 : St → Option Bool) : Exit → St → Option Bool := seqK (normAt 0 m3A false (m3c [true, true, true, true, true, false, true, true, true, true, true, false, true, true, true, false, true, true, true, true, true, true, true, true, true, true, true])) (cutK M m3A (m3c [true, true, true, true, true, false, true, true, true, true, true, false, true, true, true, false, true, true, true, true, true, true, true, true, true, true, true]) fun s => evC (m3E k) M (m3I k) 0 m3A (m3c [true, true, true, true, true, false, true, true, true, true, true, false, true, true, true, false, true, true, true, true, true, true, true, true, true, true, true]) s (m3K19 M k L15)) (m3K19 M k L15)
noncomputable def m3K25 (M : Cut Bool) (k : Nat) (L15 : St → Option Bool) : Exit → St → Option Bool := seqK (normAt 0 m3A false (m3c [true, true, true, true, true, false, true, true, true, true, true, false, true, true, true, false, true, true, true, true, true, true, true, true, true, true, true, true, true])) (cutK M m3A (m3c [true, true, true, true, true, false, true, true, true, true, true, false, true, true, true, false, true, true, true, true, true, true, true, true, true, true, true, true, true]) fun s => evC (m3E k) M (m3I k) 0 m3A (m3c [true, true, true, true, true, false, true, true, true, true, true, false, true, true, true, false, true, true, true, true, true, true, true, true, true, true, true, true, true]) s (m3K19 M k L15)) (m3K19 M k L15)
noncomputable def m3K26 (M : Cut Bool) (k : Nat) (L15 : St → Option Bool) : Exit → St → Option Bool := seqK (normAt 0 m3A false (m3c [true, true, true, true, true, false, true, true, true, true, true, false, true, true, true, false, true, true, true, true, true, true, true, true, true, true, true, true, true, true, true])) (cutK M m3A (m3c [true, true, true, true, true, false, true, true, true, true, true, false, true, true, true, false, true, true, true, true, true, true, true, true, true, true, true, true, true, true, true]) fun s => evC (m3E k) M (m3I k) 0 m3A (m3c [true, true, true, true, true, false, true, true, true, true, true, false, true, true, true, false, true, true, true, true, true, true, true, true, true, true, true, true, true, true, true]) s (m3K19 M k L15)) (m3K19 M k L15)
noncomputable def m3K27 (M : Cut Bool) (k : Nat) (L15 : St → Option Bool) : Exit → St → Option Bool := seqK (normAt 0 m3A false (m3c [true, true, true, true, true, false, true, true, true, true, true, false, true, true, true, false, true, true, true, true, true, true, true, true, true, true, true, true, true, true, true, true, true])) (cutK M m3A (m3c [true, true, true, true, true, false, true, true, true, true, true, false, true, true, true, false, true, true, true, true, true, true, true, true, true, true, true, true, true, true, true, true, true]) fun s => evC (m3E k) M (m3I k) 0 m3A (m3c [true, true, true, true, true, false, true, true, true, true, true, false, true, true, true, false, true, true, true, true, true, true, true, true, true, true, true, true, true, true, true, true, true]) s (m3K19 M k L15)) (m3K19 M k L15)
noncomputable def m3K28 (M : Cut Bool) (k : Nat) (L15 : St → Option Bool) : Exit → St → Option Bool := seqK (normAt 0 m3A false (m3c [true, true, true, true, true, false, true, true, true, true, true, false, true, true, true, false, true, true, true, true, true, true, true, true, true, true, true, true, true, true, true, true, true, true, true])) (cutK M m3A (m3c [true, true, true, true, true, false, true, true, true, true, true, false, true, true, true, false, true, true, true, true, true, true, true, true, true, true, true, true, true, true, true, true, true, true, true]) fun s => evC (m3E k) M (m3I k) 0 m3A (m3c [true, true, true, true, true, false, true, true, true, true, true, false, true, true, true, false, true, true, true, true, true, true, true, true, true, true, true, true, true, true, true, true, true, true, true]) s (m3K19 M k L15)) (m3K19 M k L15)
noncomputable def m3K29 (M : Cut Bool) (k : Nat) (L15 : St → Option Bool) : Exit → St → Option Bool := seqK (normAt 0 m3A false (m3c [true, true, true, true, true, false, true, true, true, true, true, false, true, true, true, true, true])) (cutK M m3A (m3c [true, true, true, true, true, false, true, true, true, true, true, false, true, true, true, true, true]) fun s => evC (m3E k) M (m3I k) 0 m3A (m3c [true, true, true, true, true, false, true, true, true, true, true, false, true, true, true, true, true]) s (m3K14 M k L15)) (m3K14 M k L15)
noncomputable def m3K30 (M : Cut Bool) (k : Nat) (L15 : St → Option Bool) : Exit → St → Option Bool := seqK (normAt 0 m3A false (m3c [true, true, true, true, true, false, true, true, true, true, true, false, true, true, true, true, true, false, true])) (cutK M m3A (m3c [true, true, true, true, true, false, true, true, true, true, true, false, true, true, true, true, true, false, true]) fun s => evC (m3E k) M (m3I k) 0 m3A (m3c [true, true, true, true, true, false, true, true, true, true, true, false, true, true, true, true, true, false, true]) s (m3K14 M k L15)) (m3K14 M k L15)
noncomputable def m3K31 (M : Cut Bool) (k : Nat) : Exit → St → Option Bool := seqK (normAt 0 m3A false (m3c [true, true, true, true, true, true, true])) (cutK M m3A (m3c [true, true, true, true, true, true, true]) fun s => evC (m3E k) M (m3I k) 0 m3A (m3c [true, true, true, true, true, true, true]) s (retK Try.f3 [.leaf (.val .bool)])) (retK Try.f3 [.leaf (.val .bool)])
noncomputable def m3S15 (t7 : Int) (t39 : Int) (t40 : Int) (b0_0 : Int) (b0_1 : Int) (b0_2 : Int) (b0_3 : Int) (b0_4 : Int) (b0_5 : Int) (b0_6 : Int) (b0_7 : Int) (b0_8 : Int) (b0_9 : Int) (b1 : List Int) : St := { n := 126, tm := slots [(2, .ptr 0 0), (7, .int .i64 t7), (38, .own 1), (39, .int .i64 t39), (40, .int .i64 t40)], tab := blks [some (.cells 23 [.int .i64 b0_0, .int .i64 b0_1, .int .i64 b0_2, .int .i64 b0_3, .int .i64 b0_4, .int .i64 b0_5, .int .i64 b0_6, .int .i64 b0_7, .int .i64 b0_8, .int .i64 b0_9]), some (.row true (.int .i64) 3 b1)], nx := 2 }
noncomputable def m3S60 (t7 : Int) (t8 : Int) (t39 : Int) (t40 : Int) (b0_0 : Int) (b0_1 : Int) (b0_2 : Int) (b0_3 : Int) (b0_4 : Int) (b0_5 : Int) (b0_6 : Int) (b0_7 : Int) (b0_8 : Int) (b0_9 : Int) (b1_0 : Int) (b1_1 : Int) (b1_2 : Int) (b1_3 : Int) (b1_4 : Int) (b1_5 : Int) (b1_6 : Int) (b1_7 : Int) (b1_8 : Int) (b1_9 : Int) (b2 : List Int) : St := { n := 126, tm := slots [(2, .ptr 0 0), (7, .int .i64 t7), (8, .int .i64 t8), (10, .ptr 1 0), (38, .own 2), (39, .int .i64 t39), (40, .int .i64 t40)], tab := blks [some (.cells 23 [.int .i64 b0_0, .int .i64 b0_1, .int .i64 b0_2, .int .i64 b0_3, .int .i64 b0_4, .int .i64 b0_5, .int .i64 b0_6, .int .i64 b0_7, .int .i64 b0_8, .int .i64 b0_9]), some (.cells 23 [.int .i64 b1_0, .int .i64 b1_1, .int .i64 b1_2, .int .i64 b1_3, .int .i64 b1_4, .int .i64 b1_5, .int .i64 b1_6, .int .i64 b1_7, .int .i64 b1_8, .int .i64 b1_9]), some (.row true (.int .i64) 3 b2)], nx := 3 }
noncomputable def m3S66 (b0_0 : Int) (b0_1 : Int) (b0_2 : Int) (b0_3 : Int) (b0_4 : Int) (b0_5 : Int) (b0_6 : Int) (b0_7 : Int) (b0_8 : Int) (b0_9 : Int) : St := { n := 126, tm := slots [(2, .ptr 0 0)], tab := blks [some (.cells 23 [.int .i64 b0_0, .int .i64 b0_1, .int .i64 b0_2, .int .i64 b0_3, .int .i64 b0_4, .int .i64 b0_5, .int .i64 b0_6, .int .i64 b0_7, .int .i64 b0_8, .int .i64 b0_9])], nx := 1 }

noncomputable def m3X (X15 : Int → Int → Int → Int → Int → Int → Int → Int → Int → Int → Int → Int → Int → List Int → Option Bool) (k : Nat) (p0 : (Int × (Int × (Int × (Int × (Int × (Int × (Int × (Int × (Int × Int)))))))))) (p1 : Int) : Option Bool := (Option.bind (m11F k
  (Prod.fst p0, Prod.fst (Prod.snd p0), Prod.fst (Prod.snd (Prod.snd p0)), Prod.fst (Prod.snd (Prod.snd (Prod.snd p0))),
    Prod.fst (Prod.snd (Prod.snd (Prod.snd (Prod.snd p0)))),
    Prod.fst (Prod.snd (Prod.snd (Prod.snd (Prod.snd (Prod.snd p0))))),
    Prod.fst (Prod.snd (Prod.snd (Prod.snd (Prod.snd (Prod.snd (Prod.snd p0)))))),
    Prod.fst (Prod.snd (Prod.snd (Prod.snd (Prod.snd (Prod.snd (Prod.snd (Prod.snd p0))))))),
    Prod.fst (Prod.snd (Prod.snd (Prod.snd (Prod.snd (Prod.snd (Prod.snd (Prod.snd (Prod.snd p0)))))))),
    Prod.snd (Prod.snd (Prod.snd (Prod.snd (Prod.snd (Prod.snd (Prod.snd (Prod.snd (Prod.snd p0)))))))))) fun (c4 : Bool) => (if (!c4) = true then some (true) else (if 0 ≤ wr IntKind.i64 (Int.tmod (wr IntKind.u64 p1) 10) then (if wr IntKind.i64 (Int.tmod (wr IntKind.u64 p1) 10) < 10 then (if 0 ≤ wr IntKind.i64 (Int.tmod (wr IntKind.u64 p1) 10) then (if wr IntKind.i64 (Int.tmod (wr IntKind.u64 p1) 10) < 10 then (if 0 ≤ wr IntKind.i64 (Int.tmod (wr IntKind.u64 p1) 10) then (if wr IntKind.i64 (Int.tmod (wr IntKind.u64 p1) 10) < 10 then (if 0 ≤ wr IntKind.i64 (Int.tmod (wr IntKind.u64 p1) 10) then (if wr IntKind.i64 (Int.tmod (wr IntKind.u64 p1) 10) < 10 then X15 (wr IntKind.i64 (Int.tmod (wr IntKind.u64 p1) 10)) (4) (0) (Prod.fst p0) (Prod.fst (Prod.snd p0)) (Prod.fst (Prod.snd (Prod.snd p0))) (Prod.fst (Prod.snd (Prod.snd (Prod.snd p0)))) (Prod.fst (Prod.snd (Prod.snd (Prod.snd (Prod.snd p0))))) (Prod.fst (Prod.snd (Prod.snd (Prod.snd (Prod.snd (Prod.snd p0)))))) (Prod.fst (Prod.snd (Prod.snd (Prod.snd (Prod.snd (Prod.snd (Prod.snd p0))))))) (Prod.fst (Prod.snd (Prod.snd (Prod.snd (Prod.snd (Prod.snd (Prod.snd (Prod.snd p0)))))))) (Prod.fst (Prod.snd (Prod.snd (Prod.snd (Prod.snd (Prod.snd (Prod.snd (Prod.snd (Prod.snd p0))))))))) (Prod.snd (Prod.snd (Prod.snd (Prod.snd (Prod.snd (Prod.snd (Prod.snd (Prod.snd (Prod.snd p0))))))))) (List.set
  (List.set
    (List.set
      (List.set (List.replicate 4 0) 0
        (List.getD
          (List.set
            (List.set
              (List.set
                (List.set
                  (List.set
                    (List.set (List.set (List.set (List.set (List.set (List.replicate 10 0) 0 1) 1 1) 2 1) 3 1) 4 1) 5
                    1)
                  6 1)
                7 4)
              8 0)
            9 0)
          (Int.toNat (wr IntKind.i64 (Int.tmod (wr IntKind.u64 p1) 10))) 0))
      1
      (List.getD
        (List.set
          (List.set
            (List.set
              (List.set
                (List.set
                  (List.set (List.set (List.set (List.set (List.set (List.replicate 10 0) 0 16) 1 16) 2 3) 3 16) 4 16) 5
                  16)
                6 64)
              7 16)
            8 200)
          9 1073741824)
        (Int.toNat (wr IntKind.i64 (Int.tmod (wr IntKind.u64 p1) 10))) 0))
    2
    (wr IntKind.i64
      (List.getD
          (List.set
            (List.set
              (List.set
                (List.set
                  (List.set
                    (List.set (List.set (List.set (List.set (List.set (List.replicate 10 0) 0 1) 1 1) 2 1) 3 1) 4 1) 5
                    1)
                  6 1)
                7 4)
              8 0)
            9 0)
          (Int.toNat (wr IntKind.i64 (Int.tmod (wr IntKind.u64 p1) 10))) 0 -
        1)))
  3
  (wr IntKind.i64
    (List.getD
        (List.set
          (List.set
            (List.set
              (List.set
                (List.set
                  (List.set (List.set (List.set (List.set (List.set (List.replicate 10 0) 0 16) 1 16) 2 3) 3 16) 4 16) 5
                  16)
                6 64)
              7 16)
            8 200)
          9 1073741824)
        (Int.toNat (wr IntKind.i64 (Int.tmod (wr IntKind.u64 p1) 10))) 0 +
      1))) else none) else none) else none) else none) else none) else none) else none) else none)))

theorem m3x (M : Cut Bool) (k : Nat) (p0 : (Int × (Int × (Int × (Int × (Int × (Int × (Int × (Int × (Int × Int)))))))))) (p1 : Int) : evC (m3E k) M (m3I k) 0 m3A (m3c []) (stAt Try.f3 (argSs [.st (.pair (.int .i64) (.pair (.int .i64) (.pair (.int .i64) (.pair (.int .i64) (.pair (.int .i64) (.pair (.int .i64) (.pair (.int .i64) (.pair (.int .i64) (.pair (.int .i64) (.int .i64)))))))))), .leaf (.val (.int .i64))] (p0, p1)) (fun _ => none) 0) (retK Try.f3 [.leaf (.val .bool)]) = m3X (fun t7' t39' t40' b0_0' b0_1' b0_2' b0_3' b0_4' b0_5' b0_6' b0_7' b0_8' b0_9' b1' => loopN (normAt 0 m3A true (m3c [true, true, true, true, true, false, true, true, true])) (fun K s => evC (m3E k) M (m3I k) 0 m3A (m3c [true, true, true, true, true, false, true, true, true]) s K) (m3K9 M k) k (m3S15 t7' t39' t40' b0_0' b0_1' b0_2' b0_3' b0_4' b0_5' b0_6' b0_7' b0_8' b0_9' b1')) k p0 p1 := by kernel_rfl

noncomputable def m3X15 (X60 : Int → Int → Int → Int → Int → Int → Int → Int → Int → Int → Int → Int → Int → Int → Int → Int → Int → Int → Int → Int → Int → Int → Int → Int → List Int → Option Bool) (X66 : Int → Int → Int → Int → Int → Int → Int → Int → Int → Int → Option Bool) (k : Nat) (t7 : Int) (t39 : Int) (t40 : Int) (b0_0 : Int) (b0_1 : Int) (b0_2 : Int) (b0_3 : Int) (b0_4 : Int) (b0_5 : Int) (b0_6 : Int) (b0_7 : Int) (b0_8 : Int) (b0_9 : Int) (b1 : List Int) : Option Bool := (if decide (t40 < t39) = true then (if 0 ≤ t40 then (if t40 < (↑(List.length b1) : Int) then (if decide (t7 = 0) = true then X60 t7 t40 t39 t40 b0_0 b0_1 b0_2 b0_3 b0_4 b0_5 b0_6 b0_7 b0_8 b0_9 (List.getD b1 (Int.toNat t40) 0) b0_1 b0_2 b0_3 b0_4 b0_5 b0_6 b0_7 b0_8 b0_9 b1 else (if decide (t7 = 1) = true then X60 t7 t40 t39 t40 b0_0 b0_1 b0_2 b0_3 b0_4 b0_5 b0_6 b0_7 b0_8 b0_9 b0_0 (List.getD b1 (Int.toNat t40) 0) b0_2 b0_3 b0_4 b0_5 b0_6 b0_7 b0_8 b0_9 b1 else (if decide (t7 = 2) = true then X60 t7 t40 t39 t40 b0_0 b0_1 b0_2 b0_3 b0_4 b0_5 b0_6 b0_7 b0_8 b0_9 b0_0 b0_1 (List.getD b1 (Int.toNat t40) 0) b0_3 b0_4 b0_5 b0_6 b0_7 b0_8 b0_9 b1 else (if decide (t7 = 3) = true then X60 t7 t40 t39 t40 b0_0 b0_1 b0_2 b0_3 b0_4 b0_5 b0_6 b0_7 b0_8 b0_9 b0_0 b0_1 b0_2 (List.getD b1 (Int.toNat t40) 0) b0_4 b0_5 b0_6 b0_7 b0_8 b0_9 b1 else (if decide (t7 = 4) = true then X60 t7 t40 t39 t40 b0_0 b0_1 b0_2 b0_3 b0_4 b0_5 b0_6 b0_7 b0_8 b0_9 b0_0 b0_1 b0_2 b0_3 (List.getD b1 (Int.toNat t40) 0) b0_5 b0_6 b0_7 b0_8 b0_9 b1 else (if decide (t7 = 5) = true then X60 t7 t40 t39 t40 b0_0 b0_1 b0_2 b0_3 b0_4 b0_5 b0_6 b0_7 b0_8 b0_9 b0_0 b0_1 b0_2 b0_3 b0_4 (List.getD b1 (Int.toNat t40) 0) b0_6 b0_7 b0_8 b0_9 b1 else (if decide (t7 = 6) = true then X60 t7 t40 t39 t40 b0_0 b0_1 b0_2 b0_3 b0_4 b0_5 b0_6 b0_7 b0_8 b0_9 b0_0 b0_1 b0_2 b0_3 b0_4 b0_5 (List.getD b1 (Int.toNat t40) 0) b0_7 b0_8 b0_9 b1 else (if decide (t7 = 7) = true then X60 t7 t40 t39 t40 b0_0 b0_1 b0_2 b0_3 b0_4 b0_5 b0_6 b0_7 b0_8 b0_9 b0_0 b0_1 b0_2 b0_3 b0_4 b0_5 b0_6 (List.getD b1 (Int.toNat t40) 0) b0_8 b0_9 b1 else (if decide (t7 = 8) = true then X60 t7 t40 t39 t40 b0_0 b0_1 b0_2 b0_3 b0_4 b0_5 b0_6 b0_7 b0_8 b0_9 b0_0 b0_1 b0_2 b0_3 b0_4 b0_5 b0_6 b0_7 (List.getD b1 (Int.toNat t40) 0) b0_9 b1 else X60 t7 t40 t39 t40 b0_0 b0_1 b0_2 b0_3 b0_4 b0_5 b0_6 b0_7 b0_8 b0_9 b0_0 b0_1 b0_2 b0_3 b0_4 b0_5 b0_6 b0_7 b0_8 (List.getD b1 (Int.toNat t40) 0) b1))))))))) else none) else none) else X66 b0_0 b0_1 b0_2 b0_3 b0_4 b0_5 b0_6 b0_7 b0_8 b0_9)

theorem m3x15 (M : Cut Bool) (k : Nat) (L15 : St → Option Bool) (t7 : Int) (t39 : Int) (t40 : Int) (b0_0 : Int) (b0_1 : Int) (b0_2 : Int) (b0_3 : Int) (b0_4 : Int) (b0_5 : Int) (b0_6 : Int) (b0_7 : Int) (b0_8 : Int) (b0_9 : Int) (b1 : List Int) : evC (m3E k) M (m3I k) 0 m3A (m3c [true, true, true, true, true, false, true, true, true]) (m3S15 t7 t39 t40 b0_0 b0_1 b0_2 b0_3 b0_4 b0_5 b0_6 b0_7 b0_8 b0_9 b1) (seqK (normAt 0 m3A true (m3c [true, true, true, true, true, false, true, true, true])) L15 (m3K9 M k)) = m3X15 (fun t7' t8' t39' t40' b0_0' b0_1' b0_2' b0_3' b0_4' b0_5' b0_6' b0_7' b0_8' b0_9' b1_0' b1_1' b1_2' b1_3' b1_4' b1_5' b1_6' b1_7' b1_8' b1_9' b2' => M 60 (fun s => evC (m3E k) M (m3I k) 0 m3A (m3c [true, true, true, true, true, false, true, true, true, true, true, false, true, true, true, true]) s (m3K14 M k L15)) (m3S60 t7' t8' t39' t40' b0_0' b0_1' b0_2' b0_3' b0_4' b0_5' b0_6' b0_7' b0_8' b0_9' b1_0' b1_1' b1_2' b1_3' b1_4' b1_5' b1_6' b1_7' b1_8' b1_9' b2')) (fun b0_0' b0_1' b0_2' b0_3' b0_4' b0_5' b0_6' b0_7' b0_8' b0_9' => M 66 (fun s => evC (m3E k) M (m3I k) 0 m3A (m3c [true, true, true, true, true, true]) s (retK Try.f3 [.leaf (.val .bool)])) (m3S66 b0_0' b0_1' b0_2' b0_3' b0_4' b0_5' b0_6' b0_7' b0_8' b0_9')) k t7 t39 t40 b0_0 b0_1 b0_2 b0_3 b0_4 b0_5 b0_6 b0_7 b0_8 b0_9 b1 := by kernel_rfl

noncomputable def m3X60 (L15 : Int → Int → Int → Int → Int → Int → Int → Int → Int → Int → Int → Int → Int → List Int → Option Bool) (k : Nat) (t7 : Int) (t8 : Int) (t39 : Int) (t40 : Int) (b0_0 : Int) (b0_1 : Int) (b0_2 : Int) (b0_3 : Int) (b0_4 : Int) (b0_5 : Int) (b0_6 : Int) (b0_7 : Int) (b0_8 : Int) (b0_9 : Int) (b1_0 : Int) (b1_1 : Int) (b1_2 : Int) (b1_3 : Int) (b1_4 : Int) (b1_5 : Int) (b1_6 : Int) (b1_7 : Int) (b1_8 : Int) (b1_9 : Int) (b2 : List Int) : Option Bool := (Option.bind (m12F k (b1_0, b1_1, b1_2, b1_3, b1_4, b1_5, b1_6, b1_7, b1_8, b1_9)) fun (c28 : Int) => (if (!decide (c28 = 0) == decide (t8 < 2)) = true then some (false) else (if decide (t8 ≥ 2) = true then (Option.bind (m12F k (b1_0, b1_1, b1_2, b1_3, b1_4, b1_5, b1_6, b1_7, b1_8, b1_9)) fun (c29 : Int) => (if (!decide (c29 = 1)) = true then some (false) else (Option.bind (m13F k (b1_0, b1_1, b1_2, b1_3, b1_4, b1_5, b1_6, b1_7, b1_8, b1_9)) fun (c30 : Int) => (if (!decide (c30 = 0)) = true then some (false) else (Option.bind (m14F k (b1_0, b1_1, b1_2, b1_3, b1_4, b1_5, b1_6, b1_7, b1_8, b1_9)) fun (c31 : Int) => (if (!decide (c31 = 0)) = true then some (false) else (if decide (t8 < 2) = true then (Option.bind (m13F k (b1_0, b1_1, b1_2, b1_3, b1_4, b1_5, b1_6, b1_7, b1_8, b1_9)) fun (c32 : Int) => (if decide (c32 < 22) = true then some (false) else L15 t7 t39 (wr IntKind.i64 (t40 + 1)) b0_0 b0_1 b0_2 b0_3 b0_4 b0_5 b0_6 b0_7 b0_8 b0_9 b2)) else L15 t7 t39 (wr IntKind.i64 (t40 + 1)) b0_0 b0_1 b0_2 b0_3 b0_4 b0_5 b0_6 b0_7 b0_8 b0_9 b2))))))) else (if decide (t8 < 2) = true then (Option.bind (m13F k (b1_0, b1_1, b1_2, b1_3, b1_4, b1_5, b1_6, b1_7, b1_8, b1_9)) fun (c29 : Int) => (if decide (c29 < 22) = true then some (false) else L15 t7 t39 (wr IntKind.i64 (t40 + 1)) b0_0 b0_1 b0_2 b0_3 b0_4 b0_5 b0_6 b0_7 b0_8 b0_9 b2)) else L15 t7 t39 (wr IntKind.i64 (t40 + 1)) b0_0 b0_1 b0_2 b0_3 b0_4 b0_5 b0_6 b0_7 b0_8 b0_9 b2))))

theorem m3x60 (M : Cut Bool) (k : Nat) (L15 : St → Option Bool) (t7 : Int) (t8 : Int) (t39 : Int) (t40 : Int) (b0_0 : Int) (b0_1 : Int) (b0_2 : Int) (b0_3 : Int) (b0_4 : Int) (b0_5 : Int) (b0_6 : Int) (b0_7 : Int) (b0_8 : Int) (b0_9 : Int) (b1_0 : Int) (b1_1 : Int) (b1_2 : Int) (b1_3 : Int) (b1_4 : Int) (b1_5 : Int) (b1_6 : Int) (b1_7 : Int) (b1_8 : Int) (b1_9 : Int) (b2 : List Int) : evC (m3E k) M (m3I k) 0 m3A (m3c [true, true, true, true, true, false, true, true, true, true, true, false, true, true, true, true]) (m3S60 t7 t8 t39 t40 b0_0 b0_1 b0_2 b0_3 b0_4 b0_5 b0_6 b0_7 b0_8 b0_9 b1_0 b1_1 b1_2 b1_3 b1_4 b1_5 b1_6 b1_7 b1_8 b1_9 b2) (m3K14 M k L15) = m3X60 (fun t7' t39' t40' b0_0' b0_1' b0_2' b0_3' b0_4' b0_5' b0_6' b0_7' b0_8' b0_9' b1' => L15 (m3S15 t7' t39' t40' b0_0' b0_1' b0_2' b0_3' b0_4' b0_5' b0_6' b0_7' b0_8' b0_9' b1')) k t7 t8 t39 t40 b0_0 b0_1 b0_2 b0_3 b0_4 b0_5 b0_6 b0_7 b0_8 b0_9 b1_0 b1_1 b1_2 b1_3 b1_4 b1_5 b1_6 b1_7 b1_8 b1_9 b2 := by kernel_rfl

noncomputable def m3X66 (k : Nat) (b0_0 : Int) (b0_1 : Int) (b0_2 : Int) (b0_3 : Int) (b0_4 : Int) (b0_5 : Int) (b0_6 : Int) (b0_7 : Int) (b0_8 : Int) (b0_9 : Int) : Option Bool := (Option.bind (m12F k (b0_0, b0_1, b0_2, b0_3, b0_4, b0_5, b0_6, b0_7, b0_8, b0_9)) fun (c12 : Int) => (if decide (c12 = 0) = true then (Option.bind (m15F k) fun (c13 : Bool) => some c13) else some (false)))

theorem m3x66 (M : Cut Bool) (k : Nat) (b0_0 : Int) (b0_1 : Int) (b0_2 : Int) (b0_3 : Int) (b0_4 : Int) (b0_5 : Int) (b0_6 : Int) (b0_7 : Int) (b0_8 : Int) (b0_9 : Int) : evC (m3E k) M (m3I k) 0 m3A (m3c [true, true, true, true, true, true]) (m3S66 b0_0 b0_1 b0_2 b0_3 b0_4 b0_5 b0_6 b0_7 b0_8 b0_9) (retK Try.f3 [.leaf (.val .bool)]) = m3X66 k b0_0 b0_1 b0_2 b0_3 b0_4 b0_5 b0_6 b0_7 b0_8 b0_9 := by kernel_rfl

noncomputable def m3F60 (k : Nat) (L15 : Int → Int → Int → Int → Int → Int → Int → Int → Int → Int → Int → Int → Int → List Int → Option Bool) (t7 : Int) (t8 : Int) (t39 : Int) (t40 : Int) (b0_0 : Int) (b0_1 : Int) (b0_2 : Int) (b0_3 : Int) (b0_4 : Int) (b0_5 : Int) (b0_6 : Int) (b0_7 : Int) (b0_8 : Int) (b0_9 : Int) (b1_0 : Int) (b1_1 : Int) (b1_2 : Int) (b1_3 : Int) (b1_4 : Int) (b1_5 : Int) (b1_6 : Int) (b1_7 : Int) (b1_8 : Int) (b1_9 : Int) (b2 : List Int) : Option Bool := m3X60 L15 k t7 t8 t39 t40 b0_0 b0_1 b0_2 b0_3 b0_4 b0_5 b0_6 b0_7 b0_8 b0_9 b1_0 b1_1 b1_2 b1_3 b1_4 b1_5 b1_6 b1_7 b1_8 b1_9 b2

theorem m3q60 (k : Nat) (L15 : St → Option Bool) (t7 : Int) (t8 : Int) (t39 : Int) (t40 : Int) (b0_0 : Int) (b0_1 : Int) (b0_2 : Int) (b0_3 : Int) (b0_4 : Int) (b0_5 : Int) (b0_6 : Int) (b0_7 : Int) (b0_8 : Int) (b0_9 : Int) (b1_0 : Int) (b1_1 : Int) (b1_2 : Int) (b1_3 : Int) (b1_4 : Int) (b1_5 : Int) (b1_6 : Int) (b1_7 : Int) (b1_8 : Int) (b1_9 : Int) (b2 : List Int) : evC (m3E k) (fun _ f => f) (m3I k) 0 m3A (m3c [true, true, true, true, true, false, true, true, true, true, true, false, true, true, true, true]) (m3S60 t7 t8 t39 t40 b0_0 b0_1 b0_2 b0_3 b0_4 b0_5 b0_6 b0_7 b0_8 b0_9 b1_0 b1_1 b1_2 b1_3 b1_4 b1_5 b1_6 b1_7 b1_8 b1_9 b2) (m3K14 (fun _ f => f) k L15) = m3F60 k (fun t7' t39' t40' b0_0' b0_1' b0_2' b0_3' b0_4' b0_5' b0_6' b0_7' b0_8' b0_9' b1' => L15 (m3S15 t7' t39' t40' b0_0' b0_1' b0_2' b0_3' b0_4' b0_5' b0_6' b0_7' b0_8' b0_9' b1')) t7 t8 t39 t40 b0_0 b0_1 b0_2 b0_3 b0_4 b0_5 b0_6 b0_7 b0_8 b0_9 b1_0 b1_1 b1_2 b1_3 b1_4 b1_5 b1_6 b1_7 b1_8 b1_9 b2 := by
    show _ = m3X60 (fun t7' t39' t40' b0_0' b0_1' b0_2' b0_3' b0_4' b0_5' b0_6' b0_7' b0_8' b0_9' b1' => L15 (m3S15 t7' t39' t40' b0_0' b0_1' b0_2' b0_3' b0_4' b0_5' b0_6' b0_7' b0_8' b0_9' b1')) k t7 t8 t39 t40 b0_0 b0_1 b0_2 b0_3 b0_4 b0_5 b0_6 b0_7 b0_8 b0_9 b1_0 b1_1 b1_2 b1_3 b1_4 b1_5 b1_6 b1_7 b1_8 b1_9 b2
    exact m3x60 (fun _ f => f) k L15 t7 t8 t39 t40 b0_0 b0_1 b0_2 b0_3 b0_4 b0_5 b0_6 b0_7 b0_8 b0_9 b1_0 b1_1 b1_2 b1_3 b1_4 b1_5 b1_6 b1_7 b1_8 b1_9 b2

noncomputable def m3F66 (k : Nat) (b0_0 : Int) (b0_1 : Int) (b0_2 : Int) (b0_3 : Int) (b0_4 : Int) (b0_5 : Int) (b0_6 : Int) (b0_7 : Int) (b0_8 : Int) (b0_9 : Int) : Option Bool := m3X66 k b0_0 b0_1 b0_2 b0_3 b0_4 b0_5 b0_6 b0_7 b0_8 b0_9

theorem m3q66 (k : Nat) (b0_0 : Int) (b0_1 : Int) (b0_2 : Int) (b0_3 : Int) (b0_4 : Int) (b0_5 : Int) (b0_6 : Int) (b0_7 : Int) (b0_8 : Int) (b0_9 : Int) : evC (m3E k) (fun _ f => f) (m3I k) 0 m3A (m3c [true, true, true, true, true, true]) (m3S66 b0_0 b0_1 b0_2 b0_3 b0_4 b0_5 b0_6 b0_7 b0_8 b0_9) (retK Try.f3 [.leaf (.val .bool)]) = m3F66 k b0_0 b0_1 b0_2 b0_3 b0_4 b0_5 b0_6 b0_7 b0_8 b0_9 := by
    show _ = m3X66 k b0_0 b0_1 b0_2 b0_3 b0_4 b0_5 b0_6 b0_7 b0_8 b0_9
    exact m3x66 (fun _ f => f) k b0_0 b0_1 b0_2 b0_3 b0_4 b0_5 b0_6 b0_7 b0_8 b0_9

noncomputable def m3F15 (k : Nat) : Nat → Int → Int → Int → Int → Int → Int → Int → Int → Int → Int → Int → Int → Int → List Int → Option Bool
  | 0, _, _, _, _, _, _, _, _, _, _, _, _, _, _ => none
  | j + 1, t7, t39, t40, b0_0, b0_1, b0_2, b0_3, b0_4, b0_5, b0_6, b0_7, b0_8, b0_9, b1 => m3X15 (m3F60 k (m3F15 k j)) (m3F66 k) k t7 t39 t40 b0_0 b0_1 b0_2 b0_3 b0_4 b0_5 b0_6 b0_7 b0_8 b0_9 b1

theorem m3q15 (k : Nat) : ∀ (j : Nat) (t7 : Int) (t39 : Int) (t40 : Int) (b0_0 : Int) (b0_1 : Int) (b0_2 : Int) (b0_3 : Int) (b0_4 : Int) (b0_5 : Int) (b0_6 : Int) (b0_7 : Int) (b0_8 : Int) (b0_9 : Int) (b1 : List Int), loopN (normAt 0 m3A true (m3c [true, true, true, true, true, false, true, true, true])) (fun K s => evC (m3E k) (fun _ f => f) (m3I k) 0 m3A (m3c [true, true, true, true, true, false, true, true, true]) s K) (m3K9 (fun _ f => f) k) j (m3S15 t7 t39 t40 b0_0 b0_1 b0_2 b0_3 b0_4 b0_5 b0_6 b0_7 b0_8 b0_9 b1) = m3F15 k j t7 t39 t40 b0_0 b0_1 b0_2 b0_3 b0_4 b0_5 b0_6 b0_7 b0_8 b0_9 b1
  | 0, _, _, _, _, _, _, _, _, _, _, _, _, _, _ => rfl
  | j + 1, t7, t39, t40, b0_0, b0_1, b0_2, b0_3, b0_4, b0_5, b0_6, b0_7, b0_8, b0_9, b1 => by
    have e0 : m3F15 k j = (fun t7' t39' t40' b0_0' b0_1' b0_2' b0_3' b0_4' b0_5' b0_6' b0_7' b0_8' b0_9' b1' => loopN (normAt 0 m3A true (m3c [true, true, true, true, true, false, true, true, true])) (fun K s => evC (m3E k) (fun _ f => f) (m3I k) 0 m3A (m3c [true, true, true, true, true, false, true, true, true]) s K) (m3K9 (fun _ f => f) k) j (m3S15 t7' t39' t40' b0_0' b0_1' b0_2' b0_3' b0_4' b0_5' b0_6' b0_7' b0_8' b0_9' b1')) := funext fun t7' => funext fun t39' => funext fun t40' => funext fun b0_0' => funext fun b0_1' => funext fun b0_2' => funext fun b0_3' => funext fun b0_4' => funext fun b0_5' => funext fun b0_6' => funext fun b0_7' => funext fun b0_8' => funext fun b0_9' => funext fun b1' => (m3q15 k j t7' t39' t40' b0_0' b0_1' b0_2' b0_3' b0_4' b0_5' b0_6' b0_7' b0_8' b0_9' b1').symm
    have e60 : m3F60 k (fun t7' t39' t40' b0_0' b0_1' b0_2' b0_3' b0_4' b0_5' b0_6' b0_7' b0_8' b0_9' b1' => loopN (normAt 0 m3A true (m3c [true, true, true, true, true, false, true, true, true])) (fun K s => evC (m3E k) (fun _ f => f) (m3I k) 0 m3A (m3c [true, true, true, true, true, false, true, true, true]) s K) (m3K9 (fun _ f => f) k) j (m3S15 t7' t39' t40' b0_0' b0_1' b0_2' b0_3' b0_4' b0_5' b0_6' b0_7' b0_8' b0_9' b1')) = (fun t7' t8' t39' t40' b0_0' b0_1' b0_2' b0_3' b0_4' b0_5' b0_6' b0_7' b0_8' b0_9' b1_0' b1_1' b1_2' b1_3' b1_4' b1_5' b1_6' b1_7' b1_8' b1_9' b2' => evC (m3E k) (fun _ f => f) (m3I k) 0 m3A (m3c [true, true, true, true, true, false, true, true, true, true, true, false, true, true, true, true]) (m3S60 t7' t8' t39' t40' b0_0' b0_1' b0_2' b0_3' b0_4' b0_5' b0_6' b0_7' b0_8' b0_9' b1_0' b1_1' b1_2' b1_3' b1_4' b1_5' b1_6' b1_7' b1_8' b1_9' b2') (m3K14 (fun _ f => f) k (loopN (normAt 0 m3A true (m3c [true, true, true, true, true, false, true, true, true])) (fun K s => evC (m3E k) (fun _ f => f) (m3I k) 0 m3A (m3c [true, true, true, true, true, false, true, true, true]) s K) (m3K9 (fun _ f => f) k) j))) := funext fun t7' => funext fun t8' => funext fun t39' => funext fun t40' => funext fun b0_0' => funext fun b0_1' => funext fun b0_2' => funext fun b0_3' => funext fun b0_4' => funext fun b0_5' => funext fun b0_6' => funext fun b0_7' => funext fun b0_8' => funext fun b0_9' => funext fun b1_0' => funext fun b1_1' => funext fun b1_2' => funext fun b1_3' => funext fun b1_4' => funext fun b1_5' => funext fun b1_6' => funext fun b1_7' => funext fun b1_8' => funext fun b1_9' => funext fun b2' => (m3q60 k (loopN (normAt 0 m3A true (m3c [true, true, true, true, true, false, true, true, true])) (fun K s => evC (m3E k) (fun _ f => f) (m3I k) 0 m3A (m3c [true, true, true, true, true, false, true, true, true]) s K) (m3K9 (fun _ f => f) k) j) t7' t8' t39' t40' b0_0' b0_1' b0_2' b0_3' b0_4' b0_5' b0_6' b0_7' b0_8' b0_9' b1_0' b1_1' b1_2' b1_3' b1_4' b1_5' b1_6' b1_7' b1_8' b1_9' b2').symm
    have e66 : m3F66 k = (fun b0_0' b0_1' b0_2' b0_3' b0_4' b0_5' b0_6' b0_7' b0_8' b0_9' => evC (m3E k) (fun _ f => f) (m3I k) 0 m3A (m3c [true, true, true, true, true, true]) (m3S66 b0_0' b0_1' b0_2' b0_3' b0_4' b0_5' b0_6' b0_7' b0_8' b0_9') (retK Try.f3 [.leaf (.val .bool)])) := funext fun b0_0' => funext fun b0_1' => funext fun b0_2' => funext fun b0_3' => funext fun b0_4' => funext fun b0_5' => funext fun b0_6' => funext fun b0_7' => funext fun b0_8' => funext fun b0_9' => (m3q66 k b0_0' b0_1' b0_2' b0_3' b0_4' b0_5' b0_6' b0_7' b0_8' b0_9').symm
    show _ = m3X15 (m3F60 k (m3F15 k j)) (m3F66 k) k t7 t39 t40 b0_0 b0_1 b0_2 b0_3 b0_4 b0_5 b0_6 b0_7 b0_8 b0_9 b1
    rw [e0, e60, e66]
    exact m3x15 (fun _ f => f) k (loopN (normAt 0 m3A true (m3c [true, true, true, true, true, false, true, true, true])) (fun K s => evC (m3E k) (fun _ f => f) (m3I k) 0 m3A (m3c [true, true, true, true, true, false, true, true, true]) s K) (m3K9 (fun _ f => f) k) j) t7 t39 t40 b0_0 b0_1 b0_2 b0_3 b0_4 b0_5 b0_6 b0_7 b0_8 b0_9 b1

noncomputable def m3F (k : Nat) (p0 : (Int × (Int × (Int × (Int × (Int × (Int × (Int × (Int × (Int × Int)))))))))) (p1 : Int) : Option Bool := m3X (m3F15 k k) k p0 p1

theorem m3q (k : Nat) (p0 : (Int × (Int × (Int × (Int × (Int × (Int × (Int × (Int × (Int × Int)))))))))) (p1 : Int) : evC (m3E k) (fun _ f => f) (m3I k) 0 m3A (m3c []) (stAt Try.f3 (argSs [.st (.pair (.int .i64) (.pair (.int .i64) (.pair (.int .i64) (.pair (.int .i64) (.pair (.int .i64) (.pair (.int .i64) (.pair (.int .i64) (.pair (.int .i64) (.pair (.int .i64) (.int .i64)))))))))), .leaf (.val (.int .i64))] (p0, p1)) (fun _ => none) 0) (retK Try.f3 [.leaf (.val .bool)]) = m3F k p0 p1 := by
    have e15 : m3F15 k k = (fun t7' t39' t40' b0_0' b0_1' b0_2' b0_3' b0_4' b0_5' b0_6' b0_7' b0_8' b0_9' b1' => loopN (normAt 0 m3A true (m3c [true, true, true, true, true, false, true, true, true])) (fun K s => evC (m3E k) (fun _ f => f) (m3I k) 0 m3A (m3c [true, true, true, true, true, false, true, true, true]) s K) (m3K9 (fun _ f => f) k) k (m3S15 t7' t39' t40' b0_0' b0_1' b0_2' b0_3' b0_4' b0_5' b0_6' b0_7' b0_8' b0_9' b1')) := funext fun t7' => funext fun t39' => funext fun t40' => funext fun b0_0' => funext fun b0_1' => funext fun b0_2' => funext fun b0_3' => funext fun b0_4' => funext fun b0_5' => funext fun b0_6' => funext fun b0_7' => funext fun b0_8' => funext fun b0_9' => funext fun b1' => (m3q15 k k t7' t39' t40' b0_0' b0_1' b0_2' b0_3' b0_4' b0_5' b0_6' b0_7' b0_8' b0_9' b1').symm
    show _ = m3X (m3F15 k k) k p0 p1
    rw [e15]
    exact m3x (fun _ f => f) k p0 p1

noncomputable def m3sp : Spec := { ps := [.st (.pair (.int .i64) (.pair (.int .i64) (.pair (.int .i64) (.pair (.int .i64) (.pair (.int .i64) (.pair (.int .i64) (.pair (.int .i64) (.pair (.int .i64) (.pair (.int .i64) (.int .i64)))))))))), .leaf (.val (.int .i64))], rs := [.leaf (.val .bool)], f := fun k a => m3F k a.1 a.2 }

theorem m3ok (k : Nat) : EnvOk (m3E k) := envOk_of (l := [(11, m11sp), (12, m12sp), (13, m13sp), (14, m14sp), (15, m15sp)]) progNames progMixed rfl (.cons ⟨m11con k, Try.f11, by kernel_rfl, by kernel_rfl⟩ (.cons ⟨m12con k, Try.f12, by kernel_rfl, by kernel_rfl⟩ (.cons ⟨m13con k, Try.f13, by kernel_rfl, by kernel_rfl⟩ (.cons ⟨m14con k, Try.f14, by kernel_rfl, by kernel_rfl⟩ (.cons ⟨m15con k, Try.f15, by kernel_rfl, by kernel_rfl⟩ (.nil))))))

theorem m3con (k : Nat) : Contract Try.prog k 3 m3sp := contract_of (E := m3E k) (m3ok k) (A := only 3 m3A) (d := 3) (c := m3c []) (by kernel_rfl) (by kernel_rfl) fun a _ h => (m3q k a.1 a.2).trans h

end Go.Proofs.Ythfdejbckheagaa.Mini
