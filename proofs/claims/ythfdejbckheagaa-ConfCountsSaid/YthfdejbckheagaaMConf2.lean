/- Printed by a program of this session's (MPrint, over wip/mini): plain functions of the program's, and that they are what it does. Lean checks it. -/
import Derived.Test.YthfdejbckheagaaMConf
set_option linter.unusedVariables false
namespace Go.Proofs.Ythfdejbckheagaa.Mini
open Go Go.RowKit Go.Proofs

noncomputable def m19A : Anns := tabA []
noncomputable def m19E (k : Nat) : Env := { P := Try.prog, k := k, G := tabG [(12, m12sp), (38, m38sp)] }
noncomputable def m19c (p : List Bool) : Code := sub p (bodyOf Try.f19)
noncomputable def m19I (k : Nat) : Inl Int := inlOf (m19E k) (only 19 m19A) 3
noncomputable def m19K0 (M : Cut Int) (k : Nat) : Exit → St → Option Int := seqK (normAt 0 m19A false (m19c [true])) (cutK M m19A (m19c [true]) fun s => evC (m19E k) M (m19I k) 0 m19A (m19c [true]) s (retK Try.f19 [.leaf (.val (.int .i64))])) (retK Try.f19 [.leaf (.val (.int .i64))])
noncomputable def m19K1 (M : Cut Int) (k : Nat) : Exit → St → Option Int := seqK (normAt 0 m19A false (m19c [true, true])) (cutK M m19A (m19c [true, true]) fun s => evC (m19E k) M (m19I k) 0 m19A (m19c [true, true]) s (retK Try.f19 [.leaf (.val (.int .i64))])) (retK Try.f19 [.leaf (.val (.int .i64))])
noncomputable def m19K2 (M : Cut Int) (k : Nat) : Exit → St → Option Int := blockK 0 (m19K1 M k)
noncomputable def m19K3 (M : Cut Int) (k : Nat) : Exit → St → Option Int := seqK (normAt 0 m19A false (m19c [true, false, true, true])) (cutK M m19A (m19c [true, false, true, true]) fun s => evC (m19E k) M (m19I k) 0 m19A (m19c [true, false, true, true]) s (m19K2 M k)) (m19K2 M k)
noncomputable def m19K4 (M : Cut Int) (k : Nat) : Exit → St → Option Int := seqK (normAt 0 m19A false (m19c [true, false, true, true, false, true])) (cutK M m19A (m19c [true, false, true, true, false, true]) fun s => evC (m19E k) M (m19I k) 0 m19A (m19c [true, false, true, true, false, true]) s (m19K2 M k)) (m19K2 M k)
noncomputable def m19K5 (M : Cut Int) (k : Nat) : Exit → St → Option Int := seqK (normAt 0 m19A false (m19c [true, false, true, true, true, true])) (cutK M m19A (m19c [true, false, true, true, true, true]) fun s => evC (m19E k) M (m19I k) 0 m19A (m19c [true, false, true, true, true, true]) s (m19K2 M k)) (m19K2 M k)
noncomputable def m19K6 (M : Cut Int) (k : Nat) : Exit → St → Option Int := seqK (normAt 0 m19A false (m19c [true, false, true, true, true, true, false, true])) (cutK M m19A (m19c [true, false, true, true, true, true, false, true]) fun s => evC (m19E k) M (m19I k) 0 m19A (m19c [true, false, true, true, true, true, false, true]) s (m19K2 M k)) (m19K2 M k)
noncomputable def m19K7 (M : Cut Int) (k : Nat) : Exit → St → Option Int := seqK (normAt 0 m19A false (m19c [true, true, true])) (cutK M m19A (m19c [true, true, true]) fun s => evC (m19E k) M (m19I k) 0 m19A (m19c [true, true, true]) s (retK Try.f19 [.leaf (.val (.int .i64))])) (retK Try.f19 [.leaf (.val (.int .i64))])

noncomputable def m19X (k : Nat) (p0 : (Int × (Int × (Int × (Int × (Int × (Int × (Int × (Int × (Int × Int)))))))))) (p1 : Int) : Option Int := (Option.bind (m12F k
  (Prod.fst p0, Prod.fst (Prod.snd p0), Prod.fst (Prod.snd (Prod.snd p0)), Prod.fst (Prod.snd (Prod.snd (Prod.snd p0))),
    Prod.fst (Prod.snd (Prod.snd (Prod.snd (Prod.snd p0)))),
    Prod.fst (Prod.snd (Prod.snd (Prod.snd (Prod.snd (Prod.snd p0))))),
    Prod.fst (Prod.snd (Prod.snd (Prod.snd (Prod.snd (Prod.snd (Prod.snd p0)))))),
    Prod.fst (Prod.snd (Prod.snd (Prod.snd (Prod.snd (Prod.snd (Prod.snd (Prod.snd p0))))))),
    Prod.fst (Prod.snd (Prod.snd (Prod.snd (Prod.snd (Prod.snd (Prod.snd (Prod.snd (Prod.snd p0)))))))),
    Prod.snd (Prod.snd (Prod.snd (Prod.snd (Prod.snd (Prod.snd (Prod.snd (Prod.snd (Prod.snd p0)))))))))) fun (c4 : Int) => (if (!decide (c4 = 0)) = true then some (0) else (if decide (p1 < 0) = true then some (0) else (if decide (p1 > 200) = true then some (0) else (if decide (p1 = 0) = true then some (1) else (Option.bind (m38F k p1 (Prod.fst p0)) fun (c5 : Int) => some c5))))))

theorem m19x (M : Cut Int) (k : Nat) (p0 : (Int × (Int × (Int × (Int × (Int × (Int × (Int × (Int × (Int × Int)))))))))) (p1 : Int) : evC (m19E k) M (m19I k) 0 m19A (m19c []) (stAt Try.f19 (argSs [.st (.pair (.int .i64) (.pair (.int .i64) (.pair (.int .i64) (.pair (.int .i64) (.pair (.int .i64) (.pair (.int .i64) (.pair (.int .i64) (.pair (.int .i64) (.pair (.int .i64) (.int .i64)))))))))), .leaf (.val (.int .i64))] (p0, p1)) (fun _ => none) 0) (retK Try.f19 [.leaf (.val (.int .i64))]) = m19X k p0 p1 := by kernel_rfl

noncomputable def m19F (k : Nat) (p0 : (Int × (Int × (Int × (Int × (Int × (Int × (Int × (Int × (Int × Int)))))))))) (p1 : Int) : Option Int := m19X k p0 p1

theorem m19q (k : Nat) (p0 : (Int × (Int × (Int × (Int × (Int × (Int × (Int × (Int × (Int × Int)))))))))) (p1 : Int) : evC (m19E k) (fun _ f => f) (m19I k) 0 m19A (m19c []) (stAt Try.f19 (argSs [.st (.pair (.int .i64) (.pair (.int .i64) (.pair (.int .i64) (.pair (.int .i64) (.pair (.int .i64) (.pair (.int .i64) (.pair (.int .i64) (.pair (.int .i64) (.pair (.int .i64) (.int .i64)))))))))), .leaf (.val (.int .i64))] (p0, p1)) (fun _ => none) 0) (retK Try.f19 [.leaf (.val (.int .i64))]) = m19F k p0 p1 := by
    show _ = m19X k p0 p1
    exact m19x (fun _ f => f) k p0 p1

noncomputable def m19sp : Spec := { ps := [.st (.pair (.int .i64) (.pair (.int .i64) (.pair (.int .i64) (.pair (.int .i64) (.pair (.int .i64) (.pair (.int .i64) (.pair (.int .i64) (.pair (.int .i64) (.pair (.int .i64) (.int .i64)))))))))), .leaf (.val (.int .i64))], rs := [.leaf (.val (.int .i64))], f := fun k a => m19F k a.1 a.2 }

theorem m19ok (k : Nat) : EnvOk (m19E k) := envOk_of (l := [(12, m12sp), (38, m38sp)]) progNames progMixed rfl (.cons ⟨m12con k, Try.f12, by kernel_rfl, by kernel_rfl⟩ (.cons ⟨m38con k, Try.f38, by kernel_rfl, by kernel_rfl⟩ (.nil)))

theorem m19con (k : Nat) : Contract Try.prog k 19 m19sp := contract_of (E := m19E k) (m19ok k) (A := only 19 m19A) (d := 3) (c := m19c []) (by kernel_rfl) (by kernel_rfl) fun a _ h => (m19q k a.1 a.2).trans h

noncomputable def m20A : Anns := tabA []
noncomputable def m20E (k : Nat) : Env := { P := Try.prog, k := k, G := tabG [(12, m12sp), (14, m14sp)] }
noncomputable def m20c (p : List Bool) : Code := sub p (bodyOf Try.f20)
noncomputable def m20I (k : Nat) : Inl Int := inlOf (m20E k) (only 20 m20A) 3
noncomputable def m20K0 (M : Cut Int) (k : Nat) : Exit → St → Option Int := seqK (normAt 0 m20A false (m20c [true])) (cutK M m20A (m20c [true]) fun s => evC (m20E k) M (m20I k) 0 m20A (m20c [true]) s (retK Try.f20 [.leaf (.val (.int .i64))])) (retK Try.f20 [.leaf (.val (.int .i64))])
noncomputable def m20K1 (M : Cut Int) (k : Nat) : Exit → St → Option Int := seqK (normAt 0 m20A false (m20c [true, true])) (cutK M m20A (m20c [true, true]) fun s => evC (m20E k) M (m20I k) 0 m20A (m20c [true, true]) s (retK Try.f20 [.leaf (.val (.int .i64))])) (retK Try.f20 [.leaf (.val (.int .i64))])
noncomputable def m20K2 (M : Cut Int) (k : Nat) : Exit → St → Option Int := seqK (normAt 0 m20A false (m20c [true, false, true])) (cutK M m20A (m20c [true, false, true]) fun s => evC (m20E k) M (m20I k) 0 m20A (m20c [true, false, true]) s (m20K1 M k)) (m20K1 M k)
noncomputable def m20K3 (M : Cut Int) (k : Nat) : Exit → St → Option Int := seqK (normAt 0 m20A false (m20c [true, false, true, false, true])) (cutK M m20A (m20c [true, false, true, false, true]) fun s => evC (m20E k) M (m20I k) 0 m20A (m20c [true, false, true, false, true]) s (m20K1 M k)) (m20K1 M k)
noncomputable def m20K4 (M : Cut Int) (k : Nat) : Exit → St → Option Int := seqK (normAt 0 m20A false (m20c [true, true, true])) (cutK M m20A (m20c [true, true, true]) fun s => evC (m20E k) M (m20I k) 0 m20A (m20c [true, true, true]) s (retK Try.f20 [.leaf (.val (.int .i64))])) (retK Try.f20 [.leaf (.val (.int .i64))])

noncomputable def m20X (k : Nat) (p0 : (Int × (Int × (Int × (Int × (Int × (Int × (Int × (Int × (Int × Int)))))))))) (p1 : Int) : Option Int := (Option.bind (m12F k
  (Prod.fst p0, Prod.fst (Prod.snd p0), Prod.fst (Prod.snd (Prod.snd p0)), Prod.fst (Prod.snd (Prod.snd (Prod.snd p0))),
    Prod.fst (Prod.snd (Prod.snd (Prod.snd (Prod.snd p0)))),
    Prod.fst (Prod.snd (Prod.snd (Prod.snd (Prod.snd (Prod.snd p0))))),
    Prod.fst (Prod.snd (Prod.snd (Prod.snd (Prod.snd (Prod.snd (Prod.snd p0)))))),
    Prod.fst (Prod.snd (Prod.snd (Prod.snd (Prod.snd (Prod.snd (Prod.snd (Prod.snd p0))))))),
    Prod.fst (Prod.snd (Prod.snd (Prod.snd (Prod.snd (Prod.snd (Prod.snd (Prod.snd (Prod.snd p0)))))))),
    Prod.snd (Prod.snd (Prod.snd (Prod.snd (Prod.snd (Prod.snd (Prod.snd (Prod.snd (Prod.snd p0)))))))))) fun (c4 : Int) => (if (!decide (c4 = 0)) = true then some (0) else (if decide (p1 < 0) = true then some (0) else (if decide (p1 > 2000) = true then some (0) else (Option.bind (m14F k
  (Prod.fst p0, Prod.fst (Prod.snd p0), Prod.fst (Prod.snd (Prod.snd p0)), Prod.fst (Prod.snd (Prod.snd (Prod.snd p0))),
    Prod.fst (Prod.snd (Prod.snd (Prod.snd (Prod.snd p0)))),
    Prod.fst (Prod.snd (Prod.snd (Prod.snd (Prod.snd (Prod.snd p0))))),
    Prod.fst (Prod.snd (Prod.snd (Prod.snd (Prod.snd (Prod.snd (Prod.snd p0)))))),
    Prod.fst (Prod.snd (Prod.snd (Prod.snd (Prod.snd (Prod.snd (Prod.snd (Prod.snd p0))))))),
    Prod.fst (Prod.snd (Prod.snd (Prod.snd (Prod.snd (Prod.snd (Prod.snd (Prod.snd (Prod.snd p0)))))))),
    Prod.snd (Prod.snd (Prod.snd (Prod.snd (Prod.snd (Prod.snd (Prod.snd (Prod.snd (Prod.snd p0)))))))))) fun (c5 : Int) => some (wr IntKind.i64 (wr IntKind.i64 (p1 + 1) * wr IntKind.i64 (wr IntKind.i64 (3 * c5) + 2))))))))

theorem m20x (M : Cut Int) (k : Nat) (p0 : (Int × (Int × (Int × (Int × (Int × (Int × (Int × (Int × (Int × Int)))))))))) (p1 : Int) : evC (m20E k) M (m20I k) 0 m20A (m20c []) (stAt Try.f20 (argSs [.st (.pair (.int .i64) (.pair (.int .i64) (.pair (.int .i64) (.pair (.int .i64) (.pair (.int .i64) (.pair (.int .i64) (.pair (.int .i64) (.pair (.int .i64) (.pair (.int .i64) (.int .i64)))))))))), .leaf (.val (.int .i64))] (p0, p1)) (fun _ => none) 0) (retK Try.f20 [.leaf (.val (.int .i64))]) = m20X k p0 p1 := by kernel_rfl

noncomputable def m20F (k : Nat) (p0 : (Int × (Int × (Int × (Int × (Int × (Int × (Int × (Int × (Int × Int)))))))))) (p1 : Int) : Option Int := m20X k p0 p1

theorem m20q (k : Nat) (p0 : (Int × (Int × (Int × (Int × (Int × (Int × (Int × (Int × (Int × Int)))))))))) (p1 : Int) : evC (m20E k) (fun _ f => f) (m20I k) 0 m20A (m20c []) (stAt Try.f20 (argSs [.st (.pair (.int .i64) (.pair (.int .i64) (.pair (.int .i64) (.pair (.int .i64) (.pair (.int .i64) (.pair (.int .i64) (.pair (.int .i64) (.pair (.int .i64) (.pair (.int .i64) (.int .i64)))))))))), .leaf (.val (.int .i64))] (p0, p1)) (fun _ => none) 0) (retK Try.f20 [.leaf (.val (.int .i64))]) = m20F k p0 p1 := by
    show _ = m20X k p0 p1
    exact m20x (fun _ f => f) k p0 p1

noncomputable def m20sp : Spec := { ps := [.st (.pair (.int .i64) (.pair (.int .i64) (.pair (.int .i64) (.pair (.int .i64) (.pair (.int .i64) (.pair (.int .i64) (.pair (.int .i64) (.pair (.int .i64) (.pair (.int .i64) (.int .i64)))))))))), .leaf (.val (.int .i64))], rs := [.leaf (.val (.int .i64))], f := fun k a => m20F k a.1 a.2 }

theorem m20ok (k : Nat) : EnvOk (m20E k) := envOk_of (l := [(12, m12sp), (14, m14sp)]) progNames progMixed rfl (.cons ⟨m12con k, Try.f12, by kernel_rfl, by kernel_rfl⟩ (.cons ⟨m14con k, Try.f14, by kernel_rfl, by kernel_rfl⟩ (.nil)))

theorem m20con (k : Nat) : Contract Try.prog k 20 m20sp := contract_of (E := m20E k) (m20ok k) (A := only 20 m20A) (d := 3) (c := m20c []) (by kernel_rfl) (by kernel_rfl) fun a _ h => (m20q k a.1 a.2).trans h

noncomputable def m21A : Anns := tabA []
noncomputable def m21E (k : Nat) : Env := { P := Try.prog, k := k, G := tabG [] }
noncomputable def m21c (p : List Bool) : Code := sub p (bodyOf Try.f21)
noncomputable def m21I (k : Nat) : Inl Int := inlOf (m21E k) (only 21 m21A) 3
noncomputable def m21K0 (M : Cut Int) (k : Nat) : Exit → St → Option Int := seqK (normAt 0 m21A false (m21c [true])) (cutK M m21A (m21c [true]) fun s => evC (m21E k) M (m21I k) 0 m21A (m21c [true]) s (retK Try.f21 [.leaf (.val (.int .i64))])) (retK Try.f21 [.leaf (.val (.int .i64))])
noncomputable def m21K1 (M : Cut Int) (k : Nat) : Exit → St → Option Int := seqK (normAt 0 m21A false (m21c [true, true])) (cutK M m21A (m21c [true, true]) fun s => evC (m21E k) M (m21I k) 0 m21A (m21c [true, true]) s (retK Try.f21 [.leaf (.val (.int .i64))])) (retK Try.f21 [.leaf (.val (.int .i64))])

noncomputable def m21X (k : Nat) (p0 : (Int × (Int × (Int × (Int × (Int × (Int × (Int × (Int × (Int × Int)))))))))) (p1 : Int) : Option Int := (if Prod.fst p0 ≠ 0 then some (mx (wr IntKind.i64 (Int.tdiv (wr IntKind.i64 (wr IntKind.i64 (p1 + Prod.fst p0) - 1)) (Prod.fst p0))) 1) else none)

theorem m21x (M : Cut Int) (k : Nat) (p0 : (Int × (Int × (Int × (Int × (Int × (Int × (Int × (Int × (Int × Int)))))))))) (p1 : Int) : evC (m21E k) M (m21I k) 0 m21A (m21c []) (stAt Try.f21 (argSs [.st (.pair (.int .i64) (.pair (.int .i64) (.pair (.int .i64) (.pair (.int .i64) (.pair (.int .i64) (.pair (.int .i64) (.pair (.int .i64) (.pair (.int .i64) (.pair (.int .i64) (.int .i64)))))))))), .leaf (.val (.int .i64))] (p0, p1)) (fun _ => none) 0) (retK Try.f21 [.leaf (.val (.int .i64))]) = m21X k p0 p1 := by kernel_rfl

noncomputable def m21F (k : Nat) (p0 : (Int × (Int × (Int × (Int × (Int × (Int × (Int × (Int × (Int × Int)))))))))) (p1 : Int) : Option Int := m21X k p0 p1

theorem m21q (k : Nat) (p0 : (Int × (Int × (Int × (Int × (Int × (Int × (Int × (Int × (Int × Int)))))))))) (p1 : Int) : evC (m21E k) (fun _ f => f) (m21I k) 0 m21A (m21c []) (stAt Try.f21 (argSs [.st (.pair (.int .i64) (.pair (.int .i64) (.pair (.int .i64) (.pair (.int .i64) (.pair (.int .i64) (.pair (.int .i64) (.pair (.int .i64) (.pair (.int .i64) (.pair (.int .i64) (.int .i64)))))))))), .leaf (.val (.int .i64))] (p0, p1)) (fun _ => none) 0) (retK Try.f21 [.leaf (.val (.int .i64))]) = m21F k p0 p1 := by
    show _ = m21X k p0 p1
    exact m21x (fun _ f => f) k p0 p1

noncomputable def m21sp : Spec := { ps := [.st (.pair (.int .i64) (.pair (.int .i64) (.pair (.int .i64) (.pair (.int .i64) (.pair (.int .i64) (.pair (.int .i64) (.pair (.int .i64) (.pair (.int .i64) (.pair (.int .i64) (.int .i64)))))))))), .leaf (.val (.int .i64))], rs := [.leaf (.val (.int .i64))], f := fun k a => m21F k a.1 a.2 }

theorem m21ok (k : Nat) : EnvOk (m21E k) := envOk_of (l := []) progNames progMixed rfl (.nil)

theorem m21con (k : Nat) : Contract Try.prog k 21 m21sp := contract_of (E := m21E k) (m21ok k) (A := only 21 m21A) (d := 3) (c := m21c []) (by kernel_rfl) (by kernel_rfl) fun a _ h => (m21q k a.1 a.2).trans h

noncomputable def m23A : Anns := tabA []
noncomputable def m23E (k : Nat) : Env := { P := Try.prog, k := k, G := tabG [] }
noncomputable def m23c (p : List Bool) : Code := sub p (bodyOf Try.f23)
noncomputable def m23I (k : Nat) : Inl Int := inlOf (m23E k) (only 23 m23A) 3
noncomputable def m23K0 (M : Cut Int) (k : Nat) : Exit → St → Option Int := seqK (normAt 0 m23A false (m23c [true])) (cutK M m23A (m23c [true]) fun s => evC (m23E k) M (m23I k) 0 m23A (m23c [true]) s (retK Try.f23 [.leaf (.val (.int .i64))])) (retK Try.f23 [.leaf (.val (.int .i64))])
noncomputable def m23K1 (M : Cut Int) (k : Nat) : Exit → St → Option Int := seqK (normAt 0 m23A false (m23c [true, true])) (cutK M m23A (m23c [true, true]) fun s => evC (m23E k) M (m23I k) 0 m23A (m23c [true, true]) s (retK Try.f23 [.leaf (.val (.int .i64))])) (retK Try.f23 [.leaf (.val (.int .i64))])

noncomputable def m23X (k : Nat) (p0 : (Int × (Int × (Int × (Int × (Int × (Int × (Int × (Int × (Int × Int)))))))))) : Option Int := some (wr IntKind.i64 (2 * wr IntKind.i64 (Prod.fst p0 + 10)))

theorem m23x (M : Cut Int) (k : Nat) (p0 : (Int × (Int × (Int × (Int × (Int × (Int × (Int × (Int × (Int × Int)))))))))) : evC (m23E k) M (m23I k) 0 m23A (m23c []) (stAt Try.f23 (argSs [.st (.pair (.int .i64) (.pair (.int .i64) (.pair (.int .i64) (.pair (.int .i64) (.pair (.int .i64) (.pair (.int .i64) (.pair (.int .i64) (.pair (.int .i64) (.pair (.int .i64) (.int .i64))))))))))] p0) (fun _ => none) 0) (retK Try.f23 [.leaf (.val (.int .i64))]) = m23X k p0 := by kernel_rfl

noncomputable def m23F (k : Nat) (p0 : (Int × (Int × (Int × (Int × (Int × (Int × (Int × (Int × (Int × Int)))))))))) : Option Int := m23X k p0

theorem m23q (k : Nat) (p0 : (Int × (Int × (Int × (Int × (Int × (Int × (Int × (Int × (Int × Int)))))))))) : evC (m23E k) (fun _ f => f) (m23I k) 0 m23A (m23c []) (stAt Try.f23 (argSs [.st (.pair (.int .i64) (.pair (.int .i64) (.pair (.int .i64) (.pair (.int .i64) (.pair (.int .i64) (.pair (.int .i64) (.pair (.int .i64) (.pair (.int .i64) (.pair (.int .i64) (.int .i64))))))))))] p0) (fun _ => none) 0) (retK Try.f23 [.leaf (.val (.int .i64))]) = m23F k p0 := by
    show _ = m23X k p0
    exact m23x (fun _ f => f) k p0

noncomputable def m23sp : Spec := { ps := [.st (.pair (.int .i64) (.pair (.int .i64) (.pair (.int .i64) (.pair (.int .i64) (.pair (.int .i64) (.pair (.int .i64) (.pair (.int .i64) (.pair (.int .i64) (.pair (.int .i64) (.int .i64))))))))))], rs := [.leaf (.val (.int .i64))], f := fun k a => m23F k a }

theorem m23ok (k : Nat) : EnvOk (m23E k) := envOk_of (l := []) progNames progMixed rfl (.nil)

theorem m23con (k : Nat) : Contract Try.prog k 23 m23sp := contract_of (E := m23E k) (m23ok k) (A := only 23 m23A) (d := 3) (c := m23c []) (by kernel_rfl) (by kernel_rfl) fun a _ h => (m23q k a).trans h

noncomputable def m24A : Anns := tabA []
noncomputable def m24E (k : Nat) : Env := { P := Try.prog, k := k, G := tabG [(23, m23sp)] }
noncomputable def m24c (p : List Bool) : Code := sub p (bodyOf Try.f24)
noncomputable def m24I (k : Nat) : Inl Int := inlOf (m24E k) (only 24 m24A) 3
noncomputable def m24K0 (M : Cut Int) (k : Nat) : Exit → St → Option Int := seqK (normAt 0 m24A false (m24c [true])) (cutK M m24A (m24c [true]) fun s => evC (m24E k) M (m24I k) 0 m24A (m24c [true]) s (retK Try.f24 [.leaf (.val (.int .i64))])) (retK Try.f24 [.leaf (.val (.int .i64))])
noncomputable def m24K1 (M : Cut Int) (k : Nat) : Exit → St → Option Int := seqK (normAt 0 m24A false (m24c [true, true])) (cutK M m24A (m24c [true, true]) fun s => evC (m24E k) M (m24I k) 0 m24A (m24c [true, true]) s (retK Try.f24 [.leaf (.val (.int .i64))])) (retK Try.f24 [.leaf (.val (.int .i64))])

noncomputable def m24X (k : Nat) (p0 : (Int × (Int × (Int × (Int × (Int × (Int × (Int × (Int × (Int × Int)))))))))) : Option Int := (Option.bind (m23F k
  (Prod.fst p0, Prod.fst (Prod.snd p0), Prod.fst (Prod.snd (Prod.snd p0)), Prod.fst (Prod.snd (Prod.snd (Prod.snd p0))),
    Prod.fst (Prod.snd (Prod.snd (Prod.snd (Prod.snd p0)))),
    Prod.fst (Prod.snd (Prod.snd (Prod.snd (Prod.snd (Prod.snd p0))))),
    Prod.fst (Prod.snd (Prod.snd (Prod.snd (Prod.snd (Prod.snd (Prod.snd p0)))))),
    Prod.fst (Prod.snd (Prod.snd (Prod.snd (Prod.snd (Prod.snd (Prod.snd (Prod.snd p0))))))),
    Prod.fst (Prod.snd (Prod.snd (Prod.snd (Prod.snd (Prod.snd (Prod.snd (Prod.snd (Prod.snd p0)))))))),
    Prod.snd (Prod.snd (Prod.snd (Prod.snd (Prod.snd (Prod.snd (Prod.snd (Prod.snd (Prod.snd p0)))))))))) fun (c3 : Int) => some (wr IntKind.i64 (c3 * Prod.fst (Prod.snd (Prod.snd (Prod.snd (Prod.snd (Prod.snd (Prod.snd (Prod.snd p0))))))))))

theorem m24x (M : Cut Int) (k : Nat) (p0 : (Int × (Int × (Int × (Int × (Int × (Int × (Int × (Int × (Int × Int)))))))))) : evC (m24E k) M (m24I k) 0 m24A (m24c []) (stAt Try.f24 (argSs [.st (.pair (.int .i64) (.pair (.int .i64) (.pair (.int .i64) (.pair (.int .i64) (.pair (.int .i64) (.pair (.int .i64) (.pair (.int .i64) (.pair (.int .i64) (.pair (.int .i64) (.int .i64))))))))))] p0) (fun _ => none) 0) (retK Try.f24 [.leaf (.val (.int .i64))]) = m24X k p0 := by kernel_rfl

noncomputable def m24F (k : Nat) (p0 : (Int × (Int × (Int × (Int × (Int × (Int × (Int × (Int × (Int × Int)))))))))) : Option Int := m24X k p0

theorem m24q (k : Nat) (p0 : (Int × (Int × (Int × (Int × (Int × (Int × (Int × (Int × (Int × Int)))))))))) : evC (m24E k) (fun _ f => f) (m24I k) 0 m24A (m24c []) (stAt Try.f24 (argSs [.st (.pair (.int .i64) (.pair (.int .i64) (.pair (.int .i64) (.pair (.int .i64) (.pair (.int .i64) (.pair (.int .i64) (.pair (.int .i64) (.pair (.int .i64) (.pair (.int .i64) (.int .i64))))))))))] p0) (fun _ => none) 0) (retK Try.f24 [.leaf (.val (.int .i64))]) = m24F k p0 := by
    show _ = m24X k p0
    exact m24x (fun _ f => f) k p0

noncomputable def m24sp : Spec := { ps := [.st (.pair (.int .i64) (.pair (.int .i64) (.pair (.int .i64) (.pair (.int .i64) (.pair (.int .i64) (.pair (.int .i64) (.pair (.int .i64) (.pair (.int .i64) (.pair (.int .i64) (.int .i64))))))))))], rs := [.leaf (.val (.int .i64))], f := fun k a => m24F k a }

theorem m24ok (k : Nat) : EnvOk (m24E k) := envOk_of (l := [(23, m23sp)]) progNames progMixed rfl (.cons ⟨m23con k, Try.f23, by kernel_rfl, by kernel_rfl⟩ (.nil))

theorem m24con (k : Nat) : Contract Try.prog k 24 m24sp := contract_of (E := m24E k) (m24ok k) (A := only 24 m24A) (d := 3) (c := m24c []) (by kernel_rfl) (by kernel_rfl) fun a _ h => (m24q k a).trans h

noncomputable def m25A : Anns := tabA []
noncomputable def m25E (k : Nat) : Env := { P := Try.prog, k := k, G := tabG [(24, m24sp)] }
noncomputable def m25c (p : List Bool) : Code := sub p (bodyOf Try.f25)
noncomputable def m25I (k : Nat) : Inl Int := inlOf (m25E k) (only 25 m25A) 3
noncomputable def m25K0 (M : Cut Int) (k : Nat) : Exit → St → Option Int := seqK (normAt 0 m25A false (m25c [true])) (cutK M m25A (m25c [true]) fun s => evC (m25E k) M (m25I k) 0 m25A (m25c [true]) s (retK Try.f25 [.leaf (.val (.int .i64))])) (retK Try.f25 [.leaf (.val (.int .i64))])
noncomputable def m25K1 (M : Cut Int) (k : Nat) : Exit → St → Option Int := seqK (normAt 0 m25A false (m25c [true, true])) (cutK M m25A (m25c [true, true]) fun s => evC (m25E k) M (m25I k) 0 m25A (m25c [true, true]) s (retK Try.f25 [.leaf (.val (.int .i64))])) (retK Try.f25 [.leaf (.val (.int .i64))])

noncomputable def m25X (k : Nat) (p0 : (Int × (Int × (Int × (Int × (Int × (Int × (Int × (Int × (Int × Int)))))))))) : Option Int := (Option.bind (m24F k
  (Prod.fst p0, Prod.fst (Prod.snd p0), Prod.fst (Prod.snd (Prod.snd p0)), Prod.fst (Prod.snd (Prod.snd (Prod.snd p0))),
    Prod.fst (Prod.snd (Prod.snd (Prod.snd (Prod.snd p0)))),
    Prod.fst (Prod.snd (Prod.snd (Prod.snd (Prod.snd (Prod.snd p0))))),
    Prod.fst (Prod.snd (Prod.snd (Prod.snd (Prod.snd (Prod.snd (Prod.snd p0)))))),
    Prod.fst (Prod.snd (Prod.snd (Prod.snd (Prod.snd (Prod.snd (Prod.snd (Prod.snd p0))))))),
    Prod.fst (Prod.snd (Prod.snd (Prod.snd (Prod.snd (Prod.snd (Prod.snd (Prod.snd (Prod.snd p0)))))))),
    Prod.snd (Prod.snd (Prod.snd (Prod.snd (Prod.snd (Prod.snd (Prod.snd (Prod.snd (Prod.snd p0)))))))))) fun (c3 : Int) => (if Prod.fst (Prod.snd (Prod.snd (Prod.snd (Prod.snd (Prod.snd (Prod.snd p0)))))) ≠ 0 then some (wr IntKind.i64
  (Int.tdiv
    (wr IntKind.i64
      (wr IntKind.i64 (c3 + Prod.fst (Prod.snd (Prod.snd (Prod.snd (Prod.snd (Prod.snd (Prod.snd p0))))))) - 1))
    (Prod.fst (Prod.snd (Prod.snd (Prod.snd (Prod.snd (Prod.snd (Prod.snd p0))))))))) else none))

theorem m25x (M : Cut Int) (k : Nat) (p0 : (Int × (Int × (Int × (Int × (Int × (Int × (Int × (Int × (Int × Int)))))))))) : evC (m25E k) M (m25I k) 0 m25A (m25c []) (stAt Try.f25 (argSs [.st (.pair (.int .i64) (.pair (.int .i64) (.pair (.int .i64) (.pair (.int .i64) (.pair (.int .i64) (.pair (.int .i64) (.pair (.int .i64) (.pair (.int .i64) (.pair (.int .i64) (.int .i64))))))))))] p0) (fun _ => none) 0) (retK Try.f25 [.leaf (.val (.int .i64))]) = m25X k p0 := by kernel_rfl

noncomputable def m25F (k : Nat) (p0 : (Int × (Int × (Int × (Int × (Int × (Int × (Int × (Int × (Int × Int)))))))))) : Option Int := m25X k p0

theorem m25q (k : Nat) (p0 : (Int × (Int × (Int × (Int × (Int × (Int × (Int × (Int × (Int × Int)))))))))) : evC (m25E k) (fun _ f => f) (m25I k) 0 m25A (m25c []) (stAt Try.f25 (argSs [.st (.pair (.int .i64) (.pair (.int .i64) (.pair (.int .i64) (.pair (.int .i64) (.pair (.int .i64) (.pair (.int .i64) (.pair (.int .i64) (.pair (.int .i64) (.pair (.int .i64) (.int .i64))))))))))] p0) (fun _ => none) 0) (retK Try.f25 [.leaf (.val (.int .i64))]) = m25F k p0 := by
    show _ = m25X k p0
    exact m25x (fun _ f => f) k p0

noncomputable def m25sp : Spec := { ps := [.st (.pair (.int .i64) (.pair (.int .i64) (.pair (.int .i64) (.pair (.int .i64) (.pair (.int .i64) (.pair (.int .i64) (.pair (.int .i64) (.pair (.int .i64) (.pair (.int .i64) (.int .i64))))))))))], rs := [.leaf (.val (.int .i64))], f := fun k a => m25F k a }

theorem m25ok (k : Nat) : EnvOk (m25E k) := envOk_of (l := [(24, m24sp)]) progNames progMixed rfl (.cons ⟨m24con k, Try.f24, by kernel_rfl, by kernel_rfl⟩ (.nil))

theorem m25con (k : Nat) : Contract Try.prog k 25 m25sp := contract_of (E := m25E k) (m25ok k) (A := only 25 m25A) (d := 3) (c := m25c []) (by kernel_rfl) (by kernel_rfl) fun a _ h => (m25q k a).trans h

noncomputable def m22A : Anns := tabA []
noncomputable def m22E (k : Nat) : Env := { P := Try.prog, k := k, G := tabG [(25, m25sp)] }
noncomputable def m22c (p : List Bool) : Code := sub p (bodyOf Try.f22)
noncomputable def m22I (k : Nat) : Inl Int := inlOf (m22E k) (only 22 m22A) 3
noncomputable def m22K0 (M : Cut Int) (k : Nat) : Exit → St → Option Int := seqK (normAt 0 m22A false (m22c [true])) (cutK M m22A (m22c [true]) fun s => evC (m22E k) M (m22I k) 0 m22A (m22c [true]) s (retK Try.f22 [.leaf (.val (.int .i64))])) (retK Try.f22 [.leaf (.val (.int .i64))])
noncomputable def m22K1 (M : Cut Int) (k : Nat) : Exit → St → Option Int := seqK (normAt 0 m22A false (m22c [true, true])) (cutK M m22A (m22c [true, true]) fun s => evC (m22E k) M (m22I k) 0 m22A (m22c [true, true]) s (retK Try.f22 [.leaf (.val (.int .i64))])) (retK Try.f22 [.leaf (.val (.int .i64))])

noncomputable def m22X (k : Nat) (p0 : (Int × (Int × (Int × (Int × (Int × (Int × (Int × (Int × (Int × Int)))))))))) (p1 : Int) : Option Int := (Option.bind (m25F k
  (Prod.fst p0, Prod.fst (Prod.snd p0), Prod.fst (Prod.snd (Prod.snd p0)), Prod.fst (Prod.snd (Prod.snd (Prod.snd p0))),
    Prod.fst (Prod.snd (Prod.snd (Prod.snd (Prod.snd p0)))),
    Prod.fst (Prod.snd (Prod.snd (Prod.snd (Prod.snd (Prod.snd p0))))),
    Prod.fst (Prod.snd (Prod.snd (Prod.snd (Prod.snd (Prod.snd (Prod.snd p0)))))),
    Prod.fst (Prod.snd (Prod.snd (Prod.snd (Prod.snd (Prod.snd (Prod.snd (Prod.snd p0))))))),
    Prod.fst (Prod.snd (Prod.snd (Prod.snd (Prod.snd (Prod.snd (Prod.snd (Prod.snd (Prod.snd p0)))))))),
    Prod.snd (Prod.snd (Prod.snd (Prod.snd (Prod.snd (Prod.snd (Prod.snd (Prod.snd (Prod.snd p0)))))))))) fun (c4 : Int) => some (wr IntKind.i64 (wr IntKind.i64 (p1 + 1) * wr IntKind.i64 (wr IntKind.i64 (3 * c4) + 2))))

theorem m22x (M : Cut Int) (k : Nat) (p0 : (Int × (Int × (Int × (Int × (Int × (Int × (Int × (Int × (Int × Int)))))))))) (p1 : Int) : evC (m22E k) M (m22I k) 0 m22A (m22c []) (stAt Try.f22 (argSs [.st (.pair (.int .i64) (.pair (.int .i64) (.pair (.int .i64) (.pair (.int .i64) (.pair (.int .i64) (.pair (.int .i64) (.pair (.int .i64) (.pair (.int .i64) (.pair (.int .i64) (.int .i64)))))))))), .leaf (.val (.int .i64))] (p0, p1)) (fun _ => none) 0) (retK Try.f22 [.leaf (.val (.int .i64))]) = m22X k p0 p1 := by kernel_rfl

noncomputable def m22F (k : Nat) (p0 : (Int × (Int × (Int × (Int × (Int × (Int × (Int × (Int × (Int × Int)))))))))) (p1 : Int) : Option Int := m22X k p0 p1

theorem m22q (k : Nat) (p0 : (Int × (Int × (Int × (Int × (Int × (Int × (Int × (Int × (Int × Int)))))))))) (p1 : Int) : evC (m22E k) (fun _ f => f) (m22I k) 0 m22A (m22c []) (stAt Try.f22 (argSs [.st (.pair (.int .i64) (.pair (.int .i64) (.pair (.int .i64) (.pair (.int .i64) (.pair (.int .i64) (.pair (.int .i64) (.pair (.int .i64) (.pair (.int .i64) (.pair (.int .i64) (.int .i64)))))))))), .leaf (.val (.int .i64))] (p0, p1)) (fun _ => none) 0) (retK Try.f22 [.leaf (.val (.int .i64))]) = m22F k p0 p1 := by
    show _ = m22X k p0 p1
    exact m22x (fun _ f => f) k p0 p1

noncomputable def m22sp : Spec := { ps := [.st (.pair (.int .i64) (.pair (.int .i64) (.pair (.int .i64) (.pair (.int .i64) (.pair (.int .i64) (.pair (.int .i64) (.pair (.int .i64) (.pair (.int .i64) (.pair (.int .i64) (.int .i64)))))))))), .leaf (.val (.int .i64))], rs := [.leaf (.val (.int .i64))], f := fun k a => m22F k a.1 a.2 }

theorem m22ok (k : Nat) : EnvOk (m22E k) := envOk_of (l := [(25, m25sp)]) progNames progMixed rfl (.cons ⟨m25con k, Try.f25, by kernel_rfl, by kernel_rfl⟩ (.nil))

theorem m22con (k : Nat) : Contract Try.prog k 22 m22sp := contract_of (E := m22E k) (m22ok k) (A := only 22 m22A) (d := 3) (c := m22c []) (by kernel_rfl) (by kernel_rfl) fun a _ h => (m22q k a.1 a.2).trans h

noncomputable def m5A : Anns := tabA [(18, { keep := [1, 2, 6, 7] }), (22, { keep := [1, 2, 6, 7] })]
noncomputable def m5E (k : Nat) : Env := { P := Try.prog, k := k, G := tabG [(11, m11sp), (12, m12sp), (13, m13sp), (14, m14sp), (15, m15sp), (18, m18sp), (19, m19sp), (20, m20sp), (21, m21sp), (22, m22sp), (23, m23sp), (24, m24sp), (25, m25sp)] }
noncomputable def m5c (p : List Bool) : Code := sub p (bodyOf Try.f5)
noncomputable def m5I (k : Nat) : Inl Bool := inlOf (m5E k) (only 5 m5A) 3
noncomputable def m5K0 (M : Cut Bool) (k : Nat) : Exit → St → Option Bool := seqK (normAt 0 m5A false (m5c [true])) (cutK M m5A (m5c [true]) fun s => evC (m5E k) M (m5I k) 0 m5A (m5c [true]) s (retK Try.f5 [.leaf (.val .bool)])) (retK Try.f5 [.leaf (.val .bool)])
noncomputable def m5K1 (M : Cut Bool) (k : Nat) : Exit → St → Option Bool := seqK (normAt 0 m5A false (m5c [true, true])) (cutK M m5A (m5c [true, true]) fun s => evC (m5E k) M (m5I k) 0 m5A (m5c [true, true]) s (retK Try.f5 [.leaf (.val .bool)])) (retK Try.f5 [.leaf (.val .bool)])
noncomputable def m5K2 (M : Cut Bool) (k : Nat) : Exit → St → Option Bool := seqK (normAt 0 m5A false (m5c [true, true, true])) (cutK M m5A (m5c [true, true, true]) fun s => evC (m5E k) M (m5I k) 0 m5A (m5c [true, true, true]) s (retK Try.f5 [.leaf (.val .bool)])) (retK Try.f5 [.leaf (.val .bool)])
noncomputable def m5K3 (M : Cut Bool) (k : Nat) : Exit → St → Option Bool := seqK (normAt 0 m5A false (m5c [true, true, false, true])) (cutK M m5A (m5c [true, true, false, true]) fun s => evC (m5E k) M (m5I k) 0 m5A (m5c [true, true, false, true]) s (m5K2 M k)) (m5K2 M k)
noncomputable def m5K4 (M : Cut Bool) (k : Nat) : Exit → St → Option Bool := seqK (normAt 0 m5A false (m5c [true, true, false, true, false, true])) (cutK M m5A (m5c [true, true, false, true, false, true]) fun s => evC (m5E k) M (m5I k) 0 m5A (m5c [true, true, false, true, false, true]) s (m5K2 M k)) (m5K2 M k)
noncomputable def m5K5 (M : Cut Bool) (k : Nat) : Exit → St → Option Bool := seqK (normAt 0 m5A false (m5c [true, true, true, true])) (cutK M m5A (m5c [true, true, true, true]) fun s => evC (m5E k) M (m5I k) 0 m5A (m5c [true, true, true, true]) s (retK Try.f5 [.leaf (.val .bool)])) (retK Try.f5 [.leaf (.val .bool)])
noncomputable def m5K6 (M : Cut Bool) (k : Nat) : Exit → St → Option Bool := seqK (normAt 0 m5A false (m5c [true, true, true, false, true])) (cutK M m5A (m5c [true, true, true, false, true]) fun s => evC (m5E k) M (m5I k) 0 m5A (m5c [true, true, true, false, true]) s (m5K5 M k)) (m5K5 M k)
noncomputable def m5K7 (M : Cut Bool) (k : Nat) : Exit → St → Option Bool := seqK (normAt 0 m5A false (m5c [true, true, true, false, true, false, true])) (cutK M m5A (m5c [true, true, true, false, true, false, true]) fun s => evC (m5E k) M (m5I k) 0 m5A (m5c [true, true, true, false, true, false, true]) s (m5K5 M k)) (m5K5 M k)
noncomputable def m5K8 (M : Cut Bool) (k : Nat) : Exit → St → Option Bool := seqK (normAt 0 m5A false (m5c [true, true, true, true, true])) (cutK M m5A (m5c [true, true, true, true, true]) fun s => evC (m5E k) M (m5I k) 0 m5A (m5c [true, true, true, true, true]) s (retK Try.f5 [.leaf (.val .bool)])) (retK Try.f5 [.leaf (.val .bool)])
noncomputable def m5K9 (M : Cut Bool) (k : Nat) : Exit → St → Option Bool := seqK (normAt 0 m5A false (m5c [true, true, true, true, true, true])) (cutK M m5A (m5c [true, true, true, true, true, true]) fun s => evC (m5E k) M (m5I k) 0 m5A (m5c [true, true, true, true, true, true]) s (retK Try.f5 [.leaf (.val .bool)])) (retK Try.f5 [.leaf (.val .bool)])
noncomputable def m5K10 (M : Cut Bool) (k : Nat) : Exit → St → Option Bool := seqK (normAt 0 m5A false (m5c [true, true, true, true, true, false, true])) (cutK M m5A (m5c [true, true, true, true, true, false, true]) fun s => evC (m5E k) M (m5I k) 0 m5A (m5c [true, true, true, true, true, false, true]) s (m5K9 M k)) (m5K9 M k)
noncomputable def m5K11 (M : Cut Bool) (k : Nat) : Exit → St → Option Bool := seqK (normAt 0 m5A false (m5c [true, true, true, true, true, true, true])) (cutK M m5A (m5c [true, true, true, true, true, true, true]) fun s => evC (m5E k) M (m5I k) 0 m5A (m5c [true, true, true, true, true, true, true]) s (retK Try.f5 [.leaf (.val .bool)])) (retK Try.f5 [.leaf (.val .bool)])
noncomputable def m5K12 (M : Cut Bool) (k : Nat) : Exit → St → Option Bool := seqK (normAt 0 m5A false (m5c [true, true, true, true, true, true, false, true])) (cutK M m5A (m5c [true, true, true, true, true, true, false, true]) fun s => evC (m5E k) M (m5I k) 0 m5A (m5c [true, true, true, true, true, true, false, true]) s (m5K11 M k)) (m5K11 M k)
noncomputable def m5K13 (M : Cut Bool) (k : Nat) : Exit → St → Option Bool := seqK (normAt 0 m5A false (m5c [true, true, true, true, true, true, true, true])) (cutK M m5A (m5c [true, true, true, true, true, true, true, true]) fun s => evC (m5E k) M (m5I k) 0 m5A (m5c [true, true, true, true, true, true, true, true]) s (retK Try.f5 [.leaf (.val .bool)])) (retK Try.f5 [.leaf (.val .bool)])
noncomputable def m5S18 (t1 : Int) (t6 : Int) (t7 : Int) (b0_0 : Int) (b0_1 : Int) (b0_2 : Int) (b0_3 : Int) (b0_4 : Int) (b0_5 : Int) (b0_6 : Int) (b0_7 : Int) (b0_8 : Int) (b0_9 : Int) : St := { n := 100, tm := slots [(1, .int .i64 t1), (2, .ptr 0 0), (6, .int .i64 t6), (7, .int .i64 t7)], tab := blks [some (.cells 23 [.int .i64 b0_0, .int .i64 b0_1, .int .i64 b0_2, .int .i64 b0_3, .int .i64 b0_4, .int .i64 b0_5, .int .i64 b0_6, .int .i64 b0_7, .int .i64 b0_8, .int .i64 b0_9])], nx := 1 }
noncomputable def m5S22 (t1 : Int) (t6 : Int) (t7 : Int) (b0_0 : Int) (b0_1 : Int) (b0_2 : Int) (b0_3 : Int) (b0_4 : Int) (b0_5 : Int) (b0_6 : Int) (b0_7 : Int) (b0_8 : Int) (b0_9 : Int) : St := { n := 100, tm := slots [(1, .int .i64 t1), (2, .ptr 0 0), (6, .int .i64 t6), (7, .int .i64 t7)], tab := blks [some (.cells 23 [.int .i64 b0_0, .int .i64 b0_1, .int .i64 b0_2, .int .i64 b0_3, .int .i64 b0_4, .int .i64 b0_5, .int .i64 b0_6, .int .i64 b0_7, .int .i64 b0_8, .int .i64 b0_9])], nx := 1 }

noncomputable def m5X (X18 : Int → Int → Int → Int → Int → Int → Int → Int → Int → Int → Int → Int → Int → Option Bool) (k : Nat) (p0 : (Int × (Int × (Int × (Int × (Int × (Int × (Int × (Int × (Int × Int)))))))))) (p1 : Int) : Option Bool := (Option.bind (m11F k
  (Prod.fst p0, Prod.fst (Prod.snd p0), Prod.fst (Prod.snd (Prod.snd p0)), Prod.fst (Prod.snd (Prod.snd (Prod.snd p0))),
    Prod.fst (Prod.snd (Prod.snd (Prod.snd (Prod.snd p0)))),
    Prod.fst (Prod.snd (Prod.snd (Prod.snd (Prod.snd (Prod.snd p0))))),
    Prod.fst (Prod.snd (Prod.snd (Prod.snd (Prod.snd (Prod.snd (Prod.snd p0)))))),
    Prod.fst (Prod.snd (Prod.snd (Prod.snd (Prod.snd (Prod.snd (Prod.snd (Prod.snd p0))))))),
    Prod.fst (Prod.snd (Prod.snd (Prod.snd (Prod.snd (Prod.snd (Prod.snd (Prod.snd (Prod.snd p0)))))))),
    Prod.snd (Prod.snd (Prod.snd (Prod.snd (Prod.snd (Prod.snd (Prod.snd (Prod.snd (Prod.snd p0)))))))))) fun (c4 : Bool) => (Option.bind (m12F k
  (Prod.fst p0, Prod.fst (Prod.snd p0), Prod.fst (Prod.snd (Prod.snd p0)), Prod.fst (Prod.snd (Prod.snd (Prod.snd p0))),
    Prod.fst (Prod.snd (Prod.snd (Prod.snd (Prod.snd p0)))),
    Prod.fst (Prod.snd (Prod.snd (Prod.snd (Prod.snd (Prod.snd p0))))),
    Prod.fst (Prod.snd (Prod.snd (Prod.snd (Prod.snd (Prod.snd (Prod.snd p0)))))),
    Prod.fst (Prod.snd (Prod.snd (Prod.snd (Prod.snd (Prod.snd (Prod.snd (Prod.snd p0))))))),
    Prod.fst (Prod.snd (Prod.snd (Prod.snd (Prod.snd (Prod.snd (Prod.snd (Prod.snd (Prod.snd p0)))))))),
    Prod.snd (Prod.snd (Prod.snd (Prod.snd (Prod.snd (Prod.snd (Prod.snd (Prod.snd (Prod.snd p0)))))))))) fun (c5 : Int) => (if (!decide (c5 = 0) == c4) = true then some (false) else (if (!c4) = true then (Option.bind (m12F k
  (Prod.fst p0, Prod.fst (Prod.snd p0), Prod.fst (Prod.snd (Prod.snd p0)), Prod.fst (Prod.snd (Prod.snd (Prod.snd p0))),
    Prod.fst (Prod.snd (Prod.snd (Prod.snd (Prod.snd p0)))),
    Prod.fst (Prod.snd (Prod.snd (Prod.snd (Prod.snd (Prod.snd p0))))),
    Prod.fst (Prod.snd (Prod.snd (Prod.snd (Prod.snd (Prod.snd (Prod.snd p0)))))),
    Prod.fst (Prod.snd (Prod.snd (Prod.snd (Prod.snd (Prod.snd (Prod.snd (Prod.snd p0))))))),
    Prod.fst (Prod.snd (Prod.snd (Prod.snd (Prod.snd (Prod.snd (Prod.snd (Prod.snd (Prod.snd p0)))))))),
    Prod.snd (Prod.snd (Prod.snd (Prod.snd (Prod.snd (Prod.snd (Prod.snd (Prod.snd (Prod.snd p0)))))))))) fun (c6 : Int) => (if (!decide (c6 = 1)) = true then some (false) else (if (!c4) = true then (Option.bind (m13F k
  (Prod.fst p0, Prod.fst (Prod.snd p0), Prod.fst (Prod.snd (Prod.snd p0)), Prod.fst (Prod.snd (Prod.snd (Prod.snd p0))),
    Prod.fst (Prod.snd (Prod.snd (Prod.snd (Prod.snd p0)))),
    Prod.fst (Prod.snd (Prod.snd (Prod.snd (Prod.snd (Prod.snd p0))))),
    Prod.fst (Prod.snd (Prod.snd (Prod.snd (Prod.snd (Prod.snd (Prod.snd p0)))))),
    Prod.fst (Prod.snd (Prod.snd (Prod.snd (Prod.snd (Prod.snd (Prod.snd (Prod.snd p0))))))),
    Prod.fst (Prod.snd (Prod.snd (Prod.snd (Prod.snd (Prod.snd (Prod.snd (Prod.snd (Prod.snd p0)))))))),
    Prod.snd (Prod.snd (Prod.snd (Prod.snd (Prod.snd (Prod.snd (Prod.snd (Prod.snd (Prod.snd p0)))))))))) fun (c7 : Int) => (Option.bind (m18F k
  (Prod.fst p0, Prod.fst (Prod.snd p0), Prod.fst (Prod.snd (Prod.snd p0)), Prod.fst (Prod.snd (Prod.snd (Prod.snd p0))),
    Prod.fst (Prod.snd (Prod.snd (Prod.snd (Prod.snd p0)))),
    Prod.fst (Prod.snd (Prod.snd (Prod.snd (Prod.snd (Prod.snd p0))))),
    Prod.fst (Prod.snd (Prod.snd (Prod.snd (Prod.snd (Prod.snd (Prod.snd p0)))))),
    Prod.fst (Prod.snd (Prod.snd (Prod.snd (Prod.snd (Prod.snd (Prod.snd (Prod.snd p0))))))),
    Prod.fst (Prod.snd (Prod.snd (Prod.snd (Prod.snd (Prod.snd (Prod.snd (Prod.snd (Prod.snd p0)))))))),
    Prod.snd (Prod.snd (Prod.snd (Prod.snd (Prod.snd (Prod.snd (Prod.snd (Prod.snd (Prod.snd p0)))))))))) fun (c8 : Int) => (Option.bind (m19F k
  (Prod.fst p0, Prod.fst (Prod.snd p0), Prod.fst (Prod.snd (Prod.snd p0)), Prod.fst (Prod.snd (Prod.snd (Prod.snd p0))),
    Prod.fst (Prod.snd (Prod.snd (Prod.snd (Prod.snd p0)))),
    Prod.fst (Prod.snd (Prod.snd (Prod.snd (Prod.snd (Prod.snd p0))))),
    Prod.fst (Prod.snd (Prod.snd (Prod.snd (Prod.snd (Prod.snd (Prod.snd p0)))))),
    Prod.fst (Prod.snd (Prod.snd (Prod.snd (Prod.snd (Prod.snd (Prod.snd (Prod.snd p0))))))),
    Prod.fst (Prod.snd (Prod.snd (Prod.snd (Prod.snd (Prod.snd (Prod.snd (Prod.snd (Prod.snd p0)))))))),
    Prod.snd (Prod.snd (Prod.snd (Prod.snd (Prod.snd (Prod.snd (Prod.snd (Prod.snd (Prod.snd p0)))))))))
  p1) fun (c9 : Int) => (Option.bind (m14F k
  (Prod.fst p0, Prod.fst (Prod.snd p0), Prod.fst (Prod.snd (Prod.snd p0)), Prod.fst (Prod.snd (Prod.snd (Prod.snd p0))),
    Prod.fst (Prod.snd (Prod.snd (Prod.snd (Prod.snd p0)))),
    Prod.fst (Prod.snd (Prod.snd (Prod.snd (Prod.snd (Prod.snd p0))))),
    Prod.fst (Prod.snd (Prod.snd (Prod.snd (Prod.snd (Prod.snd (Prod.snd p0)))))),
    Prod.fst (Prod.snd (Prod.snd (Prod.snd (Prod.snd (Prod.snd (Prod.snd (Prod.snd p0))))))),
    Prod.fst (Prod.snd (Prod.snd (Prod.snd (Prod.snd (Prod.snd (Prod.snd (Prod.snd (Prod.snd p0)))))))),
    Prod.snd (Prod.snd (Prod.snd (Prod.snd (Prod.snd (Prod.snd (Prod.snd (Prod.snd (Prod.snd p0)))))))))) fun (c10 : Int) => (Option.bind (m20F k
  (Prod.fst p0, Prod.fst (Prod.snd p0), Prod.fst (Prod.snd (Prod.snd p0)), Prod.fst (Prod.snd (Prod.snd (Prod.snd p0))),
    Prod.fst (Prod.snd (Prod.snd (Prod.snd (Prod.snd p0)))),
    Prod.fst (Prod.snd (Prod.snd (Prod.snd (Prod.snd (Prod.snd p0))))),
    Prod.fst (Prod.snd (Prod.snd (Prod.snd (Prod.snd (Prod.snd (Prod.snd p0)))))),
    Prod.fst (Prod.snd (Prod.snd (Prod.snd (Prod.snd (Prod.snd (Prod.snd (Prod.snd p0))))))),
    Prod.fst (Prod.snd (Prod.snd (Prod.snd (Prod.snd (Prod.snd (Prod.snd (Prod.snd (Prod.snd p0)))))))),
    Prod.snd (Prod.snd (Prod.snd (Prod.snd (Prod.snd (Prod.snd (Prod.snd (Prod.snd (Prod.snd p0)))))))))
  p1) fun (c11 : Int) => (if decide (wr IntKind.i64 (wr IntKind.i64 (wr IntKind.i64 (wr IntKind.i64 (c7 + c8) + c9) + c10) + c11) = 0) = true then (Option.bind (m15F k) fun (c12 : Bool) => some c12) else some (false))))))) else (if decide (p1 ≥ 0) = true then (if decide (p1 ≤ 200) = true then (Option.bind (m21F k
  (Prod.fst p0, Prod.fst (Prod.snd p0), Prod.fst (Prod.snd (Prod.snd p0)), Prod.fst (Prod.snd (Prod.snd (Prod.snd p0))),
    Prod.fst (Prod.snd (Prod.snd (Prod.snd (Prod.snd p0)))),
    Prod.fst (Prod.snd (Prod.snd (Prod.snd (Prod.snd (Prod.snd p0))))),
    Prod.fst (Prod.snd (Prod.snd (Prod.snd (Prod.snd (Prod.snd (Prod.snd p0)))))),
    Prod.fst (Prod.snd (Prod.snd (Prod.snd (Prod.snd (Prod.snd (Prod.snd (Prod.snd p0))))))),
    Prod.fst (Prod.snd (Prod.snd (Prod.snd (Prod.snd (Prod.snd (Prod.snd (Prod.snd (Prod.snd p0)))))))),
    Prod.snd (Prod.snd (Prod.snd (Prod.snd (Prod.snd (Prod.snd (Prod.snd (Prod.snd (Prod.snd p0)))))))))
  p1) fun (c7 : Int) => X18 p1 c7 (0) (Prod.fst p0) (Prod.fst (Prod.snd p0)) (Prod.fst (Prod.snd (Prod.snd p0))) (Prod.fst (Prod.snd (Prod.snd (Prod.snd p0)))) (Prod.fst (Prod.snd (Prod.snd (Prod.snd (Prod.snd p0))))) (Prod.fst (Prod.snd (Prod.snd (Prod.snd (Prod.snd (Prod.snd p0)))))) (Prod.fst (Prod.snd (Prod.snd (Prod.snd (Prod.snd (Prod.snd (Prod.snd p0))))))) (Prod.fst (Prod.snd (Prod.snd (Prod.snd (Prod.snd (Prod.snd (Prod.snd (Prod.snd p0)))))))) (Prod.fst (Prod.snd (Prod.snd (Prod.snd (Prod.snd (Prod.snd (Prod.snd (Prod.snd (Prod.snd p0))))))))) (Prod.snd (Prod.snd (Prod.snd (Prod.snd (Prod.snd (Prod.snd (Prod.snd (Prod.snd (Prod.snd p0)))))))))) else X18 p1 (0) (0) (Prod.fst p0) (Prod.fst (Prod.snd p0)) (Prod.fst (Prod.snd (Prod.snd p0))) (Prod.fst (Prod.snd (Prod.snd (Prod.snd p0)))) (Prod.fst (Prod.snd (Prod.snd (Prod.snd (Prod.snd p0))))) (Prod.fst (Prod.snd (Prod.snd (Prod.snd (Prod.snd (Prod.snd p0)))))) (Prod.fst (Prod.snd (Prod.snd (Prod.snd (Prod.snd (Prod.snd (Prod.snd p0))))))) (Prod.fst (Prod.snd (Prod.snd (Prod.snd (Prod.snd (Prod.snd (Prod.snd (Prod.snd p0)))))))) (Prod.fst (Prod.snd (Prod.snd (Prod.snd (Prod.snd (Prod.snd (Prod.snd (Prod.snd (Prod.snd p0))))))))) (Prod.snd (Prod.snd (Prod.snd (Prod.snd (Prod.snd (Prod.snd (Prod.snd (Prod.snd (Prod.snd p0)))))))))) else X18 p1 (0) (0) (Prod.fst p0) (Prod.fst (Prod.snd p0)) (Prod.fst (Prod.snd (Prod.snd p0))) (Prod.fst (Prod.snd (Prod.snd (Prod.snd p0)))) (Prod.fst (Prod.snd (Prod.snd (Prod.snd (Prod.snd p0))))) (Prod.fst (Prod.snd (Prod.snd (Prod.snd (Prod.snd (Prod.snd p0)))))) (Prod.fst (Prod.snd (Prod.snd (Prod.snd (Prod.snd (Prod.snd (Prod.snd p0))))))) (Prod.fst (Prod.snd (Prod.snd (Prod.snd (Prod.snd (Prod.snd (Prod.snd (Prod.snd p0)))))))) (Prod.fst (Prod.snd (Prod.snd (Prod.snd (Prod.snd (Prod.snd (Prod.snd (Prod.snd (Prod.snd p0))))))))) (Prod.snd (Prod.snd (Prod.snd (Prod.snd (Prod.snd (Prod.snd (Prod.snd (Prod.snd (Prod.snd p0))))))))))))) else (if (!c4) = true then (Option.bind (m13F k
  (Prod.fst p0, Prod.fst (Prod.snd p0), Prod.fst (Prod.snd (Prod.snd p0)), Prod.fst (Prod.snd (Prod.snd (Prod.snd p0))),
    Prod.fst (Prod.snd (Prod.snd (Prod.snd (Prod.snd p0)))),
    Prod.fst (Prod.snd (Prod.snd (Prod.snd (Prod.snd (Prod.snd p0))))),
    Prod.fst (Prod.snd (Prod.snd (Prod.snd (Prod.snd (Prod.snd (Prod.snd p0)))))),
    Prod.fst (Prod.snd (Prod.snd (Prod.snd (Prod.snd (Prod.snd (Prod.snd (Prod.snd p0))))))),
    Prod.fst (Prod.snd (Prod.snd (Prod.snd (Prod.snd (Prod.snd (Prod.snd (Prod.snd (Prod.snd p0)))))))),
    Prod.snd (Prod.snd (Prod.snd (Prod.snd (Prod.snd (Prod.snd (Prod.snd (Prod.snd (Prod.snd p0)))))))))) fun (c6 : Int) => (Option.bind (m18F k
  (Prod.fst p0, Prod.fst (Prod.snd p0), Prod.fst (Prod.snd (Prod.snd p0)), Prod.fst (Prod.snd (Prod.snd (Prod.snd p0))),
    Prod.fst (Prod.snd (Prod.snd (Prod.snd (Prod.snd p0)))),
    Prod.fst (Prod.snd (Prod.snd (Prod.snd (Prod.snd (Prod.snd p0))))),
    Prod.fst (Prod.snd (Prod.snd (Prod.snd (Prod.snd (Prod.snd (Prod.snd p0)))))),
    Prod.fst (Prod.snd (Prod.snd (Prod.snd (Prod.snd (Prod.snd (Prod.snd (Prod.snd p0))))))),
    Prod.fst (Prod.snd (Prod.snd (Prod.snd (Prod.snd (Prod.snd (Prod.snd (Prod.snd (Prod.snd p0)))))))),
    Prod.snd (Prod.snd (Prod.snd (Prod.snd (Prod.snd (Prod.snd (Prod.snd (Prod.snd (Prod.snd p0)))))))))) fun (c7 : Int) => (Option.bind (m19F k
  (Prod.fst p0, Prod.fst (Prod.snd p0), Prod.fst (Prod.snd (Prod.snd p0)), Prod.fst (Prod.snd (Prod.snd (Prod.snd p0))),
    Prod.fst (Prod.snd (Prod.snd (Prod.snd (Prod.snd p0)))),
    Prod.fst (Prod.snd (Prod.snd (Prod.snd (Prod.snd (Prod.snd p0))))),
    Prod.fst (Prod.snd (Prod.snd (Prod.snd (Prod.snd (Prod.snd (Prod.snd p0)))))),
    Prod.fst (Prod.snd (Prod.snd (Prod.snd (Prod.snd (Prod.snd (Prod.snd (Prod.snd p0))))))),
    Prod.fst (Prod.snd (Prod.snd (Prod.snd (Prod.snd (Prod.snd (Prod.snd (Prod.snd (Prod.snd p0)))))))),
    Prod.snd (Prod.snd (Prod.snd (Prod.snd (Prod.snd (Prod.snd (Prod.snd (Prod.snd (Prod.snd p0)))))))))
  p1) fun (c8 : Int) => (Option.bind (m14F k
  (Prod.fst p0, Prod.fst (Prod.snd p0), Prod.fst (Prod.snd (Prod.snd p0)), Prod.fst (Prod.snd (Prod.snd (Prod.snd p0))),
    Prod.fst (Prod.snd (Prod.snd (Prod.snd (Prod.snd p0)))),
    Prod.fst (Prod.snd (Prod.snd (Prod.snd (Prod.snd (Prod.snd p0))))),
    Prod.fst (Prod.snd (Prod.snd (Prod.snd (Prod.snd (Prod.snd (Prod.snd p0)))))),
    Prod.fst (Prod.snd (Prod.snd (Prod.snd (Prod.snd (Prod.snd (Prod.snd (Prod.snd p0))))))),
    Prod.fst (Prod.snd (Prod.snd (Prod.snd (Prod.snd (Prod.snd (Prod.snd (Prod.snd (Prod.snd p0)))))))),
    Prod.snd (Prod.snd (Prod.snd (Prod.snd (Prod.snd (Prod.snd (Prod.snd (Prod.snd (Prod.snd p0)))))))))) fun (c9 : Int) => (Option.bind (m20F k
  (Prod.fst p0, Prod.fst (Prod.snd p0), Prod.fst (Prod.snd (Prod.snd p0)), Prod.fst (Prod.snd (Prod.snd (Prod.snd p0))),
    Prod.fst (Prod.snd (Prod.snd (Prod.snd (Prod.snd p0)))),
    Prod.fst (Prod.snd (Prod.snd (Prod.snd (Prod.snd (Prod.snd p0))))),
    Prod.fst (Prod.snd (Prod.snd (Prod.snd (Prod.snd (Prod.snd (Prod.snd p0)))))),
    Prod.fst (Prod.snd (Prod.snd (Prod.snd (Prod.snd (Prod.snd (Prod.snd (Prod.snd p0))))))),
    Prod.fst (Prod.snd (Prod.snd (Prod.snd (Prod.snd (Prod.snd (Prod.snd (Prod.snd (Prod.snd p0)))))))),
    Prod.snd (Prod.snd (Prod.snd (Prod.snd (Prod.snd (Prod.snd (Prod.snd (Prod.snd (Prod.snd p0)))))))))
  p1) fun (c10 : Int) => (if decide (wr IntKind.i64 (wr IntKind.i64 (wr IntKind.i64 (wr IntKind.i64 (c6 + c7) + c8) + c9) + c10) = 0) = true then (Option.bind (m15F k) fun (c11 : Bool) => some c11) else some (false))))))) else (if decide (p1 ≥ 0) = true then (if decide (p1 ≤ 200) = true then (Option.bind (m21F k
  (Prod.fst p0, Prod.fst (Prod.snd p0), Prod.fst (Prod.snd (Prod.snd p0)), Prod.fst (Prod.snd (Prod.snd (Prod.snd p0))),
    Prod.fst (Prod.snd (Prod.snd (Prod.snd (Prod.snd p0)))),
    Prod.fst (Prod.snd (Prod.snd (Prod.snd (Prod.snd (Prod.snd p0))))),
    Prod.fst (Prod.snd (Prod.snd (Prod.snd (Prod.snd (Prod.snd (Prod.snd p0)))))),
    Prod.fst (Prod.snd (Prod.snd (Prod.snd (Prod.snd (Prod.snd (Prod.snd (Prod.snd p0))))))),
    Prod.fst (Prod.snd (Prod.snd (Prod.snd (Prod.snd (Prod.snd (Prod.snd (Prod.snd (Prod.snd p0)))))))),
    Prod.snd (Prod.snd (Prod.snd (Prod.snd (Prod.snd (Prod.snd (Prod.snd (Prod.snd (Prod.snd p0)))))))))
  p1) fun (c6 : Int) => X18 p1 c6 (0) (Prod.fst p0) (Prod.fst (Prod.snd p0)) (Prod.fst (Prod.snd (Prod.snd p0))) (Prod.fst (Prod.snd (Prod.snd (Prod.snd p0)))) (Prod.fst (Prod.snd (Prod.snd (Prod.snd (Prod.snd p0))))) (Prod.fst (Prod.snd (Prod.snd (Prod.snd (Prod.snd (Prod.snd p0)))))) (Prod.fst (Prod.snd (Prod.snd (Prod.snd (Prod.snd (Prod.snd (Prod.snd p0))))))) (Prod.fst (Prod.snd (Prod.snd (Prod.snd (Prod.snd (Prod.snd (Prod.snd (Prod.snd p0)))))))) (Prod.fst (Prod.snd (Prod.snd (Prod.snd (Prod.snd (Prod.snd (Prod.snd (Prod.snd (Prod.snd p0))))))))) (Prod.snd (Prod.snd (Prod.snd (Prod.snd (Prod.snd (Prod.snd (Prod.snd (Prod.snd (Prod.snd p0)))))))))) else X18 p1 (0) (0) (Prod.fst p0) (Prod.fst (Prod.snd p0)) (Prod.fst (Prod.snd (Prod.snd p0))) (Prod.fst (Prod.snd (Prod.snd (Prod.snd p0)))) (Prod.fst (Prod.snd (Prod.snd (Prod.snd (Prod.snd p0))))) (Prod.fst (Prod.snd (Prod.snd (Prod.snd (Prod.snd (Prod.snd p0)))))) (Prod.fst (Prod.snd (Prod.snd (Prod.snd (Prod.snd (Prod.snd (Prod.snd p0))))))) (Prod.fst (Prod.snd (Prod.snd (Prod.snd (Prod.snd (Prod.snd (Prod.snd (Prod.snd p0)))))))) (Prod.fst (Prod.snd (Prod.snd (Prod.snd (Prod.snd (Prod.snd (Prod.snd (Prod.snd (Prod.snd p0))))))))) (Prod.snd (Prod.snd (Prod.snd (Prod.snd (Prod.snd (Prod.snd (Prod.snd (Prod.snd (Prod.snd p0)))))))))) else X18 p1 (0) (0) (Prod.fst p0) (Prod.fst (Prod.snd p0)) (Prod.fst (Prod.snd (Prod.snd p0))) (Prod.fst (Prod.snd (Prod.snd (Prod.snd p0)))) (Prod.fst (Prod.snd (Prod.snd (Prod.snd (Prod.snd p0))))) (Prod.fst (Prod.snd (Prod.snd (Prod.snd (Prod.snd (Prod.snd p0)))))) (Prod.fst (Prod.snd (Prod.snd (Prod.snd (Prod.snd (Prod.snd (Prod.snd p0))))))) (Prod.fst (Prod.snd (Prod.snd (Prod.snd (Prod.snd (Prod.snd (Prod.snd (Prod.snd p0)))))))) (Prod.fst (Prod.snd (Prod.snd (Prod.snd (Prod.snd (Prod.snd (Prod.snd (Prod.snd (Prod.snd p0))))))))) (Prod.snd (Prod.snd (Prod.snd (Prod.snd (Prod.snd (Prod.snd (Prod.snd (Prod.snd (Prod.snd p0)))))))))))))))

theorem m5x (M : Cut Bool) (k : Nat) (p0 : (Int × (Int × (Int × (Int × (Int × (Int × (Int × (Int × (Int × Int)))))))))) (p1 : Int) : evC (m5E k) M (m5I k) 0 m5A (m5c []) (stAt Try.f5 (argSs [.st (.pair (.int .i64) (.pair (.int .i64) (.pair (.int .i64) (.pair (.int .i64) (.pair (.int .i64) (.pair (.int .i64) (.pair (.int .i64) (.pair (.int .i64) (.pair (.int .i64) (.int .i64)))))))))), .leaf (.val (.int .i64))] (p0, p1)) (fun _ => none) 0) (retK Try.f5 [.leaf (.val .bool)]) = m5X (fun t1' t6' t7' b0_0' b0_1' b0_2' b0_3' b0_4' b0_5' b0_6' b0_7' b0_8' b0_9' => M 18 (fun s => evC (m5E k) M (m5I k) 0 m5A (m5c [true, true, true, true, true, true]) s (retK Try.f5 [.leaf (.val .bool)])) (m5S18 t1' t6' t7' b0_0' b0_1' b0_2' b0_3' b0_4' b0_5' b0_6' b0_7' b0_8' b0_9')) k p0 p1 := by kernel_rfl

noncomputable def m5X18 (X22 : Int → Int → Int → Int → Int → Int → Int → Int → Int → Int → Int → Int → Int → Option Bool) (k : Nat) (t1 : Int) (t6 : Int) (t7 : Int) (b0_0 : Int) (b0_1 : Int) (b0_2 : Int) (b0_3 : Int) (b0_4 : Int) (b0_5 : Int) (b0_6 : Int) (b0_7 : Int) (b0_8 : Int) (b0_9 : Int) : Option Bool := (if decide (t1 ≥ 0) = true then (if decide (t1 ≤ 2000) = true then (Option.bind (m22F k (b0_0, b0_1, b0_2, b0_3, b0_4, b0_5, b0_6, b0_7, b0_8, b0_9) t1) fun (c15 : Int) => X22 t1 t6 c15 b0_0 b0_1 b0_2 b0_3 b0_4 b0_5 b0_6 b0_7 b0_8 b0_9) else X22 t1 t6 t7 b0_0 b0_1 b0_2 b0_3 b0_4 b0_5 b0_6 b0_7 b0_8 b0_9) else X22 t1 t6 t7 b0_0 b0_1 b0_2 b0_3 b0_4 b0_5 b0_6 b0_7 b0_8 b0_9)

theorem m5x18 (M : Cut Bool) (k : Nat) (t1 : Int) (t6 : Int) (t7 : Int) (b0_0 : Int) (b0_1 : Int) (b0_2 : Int) (b0_3 : Int) (b0_4 : Int) (b0_5 : Int) (b0_6 : Int) (b0_7 : Int) (b0_8 : Int) (b0_9 : Int) : evC (m5E k) M (m5I k) 0 m5A (m5c [true, true, true, true, true, true]) (m5S18 t1 t6 t7 b0_0 b0_1 b0_2 b0_3 b0_4 b0_5 b0_6 b0_7 b0_8 b0_9) (retK Try.f5 [.leaf (.val .bool)]) = m5X18 (fun t1' t6' t7' b0_0' b0_1' b0_2' b0_3' b0_4' b0_5' b0_6' b0_7' b0_8' b0_9' => M 22 (fun s => evC (m5E k) M (m5I k) 0 m5A (m5c [true, true, true, true, true, true, true]) s (retK Try.f5 [.leaf (.val .bool)])) (m5S22 t1' t6' t7' b0_0' b0_1' b0_2' b0_3' b0_4' b0_5' b0_6' b0_7' b0_8' b0_9')) k t1 t6 t7 b0_0 b0_1 b0_2 b0_3 b0_4 b0_5 b0_6 b0_7 b0_8 b0_9 := by kernel_rfl

noncomputable def m5X22 (k : Nat) (t1 : Int) (t6 : Int) (t7 : Int) (b0_0 : Int) (b0_1 : Int) (b0_2 : Int) (b0_3 : Int) (b0_4 : Int) (b0_5 : Int) (b0_6 : Int) (b0_7 : Int) (b0_8 : Int) (b0_9 : Int) : Option Bool := (Option.bind (m13F k (b0_0, b0_1, b0_2, b0_3, b0_4, b0_5, b0_6, b0_7, b0_8, b0_9)) fun (c15 : Int) => (Option.bind (m23F k (b0_0, b0_1, b0_2, b0_3, b0_4, b0_5, b0_6, b0_7, b0_8, b0_9)) fun (c16 : Int) => (if decide (c15 = c16) = true then (Option.bind (m18F k (b0_0, b0_1, b0_2, b0_3, b0_4, b0_5, b0_6, b0_7, b0_8, b0_9)) fun (c17 : Int) => (Option.bind (m24F k (b0_0, b0_1, b0_2, b0_3, b0_4, b0_5, b0_6, b0_7, b0_8, b0_9)) fun (c18 : Int) => (if decide (c17 = c18) = true then (Option.bind (m19F k (b0_0, b0_1, b0_2, b0_3, b0_4, b0_5, b0_6, b0_7, b0_8, b0_9) t1) fun (c19 : Int) => (if decide (c19 = t6) = true then (Option.bind (m14F k (b0_0, b0_1, b0_2, b0_3, b0_4, b0_5, b0_6, b0_7, b0_8, b0_9)) fun (c20 : Int) => (Option.bind (m25F k (b0_0, b0_1, b0_2, b0_3, b0_4, b0_5, b0_6, b0_7, b0_8, b0_9)) fun (c21 : Int) => (if decide (c20 = c21) = true then (Option.bind (m20F k (b0_0, b0_1, b0_2, b0_3, b0_4, b0_5, b0_6, b0_7, b0_8, b0_9) t1) fun (c22 : Int) => (if decide (c22 = t7) = true then (Option.bind (m15F k) fun (c23 : Bool) => some c23) else some (false))) else some (false)))) else some (false))) else some (false)))) else some (false))))

theorem m5x22 (M : Cut Bool) (k : Nat) (t1 : Int) (t6 : Int) (t7 : Int) (b0_0 : Int) (b0_1 : Int) (b0_2 : Int) (b0_3 : Int) (b0_4 : Int) (b0_5 : Int) (b0_6 : Int) (b0_7 : Int) (b0_8 : Int) (b0_9 : Int) : evC (m5E k) M (m5I k) 0 m5A (m5c [true, true, true, true, true, true, true]) (m5S22 t1 t6 t7 b0_0 b0_1 b0_2 b0_3 b0_4 b0_5 b0_6 b0_7 b0_8 b0_9) (retK Try.f5 [.leaf (.val .bool)]) = m5X22 k t1 t6 t7 b0_0 b0_1 b0_2 b0_3 b0_4 b0_5 b0_6 b0_7 b0_8 b0_9 := by kernel_rfl

noncomputable def m5F22 (k : Nat) (t1 : Int) (t6 : Int) (t7 : Int) (b0_0 : Int) (b0_1 : Int) (b0_2 : Int) (b0_3 : Int) (b0_4 : Int) (b0_5 : Int) (b0_6 : Int) (b0_7 : Int) (b0_8 : Int) (b0_9 : Int) : Option Bool := m5X22 k t1 t6 t7 b0_0 b0_1 b0_2 b0_3 b0_4 b0_5 b0_6 b0_7 b0_8 b0_9

theorem m5q22 (k : Nat) (t1 : Int) (t6 : Int) (t7 : Int) (b0_0 : Int) (b0_1 : Int) (b0_2 : Int) (b0_3 : Int) (b0_4 : Int) (b0_5 : Int) (b0_6 : Int) (b0_7 : Int) (b0_8 : Int) (b0_9 : Int) : evC (m5E k) (fun _ f => f) (m5I k) 0 m5A (m5c [true, true, true, true, true, true, true]) (m5S22 t1 t6 t7 b0_0 b0_1 b0_2 b0_3 b0_4 b0_5 b0_6 b0_7 b0_8 b0_9) (retK Try.f5 [.leaf (.val .bool)]) = m5F22 k t1 t6 t7 b0_0 b0_1 b0_2 b0_3 b0_4 b0_5 b0_6 b0_7 b0_8 b0_9 := by
    show _ = m5X22 k t1 t6 t7 b0_0 b0_1 b0_2 b0_3 b0_4 b0_5 b0_6 b0_7 b0_8 b0_9
    exact m5x22 (fun _ f => f) k t1 t6 t7 b0_0 b0_1 b0_2 b0_3 b0_4 b0_5 b0_6 b0_7 b0_8 b0_9

noncomputable def m5F18 (k : Nat) (t1 : Int) (t6 : Int) (t7 : Int) (b0_0 : Int) (b0_1 : Int) (b0_2 : Int) (b0_3 : Int) (b0_4 : Int) (b0_5 : Int) (b0_6 : Int) (b0_7 : Int) (b0_8 : Int) (b0_9 : Int) : Option Bool := m5X18 (m5F22 k) k t1 t6 t7 b0_0 b0_1 b0_2 b0_3 b0_4 b0_5 b0_6 b0_7 b0_8 b0_9

theorem m5q18 (k : Nat) (t1 : Int) (t6 : Int) (t7 : Int) (b0_0 : Int) (b0_1 : Int) (b0_2 : Int) (b0_3 : Int) (b0_4 : Int) (b0_5 : Int) (b0_6 : Int) (b0_7 : Int) (b0_8 : Int) (b0_9 : Int) : evC (m5E k) (fun _ f => f) (m5I k) 0 m5A (m5c [true, true, true, true, true, true]) (m5S18 t1 t6 t7 b0_0 b0_1 b0_2 b0_3 b0_4 b0_5 b0_6 b0_7 b0_8 b0_9) (retK Try.f5 [.leaf (.val .bool)]) = m5F18 k t1 t6 t7 b0_0 b0_1 b0_2 b0_3 b0_4 b0_5 b0_6 b0_7 b0_8 b0_9 := by
    have e22 : m5F22 k = (fun t1' t6' t7' b0_0' b0_1' b0_2' b0_3' b0_4' b0_5' b0_6' b0_7' b0_8' b0_9' => evC (m5E k) (fun _ f => f) (m5I k) 0 m5A (m5c [true, true, true, true, true, true, true]) (m5S22 t1' t6' t7' b0_0' b0_1' b0_2' b0_3' b0_4' b0_5' b0_6' b0_7' b0_8' b0_9') (retK Try.f5 [.leaf (.val .bool)])) := funext fun t1' => funext fun t6' => funext fun t7' => funext fun b0_0' => funext fun b0_1' => funext fun b0_2' => funext fun b0_3' => funext fun b0_4' => funext fun b0_5' => funext fun b0_6' => funext fun b0_7' => funext fun b0_8' => funext fun b0_9' => (m5q22 k t1' t6' t7' b0_0' b0_1' b0_2' b0_3' b0_4' b0_5' b0_6' b0_7' b0_8' b0_9').symm
    show _ = m5X18 (m5F22 k) k t1 t6 t7 b0_0 b0_1 b0_2 b0_3 b0_4 b0_5 b0_6 b0_7 b0_8 b0_9
    rw [e22]
    exact m5x18 (fun _ f => f) k t1 t6 t7 b0_0 b0_1 b0_2 b0_3 b0_4 b0_5 b0_6 b0_7 b0_8 b0_9

noncomputable def m5F (k : Nat) (p0 : (Int × (Int × (Int × (Int × (Int × (Int × (Int × (Int × (Int × Int)))))))))) (p1 : Int) : Option Bool := m5X (m5F18 k) k p0 p1

theorem m5q (k : Nat) (p0 : (Int × (Int × (Int × (Int × (Int × (Int × (Int × (Int × (Int × Int)))))))))) (p1 : Int) : evC (m5E k) (fun _ f => f) (m5I k) 0 m5A (m5c []) (stAt Try.f5 (argSs [.st (.pair (.int .i64) (.pair (.int .i64) (.pair (.int .i64) (.pair (.int .i64) (.pair (.int .i64) (.pair (.int .i64) (.pair (.int .i64) (.pair (.int .i64) (.pair (.int .i64) (.int .i64)))))))))), .leaf (.val (.int .i64))] (p0, p1)) (fun _ => none) 0) (retK Try.f5 [.leaf (.val .bool)]) = m5F k p0 p1 := by
    have e18 : m5F18 k = (fun t1' t6' t7' b0_0' b0_1' b0_2' b0_3' b0_4' b0_5' b0_6' b0_7' b0_8' b0_9' => evC (m5E k) (fun _ f => f) (m5I k) 0 m5A (m5c [true, true, true, true, true, true]) (m5S18 t1' t6' t7' b0_0' b0_1' b0_2' b0_3' b0_4' b0_5' b0_6' b0_7' b0_8' b0_9') (retK Try.f5 [.leaf (.val .bool)])) := funext fun t1' => funext fun t6' => funext fun t7' => funext fun b0_0' => funext fun b0_1' => funext fun b0_2' => funext fun b0_3' => funext fun b0_4' => funext fun b0_5' => funext fun b0_6' => funext fun b0_7' => funext fun b0_8' => funext fun b0_9' => (m5q18 k t1' t6' t7' b0_0' b0_1' b0_2' b0_3' b0_4' b0_5' b0_6' b0_7' b0_8' b0_9').symm
    show _ = m5X (m5F18 k) k p0 p1
    rw [e18]
    exact m5x (fun _ f => f) k p0 p1

noncomputable def m5sp : Spec := { ps := [.st (.pair (.int .i64) (.pair (.int .i64) (.pair (.int .i64) (.pair (.int .i64) (.pair (.int .i64) (.pair (.int .i64) (.pair (.int .i64) (.pair (.int .i64) (.pair (.int .i64) (.int .i64)))))))))), .leaf (.val (.int .i64))], rs := [.leaf (.val .bool)], f := fun k a => m5F k a.1 a.2 }

theorem m5ok (k : Nat) : EnvOk (m5E k) := envOk_of (l := [(11, m11sp), (12, m12sp), (13, m13sp), (14, m14sp), (15, m15sp), (18, m18sp), (19, m19sp), (20, m20sp), (21, m21sp), (22, m22sp), (23, m23sp), (24, m24sp), (25, m25sp)]) progNames progMixed rfl (.cons ⟨m11con k, Try.f11, by kernel_rfl, by kernel_rfl⟩ (.cons ⟨m12con k, Try.f12, by kernel_rfl, by kernel_rfl⟩ (.cons ⟨m13con k, Try.f13, by kernel_rfl, by kernel_rfl⟩ (.cons ⟨m14con k, Try.f14, by kernel_rfl, by kernel_rfl⟩ (.cons ⟨m15con k, Try.f15, by kernel_rfl, by kernel_rfl⟩ (.cons ⟨m18con k, Try.f18, by kernel_rfl, by kernel_rfl⟩ (.cons ⟨m19con k, Try.f19, by kernel_rfl, by kernel_rfl⟩ (.cons ⟨m20con k, Try.f20, by kernel_rfl, by kernel_rfl⟩ (.cons ⟨m21con k, Try.f21, by kernel_rfl, by kernel_rfl⟩ (.cons ⟨m22con k, Try.f22, by kernel_rfl, by kernel_rfl⟩ (.cons ⟨m23con k, Try.f23, by kernel_rfl, by kernel_rfl⟩ (.cons ⟨m24con k, Try.f24, by kernel_rfl, by kernel_rfl⟩ (.cons ⟨m25con k, Try.f25, by kernel_rfl, by kernel_rfl⟩ (.nil))))))))))))))

theorem m5con (k : Nat) : Contract Try.prog k 5 m5sp := contract_of (E := m5E k) (m5ok k) (A := only 5 m5A) (d := 3) (c := m5c []) (by kernel_rfl) (by kernel_rfl) fun a _ h => (m5q k a.1 a.2).trans h

noncomputable def m6A : Anns := tabA []
noncomputable def m6E (k : Nat) : Env := { P := Try.prog, k := k, G := tabG [(11, m11sp), (13, m13sp), (14, m14sp), (15, m15sp), (18, m18sp), (19, m19sp), (20, m20sp)] }
noncomputable def m6c (p : List Bool) : Code := sub p (bodyOf Try.f6)
noncomputable def m6I (k : Nat) : Inl Bool := inlOf (m6E k) (only 6 m6A) 3
noncomputable def m6K0 (M : Cut Bool) (k : Nat) : Exit → St → Option Bool := seqK (normAt 0 m6A false (m6c [true])) (cutK M m6A (m6c [true]) fun s => evC (m6E k) M (m6I k) 0 m6A (m6c [true]) s (retK Try.f6 [.leaf (.val .bool)])) (retK Try.f6 [.leaf (.val .bool)])
noncomputable def m6K1 (M : Cut Bool) (k : Nat) : Exit → St → Option Bool := seqK (normAt 0 m6A false (m6c [true, true])) (cutK M m6A (m6c [true, true]) fun s => evC (m6E k) M (m6I k) 0 m6A (m6c [true, true]) s (retK Try.f6 [.leaf (.val .bool)])) (retK Try.f6 [.leaf (.val .bool)])
noncomputable def m6K2 (M : Cut Bool) (k : Nat) : Exit → St → Option Bool := seqK (normAt 0 m6A false (m6c [true, false, true])) (cutK M m6A (m6c [true, false, true]) fun s => evC (m6E k) M (m6I k) 0 m6A (m6c [true, false, true]) s (m6K1 M k)) (m6K1 M k)
noncomputable def m6K3 (M : Cut Bool) (k : Nat) : Exit → St → Option Bool := seqK (normAt 0 m6A false (m6c [true, false, true, false, true])) (cutK M m6A (m6c [true, false, true, false, true]) fun s => evC (m6E k) M (m6I k) 0 m6A (m6c [true, false, true, false, true]) s (m6K1 M k)) (m6K1 M k)
noncomputable def m6K4 (M : Cut Bool) (k : Nat) : Exit → St → Option Bool := seqK (normAt 0 m6A false (m6c [true, true, true])) (cutK M m6A (m6c [true, true, true]) fun s => evC (m6E k) M (m6I k) 0 m6A (m6c [true, true, true]) s (retK Try.f6 [.leaf (.val .bool)])) (retK Try.f6 [.leaf (.val .bool)])
noncomputable def m6K5 (M : Cut Bool) (k : Nat) : Exit → St → Option Bool := seqK (normAt 0 m6A false (m6c [true, true, true, true])) (cutK M m6A (m6c [true, true, true, true]) fun s => evC (m6E k) M (m6I k) 0 m6A (m6c [true, true, true, true]) s (retK Try.f6 [.leaf (.val .bool)])) (retK Try.f6 [.leaf (.val .bool)])
noncomputable def m6K6 (M : Cut Bool) (k : Nat) : Exit → St → Option Bool := seqK (normAt 0 m6A false (m6c [true, true, true, true, true])) (cutK M m6A (m6c [true, true, true, true, true]) fun s => evC (m6E k) M (m6I k) 0 m6A (m6c [true, true, true, true, true]) s (retK Try.f6 [.leaf (.val .bool)])) (retK Try.f6 [.leaf (.val .bool)])
noncomputable def m6K7 (M : Cut Bool) (k : Nat) : Exit → St → Option Bool := seqK (normAt 0 m6A false (m6c [true, true, true, true, false, true])) (cutK M m6A (m6c [true, true, true, true, false, true]) fun s => evC (m6E k) M (m6I k) 0 m6A (m6c [true, true, true, true, false, true]) s (m6K6 M k)) (m6K6 M k)
noncomputable def m6K8 (M : Cut Bool) (k : Nat) : Exit → St → Option Bool := seqK (normAt 0 m6A false (m6c [true, true, true, true, false, true, false, true])) (cutK M m6A (m6c [true, true, true, true, false, true, false, true]) fun s => evC (m6E k) M (m6I k) 0 m6A (m6c [true, true, true, true, false, true, false, true]) s (m6K6 M k)) (m6K6 M k)
noncomputable def m6K9 (M : Cut Bool) (k : Nat) : Exit → St → Option Bool := seqK (normAt 0 m6A false (m6c [true, true, true, true, true, true])) (cutK M m6A (m6c [true, true, true, true, true, true]) fun s => evC (m6E k) M (m6I k) 0 m6A (m6c [true, true, true, true, true, true]) s (retK Try.f6 [.leaf (.val .bool)])) (retK Try.f6 [.leaf (.val .bool)])

noncomputable def m6X (k : Nat) (p0 : (Int × (Int × (Int × (Int × (Int × (Int × (Int × (Int × (Int × Int)))))))))) (p1 : Int) (p2 : Int) : Option Bool := (Option.bind (m11F k
  (Prod.fst p0, Prod.fst (Prod.snd p0), Prod.fst (Prod.snd (Prod.snd p0)), Prod.fst (Prod.snd (Prod.snd (Prod.snd p0))),
    Prod.fst (Prod.snd (Prod.snd (Prod.snd (Prod.snd p0)))),
    Prod.fst (Prod.snd (Prod.snd (Prod.snd (Prod.snd (Prod.snd p0))))),
    Prod.fst (Prod.snd (Prod.snd (Prod.snd (Prod.snd (Prod.snd (Prod.snd p0)))))),
    Prod.fst (Prod.snd (Prod.snd (Prod.snd (Prod.snd (Prod.snd (Prod.snd (Prod.snd p0))))))),
    Prod.fst (Prod.snd (Prod.snd (Prod.snd (Prod.snd (Prod.snd (Prod.snd (Prod.snd (Prod.snd p0)))))))),
    Prod.snd (Prod.snd (Prod.snd (Prod.snd (Prod.snd (Prod.snd (Prod.snd (Prod.snd (Prod.snd p0)))))))))) fun (c5 : Bool) => (if (!c5) = true then some (true) else (Option.bind (m19F k
  (Prod.fst p0, Prod.fst (Prod.snd p0), Prod.fst (Prod.snd (Prod.snd p0)), Prod.fst (Prod.snd (Prod.snd (Prod.snd p0))),
    Prod.fst (Prod.snd (Prod.snd (Prod.snd (Prod.snd p0)))),
    Prod.fst (Prod.snd (Prod.snd (Prod.snd (Prod.snd (Prod.snd p0))))),
    Prod.fst (Prod.snd (Prod.snd (Prod.snd (Prod.snd (Prod.snd (Prod.snd p0)))))),
    Prod.fst (Prod.snd (Prod.snd (Prod.snd (Prod.snd (Prod.snd (Prod.snd (Prod.snd p0))))))),
    Prod.fst (Prod.snd (Prod.snd (Prod.snd (Prod.snd (Prod.snd (Prod.snd (Prod.snd (Prod.snd p0)))))))),
    Prod.snd (Prod.snd (Prod.snd (Prod.snd (Prod.snd (Prod.snd (Prod.snd (Prod.snd (Prod.snd p0)))))))))
  (wr IntKind.i64 (Int.tmod (wr IntKind.u64 p1) 201))) fun (c6 : Int) => (Option.bind (m14F k
  (Prod.fst p0, Prod.fst (Prod.snd p0), Prod.fst (Prod.snd (Prod.snd p0)), Prod.fst (Prod.snd (Prod.snd (Prod.snd p0))),
    Prod.fst (Prod.snd (Prod.snd (Prod.snd (Prod.snd p0)))),
    Prod.fst (Prod.snd (Prod.snd (Prod.snd (Prod.snd (Prod.snd p0))))),
    Prod.fst (Prod.snd (Prod.snd (Prod.snd (Prod.snd (Prod.snd (Prod.snd p0)))))),
    Prod.fst (Prod.snd (Prod.snd (Prod.snd (Prod.snd (Prod.snd (Prod.snd (Prod.snd p0))))))),
    Prod.fst (Prod.snd (Prod.snd (Prod.snd (Prod.snd (Prod.snd (Prod.snd (Prod.snd (Prod.snd p0)))))))),
    Prod.snd (Prod.snd (Prod.snd (Prod.snd (Prod.snd (Prod.snd (Prod.snd (Prod.snd (Prod.snd p0)))))))))) fun (c7 : Int) => (if decide (c6 < 1) = true then some (false) else (if decide (wr IntKind.i64 (c6 * Prod.fst p0) < wr IntKind.i64 (Int.tmod (wr IntKind.u64 p1) 201)) = true then some (false) else (if decide (c6 > 1) = true then (if decide (wr IntKind.i64 (wr IntKind.i64 (c6 - 1) * Prod.fst p0) ≥ wr IntKind.i64 (Int.tmod (wr IntKind.u64 p1) 201)) =
  true then some (false) else (Option.bind (m13F k
  (Prod.fst p0, Prod.fst (Prod.snd p0), Prod.fst (Prod.snd (Prod.snd p0)), Prod.fst (Prod.snd (Prod.snd (Prod.snd p0))),
    Prod.fst (Prod.snd (Prod.snd (Prod.snd (Prod.snd p0)))),
    Prod.fst (Prod.snd (Prod.snd (Prod.snd (Prod.snd (Prod.snd p0))))),
    Prod.fst (Prod.snd (Prod.snd (Prod.snd (Prod.snd (Prod.snd (Prod.snd p0)))))),
    Prod.fst (Prod.snd (Prod.snd (Prod.snd (Prod.snd (Prod.snd (Prod.snd (Prod.snd p0))))))),
    Prod.fst (Prod.snd (Prod.snd (Prod.snd (Prod.snd (Prod.snd (Prod.snd (Prod.snd (Prod.snd p0)))))))),
    Prod.snd (Prod.snd (Prod.snd (Prod.snd (Prod.snd (Prod.snd (Prod.snd (Prod.snd (Prod.snd p0)))))))))) fun (c8 : Int) => (if (!decide (c8 = wr IntKind.i64 (2 * wr IntKind.i64 (Prod.fst p0 + 10)))) = true then some (false) else (Option.bind (m18F k
  (Prod.fst p0, Prod.fst (Prod.snd p0), Prod.fst (Prod.snd (Prod.snd p0)), Prod.fst (Prod.snd (Prod.snd (Prod.snd p0))),
    Prod.fst (Prod.snd (Prod.snd (Prod.snd (Prod.snd p0)))),
    Prod.fst (Prod.snd (Prod.snd (Prod.snd (Prod.snd (Prod.snd p0))))),
    Prod.fst (Prod.snd (Prod.snd (Prod.snd (Prod.snd (Prod.snd (Prod.snd p0)))))),
    Prod.fst (Prod.snd (Prod.snd (Prod.snd (Prod.snd (Prod.snd (Prod.snd (Prod.snd p0))))))),
    Prod.fst (Prod.snd (Prod.snd (Prod.snd (Prod.snd (Prod.snd (Prod.snd (Prod.snd (Prod.snd p0)))))))),
    Prod.snd (Prod.snd (Prod.snd (Prod.snd (Prod.snd (Prod.snd (Prod.snd (Prod.snd (Prod.snd p0)))))))))) fun (c9 : Int) => (Option.bind (m13F k
  (Prod.fst p0, Prod.fst (Prod.snd p0), Prod.fst (Prod.snd (Prod.snd p0)), Prod.fst (Prod.snd (Prod.snd (Prod.snd p0))),
    Prod.fst (Prod.snd (Prod.snd (Prod.snd (Prod.snd p0)))),
    Prod.fst (Prod.snd (Prod.snd (Prod.snd (Prod.snd (Prod.snd p0))))),
    Prod.fst (Prod.snd (Prod.snd (Prod.snd (Prod.snd (Prod.snd (Prod.snd p0)))))),
    Prod.fst (Prod.snd (Prod.snd (Prod.snd (Prod.snd (Prod.snd (Prod.snd (Prod.snd p0))))))),
    Prod.fst (Prod.snd (Prod.snd (Prod.snd (Prod.snd (Prod.snd (Prod.snd (Prod.snd (Prod.snd p0)))))))),
    Prod.snd (Prod.snd (Prod.snd (Prod.snd (Prod.snd (Prod.snd (Prod.snd (Prod.snd (Prod.snd p0)))))))))) fun (c10 : Int) => (if (!decide
      (c9 =
        wr IntKind.i64
          (c10 * Prod.fst (Prod.snd (Prod.snd (Prod.snd (Prod.snd (Prod.snd (Prod.snd (Prod.snd p0)))))))))) =
  true then some (false) else (if decide (c7 ≥ 1) = true then (Option.bind (m18F k
  (Prod.fst p0, Prod.fst (Prod.snd p0), Prod.fst (Prod.snd (Prod.snd p0)), Prod.fst (Prod.snd (Prod.snd (Prod.snd p0))),
    Prod.fst (Prod.snd (Prod.snd (Prod.snd (Prod.snd p0)))),
    Prod.fst (Prod.snd (Prod.snd (Prod.snd (Prod.snd (Prod.snd p0))))),
    Prod.fst (Prod.snd (Prod.snd (Prod.snd (Prod.snd (Prod.snd (Prod.snd p0)))))),
    Prod.fst (Prod.snd (Prod.snd (Prod.snd (Prod.snd (Prod.snd (Prod.snd (Prod.snd p0))))))),
    Prod.fst (Prod.snd (Prod.snd (Prod.snd (Prod.snd (Prod.snd (Prod.snd (Prod.snd (Prod.snd p0)))))))),
    Prod.snd (Prod.snd (Prod.snd (Prod.snd (Prod.snd (Prod.snd (Prod.snd (Prod.snd (Prod.snd p0)))))))))) fun (c11 : Int) => (if decide (wr IntKind.i64 (c7 * Prod.fst (Prod.snd (Prod.snd (Prod.snd (Prod.snd (Prod.snd (Prod.snd p0))))))) ≥ c11) =
  true then (Option.bind (m18F k
  (Prod.fst p0, Prod.fst (Prod.snd p0), Prod.fst (Prod.snd (Prod.snd p0)), Prod.fst (Prod.snd (Prod.snd (Prod.snd p0))),
    Prod.fst (Prod.snd (Prod.snd (Prod.snd (Prod.snd p0)))),
    Prod.fst (Prod.snd (Prod.snd (Prod.snd (Prod.snd (Prod.snd p0))))),
    Prod.fst (Prod.snd (Prod.snd (Prod.snd (Prod.snd (Prod.snd (Prod.snd p0)))))),
    Prod.fst (Prod.snd (Prod.snd (Prod.snd (Prod.snd (Prod.snd (Prod.snd (Prod.snd p0))))))),
    Prod.fst (Prod.snd (Prod.snd (Prod.snd (Prod.snd (Prod.snd (Prod.snd (Prod.snd (Prod.snd p0)))))))),
    Prod.snd (Prod.snd (Prod.snd (Prod.snd (Prod.snd (Prod.snd (Prod.snd (Prod.snd (Prod.snd p0)))))))))) fun (c12 : Int) => (if decide
    (wr IntKind.i64
        (wr IntKind.i64 (c7 - 1) * Prod.fst (Prod.snd (Prod.snd (Prod.snd (Prod.snd (Prod.snd (Prod.snd p0))))))) <
      c12) =
  true then (Option.bind (m20F k
  (Prod.fst p0, Prod.fst (Prod.snd p0), Prod.fst (Prod.snd (Prod.snd p0)), Prod.fst (Prod.snd (Prod.snd (Prod.snd p0))),
    Prod.fst (Prod.snd (Prod.snd (Prod.snd (Prod.snd p0)))),
    Prod.fst (Prod.snd (Prod.snd (Prod.snd (Prod.snd (Prod.snd p0))))),
    Prod.fst (Prod.snd (Prod.snd (Prod.snd (Prod.snd (Prod.snd (Prod.snd p0)))))),
    Prod.fst (Prod.snd (Prod.snd (Prod.snd (Prod.snd (Prod.snd (Prod.snd (Prod.snd p0))))))),
    Prod.fst (Prod.snd (Prod.snd (Prod.snd (Prod.snd (Prod.snd (Prod.snd (Prod.snd (Prod.snd p0)))))))),
    Prod.snd (Prod.snd (Prod.snd (Prod.snd (Prod.snd (Prod.snd (Prod.snd (Prod.snd (Prod.snd p0)))))))))
  (wr IntKind.i64 (wr IntKind.i64 (Int.tmod (wr IntKind.u64 p2) 2000) + 1))) fun (c13 : Int) => (Option.bind (m20F k
  (Prod.fst p0, Prod.fst (Prod.snd p0), Prod.fst (Prod.snd (Prod.snd p0)), Prod.fst (Prod.snd (Prod.snd (Prod.snd p0))),
    Prod.fst (Prod.snd (Prod.snd (Prod.snd (Prod.snd p0)))),
    Prod.fst (Prod.snd (Prod.snd (Prod.snd (Prod.snd (Prod.snd p0))))),
    Prod.fst (Prod.snd (Prod.snd (Prod.snd (Prod.snd (Prod.snd (Prod.snd p0)))))),
    Prod.fst (Prod.snd (Prod.snd (Prod.snd (Prod.snd (Prod.snd (Prod.snd (Prod.snd p0))))))),
    Prod.fst (Prod.snd (Prod.snd (Prod.snd (Prod.snd (Prod.snd (Prod.snd (Prod.snd (Prod.snd p0)))))))),
    Prod.snd (Prod.snd (Prod.snd (Prod.snd (Prod.snd (Prod.snd (Prod.snd (Prod.snd (Prod.snd p0)))))))))
  (wr IntKind.i64 (Int.tmod (wr IntKind.u64 p2) 2000))) fun (c14 : Int) => (if decide (wr IntKind.i64 (c13 - c14) = wr IntKind.i64 (wr IntKind.i64 (3 * c7) + 2)) = true then (Option.bind (m20F k
  (Prod.fst p0, Prod.fst (Prod.snd p0), Prod.fst (Prod.snd (Prod.snd p0)), Prod.fst (Prod.snd (Prod.snd (Prod.snd p0))),
    Prod.fst (Prod.snd (Prod.snd (Prod.snd (Prod.snd p0)))),
    Prod.fst (Prod.snd (Prod.snd (Prod.snd (Prod.snd (Prod.snd p0))))),
    Prod.fst (Prod.snd (Prod.snd (Prod.snd (Prod.snd (Prod.snd (Prod.snd p0)))))),
    Prod.fst (Prod.snd (Prod.snd (Prod.snd (Prod.snd (Prod.snd (Prod.snd (Prod.snd p0))))))),
    Prod.fst (Prod.snd (Prod.snd (Prod.snd (Prod.snd (Prod.snd (Prod.snd (Prod.snd (Prod.snd p0)))))))),
    Prod.snd (Prod.snd (Prod.snd (Prod.snd (Prod.snd (Prod.snd (Prod.snd (Prod.snd (Prod.snd p0)))))))))
  0) fun (c15 : Int) => (if decide (c15 = wr IntKind.i64 (wr IntKind.i64 (3 * c7) + 2)) = true then (Option.bind (m15F k) fun (c16 : Bool) => some c16) else some (false))) else some (false)))) else some (false))) else some (false))) else some (false)))))))) else (Option.bind (m13F k
  (Prod.fst p0, Prod.fst (Prod.snd p0), Prod.fst (Prod.snd (Prod.snd p0)), Prod.fst (Prod.snd (Prod.snd (Prod.snd p0))),
    Prod.fst (Prod.snd (Prod.snd (Prod.snd (Prod.snd p0)))),
    Prod.fst (Prod.snd (Prod.snd (Prod.snd (Prod.snd (Prod.snd p0))))),
    Prod.fst (Prod.snd (Prod.snd (Prod.snd (Prod.snd (Prod.snd (Prod.snd p0)))))),
    Prod.fst (Prod.snd (Prod.snd (Prod.snd (Prod.snd (Prod.snd (Prod.snd (Prod.snd p0))))))),
    Prod.fst (Prod.snd (Prod.snd (Prod.snd (Prod.snd (Prod.snd (Prod.snd (Prod.snd (Prod.snd p0)))))))),
    Prod.snd (Prod.snd (Prod.snd (Prod.snd (Prod.snd (Prod.snd (Prod.snd (Prod.snd (Prod.snd p0)))))))))) fun (c8 : Int) => (if (!decide (c8 = wr IntKind.i64 (2 * wr IntKind.i64 (Prod.fst p0 + 10)))) = true then some (false) else (Option.bind (m18F k
  (Prod.fst p0, Prod.fst (Prod.snd p0), Prod.fst (Prod.snd (Prod.snd p0)), Prod.fst (Prod.snd (Prod.snd (Prod.snd p0))),
    Prod.fst (Prod.snd (Prod.snd (Prod.snd (Prod.snd p0)))),
    Prod.fst (Prod.snd (Prod.snd (Prod.snd (Prod.snd (Prod.snd p0))))),
    Prod.fst (Prod.snd (Prod.snd (Prod.snd (Prod.snd (Prod.snd (Prod.snd p0)))))),
    Prod.fst (Prod.snd (Prod.snd (Prod.snd (Prod.snd (Prod.snd (Prod.snd (Prod.snd p0))))))),
    Prod.fst (Prod.snd (Prod.snd (Prod.snd (Prod.snd (Prod.snd (Prod.snd (Prod.snd (Prod.snd p0)))))))),
    Prod.snd (Prod.snd (Prod.snd (Prod.snd (Prod.snd (Prod.snd (Prod.snd (Prod.snd (Prod.snd p0)))))))))) fun (c9 : Int) => (Option.bind (m13F k
  (Prod.fst p0, Prod.fst (Prod.snd p0), Prod.fst (Prod.snd (Prod.snd p0)), Prod.fst (Prod.snd (Prod.snd (Prod.snd p0))),
    Prod.fst (Prod.snd (Prod.snd (Prod.snd (Prod.snd p0)))),
    Prod.fst (Prod.snd (Prod.snd (Prod.snd (Prod.snd (Prod.snd p0))))),
    Prod.fst (Prod.snd (Prod.snd (Prod.snd (Prod.snd (Prod.snd (Prod.snd p0)))))),
    Prod.fst (Prod.snd (Prod.snd (Prod.snd (Prod.snd (Prod.snd (Prod.snd (Prod.snd p0))))))),
    Prod.fst (Prod.snd (Prod.snd (Prod.snd (Prod.snd (Prod.snd (Prod.snd (Prod.snd (Prod.snd p0)))))))),
    Prod.snd (Prod.snd (Prod.snd (Prod.snd (Prod.snd (Prod.snd (Prod.snd (Prod.snd (Prod.snd p0)))))))))) fun (c10 : Int) => (if (!decide
      (c9 =
        wr IntKind.i64
          (c10 * Prod.fst (Prod.snd (Prod.snd (Prod.snd (Prod.snd (Prod.snd (Prod.snd (Prod.snd p0)))))))))) =
  true then some (false) else (if decide (c7 ≥ 1) = true then (Option.bind (m18F k
  (Prod.fst p0, Prod.fst (Prod.snd p0), Prod.fst (Prod.snd (Prod.snd p0)), Prod.fst (Prod.snd (Prod.snd (Prod.snd p0))),
    Prod.fst (Prod.snd (Prod.snd (Prod.snd (Prod.snd p0)))),
    Prod.fst (Prod.snd (Prod.snd (Prod.snd (Prod.snd (Prod.snd p0))))),
    Prod.fst (Prod.snd (Prod.snd (Prod.snd (Prod.snd (Prod.snd (Prod.snd p0)))))),
    Prod.fst (Prod.snd (Prod.snd (Prod.snd (Prod.snd (Prod.snd (Prod.snd (Prod.snd p0))))))),
    Prod.fst (Prod.snd (Prod.snd (Prod.snd (Prod.snd (Prod.snd (Prod.snd (Prod.snd (Prod.snd p0)))))))),
    Prod.snd (Prod.snd (Prod.snd (Prod.snd (Prod.snd (Prod.snd (Prod.snd (Prod.snd (Prod.snd p0)))))))))) fun (c11 : Int) => (if decide (wr IntKind.i64 (c7 * Prod.fst (Prod.snd (Prod.snd (Prod.snd (Prod.snd (Prod.snd (Prod.snd p0))))))) ≥ c11) =
  true then (Option.bind (m18F k
  (Prod.fst p0, Prod.fst (Prod.snd p0), Prod.fst (Prod.snd (Prod.snd p0)), Prod.fst (Prod.snd (Prod.snd (Prod.snd p0))),
    Prod.fst (Prod.snd (Prod.snd (Prod.snd (Prod.snd p0)))),
    Prod.fst (Prod.snd (Prod.snd (Prod.snd (Prod.snd (Prod.snd p0))))),
    Prod.fst (Prod.snd (Prod.snd (Prod.snd (Prod.snd (Prod.snd (Prod.snd p0)))))),
    Prod.fst (Prod.snd (Prod.snd (Prod.snd (Prod.snd (Prod.snd (Prod.snd (Prod.snd p0))))))),
    Prod.fst (Prod.snd (Prod.snd (Prod.snd (Prod.snd (Prod.snd (Prod.snd (Prod.snd (Prod.snd p0)))))))),
    Prod.snd (Prod.snd (Prod.snd (Prod.snd (Prod.snd (Prod.snd (Prod.snd (Prod.snd (Prod.snd p0)))))))))) fun (c12 : Int) => (if decide
    (wr IntKind.i64
        (wr IntKind.i64 (c7 - 1) * Prod.fst (Prod.snd (Prod.snd (Prod.snd (Prod.snd (Prod.snd (Prod.snd p0))))))) <
      c12) =
  true then (Option.bind (m20F k
  (Prod.fst p0, Prod.fst (Prod.snd p0), Prod.fst (Prod.snd (Prod.snd p0)), Prod.fst (Prod.snd (Prod.snd (Prod.snd p0))),
    Prod.fst (Prod.snd (Prod.snd (Prod.snd (Prod.snd p0)))),
    Prod.fst (Prod.snd (Prod.snd (Prod.snd (Prod.snd (Prod.snd p0))))),
    Prod.fst (Prod.snd (Prod.snd (Prod.snd (Prod.snd (Prod.snd (Prod.snd p0)))))),
    Prod.fst (Prod.snd (Prod.snd (Prod.snd (Prod.snd (Prod.snd (Prod.snd (Prod.snd p0))))))),
    Prod.fst (Prod.snd (Prod.snd (Prod.snd (Prod.snd (Prod.snd (Prod.snd (Prod.snd (Prod.snd p0)))))))),
    Prod.snd (Prod.snd (Prod.snd (Prod.snd (Prod.snd (Prod.snd (Prod.snd (Prod.snd (Prod.snd p0)))))))))
  (wr IntKind.i64 (wr IntKind.i64 (Int.tmod (wr IntKind.u64 p2) 2000) + 1))) fun (c13 : Int) => (Option.bind (m20F k
  (Prod.fst p0, Prod.fst (Prod.snd p0), Prod.fst (Prod.snd (Prod.snd p0)), Prod.fst (Prod.snd (Prod.snd (Prod.snd p0))),
    Prod.fst (Prod.snd (Prod.snd (Prod.snd (Prod.snd p0)))),
    Prod.fst (Prod.snd (Prod.snd (Prod.snd (Prod.snd (Prod.snd p0))))),
    Prod.fst (Prod.snd (Prod.snd (Prod.snd (Prod.snd (Prod.snd (Prod.snd p0)))))),
    Prod.fst (Prod.snd (Prod.snd (Prod.snd (Prod.snd (Prod.snd (Prod.snd (Prod.snd p0))))))),
    Prod.fst (Prod.snd (Prod.snd (Prod.snd (Prod.snd (Prod.snd (Prod.snd (Prod.snd (Prod.snd p0)))))))),
    Prod.snd (Prod.snd (Prod.snd (Prod.snd (Prod.snd (Prod.snd (Prod.snd (Prod.snd (Prod.snd p0)))))))))
  (wr IntKind.i64 (Int.tmod (wr IntKind.u64 p2) 2000))) fun (c14 : Int) => (if decide (wr IntKind.i64 (c13 - c14) = wr IntKind.i64 (wr IntKind.i64 (3 * c7) + 2)) = true then (Option.bind (m20F k
  (Prod.fst p0, Prod.fst (Prod.snd p0), Prod.fst (Prod.snd (Prod.snd p0)), Prod.fst (Prod.snd (Prod.snd (Prod.snd p0))),
    Prod.fst (Prod.snd (Prod.snd (Prod.snd (Prod.snd p0)))),
    Prod.fst (Prod.snd (Prod.snd (Prod.snd (Prod.snd (Prod.snd p0))))),
    Prod.fst (Prod.snd (Prod.snd (Prod.snd (Prod.snd (Prod.snd (Prod.snd p0)))))),
    Prod.fst (Prod.snd (Prod.snd (Prod.snd (Prod.snd (Prod.snd (Prod.snd (Prod.snd p0))))))),
    Prod.fst (Prod.snd (Prod.snd (Prod.snd (Prod.snd (Prod.snd (Prod.snd (Prod.snd (Prod.snd p0)))))))),
    Prod.snd (Prod.snd (Prod.snd (Prod.snd (Prod.snd (Prod.snd (Prod.snd (Prod.snd (Prod.snd p0)))))))))
  0) fun (c15 : Int) => (if decide (c15 = wr IntKind.i64 (wr IntKind.i64 (3 * c7) + 2)) = true then (Option.bind (m15F k) fun (c16 : Bool) => some c16) else some (false))) else some (false)))) else some (false))) else some (false))) else some (false))))))))))))))

theorem m6x (M : Cut Bool) (k : Nat) (p0 : (Int × (Int × (Int × (Int × (Int × (Int × (Int × (Int × (Int × Int)))))))))) (p1 : Int) (p2 : Int) : evC (m6E k) M (m6I k) 0 m6A (m6c []) (stAt Try.f6 (argSs [.st (.pair (.int .i64) (.pair (.int .i64) (.pair (.int .i64) (.pair (.int .i64) (.pair (.int .i64) (.pair (.int .i64) (.pair (.int .i64) (.pair (.int .i64) (.pair (.int .i64) (.int .i64)))))))))), .leaf (.val (.int .i64)), .leaf (.val (.int .i64))] (p0, p1, p2)) (fun _ => none) 0) (retK Try.f6 [.leaf (.val .bool)]) = m6X k p0 p1 p2 := by kernel_rfl

noncomputable def m6F (k : Nat) (p0 : (Int × (Int × (Int × (Int × (Int × (Int × (Int × (Int × (Int × Int)))))))))) (p1 : Int) (p2 : Int) : Option Bool := m6X k p0 p1 p2

theorem m6q (k : Nat) (p0 : (Int × (Int × (Int × (Int × (Int × (Int × (Int × (Int × (Int × Int)))))))))) (p1 : Int) (p2 : Int) : evC (m6E k) (fun _ f => f) (m6I k) 0 m6A (m6c []) (stAt Try.f6 (argSs [.st (.pair (.int .i64) (.pair (.int .i64) (.pair (.int .i64) (.pair (.int .i64) (.pair (.int .i64) (.pair (.int .i64) (.pair (.int .i64) (.pair (.int .i64) (.pair (.int .i64) (.int .i64)))))))))), .leaf (.val (.int .i64)), .leaf (.val (.int .i64))] (p0, p1, p2)) (fun _ => none) 0) (retK Try.f6 [.leaf (.val .bool)]) = m6F k p0 p1 p2 := by
    show _ = m6X k p0 p1 p2
    exact m6x (fun _ f => f) k p0 p1 p2

noncomputable def m6sp : Spec := { ps := [.st (.pair (.int .i64) (.pair (.int .i64) (.pair (.int .i64) (.pair (.int .i64) (.pair (.int .i64) (.pair (.int .i64) (.pair (.int .i64) (.pair (.int .i64) (.pair (.int .i64) (.int .i64)))))))))), .leaf (.val (.int .i64)), .leaf (.val (.int .i64))], rs := [.leaf (.val .bool)], f := fun k a => m6F k a.1 a.2.1 a.2.2 }

theorem m6ok (k : Nat) : EnvOk (m6E k) := envOk_of (l := [(11, m11sp), (13, m13sp), (14, m14sp), (15, m15sp), (18, m18sp), (19, m19sp), (20, m20sp)]) progNames progMixed rfl (.cons ⟨m11con k, Try.f11, by kernel_rfl, by kernel_rfl⟩ (.cons ⟨m13con k, Try.f13, by kernel_rfl, by kernel_rfl⟩ (.cons ⟨m14con k, Try.f14, by kernel_rfl, by kernel_rfl⟩ (.cons ⟨m15con k, Try.f15, by kernel_rfl, by kernel_rfl⟩ (.cons ⟨m18con k, Try.f18, by kernel_rfl, by kernel_rfl⟩ (.cons ⟨m19con k, Try.f19, by kernel_rfl, by kernel_rfl⟩ (.cons ⟨m20con k, Try.f20, by kernel_rfl, by kernel_rfl⟩ (.nil))))))))

theorem m6con (k : Nat) : Contract Try.prog k 6 m6sp := contract_of (E := m6E k) (m6ok k) (A := only 6 m6A) (d := 3) (c := m6c []) (by kernel_rfl) (by kernel_rfl) fun a _ h => (m6q k a.1 a.2.1 a.2.2).trans h

end Go.Proofs.Ythfdejbckheagaa.Mini
