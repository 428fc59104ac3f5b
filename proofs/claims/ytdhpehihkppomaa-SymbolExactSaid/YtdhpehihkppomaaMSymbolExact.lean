/- Printed by a program of this session's (MPrint, over wip/mini): plain functions of the program's, and that they are what it does. Lean checks it. -/
import Derived.Test.YtdhpehihkppomaaMF
set_option linter.unusedVariables false
namespace Go.Proofs.Ytdhpehihkppomaa.Mini
open Go Go.RowKit Go.Proofs

noncomputable def m7A : Anns := tabA []
noncomputable def m7E (k : Nat) : Env := { P := Try.prog, k := k, G := tabG [(17, m17sp), (18, m18sp), (19, m19sp)] }
noncomputable def m7c (p : List Bool) : Code := sub p (bodyOf Try.f7)
noncomputable def m7I (k : Nat) : Inl Bool := inlOf (m7E k) (only 7 m7A) 3
noncomputable def m7K0 (M : Cut Bool) (k : Nat) : Exit → St → Option Bool := seqK (normAt 0 m7A false (m7c [true])) (cutK M m7A (m7c [true]) fun s => evC (m7E k) M (m7I k) 0 m7A (m7c [true]) s (retK Try.prog Try.f7 [.leaf (.val .bool)])) (retK Try.prog Try.f7 [.leaf (.val .bool)])
noncomputable def m7K1 (M : Cut Bool) (k : Nat) : Exit → St → Option Bool := seqK (normAt 0 m7A false (m7c [true, true])) (cutK M m7A (m7c [true, true]) fun s => evC (m7E k) M (m7I k) 0 m7A (m7c [true, true]) s (retK Try.prog Try.f7 [.leaf (.val .bool)])) (retK Try.prog Try.f7 [.leaf (.val .bool)])
noncomputable def m7K2 (M : Cut Bool) (k : Nat) : Exit → St → Option Bool := seqK (normAt 0 m7A false (m7c [true, true, true])) (cutK M m7A (m7c [true, true, true]) fun s => evC (m7E k) M (m7I k) 0 m7A (m7c [true, true, true]) s (retK Try.prog Try.f7 [.leaf (.val .bool)])) (retK Try.prog Try.f7 [.leaf (.val .bool)])
noncomputable def m7K3 (M : Cut Bool) (k : Nat) : Exit → St → Option Bool := seqK (normAt 0 m7A false (m7c [true, true, false, true])) (cutK M m7A (m7c [true, true, false, true]) fun s => evC (m7E k) M (m7I k) 0 m7A (m7c [true, true, false, true]) s (m7K2 M k)) (m7K2 M k)
noncomputable def m7K4 (M : Cut Bool) (k : Nat) : Exit → St → Option Bool := seqK (normAt 0 m7A false (m7c [true, true, false, true, false, true])) (cutK M m7A (m7c [true, true, false, true, false, true]) fun s => evC (m7E k) M (m7I k) 0 m7A (m7c [true, true, false, true, false, true]) s (m7K2 M k)) (m7K2 M k)
noncomputable def m7K5 (M : Cut Bool) (k : Nat) : Exit → St → Option Bool := seqK (normAt 0 m7A false (m7c [true, true, true, true])) (cutK M m7A (m7c [true, true, true, true]) fun s => evC (m7E k) M (m7I k) 0 m7A (m7c [true, true, true, true]) s (retK Try.prog Try.f7 [.leaf (.val .bool)])) (retK Try.prog Try.f7 [.leaf (.val .bool)])

noncomputable def m7X (k : Nat) (p0 : Int) (p1 : Int) : Option Bool := (Option.bind (m17F k p0 p1) fun (c4 : (Int × Int)) => (if ltI p1 0 = true then (if eqI (Prod.snd c4) 1 = true then (if eqI (Prod.fst c4) 0 = true then (Option.bind (m18F k) fun (c5 : Bool) => some c5) else some (false)) else some (false)) else (if ltI 255 p1 = true then (if eqI (Prod.snd c4) 1 = true then (if eqI (Prod.fst c4) 0 = true then (Option.bind (m18F k) fun (c5 : Bool) => some c5) else some (false)) else some (false)) else (if eqI (Prod.snd c4) 0 = true then (Option.bind (m19F k p0 p1) fun (c5 : Int) => (if eqI (Prod.fst c4) c5 = true then (if leI 0 (Prod.fst c4) = true then (if leI (Prod.fst c4) 255 = true then (Option.bind (m18F k) fun (c6 : Bool) => some c6) else some (false)) else some (false)) else some (false))) else some (false)))))

theorem m7x (M : Cut Bool) (k : Nat) (p0 : Int) (p1 : Int) : evC (m7E k) M (m7I k) 0 m7A (m7c []) (stAt Try.f7 (argSs [.leaf (.val (.int .u32)), .leaf (.val (.int .i64))] (p0, p1)) (fun _ => none) 0) (retK Try.prog Try.f7 [.leaf (.val .bool)]) = m7X k p0 p1 := by kernel_rfl

noncomputable def m7F (k : Nat) (p0 : Int) (p1 : Int) : Option Bool := m7X k p0 p1

theorem m7q (k : Nat) (p0 : Int) (p1 : Int) : evC (m7E k) (fun _ f => f) (m7I k) 0 m7A (m7c []) (stAt Try.f7 (argSs [.leaf (.val (.int .u32)), .leaf (.val (.int .i64))] (p0, p1)) (fun _ => none) 0) (retK Try.prog Try.f7 [.leaf (.val .bool)]) = m7F k p0 p1 := by
    show _ = m7X k p0 p1
    exact m7x (fun _ f => f) k p0 p1

noncomputable def m7sp : Spec := { ps := [.leaf (.val (.int .u32)), .leaf (.val (.int .i64))], rs := [.leaf (.val .bool)], f := fun k a => m7F k a.1 a.2 }

theorem m7ok (k : Nat) : EnvOk (m7E k) := envOk_of (l := [(17, m17sp), (18, m18sp), (19, m19sp)]) progNames progMixed rfl (.cons ⟨m17con k, Try.f17, by kernel_rfl, by kernel_rfl⟩ (.cons ⟨m18con k, Try.f18, by kernel_rfl, by kernel_rfl⟩ (.cons ⟨m19con k, Try.f19, by kernel_rfl, by kernel_rfl⟩ (.nil))))

theorem m7con (k : Nat) : Contract Try.prog k 7 m7sp := contract_of (E := m7E k) (m7ok k) (A := only 7 m7A) (d := 3) (c := m7c []) (by kernel_rfl) (by kernel_rfl) fun a _ h => (m7q k a.1 a.2).trans h

end Go.Proofs.Ytdhpehihkppomaa.Mini
