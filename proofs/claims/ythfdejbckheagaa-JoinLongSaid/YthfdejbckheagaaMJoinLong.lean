/- Printed by a program of this session's (MPrint, over wip/mini): plain functions of the program's, and that they are what it does. Lean checks it. -/
import Derived.Test.YthfdejbckheagaaMF
set_option linter.unusedVariables false
namespace Go.Proofs.Ythfdejbckheagaa.Mini
open Go Go.RowKit Go.Proofs

noncomputable def m4A : Anns := tabA []
noncomputable def m4E (k : Nat) : Env := { P := Try.prog, k := k, G := tabG [(16, m16sp), (17, m17sp)] }
noncomputable def m4c (p : List Bool) : Code := sub p (bodyOf Try.f4)
noncomputable def m4I (k : Nat) : Inl Bool := inlOf (m4E k) (only 4 m4A) 3
noncomputable def m4K0 (M : Cut Bool) (k : Nat) : Exit → St → Option Bool := seqK (normAt 0 m4A false (m4c [true])) (cutK M m4A (m4c [true]) fun s => evC (m4E k) M (m4I k) 0 m4A (m4c [true]) s (retK Try.prog Try.f4 [.leaf (.val .bool)])) (retK Try.prog Try.f4 [.leaf (.val .bool)])
noncomputable def m4K1 (M : Cut Bool) (k : Nat) : Exit → St → Option Bool := seqK (normAt 0 m4A false (m4c [true, true])) (cutK M m4A (m4c [true, true]) fun s => evC (m4E k) M (m4I k) 0 m4A (m4c [true, true]) s (retK Try.prog Try.f4 [.leaf (.val .bool)])) (retK Try.prog Try.f4 [.leaf (.val .bool)])
noncomputable def m4K2 (M : Cut Bool) (k : Nat) : Exit → St → Option Bool := seqK (normAt 0 m4A false (m4c [true, true, true])) (cutK M m4A (m4c [true, true, true]) fun s => evC (m4E k) M (m4I k) 0 m4A (m4c [true, true, true]) s (retK Try.prog Try.f4 [.leaf (.val .bool)])) (retK Try.prog Try.f4 [.leaf (.val .bool)])
noncomputable def m4K3 (M : Cut Bool) (k : Nat) : Exit → St → Option Bool := seqK (normAt 0 m4A false (m4c [true, true, true, true])) (cutK M m4A (m4c [true, true, true, true]) fun s => evC (m4E k) M (m4I k) 0 m4A (m4c [true, true, true, true]) s (retK Try.prog Try.f4 [.leaf (.val .bool)])) (retK Try.prog Try.f4 [.leaf (.val .bool)])
noncomputable def m4K4 (M : Cut Bool) (k : Nat) : Exit → St → Option Bool := seqK (normAt 0 m4A false (m4c [true, true, true, false, true])) (cutK M m4A (m4c [true, true, true, false, true]) fun s => evC (m4E k) M (m4I k) 0 m4A (m4c [true, true, true, false, true]) s (m4K3 M k)) (m4K3 M k)
noncomputable def m4K5 (M : Cut Bool) (k : Nat) : Exit → St → Option Bool := seqK (normAt 0 m4A false (m4c [true, true, true, false, true, false, true])) (cutK M m4A (m4c [true, true, true, false, true, false, true]) fun s => evC (m4E k) M (m4I k) 0 m4A (m4c [true, true, true, false, true, false, true]) s (m4K3 M k)) (m4K3 M k)
noncomputable def m4K6 (M : Cut Bool) (k : Nat) : Exit → St → Option Bool := seqK (normAt 0 m4A false (m4c [true, true, true, false, true, false, true, true])) (cutK M m4A (m4c [true, true, true, false, true, false, true, true]) fun s => evC (m4E k) M (m4I k) 0 m4A (m4c [true, true, true, false, true, false, true, true]) s (m4K3 M k)) (m4K3 M k)
noncomputable def m4K7 (M : Cut Bool) (k : Nat) : Exit → St → Option Bool := seqK (normAt 0 m4A false (m4c [true, true, true, true, true])) (cutK M m4A (m4c [true, true, true, true, true]) fun s => evC (m4E k) M (m4I k) 0 m4A (m4c [true, true, true, true, true]) s (retK Try.prog Try.f4 [.leaf (.val .bool)])) (retK Try.prog Try.f4 [.leaf (.val .bool)])
noncomputable def m4K8 (M : Cut Bool) (k : Nat) : Exit → St → Option Bool := seqK (normAt 0 m4A false (m4c [true, true, true, true, true, true])) (cutK M m4A (m4c [true, true, true, true, true, true]) fun s => evC (m4E k) M (m4I k) 0 m4A (m4c [true, true, true, true, true, true]) s (retK Try.prog Try.f4 [.leaf (.val .bool)])) (retK Try.prog Try.f4 [.leaf (.val .bool)])
noncomputable def m4K9 (M : Cut Bool) (k : Nat) : Exit → St → Option Bool := seqK (normAt 0 m4A false (m4c [true, true, true, true, true, false, true])) (cutK M m4A (m4c [true, true, true, true, true, false, true]) fun s => evC (m4E k) M (m4I k) 0 m4A (m4c [true, true, true, true, true, false, true]) s (m4K8 M k)) (m4K8 M k)
noncomputable def m4K10 (M : Cut Bool) (k : Nat) : Exit → St → Option Bool := seqK (normAt 0 m4A false (m4c [true, true, true, true, true, false, true, false, true])) (cutK M m4A (m4c [true, true, true, true, true, false, true, false, true]) fun s => evC (m4E k) M (m4I k) 0 m4A (m4c [true, true, true, true, true, false, true, false, true]) s (m4K8 M k)) (m4K8 M k)
noncomputable def m4K11 (M : Cut Bool) (k : Nat) : Exit → St → Option Bool := seqK (normAt 0 m4A false (m4c [true, true, true, true, true, true, true])) (cutK M m4A (m4c [true, true, true, true, true, true, true]) fun s => evC (m4E k) M (m4I k) 0 m4A (m4c [true, true, true, true, true, true, true]) s (retK Try.prog Try.f4 [.leaf (.val .bool)])) (retK Try.prog Try.f4 [.leaf (.val .bool)])

noncomputable def m4X (k : Nat) (p0 : Int) (p1 : Int) : Option Bool := (if (!eqI 18 0) = true then (if (!eqI 17 0) = true then (if leI 0 (wr IntKind.i64 (wr IntKind.i64 (4096 - wr IntKind.i64 (Int.tmod (wr IntKind.u64 p0) 18)) + 1)) = true then (if leI (wr IntKind.i64 (wr IntKind.i64 (4096 - wr IntKind.i64 (Int.tmod (wr IntKind.u64 p0) 18)) + 1))
    (wr IntKind.i64 (wr IntKind.i64 (4096 - wr IntKind.i64 (Int.tmod (wr IntKind.u64 p0) 18)) + 1)) =
  true then (if leI (wr IntKind.i64 (wr IntKind.i64 (4096 - wr IntKind.i64 (Int.tmod (wr IntKind.u64 p0) 18)) + 1) * (↑1 : Int))
    140737488355328 =
  true then (if leI (wr IntKind.i64 (wr IntKind.i64 (4096 - wr IntKind.i64 (Int.tmod (wr IntKind.u64 p0) 18)) + 1))
    9223372036854775807 =
  true then (if ltI (4096 : Int)
    (↑(List.length
          (List.replicate
            (Int.toNat
              (wr IntKind.i64
                (wr IntKind.i64 ((4096 : Int) - wr IntKind.i64 (Int.tmod (wr IntKind.u64 p0) (18 : Int))) + (1 : Int))))
            (0 : Int))) :
      Int) =
  true then (Option.bind (m16F k
  (true,
    List.replicate
      (Int.toNat (wr IntKind.i64 (wr IntKind.i64 (4096 - wr IntKind.i64 (Int.tmod (wr IntKind.u64 p0) 18)) + 1))) 0)
  (0, 2, [])) fun (c4 : ((Bool × (List Int)) × ((List Int) × (Bool × Int)))) => (if eqI (Prod.snd (Prod.snd (Prod.snd c4))) 1 = true then (if (!Prod.fst (Prod.snd (Prod.snd c4))) = true then (Option.bind (m17F k) fun (c5 : Bool) => some c5) else some (false)) else some (false))) else (if leI 0 (wr IntKind.i64 (Int.tmod (wr IntKind.u64 p1) 17)) = true then (if leI (wr IntKind.i64 (Int.tmod (wr IntKind.u64 p1) 17)) (wr IntKind.i64 (Int.tmod (wr IntKind.u64 p1) 17)) = true then (if leI (wr IntKind.i64 (Int.tmod (wr IntKind.u64 p1) 17) * (↑1 : Int)) 140737488355328 = true then (if leI (wr IntKind.i64 (Int.tmod (wr IntKind.u64 p1) 17)) 9223372036854775807 = true then (Option.bind (m16F k
  (true,
    List.replicate
      (Int.toNat (wr IntKind.i64 (wr IntKind.i64 (4096 - wr IntKind.i64 (Int.tmod (wr IntKind.u64 p0) 18)) + 1))) 0)
  (0, 0, List.replicate (Int.toNat (wr IntKind.i64 (Int.tmod (wr IntKind.u64 p1) 17))) 0)) fun (c4 : ((Bool × (List Int)) × ((List Int) × (Bool × Int)))) => (if ltI (4096 : Int)
    (wr IntKind.i64
      ((↑(List.length
              (List.replicate
                (Int.toNat
                  (wr IntKind.i64
                    (wr IntKind.i64 ((4096 : Int) - wr IntKind.i64 (Int.tmod (wr IntKind.u64 p0) (18 : Int))) +
                      (1 : Int))))
                (0 : Int))) :
          Int) +
        wr IntKind.i64 (Int.tmod (wr IntKind.u64 p1) (17 : Int)))) =
  true then (if eqI (Prod.snd (Prod.snd (Prod.snd c4))) 2 = true then (if (!Prod.fst (Prod.snd (Prod.snd c4))) = true then (if (!Prod.fst (Prod.fst c4)) = true then (Option.bind (m17F k) fun (c5 : Bool) => some c5) else some (false)) else some (false)) else some (false)) else (if eqI (Prod.snd (Prod.snd (Prod.snd c4))) 0 = true then (if (!Prod.fst (Prod.snd (Prod.snd c4))) = true then (if Prod.fst (Prod.fst c4) = true then (if eqI (↑(List.length (Prod.snd (Prod.fst c4))) : Int)
    (wr IntKind.i64
      ((↑(List.length
              (List.replicate
                (Int.toNat
                  (wr IntKind.i64
                    (wr IntKind.i64 ((4096 : Int) - wr IntKind.i64 (Int.tmod (wr IntKind.u64 p0) (18 : Int))) +
                      (1 : Int))))
                (0 : Int))) :
          Int) +
        wr IntKind.i64 (Int.tmod (wr IntKind.u64 p1) (17 : Int)))) =
  true then (Option.bind (m17F k) fun (c5 : Bool) => some c5) else some (false)) else some (false)) else some (false)) else some (false)))) else none) else none) else none) else none)) else none) else none) else none) else none) else none) else none)

theorem m4x (M : Cut Bool) (k : Nat) (p0 : Int) (p1 : Int) : evC (m4E k) M (m4I k) 0 m4A (m4c []) (stAt Try.f4 (argSs [.leaf (.val (.int .i64)), .leaf (.val (.int .i64))] (p0, p1)) (fun _ => none) 0) (retK Try.prog Try.f4 [.leaf (.val .bool)]) = m4X k p0 p1 := by kernel_rfl

noncomputable def m4F (k : Nat) (p0 : Int) (p1 : Int) : Option Bool := m4X k p0 p1

theorem m4q (k : Nat) (p0 : Int) (p1 : Int) : evC (m4E k) (fun _ f => f) (m4I k) 0 m4A (m4c []) (stAt Try.f4 (argSs [.leaf (.val (.int .i64)), .leaf (.val (.int .i64))] (p0, p1)) (fun _ => none) 0) (retK Try.prog Try.f4 [.leaf (.val .bool)]) = m4F k p0 p1 := by
    show _ = m4X k p0 p1
    exact m4x (fun _ f => f) k p0 p1

noncomputable def m4sp : Spec := { ps := [.leaf (.val (.int .i64)), .leaf (.val (.int .i64))], rs := [.leaf (.val .bool)], f := fun k a => m4F k a.1 a.2 }

theorem m4ok (k : Nat) : EnvOk (m4E k) := envOk_of (l := [(16, m16sp), (17, m17sp)]) progNames progMixed rfl (.cons ⟨m16con k, Try.f16, by kernel_rfl, by kernel_rfl⟩ (.cons ⟨m17con k, Try.f17, by kernel_rfl, by kernel_rfl⟩ (.nil)))

theorem m4con (k : Nat) : Contract Try.prog k 4 m4sp := contract_of (E := m4E k) (m4ok k) (A := only 4 m4A) (d := 3) (c := m4c []) (by kernel_rfl) (by kernel_rfl) fun a _ h => (m4q k a.1 a.2).trans h

end Go.Proofs.Ythfdejbckheagaa.Mini
