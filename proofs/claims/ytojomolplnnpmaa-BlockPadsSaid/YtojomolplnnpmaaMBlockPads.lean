/- Printed by a program of this session's (MPrint, over wip/mini): plain functions of the program's, and that they are what it does. Lean checks it. -/
import Derived.Test.YtojomolplnnpmaaMF
set_option linter.unusedVariables false
namespace Go.Proofs.Ytojomolplnnpmaa.Mini
open Go Go.RowKit Go.Proofs

noncomputable def m7A : Anns := tabA [(34, { keep := [0, 11] })]
noncomputable def m7E (k : Nat) : Env := { P := Try.prog, k := k, G := tabG [(8, m8sp), (10, m10sp), (12, m12sp), (13, m13sp), (16, m16sp), (19, m19sp)] }
noncomputable def m7c (p : List Bool) : Code := sub p (bodyOf Try.f7)
noncomputable def m7I (k : Nat) : Inl Bool := inlOf (m7E k) (only 7 m7A) 3
noncomputable def m7K0 (M : Cut Bool) (k : Nat) : Exit → St → Option Bool := seqK (normAt 0 m7A false (m7c [true])) (cutK M m7A (m7c [true]) fun s => evC (m7E k) M (m7I k) 0 m7A (m7c [true]) s (retK Try.prog Try.f7 [.leaf (.val .bool)])) (retK Try.prog Try.f7 [.leaf (.val .bool)])
noncomputable def m7K1 (M : Cut Bool) (k : Nat) : Exit → St → Option Bool := seqK (normAt 0 m7A false (m7c [true, true])) (cutK M m7A (m7c [true, true]) fun s => evC (m7E k) M (m7I k) 0 m7A (m7c [true, true]) s (retK Try.prog Try.f7 [.leaf (.val .bool)])) (retK Try.prog Try.f7 [.leaf (.val .bool)])
noncomputable def m7K2 (M : Cut Bool) (k : Nat) : Exit → St → Option Bool := seqK (normAt 0 m7A false (m7c [true, false, true])) (cutK M m7A (m7c [true, false, true]) fun s => evC (m7E k) M (m7I k) 0 m7A (m7c [true, false, true]) s (m7K1 M k)) (m7K1 M k)
noncomputable def m7K3 (M : Cut Bool) (k : Nat) : Exit → St → Option Bool := seqK (normAt 0 m7A false (m7c [true, false, true, false, true])) (cutK M m7A (m7c [true, false, true, false, true]) fun s => evC (m7E k) M (m7I k) 0 m7A (m7c [true, false, true, false, true]) s (m7K1 M k)) (m7K1 M k)
noncomputable def m7K4 (M : Cut Bool) (k : Nat) : Exit → St → Option Bool := seqK (normAt 0 m7A false (m7c [true, true, true])) (cutK M m7A (m7c [true, true, true]) fun s => evC (m7E k) M (m7I k) 0 m7A (m7c [true, true, true]) s (retK Try.prog Try.f7 [.leaf (.val .bool)])) (retK Try.prog Try.f7 [.leaf (.val .bool)])
noncomputable def m7K5 (M : Cut Bool) (k : Nat) : Exit → St → Option Bool := seqK (normAt 0 m7A false (m7c [true, true, true, true])) (cutK M m7A (m7c [true, true, true, true]) fun s => evC (m7E k) M (m7I k) 0 m7A (m7c [true, true, true, true]) s (retK Try.prog Try.f7 [.leaf (.val .bool)])) (retK Try.prog Try.f7 [.leaf (.val .bool)])
noncomputable def m7K6 (M : Cut Bool) (k : Nat) : Exit → St → Option Bool := seqK (normAt 0 m7A false (m7c [true, true, true, false, true])) (cutK M m7A (m7c [true, true, true, false, true]) fun s => evC (m7E k) M (m7I k) 0 m7A (m7c [true, true, true, false, true]) s (m7K5 M k)) (m7K5 M k)
noncomputable def m7K7 (M : Cut Bool) (k : Nat) : Exit → St → Option Bool := seqK (normAt 0 m7A false (m7c [true, true, true, false, true, false, true])) (cutK M m7A (m7c [true, true, true, false, true, false, true]) fun s => evC (m7E k) M (m7I k) 0 m7A (m7c [true, true, true, false, true, false, true]) s (m7K5 M k)) (m7K5 M k)
noncomputable def m7K8 (M : Cut Bool) (k : Nat) : Exit → St → Option Bool := seqK (normAt 0 m7A false (m7c [true, true, true, true, true])) (cutK M m7A (m7c [true, true, true, true, true]) fun s => evC (m7E k) M (m7I k) 0 m7A (m7c [true, true, true, true, true]) s (retK Try.prog Try.f7 [.leaf (.val .bool)])) (retK Try.prog Try.f7 [.leaf (.val .bool)])
noncomputable def m7K9 (M : Cut Bool) (k : Nat) : Exit → St → Option Bool := seqK (normAt 0 m7A false (m7c [true, true, true, true, false, true])) (cutK M m7A (m7c [true, true, true, true, false, true]) fun s => evC (m7E k) M (m7I k) 0 m7A (m7c [true, true, true, true, false, true]) s (m7K8 M k)) (m7K8 M k)
noncomputable def m7K10 (M : Cut Bool) (k : Nat) : Exit → St → Option Bool := seqK (normAt 0 m7A false (m7c [true, true, true, true, false, true, false, true])) (cutK M m7A (m7c [true, true, true, true, false, true, false, true]) fun s => evC (m7E k) M (m7I k) 0 m7A (m7c [true, true, true, true, false, true, false, true]) s (m7K8 M k)) (m7K8 M k)
noncomputable def m7K11 (M : Cut Bool) (k : Nat) : Exit → St → Option Bool := seqK (normAt 0 m7A false (m7c [true, true, true, true, true, true])) (cutK M m7A (m7c [true, true, true, true, true, true]) fun s => evC (m7E k) M (m7I k) 0 m7A (m7c [true, true, true, true, true, true]) s (retK Try.prog Try.f7 [.leaf (.val .bool)])) (retK Try.prog Try.f7 [.leaf (.val .bool)])
noncomputable def m7K12 (M : Cut Bool) (k : Nat) : Exit → St → Option Bool := seqK (normAt 0 m7A false (m7c [true, true, true, true, true, true, true])) (cutK M m7A (m7c [true, true, true, true, true, true, true]) fun s => evC (m7E k) M (m7I k) 0 m7A (m7c [true, true, true, true, true, true, true]) s (retK Try.prog Try.f7 [.leaf (.val .bool)])) (retK Try.prog Try.f7 [.leaf (.val .bool)])
noncomputable def m7K13 (M : Cut Bool) (k : Nat) : Exit → St → Option Bool := seqK (normAt 0 m7A false (m7c [true, true, true, true, true, true, true, true])) (cutK M m7A (m7c [true, true, true, true, true, true, true, true]) fun s => evC (m7E k) M (m7I k) 0 m7A (m7c [true, true, true, true, true, true, true, true]) s (retK Try.prog Try.f7 [.leaf (.val .bool)])) (retK Try.prog Try.f7 [.leaf (.val .bool)])
noncomputable def m7K14 (M : Cut Bool) (k : Nat) : Exit → St → Option Bool := seqK (normAt 0 m7A false (m7c [true, true, true, true, true, true, true, false, true])) (cutK M m7A (m7c [true, true, true, true, true, true, true, false, true]) fun s => evC (m7E k) M (m7I k) 0 m7A (m7c [true, true, true, true, true, true, true, false, true]) s (m7K13 M k)) (m7K13 M k)
noncomputable def m7K15 (M : Cut Bool) (k : Nat) : Exit → St → Option Bool := seqK (normAt 0 m7A false (m7c [true, true, true, true, true, true, true, false, true, true, true])) (cutK M m7A (m7c [true, true, true, true, true, true, true, false, true, true, true]) fun s => evC (m7E k) M (m7I k) 0 m7A (m7c [true, true, true, true, true, true, true, false, true, true, true]) s (m7K13 M k)) (m7K13 M k)
noncomputable def m7K16 (M : Cut Bool) (k : Nat) : Exit → St → Option Bool := seqK (normAt 0 m7A false (m7c [true, true, true, true, true, true, true, false, true, true, true, true, true])) (cutK M m7A (m7c [true, true, true, true, true, true, true, false, true, true, true, true, true]) fun s => evC (m7E k) M (m7I k) 0 m7A (m7c [true, true, true, true, true, true, true, false, true, true, true, true, true]) s (m7K13 M k)) (m7K13 M k)
noncomputable def m7K17 (M : Cut Bool) (k : Nat) : Exit → St → Option Bool := seqK (normAt 0 m7A false (m7c [true, true, true, true, true, true, true, true, true])) (cutK M m7A (m7c [true, true, true, true, true, true, true, true, true]) fun s => evC (m7E k) M (m7I k) 0 m7A (m7c [true, true, true, true, true, true, true, true, true]) s (retK Try.prog Try.f7 [.leaf (.val .bool)])) (retK Try.prog Try.f7 [.leaf (.val .bool)])
noncomputable def m7K18 (M : Cut Bool) (k : Nat) : Exit → St → Option Bool := seqK (normAt 0 m7A false (m7c [true, true, true, true, true, true, true, true, true, true])) (cutK M m7A (m7c [true, true, true, true, true, true, true, true, true, true]) fun s => evC (m7E k) M (m7I k) 0 m7A (m7c [true, true, true, true, true, true, true, true, true, true]) s (retK Try.prog Try.f7 [.leaf (.val .bool)])) (retK Try.prog Try.f7 [.leaf (.val .bool)])
noncomputable def m7K19 (M : Cut Bool) (k : Nat) : Exit → St → Option Bool := seqK (normAt 0 m7A false (m7c [true, true, true, true, true, true, true, true, true, true, true])) (cutK M m7A (m7c [true, true, true, true, true, true, true, true, true, true, true]) fun s => evC (m7E k) M (m7I k) 0 m7A (m7c [true, true, true, true, true, true, true, true, true, true, true]) s (retK Try.prog Try.f7 [.leaf (.val .bool)])) (retK Try.prog Try.f7 [.leaf (.val .bool)])
noncomputable def m7S34 (t0 : Int) (b0 : List Int) : St := { n := 130, tm := slots [(0, .int .i64 t0), (11, .own 0)], tab := blks [some (.row true (.int .u8) 5 b0)], nx := 1 }

noncomputable def m7X (X34 : Int → List Int → Option Bool) (k : Nat) (p0 : Int) (p1 : (Int × (Int × (List Int)))) (p2 : Int) (p3 : Int) : Option Bool := (if ltI 100 (↑(List.length (Prod.snd (Prod.snd p1))) : Int) = true then some (true) else (if eqI p3 0 = true then some (true) else (Option.bind (m10F k p0 (Prod.fst p1, Prod.fst (Prod.snd p1), Prod.snd (Prod.snd p1))) fun (c6 : ((List Int) × Int)) => (if (!eqI (Prod.snd c6) 0) = true then (if eqI (↑(List.length (Prod.fst c6)) : Int) 0 = true then (Option.bind (m13F k) fun (c7 : Bool) => some c7) else some (false)) else (if (!eqI (↑(List.length (Prod.fst c6)) : Int) (wr IntKind.i64 (p0 + 10))) = true then some (false) else (if leI 0 (wr IntKind.i64 (p0 + 6)) = true then (if leI (wr IntKind.i64 (p0 + 6)) (↑(List.length (Prod.fst c6)) : Int) = true then (Option.bind (m8F k (List.take (Int.toNat (wr IntKind.i64 (p0 + 6))) (List.drop 0 (Prod.fst c6)))) fun (c7 : (List Int)) => (if ltI (wr IntKind.i64 (6 + (↑(List.length (Prod.snd (Prod.snd p1))) : Int))) (↑(List.length c7) : Int) = true then (if (!eqI 2 0) = true then (if eqI (Int.tmod p2 2) 0 = true then (if (!eqI
      (wr IntKind.u64
        (wr IntKind.i64
          ((↑(List.length c7) : Int) - wr IntKind.i64 (6 + (↑(List.length (Prod.snd (Prod.snd p1))) : Int)))))
      0) =
  true then (if leI 0
    (wr IntKind.i64
      (wr IntKind.i64 (6 + (↑(List.length (Prod.snd (Prod.snd p1))) : Int)) +
        wr IntKind.i64
          (Int.tmod (wr IntKind.u64 p2)
            (wr IntKind.u64
              (wr IntKind.i64
                ((↑(List.length c7) : Int) -
                  wr IntKind.i64 (6 + (↑(List.length (Prod.snd (Prod.snd p1))) : Int)))))))) =
  true then (if ltI
    (wr IntKind.i64
      (wr IntKind.i64 (6 + (↑(List.length (Prod.snd (Prod.snd p1))) : Int)) +
        wr IntKind.i64
          (Int.tmod (wr IntKind.u64 p2)
            (wr IntKind.u64
              (wr IntKind.i64
                ((↑(List.length c7) : Int) - wr IntKind.i64 (6 + (↑(List.length (Prod.snd (Prod.snd p1))) : Int))))))))
    (↑(List.length c7) : Int) =
  true then (if leI 0
    (wr IntKind.i64
      (wr IntKind.i64 (6 + (↑(List.length (Prod.snd (Prod.snd p1))) : Int)) +
        wr IntKind.i64
          (Int.tmod (wr IntKind.u64 p2)
            (wr IntKind.u64
              (wr IntKind.i64
                ((↑(List.length c7) : Int) -
                  wr IntKind.i64 (6 + (↑(List.length (Prod.snd (Prod.snd p1))) : Int)))))))) =
  true then (if ltI
    (wr IntKind.i64
      (wr IntKind.i64 (6 + (↑(List.length (Prod.snd (Prod.snd p1))) : Int)) +
        wr IntKind.i64
          (Int.tmod (wr IntKind.u64 p2)
            (wr IntKind.u64
              (wr IntKind.i64
                ((↑(List.length c7) : Int) - wr IntKind.i64 (6 + (↑(List.length (Prod.snd (Prod.snd p1))) : Int))))))))
    (↑(List.length c7) : Int) =
  true then X34 p0 (List.set c7
  (Int.toNat
    (wr IntKind.i64
      (wr IntKind.i64 (6 + (↑(List.length (Prod.snd (Prod.snd p1))) : Int)) +
        wr IntKind.i64
          (Int.tmod (wr IntKind.u64 p2)
            (wr IntKind.u64
              (wr IntKind.i64
                ((↑(List.length c7) : Int) - wr IntKind.i64 (6 + (↑(List.length (Prod.snd (Prod.snd p1))) : Int)))))))))
  (bits BinOp.xor IntKind.u8
    (List.getD c7
      (Int.toNat
        (wr IntKind.i64
          (wr IntKind.i64 (6 + (↑(List.length (Prod.snd (Prod.snd p1))) : Int)) +
            wr IntKind.i64
              (Int.tmod (wr IntKind.u64 p2)
                (wr IntKind.u64
                  (wr IntKind.i64
                    ((↑(List.length c7) : Int) -
                      wr IntKind.i64 (6 + (↑(List.length (Prod.snd (Prod.snd p1))) : Int)))))))))
      0)
    p3)) else none) else none) else none) else none) else none) else (if (!eqI 3 0) = true then (if eqI (Int.tmod p2 3) 0 = true then (if leI 0 4 = true then (if ltI 4 (↑(List.length c7) : Int) = true then X34 p0 (List.set c7 4 (wr IntKind.u8 (4 + bits BinOp.and IntKind.u8 p3 127))) else none) else none) else (if (!eqI 3 0) = true then (if eqI (Int.tmod p2 3) 1 = true then (if leI 0 5 = true then (if ltI 5 (↑(List.length c7) : Int) = true then X34 p0 (List.set c7 5 (wr IntKind.u8 (wr IntKind.u8 (wr IntKind.u8 p0 + 1) + bits BinOp.and IntKind.u8 p3 63))) else none) else none) else (if leI 0 0 = true then (if ltI 0 (↑(List.length c7) : Int) = true then (if leI 0 0 = true then (if ltI 0 (↑(List.length c7) : Int) = true then X34 p0 (List.set c7 0 (bits BinOp.or IntKind.u8 (List.getD c7 0 0) (wr IntKind.u8 (64 + bits BinOp.and IntKind.u8 p3 64)))) else none) else none) else none) else none)) else none)) else none)) else none) else (if (!eqI 3 0) = true then (if eqI (Int.tmod p2 3) 0 = true then (if leI 0 4 = true then (if ltI 4 (↑(List.length c7) : Int) = true then X34 p0 (List.set c7 4 (wr IntKind.u8 (4 + bits BinOp.and IntKind.u8 p3 127))) else none) else none) else (if (!eqI 3 0) = true then (if eqI (Int.tmod p2 3) 1 = true then (if leI 0 5 = true then (if ltI 5 (↑(List.length c7) : Int) = true then X34 p0 (List.set c7 5 (wr IntKind.u8 (wr IntKind.u8 (wr IntKind.u8 p0 + 1) + bits BinOp.and IntKind.u8 p3 63))) else none) else none) else (if leI 0 0 = true then (if ltI 0 (↑(List.length c7) : Int) = true then (if leI 0 0 = true then (if ltI 0 (↑(List.length c7) : Int) = true then X34 p0 (List.set c7 0 (bits BinOp.or IntKind.u8 (List.getD c7 0 0) (wr IntKind.u8 (64 + bits BinOp.and IntKind.u8 p3 64)))) else none) else none) else none) else none)) else none)) else none))) else none) else none))))))

theorem m7x (M : Cut Bool) (k : Nat) (p0 : Int) (p1 : (Int × (Int × (List Int)))) (p2 : Int) (p3 : Int) : evC (m7E k) M (m7I k) 0 m7A (m7c []) (stAt Try.f7 (argSs [.leaf (.val (.int .i64)), .st (.pair (.int .i64) (.pair (.int .i64) (.row (.int .u8)))), .leaf (.val (.int .i64)), .leaf (.val (.int .u8))] (p0, p1, p2, p3)) (fun _ => none) 0) (retK Try.prog Try.f7 [.leaf (.val .bool)]) = m7X (fun t0' b0' => M 34 (fun s => evC (m7E k) M (m7I k) 0 m7A (m7c [true, true, true, true, true, true, true, true]) s (retK Try.prog Try.f7 [.leaf (.val .bool)])) (m7S34 t0' b0')) k p0 p1 p2 p3 := by kernel_rfl

noncomputable def m7X34 (k : Nat) (t0 : Int) (b0 : List Int) : Option Bool := (Option.bind (m19F k b0) fun (c4 : ((List Int) × Int)) => (Option.bind (m16F k t0 (Prod.fst c4)) fun (c5 : ((Int × (Int × (List Int))) × Int)) => (if eqI (Prod.snd c4) 0 = true then (if eqI (Prod.snd c5) 3 = true then (Option.bind (m12F k (Prod.fst (Prod.fst c5), Prod.fst (Prod.snd (Prod.fst c5)), Prod.snd (Prod.snd (Prod.fst c5))) (0, 0, [])) fun (c6 : Bool) => (if c6 = true then (Option.bind (m13F k) fun (c7 : Bool) => some c7) else some (false))) else some (false)) else some (false))))

theorem m7x34 (M : Cut Bool) (k : Nat) (t0 : Int) (b0 : List Int) : evC (m7E k) M (m7I k) 0 m7A (m7c [true, true, true, true, true, true, true, true]) (m7S34 t0 b0) (retK Try.prog Try.f7 [.leaf (.val .bool)]) = m7X34 k t0 b0 := by kernel_rfl

noncomputable def m7F34 (k : Nat) (t0 : Int) (b0 : List Int) : Option Bool := m7X34 k t0 b0

theorem m7q34 (k : Nat) (t0 : Int) (b0 : List Int) : evC (m7E k) (fun _ f => f) (m7I k) 0 m7A (m7c [true, true, true, true, true, true, true, true]) (m7S34 t0 b0) (retK Try.prog Try.f7 [.leaf (.val .bool)]) = m7F34 k t0 b0 := by
    show _ = m7X34 k t0 b0
    exact m7x34 (fun _ f => f) k t0 b0

noncomputable def m7F (k : Nat) (p0 : Int) (p1 : (Int × (Int × (List Int)))) (p2 : Int) (p3 : Int) : Option Bool := m7X (m7F34 k) k p0 p1 p2 p3

theorem m7q (k : Nat) (p0 : Int) (p1 : (Int × (Int × (List Int)))) (p2 : Int) (p3 : Int) : evC (m7E k) (fun _ f => f) (m7I k) 0 m7A (m7c []) (stAt Try.f7 (argSs [.leaf (.val (.int .i64)), .st (.pair (.int .i64) (.pair (.int .i64) (.row (.int .u8)))), .leaf (.val (.int .i64)), .leaf (.val (.int .u8))] (p0, p1, p2, p3)) (fun _ => none) 0) (retK Try.prog Try.f7 [.leaf (.val .bool)]) = m7F k p0 p1 p2 p3 := by
    have e34 : m7F34 k = (fun t0' b0' => evC (m7E k) (fun _ f => f) (m7I k) 0 m7A (m7c [true, true, true, true, true, true, true, true]) (m7S34 t0' b0') (retK Try.prog Try.f7 [.leaf (.val .bool)])) := funext fun t0' => funext fun b0' => (m7q34 k t0' b0').symm
    show _ = m7X (m7F34 k) k p0 p1 p2 p3
    rw [e34]
    exact m7x (fun _ f => f) k p0 p1 p2 p3

noncomputable def m7sp : Spec := { ps := [.leaf (.val (.int .i64)), .st (.pair (.int .i64) (.pair (.int .i64) (.row (.int .u8)))), .leaf (.val (.int .i64)), .leaf (.val (.int .u8))], rs := [.leaf (.val .bool)], f := fun k a => m7F k a.1 a.2.1 a.2.2.1 a.2.2.2 }

theorem m7ok (k : Nat) : EnvOk (m7E k) := envOk_of (l := [(8, m8sp), (10, m10sp), (12, m12sp), (13, m13sp), (16, m16sp), (19, m19sp)]) progNames progMixed rfl (.cons ⟨m8con k, Try.f8, by kernel_rfl, by kernel_rfl⟩ (.cons ⟨m10con k, Try.f10, by kernel_rfl, by kernel_rfl⟩ (.cons ⟨m12con k, Try.f12, by kernel_rfl, by kernel_rfl⟩ (.cons ⟨m13con k, Try.f13, by kernel_rfl, by kernel_rfl⟩ (.cons ⟨m16con k, Try.f16, by kernel_rfl, by kernel_rfl⟩ (.cons ⟨m19con k, Try.f19, by kernel_rfl, by kernel_rfl⟩ (.nil)))))))

theorem m7con (k : Nat) : Contract Try.prog k 7 m7sp := contract_of (E := m7E k) (m7ok k) (A := only 7 m7A) (d := 3) (c := m7c []) (by kernel_rfl) (by kernel_rfl) fun a _ h => (m7q k a.1 a.2.1 a.2.2.1 a.2.2.2).trans h

end Go.Proofs.Ytojomolplnnpmaa.Mini
