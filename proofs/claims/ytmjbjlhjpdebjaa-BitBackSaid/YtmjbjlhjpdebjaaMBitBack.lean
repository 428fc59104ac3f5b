/- Printed by a program of this session's (MPrint, over wip/mini): plain functions of the program's, and that they are what it does. Lean checks it. -/
import Derived.Test.YtmjbjlhjpdebjaaMF
set_option linter.unusedVariables false
namespace Go.Proofs.Ytmjbjlhjpdebjaa.Mini
open Go Go.RowKit Go.Proofs

noncomputable def m9A : Anns := tabA []
noncomputable def m9E (k : Nat) : Env := { P := Try.prog, k := k, G := tabG [(12, m12sp), (14, m14sp), (15, m15sp), (20, m20sp), (21, m21sp), (24, m24sp), (29, m29sp), (31, m31sp)], GB := tabGB [], GG := tabGG [] }
noncomputable def m9c (p : List Bool) : Code := sub p (bodyOf Try.f9)
noncomputable def m9I (k : Nat) : Inl Bool := inlOf (m9E k) (only 9 m9A) 3
noncomputable def m9K0 (M : Cut Bool) (k : Nat) : Exit → St → Option Bool := seqK (normAt 0 m9A false (m9c [true])) (cutK M m9A (m9c [true]) fun s => evC (m9E k) M (m9I k) 0 m9A (m9c [true]) s (retK Try.prog Try.f9 [.leaf (.val .bool)])) (retK Try.prog Try.f9 [.leaf (.val .bool)])
noncomputable def m9K1 (M : Cut Bool) (k : Nat) : Exit → St → Option Bool := seqK (normAt 0 m9A false (m9c [true, true])) (cutK M m9A (m9c [true, true]) fun s => evC (m9E k) M (m9I k) 0 m9A (m9c [true, true]) s (retK Try.prog Try.f9 [.leaf (.val .bool)])) (retK Try.prog Try.f9 [.leaf (.val .bool)])
noncomputable def m9K2 (M : Cut Bool) (k : Nat) : Exit → St → Option Bool := seqK (normAt 0 m9A false (m9c [true, false, true])) (cutK M m9A (m9c [true, false, true]) fun s => evC (m9E k) M (m9I k) 0 m9A (m9c [true, false, true]) s (m9K1 M k)) (m9K1 M k)
noncomputable def m9K3 (M : Cut Bool) (k : Nat) : Exit → St → Option Bool := seqK (normAt 0 m9A false (m9c [true, false, true, false, true])) (cutK M m9A (m9c [true, false, true, false, true]) fun s => evC (m9E k) M (m9I k) 0 m9A (m9c [true, false, true, false, true]) s (m9K1 M k)) (m9K1 M k)
noncomputable def m9K4 (M : Cut Bool) (k : Nat) : Exit → St → Option Bool := seqK (normAt 0 m9A false (m9c [true, true, true])) (cutK M m9A (m9c [true, true, true]) fun s => evC (m9E k) M (m9I k) 0 m9A (m9c [true, true, true]) s (retK Try.prog Try.f9 [.leaf (.val .bool)])) (retK Try.prog Try.f9 [.leaf (.val .bool)])
noncomputable def m9K5 (M : Cut Bool) (k : Nat) : Exit → St → Option Bool := seqK (normAt 0 m9A false (m9c [true, true, true, true])) (cutK M m9A (m9c [true, true, true, true]) fun s => evC (m9E k) M (m9I k) 0 m9A (m9c [true, true, true, true]) s (retK Try.prog Try.f9 [.leaf (.val .bool)])) (retK Try.prog Try.f9 [.leaf (.val .bool)])
noncomputable def m9K6 (M : Cut Bool) (k : Nat) : Exit → St → Option Bool := seqK (normAt 0 m9A false (m9c [true, true, true, true, true])) (cutK M m9A (m9c [true, true, true, true, true]) fun s => evC (m9E k) M (m9I k) 0 m9A (m9c [true, true, true, true, true]) s (retK Try.prog Try.f9 [.leaf (.val .bool)])) (retK Try.prog Try.f9 [.leaf (.val .bool)])
noncomputable def m9K7 (M : Cut Bool) (k : Nat) : Exit → St → Option Bool := seqK (normAt 0 m9A false (m9c [true, true, true, true, true, true])) (cutK M m9A (m9c [true, true, true, true, true, true]) fun s => evC (m9E k) M (m9I k) 0 m9A (m9c [true, true, true, true, true, true]) s (retK Try.prog Try.f9 [.leaf (.val .bool)])) (retK Try.prog Try.f9 [.leaf (.val .bool)])
noncomputable def m9K8 (M : Cut Bool) (k : Nat) : Exit → St → Option Bool := seqK (normAt 0 m9A false (m9c [true, true, true, true, true, true, true])) (cutK M m9A (m9c [true, true, true, true, true, true, true]) fun s => evC (m9E k) M (m9I k) 0 m9A (m9c [true, true, true, true, true, true, true]) s (retK Try.prog Try.f9 [.leaf (.val .bool)])) (retK Try.prog Try.f9 [.leaf (.val .bool)])
noncomputable def m9K9 (M : Cut Bool) (k : Nat) : Exit → St → Option Bool := seqK (normAt 0 m9A false (m9c [true, true, true, true, true, true, false, true])) (cutK M m9A (m9c [true, true, true, true, true, true, false, true]) fun s => evC (m9E k) M (m9I k) 0 m9A (m9c [true, true, true, true, true, true, false, true]) s (m9K8 M k)) (m9K8 M k)
noncomputable def m9K10 (M : Cut Bool) (k : Nat) : Exit → St → Option Bool := seqK (normAt 0 m9A false (m9c [true, true, true, true, true, true, false, true, false, true])) (cutK M m9A (m9c [true, true, true, true, true, true, false, true, false, true]) fun s => evC (m9E k) M (m9I k) 0 m9A (m9c [true, true, true, true, true, true, false, true, false, true]) s (m9K8 M k)) (m9K8 M k)
noncomputable def m9K11 (M : Cut Bool) (k : Nat) : Exit → St → Option Bool := seqK (normAt 0 m9A false (m9c [true, true, true, true, true, true, true, true])) (cutK M m9A (m9c [true, true, true, true, true, true, true, true]) fun s => evC (m9E k) M (m9I k) 0 m9A (m9c [true, true, true, true, true, true, true, true]) s (retK Try.prog Try.f9 [.leaf (.val .bool)])) (retK Try.prog Try.f9 [.leaf (.val .bool)])
noncomputable def m9K12 (M : Cut Bool) (k : Nat) : Exit → St → Option Bool := seqK (normAt 0 m9A false (m9c [true, true, true, true, true, true, true, true, true])) (cutK M m9A (m9c [true, true, true, true, true, true, true, true, true]) fun s => evC (m9E k) M (m9I k) 0 m9A (m9c [true, true, true, true, true, true, true, true, true]) s (retK Try.prog Try.f9 [.leaf (.val .bool)])) (retK Try.prog Try.f9 [.leaf (.val .bool)])
noncomputable def m9K13 (M : Cut Bool) (k : Nat) : Exit → St → Option Bool := seqK (normAt 0 m9A false (m9c [true, true, true, true, true, true, true, true, true, true])) (cutK M m9A (m9c [true, true, true, true, true, true, true, true, true, true]) fun s => evC (m9E k) M (m9I k) 0 m9A (m9c [true, true, true, true, true, true, true, true, true, true]) s (retK Try.prog Try.f9 [.leaf (.val .bool)])) (retK Try.prog Try.f9 [.leaf (.val .bool)])
noncomputable def m9K14 (M : Cut Bool) (k : Nat) : Exit → St → Option Bool := seqK (normAt 0 m9A false (m9c [true, true, true, true, true, true, true, true, true, true, true])) (cutK M m9A (m9c [true, true, true, true, true, true, true, true, true, true, true]) fun s => evC (m9E k) M (m9I k) 0 m9A (m9c [true, true, true, true, true, true, true, true, true, true, true]) s (retK Try.prog Try.f9 [.leaf (.val .bool)])) (retK Try.prog Try.f9 [.leaf (.val .bool)])
noncomputable def m9K15 (M : Cut Bool) (k : Nat) : Exit → St → Option Bool := seqK (normAt 0 m9A false (m9c [true, true, true, true, true, true, true, true, true, true, true, true])) (cutK M m9A (m9c [true, true, true, true, true, true, true, true, true, true, true, true]) fun s => evC (m9E k) M (m9I k) 0 m9A (m9c [true, true, true, true, true, true, true, true, true, true, true, true]) s (retK Try.prog Try.f9 [.leaf (.val .bool)])) (retK Try.prog Try.f9 [.leaf (.val .bool)])

noncomputable def m9X (k : Nat) (p0 : (List Int)) (p1 : Int) (p2 : Int) : Option Bool := (if ltI 300 (↑(List.length p0) : Int) = true then some (true) else (Option.bind (m14F k p0) fun (c5 : ((List Int) × Int)) => (Option.bind (m15F k p0) fun (c6 : ((List Int) × Int)) => (Option.bind (m29F k (Prod.fst c5)) fun (c7 : ((List Int) × Int)) => (Option.bind (m31F k (Prod.fst c6)) fun (c8 : ((List Int) × Int)) => (if (!eqI (Prod.snd c5) 0) = true then some (false) else (if (!eqI (Prod.snd c6) 0) = true then some (false) else (if (!eqI (Prod.snd c7) 0) = true then some (false) else (if (!eqI (Prod.snd c8) 0) = true then some (false) else (if (!eqI (↑(List.length (Prod.fst c5)) : Int) (wr IntKind.i64 (8 * (↑(List.length p0) : Int)))) = true then some (false) else (if (!eqI (↑(List.length (Prod.fst c6)) : Int) (wr IntKind.i64 (2 * (↑(List.length p0) : Int)))) = true then some (false) else (Option.bind (m20F k (Prod.fst c7) p0) fun (c9 : Bool) => (if (!c9) = true then some (false) else (Option.bind (m20F k (Prod.fst c8) p0) fun (c10 : Bool) => (if (!c10) = true then some (false) else (if (!eqI 4 0) = true then (if leI 0 (wr IntKind.u64 (wr IntKind.i64 (8 * wr IntKind.i64 (1 + wr IntKind.i64 (Int.tmod (wr IntKind.u64 p2) 4))))) =
  true then (Option.bind (m21F k p0
  (bits BinOp.and IntKind.i64 p1
    (wr IntKind.i64
      (wr IntKind.i64
          (1 *
            Mini.p2
              (min
                (Int.toNat
                  (wr IntKind.u64
                    (wr IntKind.i64 (8 * wr IntKind.i64 (1 + wr IntKind.i64 (Int.tmod (wr IntKind.u64 p2) 4))))))
                64)) -
        1)))
  (wr IntKind.i64 (1 + wr IntKind.i64 (Int.tmod (wr IntKind.u64 p2) 4)))) fun (c11 : ((List Int) × Int)) => (Option.bind (m24F k (Prod.fst c11) (↑(List.length p0) : Int) (wr IntKind.i64 (1 + wr IntKind.i64 (Int.tmod (wr IntKind.u64 p2) 4)))) fun (c12 : (Int × Int)) => (if eqI (Prod.snd c11) 0 = true then (if eqI (Prod.snd c12) 0 = true then (if eqI (↑(List.length (Prod.fst c11)) : Int)
    (wr IntKind.i64
      ((↑(List.length p0) : Int) + wr IntKind.i64 (1 + wr IntKind.i64 (Int.tmod (wr IntKind.u64 p2) 4)))) =
  true then (if leI 0 (↑(List.length p0) : Int) = true then (if leI (↑(List.length p0) : Int) (↑(List.length (Prod.fst c11)) : Int) = true then (Option.bind (m20F k (List.take (Int.toNat (↑(List.length p0) : Int)) (List.drop 0 (Prod.fst c11))) p0) fun (c13 : Bool) => (if c13 = true then (if eqI (Prod.fst c12)
    (bits BinOp.and IntKind.i64 p1
      (wr IntKind.i64
        (wr IntKind.i64
            (1 *
              Mini.p2
                (min
                  (Int.toNat
                    (wr IntKind.u64
                      (wr IntKind.i64 (8 * wr IntKind.i64 (1 + wr IntKind.i64 (Int.tmod (wr IntKind.u64 p2) 4))))))
                  64)) -
          1))) =
  true then (Option.bind (m12F k) fun (c14 : Bool) => some c14) else some (false)) else some (false))) else none) else none) else some (false)) else some (false)) else some (false)))) else none) else none))))))))))))))))

theorem m9x (M : Cut Bool) (k : Nat) (p0 : (List Int)) (p1 : Int) (p2 : Int) : evC (m9E k) M (m9I k) 0 m9A (m9c []) (stAt Try.f9 (argSs [.leaf (.val (.row (.int .u8))), .leaf (.val (.int .i64)), .leaf (.val (.int .i64))] (p0, p1, p2)) (fun _ => none) 0) (retK Try.prog Try.f9 [.leaf (.val .bool)]) = m9X k p0 p1 p2 := by kernel_rfl

noncomputable def m9F (k : Nat) (p0 : (List Int)) (p1 : Int) (p2 : Int) : Option Bool := m9X k p0 p1 p2

theorem m9q (k : Nat) (p0 : (List Int)) (p1 : Int) (p2 : Int) : evC (m9E k) (fun _ f => f) (m9I k) 0 m9A (m9c []) (stAt Try.f9 (argSs [.leaf (.val (.row (.int .u8))), .leaf (.val (.int .i64)), .leaf (.val (.int .i64))] (p0, p1, p2)) (fun _ => none) 0) (retK Try.prog Try.f9 [.leaf (.val .bool)]) = m9F k p0 p1 p2 := by
    show _ = m9X k p0 p1 p2
    exact m9x (fun _ f => f) k p0 p1 p2

noncomputable def m9sp : Spec := { ps := [.leaf (.val (.row (.int .u8))), .leaf (.val (.int .i64)), .leaf (.val (.int .i64))], rs := [.leaf (.val .bool)], f := fun k a => m9F k a.1 a.2.1 a.2.2 }

theorem m9ok (k : Nat) : EnvOk (m9E k) := envOk_of (l := [(12, m12sp), (14, m14sp), (15, m15sp), (20, m20sp), (21, m21sp), (24, m24sp), (29, m29sp), (31, m31sp)]) (lB := []) (lG := []) progNames progMixed rfl rfl rfl (.cons ⟨m12con k, Try.f12, by kernel_rfl, by kernel_rfl⟩ (.cons ⟨m14con k, Try.f14, by kernel_rfl, by kernel_rfl⟩ (.cons ⟨m15con k, Try.f15, by kernel_rfl, by kernel_rfl⟩ (.cons ⟨m20con k, Try.f20, by kernel_rfl, by kernel_rfl⟩ (.cons ⟨m21con k, Try.f21, by kernel_rfl, by kernel_rfl⟩ (.cons ⟨m24con k, Try.f24, by kernel_rfl, by kernel_rfl⟩ (.cons ⟨m29con k, Try.f29, by kernel_rfl, by kernel_rfl⟩ (.cons ⟨m31con k, Try.f31, by kernel_rfl, by kernel_rfl⟩ (.nil))))))))) (.nil) (.nil)

theorem m9con (k : Nat) : Contract Try.prog k 9 m9sp := contract_of (E := m9E k) (m9ok k) (A := only 9 m9A) (d := 3) (c := m9c []) (by kernel_rfl) (by kernel_rfl) fun a _ h => (m9q k a.1 a.2.1 a.2.2).trans h

end Go.Proofs.Ytmjbjlhjpdebjaa.Mini
