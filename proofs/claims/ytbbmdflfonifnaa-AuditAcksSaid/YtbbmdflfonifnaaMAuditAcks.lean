/- Printed by a program of this session's (MPrint, over wip/mini): plain functions of the program's, and that they are what it does. Lean checks it. -/
import Derived.Test.YtbbmdflfonifnaaMF1
set_option linter.unusedVariables false
namespace Go.Proofs.Ytbbmdflfonifnaa.Mini
open Go Go.RowKit Go.Proofs

noncomputable def m3A : Anns := tabA [(9, { keep := [0, 1, 2, 7] }), (16, { keep := [0, 1, 2] }), (21, { keep := [1, 2, 8, 9] }), (22, { keep := [1, 2, 8, 9], fro := [1] }), (32, { keep := [1, 8] })]
noncomputable def m3E (k : Nat) : Env := { P := Try.prog, k := k, G := tabG [(7, m7sp), (8, m8sp), (9, m9sp), (10, m10sp), (11, m11sp), (12, m12sp)], GB := tabGB [] }
noncomputable def m3c (p : List Bool) : Code := sub p (bodyOf Try.f3)
noncomputable def m3I (k : Nat) : Inl Bool := inlOf (m3E k) (only 3 m3A) 3
noncomputable def m3K0 (M : Cut Bool) (k : Nat) : Exit → St → Option Bool := seqK (normAt 0 m3A false (m3c [true])) (cutK M m3A (m3c [true]) fun s => evC (m3E k) M (m3I k) 0 m3A (m3c [true]) s (retK Try.prog Try.f3 [.leaf (.val .bool)])) (retK Try.prog Try.f3 [.leaf (.val .bool)])
noncomputable def m3K1 (M : Cut Bool) (k : Nat) : Exit → St → Option Bool := seqK (normAt 0 m3A false (m3c [true, true])) (cutK M m3A (m3c [true, true]) fun s => evC (m3E k) M (m3I k) 0 m3A (m3c [true, true]) s (retK Try.prog Try.f3 [.leaf (.val .bool)])) (retK Try.prog Try.f3 [.leaf (.val .bool)])
noncomputable def m3K2 (M : Cut Bool) (k : Nat) : Exit → St → Option Bool := seqK (normAt 0 m3A false (m3c [true, false, true])) (cutK M m3A (m3c [true, false, true]) fun s => evC (m3E k) M (m3I k) 0 m3A (m3c [true, false, true]) s (m3K1 M k)) (m3K1 M k)
noncomputable def m3K3 (M : Cut Bool) (k : Nat) : Exit → St → Option Bool := seqK (normAt 0 m3A false (m3c [true, false, true, false, true])) (cutK M m3A (m3c [true, false, true, false, true]) fun s => evC (m3E k) M (m3I k) 0 m3A (m3c [true, false, true, false, true]) s (m3K1 M k)) (m3K1 M k)
noncomputable def m3K4 (M : Cut Bool) (k : Nat) : Exit → St → Option Bool := seqK (normAt 0 m3A false (m3c [true, true, true])) (cutK M m3A (m3c [true, true, true]) fun s => evC (m3E k) M (m3I k) 0 m3A (m3c [true, true, true]) s (retK Try.prog Try.f3 [.leaf (.val .bool)])) (retK Try.prog Try.f3 [.leaf (.val .bool)])
noncomputable def m3K5 (M : Cut Bool) (k : Nat) : Exit → St → Option Bool := seqK (normAt 0 m3A false (m3c [true, true, false, true])) (cutK M m3A (m3c [true, true, false, true]) fun s => evC (m3E k) M (m3I k) 0 m3A (m3c [true, true, false, true]) s (m3K4 M k)) (m3K4 M k)
noncomputable def m3K6 (M : Cut Bool) (k : Nat) : Exit → St → Option Bool := blockK 0 (m3K4 M k)
noncomputable def m3K7 (M : Cut Bool) (k : Nat) (L9 : St → Option Bool) : Exit → St → Option Bool := seqK (normAt 0 m3A true (m3c [true, true, false, true, true, true])) L9 (m3K6 M k)
noncomputable def m3K8 (M : Cut Bool) (k : Nat) (L9 : St → Option Bool) : Exit → St → Option Bool := seqK (normAt 0 m3A false (m3c [true, true, false, true, true, true, true])) (cutK M m3A (m3c [true, true, false, true, true, true, true]) fun s => evC (m3E k) M (m3I k) 0 m3A (m3c [true, true, false, true, true, true, true]) s (m3K7 M k L9)) (m3K7 M k L9)
noncomputable def m3K9 (M : Cut Bool) (k : Nat) (L9 : St → Option Bool) : Exit → St → Option Bool := seqK (normAt 0 m3A false (m3c [true, true, false, true, true, true, false, true])) (cutK M m3A (m3c [true, true, false, true, true, true, false, true]) fun s => evC (m3E k) M (m3I k) 0 m3A (m3c [true, true, false, true, true, true, false, true]) s (m3K8 M k L9)) (m3K8 M k L9)
noncomputable def m3K10 (M : Cut Bool) (k : Nat) (L9 : St → Option Bool) : Exit → St → Option Bool := seqK (normAt 0 m3A false (m3c [true, true, false, true, true, true, true, true])) (cutK M m3A (m3c [true, true, false, true, true, true, true, true]) fun s => evC (m3E k) M (m3I k) 0 m3A (m3c [true, true, false, true, true, true, true, true]) s (m3K7 M k L9)) (m3K7 M k L9)
noncomputable def m3K11 (M : Cut Bool) (k : Nat) (L9 : St → Option Bool) : Exit → St → Option Bool := blockK 1 (m3K10 M k L9)
noncomputable def m3K12 (M : Cut Bool) (k : Nat) (L9 : St → Option Bool) : Exit → St → Option Bool := seqK (normAt 0 m3A false (m3c [true, true, false, true, true, true, true, false, true, true])) (cutK M m3A (m3c [true, true, false, true, true, true, true, false, true, true]) fun s => evC (m3E k) M (m3I k) 0 m3A (m3c [true, true, false, true, true, true, true, false, true, true]) s (m3K11 M k L9)) (m3K11 M k L9)
noncomputable def m3K13 (M : Cut Bool) (k : Nat) (L9 : St → Option Bool) : Exit → St → Option Bool := seqK (normAt 0 m3A false (m3c [true, true, false, true, true, true, true, false, true, true, false, true])) (cutK M m3A (m3c [true, true, false, true, true, true, true, false, true, true, false, true]) fun s => evC (m3E k) M (m3I k) 0 m3A (m3c [true, true, false, true, true, true, true, false, true, true, false, true]) s (m3K11 M k L9)) (m3K11 M k L9)
noncomputable def m3K14 (M : Cut Bool) (k : Nat) : Exit → St → Option Bool := seqK (normAt 0 m3A false (m3c [true, true, true, true])) (cutK M m3A (m3c [true, true, true, true]) fun s => evC (m3E k) M (m3I k) 0 m3A (m3c [true, true, true, true]) s (retK Try.prog Try.f3 [.leaf (.val .bool)])) (retK Try.prog Try.f3 [.leaf (.val .bool)])
noncomputable def m3K15 (M : Cut Bool) (k : Nat) : Exit → St → Option Bool := seqK (normAt 0 m3A false (m3c [true, true, true, true, true])) (cutK M m3A (m3c [true, true, true, true, true]) fun s => evC (m3E k) M (m3I k) 0 m3A (m3c [true, true, true, true, true]) s (retK Try.prog Try.f3 [.leaf (.val .bool)])) (retK Try.prog Try.f3 [.leaf (.val .bool)])
noncomputable def m3K16 (M : Cut Bool) (k : Nat) : Exit → St → Option Bool := seqK (normAt 0 m3A false (m3c [true, true, true, true, false, true])) (cutK M m3A (m3c [true, true, true, true, false, true]) fun s => evC (m3E k) M (m3I k) 0 m3A (m3c [true, true, true, true, false, true]) s (m3K15 M k)) (m3K15 M k)
noncomputable def m3K17 (M : Cut Bool) (k : Nat) : Exit → St → Option Bool := blockK 2 (m3K15 M k)
noncomputable def m3K18 (M : Cut Bool) (k : Nat) (L21 : St → Option Bool) : Exit → St → Option Bool := seqK (normAt 0 m3A true (m3c [true, true, true, true, false, true, true, true])) L21 (m3K17 M k)
noncomputable def m3K19 (M : Cut Bool) (k : Nat) (L21 : St → Option Bool) : Exit → St → Option Bool := seqK (normAt 0 m3A false (m3c [true, true, true, true, false, true, true, true, true])) (cutK M m3A (m3c [true, true, true, true, false, true, true, true, true]) fun s => evC (m3E k) M (m3I k) 0 m3A (m3c [true, true, true, true, false, true, true, true, true]) s (m3K18 M k L21)) (m3K18 M k L21)
noncomputable def m3K20 (M : Cut Bool) (k : Nat) (L21 : St → Option Bool) : Exit → St → Option Bool := seqK (normAt 0 m3A false (m3c [true, true, true, true, false, true, true, true, false, true])) (cutK M m3A (m3c [true, true, true, true, false, true, true, true, false, true]) fun s => evC (m3E k) M (m3I k) 0 m3A (m3c [true, true, true, true, false, true, true, true, false, true]) s (m3K19 M k L21)) (m3K19 M k L21)
noncomputable def m3K21 (M : Cut Bool) (k : Nat) (L21 : St → Option Bool) : Exit → St → Option Bool := seqK (normAt 0 m3A false (m3c [true, true, true, true, false, true, true, true, true, true])) (cutK M m3A (m3c [true, true, true, true, false, true, true, true, true, true]) fun s => evC (m3E k) M (m3I k) 0 m3A (m3c [true, true, true, true, false, true, true, true, true, true]) s (m3K18 M k L21)) (m3K18 M k L21)
noncomputable def m3K22 (M : Cut Bool) (k : Nat) (L21 : St → Option Bool) : Exit → St → Option Bool := blockK 3 (m3K21 M k L21)
noncomputable def m3K23 (M : Cut Bool) (k : Nat) (L21 : St → Option Bool) : Exit → St → Option Bool := seqK (normAt 0 m3A false (m3c [true, true, true, true, false, true, true, true, true, false, true, true])) (cutK M m3A (m3c [true, true, true, true, false, true, true, true, true, false, true, true]) fun s => evC (m3E k) M (m3I k) 0 m3A (m3c [true, true, true, true, false, true, true, true, true, false, true, true]) s (m3K22 M k L21)) (m3K22 M k L21)
noncomputable def m3K24 (M : Cut Bool) (k : Nat) (L21 : St → Option Bool) : Exit → St → Option Bool := seqK (normAt 0 m3A false (m3c [true, true, true, true, false, true, true, true, true, false, true, true, true])) (cutK M m3A (m3c [true, true, true, true, false, true, true, true, true, false, true, true, true]) fun s => evC (m3E k) M (m3I k) 0 m3A (m3c [true, true, true, true, false, true, true, true, true, false, true, true, true]) s (m3K22 M k L21)) (m3K22 M k L21)
noncomputable def m3K25 (M : Cut Bool) (k : Nat) (L21 : St → Option Bool) : Exit → St → Option Bool := seqK (normAt 0 m3A false (m3c [true, true, true, true, false, true, true, true, true, false, true, true, true, true])) (cutK M m3A (m3c [true, true, true, true, false, true, true, true, true, false, true, true, true, true]) fun s => evC (m3E k) M (m3I k) 0 m3A (m3c [true, true, true, true, false, true, true, true, true, false, true, true, true, true]) s (m3K22 M k L21)) (m3K22 M k L21)
noncomputable def m3K26 (M : Cut Bool) (k : Nat) : Exit → St → Option Bool := seqK (normAt 0 m3A false (m3c [true, true, true, true, true, true])) (cutK M m3A (m3c [true, true, true, true, true, true]) fun s => evC (m3E k) M (m3I k) 0 m3A (m3c [true, true, true, true, true, true]) s (retK Try.prog Try.f3 [.leaf (.val .bool)])) (retK Try.prog Try.f3 [.leaf (.val .bool)])
noncomputable def m3S9 (t0 : List (Bool × (List Int))) (t1 : List (List Int)) (t2 : List Int) (t7 : Int) : St := { n := 91, tm := slots [(0, .row (.pair .bool (.row (.int .u8))) t0), (1, .row (.row (.int .u8)) t1), (2, .row (.int .i64) t2), (7, .int .i64 t7)], tab := blks [], nx := 0 }
noncomputable def m3S16 (t0 : List (Bool × (List Int))) (t1 : List (List Int)) (t2 : List Int) : St := { n := 91, tm := slots [(0, .row (.pair .bool (.row (.int .u8))) t0), (1, .row (.row (.int .u8)) t1), (2, .row (.int .i64) t2)], tab := blks [], nx := 0 }
noncomputable def m3S21 (t1 : List (List Int)) (t2 : List Int) (t9 : Int) (b0 : List (Bool × (List Int))) : St := { n := 91, tm := slots [(1, .row (.row (.int .u8)) t1), (2, .row (.int .i64) t2), (8, .own 0), (9, .int .i64 t9)], tab := blks [some (.row true (.pair .bool (.row (.int .u8))) 28 b0)], nx := 1 }
noncomputable def m3S22 (t1 : List (List Int)) (t2 : List Int) (t9 : Int) (b0 : List (Bool × (List Int))) : St := { n := 91, tm := slots [(1, .row (.row (.int .u8)) t1), (2, .row (.int .i64) t2), (8, .own 0), (9, .int .i64 t9)], tab := blks [some (.row true (.pair .bool (.row (.int .u8))) 28 b0)], nx := 1 }
noncomputable def m3S32 (t1 : List (List Int)) (b0 : List (Bool × (List Int))) : St := { n := 91, tm := slots [(1, .row (.row (.int .u8)) t1), (8, .own 0)], tab := blks [some (.row true (.pair .bool (.row (.int .u8))) 28 b0)], nx := 1 }

noncomputable def m3X (X9 : List (Bool × (List Int)) → List (List Int) → List Int → Int → Option Bool) (k : Nat) (p0 : (List (Bool × (List Int)))) (p1 : (List (List Int))) (p2 : (List Int)) : Option Bool := (if ltI 30 (↑(List.length p0) : Int) = true then some (true) else (Option.bind (m7F k p1) fun (c5 : Bool) => (if c5 = true then some (true) else (if ltI 30 (↑(List.length p2) : Int) = true then some (true) else X9 p0 p1 p2 (0)))))

theorem m3x (M : Cut Bool) (k : Nat) (p0 : (List (Bool × (List Int)))) (p1 : (List (List Int))) (p2 : (List Int)) : evC (m3E k) M (m3I k) 0 m3A (m3c []) (stAt Try.f3 (argSs [.leaf (.val (.row (.pair .bool (.row (.int .u8))))), .leaf (.val (.row (.row (.int .u8)))), .leaf (.val (.row (.int .i64)))] (p0, p1, p2)) (fun _ => none) 0) (retK Try.prog Try.f3 [.leaf (.val .bool)]) = m3X (fun t0' t1' t2' t7' => loopN (normAt 0 m3A true (m3c [true, true, false, true, true, true])) (fun K s => evC (m3E k) M (m3I k) 0 m3A (m3c [true, true, false, true, true, true]) s K) (m3K6 M k) k (m3S9 t0' t1' t2' t7')) k p0 p1 p2 := by kernel_rfl

noncomputable def m3X9 (X16 : List (Bool × (List Int)) → List (List Int) → List Int → Option Bool) (L9 : List (Bool × (List Int)) → List (List Int) → List Int → Int → Option Bool) (k : Nat) (t0 : List (Bool × (List Int))) (t1 : List (List Int)) (t2 : List Int) (t7 : Int) : Option Bool := (if ltI t7 (↑(List.length t0) : Int) = true then (if leI 0 t7 = true then (if ltI t7 (↑(List.length t0) : Int) = true then (if ltI 250 (↑(List.length (Prod.snd (List.getD t0 (Int.toNat t7) (false, [])))) : Int) = true then some (true) else L9 t0 t1 t2 (wr IntKind.i64 (t7 + 1))) else none) else none) else X16 t0 t1 t2)

theorem m3x9 (M : Cut Bool) (k : Nat) (L9 : St → Option Bool) (t0 : List (Bool × (List Int))) (t1 : List (List Int)) (t2 : List Int) (t7 : Int) : evC (m3E k) M (m3I k) 0 m3A (m3c [true, true, false, true, true, true]) (m3S9 t0 t1 t2 t7) (seqK (normAt 0 m3A true (m3c [true, true, false, true, true, true])) L9 (m3K6 M k)) = m3X9 (fun t0' t1' t2' => M 16 (fun s => evC (m3E k) M (m3I k) 0 m3A (m3c [true, true, true]) s (retK Try.prog Try.f3 [.leaf (.val .bool)])) (m3S16 t0' t1' t2')) (fun t0' t1' t2' t7' => L9 (m3S9 t0' t1' t2' t7')) k t0 t1 t2 t7 := by kernel_rfl

noncomputable def m3X16 (X21 : List (List Int) → List Int → Int → List (Bool × (List Int)) → Option Bool) (k : Nat) (t0 : List (Bool × (List Int))) (t1 : List (List Int)) (t2 : List Int) : Option Bool := (if leI (↑((0 + List.length t0) * 32) : Int) 140737488355328 = true then X21 t1 t2 (0) (List.replicate 0 (false, []) ++ t0) else none)

theorem m3x16 (M : Cut Bool) (k : Nat) (t0 : List (Bool × (List Int))) (t1 : List (List Int)) (t2 : List Int) : evC (m3E k) M (m3I k) 0 m3A (m3c [true, true, true]) (m3S16 t0 t1 t2) (retK Try.prog Try.f3 [.leaf (.val .bool)]) = m3X16 (fun t1' t2' t9' b0' => loopN (normAt 0 m3A true (m3c [true, true, true, true, false, true, true, true])) (fun K s => evC (m3E k) M (m3I k) 0 m3A (m3c [true, true, true, true, false, true, true, true]) s K) (m3K17 M k) k (m3S21 t1' t2' t9' b0')) k t0 t1 t2 := by kernel_rfl

noncomputable def m3X21 (X22 : List (List Int) → List Int → Int → List (Bool × (List Int)) → Option Bool) (X32 : List (List Int) → List (Bool × (List Int)) → Option Bool) (k : Nat) (t1 : List (List Int)) (t2 : List Int) (t9 : Int) (b0 : List (Bool × (List Int))) : Option Bool := (if ltI t9 (↑(List.length t2) : Int) = true then (if leI 0 t9 = true then (if ltI t9 (↑(List.length t2) : Int) = true then (if (!eqI 50 0) = true then (if leI 0 t9 = true then (if ltI t9 (↑(List.length t2) : Int) = true then (Option.bind (m8F k
  (wr IntKind.i64 (Int.tmod (wr IntKind.u64 (List.getD t2 (Int.toNat t9) 0)) 50),
    wr IntKind.u32 (List.getD t2 (Int.toNat t9) 0))) fun (c7 : (List Int)) => (if leI 0 t9 = true then (if ltI t9 (↑(List.length t2) : Int) = true then (if (!eqI 3 0) = true then (if leI
    (↑((List.length b0 +
            List.length
              (List.set (List.replicate 1 (false, [])) 0 (!eqI (Int.tmod (List.getD t2 (Int.toNat t9) 0) 3) 0, c7))) *
          32) :
      Int)
    140737488355328 =
  true then (if leI 0 t9 = true then (if ltI t9 (↑(List.length t2) : Int) = true then (if (!eqI 2 0) = true then (if eqI (Int.tmod (List.getD t2 (Int.toNat t9) 0) 2) 0 = true then (Option.bind (m9F k t1) fun (c8 : (List (List Int))) => (if leI (↑((List.length c8 + List.length (List.set (List.replicate 1 []) 0 c7)) * 24) : Int) 140737488355328 = true then X22 (c8 ++ List.set (List.replicate 1 []) 0 c7) t2 t9 (b0 ++ List.set (List.replicate 1 (false, [])) 0 (!eqI (Int.tmod (List.getD t2 (Int.toNat t9) 0) 3) 0, c7)) else none)) else X22 t1 t2 t9 (b0 ++ List.set (List.replicate 1 (false, [])) 0 (!eqI (Int.tmod (List.getD t2 (Int.toNat t9) 0) 3) 0, c7))) else none) else none) else none) else none) else none) else none) else none)) else none) else none) else none) else none) else none) else X32 t1 b0)

theorem m3x21 (M : Cut Bool) (k : Nat) (L21 : St → Option Bool) (t1 : List (List Int)) (t2 : List Int) (t9 : Int) (b0 : List (Bool × (List Int))) : evC (m3E k) M (m3I k) 0 m3A (m3c [true, true, true, true, false, true, true, true]) (m3S21 t1 t2 t9 b0) (seqK (normAt 0 m3A true (m3c [true, true, true, true, false, true, true, true])) L21 (m3K17 M k)) = m3X21 (fun t1' t2' t9' b0' => M 22 (fun s => evC (m3E k) M (m3I k) 0 m3A (m3c [true, true, true, true, false, true, true, true, true, true]) s (m3K18 M k L21)) (m3S22 t1' t2' t9' b0')) (fun t1' b0' => M 32 (fun s => evC (m3E k) M (m3I k) 0 m3A (m3c [true, true, true, true, true]) s (retK Try.prog Try.f3 [.leaf (.val .bool)])) (m3S32 t1' b0')) k t1 t2 t9 b0 := by kernel_rfl

noncomputable def m3X22 (L21 : List (List Int) → List Int → Int → List (Bool × (List Int)) → Option Bool) (k : Nat) (t1 : List (List Int)) (t2 : List Int) (t9 : Int) (b0 : List (Bool × (List Int))) : Option Bool := L21 t1 t2 (wr IntKind.i64 (t9 + 1)) b0

theorem m3x22 (M : Cut Bool) (k : Nat) (L21 : St → Option Bool) (t1 : List (List Int)) (t2 : List Int) (t9 : Int) (b0 : List (Bool × (List Int))) : evC (m3E k) M (m3I k) 0 m3A (m3c [true, true, true, true, false, true, true, true, true, true]) (m3S22 t1 t2 t9 b0) (m3K18 M k L21) = m3X22 (fun t1' t2' t9' b0' => L21 (m3S21 t1' t2' t9' b0')) k t1 t2 t9 b0 := by kernel_rfl

noncomputable def m3X32 (k : Nat) (t1 : List (List Int)) (b0 : List (Bool × (List Int))) : Option Bool := (Option.bind (m10F k b0 t1) fun (c4 : Int) => (Option.bind (m11F k b0 t1) fun (c5 : Int) => (if eqI c4 c5 = true then (Option.bind (m12F k) fun (c6 : Bool) => some c6) else some (false))))

theorem m3x32 (M : Cut Bool) (k : Nat) (t1 : List (List Int)) (b0 : List (Bool × (List Int))) : evC (m3E k) M (m3I k) 0 m3A (m3c [true, true, true, true, true]) (m3S32 t1 b0) (retK Try.prog Try.f3 [.leaf (.val .bool)]) = m3X32 k t1 b0 := by kernel_rfl

noncomputable def m3F22 (k : Nat) (L21 : List (List Int) → List Int → Int → List (Bool × (List Int)) → Option Bool) (t1 : List (List Int)) (t2 : List Int) (t9 : Int) (b0 : List (Bool × (List Int))) : Option Bool := m3X22 L21 k t1 t2 t9 b0

theorem m3q22 (k : Nat) (L21 : St → Option Bool) (t1 : List (List Int)) (t2 : List Int) (t9 : Int) (b0 : List (Bool × (List Int))) : evC (m3E k) (fun _ f => f) (m3I k) 0 m3A (m3c [true, true, true, true, false, true, true, true, true, true]) (m3S22 t1 t2 t9 b0) (m3K18 (fun _ f => f) k L21) = m3F22 k (fun t1' t2' t9' b0' => L21 (m3S21 t1' t2' t9' b0')) t1 t2 t9 b0 := by
    show _ = m3X22 (fun t1' t2' t9' b0' => L21 (m3S21 t1' t2' t9' b0')) k t1 t2 t9 b0
    exact m3x22 (fun _ f => f) k L21 t1 t2 t9 b0

noncomputable def m3F32 (k : Nat) (t1 : List (List Int)) (b0 : List (Bool × (List Int))) : Option Bool := m3X32 k t1 b0

theorem m3q32 (k : Nat) (t1 : List (List Int)) (b0 : List (Bool × (List Int))) : evC (m3E k) (fun _ f => f) (m3I k) 0 m3A (m3c [true, true, true, true, true]) (m3S32 t1 b0) (retK Try.prog Try.f3 [.leaf (.val .bool)]) = m3F32 k t1 b0 := by
    show _ = m3X32 k t1 b0
    exact m3x32 (fun _ f => f) k t1 b0

noncomputable def m3F21 (k : Nat) : Nat → List (List Int) → List Int → Int → List (Bool × (List Int)) → Option Bool
  | 0, _, _, _, _ => none
  | j + 1, t1, t2, t9, b0 => m3X21 (m3F22 k (m3F21 k j)) (m3F32 k) k t1 t2 t9 b0

theorem m3q21 (k : Nat) : ∀ (j : Nat) (t1 : List (List Int)) (t2 : List Int) (t9 : Int) (b0 : List (Bool × (List Int))), loopN (normAt 0 m3A true (m3c [true, true, true, true, false, true, true, true])) (fun K s => evC (m3E k) (fun _ f => f) (m3I k) 0 m3A (m3c [true, true, true, true, false, true, true, true]) s K) (m3K17 (fun _ f => f) k) j (m3S21 t1 t2 t9 b0) = m3F21 k j t1 t2 t9 b0
  | 0, _, _, _, _ => rfl
  | j + 1, t1, t2, t9, b0 => by
    have e0 : m3F21 k j = (fun t1' t2' t9' b0' => loopN (normAt 0 m3A true (m3c [true, true, true, true, false, true, true, true])) (fun K s => evC (m3E k) (fun _ f => f) (m3I k) 0 m3A (m3c [true, true, true, true, false, true, true, true]) s K) (m3K17 (fun _ f => f) k) j (m3S21 t1' t2' t9' b0')) := funext fun t1' => funext fun t2' => funext fun t9' => funext fun b0' => (m3q21 k j t1' t2' t9' b0').symm
    have e22 : m3F22 k (fun t1' t2' t9' b0' => loopN (normAt 0 m3A true (m3c [true, true, true, true, false, true, true, true])) (fun K s => evC (m3E k) (fun _ f => f) (m3I k) 0 m3A (m3c [true, true, true, true, false, true, true, true]) s K) (m3K17 (fun _ f => f) k) j (m3S21 t1' t2' t9' b0')) = (fun t1' t2' t9' b0' => evC (m3E k) (fun _ f => f) (m3I k) 0 m3A (m3c [true, true, true, true, false, true, true, true, true, true]) (m3S22 t1' t2' t9' b0') (m3K18 (fun _ f => f) k (loopN (normAt 0 m3A true (m3c [true, true, true, true, false, true, true, true])) (fun K s => evC (m3E k) (fun _ f => f) (m3I k) 0 m3A (m3c [true, true, true, true, false, true, true, true]) s K) (m3K17 (fun _ f => f) k) j))) := funext fun t1' => funext fun t2' => funext fun t9' => funext fun b0' => (m3q22 k (loopN (normAt 0 m3A true (m3c [true, true, true, true, false, true, true, true])) (fun K s => evC (m3E k) (fun _ f => f) (m3I k) 0 m3A (m3c [true, true, true, true, false, true, true, true]) s K) (m3K17 (fun _ f => f) k) j) t1' t2' t9' b0').symm
    have e32 : m3F32 k = (fun t1' b0' => evC (m3E k) (fun _ f => f) (m3I k) 0 m3A (m3c [true, true, true, true, true]) (m3S32 t1' b0') (retK Try.prog Try.f3 [.leaf (.val .bool)])) := funext fun t1' => funext fun b0' => (m3q32 k t1' b0').symm
    show _ = m3X21 (m3F22 k (m3F21 k j)) (m3F32 k) k t1 t2 t9 b0
    rw [e0, e22, e32]
    exact m3x21 (fun _ f => f) k (loopN (normAt 0 m3A true (m3c [true, true, true, true, false, true, true, true])) (fun K s => evC (m3E k) (fun _ f => f) (m3I k) 0 m3A (m3c [true, true, true, true, false, true, true, true]) s K) (m3K17 (fun _ f => f) k) j) t1 t2 t9 b0

noncomputable def m3F16 (k : Nat) (t0 : List (Bool × (List Int))) (t1 : List (List Int)) (t2 : List Int) : Option Bool := m3X16 (m3F21 k k) k t0 t1 t2

theorem m3q16 (k : Nat) (t0 : List (Bool × (List Int))) (t1 : List (List Int)) (t2 : List Int) : evC (m3E k) (fun _ f => f) (m3I k) 0 m3A (m3c [true, true, true]) (m3S16 t0 t1 t2) (retK Try.prog Try.f3 [.leaf (.val .bool)]) = m3F16 k t0 t1 t2 := by
    have e21 : m3F21 k k = (fun t1' t2' t9' b0' => loopN (normAt 0 m3A true (m3c [true, true, true, true, false, true, true, true])) (fun K s => evC (m3E k) (fun _ f => f) (m3I k) 0 m3A (m3c [true, true, true, true, false, true, true, true]) s K) (m3K17 (fun _ f => f) k) k (m3S21 t1' t2' t9' b0')) := funext fun t1' => funext fun t2' => funext fun t9' => funext fun b0' => (m3q21 k k t1' t2' t9' b0').symm
    show _ = m3X16 (m3F21 k k) k t0 t1 t2
    rw [e21]
    exact m3x16 (fun _ f => f) k t0 t1 t2

noncomputable def m3F9 (k : Nat) : Nat → List (Bool × (List Int)) → List (List Int) → List Int → Int → Option Bool
  | 0, _, _, _, _ => none
  | j + 1, t0, t1, t2, t7 => m3X9 (m3F16 k) (m3F9 k j) k t0 t1 t2 t7

theorem m3q9 (k : Nat) : ∀ (j : Nat) (t0 : List (Bool × (List Int))) (t1 : List (List Int)) (t2 : List Int) (t7 : Int), loopN (normAt 0 m3A true (m3c [true, true, false, true, true, true])) (fun K s => evC (m3E k) (fun _ f => f) (m3I k) 0 m3A (m3c [true, true, false, true, true, true]) s K) (m3K6 (fun _ f => f) k) j (m3S9 t0 t1 t2 t7) = m3F9 k j t0 t1 t2 t7
  | 0, _, _, _, _ => rfl
  | j + 1, t0, t1, t2, t7 => by
    have e0 : m3F9 k j = (fun t0' t1' t2' t7' => loopN (normAt 0 m3A true (m3c [true, true, false, true, true, true])) (fun K s => evC (m3E k) (fun _ f => f) (m3I k) 0 m3A (m3c [true, true, false, true, true, true]) s K) (m3K6 (fun _ f => f) k) j (m3S9 t0' t1' t2' t7')) := funext fun t0' => funext fun t1' => funext fun t2' => funext fun t7' => (m3q9 k j t0' t1' t2' t7').symm
    have e16 : m3F16 k = (fun t0' t1' t2' => evC (m3E k) (fun _ f => f) (m3I k) 0 m3A (m3c [true, true, true]) (m3S16 t0' t1' t2') (retK Try.prog Try.f3 [.leaf (.val .bool)])) := funext fun t0' => funext fun t1' => funext fun t2' => (m3q16 k t0' t1' t2').symm
    show _ = m3X9 (m3F16 k) (m3F9 k j) k t0 t1 t2 t7
    rw [e0, e16]
    exact m3x9 (fun _ f => f) k (loopN (normAt 0 m3A true (m3c [true, true, false, true, true, true])) (fun K s => evC (m3E k) (fun _ f => f) (m3I k) 0 m3A (m3c [true, true, false, true, true, true]) s K) (m3K6 (fun _ f => f) k) j) t0 t1 t2 t7

noncomputable def m3F (k : Nat) (p0 : (List (Bool × (List Int)))) (p1 : (List (List Int))) (p2 : (List Int)) : Option Bool := m3X (m3F9 k k) k p0 p1 p2

theorem m3q (k : Nat) (p0 : (List (Bool × (List Int)))) (p1 : (List (List Int))) (p2 : (List Int)) : evC (m3E k) (fun _ f => f) (m3I k) 0 m3A (m3c []) (stAt Try.f3 (argSs [.leaf (.val (.row (.pair .bool (.row (.int .u8))))), .leaf (.val (.row (.row (.int .u8)))), .leaf (.val (.row (.int .i64)))] (p0, p1, p2)) (fun _ => none) 0) (retK Try.prog Try.f3 [.leaf (.val .bool)]) = m3F k p0 p1 p2 := by
    have e9 : m3F9 k k = (fun t0' t1' t2' t7' => loopN (normAt 0 m3A true (m3c [true, true, false, true, true, true])) (fun K s => evC (m3E k) (fun _ f => f) (m3I k) 0 m3A (m3c [true, true, false, true, true, true]) s K) (m3K6 (fun _ f => f) k) k (m3S9 t0' t1' t2' t7')) := funext fun t0' => funext fun t1' => funext fun t2' => funext fun t7' => (m3q9 k k t0' t1' t2' t7').symm
    show _ = m3X (m3F9 k k) k p0 p1 p2
    rw [e9]
    exact m3x (fun _ f => f) k p0 p1 p2

noncomputable def m3sp : Spec := { ps := [.leaf (.val (.row (.pair .bool (.row (.int .u8))))), .leaf (.val (.row (.row (.int .u8)))), .leaf (.val (.row (.int .i64)))], rs := [.leaf (.val .bool)], f := fun k a => m3F k a.1 a.2.1 a.2.2 }

theorem m3ok (k : Nat) : EnvOk (m3E k) := envOk_of (l := [(7, m7sp), (8, m8sp), (9, m9sp), (10, m10sp), (11, m11sp), (12, m12sp)]) (lB := []) progNames progMixed rfl rfl (.cons ⟨m7con k, Try.f7, by kernel_rfl, by kernel_rfl⟩ (.cons ⟨m8con k, Try.f8, by kernel_rfl, by kernel_rfl⟩ (.cons ⟨m9con k, Try.f9, by kernel_rfl, by kernel_rfl⟩ (.cons ⟨m10con k, Try.f10, by kernel_rfl, by kernel_rfl⟩ (.cons ⟨m11con k, Try.f11, by kernel_rfl, by kernel_rfl⟩ (.cons ⟨m12con k, Try.f12, by kernel_rfl, by kernel_rfl⟩ (.nil))))))) (.nil)

theorem m3con (k : Nat) : Contract Try.prog k 3 m3sp := contract_of (E := m3E k) (m3ok k) (A := only 3 m3A) (d := 3) (c := m3c []) (by kernel_rfl) (by kernel_rfl) fun a _ h => (m3q k a.1 a.2.1 a.2.2).trans h

end Go.Proofs.Ytbbmdflfonifnaa.Mini
