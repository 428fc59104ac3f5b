/-
  No cell of these rows narrows 'for every input' (looked for: loops, veiled, ifaces, maps, wideKeys, modest, calm, conditions, laid).
  DERIVED. THE GIVEN ROWS OF THIS SEAT. 5 by the template 'for every input the law returns true; each argument reads behind the call as it read before'; 0 by the template 'total and deterministic' (their statements: YtojomolplnnpmaaTotals.lean).
  GIVEN WITH THE SEED: the statements are not yours to turn. If you find one false, say at which input.
  Laid BY PROGRAM, IN A SANDBOX (cutbox-rows.mjs): the forced cells as the released guide's own fill.sh prints them over the translation 931725b0d8693584… (all of the seat's roots in one cut). By AI agents, Wed Nov 11 2026. No macro, syntax, notation, axiom, sorry.
-/
import Derived.Test.YtojomolplnnpmaaChecked
import GoSem.Claim
import GoSem.ClaimJoined
import GoSem.ClaimMapViews
import Derived.JoinedTies
import Derived.KernelRfl
namespace Go.Proofs.Ytojomolplnnpmaa
/- THE CELL 'sum', in the pinned program and in every row, IS THE sha256 OF THE DUMP (.gsa) THAT YtojomolplnnpmaaProg.lean LOADS. Nothing in Lean hashes anything: it is a label: what it is worth is what the hold of that sum in a sandbox is worth. -/
noncomputable def Try.pinned : Pinned := { name := "ytojomolplnnpmaa", sum := "931725b0d8693584358f52d4ad8fb39ba2d205a58271ffe14ac7960bf75cfa45", checked := Try.checked }
namespace Rows
def none {H : Type} : Left H := { results := [], args := [] }

/-- 'volutelaw13.BlockExact': WHATEVER THE INPUT: true; the input reads as it did. -/
def blockExactSpec : ChangeSpec := { name := "blockExact", fn := fun _ => fun
  | [d1, d2] => { results := [.lit (.bool true)], args := [d1, d2] }
  | _ => none }
def blockExactRow : OpenClaim := { program := "ytojomolplnnpmaa", sum := "931725b0d8693584358f52d4ad8fb39ba2d205a58271ffe14ac7960bf75cfa45", func := "volute/volutelaw13.BlockExact", spec := "blockExact", apart := false }
def BlockExactSaid : Prop := blockExactRow.holds Try.pinned (OpenSpec.ofChange blockExactSpec)

/-- ITS FALSE NEIGHBOUR: 'it returns false'. Refute it at one input. -/
def blockExactWrong : ChangeSpec := { name := "blockExact", fn := fun _ => fun
  | [d1, d2] => { results := [.lit (.bool false)], args := [d1, d2] }
  | _ => none }
def BlockExactWrongFalsely : Prop := blockExactRow.holds Try.pinned (OpenSpec.ofChange blockExactWrong)

/-- 'volutelaw13.BlockReads': WHATEVER THE INPUT: true; the input reads as it did. -/
def blockReadsSpec : ChangeSpec := { name := "blockReads", fn := fun _ => fun
  | [d1, d2] => { results := [.lit (.bool true)], args := [d1, d2] }
  | _ => none }
def blockReadsRow : OpenClaim := { program := "ytojomolplnnpmaa", sum := "931725b0d8693584358f52d4ad8fb39ba2d205a58271ffe14ac7960bf75cfa45", func := "volute/volutelaw13.BlockReads", spec := "blockReads", apart := false }
def BlockReadsSaid : Prop := blockReadsRow.holds Try.pinned (OpenSpec.ofChange blockReadsSpec)

/-- ITS FALSE NEIGHBOUR: 'it returns false'. Refute it at one input. -/
def blockReadsWrong : ChangeSpec := { name := "blockReads", fn := fun _ => fun
  | [d1, d2] => { results := [.lit (.bool false)], args := [d1, d2] }
  | _ => none }
def BlockReadsWrongFalsely : Prop := blockReadsRow.holds Try.pinned (OpenSpec.ofChange blockReadsWrong)

/-- 'volutelaw13.BlockTurned': WHATEVER THE INPUT: true; the input reads as it did. -/
def blockTurnedSpec : ChangeSpec := { name := "blockTurned", fn := fun _ => fun
  | [d1, d2, d3, d4] => { results := [.lit (.bool true)], args := [d1, d2, d3, d4] }
  | _ => none }
def blockTurnedRow : OpenClaim := { program := "ytojomolplnnpmaa", sum := "931725b0d8693584358f52d4ad8fb39ba2d205a58271ffe14ac7960bf75cfa45", func := "volute/volutelaw13.BlockTurned", spec := "blockTurned", apart := false }
def BlockTurnedSaid : Prop := blockTurnedRow.holds Try.pinned (OpenSpec.ofChange blockTurnedSpec)

/-- ITS FALSE NEIGHBOUR: 'it returns false'. Refute it at one input. -/
def blockTurnedWrong : ChangeSpec := { name := "blockTurned", fn := fun _ => fun
  | [d1, d2, d3, d4] => { results := [.lit (.bool false)], args := [d1, d2, d3, d4] }
  | _ => none }
def BlockTurnedWrongFalsely : Prop := blockTurnedRow.holds Try.pinned (OpenSpec.ofChange blockTurnedWrong)

/-- 'volutelaw13.BlockUnlike': WHATEVER THE INPUT: true; the input reads as it did. -/
def blockUnlikeSpec : ChangeSpec := { name := "blockUnlike", fn := fun _ => fun
  | [d1, d2, d3] => { results := [.lit (.bool true)], args := [d1, d2, d3] }
  | _ => none }
def blockUnlikeRow : OpenClaim := { program := "ytojomolplnnpmaa", sum := "931725b0d8693584358f52d4ad8fb39ba2d205a58271ffe14ac7960bf75cfa45", func := "volute/volutelaw13.BlockUnlike", spec := "blockUnlike", apart := false }
def BlockUnlikeSaid : Prop := blockUnlikeRow.holds Try.pinned (OpenSpec.ofChange blockUnlikeSpec)

/-- ITS FALSE NEIGHBOUR: 'it returns false'. Refute it at one input. -/
def blockUnlikeWrong : ChangeSpec := { name := "blockUnlike", fn := fun _ => fun
  | [d1, d2, d3] => { results := [.lit (.bool false)], args := [d1, d2, d3] }
  | _ => none }
def BlockUnlikeWrongFalsely : Prop := blockUnlikeRow.holds Try.pinned (OpenSpec.ofChange blockUnlikeWrong)

/-- 'volutelaw13.BlockPads': WHATEVER THE INPUT: true; the input reads as it did. -/
def blockPadsSpec : ChangeSpec := { name := "blockPads", fn := fun _ => fun
  | [d1, d2, d3, d4] => { results := [.lit (.bool true)], args := [d1, d2, d3, d4] }
  | _ => none }
def blockPadsRow : OpenClaim := { program := "ytojomolplnnpmaa", sum := "931725b0d8693584358f52d4ad8fb39ba2d205a58271ffe14ac7960bf75cfa45", func := "volute/volutelaw13.BlockPads", spec := "blockPads", apart := false }
def BlockPadsSaid : Prop := blockPadsRow.holds Try.pinned (OpenSpec.ofChange blockPadsSpec)

/-- ITS FALSE NEIGHBOUR: 'it returns false'. Refute it at one input. -/
def blockPadsWrong : ChangeSpec := { name := "blockPads", fn := fun _ => fun
  | [d1, d2, d3, d4] => { results := [.lit (.bool false)], args := [d1, d2, d3, d4] }
  | _ => none }
def BlockPadsWrongFalsely : Prop := blockPadsRow.holds Try.pinned (OpenSpec.ofChange blockPadsWrong)

/- THE SECOND FORM. 'bulk': how many values and letters a reading holds, each counted each time it is reached (what is shared counts as often as it is met; a slice's spare places count too). A statement '..UptoSaid' is the law's where the arguments, and the package variables that the reading takes, are together of bulk at most 1048576: NARROWER than '..Said'. Prove '..Said' where nothing that the law and all that it calls make is longer than what came in: it says more and counts as full. Else prove '..UptoSaid'. A law counts once. -/
mutual
def uptoBulk {H : Type} : DataW H → Nat
  | .lit (.string bytes) => bytes.length + 1
  | .lit _ => 1
  | .nil => 1
  | .ptr d => uptoBulk d + 1
  | .slice elems spare => uptoBulkAll elems + uptoBulkAll spare + 1
  | .agg parts => uptoBulkAll parts + 1
  | .iface _ d => uptoBulk d + 1
  | .map entries => uptoBulkEntries entries + 1
  | .held _ => 1
def uptoBulkAll {H : Type} : List (DataW H) → Nat
  | [] => 0
  | d :: r => uptoBulk d + uptoBulkAll r
def uptoBulkEntries {H : Type} : List (Lit × DataW H) → Nat
  | [] => 0
  | x :: r => uptoBulkEntry x + uptoBulkEntries r
def uptoBulkEntry {H : Type} : Lit × DataW H → Nat
  | (.string bytes, d) => bytes.length + uptoBulk d + 1
  | (_, d) => uptoBulk d + 1
 end
def uptoSmall : (H : Type) → List (DataW H) → Bool := fun _ ds => decide (uptoBulkAll ds ≤ 1048576)
def OpenSpec.upto (s : _root_.Go.ChangeSpec) : _root_.Go.OpenSpec := { _root_.Go.OpenSpec.ofChange s with cond := some uptoSmall }

/-- 'volutelaw13.BlockExact', WHERE WHAT IT READS IS OF BULK AT MOST 1048576: true; the input reads as it did. -/
def blockExactUptoRow : OpenClaim := { program := "ytojomolplnnpmaa", sum := "931725b0d8693584358f52d4ad8fb39ba2d205a58271ffe14ac7960bf75cfa45", func := "volute/volutelaw13.BlockExact", spec := "blockExact", apart := false, narrowed := true }
def BlockExactUptoSaid : Prop := blockExactUptoRow.holds Try.pinned (OpenSpec.upto blockExactSpec)

/-- 'volutelaw13.BlockReads', WHERE WHAT IT READS IS OF BULK AT MOST 1048576: true; the input reads as it did. -/
def blockReadsUptoRow : OpenClaim := { program := "ytojomolplnnpmaa", sum := "931725b0d8693584358f52d4ad8fb39ba2d205a58271ffe14ac7960bf75cfa45", func := "volute/volutelaw13.BlockReads", spec := "blockReads", apart := false, narrowed := true }
def BlockReadsUptoSaid : Prop := blockReadsUptoRow.holds Try.pinned (OpenSpec.upto blockReadsSpec)

/-- 'volutelaw13.BlockTurned', WHERE WHAT IT READS IS OF BULK AT MOST 1048576: true; the input reads as it did. -/
def blockTurnedUptoRow : OpenClaim := { program := "ytojomolplnnpmaa", sum := "931725b0d8693584358f52d4ad8fb39ba2d205a58271ffe14ac7960bf75cfa45", func := "volute/volutelaw13.BlockTurned", spec := "blockTurned", apart := false, narrowed := true }
def BlockTurnedUptoSaid : Prop := blockTurnedUptoRow.holds Try.pinned (OpenSpec.upto blockTurnedSpec)

/-- 'volutelaw13.BlockUnlike', WHERE WHAT IT READS IS OF BULK AT MOST 1048576: true; the input reads as it did. -/
def blockUnlikeUptoRow : OpenClaim := { program := "ytojomolplnnpmaa", sum := "931725b0d8693584358f52d4ad8fb39ba2d205a58271ffe14ac7960bf75cfa45", func := "volute/volutelaw13.BlockUnlike", spec := "blockUnlike", apart := false, narrowed := true }
def BlockUnlikeUptoSaid : Prop := blockUnlikeUptoRow.holds Try.pinned (OpenSpec.upto blockUnlikeSpec)

/-- 'volutelaw13.BlockPads', WHERE WHAT IT READS IS OF BULK AT MOST 1048576: true; the input reads as it did. -/
def blockPadsUptoRow : OpenClaim := { program := "ytojomolplnnpmaa", sum := "931725b0d8693584358f52d4ad8fb39ba2d205a58271ffe14ac7960bf75cfa45", func := "volute/volutelaw13.BlockPads", spec := "blockPads", apart := false, narrowed := true }
def BlockPadsUptoSaid : Prop := blockPadsUptoRow.holds Try.pinned (OpenSpec.upto blockPadsSpec)

end Rows
end Go.Proofs.Ytojomolplnnpmaa
