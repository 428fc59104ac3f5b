/-
  No cell of these rows narrows 'for every input' (looked for: loops, veiled, ifaces, maps, wideKeys, modest, calm, conditions, laid).
  DERIVED. THE GIVEN ROWS OF THIS SEAT. 8 by the template 'for every input the law returns true; each argument reads behind the call as it read before'; 0 by the template 'total and deterministic' (their statements: YthfdejbckheagaaTotals.lean).
  GIVEN WITH THE SEED: the statements are not yours to turn. If you find one false, say at which input.
  Laid BY PROGRAM, IN A SANDBOX (cutbox-rows.mjs): the forced cells as the released guide's own fill.sh prints them over the translation 2e529afcb12d322d… (all of the seat's roots in one cut). By AI agents, Wed Nov 11 2026. No macro, syntax, notation, axiom, sorry.
-/
import Derived.Test.YthfdejbckheagaaChecked
import GoSem.Claim
import GoSem.ClaimJoined
import GoSem.ClaimMapViews
import Derived.JoinedTies
import Derived.KernelRfl
namespace Go.Proofs.Ythfdejbckheagaa
/- THE CELL 'sum', in the pinned program and in every row, IS THE sha256 OF THE DUMP (.gsa) THAT YthfdejbckheagaaProg.lean LOADS. Nothing in Lean hashes anything: it is a label: what it is worth is what the hold of that sum in a sandbox is worth. -/
noncomputable def Try.pinned : Pinned := { name := "ythfdejbckheagaa", sum := "2e529afcb12d322d0934b1435af145cffbf27d8f1e6d599ea777f8cae8ef56f2", checked := Try.checked }
namespace Rows
def none {H : Type} : Left H := { results := [], args := [] }

/-- 'volutelaw17.ConfEnds': WHATEVER THE INPUT: true; the input reads as it did. -/
def confEndsSpec : ChangeSpec := { name := "confEnds", fn := fun _ => fun
  | [d1, d2] => { results := [.lit (.bool true)], args := [d1, d2] }
  | _ => none }
def confEndsRow : OpenClaim := { program := "ythfdejbckheagaa", sum := "2e529afcb12d322d0934b1435af145cffbf27d8f1e6d599ea777f8cae8ef56f2", func := "volute/volutelaw17.ConfEnds", spec := "confEnds", apart := false }
def ConfEndsSaid : Prop := confEndsRow.holds Try.pinned (OpenSpec.ofChange confEndsSpec)

/-- ITS FALSE NEIGHBOUR: 'it returns false'. Refute it at one input. -/
def confEndsWrong : ChangeSpec := { name := "confEnds", fn := fun _ => fun
  | [d1, d2] => { results := [.lit (.bool false)], args := [d1, d2] }
  | _ => none }
def ConfEndsWrongFalsely : Prop := confEndsRow.holds Try.pinned (OpenSpec.ofChange confEndsWrong)

/-- 'volutelaw21.JoinLong': WHATEVER THE INPUT: true; the input reads as it did. -/
def joinLongSpec : ChangeSpec := { name := "joinLong", fn := fun _ => fun
  | [d1, d2] => { results := [.lit (.bool true)], args := [d1, d2] }
  | _ => none }
def joinLongRow : OpenClaim := { program := "ythfdejbckheagaa", sum := "2e529afcb12d322d0934b1435af145cffbf27d8f1e6d599ea777f8cae8ef56f2", func := "volute/volutelaw21.JoinLong", spec := "joinLong", apart := false }
def JoinLongSaid : Prop := joinLongRow.holds Try.pinned (OpenSpec.ofChange joinLongSpec)

/-- ITS FALSE NEIGHBOUR: 'it returns false'. Refute it at one input. -/
def joinLongWrong : ChangeSpec := { name := "joinLong", fn := fun _ => fun
  | [d1, d2] => { results := [.lit (.bool false)], args := [d1, d2] }
  | _ => none }
def JoinLongWrongFalsely : Prop := joinLongRow.holds Try.pinned (OpenSpec.ofChange joinLongWrong)

/-- 'volutelaw17.ConfExact': WHATEVER THE INPUT: true; the input reads as it did. -/
def confExactSpec : ChangeSpec := { name := "confExact", fn := fun _ => fun
  | [d1, d2] => { results := [.lit (.bool true)], args := [d1, d2] }
  | _ => none }
def confExactRow : OpenClaim := { program := "ythfdejbckheagaa", sum := "2e529afcb12d322d0934b1435af145cffbf27d8f1e6d599ea777f8cae8ef56f2", func := "volute/volutelaw17.ConfExact", spec := "confExact", apart := false }
def ConfExactSaid : Prop := confExactRow.holds Try.pinned (OpenSpec.ofChange confExactSpec)

/-- ITS FALSE NEIGHBOUR: 'it returns false'. Refute it at one input. -/
def confExactWrong : ChangeSpec := { name := "confExact", fn := fun _ => fun
  | [d1, d2] => { results := [.lit (.bool false)], args := [d1, d2] }
  | _ => none }
def ConfExactWrongFalsely : Prop := confExactRow.holds Try.pinned (OpenSpec.ofChange confExactWrong)

/-- 'volutelaw17.ConfCounts': WHATEVER THE INPUT: true; the input reads as it did. -/
def confCountsSpec : ChangeSpec := { name := "confCounts", fn := fun _ => fun
  | [d1, d2, d3] => { results := [.lit (.bool true)], args := [d1, d2, d3] }
  | _ => none }
def confCountsRow : OpenClaim := { program := "ythfdejbckheagaa", sum := "2e529afcb12d322d0934b1435af145cffbf27d8f1e6d599ea777f8cae8ef56f2", func := "volute/volutelaw17.ConfCounts", spec := "confCounts", apart := false }
def ConfCountsSaid : Prop := confCountsRow.holds Try.pinned (OpenSpec.ofChange confCountsSpec)

/-- ITS FALSE NEIGHBOUR: 'it returns false'. Refute it at one input. -/
def confCountsWrong : ChangeSpec := { name := "confCounts", fn := fun _ => fun
  | [d1, d2, d3] => { results := [.lit (.bool false)], args := [d1, d2, d3] }
  | _ => none }
def ConfCountsWrongFalsely : Prop := confCountsRow.holds Try.pinned (OpenSpec.ofChange confCountsWrong)

/-- 'volutelaw20.CutExact': WHATEVER THE INPUT: true; the input reads as it did. -/
def cutExactSpec : ChangeSpec := { name := "cutExact", fn := fun _ => fun
  | [d1, d2, d3] => { results := [.lit (.bool true)], args := [d1, d2, d3] }
  | _ => none }
def cutExactRow : OpenClaim := { program := "ythfdejbckheagaa", sum := "2e529afcb12d322d0934b1435af145cffbf27d8f1e6d599ea777f8cae8ef56f2", func := "volute/volutelaw20.CutExact", spec := "cutExact", apart := false }
def CutExactSaid : Prop := cutExactRow.holds Try.pinned (OpenSpec.ofChange cutExactSpec)

/-- ITS FALSE NEIGHBOUR: 'it returns false'. Refute it at one input. -/
def cutExactWrong : ChangeSpec := { name := "cutExact", fn := fun _ => fun
  | [d1, d2, d3] => { results := [.lit (.bool false)], args := [d1, d2, d3] }
  | _ => none }
def CutExactWrongFalsely : Prop := cutExactRow.holds Try.pinned (OpenSpec.ofChange cutExactWrong)

/-- 'volutelaw20.CutSides': WHATEVER THE INPUT: true; the input reads as it did. -/
def cutSidesSpec : ChangeSpec := { name := "cutSides", fn := fun _ => fun
  | [d1, d2, d3, d4] => { results := [.lit (.bool true)], args := [d1, d2, d3, d4] }
  | _ => none }
def cutSidesRow : OpenClaim := { program := "ythfdejbckheagaa", sum := "2e529afcb12d322d0934b1435af145cffbf27d8f1e6d599ea777f8cae8ef56f2", func := "volute/volutelaw20.CutSides", spec := "cutSides", apart := false }
def CutSidesSaid : Prop := cutSidesRow.holds Try.pinned (OpenSpec.ofChange cutSidesSpec)

/-- ITS FALSE NEIGHBOUR: 'it returns false'. Refute it at one input. -/
def cutSidesWrong : ChangeSpec := { name := "cutSides", fn := fun _ => fun
  | [d1, d2, d3, d4] => { results := [.lit (.bool false)], args := [d1, d2, d3, d4] }
  | _ => none }
def CutSidesWrongFalsely : Prop := cutSidesRow.holds Try.pinned (OpenSpec.ofChange cutSidesWrong)

/-- 'volutelaw20.CutAll': WHATEVER THE INPUT: true; the input reads as it did. -/
def cutAllSpec : ChangeSpec := { name := "cutAll", fn := fun _ => fun
  | [d1, d2, d3] => { results := [.lit (.bool true)], args := [d1, d2, d3] }
  | _ => none }
def cutAllRow : OpenClaim := { program := "ythfdejbckheagaa", sum := "2e529afcb12d322d0934b1435af145cffbf27d8f1e6d599ea777f8cae8ef56f2", func := "volute/volutelaw20.CutAll", spec := "cutAll", apart := false }
def CutAllSaid : Prop := cutAllRow.holds Try.pinned (OpenSpec.ofChange cutAllSpec)

/-- ITS FALSE NEIGHBOUR: 'it returns false'. Refute it at one input. -/
def cutAllWrong : ChangeSpec := { name := "cutAll", fn := fun _ => fun
  | [d1, d2, d3] => { results := [.lit (.bool false)], args := [d1, d2, d3] }
  | _ => none }
def CutAllWrongFalsely : Prop := cutAllRow.holds Try.pinned (OpenSpec.ofChange cutAllWrong)

/-- 'volutelaw21.JoinMessages': WHATEVER THE INPUT: true; the input reads as it did. -/
def joinMessagesSpec : ChangeSpec := { name := "joinMessages", fn := fun _ => fun
  | [d1, d2, d3] => { results := [.lit (.bool true)], args := [d1, d2, d3] }
  | _ => none }
def joinMessagesRow : OpenClaim := { program := "ythfdejbckheagaa", sum := "2e529afcb12d322d0934b1435af145cffbf27d8f1e6d599ea777f8cae8ef56f2", func := "volute/volutelaw21.JoinMessages", spec := "joinMessages", apart := false }
def JoinMessagesSaid : Prop := joinMessagesRow.holds Try.pinned (OpenSpec.ofChange joinMessagesSpec)

/-- ITS FALSE NEIGHBOUR: 'it returns false'. Refute it at one input. -/
def joinMessagesWrong : ChangeSpec := { name := "joinMessages", fn := fun _ => fun
  | [d1, d2, d3] => { results := [.lit (.bool false)], args := [d1, d2, d3] }
  | _ => none }
def JoinMessagesWrongFalsely : Prop := joinMessagesRow.holds Try.pinned (OpenSpec.ofChange joinMessagesWrong)

/- THE SECOND FORM. 'bulk': how many values and letters a reading holds, each counted each time it is reached (what is shared counts as often as it is met; a slice's spare places count too). A statement '..UptoSaid' is the law's where the arguments, and the package variables that the reading takes, are together of bulk at most 1048576: NARROWER than '..Said'. Prove '..Said' where nothing that the law and all that it calls make is longer than what came in: it says more and counts as full. Else prove '..UptoSaid'. A law counts once. -/
mutual
def uptoBulk {H : Type} : DataW H → Nat
  | .lit (.string bytes) => bytes.length + 1
  | .lit _ => 1
  | .nil => 1
  | .ptr d => uptoBulk d + 1
  | .slice elems spare => uptoBulkAll elems + uptoBulkAll spare + 1
  | .agg parts => uptoBulkAll parts + 1
  | .iface _ d => uptoBulk d + 1
  | .map entries => uptoBulkEntries entries + 1
  | .held _ => 1
def uptoBulkAll {H : Type} : List (DataW H) → Nat
  | [] => 0
  | d :: r => uptoBulk d + uptoBulkAll r
def uptoBulkEntries {H : Type} : List (Lit × DataW H) → Nat
  | [] => 0
  | x :: r => uptoBulkEntry x + uptoBulkEntries r
def uptoBulkEntry {H : Type} : Lit × DataW H → Nat
  | (.string bytes, d) => bytes.length + uptoBulk d + 1
  | (_, d) => uptoBulk d + 1
 end
def uptoSmall : (H : Type) → List (DataW H) → Bool := fun _ ds => decide (uptoBulkAll ds ≤ 1048576)
def OpenSpec.upto (s : _root_.Go.ChangeSpec) : _root_.Go.OpenSpec := { _root_.Go.OpenSpec.ofChange s with cond := some uptoSmall }

/-- 'volutelaw17.ConfEnds', WHERE WHAT IT READS IS OF BULK AT MOST 1048576: true; the input reads as it did. -/
def confEndsUptoRow : OpenClaim := { program := "ythfdejbckheagaa", sum := "2e529afcb12d322d0934b1435af145cffbf27d8f1e6d599ea777f8cae8ef56f2", func := "volute/volutelaw17.ConfEnds", spec := "confEnds", apart := false, narrowed := true }
def ConfEndsUptoSaid : Prop := confEndsUptoRow.holds Try.pinned (OpenSpec.upto confEndsSpec)

/-- 'volutelaw21.JoinLong', WHERE WHAT IT READS IS OF BULK AT MOST 1048576: true; the input reads as it did. -/
def joinLongUptoRow : OpenClaim := { program := "ythfdejbckheagaa", sum := "2e529afcb12d322d0934b1435af145cffbf27d8f1e6d599ea777f8cae8ef56f2", func := "volute/volutelaw21.JoinLong", spec := "joinLong", apart := false, narrowed := true }
def JoinLongUptoSaid : Prop := joinLongUptoRow.holds Try.pinned (OpenSpec.upto joinLongSpec)

/-- 'volutelaw17.ConfExact', WHERE WHAT IT READS IS OF BULK AT MOST 1048576: true; the input reads as it did. -/
def confExactUptoRow : OpenClaim := { program := "ythfdejbckheagaa", sum := "2e529afcb12d322d0934b1435af145cffbf27d8f1e6d599ea777f8cae8ef56f2", func := "volute/volutelaw17.ConfExact", spec := "confExact", apart := false, narrowed := true }
def ConfExactUptoSaid : Prop := confExactUptoRow.holds Try.pinned (OpenSpec.upto confExactSpec)

/-- 'volutelaw17.ConfCounts', WHERE WHAT IT READS IS OF BULK AT MOST 1048576: true; the input reads as it did. -/
def confCountsUptoRow : OpenClaim := { program := "ythfdejbckheagaa", sum := "2e529afcb12d322d0934b1435af145cffbf27d8f1e6d599ea777f8cae8ef56f2", func := "volute/volutelaw17.ConfCounts", spec := "confCounts", apart := false, narrowed := true }
def ConfCountsUptoSaid : Prop := confCountsUptoRow.holds Try.pinned (OpenSpec.upto confCountsSpec)

/-- 'volutelaw20.CutExact', WHERE WHAT IT READS IS OF BULK AT MOST 1048576: true; the input reads as it did. -/
def cutExactUptoRow : OpenClaim := { program := "ythfdejbckheagaa", sum := "2e529afcb12d322d0934b1435af145cffbf27d8f1e6d599ea777f8cae8ef56f2", func := "volute/volutelaw20.CutExact", spec := "cutExact", apart := false, narrowed := true }
def CutExactUptoSaid : Prop := cutExactUptoRow.holds Try.pinned (OpenSpec.upto cutExactSpec)

/-- 'volutelaw20.CutSides', WHERE WHAT IT READS IS OF BULK AT MOST 1048576: true; the input reads as it did. -/
def cutSidesUptoRow : OpenClaim := { program := "ythfdejbckheagaa", sum := "2e529afcb12d322d0934b1435af145cffbf27d8f1e6d599ea777f8cae8ef56f2", func := "volute/volutelaw20.CutSides", spec := "cutSides", apart := false, narrowed := true }
def CutSidesUptoSaid : Prop := cutSidesUptoRow.holds Try.pinned (OpenSpec.upto cutSidesSpec)

/-- 'volutelaw20.CutAll', WHERE WHAT IT READS IS OF BULK AT MOST 1048576: true; the input reads as it did. -/
def cutAllUptoRow : OpenClaim := { program := "ythfdejbckheagaa", sum := "2e529afcb12d322d0934b1435af145cffbf27d8f1e6d599ea777f8cae8ef56f2", func := "volute/volutelaw20.CutAll", spec := "cutAll", apart := false, narrowed := true }
def CutAllUptoSaid : Prop := cutAllUptoRow.holds Try.pinned (OpenSpec.upto cutAllSpec)

/-- 'volutelaw21.JoinMessages', WHERE WHAT IT READS IS OF BULK AT MOST 1048576: true; the input reads as it did. -/
def joinMessagesUptoRow : OpenClaim := { program := "ythfdejbckheagaa", sum := "2e529afcb12d322d0934b1435af145cffbf27d8f1e6d599ea777f8cae8ef56f2", func := "volute/volutelaw21.JoinMessages", spec := "joinMessages", apart := false, narrowed := true }
def JoinMessagesUptoSaid : Prop := joinMessagesUptoRow.holds Try.pinned (OpenSpec.upto joinMessagesSpec)

end Rows
end Go.Proofs.Ythfdejbckheagaa
