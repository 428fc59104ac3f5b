/-
  No cell of these rows narrows 'for every input' (looked for: loops, veiled, ifaces, maps, wideKeys, modest, calm, conditions, laid).
  DERIVED. THE GIVEN ROWS OF THIS SEAT. 5 by the template 'for every input the law returns true; each argument reads behind the call as it read before'; 0 by the template 'total and deterministic' (their statements: YtmioimcpiddgfaaTotals.lean).
  GIVEN WITH THE SEED: the statements are not yours to turn. If you find one false, say at which input.
  Laid BY PROGRAM, IN A SANDBOX (cutbox-rows.mjs): the forced cells as the released guide's own fill.sh prints them over the translation e6cd40c5ad13e21e… (all of the seat's roots in one cut). By AI agents, Wed Nov 11 2026. No macro, syntax, notation, axiom, sorry.
-/
import Derived.Test.YtmioimcpiddgfaaChecked
import GoSem.Claim
import GoSem.ClaimJoined
import GoSem.ClaimMapViews
import Derived.JoinedTies
import Derived.KernelRfl
namespace Go.Proofs.Ytmioimcpiddgfaa
/- THE CELL 'sum', in the pinned program and in every row, IS THE sha256 OF THE DUMP (.gsa) THAT YtmioimcpiddgfaaProg.lean LOADS. Nothing in Lean hashes anything: it is a label: what it is worth is what the hold of that sum in a sandbox is worth. -/
noncomputable def Try.pinned : Pinned := { name := "ytmioimcpiddgfaa", sum := "e6cd40c5ad13e21ee2622a5fd5a3fd70d4d9060008a950bc960919a231c2f9e3", checked := Try.checked }
namespace Rows
def none {H : Type} : Left H := { results := [], args := [] }

/-- 'volutelaw15.AckExact': WHATEVER THE INPUT: true; the input reads as it did. -/
def ackExactSpec : ChangeSpec := { name := "ackExact", fn := fun _ => fun
  | [d1, d2] => { results := [.lit (.bool true)], args := [d1, d2] }
  | _ => none }
def ackExactRow : OpenClaim := { program := "ytmioimcpiddgfaa", sum := "e6cd40c5ad13e21ee2622a5fd5a3fd70d4d9060008a950bc960919a231c2f9e3", func := "volute/volutelaw15.AckExact", spec := "ackExact", apart := false }
def AckExactSaid : Prop := ackExactRow.holds Try.pinned (OpenSpec.ofChange ackExactSpec)

/-- ITS FALSE NEIGHBOUR: 'it returns false'. Refute it at one input. -/
def ackExactWrong : ChangeSpec := { name := "ackExact", fn := fun _ => fun
  | [d1, d2] => { results := [.lit (.bool false)], args := [d1, d2] }
  | _ => none }
def AckExactWrongFalsely : Prop := ackExactRow.holds Try.pinned (OpenSpec.ofChange ackExactWrong)

/-- 'volutelaw15.AckReads': WHATEVER THE INPUT: true; the input reads as it did. -/
def ackReadsSpec : ChangeSpec := { name := "ackReads", fn := fun _ => fun
  | [d] => { results := [.lit (.bool true)], args := [d] }
  | _ => none }
def ackReadsRow : OpenClaim := { program := "ytmioimcpiddgfaa", sum := "e6cd40c5ad13e21ee2622a5fd5a3fd70d4d9060008a950bc960919a231c2f9e3", func := "volute/volutelaw15.AckReads", spec := "ackReads", apart := false }
def AckReadsSaid : Prop := ackReadsRow.holds Try.pinned (OpenSpec.ofChange ackReadsSpec)

/-- ITS FALSE NEIGHBOUR: 'it returns false'. Refute it at one input. -/
def ackReadsWrong : ChangeSpec := { name := "ackReads", fn := fun _ => fun
  | [d] => { results := [.lit (.bool false)], args := [d] }
  | _ => none }
def AckReadsWrongFalsely : Prop := ackReadsRow.holds Try.pinned (OpenSpec.ofChange ackReadsWrong)

/-- 'volutelaw15.AckCuts': WHATEVER THE INPUT: true; the input reads as it did. -/
def ackCutsSpec : ChangeSpec := { name := "ackCuts", fn := fun _ => fun
  | [d1, d2, d3, d4, d5] => { results := [.lit (.bool true)], args := [d1, d2, d3, d4, d5] }
  | _ => none }
def ackCutsRow : OpenClaim := { program := "ytmioimcpiddgfaa", sum := "e6cd40c5ad13e21ee2622a5fd5a3fd70d4d9060008a950bc960919a231c2f9e3", func := "volute/volutelaw15.AckCuts", spec := "ackCuts", apart := false }
def AckCutsSaid : Prop := ackCutsRow.holds Try.pinned (OpenSpec.ofChange ackCutsSpec)

/-- ITS FALSE NEIGHBOUR: 'it returns false'. Refute it at one input. -/
def ackCutsWrong : ChangeSpec := { name := "ackCuts", fn := fun _ => fun
  | [d1, d2, d3, d4, d5] => { results := [.lit (.bool false)], args := [d1, d2, d3, d4, d5] }
  | _ => none }
def AckCutsWrongFalsely : Prop := ackCutsRow.holds Try.pinned (OpenSpec.ofChange ackCutsWrong)

/-- 'volutelaw15.AckBits': WHATEVER THE INPUT: true; the input reads as it did. -/
def ackBitsSpec : ChangeSpec := { name := "ackBits", fn := fun _ => fun
  | [d1, d2] => { results := [.lit (.bool true)], args := [d1, d2] }
  | _ => none }
def ackBitsRow : OpenClaim := { program := "ytmioimcpiddgfaa", sum := "e6cd40c5ad13e21ee2622a5fd5a3fd70d4d9060008a950bc960919a231c2f9e3", func := "volute/volutelaw15.AckBits", spec := "ackBits", apart := false }
def AckBitsSaid : Prop := ackBitsRow.holds Try.pinned (OpenSpec.ofChange ackBitsSpec)

/-- ITS FALSE NEIGHBOUR: 'it returns false'. Refute it at one input. -/
def ackBitsWrong : ChangeSpec := { name := "ackBits", fn := fun _ => fun
  | [d1, d2] => { results := [.lit (.bool false)], args := [d1, d2] }
  | _ => none }
def AckBitsWrongFalsely : Prop := ackBitsRow.holds Try.pinned (OpenSpec.ofChange ackBitsWrong)

/-- 'volutelaw15.AckUnlike': WHATEVER THE INPUT: true; the input reads as it did. -/
def ackUnlikeSpec : ChangeSpec := { name := "ackUnlike", fn := fun _ => fun
  | [d1, d2] => { results := [.lit (.bool true)], args := [d1, d2] }
  | _ => none }
def ackUnlikeRow : OpenClaim := { program := "ytmioimcpiddgfaa", sum := "e6cd40c5ad13e21ee2622a5fd5a3fd70d4d9060008a950bc960919a231c2f9e3", func := "volute/volutelaw15.AckUnlike", spec := "ackUnlike", apart := false }
def AckUnlikeSaid : Prop := ackUnlikeRow.holds Try.pinned (OpenSpec.ofChange ackUnlikeSpec)

/-- ITS FALSE NEIGHBOUR: 'it returns false'. Refute it at one input. -/
def ackUnlikeWrong : ChangeSpec := { name := "ackUnlike", fn := fun _ => fun
  | [d1, d2] => { results := [.lit (.bool false)], args := [d1, d2] }
  | _ => none }
def AckUnlikeWrongFalsely : Prop := ackUnlikeRow.holds Try.pinned (OpenSpec.ofChange ackUnlikeWrong)

/- THE SECOND FORM. 'bulk': how many values and letters a reading holds, each counted each time it is reached (what is shared counts as often as it is met; a slice's spare places count too). A statement '..UptoSaid' is the law's where the arguments, and the package variables that the reading takes, are together of bulk at most 1048576: NARROWER than '..Said'. Prove '..Said' where nothing that the law and all that it calls make is longer than what came in: it says more and counts as full. Else prove '..UptoSaid'. A law counts once. -/
mutual
def uptoBulk {H : Type} : DataW H → Nat
  | .lit (.string bytes) => bytes.length + 1
  | .lit _ => 1
  | .nil => 1
  | .ptr d => uptoBulk d + 1
  | .slice elems spare => uptoBulkAll elems + uptoBulkAll spare + 1
  | .agg parts => uptoBulkAll parts + 1
  | .iface _ d => uptoBulk d + 1
  | .map entries => uptoBulkEntries entries + 1
  | .held _ => 1
def uptoBulkAll {H : Type} : List (DataW H) → Nat
  | [] => 0
  | d :: r => uptoBulk d + uptoBulkAll r
def uptoBulkEntries {H : Type} : List (Lit × DataW H) → Nat
  | [] => 0
  | x :: r => uptoBulkEntry x + uptoBulkEntries r
def uptoBulkEntry {H : Type} : Lit × DataW H → Nat
  | (.string bytes, d) => bytes.length + uptoBulk d + 1
  | (_, d) => uptoBulk d + 1
 end
def uptoSmall : (H : Type) → List (DataW H) → Bool := fun _ ds => decide (uptoBulkAll ds ≤ 1048576)
def OpenSpec.upto (s : _root_.Go.ChangeSpec) : _root_.Go.OpenSpec := { _root_.Go.OpenSpec.ofChange s with cond := some uptoSmall }

/-- 'volutelaw15.AckExact', WHERE WHAT IT READS IS OF BULK AT MOST 1048576: true; the input reads as it did. -/
def ackExactUptoRow : OpenClaim := { program := "ytmioimcpiddgfaa", sum := "e6cd40c5ad13e21ee2622a5fd5a3fd70d4d9060008a950bc960919a231c2f9e3", func := "volute/volutelaw15.AckExact", spec := "ackExact", apart := false, narrowed := true }
def AckExactUptoSaid : Prop := ackExactUptoRow.holds Try.pinned (OpenSpec.upto ackExactSpec)

/-- 'volutelaw15.AckReads', WHERE WHAT IT READS IS OF BULK AT MOST 1048576: true; the input reads as it did. -/
def ackReadsUptoRow : OpenClaim := { program := "ytmioimcpiddgfaa", sum := "e6cd40c5ad13e21ee2622a5fd5a3fd70d4d9060008a950bc960919a231c2f9e3", func := "volute/volutelaw15.AckReads", spec := "ackReads", apart := false, narrowed := true }
def AckReadsUptoSaid : Prop := ackReadsUptoRow.holds Try.pinned (OpenSpec.upto ackReadsSpec)

/-- 'volutelaw15.AckCuts', WHERE WHAT IT READS IS OF BULK AT MOST 1048576: true; the input reads as it did. -/
def ackCutsUptoRow : OpenClaim := { program := "ytmioimcpiddgfaa", sum := "e6cd40c5ad13e21ee2622a5fd5a3fd70d4d9060008a950bc960919a231c2f9e3", func := "volute/volutelaw15.AckCuts", spec := "ackCuts", apart := false, narrowed := true }
def AckCutsUptoSaid : Prop := ackCutsUptoRow.holds Try.pinned (OpenSpec.upto ackCutsSpec)

/-- 'volutelaw15.AckBits', WHERE WHAT IT READS IS OF BULK AT MOST 1048576: true; the input reads as it did. -/
def ackBitsUptoRow : OpenClaim := { program := "ytmioimcpiddgfaa", sum := "e6cd40c5ad13e21ee2622a5fd5a3fd70d4d9060008a950bc960919a231c2f9e3", func := "volute/volutelaw15.AckBits", spec := "ackBits", apart := false, narrowed := true }
def AckBitsUptoSaid : Prop := ackBitsUptoRow.holds Try.pinned (OpenSpec.upto ackBitsSpec)

/-- 'volutelaw15.AckUnlike', WHERE WHAT IT READS IS OF BULK AT MOST 1048576: true; the input reads as it did. -/
def ackUnlikeUptoRow : OpenClaim := { program := "ytmioimcpiddgfaa", sum := "e6cd40c5ad13e21ee2622a5fd5a3fd70d4d9060008a950bc960919a231c2f9e3", func := "volute/volutelaw15.AckUnlike", spec := "ackUnlike", apart := false, narrowed := true }
def AckUnlikeUptoSaid : Prop := ackUnlikeUptoRow.holds Try.pinned (OpenSpec.upto ackUnlikeSpec)

end Rows
end Go.Proofs.Ytmioimcpiddgfaa
