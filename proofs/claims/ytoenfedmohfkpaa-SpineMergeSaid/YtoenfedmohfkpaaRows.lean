/-
  No cell of these rows narrows 'for every input' (looked for: loops, veiled, ifaces, maps, wideKeys, modest, calm, conditions, laid).
  DERIVED. THE GIVEN ROWS OF THIS SEAT. 5 by the template 'for every input the law returns true; each argument reads behind the call as it read before'; 0 by the template 'total and deterministic' (their statements: YtoenfedmohfkpaaTotals.lean).
  GIVEN WITH THE SEED: the statements are not yours to turn. If you find one false, say at which input.
  Laid BY PROGRAM, IN A SANDBOX (cutbox-rows.mjs): the forced cells as the released guide's own fill.sh prints them over the translation 304ddf200ff5894a… (all of the seat's roots in one cut). By AI agents, Wed Nov 11 2026. No macro, syntax, notation, axiom, sorry.
-/
import Derived.Test.YtoenfedmohfkpaaChecked
import GoSem.Claim
import GoSem.ClaimJoined
import GoSem.ClaimMapViews
import Derived.JoinedTies
import Derived.KernelRfl
namespace Go.Proofs.Ytoenfedmohfkpaa
/- THE CELL 'sum', in the pinned program and in every row, IS THE sha256 OF THE DUMP (.gsa) THAT YtoenfedmohfkpaaProg.lean LOADS. Nothing in Lean hashes anything: it is a label: what it is worth is what the hold of that sum in a sandbox is worth. -/
noncomputable def Try.pinned : Pinned := { name := "ytoenfedmohfkpaa", sum := "304ddf200ff5894a5403b72040b448b89e4b756183a43d03f7a504e2ca9a3860", checked := Try.checked }
namespace Rows
def none {H : Type} : Left H := { results := [], args := [] }

/-- 'volutelaw05.SpineExact': WHATEVER THE INPUT: true; the input reads as it did. -/
def spineExactSpec : ChangeSpec := { name := "spineExact", fn := fun _ => fun
  | [d1, d2, d3, d4] => { results := [.lit (.bool true)], args := [d1, d2, d3, d4] }
  | _ => none }
def spineExactRow : OpenClaim := { program := "ytoenfedmohfkpaa", sum := "304ddf200ff5894a5403b72040b448b89e4b756183a43d03f7a504e2ca9a3860", func := "volute/volutelaw05.SpineExact", spec := "spineExact", apart := false }
def SpineExactSaid : Prop := spineExactRow.holds Try.pinned (OpenSpec.ofChange spineExactSpec)

/-- ITS FALSE NEIGHBOUR: 'it returns false'. Refute it at one input. -/
def spineExactWrong : ChangeSpec := { name := "spineExact", fn := fun _ => fun
  | [d1, d2, d3, d4] => { results := [.lit (.bool false)], args := [d1, d2, d3, d4] }
  | _ => none }
def SpineExactWrongFalsely : Prop := spineExactRow.holds Try.pinned (OpenSpec.ofChange spineExactWrong)

/-- 'volutelaw05.SpineUnlike': WHATEVER THE INPUT: true; the input reads as it did. -/
def spineUnlikeSpec : ChangeSpec := { name := "spineUnlike", fn := fun _ => fun
  | [d1, d2, d3, d4] => { results := [.lit (.bool true)], args := [d1, d2, d3, d4] }
  | _ => none }
def spineUnlikeRow : OpenClaim := { program := "ytoenfedmohfkpaa", sum := "304ddf200ff5894a5403b72040b448b89e4b756183a43d03f7a504e2ca9a3860", func := "volute/volutelaw05.SpineUnlike", spec := "spineUnlike", apart := false }
def SpineUnlikeSaid : Prop := spineUnlikeRow.holds Try.pinned (OpenSpec.ofChange spineUnlikeSpec)

/-- ITS FALSE NEIGHBOUR: 'it returns false'. Refute it at one input. -/
def spineUnlikeWrong : ChangeSpec := { name := "spineUnlike", fn := fun _ => fun
  | [d1, d2, d3, d4] => { results := [.lit (.bool false)], args := [d1, d2, d3, d4] }
  | _ => none }
def SpineUnlikeWrongFalsely : Prop := spineUnlikeRow.holds Try.pinned (OpenSpec.ofChange spineUnlikeWrong)

/-- 'volutelaw05.SpineBack': WHATEVER THE INPUT: true; the input reads as it did. -/
def spineBackSpec : ChangeSpec := { name := "spineBack", fn := fun _ => fun
  | [d] => { results := [.lit (.bool true)], args := [d] }
  | _ => none }
def spineBackRow : OpenClaim := { program := "ytoenfedmohfkpaa", sum := "304ddf200ff5894a5403b72040b448b89e4b756183a43d03f7a504e2ca9a3860", func := "volute/volutelaw05.SpineBack", spec := "spineBack", apart := false }
def SpineBackSaid : Prop := spineBackRow.holds Try.pinned (OpenSpec.ofChange spineBackSpec)

/-- ITS FALSE NEIGHBOUR: 'it returns false'. Refute it at one input. -/
def spineBackWrong : ChangeSpec := { name := "spineBack", fn := fun _ => fun
  | [d] => { results := [.lit (.bool false)], args := [d] }
  | _ => none }
def SpineBackWrongFalsely : Prop := spineBackRow.holds Try.pinned (OpenSpec.ofChange spineBackWrong)

/-- 'volutelaw05.SpineParts': WHATEVER THE INPUT: true; the input reads as it did. -/
def spinePartsSpec : ChangeSpec := { name := "spineParts", fn := fun _ => fun
  | [d1, d2] => { results := [.lit (.bool true)], args := [d1, d2] }
  | _ => none }
def spinePartsRow : OpenClaim := { program := "ytoenfedmohfkpaa", sum := "304ddf200ff5894a5403b72040b448b89e4b756183a43d03f7a504e2ca9a3860", func := "volute/volutelaw05.SpineParts", spec := "spineParts", apart := false }
def SpinePartsSaid : Prop := spinePartsRow.holds Try.pinned (OpenSpec.ofChange spinePartsSpec)

/-- ITS FALSE NEIGHBOUR: 'it returns false'. Refute it at one input. -/
def spinePartsWrong : ChangeSpec := { name := "spineParts", fn := fun _ => fun
  | [d1, d2] => { results := [.lit (.bool false)], args := [d1, d2] }
  | _ => none }
def SpinePartsWrongFalsely : Prop := spinePartsRow.holds Try.pinned (OpenSpec.ofChange spinePartsWrong)

/-- 'volutelaw05.SpineMerge': WHATEVER THE INPUT: true; the input reads as it did. -/
def spineMergeSpec : ChangeSpec := { name := "spineMerge", fn := fun _ => fun
  | [d1, d2] => { results := [.lit (.bool true)], args := [d1, d2] }
  | _ => none }
def spineMergeRow : OpenClaim := { program := "ytoenfedmohfkpaa", sum := "304ddf200ff5894a5403b72040b448b89e4b756183a43d03f7a504e2ca9a3860", func := "volute/volutelaw05.SpineMerge", spec := "spineMerge", apart := false }
def SpineMergeSaid : Prop := spineMergeRow.holds Try.pinned (OpenSpec.ofChange spineMergeSpec)

/-- ITS FALSE NEIGHBOUR: 'it returns false'. Refute it at one input. -/
def spineMergeWrong : ChangeSpec := { name := "spineMerge", fn := fun _ => fun
  | [d1, d2] => { results := [.lit (.bool false)], args := [d1, d2] }
  | _ => none }
def SpineMergeWrongFalsely : Prop := spineMergeRow.holds Try.pinned (OpenSpec.ofChange spineMergeWrong)

/- THE SECOND FORM. 'bulk': how many values and letters a reading holds, each counted each time it is reached (what is shared counts as often as it is met; a slice's spare places count too). A statement '..UptoSaid' is the law's where the arguments, and the package variables that the reading takes, are together of bulk at most 1048576: NARROWER than '..Said'. Prove '..Said' where nothing that the law and all that it calls make is longer than what came in: it says more and counts as full. Else prove '..UptoSaid'. A law counts once. -/
mutual
def uptoBulk {H : Type} : DataW H → Nat
  | .lit (.string bytes) => bytes.length + 1
  | .lit _ => 1
  | .nil => 1
  | .ptr d => uptoBulk d + 1
  | .slice elems spare => uptoBulkAll elems + uptoBulkAll spare + 1
  | .agg parts => uptoBulkAll parts + 1
  | .iface _ d => uptoBulk d + 1
  | .map entries => uptoBulkEntries entries + 1
  | .held _ => 1
def uptoBulkAll {H : Type} : List (DataW H) → Nat
  | [] => 0
  | d :: r => uptoBulk d + uptoBulkAll r
def uptoBulkEntries {H : Type} : List (Lit × DataW H) → Nat
  | [] => 0
  | x :: r => uptoBulkEntry x + uptoBulkEntries r
def uptoBulkEntry {H : Type} : Lit × DataW H → Nat
  | (.string bytes, d) => bytes.length + uptoBulk d + 1
  | (_, d) => uptoBulk d + 1
 end
def uptoSmall : (H : Type) → List (DataW H) → Bool := fun _ ds => decide (uptoBulkAll ds ≤ 1048576)
def OpenSpec.upto (s : _root_.Go.ChangeSpec) : _root_.Go.OpenSpec := { _root_.Go.OpenSpec.ofChange s with cond := some uptoSmall }

/-- 'volutelaw05.SpineExact', WHERE WHAT IT READS IS OF BULK AT MOST 1048576: true; the input reads as it did. -/
def spineExactUptoRow : OpenClaim := { program := "ytoenfedmohfkpaa", sum := "304ddf200ff5894a5403b72040b448b89e4b756183a43d03f7a504e2ca9a3860", func := "volute/volutelaw05.SpineExact", spec := "spineExact", apart := false, narrowed := true }
def SpineExactUptoSaid : Prop := spineExactUptoRow.holds Try.pinned (OpenSpec.upto spineExactSpec)

/-- 'volutelaw05.SpineUnlike', WHERE WHAT IT READS IS OF BULK AT MOST 1048576: true; the input reads as it did. -/
def spineUnlikeUptoRow : OpenClaim := { program := "ytoenfedmohfkpaa", sum := "304ddf200ff5894a5403b72040b448b89e4b756183a43d03f7a504e2ca9a3860", func := "volute/volutelaw05.SpineUnlike", spec := "spineUnlike", apart := false, narrowed := true }
def SpineUnlikeUptoSaid : Prop := spineUnlikeUptoRow.holds Try.pinned (OpenSpec.upto spineUnlikeSpec)

/-- 'volutelaw05.SpineBack', WHERE WHAT IT READS IS OF BULK AT MOST 1048576: true; the input reads as it did. -/
def spineBackUptoRow : OpenClaim := { program := "ytoenfedmohfkpaa", sum := "304ddf200ff5894a5403b72040b448b89e4b756183a43d03f7a504e2ca9a3860", func := "volute/volutelaw05.SpineBack", spec := "spineBack", apart := false, narrowed := true }
def SpineBackUptoSaid : Prop := spineBackUptoRow.holds Try.pinned (OpenSpec.upto spineBackSpec)

/-- 'volutelaw05.SpineParts', WHERE WHAT IT READS IS OF BULK AT MOST 1048576: true; the input reads as it did. -/
def spinePartsUptoRow : OpenClaim := { program := "ytoenfedmohfkpaa", sum := "304ddf200ff5894a5403b72040b448b89e4b756183a43d03f7a504e2ca9a3860", func := "volute/volutelaw05.SpineParts", spec := "spineParts", apart := false, narrowed := true }
def SpinePartsUptoSaid : Prop := spinePartsUptoRow.holds Try.pinned (OpenSpec.upto spinePartsSpec)

/-- 'volutelaw05.SpineMerge', WHERE WHAT IT READS IS OF BULK AT MOST 1048576: true; the input reads as it did. -/
def spineMergeUptoRow : OpenClaim := { program := "ytoenfedmohfkpaa", sum := "304ddf200ff5894a5403b72040b448b89e4b756183a43d03f7a504e2ca9a3860", func := "volute/volutelaw05.SpineMerge", spec := "spineMerge", apart := false, narrowed := true }
def SpineMergeUptoSaid : Prop := spineMergeUptoRow.holds Try.pinned (OpenSpec.upto spineMergeSpec)

end Rows
end Go.Proofs.Ytoenfedmohfkpaa
