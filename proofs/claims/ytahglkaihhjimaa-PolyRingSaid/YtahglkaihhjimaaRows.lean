/-
  No cell of these rows narrows 'for every input' (looked for: loops, veiled, ifaces, maps, wideKeys, modest, calm, conditions, laid).
  DERIVED. THE GIVEN ROWS OF THIS SEAT. 5 by the template 'for every input the law returns true; each argument reads behind the call as it read before'; 0 by the template 'total and deterministic' (their statements: YtahglkaihhjimaaTotals.lean).
  GIVEN WITH THE SEED: the statements are not yours to turn. If you find one false, say at which input.
  Laid BY PROGRAM, IN A SANDBOX (cutbox-rows.mjs): the forced cells as the released guide's own fill.sh prints them over the translation 97ec751cd6a08752… (all of the seat's roots in one cut). By AI agents, Wed Nov 11 2026. No macro, syntax, notation, axiom, sorry.
-/
import Derived.Test.YtahglkaihhjimaaChecked
import GoSem.Claim
import GoSem.ClaimJoined
import GoSem.ClaimMapViews
import Derived.JoinedTies
import Derived.KernelRfl
namespace Go.Proofs.Ytahglkaihhjimaa
/- THE CELL 'sum', in the pinned program and in every row, IS THE sha256 OF THE DUMP (.gsa) THAT YtahglkaihhjimaaProg.lean LOADS. Nothing in Lean hashes anything: it is a label: what it is worth is what the hold of that sum in a sandbox is worth. -/
noncomputable def Try.pinned : Pinned := { name := "ytahglkaihhjimaa", sum := "97ec751cd6a087525b1752c47378611d1109e4a63f6e36eab0005c955d5080c5", checked := Try.checked }
namespace Rows
def none {H : Type} : Left H := { results := [], args := [] }

/-- 'volutelaw02.PolyRing': WHATEVER THE INPUT: true; the input reads as it did. -/
def polyRingSpec : ChangeSpec := { name := "polyRing", fn := fun _ => fun
  | [d1, d2, d3] => { results := [.lit (.bool true)], args := [d1, d2, d3] }
  | _ => none }
def polyRingRow : OpenClaim := { program := "ytahglkaihhjimaa", sum := "97ec751cd6a087525b1752c47378611d1109e4a63f6e36eab0005c955d5080c5", func := "volute/volutelaw02.PolyRing", spec := "polyRing", unfollowed := true, recurses := true, apart := false }
def PolyRingSaid : Prop := polyRingRow.holds Try.pinned (OpenSpec.ofChange polyRingSpec)

/-- ITS FALSE NEIGHBOUR: 'it returns false'. Refute it at one input. -/
def polyRingWrong : ChangeSpec := { name := "polyRing", fn := fun _ => fun
  | [d1, d2, d3] => { results := [.lit (.bool false)], args := [d1, d2, d3] }
  | _ => none }
def PolyRingWrongFalsely : Prop := polyRingRow.holds Try.pinned (OpenSpec.ofChange polyRingWrong)

/-- 'volutelaw02.PolyExact': WHATEVER THE INPUT: true; the input reads as it did. -/
def polyExactSpec : ChangeSpec := { name := "polyExact", fn := fun _ => fun
  | [d1, d2] => { results := [.lit (.bool true)], args := [d1, d2] }
  | _ => none }
def polyExactRow : OpenClaim := { program := "ytahglkaihhjimaa", sum := "97ec751cd6a087525b1752c47378611d1109e4a63f6e36eab0005c955d5080c5", func := "volute/volutelaw02.PolyExact", spec := "polyExact", unfollowed := true, recurses := true, apart := false }
def PolyExactSaid : Prop := polyExactRow.holds Try.pinned (OpenSpec.ofChange polyExactSpec)

/-- ITS FALSE NEIGHBOUR: 'it returns false'. Refute it at one input. -/
def polyExactWrong : ChangeSpec := { name := "polyExact", fn := fun _ => fun
  | [d1, d2] => { results := [.lit (.bool false)], args := [d1, d2] }
  | _ => none }
def PolyExactWrongFalsely : Prop := polyExactRow.holds Try.pinned (OpenSpec.ofChange polyExactWrong)

/-- 'volutelaw02.PolyDivides': WHATEVER THE INPUT: true; the input reads as it did. -/
def polyDividesSpec : ChangeSpec := { name := "polyDivides", fn := fun _ => fun
  | [d1, d2, d3] => { results := [.lit (.bool true)], args := [d1, d2, d3] }
  | _ => none }
def polyDividesRow : OpenClaim := { program := "ytahglkaihhjimaa", sum := "97ec751cd6a087525b1752c47378611d1109e4a63f6e36eab0005c955d5080c5", func := "volute/volutelaw02.PolyDivides", spec := "polyDivides", unfollowed := true, recurses := true, apart := false }
def PolyDividesSaid : Prop := polyDividesRow.holds Try.pinned (OpenSpec.ofChange polyDividesSpec)

/-- ITS FALSE NEIGHBOUR: 'it returns false'. Refute it at one input. -/
def polyDividesWrong : ChangeSpec := { name := "polyDivides", fn := fun _ => fun
  | [d1, d2, d3] => { results := [.lit (.bool false)], args := [d1, d2, d3] }
  | _ => none }
def PolyDividesWrongFalsely : Prop := polyDividesRow.holds Try.pinned (OpenSpec.ofChange polyDividesWrong)

/-- 'volutelaw02.PolyPowers': WHATEVER THE INPUT: true; the input reads as it did. -/
def polyPowersSpec : ChangeSpec := { name := "polyPowers", fn := fun _ => fun
  | [d1, d2, d3] => { results := [.lit (.bool true)], args := [d1, d2, d3] }
  | _ => none }
def polyPowersRow : OpenClaim := { program := "ytahglkaihhjimaa", sum := "97ec751cd6a087525b1752c47378611d1109e4a63f6e36eab0005c955d5080c5", func := "volute/volutelaw02.PolyPowers", spec := "polyPowers", unfollowed := true, recurses := true, apart := false }
def PolyPowersSaid : Prop := polyPowersRow.holds Try.pinned (OpenSpec.ofChange polyPowersSpec)

/-- ITS FALSE NEIGHBOUR: 'it returns false'. Refute it at one input. -/
def polyPowersWrong : ChangeSpec := { name := "polyPowers", fn := fun _ => fun
  | [d1, d2, d3] => { results := [.lit (.bool false)], args := [d1, d2, d3] }
  | _ => none }
def PolyPowersWrongFalsely : Prop := polyPowersRow.holds Try.pinned (OpenSpec.ofChange polyPowersWrong)

/-- 'volutelaw02.PolyTrims': WHATEVER THE INPUT: true; the input reads as it did. -/
def polyTrimsSpec : ChangeSpec := { name := "polyTrims", fn := fun _ => fun
  | [d1, d2, d3] => { results := [.lit (.bool true)], args := [d1, d2, d3] }
  | _ => none }
def polyTrimsRow : OpenClaim := { program := "ytahglkaihhjimaa", sum := "97ec751cd6a087525b1752c47378611d1109e4a63f6e36eab0005c955d5080c5", func := "volute/volutelaw02.PolyTrims", spec := "polyTrims", unfollowed := true, recurses := true, apart := false }
def PolyTrimsSaid : Prop := polyTrimsRow.holds Try.pinned (OpenSpec.ofChange polyTrimsSpec)

/-- ITS FALSE NEIGHBOUR: 'it returns false'. Refute it at one input. -/
def polyTrimsWrong : ChangeSpec := { name := "polyTrims", fn := fun _ => fun
  | [d1, d2, d3] => { results := [.lit (.bool false)], args := [d1, d2, d3] }
  | _ => none }
def PolyTrimsWrongFalsely : Prop := polyTrimsRow.holds Try.pinned (OpenSpec.ofChange polyTrimsWrong)

/- THE SECOND FORM. 'bulk': how many values and letters a reading holds, each counted each time it is reached (what is shared counts as often as it is met; a slice's spare places count too). A statement '..UptoSaid' is the law's where the arguments, and the package variables that the reading takes, are together of bulk at most 1048576: NARROWER than '..Said'. Prove '..Said' where nothing that the law and all that it calls make is longer than what came in: it says more and counts as full. Else prove '..UptoSaid'. A law counts once. -/
mutual
def uptoBulk {H : Type} : DataW H → Nat
  | .lit (.string bytes) => bytes.length + 1
  | .lit _ => 1
  | .nil => 1
  | .ptr d => uptoBulk d + 1
  | .slice elems spare => uptoBulkAll elems + uptoBulkAll spare + 1
  | .agg parts => uptoBulkAll parts + 1
  | .iface _ d => uptoBulk d + 1
  | .map entries => uptoBulkEntries entries + 1
  | .held _ => 1
def uptoBulkAll {H : Type} : List (DataW H) → Nat
  | [] => 0
  | d :: r => uptoBulk d + uptoBulkAll r
def uptoBulkEntries {H : Type} : List (Lit × DataW H) → Nat
  | [] => 0
  | x :: r => uptoBulkEntry x + uptoBulkEntries r
def uptoBulkEntry {H : Type} : Lit × DataW H → Nat
  | (.string bytes, d) => bytes.length + uptoBulk d + 1
  | (_, d) => uptoBulk d + 1
 end
def uptoSmall : (H : Type) → List (DataW H) → Bool := fun _ ds => decide (uptoBulkAll ds ≤ 1048576)
def OpenSpec.upto (s : _root_.Go.ChangeSpec) : _root_.Go.OpenSpec := { _root_.Go.OpenSpec.ofChange s with cond := some uptoSmall }

/-- 'volutelaw02.PolyRing', WHERE WHAT IT READS IS OF BULK AT MOST 1048576: true; the input reads as it did. -/
def polyRingUptoRow : OpenClaim := { program := "ytahglkaihhjimaa", sum := "97ec751cd6a087525b1752c47378611d1109e4a63f6e36eab0005c955d5080c5", func := "volute/volutelaw02.PolyRing", spec := "polyRing", unfollowed := true, recurses := true, apart := false, narrowed := true }
def PolyRingUptoSaid : Prop := polyRingUptoRow.holds Try.pinned (OpenSpec.upto polyRingSpec)

/-- 'volutelaw02.PolyExact', WHERE WHAT IT READS IS OF BULK AT MOST 1048576: true; the input reads as it did. -/
def polyExactUptoRow : OpenClaim := { program := "ytahglkaihhjimaa", sum := "97ec751cd6a087525b1752c47378611d1109e4a63f6e36eab0005c955d5080c5", func := "volute/volutelaw02.PolyExact", spec := "polyExact", unfollowed := true, recurses := true, apart := false, narrowed := true }
def PolyExactUptoSaid : Prop := polyExactUptoRow.holds Try.pinned (OpenSpec.upto polyExactSpec)

/-- 'volutelaw02.PolyDivides', WHERE WHAT IT READS IS OF BULK AT MOST 1048576: true; the input reads as it did. -/
def polyDividesUptoRow : OpenClaim := { program := "ytahglkaihhjimaa", sum := "97ec751cd6a087525b1752c47378611d1109e4a63f6e36eab0005c955d5080c5", func := "volute/volutelaw02.PolyDivides", spec := "polyDivides", unfollowed := true, recurses := true, apart := false, narrowed := true }
def PolyDividesUptoSaid : Prop := polyDividesUptoRow.holds Try.pinned (OpenSpec.upto polyDividesSpec)

/-- 'volutelaw02.PolyPowers', WHERE WHAT IT READS IS OF BULK AT MOST 1048576: true; the input reads as it did. -/
def polyPowersUptoRow : OpenClaim := { program := "ytahglkaihhjimaa", sum := "97ec751cd6a087525b1752c47378611d1109e4a63f6e36eab0005c955d5080c5", func := "volute/volutelaw02.PolyPowers", spec := "polyPowers", unfollowed := true, recurses := true, apart := false, narrowed := true }
def PolyPowersUptoSaid : Prop := polyPowersUptoRow.holds Try.pinned (OpenSpec.upto polyPowersSpec)

/-- 'volutelaw02.PolyTrims', WHERE WHAT IT READS IS OF BULK AT MOST 1048576: true; the input reads as it did. -/
def polyTrimsUptoRow : OpenClaim := { program := "ytahglkaihhjimaa", sum := "97ec751cd6a087525b1752c47378611d1109e4a63f6e36eab0005c955d5080c5", func := "volute/volutelaw02.PolyTrims", spec := "polyTrims", unfollowed := true, recurses := true, apart := false, narrowed := true }
def PolyTrimsUptoSaid : Prop := polyTrimsUptoRow.holds Try.pinned (OpenSpec.upto polyTrimsSpec)

end Rows
end Go.Proofs.Ytahglkaihhjimaa
