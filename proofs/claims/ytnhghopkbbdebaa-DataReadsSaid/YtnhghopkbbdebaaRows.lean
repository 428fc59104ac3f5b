/-
  No cell of these rows narrows 'for every input' (looked for: loops, veiled, ifaces, maps, wideKeys, modest, calm, conditions, laid).
  DERIVED. THE GIVEN ROWS OF THIS SEAT. 6 by the template 'for every input the law returns true; each argument reads behind the call as it read before'; 0 by the template 'total and deterministic' (their statements: YtnhghopkbbdebaaTotals.lean).
  GIVEN WITH THE SEED: the statements are not yours to turn. If you find one false, say at which input.
  Laid BY PROGRAM, IN A SANDBOX (cutbox-rows.mjs): the forced cells as the released guide's own fill.sh prints them over the translation 32f5247b899b1e2e… (all of the seat's roots in one cut). By AI agents, Wed Nov 11 2026. No macro, syntax, notation, axiom, sorry.
-/
import Derived.Test.YtnhghopkbbdebaaChecked
import GoSem.Claim
import GoSem.ClaimJoined
import GoSem.ClaimMapViews
import Derived.JoinedTies
import Derived.KernelRfl
namespace Go.Proofs.Ytnhghopkbbdebaa
/- THE CELL 'sum', in the pinned program and in every row, IS THE sha256 OF THE DUMP (.gsa) THAT YtnhghopkbbdebaaProg.lean LOADS. Nothing in Lean hashes anything: it is a label: what it is worth is what the hold of that sum in a sandbox is worth. -/
noncomputable def Try.pinned : Pinned := { name := "ytnhghopkbbdebaa", sum := "32f5247b899b1e2e8f3e4b5235f0bf6e20bf549b94982a1d7234fce640dc170b", checked := Try.checked }
namespace Rows
def none {H : Type} : Left H := { results := [], args := [] }

/-- 'volutelaw14.DataExact': WHATEVER THE INPUT: true; the input reads as it did. -/
def dataExactSpec : ChangeSpec := { name := "dataExact", fn := fun _ => fun
  | [d] => { results := [.lit (.bool true)], args := [d] }
  | _ => none }
def dataExactRow : OpenClaim := { program := "ytnhghopkbbdebaa", sum := "32f5247b899b1e2e8f3e4b5235f0bf6e20bf549b94982a1d7234fce640dc170b", func := "volute/volutelaw14.DataExact", spec := "dataExact", apart := false }
def DataExactSaid : Prop := dataExactRow.holds Try.pinned (OpenSpec.ofChange dataExactSpec)

/-- ITS FALSE NEIGHBOUR: 'it returns false'. Refute it at one input. -/
def dataExactWrong : ChangeSpec := { name := "dataExact", fn := fun _ => fun
  | [d] => { results := [.lit (.bool false)], args := [d] }
  | _ => none }
def DataExactWrongFalsely : Prop := dataExactRow.holds Try.pinned (OpenSpec.ofChange dataExactWrong)

/-- 'volutelaw14.DataReads': WHATEVER THE INPUT: true; the input reads as it did. -/
def dataReadsSpec : ChangeSpec := { name := "dataReads", fn := fun _ => fun
  | [d] => { results := [.lit (.bool true)], args := [d] }
  | _ => none }
def dataReadsRow : OpenClaim := { program := "ytnhghopkbbdebaa", sum := "32f5247b899b1e2e8f3e4b5235f0bf6e20bf549b94982a1d7234fce640dc170b", func := "volute/volutelaw14.DataReads", spec := "dataReads", apart := false }
def DataReadsSaid : Prop := dataReadsRow.holds Try.pinned (OpenSpec.ofChange dataReadsSpec)

/-- ITS FALSE NEIGHBOUR: 'it returns false'. Refute it at one input. -/
def dataReadsWrong : ChangeSpec := { name := "dataReads", fn := fun _ => fun
  | [d] => { results := [.lit (.bool false)], args := [d] }
  | _ => none }
def DataReadsWrongFalsely : Prop := dataReadsRow.holds Try.pinned (OpenSpec.ofChange dataReadsWrong)

/-- 'volutelaw14.DataCuts': WHATEVER THE INPUT: true; the input reads as it did. -/
def dataCutsSpec : ChangeSpec := { name := "dataCuts", fn := fun _ => fun
  | [d1, d2, d3, d4, d5] => { results := [.lit (.bool true)], args := [d1, d2, d3, d4, d5] }
  | _ => none }
def dataCutsRow : OpenClaim := { program := "ytnhghopkbbdebaa", sum := "32f5247b899b1e2e8f3e4b5235f0bf6e20bf549b94982a1d7234fce640dc170b", func := "volute/volutelaw14.DataCuts", spec := "dataCuts", apart := false }
def DataCutsSaid : Prop := dataCutsRow.holds Try.pinned (OpenSpec.ofChange dataCutsSpec)

/-- ITS FALSE NEIGHBOUR: 'it returns false'. Refute it at one input. -/
def dataCutsWrong : ChangeSpec := { name := "dataCuts", fn := fun _ => fun
  | [d1, d2, d3, d4, d5] => { results := [.lit (.bool false)], args := [d1, d2, d3, d4, d5] }
  | _ => none }
def DataCutsWrongFalsely : Prop := dataCutsRow.holds Try.pinned (OpenSpec.ofChange dataCutsWrong)

/-- 'volutelaw14.DataHeads': WHATEVER THE INPUT: true; the input reads as it did. -/
def dataHeadsSpec : ChangeSpec := { name := "dataHeads", fn := fun _ => fun
  | [d1, d2, d3] => { results := [.lit (.bool true)], args := [d1, d2, d3] }
  | _ => none }
def dataHeadsRow : OpenClaim := { program := "ytnhghopkbbdebaa", sum := "32f5247b899b1e2e8f3e4b5235f0bf6e20bf549b94982a1d7234fce640dc170b", func := "volute/volutelaw14.DataHeads", spec := "dataHeads", apart := false }
def DataHeadsSaid : Prop := dataHeadsRow.holds Try.pinned (OpenSpec.ofChange dataHeadsSpec)

/-- ITS FALSE NEIGHBOUR: 'it returns false'. Refute it at one input. -/
def dataHeadsWrong : ChangeSpec := { name := "dataHeads", fn := fun _ => fun
  | [d1, d2, d3] => { results := [.lit (.bool false)], args := [d1, d2, d3] }
  | _ => none }
def DataHeadsWrongFalsely : Prop := dataHeadsRow.holds Try.pinned (OpenSpec.ofChange dataHeadsWrong)

/-- 'volutelaw14.DataUnlike': WHATEVER THE INPUT: true; the input reads as it did. -/
def dataUnlikeSpec : ChangeSpec := { name := "dataUnlike", fn := fun _ => fun
  | [d1, d2] => { results := [.lit (.bool true)], args := [d1, d2] }
  | _ => none }
def dataUnlikeRow : OpenClaim := { program := "ytnhghopkbbdebaa", sum := "32f5247b899b1e2e8f3e4b5235f0bf6e20bf549b94982a1d7234fce640dc170b", func := "volute/volutelaw14.DataUnlike", spec := "dataUnlike", apart := false }
def DataUnlikeSaid : Prop := dataUnlikeRow.holds Try.pinned (OpenSpec.ofChange dataUnlikeSpec)

/-- ITS FALSE NEIGHBOUR: 'it returns false'. Refute it at one input. -/
def dataUnlikeWrong : ChangeSpec := { name := "dataUnlike", fn := fun _ => fun
  | [d1, d2] => { results := [.lit (.bool false)], args := [d1, d2] }
  | _ => none }
def DataUnlikeWrongFalsely : Prop := dataUnlikeRow.holds Try.pinned (OpenSpec.ofChange dataUnlikeWrong)

/-- 'volutelaw14.DataBounds': WHATEVER THE INPUT: true; the input reads as it did. -/
def dataBoundsSpec : ChangeSpec := { name := "dataBounds", fn := fun _ => fun
  | [d1, d2] => { results := [.lit (.bool true)], args := [d1, d2] }
  | _ => none }
def dataBoundsRow : OpenClaim := { program := "ytnhghopkbbdebaa", sum := "32f5247b899b1e2e8f3e4b5235f0bf6e20bf549b94982a1d7234fce640dc170b", func := "volute/volutelaw14.DataBounds", spec := "dataBounds", apart := false }
def DataBoundsSaid : Prop := dataBoundsRow.holds Try.pinned (OpenSpec.ofChange dataBoundsSpec)

/-- ITS FALSE NEIGHBOUR: 'it returns false'. Refute it at one input. -/
def dataBoundsWrong : ChangeSpec := { name := "dataBounds", fn := fun _ => fun
  | [d1, d2] => { results := [.lit (.bool false)], args := [d1, d2] }
  | _ => none }
def DataBoundsWrongFalsely : Prop := dataBoundsRow.holds Try.pinned (OpenSpec.ofChange dataBoundsWrong)

/- THE SECOND FORM. 'bulk': how many values and letters a reading holds, each counted each time it is reached (what is shared counts as often as it is met; a slice's spare places count too). A statement '..UptoSaid' is the law's where the arguments, and the package variables that the reading takes, are together of bulk at most 1048576: NARROWER than '..Said'. Prove '..Said' where nothing that the law and all that it calls make is longer than what came in: it says more and counts as full. Else prove '..UptoSaid'. A law counts once. -/
mutual
def uptoBulk {H : Type} : DataW H → Nat
  | .lit (.string bytes) => bytes.length + 1
  | .lit _ => 1
  | .nil => 1
  | .ptr d => uptoBulk d + 1
  | .slice elems spare => uptoBulkAll elems + uptoBulkAll spare + 1
  | .agg parts => uptoBulkAll parts + 1
  | .iface _ d => uptoBulk d + 1
  | .map entries => uptoBulkEntries entries + 1
  | .held _ => 1
def uptoBulkAll {H : Type} : List (DataW H) → Nat
  | [] => 0
  | d :: r => uptoBulk d + uptoBulkAll r
def uptoBulkEntries {H : Type} : List (Lit × DataW H) → Nat
  | [] => 0
  | x :: r => uptoBulkEntry x + uptoBulkEntries r
def uptoBulkEntry {H : Type} : Lit × DataW H → Nat
  | (.string bytes, d) => bytes.length + uptoBulk d + 1
  | (_, d) => uptoBulk d + 1
 end
def uptoSmall : (H : Type) → List (DataW H) → Bool := fun _ ds => decide (uptoBulkAll ds ≤ 1048576)
def OpenSpec.upto (s : _root_.Go.ChangeSpec) : _root_.Go.OpenSpec := { _root_.Go.OpenSpec.ofChange s with cond := some uptoSmall }

/-- 'volutelaw14.DataExact', WHERE WHAT IT READS IS OF BULK AT MOST 1048576: true; the input reads as it did. -/
def dataExactUptoRow : OpenClaim := { program := "ytnhghopkbbdebaa", sum := "32f5247b899b1e2e8f3e4b5235f0bf6e20bf549b94982a1d7234fce640dc170b", func := "volute/volutelaw14.DataExact", spec := "dataExact", apart := false, narrowed := true }
def DataExactUptoSaid : Prop := dataExactUptoRow.holds Try.pinned (OpenSpec.upto dataExactSpec)

/-- 'volutelaw14.DataReads', WHERE WHAT IT READS IS OF BULK AT MOST 1048576: true; the input reads as it did. -/
def dataReadsUptoRow : OpenClaim := { program := "ytnhghopkbbdebaa", sum := "32f5247b899b1e2e8f3e4b5235f0bf6e20bf549b94982a1d7234fce640dc170b", func := "volute/volutelaw14.DataReads", spec := "dataReads", apart := false, narrowed := true }
def DataReadsUptoSaid : Prop := dataReadsUptoRow.holds Try.pinned (OpenSpec.upto dataReadsSpec)

/-- 'volutelaw14.DataCuts', WHERE WHAT IT READS IS OF BULK AT MOST 1048576: true; the input reads as it did. -/
def dataCutsUptoRow : OpenClaim := { program := "ytnhghopkbbdebaa", sum := "32f5247b899b1e2e8f3e4b5235f0bf6e20bf549b94982a1d7234fce640dc170b", func := "volute/volutelaw14.DataCuts", spec := "dataCuts", apart := false, narrowed := true }
def DataCutsUptoSaid : Prop := dataCutsUptoRow.holds Try.pinned (OpenSpec.upto dataCutsSpec)

/-- 'volutelaw14.DataHeads', WHERE WHAT IT READS IS OF BULK AT MOST 1048576: true; the input reads as it did. -/
def dataHeadsUptoRow : OpenClaim := { program := "ytnhghopkbbdebaa", sum := "32f5247b899b1e2e8f3e4b5235f0bf6e20bf549b94982a1d7234fce640dc170b", func := "volute/volutelaw14.DataHeads", spec := "dataHeads", apart := false, narrowed := true }
def DataHeadsUptoSaid : Prop := dataHeadsUptoRow.holds Try.pinned (OpenSpec.upto dataHeadsSpec)

/-- 'volutelaw14.DataUnlike', WHERE WHAT IT READS IS OF BULK AT MOST 1048576: true; the input reads as it did. -/
def dataUnlikeUptoRow : OpenClaim := { program := "ytnhghopkbbdebaa", sum := "32f5247b899b1e2e8f3e4b5235f0bf6e20bf549b94982a1d7234fce640dc170b", func := "volute/volutelaw14.DataUnlike", spec := "dataUnlike", apart := false, narrowed := true }
def DataUnlikeUptoSaid : Prop := dataUnlikeUptoRow.holds Try.pinned (OpenSpec.upto dataUnlikeSpec)

/-- 'volutelaw14.DataBounds', WHERE WHAT IT READS IS OF BULK AT MOST 1048576: true; the input reads as it did. -/
def dataBoundsUptoRow : OpenClaim := { program := "ytnhghopkbbdebaa", sum := "32f5247b899b1e2e8f3e4b5235f0bf6e20bf549b94982a1d7234fce640dc170b", func := "volute/volutelaw14.DataBounds", spec := "dataBounds", apart := false, narrowed := true }
def DataBoundsUptoSaid : Prop := dataBoundsUptoRow.holds Try.pinned (OpenSpec.upto dataBoundsSpec)

end Rows
end Go.Proofs.Ytnhghopkbbdebaa
