/-
  No cell of these rows narrows 'for every input' (looked for: loops, veiled, ifaces, maps, wideKeys, modest, calm, conditions, laid).
  DERIVED. THE GIVEN ROWS OF THIS SEAT. 4 by the template 'for every input the law returns true; each argument reads behind the call as it read before'; 0 by the template 'total and deterministic' (their statements: YtbbmdflfonifnaaTotals.lean).
  GIVEN WITH THE SEED: the statements are not yours to turn. If you find one false, say at which input.
  Laid BY PROGRAM, IN A SANDBOX (cutbox-rows.mjs): the forced cells as the released guide's own fill.sh prints them over the translation 6888cfc4c74a15f5… (all of the seat's roots in one cut). By AI agents, Wed Nov 11 2026. No macro, syntax, notation, axiom, sorry.
-/
import Derived.Test.YtbbmdflfonifnaaChecked
import GoSem.Claim
import GoSem.ClaimJoined
import GoSem.ClaimMapViews
import Derived.JoinedTies
import Derived.KernelRfl
namespace Go.Proofs.Ytbbmdflfonifnaa
/- THE CELL 'sum', in the pinned program and in every row, IS THE sha256 OF THE DUMP (.gsa) THAT YtbbmdflfonifnaaProg.lean LOADS. Nothing in Lean hashes anything: it is a label: what it is worth is what the hold of that sum in a sandbox is worth. -/
noncomputable def Try.pinned : Pinned := { name := "ytbbmdflfonifnaa", sum := "6888cfc4c74a15f5b84b8f7ffe562c86c82bab36d0ec1becab6697dc70877d30", checked := Try.checked }
namespace Rows
def none {H : Type} : Left H := { results := [], args := [] }

/-- 'volutelaw26.AuditAcks': WHATEVER THE INPUT: true; the input reads as it did. -/
def auditAcksSpec : ChangeSpec := { name := "auditAcks", fn := fun _ => fun
  | [d1, d2, d3] => { results := [.lit (.bool true)], args := [d1, d2, d3] }
  | _ => none }
def auditAcksRow : OpenClaim := { program := "ytbbmdflfonifnaa", sum := "6888cfc4c74a15f5b84b8f7ffe562c86c82bab36d0ec1becab6697dc70877d30", func := "volute/volutelaw26.AuditAcks", spec := "auditAcks", unfollowed := true, recurses := true, apart := false }
def AuditAcksSaid : Prop := auditAcksRow.holds Try.pinned (OpenSpec.ofChange auditAcksSpec)

/-- ITS FALSE NEIGHBOUR: 'it returns false'. Refute it at one input. -/
def auditAcksWrong : ChangeSpec := { name := "auditAcks", fn := fun _ => fun
  | [d1, d2, d3] => { results := [.lit (.bool false)], args := [d1, d2, d3] }
  | _ => none }
def AuditAcksWrongFalsely : Prop := auditAcksRow.holds Try.pinned (OpenSpec.ofChange auditAcksWrong)

/-- 'volutelaw26.AuditExact': WHATEVER THE INPUT: true; the input reads as it did. -/
def auditExactSpec : ChangeSpec := { name := "auditExact", fn := fun _ => fun
  | [d1, d2, d3, d4, d5] => { results := [.lit (.bool true)], args := [d1, d2, d3, d4, d5] }
  | _ => none }
def auditExactRow : OpenClaim := { program := "ytbbmdflfonifnaa", sum := "6888cfc4c74a15f5b84b8f7ffe562c86c82bab36d0ec1becab6697dc70877d30", func := "volute/volutelaw26.AuditExact", spec := "auditExact", unfollowed := true, recurses := true, apart := false }
def AuditExactSaid : Prop := auditExactRow.holds Try.pinned (OpenSpec.ofChange auditExactSpec)

/-- ITS FALSE NEIGHBOUR: 'it returns false'. Refute it at one input. -/
def auditExactWrong : ChangeSpec := { name := "auditExact", fn := fun _ => fun
  | [d1, d2, d3, d4, d5] => { results := [.lit (.bool false)], args := [d1, d2, d3, d4, d5] }
  | _ => none }
def AuditExactWrongFalsely : Prop := auditExactRow.holds Try.pinned (OpenSpec.ofChange auditExactWrong)

/-- 'volutelaw26.AuditMore': WHATEVER THE INPUT: true; the input reads as it did. -/
def auditMoreSpec : ChangeSpec := { name := "auditMore", fn := fun _ => fun
  | [d1, d2, d3, d4, d5] => { results := [.lit (.bool true)], args := [d1, d2, d3, d4, d5] }
  | _ => none }
def auditMoreRow : OpenClaim := { program := "ytbbmdflfonifnaa", sum := "6888cfc4c74a15f5b84b8f7ffe562c86c82bab36d0ec1becab6697dc70877d30", func := "volute/volutelaw26.AuditMore", spec := "auditMore", unfollowed := true, recurses := true, apart := false }
def AuditMoreSaid : Prop := auditMoreRow.holds Try.pinned (OpenSpec.ofChange auditMoreSpec)

/-- ITS FALSE NEIGHBOUR: 'it returns false'. Refute it at one input. -/
def auditMoreWrong : ChangeSpec := { name := "auditMore", fn := fun _ => fun
  | [d1, d2, d3, d4, d5] => { results := [.lit (.bool false)], args := [d1, d2, d3, d4, d5] }
  | _ => none }
def AuditMoreWrongFalsely : Prop := auditMoreRow.holds Try.pinned (OpenSpec.ofChange auditMoreWrong)

/-- 'volutelaw26.AuditFirst': WHATEVER THE INPUT: true; the input reads as it did. -/
def auditFirstSpec : ChangeSpec := { name := "auditFirst", fn := fun _ => fun
  | [d1, d2, d3, d4, d5] => { results := [.lit (.bool true)], args := [d1, d2, d3, d4, d5] }
  | _ => none }
def auditFirstRow : OpenClaim := { program := "ytbbmdflfonifnaa", sum := "6888cfc4c74a15f5b84b8f7ffe562c86c82bab36d0ec1becab6697dc70877d30", func := "volute/volutelaw26.AuditFirst", spec := "auditFirst", unfollowed := true, recurses := true, apart := false }
def AuditFirstSaid : Prop := auditFirstRow.holds Try.pinned (OpenSpec.ofChange auditFirstSpec)

/-- ITS FALSE NEIGHBOUR: 'it returns false'. Refute it at one input. -/
def auditFirstWrong : ChangeSpec := { name := "auditFirst", fn := fun _ => fun
  | [d1, d2, d3, d4, d5] => { results := [.lit (.bool false)], args := [d1, d2, d3, d4, d5] }
  | _ => none }
def AuditFirstWrongFalsely : Prop := auditFirstRow.holds Try.pinned (OpenSpec.ofChange auditFirstWrong)

/- THE SECOND FORM. 'bulk': how many values and letters a reading holds, each counted each time it is reached (what is shared counts as often as it is met; a slice's spare places count too). A statement '..UptoSaid' is the law's where the arguments, and the package variables that the reading takes, are together of bulk at most 1048576: NARROWER than '..Said'. Prove '..Said' where nothing that the law and all that it calls make is longer than what came in: it says more and counts as full. Else prove '..UptoSaid'. A law counts once. -/
mutual
def uptoBulk {H : Type} : DataW H → Nat
  | .lit (.string bytes) => bytes.length + 1
  | .lit _ => 1
  | .nil => 1
  | .ptr d => uptoBulk d + 1
  | .slice elems spare => uptoBulkAll elems + uptoBulkAll spare + 1
  | .agg parts => uptoBulkAll parts + 1
  | .iface _ d => uptoBulk d + 1
  | .map entries => uptoBulkEntries entries + 1
  | .held _ => 1
def uptoBulkAll {H : Type} : List (DataW H) → Nat
  | [] => 0
  | d :: r => uptoBulk d + uptoBulkAll r
def uptoBulkEntries {H : Type} : List (Lit × DataW H) → Nat
  | [] => 0
  | x :: r => uptoBulkEntry x + uptoBulkEntries r
def uptoBulkEntry {H : Type} : Lit × DataW H → Nat
  | (.string bytes, d) => bytes.length + uptoBulk d + 1
  | (_, d) => uptoBulk d + 1
 end
def uptoSmall : (H : Type) → List (DataW H) → Bool := fun _ ds => decide (uptoBulkAll ds ≤ 1048576)
def OpenSpec.upto (s : _root_.Go.ChangeSpec) : _root_.Go.OpenSpec := { _root_.Go.OpenSpec.ofChange s with cond := some uptoSmall }

/-- 'volutelaw26.AuditAcks', WHERE WHAT IT READS IS OF BULK AT MOST 1048576: true; the input reads as it did. -/
def auditAcksUptoRow : OpenClaim := { program := "ytbbmdflfonifnaa", sum := "6888cfc4c74a15f5b84b8f7ffe562c86c82bab36d0ec1becab6697dc70877d30", func := "volute/volutelaw26.AuditAcks", spec := "auditAcks", unfollowed := true, recurses := true, apart := false, narrowed := true }
def AuditAcksUptoSaid : Prop := auditAcksUptoRow.holds Try.pinned (OpenSpec.upto auditAcksSpec)

/-- 'volutelaw26.AuditExact', WHERE WHAT IT READS IS OF BULK AT MOST 1048576: true; the input reads as it did. -/
def auditExactUptoRow : OpenClaim := { program := "ytbbmdflfonifnaa", sum := "6888cfc4c74a15f5b84b8f7ffe562c86c82bab36d0ec1becab6697dc70877d30", func := "volute/volutelaw26.AuditExact", spec := "auditExact", unfollowed := true, recurses := true, apart := false, narrowed := true }
def AuditExactUptoSaid : Prop := auditExactUptoRow.holds Try.pinned (OpenSpec.upto auditExactSpec)

/-- 'volutelaw26.AuditMore', WHERE WHAT IT READS IS OF BULK AT MOST 1048576: true; the input reads as it did. -/
def auditMoreUptoRow : OpenClaim := { program := "ytbbmdflfonifnaa", sum := "6888cfc4c74a15f5b84b8f7ffe562c86c82bab36d0ec1becab6697dc70877d30", func := "volute/volutelaw26.AuditMore", spec := "auditMore", unfollowed := true, recurses := true, apart := false, narrowed := true }
def AuditMoreUptoSaid : Prop := auditMoreUptoRow.holds Try.pinned (OpenSpec.upto auditMoreSpec)

/-- 'volutelaw26.AuditFirst', WHERE WHAT IT READS IS OF BULK AT MOST 1048576: true; the input reads as it did. -/
def auditFirstUptoRow : OpenClaim := { program := "ytbbmdflfonifnaa", sum := "6888cfc4c74a15f5b84b8f7ffe562c86c82bab36d0ec1becab6697dc70877d30", func := "volute/volutelaw26.AuditFirst", spec := "auditFirst", unfollowed := true, recurses := true, apart := false, narrowed := true }
def AuditFirstUptoSaid : Prop := auditFirstUptoRow.holds Try.pinned (OpenSpec.upto auditFirstSpec)

end Rows
end Go.Proofs.Ytbbmdflfonifnaa
