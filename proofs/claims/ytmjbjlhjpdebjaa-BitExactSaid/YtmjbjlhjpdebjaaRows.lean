/-
  No cell of these rows narrows 'for every input' (looked for: loops, veiled, ifaces, maps, wideKeys, modest, calm, conditions, laid).
  DERIVED. THE GIVEN ROWS OF THIS SEAT. 7 by the template 'for every input the law returns true; each argument reads behind the call as it read before'; 0 by the template 'total and deterministic' (their statements: YtmjbjlhjpdebjaaTotals.lean).
  GIVEN WITH THE SEED: the statements are not yours to turn. If you find one false, say at which input.
  Laid BY PROGRAM, IN A SANDBOX (cutbox-rows.mjs): the forced cells as the released guide's own fill.sh prints them over the translation 401552c2c496200d… (all of the seat's roots in one cut). By AI agents, Wed Nov 11 2026. No macro, syntax, notation, axiom, sorry.
-/
import Derived.Test.YtmjbjlhjpdebjaaChecked
import GoSem.Claim
import GoSem.ClaimJoined
import GoSem.ClaimMapViews
import Derived.JoinedTies
import Derived.KernelRfl
namespace Go.Proofs.Ytmjbjlhjpdebjaa
/- THE CELL 'sum', in the pinned program and in every row, IS THE sha256 OF THE DUMP (.gsa) THAT YtmjbjlhjpdebjaaProg.lean LOADS. Nothing in Lean hashes anything: it is a label: what it is worth is what the hold of that sum in a sandbox is worth. -/
noncomputable def Try.pinned : Pinned := { name := "ytmjbjlhjpdebjaa", sum := "401552c2c496200d635f6202b097860abb48dfcef59484dd1ee5efdbcd1ffe71", checked := Try.checked }
namespace Rows
def none {H : Type} : Left H := { results := [], args := [] }

/-- 'volutelaw01.BitOnes': WHATEVER THE INPUT: true; the input reads as it did. -/
def bitOnesSpec : ChangeSpec := { name := "bitOnes", fn := fun _ => fun
  | [d1, d2] => { results := [.lit (.bool true)], args := [d1, d2] }
  | _ => none }
def bitOnesRow : OpenClaim := { program := "ytmjbjlhjpdebjaa", sum := "401552c2c496200d635f6202b097860abb48dfcef59484dd1ee5efdbcd1ffe71", func := "volute/volutelaw01.BitOnes", spec := "bitOnes", unfollowed := true, recurses := true, apart := false }
def BitOnesSaid : Prop := bitOnesRow.holds Try.pinned (OpenSpec.ofChange bitOnesSpec)

/-- ITS FALSE NEIGHBOUR: 'it returns false'. Refute it at one input. -/
def bitOnesWrong : ChangeSpec := { name := "bitOnes", fn := fun _ => fun
  | [d1, d2] => { results := [.lit (.bool false)], args := [d1, d2] }
  | _ => none }
def BitOnesWrongFalsely : Prop := bitOnesRow.holds Try.pinned (OpenSpec.ofChange bitOnesWrong)

/-- 'volutelaw01.BitParts': WHATEVER THE INPUT: true; the input reads as it did. -/
def bitPartsSpec : ChangeSpec := { name := "bitParts", fn := fun _ => fun
  | [d1, d2] => { results := [.lit (.bool true)], args := [d1, d2] }
  | _ => none }
def bitPartsRow : OpenClaim := { program := "ytmjbjlhjpdebjaa", sum := "401552c2c496200d635f6202b097860abb48dfcef59484dd1ee5efdbcd1ffe71", func := "volute/volutelaw01.BitParts", spec := "bitParts", unfollowed := true, recurses := true, apart := false }
def BitPartsSaid : Prop := bitPartsRow.holds Try.pinned (OpenSpec.ofChange bitPartsSpec)

/-- ITS FALSE NEIGHBOUR: 'it returns false'. Refute it at one input. -/
def bitPartsWrong : ChangeSpec := { name := "bitParts", fn := fun _ => fun
  | [d1, d2] => { results := [.lit (.bool false)], args := [d1, d2] }
  | _ => none }
def BitPartsWrongFalsely : Prop := bitPartsRow.holds Try.pinned (OpenSpec.ofChange bitPartsWrong)

/-- 'volutelaw01.BitTurns': WHATEVER THE INPUT: true; the input reads as it did. -/
def bitTurnsSpec : ChangeSpec := { name := "bitTurns", fn := fun _ => fun
  | [d1, d2] => { results := [.lit (.bool true)], args := [d1, d2] }
  | _ => none }
def bitTurnsRow : OpenClaim := { program := "ytmjbjlhjpdebjaa", sum := "401552c2c496200d635f6202b097860abb48dfcef59484dd1ee5efdbcd1ffe71", func := "volute/volutelaw01.BitTurns", spec := "bitTurns", unfollowed := true, recurses := true, apart := false }
def BitTurnsSaid : Prop := bitTurnsRow.holds Try.pinned (OpenSpec.ofChange bitTurnsSpec)

/-- ITS FALSE NEIGHBOUR: 'it returns false'. Refute it at one input. -/
def bitTurnsWrong : ChangeSpec := { name := "bitTurns", fn := fun _ => fun
  | [d1, d2] => { results := [.lit (.bool false)], args := [d1, d2] }
  | _ => none }
def BitTurnsWrongFalsely : Prop := bitTurnsRow.holds Try.pinned (OpenSpec.ofChange bitTurnsWrong)

/-- 'volutelaw01.BitNumbers': WHATEVER THE INPUT: true; the input reads as it did. -/
def bitNumbersSpec : ChangeSpec := { name := "bitNumbers", fn := fun _ => fun
  | [d1, d2, d3, d4] => { results := [.lit (.bool true)], args := [d1, d2, d3, d4] }
  | _ => none }
def bitNumbersRow : OpenClaim := { program := "ytmjbjlhjpdebjaa", sum := "401552c2c496200d635f6202b097860abb48dfcef59484dd1ee5efdbcd1ffe71", func := "volute/volutelaw01.BitNumbers", spec := "bitNumbers", unfollowed := true, recurses := true, apart := false }
def BitNumbersSaid : Prop := bitNumbersRow.holds Try.pinned (OpenSpec.ofChange bitNumbersSpec)

/-- ITS FALSE NEIGHBOUR: 'it returns false'. Refute it at one input. -/
def bitNumbersWrong : ChangeSpec := { name := "bitNumbers", fn := fun _ => fun
  | [d1, d2, d3, d4] => { results := [.lit (.bool false)], args := [d1, d2, d3, d4] }
  | _ => none }
def BitNumbersWrongFalsely : Prop := bitNumbersRow.holds Try.pinned (OpenSpec.ofChange bitNumbersWrong)

/-- 'volutelaw01.BitExact': WHATEVER THE INPUT: true; the input reads as it did. -/
def bitExactSpec : ChangeSpec := { name := "bitExact", fn := fun _ => fun
  | [d1, d2] => { results := [.lit (.bool true)], args := [d1, d2] }
  | _ => none }
def bitExactRow : OpenClaim := { program := "ytmjbjlhjpdebjaa", sum := "401552c2c496200d635f6202b097860abb48dfcef59484dd1ee5efdbcd1ffe71", func := "volute/volutelaw01.BitExact", spec := "bitExact", unfollowed := true, recurses := true, apart := false }
def BitExactSaid : Prop := bitExactRow.holds Try.pinned (OpenSpec.ofChange bitExactSpec)

/-- ITS FALSE NEIGHBOUR: 'it returns false'. Refute it at one input. -/
def bitExactWrong : ChangeSpec := { name := "bitExact", fn := fun _ => fun
  | [d1, d2] => { results := [.lit (.bool false)], args := [d1, d2] }
  | _ => none }
def BitExactWrongFalsely : Prop := bitExactRow.holds Try.pinned (OpenSpec.ofChange bitExactWrong)

/-- 'volutelaw01.BitLong': WHATEVER THE INPUT: true; the input reads as it did. -/
def bitLongSpec : ChangeSpec := { name := "bitLong", fn := fun _ => fun
  | [d1, d2] => { results := [.lit (.bool true)], args := [d1, d2] }
  | _ => none }
def bitLongRow : OpenClaim := { program := "ytmjbjlhjpdebjaa", sum := "401552c2c496200d635f6202b097860abb48dfcef59484dd1ee5efdbcd1ffe71", func := "volute/volutelaw01.BitLong", spec := "bitLong", unfollowed := true, recurses := true, apart := false }
def BitLongSaid : Prop := bitLongRow.holds Try.pinned (OpenSpec.ofChange bitLongSpec)

/-- ITS FALSE NEIGHBOUR: 'it returns false'. Refute it at one input. -/
def bitLongWrong : ChangeSpec := { name := "bitLong", fn := fun _ => fun
  | [d1, d2] => { results := [.lit (.bool false)], args := [d1, d2] }
  | _ => none }
def BitLongWrongFalsely : Prop := bitLongRow.holds Try.pinned (OpenSpec.ofChange bitLongWrong)

/-- 'volutelaw01.BitBack': WHATEVER THE INPUT: true; the input reads as it did. -/
def bitBackSpec : ChangeSpec := { name := "bitBack", fn := fun _ => fun
  | [d1, d2, d3] => { results := [.lit (.bool true)], args := [d1, d2, d3] }
  | _ => none }
def bitBackRow : OpenClaim := { program := "ytmjbjlhjpdebjaa", sum := "401552c2c496200d635f6202b097860abb48dfcef59484dd1ee5efdbcd1ffe71", func := "volute/volutelaw01.BitBack", spec := "bitBack", unfollowed := true, recurses := true, apart := false }
def BitBackSaid : Prop := bitBackRow.holds Try.pinned (OpenSpec.ofChange bitBackSpec)

/-- ITS FALSE NEIGHBOUR: 'it returns false'. Refute it at one input. -/
def bitBackWrong : ChangeSpec := { name := "bitBack", fn := fun _ => fun
  | [d1, d2, d3] => { results := [.lit (.bool false)], args := [d1, d2, d3] }
  | _ => none }
def BitBackWrongFalsely : Prop := bitBackRow.holds Try.pinned (OpenSpec.ofChange bitBackWrong)

/- THE SECOND FORM. 'bulk': how many values and letters a reading holds, each counted each time it is reached (what is shared counts as often as it is met; a slice's spare places count too). A statement '..UptoSaid' is the law's where the arguments, and the package variables that the reading takes, are together of bulk at most 1048576: NARROWER than '..Said'. Prove '..Said' where nothing that the law and all that it calls make is longer than what came in: it says more and counts as full. Else prove '..UptoSaid'. A law counts once. -/
mutual
def uptoBulk {H : Type} : DataW H → Nat
  | .lit (.string bytes) => bytes.length + 1
  | .lit _ => 1
  | .nil => 1
  | .ptr d => uptoBulk d + 1
  | .slice elems spare => uptoBulkAll elems + uptoBulkAll spare + 1
  | .agg parts => uptoBulkAll parts + 1
  | .iface _ d => uptoBulk d + 1
  | .map entries => uptoBulkEntries entries + 1
  | .held _ => 1
def uptoBulkAll {H : Type} : List (DataW H) → Nat
  | [] => 0
  | d :: r => uptoBulk d + uptoBulkAll r
def uptoBulkEntries {H : Type} : List (Lit × DataW H) → Nat
  | [] => 0
  | x :: r => uptoBulkEntry x + uptoBulkEntries r
def uptoBulkEntry {H : Type} : Lit × DataW H → Nat
  | (.string bytes, d) => bytes.length + uptoBulk d + 1
  | (_, d) => uptoBulk d + 1
 end
def uptoSmall : (H : Type) → List (DataW H) → Bool := fun _ ds => decide (uptoBulkAll ds ≤ 1048576)
def OpenSpec.upto (s : _root_.Go.ChangeSpec) : _root_.Go.OpenSpec := { _root_.Go.OpenSpec.ofChange s with cond := some uptoSmall }

/-- 'volutelaw01.BitOnes', WHERE WHAT IT READS IS OF BULK AT MOST 1048576: true; the input reads as it did. -/
def bitOnesUptoRow : OpenClaim := { program := "ytmjbjlhjpdebjaa", sum := "401552c2c496200d635f6202b097860abb48dfcef59484dd1ee5efdbcd1ffe71", func := "volute/volutelaw01.BitOnes", spec := "bitOnes", unfollowed := true, recurses := true, apart := false, narrowed := true }
def BitOnesUptoSaid : Prop := bitOnesUptoRow.holds Try.pinned (OpenSpec.upto bitOnesSpec)

/-- 'volutelaw01.BitParts', WHERE WHAT IT READS IS OF BULK AT MOST 1048576: true; the input reads as it did. -/
def bitPartsUptoRow : OpenClaim := { program := "ytmjbjlhjpdebjaa", sum := "401552c2c496200d635f6202b097860abb48dfcef59484dd1ee5efdbcd1ffe71", func := "volute/volutelaw01.BitParts", spec := "bitParts", unfollowed := true, recurses := true, apart := false, narrowed := true }
def BitPartsUptoSaid : Prop := bitPartsUptoRow.holds Try.pinned (OpenSpec.upto bitPartsSpec)

/-- 'volutelaw01.BitTurns', WHERE WHAT IT READS IS OF BULK AT MOST 1048576: true; the input reads as it did. -/
def bitTurnsUptoRow : OpenClaim := { program := "ytmjbjlhjpdebjaa", sum := "401552c2c496200d635f6202b097860abb48dfcef59484dd1ee5efdbcd1ffe71", func := "volute/volutelaw01.BitTurns", spec := "bitTurns", unfollowed := true, recurses := true, apart := false, narrowed := true }
def BitTurnsUptoSaid : Prop := bitTurnsUptoRow.holds Try.pinned (OpenSpec.upto bitTurnsSpec)

/-- 'volutelaw01.BitNumbers', WHERE WHAT IT READS IS OF BULK AT MOST 1048576: true; the input reads as it did. -/
def bitNumbersUptoRow : OpenClaim := { program := "ytmjbjlhjpdebjaa", sum := "401552c2c496200d635f6202b097860abb48dfcef59484dd1ee5efdbcd1ffe71", func := "volute/volutelaw01.BitNumbers", spec := "bitNumbers", unfollowed := true, recurses := true, apart := false, narrowed := true }
def BitNumbersUptoSaid : Prop := bitNumbersUptoRow.holds Try.pinned (OpenSpec.upto bitNumbersSpec)

/-- 'volutelaw01.BitExact', WHERE WHAT IT READS IS OF BULK AT MOST 1048576: true; the input reads as it did. -/
def bitExactUptoRow : OpenClaim := { program := "ytmjbjlhjpdebjaa", sum := "401552c2c496200d635f6202b097860abb48dfcef59484dd1ee5efdbcd1ffe71", func := "volute/volutelaw01.BitExact", spec := "bitExact", unfollowed := true, recurses := true, apart := false, narrowed := true }
def BitExactUptoSaid : Prop := bitExactUptoRow.holds Try.pinned (OpenSpec.upto bitExactSpec)

/-- 'volutelaw01.BitLong', WHERE WHAT IT READS IS OF BULK AT MOST 1048576: true; the input reads as it did. -/
def bitLongUptoRow : OpenClaim := { program := "ytmjbjlhjpdebjaa", sum := "401552c2c496200d635f6202b097860abb48dfcef59484dd1ee5efdbcd1ffe71", func := "volute/volutelaw01.BitLong", spec := "bitLong", unfollowed := true, recurses := true, apart := false, narrowed := true }
def BitLongUptoSaid : Prop := bitLongUptoRow.holds Try.pinned (OpenSpec.upto bitLongSpec)

/-- 'volutelaw01.BitBack', WHERE WHAT IT READS IS OF BULK AT MOST 1048576: true; the input reads as it did. -/
def bitBackUptoRow : OpenClaim := { program := "ytmjbjlhjpdebjaa", sum := "401552c2c496200d635f6202b097860abb48dfcef59484dd1ee5efdbcd1ffe71", func := "volute/volutelaw01.BitBack", spec := "bitBack", unfollowed := true, recurses := true, apart := false, narrowed := true }
def BitBackUptoSaid : Prop := bitBackUptoRow.holds Try.pinned (OpenSpec.upto bitBackSpec)

end Rows
end Go.Proofs.Ytmjbjlhjpdebjaa
