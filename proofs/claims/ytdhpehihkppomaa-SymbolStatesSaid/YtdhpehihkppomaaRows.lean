/-
  No cell of these rows narrows 'for every input' (looked for: loops, veiled, ifaces, maps, wideKeys, modest, calm, conditions, laid).
  DERIVED. THE GIVEN ROWS OF THIS SEAT. 10 by the template 'for every input the law returns true; each argument reads behind the call as it read before'; 0 by the template 'total and deterministic' (their statements: YtdhpehihkppomaaTotals.lean).
  GIVEN WITH THE SEED: the statements are not yours to turn. If you find one false, say at which input.
  Laid BY PROGRAM, IN A SANDBOX (cutbox-rows.mjs): the forced cells as the released guide's own fill.sh prints them over the translation a0f425e92130377c… (all of the seat's roots in one cut). By AI agents, Wed Nov 11 2026. No macro, syntax, notation, axiom, sorry.
-/
import Derived.Test.YtdhpehihkppomaaChecked
import GoSem.Claim
import GoSem.ClaimJoined
import GoSem.ClaimMapViews
import Derived.JoinedTies
import Derived.KernelRfl
namespace Go.Proofs.Ytdhpehihkppomaa
/- THE CELL 'sum', in the pinned program and in every row, IS THE sha256 OF THE DUMP (.gsa) THAT YtdhpehihkppomaaProg.lean LOADS. Nothing in Lean hashes anything: it is a label: what it is worth is what the hold of that sum in a sandbox is worth. -/
noncomputable def Try.pinned : Pinned := { name := "ytdhpehihkppomaa", sum := "a0f425e92130377c6d6900ad8a2a2e17285b88569481f85c04c83325c9ef3dca", checked := Try.checked }
namespace Rows
def none {H : Type} : Left H := { results := [], args := [] }

/-- 'volutelaw04.MixExact': WHATEVER THE INPUT: true; the input reads as it did. -/
def mixExactSpec : ChangeSpec := { name := "mixExact", fn := fun _ => fun
  | [d] => { results := [.lit (.bool true)], args := [d] }
  | _ => none }
def mixExactRow : OpenClaim := { program := "ytdhpehihkppomaa", sum := "a0f425e92130377c6d6900ad8a2a2e17285b88569481f85c04c83325c9ef3dca", func := "volute/volutelaw04.MixExact", spec := "mixExact", apart := false }
def MixExactSaid : Prop := mixExactRow.holds Try.pinned (OpenSpec.ofChange mixExactSpec)

/-- ITS FALSE NEIGHBOUR: 'it returns false'. Refute it at one input. -/
def mixExactWrong : ChangeSpec := { name := "mixExact", fn := fun _ => fun
  | [d] => { results := [.lit (.bool false)], args := [d] }
  | _ => none }
def MixExactWrongFalsely : Prop := mixExactRow.holds Try.pinned (OpenSpec.ofChange mixExactWrong)

/-- 'volutelaw04.MixBack': WHATEVER THE INPUT: true; the input reads as it did. -/
def mixBackSpec : ChangeSpec := { name := "mixBack", fn := fun _ => fun
  | [d] => { results := [.lit (.bool true)], args := [d] }
  | _ => none }
def mixBackRow : OpenClaim := { program := "ytdhpehihkppomaa", sum := "a0f425e92130377c6d6900ad8a2a2e17285b88569481f85c04c83325c9ef3dca", func := "volute/volutelaw04.MixBack", spec := "mixBack", apart := false }
def MixBackSaid : Prop := mixBackRow.holds Try.pinned (OpenSpec.ofChange mixBackSpec)

/-- ITS FALSE NEIGHBOUR: 'it returns false'. Refute it at one input. -/
def mixBackWrong : ChangeSpec := { name := "mixBack", fn := fun _ => fun
  | [d] => { results := [.lit (.bool false)], args := [d] }
  | _ => none }
def MixBackWrongFalsely : Prop := mixBackRow.holds Try.pinned (OpenSpec.ofChange mixBackWrong)

/-- 'volutelaw04.MixUnlike': WHATEVER THE INPUT: true; the input reads as it did. -/
def mixUnlikeSpec : ChangeSpec := { name := "mixUnlike", fn := fun _ => fun
  | [d1, d2] => { results := [.lit (.bool true)], args := [d1, d2] }
  | _ => none }
def mixUnlikeRow : OpenClaim := { program := "ytdhpehihkppomaa", sum := "a0f425e92130377c6d6900ad8a2a2e17285b88569481f85c04c83325c9ef3dca", func := "volute/volutelaw04.MixUnlike", spec := "mixUnlike", apart := false }
def MixUnlikeSaid : Prop := mixUnlikeRow.holds Try.pinned (OpenSpec.ofChange mixUnlikeSpec)

/-- ITS FALSE NEIGHBOUR: 'it returns false'. Refute it at one input. -/
def mixUnlikeWrong : ChangeSpec := { name := "mixUnlike", fn := fun _ => fun
  | [d1, d2] => { results := [.lit (.bool false)], args := [d1, d2] }
  | _ => none }
def MixUnlikeWrongFalsely : Prop := mixUnlikeRow.holds Try.pinned (OpenSpec.ofChange mixUnlikeWrong)

/-- 'volutelaw04.MixChains': WHATEVER THE INPUT: true; the input reads as it did. -/
def mixChainsSpec : ChangeSpec := { name := "mixChains", fn := fun _ => fun
  | [d1, d2] => { results := [.lit (.bool true)], args := [d1, d2] }
  | _ => none }
def mixChainsRow : OpenClaim := { program := "ytdhpehihkppomaa", sum := "a0f425e92130377c6d6900ad8a2a2e17285b88569481f85c04c83325c9ef3dca", func := "volute/volutelaw04.MixChains", spec := "mixChains", apart := false }
def MixChainsSaid : Prop := mixChainsRow.holds Try.pinned (OpenSpec.ofChange mixChainsSpec)

/-- ITS FALSE NEIGHBOUR: 'it returns false'. Refute it at one input. -/
def mixChainsWrong : ChangeSpec := { name := "mixChains", fn := fun _ => fun
  | [d1, d2] => { results := [.lit (.bool false)], args := [d1, d2] }
  | _ => none }
def MixChainsWrongFalsely : Prop := mixChainsRow.holds Try.pinned (OpenSpec.ofChange mixChainsWrong)

/-- 'volutelaw06.SymbolExact': WHATEVER THE INPUT: true; the input reads as it did. -/
def symbolExactSpec : ChangeSpec := { name := "symbolExact", fn := fun _ => fun
  | [d1, d2] => { results := [.lit (.bool true)], args := [d1, d2] }
  | _ => none }
def symbolExactRow : OpenClaim := { program := "ytdhpehihkppomaa", sum := "a0f425e92130377c6d6900ad8a2a2e17285b88569481f85c04c83325c9ef3dca", func := "volute/volutelaw06.SymbolExact", spec := "symbolExact", unfollowed := true, recurses := true, apart := false }
def SymbolExactSaid : Prop := symbolExactRow.holds Try.pinned (OpenSpec.ofChange symbolExactSpec)

/-- ITS FALSE NEIGHBOUR: 'it returns false'. Refute it at one input. -/
def symbolExactWrong : ChangeSpec := { name := "symbolExact", fn := fun _ => fun
  | [d1, d2] => { results := [.lit (.bool false)], args := [d1, d2] }
  | _ => none }
def SymbolExactWrongFalsely : Prop := symbolExactRow.holds Try.pinned (OpenSpec.ofChange symbolExactWrong)

/-- 'volutelaw06.SymbolStates': WHATEVER THE INPUT: true; the input reads as it did. -/
def symbolStatesSpec : ChangeSpec := { name := "symbolStates", fn := fun _ => fun
  | [d1, d2] => { results := [.lit (.bool true)], args := [d1, d2] }
  | _ => none }
def symbolStatesRow : OpenClaim := { program := "ytdhpehihkppomaa", sum := "a0f425e92130377c6d6900ad8a2a2e17285b88569481f85c04c83325c9ef3dca", func := "volute/volutelaw06.SymbolStates", spec := "symbolStates", unfollowed := true, recurses := true, apart := false }
def SymbolStatesSaid : Prop := symbolStatesRow.holds Try.pinned (OpenSpec.ofChange symbolStatesSpec)

/-- ITS FALSE NEIGHBOUR: 'it returns false'. Refute it at one input. -/
def symbolStatesWrong : ChangeSpec := { name := "symbolStates", fn := fun _ => fun
  | [d1, d2] => { results := [.lit (.bool false)], args := [d1, d2] }
  | _ => none }
def SymbolStatesWrongFalsely : Prop := symbolStatesRow.holds Try.pinned (OpenSpec.ofChange symbolStatesWrong)

/-- 'volutelaw06.SymbolUnlike': WHATEVER THE INPUT: true; the input reads as it did. -/
def symbolUnlikeSpec : ChangeSpec := { name := "symbolUnlike", fn := fun _ => fun
  | [d1, d2, d3] => { results := [.lit (.bool true)], args := [d1, d2, d3] }
  | _ => none }
def symbolUnlikeRow : OpenClaim := { program := "ytdhpehihkppomaa", sum := "a0f425e92130377c6d6900ad8a2a2e17285b88569481f85c04c83325c9ef3dca", func := "volute/volutelaw06.SymbolUnlike", spec := "symbolUnlike", unfollowed := true, recurses := true, apart := false }
def SymbolUnlikeSaid : Prop := symbolUnlikeRow.holds Try.pinned (OpenSpec.ofChange symbolUnlikeSpec)

/-- ITS FALSE NEIGHBOUR: 'it returns false'. Refute it at one input. -/
def symbolUnlikeWrong : ChangeSpec := { name := "symbolUnlike", fn := fun _ => fun
  | [d1, d2, d3] => { results := [.lit (.bool false)], args := [d1, d2, d3] }
  | _ => none }
def SymbolUnlikeWrongFalsely : Prop := symbolUnlikeRow.holds Try.pinned (OpenSpec.ofChange symbolUnlikeWrong)

/-- 'volutelaw10.CostExact': WHATEVER THE INPUT: true; the input reads as it did. -/
def costExactSpec : ChangeSpec := { name := "costExact", fn := fun _ => fun
  | [d1, d2] => { results := [.lit (.bool true)], args := [d1, d2] }
  | _ => none }
def costExactRow : OpenClaim := { program := "ytdhpehihkppomaa", sum := "a0f425e92130377c6d6900ad8a2a2e17285b88569481f85c04c83325c9ef3dca", func := "volute/volutelaw10.CostExact", spec := "costExact", apart := false }
def CostExactSaid : Prop := costExactRow.holds Try.pinned (OpenSpec.ofChange costExactSpec)

/-- ITS FALSE NEIGHBOUR: 'it returns false'. Refute it at one input. -/
def costExactWrong : ChangeSpec := { name := "costExact", fn := fun _ => fun
  | [d1, d2] => { results := [.lit (.bool false)], args := [d1, d2] }
  | _ => none }
def CostExactWrongFalsely : Prop := costExactRow.holds Try.pinned (OpenSpec.ofChange costExactWrong)

/-- 'volutelaw10.CostBounds': WHATEVER THE INPUT: true; the input reads as it did. -/
def costBoundsSpec : ChangeSpec := { name := "costBounds", fn := fun _ => fun
  | [d1, d2, d3, d4] => { results := [.lit (.bool true)], args := [d1, d2, d3, d4] }
  | _ => none }
def costBoundsRow : OpenClaim := { program := "ytdhpehihkppomaa", sum := "a0f425e92130377c6d6900ad8a2a2e17285b88569481f85c04c83325c9ef3dca", func := "volute/volutelaw10.CostBounds", spec := "costBounds", apart := false }
def CostBoundsSaid : Prop := costBoundsRow.holds Try.pinned (OpenSpec.ofChange costBoundsSpec)

/-- ITS FALSE NEIGHBOUR: 'it returns false'. Refute it at one input. -/
def costBoundsWrong : ChangeSpec := { name := "costBounds", fn := fun _ => fun
  | [d1, d2, d3, d4] => { results := [.lit (.bool false)], args := [d1, d2, d3, d4] }
  | _ => none }
def CostBoundsWrongFalsely : Prop := costBoundsRow.holds Try.pinned (OpenSpec.ofChange costBoundsWrong)

/-- 'volutelaw10.CostThree': WHATEVER THE INPUT: true; the input reads as it did. -/
def costThreeSpec : ChangeSpec := { name := "costThree", fn := fun _ => fun
  | [d1, d2, d3, d4] => { results := [.lit (.bool true)], args := [d1, d2, d3, d4] }
  | _ => none }
def costThreeRow : OpenClaim := { program := "ytdhpehihkppomaa", sum := "a0f425e92130377c6d6900ad8a2a2e17285b88569481f85c04c83325c9ef3dca", func := "volute/volutelaw10.CostThree", spec := "costThree", apart := false }
def CostThreeSaid : Prop := costThreeRow.holds Try.pinned (OpenSpec.ofChange costThreeSpec)

/-- ITS FALSE NEIGHBOUR: 'it returns false'. Refute it at one input. -/
def costThreeWrong : ChangeSpec := { name := "costThree", fn := fun _ => fun
  | [d1, d2, d3, d4] => { results := [.lit (.bool false)], args := [d1, d2, d3, d4] }
  | _ => none }
def CostThreeWrongFalsely : Prop := costThreeRow.holds Try.pinned (OpenSpec.ofChange costThreeWrong)

/- THE SECOND FORM. 'bulk': how many values and letters a reading holds, each counted each time it is reached (what is shared counts as often as it is met; a slice's spare places count too). A statement '..UptoSaid' is the law's where the arguments, and the package variables that the reading takes, are together of bulk at most 1048576: NARROWER than '..Said'. Prove '..Said' where nothing that the law and all that it calls make is longer than what came in: it says more and counts as full. Else prove '..UptoSaid'. A law counts once. -/
mutual
def uptoBulk {H : Type} : DataW H → Nat
  | .lit (.string bytes) => bytes.length + 1
  | .lit _ => 1
  | .nil => 1
  | .ptr d => uptoBulk d + 1
  | .slice elems spare => uptoBulkAll elems + uptoBulkAll spare + 1
  | .agg parts => uptoBulkAll parts + 1
  | .iface _ d => uptoBulk d + 1
  | .map entries => uptoBulkEntries entries + 1
  | .held _ => 1
def uptoBulkAll {H : Type} : List (DataW H) → Nat
  | [] => 0
  | d :: r => uptoBulk d + uptoBulkAll r
def uptoBulkEntries {H : Type} : List (Lit × DataW H) → Nat
  | [] => 0
  | x :: r => uptoBulkEntry x + uptoBulkEntries r
def uptoBulkEntry {H : Type} : Lit × DataW H → Nat
  | (.string bytes, d) => bytes.length + uptoBulk d + 1
  | (_, d) => uptoBulk d + 1
 end
def uptoSmall : (H : Type) → List (DataW H) → Bool := fun _ ds => decide (uptoBulkAll ds ≤ 1048576)
def OpenSpec.upto (s : _root_.Go.ChangeSpec) : _root_.Go.OpenSpec := { _root_.Go.OpenSpec.ofChange s with cond := some uptoSmall }

/-- 'volutelaw04.MixExact', WHERE WHAT IT READS IS OF BULK AT MOST 1048576: true; the input reads as it did. -/
def mixExactUptoRow : OpenClaim := { program := "ytdhpehihkppomaa", sum := "a0f425e92130377c6d6900ad8a2a2e17285b88569481f85c04c83325c9ef3dca", func := "volute/volutelaw04.MixExact", spec := "mixExact", apart := false, narrowed := true }
def MixExactUptoSaid : Prop := mixExactUptoRow.holds Try.pinned (OpenSpec.upto mixExactSpec)

/-- 'volutelaw04.MixBack', WHERE WHAT IT READS IS OF BULK AT MOST 1048576: true; the input reads as it did. -/
def mixBackUptoRow : OpenClaim := { program := "ytdhpehihkppomaa", sum := "a0f425e92130377c6d6900ad8a2a2e17285b88569481f85c04c83325c9ef3dca", func := "volute/volutelaw04.MixBack", spec := "mixBack", apart := false, narrowed := true }
def MixBackUptoSaid : Prop := mixBackUptoRow.holds Try.pinned (OpenSpec.upto mixBackSpec)

/-- 'volutelaw04.MixUnlike', WHERE WHAT IT READS IS OF BULK AT MOST 1048576: true; the input reads as it did. -/
def mixUnlikeUptoRow : OpenClaim := { program := "ytdhpehihkppomaa", sum := "a0f425e92130377c6d6900ad8a2a2e17285b88569481f85c04c83325c9ef3dca", func := "volute/volutelaw04.MixUnlike", spec := "mixUnlike", apart := false, narrowed := true }
def MixUnlikeUptoSaid : Prop := mixUnlikeUptoRow.holds Try.pinned (OpenSpec.upto mixUnlikeSpec)

/-- 'volutelaw04.MixChains', WHERE WHAT IT READS IS OF BULK AT MOST 1048576: true; the input reads as it did. -/
def mixChainsUptoRow : OpenClaim := { program := "ytdhpehihkppomaa", sum := "a0f425e92130377c6d6900ad8a2a2e17285b88569481f85c04c83325c9ef3dca", func := "volute/volutelaw04.MixChains", spec := "mixChains", apart := false, narrowed := true }
def MixChainsUptoSaid : Prop := mixChainsUptoRow.holds Try.pinned (OpenSpec.upto mixChainsSpec)

/-- 'volutelaw06.SymbolExact', WHERE WHAT IT READS IS OF BULK AT MOST 1048576: true; the input reads as it did. -/
def symbolExactUptoRow : OpenClaim := { program := "ytdhpehihkppomaa", sum := "a0f425e92130377c6d6900ad8a2a2e17285b88569481f85c04c83325c9ef3dca", func := "volute/volutelaw06.SymbolExact", spec := "symbolExact", unfollowed := true, recurses := true, apart := false, narrowed := true }
def SymbolExactUptoSaid : Prop := symbolExactUptoRow.holds Try.pinned (OpenSpec.upto symbolExactSpec)

/-- 'volutelaw06.SymbolStates', WHERE WHAT IT READS IS OF BULK AT MOST 1048576: true; the input reads as it did. -/
def symbolStatesUptoRow : OpenClaim := { program := "ytdhpehihkppomaa", sum := "a0f425e92130377c6d6900ad8a2a2e17285b88569481f85c04c83325c9ef3dca", func := "volute/volutelaw06.SymbolStates", spec := "symbolStates", unfollowed := true, recurses := true, apart := false, narrowed := true }
def SymbolStatesUptoSaid : Prop := symbolStatesUptoRow.holds Try.pinned (OpenSpec.upto symbolStatesSpec)

/-- 'volutelaw06.SymbolUnlike', WHERE WHAT IT READS IS OF BULK AT MOST 1048576: true; the input reads as it did. -/
def symbolUnlikeUptoRow : OpenClaim := { program := "ytdhpehihkppomaa", sum := "a0f425e92130377c6d6900ad8a2a2e17285b88569481f85c04c83325c9ef3dca", func := "volute/volutelaw06.SymbolUnlike", spec := "symbolUnlike", unfollowed := true, recurses := true, apart := false, narrowed := true }
def SymbolUnlikeUptoSaid : Prop := symbolUnlikeUptoRow.holds Try.pinned (OpenSpec.upto symbolUnlikeSpec)

/-- 'volutelaw10.CostExact', WHERE WHAT IT READS IS OF BULK AT MOST 1048576: true; the input reads as it did. -/
def costExactUptoRow : OpenClaim := { program := "ytdhpehihkppomaa", sum := "a0f425e92130377c6d6900ad8a2a2e17285b88569481f85c04c83325c9ef3dca", func := "volute/volutelaw10.CostExact", spec := "costExact", apart := false, narrowed := true }
def CostExactUptoSaid : Prop := costExactUptoRow.holds Try.pinned (OpenSpec.upto costExactSpec)

/-- 'volutelaw10.CostBounds', WHERE WHAT IT READS IS OF BULK AT MOST 1048576: true; the input reads as it did. -/
def costBoundsUptoRow : OpenClaim := { program := "ytdhpehihkppomaa", sum := "a0f425e92130377c6d6900ad8a2a2e17285b88569481f85c04c83325c9ef3dca", func := "volute/volutelaw10.CostBounds", spec := "costBounds", apart := false, narrowed := true }
def CostBoundsUptoSaid : Prop := costBoundsUptoRow.holds Try.pinned (OpenSpec.upto costBoundsSpec)

/-- 'volutelaw10.CostThree', WHERE WHAT IT READS IS OF BULK AT MOST 1048576: true; the input reads as it did. -/
def costThreeUptoRow : OpenClaim := { program := "ytdhpehihkppomaa", sum := "a0f425e92130377c6d6900ad8a2a2e17285b88569481f85c04c83325c9ef3dca", func := "volute/volutelaw10.CostThree", spec := "costThree", apart := false, narrowed := true }
def CostThreeUptoSaid : Prop := costThreeUptoRow.holds Try.pinned (OpenSpec.upto costThreeSpec)

end Rows
end Go.Proofs.Ytdhpehihkppomaa
