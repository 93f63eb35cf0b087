/-
  No cell of these rows narrows 'for every input' (looked for: loops, veiled, ifaces, maps, wideKeys, modest, calm, conditions, laid).
  DERIVED. THE GIVEN ROWS OF THIS SEAT. 17 by the template 'for every input the law returns true; each argument reads behind the call as it read before'; 0 by the template 'total and deterministic' (their statements: YtgeapenglcohfaaTotals.lean).
  GIVEN WITH THE SEED: the statements are not yours to turn. If you find one false, say at which input.
  Laid BY PROGRAM, IN A SANDBOX (cutbox-rows.mjs): the forced cells as the released guide's own fill.sh prints them over the translation e4fb12a01fb9c0bc… (all of the seat's roots in one cut). By AI agents, Wed Nov 11 2026. No macro, syntax, notation, axiom, sorry.
-/
import Derived.Test.YtgeapenglcohfaaChecked
import GoSem.Claim
import GoSem.ClaimJoined
import GoSem.ClaimMapViews
import Derived.JoinedTies
import Derived.KernelRfl
namespace Go.Proofs.Ytgeapenglcohfaa
/- THE CELL 'sum', in the pinned program and in every row, IS THE sha256 OF THE DUMP (.gsa) THAT YtgeapenglcohfaaProg.lean LOADS. Nothing in Lean hashes anything: it is a label: what it is worth is what the hold of that sum in a sandbox is worth. -/
noncomputable def Try.pinned : Pinned := { name := "ytgeapenglcohfaa", sum := "e4fb12a01fb9c0bce3f52355f2246f3de3db27c25534fda3a3a73f1213ee72b8", checked := Try.checked }
namespace Rows
def none {H : Type} : Left H := { results := [], args := [] }

/-- 'barleycornlaw05.GrooveTools': WHATEVER THE INPUT: true; the input reads as it did. -/
def grooveToolsSpec : ChangeSpec := { name := "grooveTools", fn := fun _ => fun
  | [d1, d2, d3] => { results := [.lit (.bool true)], args := [d1, d2, d3] }
  | _ => none }
def grooveToolsRow : OpenClaim := { program := "ytgeapenglcohfaa", sum := "e4fb12a01fb9c0bce3f52355f2246f3de3db27c25534fda3a3a73f1213ee72b8", func := "barleycorn/barleycornlaw05.GrooveTools", spec := "grooveTools", unfollowed := true, recurses := true, plainKeys := false, apart := false }
def GrooveToolsSaid : Prop := grooveToolsRow.holds Try.pinned (OpenSpec.ofChange grooveToolsSpec)

/-- ITS FALSE NEIGHBOUR: 'it returns false'. Refute it at one input. -/
def grooveToolsWrong : ChangeSpec := { name := "grooveTools", fn := fun _ => fun
  | [d1, d2, d3] => { results := [.lit (.bool false)], args := [d1, d2, d3] }
  | _ => none }
def GrooveToolsWrongFalsely : Prop := grooveToolsRow.holds Try.pinned (OpenSpec.ofChange grooveToolsWrong)

/-- 'barleycornlaw05.GrooveHides': WHATEVER THE INPUT: true; the input reads as it did. -/
def grooveHidesSpec : ChangeSpec := { name := "grooveHides", fn := fun _ => fun
  | [d1, d2, d3] => { results := [.lit (.bool true)], args := [d1, d2, d3] }
  | _ => none }
def grooveHidesRow : OpenClaim := { program := "ytgeapenglcohfaa", sum := "e4fb12a01fb9c0bce3f52355f2246f3de3db27c25534fda3a3a73f1213ee72b8", func := "barleycorn/barleycornlaw05.GrooveHides", spec := "grooveHides", unfollowed := true, recurses := true, plainKeys := false, apart := false }
def GrooveHidesSaid : Prop := grooveHidesRow.holds Try.pinned (OpenSpec.ofChange grooveHidesSpec)

/-- ITS FALSE NEIGHBOUR: 'it returns false'. Refute it at one input. -/
def grooveHidesWrong : ChangeSpec := { name := "grooveHides", fn := fun _ => fun
  | [d1, d2, d3] => { results := [.lit (.bool false)], args := [d1, d2, d3] }
  | _ => none }
def GrooveHidesWrongFalsely : Prop := grooveHidesRow.holds Try.pinned (OpenSpec.ofChange grooveHidesWrong)

/-- 'barleycornlaw05.GrooveFar': WHATEVER THE INPUT: true; the input reads as it did. -/
def grooveFarSpec : ChangeSpec := { name := "grooveFar", fn := fun _ => fun
  | [d1, d2, d3] => { results := [.lit (.bool true)], args := [d1, d2, d3] }
  | _ => none }
def grooveFarRow : OpenClaim := { program := "ytgeapenglcohfaa", sum := "e4fb12a01fb9c0bce3f52355f2246f3de3db27c25534fda3a3a73f1213ee72b8", func := "barleycorn/barleycornlaw05.GrooveFar", spec := "grooveFar", unfollowed := true, recurses := true, plainKeys := false, apart := false }
def GrooveFarSaid : Prop := grooveFarRow.holds Try.pinned (OpenSpec.ofChange grooveFarSpec)

/-- ITS FALSE NEIGHBOUR: 'it returns false'. Refute it at one input. -/
def grooveFarWrong : ChangeSpec := { name := "grooveFar", fn := fun _ => fun
  | [d1, d2, d3] => { results := [.lit (.bool false)], args := [d1, d2, d3] }
  | _ => none }
def GrooveFarWrongFalsely : Prop := grooveFarRow.holds Try.pinned (OpenSpec.ofChange grooveFarWrong)

/-- 'barleycornlaw05.GrooveWalls': WHATEVER THE INPUT: true; the input reads as it did. -/
def grooveWallsSpec : ChangeSpec := { name := "grooveWalls", fn := fun _ => fun
  | [d] => { results := [.lit (.bool true)], args := [d] }
  | _ => none }
def grooveWallsRow : OpenClaim := { program := "ytgeapenglcohfaa", sum := "e4fb12a01fb9c0bce3f52355f2246f3de3db27c25534fda3a3a73f1213ee72b8", func := "barleycorn/barleycornlaw05.GrooveWalls", spec := "grooveWalls", unfollowed := true, recurses := true, plainKeys := false, apart := false }
def GrooveWallsSaid : Prop := grooveWallsRow.holds Try.pinned (OpenSpec.ofChange grooveWallsSpec)

/-- ITS FALSE NEIGHBOUR: 'it returns false'. Refute it at one input. -/
def grooveWallsWrong : ChangeSpec := { name := "grooveWalls", fn := fun _ => fun
  | [d] => { results := [.lit (.bool false)], args := [d] }
  | _ => none }
def GrooveWallsWrongFalsely : Prop := grooveWallsRow.holds Try.pinned (OpenSpec.ofChange grooveWallsWrong)

/-- 'barleycornlaw05.GrooveProofs': WHATEVER THE INPUT: true; the input reads as it did. -/
def grooveProofsSpec : ChangeSpec := { name := "grooveProofs", fn := fun _ => fun
  | [d1, d2] => { results := [.lit (.bool true)], args := [d1, d2] }
  | _ => none }
def grooveProofsRow : OpenClaim := { program := "ytgeapenglcohfaa", sum := "e4fb12a01fb9c0bce3f52355f2246f3de3db27c25534fda3a3a73f1213ee72b8", func := "barleycorn/barleycornlaw05.GrooveProofs", spec := "grooveProofs", unfollowed := true, recurses := true, plainKeys := false, apart := false }
def GrooveProofsSaid : Prop := grooveProofsRow.holds Try.pinned (OpenSpec.ofChange grooveProofsSpec)

/-- ITS FALSE NEIGHBOUR: 'it returns false'. Refute it at one input. -/
def grooveProofsWrong : ChangeSpec := { name := "grooveProofs", fn := fun _ => fun
  | [d1, d2] => { results := [.lit (.bool false)], args := [d1, d2] }
  | _ => none }
def GrooveProofsWrongFalsely : Prop := grooveProofsRow.holds Try.pinned (OpenSpec.ofChange grooveProofsWrong)

/-- 'barleycornlaw05.GrooveOrders': WHATEVER THE INPUT: true; the input reads as it did. -/
def grooveOrdersSpec : ChangeSpec := { name := "grooveOrders", fn := fun _ => fun
  | [d] => { results := [.lit (.bool true)], args := [d] }
  | _ => none }
def grooveOrdersRow : OpenClaim := { program := "ytgeapenglcohfaa", sum := "e4fb12a01fb9c0bce3f52355f2246f3de3db27c25534fda3a3a73f1213ee72b8", func := "barleycorn/barleycornlaw05.GrooveOrders", spec := "grooveOrders", unfollowed := true, recurses := true, plainKeys := false, apart := false }
def GrooveOrdersSaid : Prop := grooveOrdersRow.holds Try.pinned (OpenSpec.ofChange grooveOrdersSpec)

/-- ITS FALSE NEIGHBOUR: 'it returns false'. Refute it at one input. -/
def grooveOrdersWrong : ChangeSpec := { name := "grooveOrders", fn := fun _ => fun
  | [d] => { results := [.lit (.bool false)], args := [d] }
  | _ => none }
def GrooveOrdersWrongFalsely : Prop := grooveOrdersRow.holds Try.pinned (OpenSpec.ofChange grooveOrdersWrong)

/-- 'barleycornlaw05.GrooveGrows': WHATEVER THE INPUT: true; the input reads as it did. -/
def grooveGrowsSpec : ChangeSpec := { name := "grooveGrows", fn := fun _ => fun
  | [d1, d2, d3, d4, d5] => { results := [.lit (.bool true)], args := [d1, d2, d3, d4, d5] }
  | _ => none }
def grooveGrowsRow : OpenClaim := { program := "ytgeapenglcohfaa", sum := "e4fb12a01fb9c0bce3f52355f2246f3de3db27c25534fda3a3a73f1213ee72b8", func := "barleycorn/barleycornlaw05.GrooveGrows", spec := "grooveGrows", unfollowed := true, recurses := true, plainKeys := false, apart := false }
def GrooveGrowsSaid : Prop := grooveGrowsRow.holds Try.pinned (OpenSpec.ofChange grooveGrowsSpec)

/-- ITS FALSE NEIGHBOUR: 'it returns false'. Refute it at one input. -/
def grooveGrowsWrong : ChangeSpec := { name := "grooveGrows", fn := fun _ => fun
  | [d1, d2, d3, d4, d5] => { results := [.lit (.bool false)], args := [d1, d2, d3, d4, d5] }
  | _ => none }
def GrooveGrowsWrongFalsely : Prop := grooveGrowsRow.holds Try.pinned (OpenSpec.ofChange grooveGrowsWrong)

/-- 'barleycornlaw05.GrooveMoved': WHATEVER THE INPUT: true; the input reads as it did. -/
def grooveMovedSpec : ChangeSpec := { name := "grooveMoved", fn := fun _ => fun
  | [d1, d2, d3, d4, d5] => { results := [.lit (.bool true)], args := [d1, d2, d3, d4, d5] }
  | _ => none }
def grooveMovedRow : OpenClaim := { program := "ytgeapenglcohfaa", sum := "e4fb12a01fb9c0bce3f52355f2246f3de3db27c25534fda3a3a73f1213ee72b8", func := "barleycorn/barleycornlaw05.GrooveMoved", spec := "grooveMoved", unfollowed := true, recurses := true, plainKeys := false, apart := false }
def GrooveMovedSaid : Prop := grooveMovedRow.holds Try.pinned (OpenSpec.ofChange grooveMovedSpec)

/-- ITS FALSE NEIGHBOUR: 'it returns false'. Refute it at one input. -/
def grooveMovedWrong : ChangeSpec := { name := "grooveMoved", fn := fun _ => fun
  | [d1, d2, d3, d4, d5] => { results := [.lit (.bool false)], args := [d1, d2, d3, d4, d5] }
  | _ => none }
def GrooveMovedWrongFalsely : Prop := grooveMovedRow.holds Try.pinned (OpenSpec.ofChange grooveMovedWrong)

/-- 'barleycornlaw05.GrooveBetween': WHATEVER THE INPUT: true; the input reads as it did. -/
def grooveBetweenSpec : ChangeSpec := { name := "grooveBetween", fn := fun _ => fun
  | [d1, d2, d3] => { results := [.lit (.bool true)], args := [d1, d2, d3] }
  | _ => none }
def grooveBetweenRow : OpenClaim := { program := "ytgeapenglcohfaa", sum := "e4fb12a01fb9c0bce3f52355f2246f3de3db27c25534fda3a3a73f1213ee72b8", func := "barleycorn/barleycornlaw05.GrooveBetween", spec := "grooveBetween", unfollowed := true, recurses := true, plainKeys := false, apart := false }
def GrooveBetweenSaid : Prop := grooveBetweenRow.holds Try.pinned (OpenSpec.ofChange grooveBetweenSpec)

/-- ITS FALSE NEIGHBOUR: 'it returns false'. Refute it at one input. -/
def grooveBetweenWrong : ChangeSpec := { name := "grooveBetween", fn := fun _ => fun
  | [d1, d2, d3] => { results := [.lit (.bool false)], args := [d1, d2, d3] }
  | _ => none }
def GrooveBetweenWrongFalsely : Prop := grooveBetweenRow.holds Try.pinned (OpenSpec.ofChange grooveBetweenWrong)

/-- 'barleycornlaw05.GrooveHidden': WHATEVER THE INPUT: true; the input reads as it did. -/
def grooveHiddenSpec : ChangeSpec := { name := "grooveHidden", fn := fun _ => fun
  | [d1, d2, d3, d4] => { results := [.lit (.bool true)], args := [d1, d2, d3, d4] }
  | _ => none }
def grooveHiddenRow : OpenClaim := { program := "ytgeapenglcohfaa", sum := "e4fb12a01fb9c0bce3f52355f2246f3de3db27c25534fda3a3a73f1213ee72b8", func := "barleycorn/barleycornlaw05.GrooveHidden", spec := "grooveHidden", unfollowed := true, recurses := true, plainKeys := false, apart := false }
def GrooveHiddenSaid : Prop := grooveHiddenRow.holds Try.pinned (OpenSpec.ofChange grooveHiddenSpec)

/-- ITS FALSE NEIGHBOUR: 'it returns false'. Refute it at one input. -/
def grooveHiddenWrong : ChangeSpec := { name := "grooveHidden", fn := fun _ => fun
  | [d1, d2, d3, d4] => { results := [.lit (.bool false)], args := [d1, d2, d3, d4] }
  | _ => none }
def GrooveHiddenWrongFalsely : Prop := grooveHiddenRow.holds Try.pinned (OpenSpec.ofChange grooveHiddenWrong)

/-- 'barleycornlaw05.GrooveBack': WHATEVER THE INPUT: true; the input reads as it did. -/
def grooveBackSpec : ChangeSpec := { name := "grooveBack", fn := fun _ => fun
  | [d1, d2, d3] => { results := [.lit (.bool true)], args := [d1, d2, d3] }
  | _ => none }
def grooveBackRow : OpenClaim := { program := "ytgeapenglcohfaa", sum := "e4fb12a01fb9c0bce3f52355f2246f3de3db27c25534fda3a3a73f1213ee72b8", func := "barleycorn/barleycornlaw05.GrooveBack", spec := "grooveBack", unfollowed := true, recurses := true, plainKeys := false, apart := false }
def GrooveBackSaid : Prop := grooveBackRow.holds Try.pinned (OpenSpec.ofChange grooveBackSpec)

/-- ITS FALSE NEIGHBOUR: 'it returns false'. Refute it at one input. -/
def grooveBackWrong : ChangeSpec := { name := "grooveBack", fn := fun _ => fun
  | [d1, d2, d3] => { results := [.lit (.bool false)], args := [d1, d2, d3] }
  | _ => none }
def GrooveBackWrongFalsely : Prop := grooveBackRow.holds Try.pinned (OpenSpec.ofChange grooveBackWrong)

/-- 'barleycornlaw05.GrooveApart': WHATEVER THE INPUT: true; the input reads as it did. -/
def grooveApartSpec : ChangeSpec := { name := "grooveApart", fn := fun _ => fun
  | [d1, d2, d3, d4] => { results := [.lit (.bool true)], args := [d1, d2, d3, d4] }
  | _ => none }
def grooveApartRow : OpenClaim := { program := "ytgeapenglcohfaa", sum := "e4fb12a01fb9c0bce3f52355f2246f3de3db27c25534fda3a3a73f1213ee72b8", func := "barleycorn/barleycornlaw05.GrooveApart", spec := "grooveApart", unfollowed := true, recurses := true, plainKeys := false, apart := false }
def GrooveApartSaid : Prop := grooveApartRow.holds Try.pinned (OpenSpec.ofChange grooveApartSpec)

/-- ITS FALSE NEIGHBOUR: 'it returns false'. Refute it at one input. -/
def grooveApartWrong : ChangeSpec := { name := "grooveApart", fn := fun _ => fun
  | [d1, d2, d3, d4] => { results := [.lit (.bool false)], args := [d1, d2, d3, d4] }
  | _ => none }
def GrooveApartWrongFalsely : Prop := grooveApartRow.holds Try.pinned (OpenSpec.ofChange grooveApartWrong)

/-- 'barleycornlaw05.GrooveStands': WHATEVER THE INPUT: true; the input reads as it did. -/
def grooveStandsSpec : ChangeSpec := { name := "grooveStands", fn := fun _ => fun
  | [d1, d2] => { results := [.lit (.bool true)], args := [d1, d2] }
  | _ => none }
def grooveStandsRow : OpenClaim := { program := "ytgeapenglcohfaa", sum := "e4fb12a01fb9c0bce3f52355f2246f3de3db27c25534fda3a3a73f1213ee72b8", func := "barleycorn/barleycornlaw05.GrooveStands", spec := "grooveStands", unfollowed := true, recurses := true, plainKeys := false, apart := false }
def GrooveStandsSaid : Prop := grooveStandsRow.holds Try.pinned (OpenSpec.ofChange grooveStandsSpec)

/-- ITS FALSE NEIGHBOUR: 'it returns false'. Refute it at one input. -/
def grooveStandsWrong : ChangeSpec := { name := "grooveStands", fn := fun _ => fun
  | [d1, d2] => { results := [.lit (.bool false)], args := [d1, d2] }
  | _ => none }
def GrooveStandsWrongFalsely : Prop := grooveStandsRow.holds Try.pinned (OpenSpec.ofChange grooveStandsWrong)

/-- 'barleycornlaw05.GrooveRules': WHATEVER THE INPUT: true; the input reads as it did. -/
def grooveRulesSpec : ChangeSpec := { name := "grooveRules", fn := fun _ => fun
  | [d] => { results := [.lit (.bool true)], args := [d] }
  | _ => none }
def grooveRulesRow : OpenClaim := { program := "ytgeapenglcohfaa", sum := "e4fb12a01fb9c0bce3f52355f2246f3de3db27c25534fda3a3a73f1213ee72b8", func := "barleycorn/barleycornlaw05.GrooveRules", spec := "grooveRules", unfollowed := true, recurses := true, plainKeys := false, apart := false }
def GrooveRulesSaid : Prop := grooveRulesRow.holds Try.pinned (OpenSpec.ofChange grooveRulesSpec)

/-- ITS FALSE NEIGHBOUR: 'it returns false'. Refute it at one input. -/
def grooveRulesWrong : ChangeSpec := { name := "grooveRules", fn := fun _ => fun
  | [d] => { results := [.lit (.bool false)], args := [d] }
  | _ => none }
def GrooveRulesWrongFalsely : Prop := grooveRulesRow.holds Try.pinned (OpenSpec.ofChange grooveRulesWrong)

/-- 'barleycornlaw05.GrooveWorse': WHATEVER THE INPUT: true; the input reads as it did. -/
def grooveWorseSpec : ChangeSpec := { name := "grooveWorse", fn := fun _ => fun
  | [d1, d2, d3, d4, d5] => { results := [.lit (.bool true)], args := [d1, d2, d3, d4, d5] }
  | _ => none }
def grooveWorseRow : OpenClaim := { program := "ytgeapenglcohfaa", sum := "e4fb12a01fb9c0bce3f52355f2246f3de3db27c25534fda3a3a73f1213ee72b8", func := "barleycorn/barleycornlaw05.GrooveWorse", spec := "grooveWorse", unfollowed := true, recurses := true, plainKeys := false, apart := false }
def GrooveWorseSaid : Prop := grooveWorseRow.holds Try.pinned (OpenSpec.ofChange grooveWorseSpec)

/-- ITS FALSE NEIGHBOUR: 'it returns false'. Refute it at one input. -/
def grooveWorseWrong : ChangeSpec := { name := "grooveWorse", fn := fun _ => fun
  | [d1, d2, d3, d4, d5] => { results := [.lit (.bool false)], args := [d1, d2, d3, d4, d5] }
  | _ => none }
def GrooveWorseWrongFalsely : Prop := grooveWorseRow.holds Try.pinned (OpenSpec.ofChange grooveWorseWrong)

/-- 'barleycornlaw05.GrooveEither': WHATEVER THE INPUT: true; the input reads as it did. -/
def grooveEitherSpec : ChangeSpec := { name := "grooveEither", fn := fun _ => fun
  | [d1, d2] => { results := [.lit (.bool true)], args := [d1, d2] }
  | _ => none }
def grooveEitherRow : OpenClaim := { program := "ytgeapenglcohfaa", sum := "e4fb12a01fb9c0bce3f52355f2246f3de3db27c25534fda3a3a73f1213ee72b8", func := "barleycorn/barleycornlaw05.GrooveEither", spec := "grooveEither", unfollowed := true, recurses := true, plainKeys := false, apart := false }
def GrooveEitherSaid : Prop := grooveEitherRow.holds Try.pinned (OpenSpec.ofChange grooveEitherSpec)

/-- ITS FALSE NEIGHBOUR: 'it returns false'. Refute it at one input. -/
def grooveEitherWrong : ChangeSpec := { name := "grooveEither", fn := fun _ => fun
  | [d1, d2] => { results := [.lit (.bool false)], args := [d1, d2] }
  | _ => none }
def GrooveEitherWrongFalsely : Prop := grooveEitherRow.holds Try.pinned (OpenSpec.ofChange grooveEitherWrong)

/-- 'barleycornlaw05.GrooveExamples': WHATEVER THE INPUT: true; the input reads as it did. -/
def grooveExamplesSpec : ChangeSpec := { name := "grooveExamples", fn := fun _ => fun
  | [] => { results := [.lit (.bool true)], args := [] }
  | _ => none }
def grooveExamplesRow : OpenClaim := { program := "ytgeapenglcohfaa", sum := "e4fb12a01fb9c0bce3f52355f2246f3de3db27c25534fda3a3a73f1213ee72b8", func := "barleycorn/barleycornlaw05.GrooveExamples", spec := "grooveExamples", unfollowed := true, recurses := true, plainKeys := false, apart := false }
def GrooveExamplesSaid : Prop := grooveExamplesRow.holds Try.pinned (OpenSpec.ofChange grooveExamplesSpec)

/-- ITS FALSE NEIGHBOUR: 'it returns false'. Refute it at one input. -/
def grooveExamplesWrong : ChangeSpec := { name := "grooveExamples", fn := fun _ => fun
  | [] => { results := [.lit (.bool false)], args := [] }
  | _ => none }
def GrooveExamplesWrongFalsely : Prop := grooveExamplesRow.holds Try.pinned (OpenSpec.ofChange grooveExamplesWrong)

/- THE SECOND FORM. 'bulk': how many values and letters a reading holds, each counted each time it is reached (what is shared counts as often as it is met; a slice's spare places count too). A statement '..UptoSaid' is the law's where the arguments, and the package variables that the reading takes, are together of bulk at most 1048576: NARROWER than '..Said'. Prove '..Said' where nothing that the law and all that it calls make is longer than what came in: it says more and counts as full. Else prove '..UptoSaid'. A law counts once. -/
mutual
def uptoBulk {H : Type} : DataW H → Nat
  | .lit (.string bytes) => bytes.length + 1
  | .lit _ => 1
  | .nil => 1
  | .ptr d => uptoBulk d + 1
  | .slice elems spare => uptoBulkAll elems + uptoBulkAll spare + 1
  | .agg parts => uptoBulkAll parts + 1
  | .iface _ d => uptoBulk d + 1
  | .map entries => uptoBulkEntries entries + 1
  | .held _ => 1
def uptoBulkAll {H : Type} : List (DataW H) → Nat
  | [] => 0
  | d :: r => uptoBulk d + uptoBulkAll r
def uptoBulkEntries {H : Type} : List (Lit × DataW H) → Nat
  | [] => 0
  | x :: r => uptoBulkEntry x + uptoBulkEntries r
def uptoBulkEntry {H : Type} : Lit × DataW H → Nat
  | (.string bytes, d) => bytes.length + uptoBulk d + 1
  | (_, d) => uptoBulk d + 1
 end
def uptoSmall : (H : Type) → List (DataW H) → Bool := fun _ ds => decide (uptoBulkAll ds ≤ 1048576)
def OpenSpec.upto (s : _root_.Go.ChangeSpec) : _root_.Go.OpenSpec := { _root_.Go.OpenSpec.ofChange s with cond := some uptoSmall }

/-- 'barleycornlaw05.GrooveTools', WHERE WHAT IT READS IS OF BULK AT MOST 1048576: true; the input reads as it did. -/
def grooveToolsUptoRow : OpenClaim := { program := "ytgeapenglcohfaa", sum := "e4fb12a01fb9c0bce3f52355f2246f3de3db27c25534fda3a3a73f1213ee72b8", func := "barleycorn/barleycornlaw05.GrooveTools", spec := "grooveTools", unfollowed := true, recurses := true, plainKeys := false, apart := false, narrowed := true }
def GrooveToolsUptoSaid : Prop := grooveToolsUptoRow.holds Try.pinned (OpenSpec.upto grooveToolsSpec)

/-- 'barleycornlaw05.GrooveHides', WHERE WHAT IT READS IS OF BULK AT MOST 1048576: true; the input reads as it did. -/
def grooveHidesUptoRow : OpenClaim := { program := "ytgeapenglcohfaa", sum := "e4fb12a01fb9c0bce3f52355f2246f3de3db27c25534fda3a3a73f1213ee72b8", func := "barleycorn/barleycornlaw05.GrooveHides", spec := "grooveHides", unfollowed := true, recurses := true, plainKeys := false, apart := false, narrowed := true }
def GrooveHidesUptoSaid : Prop := grooveHidesUptoRow.holds Try.pinned (OpenSpec.upto grooveHidesSpec)

/-- 'barleycornlaw05.GrooveFar', WHERE WHAT IT READS IS OF BULK AT MOST 1048576: true; the input reads as it did. -/
def grooveFarUptoRow : OpenClaim := { program := "ytgeapenglcohfaa", sum := "e4fb12a01fb9c0bce3f52355f2246f3de3db27c25534fda3a3a73f1213ee72b8", func := "barleycorn/barleycornlaw05.GrooveFar", spec := "grooveFar", unfollowed := true, recurses := true, plainKeys := false, apart := false, narrowed := true }
def GrooveFarUptoSaid : Prop := grooveFarUptoRow.holds Try.pinned (OpenSpec.upto grooveFarSpec)

/-- 'barleycornlaw05.GrooveWalls', WHERE WHAT IT READS IS OF BULK AT MOST 1048576: true; the input reads as it did. -/
def grooveWallsUptoRow : OpenClaim := { program := "ytgeapenglcohfaa", sum := "e4fb12a01fb9c0bce3f52355f2246f3de3db27c25534fda3a3a73f1213ee72b8", func := "barleycorn/barleycornlaw05.GrooveWalls", spec := "grooveWalls", unfollowed := true, recurses := true, plainKeys := false, apart := false, narrowed := true }
def GrooveWallsUptoSaid : Prop := grooveWallsUptoRow.holds Try.pinned (OpenSpec.upto grooveWallsSpec)

/-- 'barleycornlaw05.GrooveProofs', WHERE WHAT IT READS IS OF BULK AT MOST 1048576: true; the input reads as it did. -/
def grooveProofsUptoRow : OpenClaim := { program := "ytgeapenglcohfaa", sum := "e4fb12a01fb9c0bce3f52355f2246f3de3db27c25534fda3a3a73f1213ee72b8", func := "barleycorn/barleycornlaw05.GrooveProofs", spec := "grooveProofs", unfollowed := true, recurses := true, plainKeys := false, apart := false, narrowed := true }
def GrooveProofsUptoSaid : Prop := grooveProofsUptoRow.holds Try.pinned (OpenSpec.upto grooveProofsSpec)

/-- 'barleycornlaw05.GrooveOrders', WHERE WHAT IT READS IS OF BULK AT MOST 1048576: true; the input reads as it did. -/
def grooveOrdersUptoRow : OpenClaim := { program := "ytgeapenglcohfaa", sum := "e4fb12a01fb9c0bce3f52355f2246f3de3db27c25534fda3a3a73f1213ee72b8", func := "barleycorn/barleycornlaw05.GrooveOrders", spec := "grooveOrders", unfollowed := true, recurses := true, plainKeys := false, apart := false, narrowed := true }
def GrooveOrdersUptoSaid : Prop := grooveOrdersUptoRow.holds Try.pinned (OpenSpec.upto grooveOrdersSpec)

/-- 'barleycornlaw05.GrooveGrows', WHERE WHAT IT READS IS OF BULK AT MOST 1048576: true; the input reads as it did. -/
def grooveGrowsUptoRow : OpenClaim := { program := "ytgeapenglcohfaa", sum := "e4fb12a01fb9c0bce3f52355f2246f3de3db27c25534fda3a3a73f1213ee72b8", func := "barleycorn/barleycornlaw05.GrooveGrows", spec := "grooveGrows", unfollowed := true, recurses := true, plainKeys := false, apart := false, narrowed := true }
def GrooveGrowsUptoSaid : Prop := grooveGrowsUptoRow.holds Try.pinned (OpenSpec.upto grooveGrowsSpec)

/-- 'barleycornlaw05.GrooveMoved', WHERE WHAT IT READS IS OF BULK AT MOST 1048576: true; the input reads as it did. -/
def grooveMovedUptoRow : OpenClaim := { program := "ytgeapenglcohfaa", sum := "e4fb12a01fb9c0bce3f52355f2246f3de3db27c25534fda3a3a73f1213ee72b8", func := "barleycorn/barleycornlaw05.GrooveMoved", spec := "grooveMoved", unfollowed := true, recurses := true, plainKeys := false, apart := false, narrowed := true }
def GrooveMovedUptoSaid : Prop := grooveMovedUptoRow.holds Try.pinned (OpenSpec.upto grooveMovedSpec)

/-- 'barleycornlaw05.GrooveBetween', WHERE WHAT IT READS IS OF BULK AT MOST 1048576: true; the input reads as it did. -/
def grooveBetweenUptoRow : OpenClaim := { program := "ytgeapenglcohfaa", sum := "e4fb12a01fb9c0bce3f52355f2246f3de3db27c25534fda3a3a73f1213ee72b8", func := "barleycorn/barleycornlaw05.GrooveBetween", spec := "grooveBetween", unfollowed := true, recurses := true, plainKeys := false, apart := false, narrowed := true }
def GrooveBetweenUptoSaid : Prop := grooveBetweenUptoRow.holds Try.pinned (OpenSpec.upto grooveBetweenSpec)

/-- 'barleycornlaw05.GrooveHidden', WHERE WHAT IT READS IS OF BULK AT MOST 1048576: true; the input reads as it did. -/
def grooveHiddenUptoRow : OpenClaim := { program := "ytgeapenglcohfaa", sum := "e4fb12a01fb9c0bce3f52355f2246f3de3db27c25534fda3a3a73f1213ee72b8", func := "barleycorn/barleycornlaw05.GrooveHidden", spec := "grooveHidden", unfollowed := true, recurses := true, plainKeys := false, apart := false, narrowed := true }
def GrooveHiddenUptoSaid : Prop := grooveHiddenUptoRow.holds Try.pinned (OpenSpec.upto grooveHiddenSpec)

/-- 'barleycornlaw05.GrooveBack', WHERE WHAT IT READS IS OF BULK AT MOST 1048576: true; the input reads as it did. -/
def grooveBackUptoRow : OpenClaim := { program := "ytgeapenglcohfaa", sum := "e4fb12a01fb9c0bce3f52355f2246f3de3db27c25534fda3a3a73f1213ee72b8", func := "barleycorn/barleycornlaw05.GrooveBack", spec := "grooveBack", unfollowed := true, recurses := true, plainKeys := false, apart := false, narrowed := true }
def GrooveBackUptoSaid : Prop := grooveBackUptoRow.holds Try.pinned (OpenSpec.upto grooveBackSpec)

/-- 'barleycornlaw05.GrooveApart', WHERE WHAT IT READS IS OF BULK AT MOST 1048576: true; the input reads as it did. -/
def grooveApartUptoRow : OpenClaim := { program := "ytgeapenglcohfaa", sum := "e4fb12a01fb9c0bce3f52355f2246f3de3db27c25534fda3a3a73f1213ee72b8", func := "barleycorn/barleycornlaw05.GrooveApart", spec := "grooveApart", unfollowed := true, recurses := true, plainKeys := false, apart := false, narrowed := true }
def GrooveApartUptoSaid : Prop := grooveApartUptoRow.holds Try.pinned (OpenSpec.upto grooveApartSpec)

/-- 'barleycornlaw05.GrooveStands', WHERE WHAT IT READS IS OF BULK AT MOST 1048576: true; the input reads as it did. -/
def grooveStandsUptoRow : OpenClaim := { program := "ytgeapenglcohfaa", sum := "e4fb12a01fb9c0bce3f52355f2246f3de3db27c25534fda3a3a73f1213ee72b8", func := "barleycorn/barleycornlaw05.GrooveStands", spec := "grooveStands", unfollowed := true, recurses := true, plainKeys := false, apart := false, narrowed := true }
def GrooveStandsUptoSaid : Prop := grooveStandsUptoRow.holds Try.pinned (OpenSpec.upto grooveStandsSpec)

/-- 'barleycornlaw05.GrooveRules', WHERE WHAT IT READS IS OF BULK AT MOST 1048576: true; the input reads as it did. -/
def grooveRulesUptoRow : OpenClaim := { program := "ytgeapenglcohfaa", sum := "e4fb12a01fb9c0bce3f52355f2246f3de3db27c25534fda3a3a73f1213ee72b8", func := "barleycorn/barleycornlaw05.GrooveRules", spec := "grooveRules", unfollowed := true, recurses := true, plainKeys := false, apart := false, narrowed := true }
def GrooveRulesUptoSaid : Prop := grooveRulesUptoRow.holds Try.pinned (OpenSpec.upto grooveRulesSpec)

/-- 'barleycornlaw05.GrooveWorse', WHERE WHAT IT READS IS OF BULK AT MOST 1048576: true; the input reads as it did. -/
def grooveWorseUptoRow : OpenClaim := { program := "ytgeapenglcohfaa", sum := "e4fb12a01fb9c0bce3f52355f2246f3de3db27c25534fda3a3a73f1213ee72b8", func := "barleycorn/barleycornlaw05.GrooveWorse", spec := "grooveWorse", unfollowed := true, recurses := true, plainKeys := false, apart := false, narrowed := true }
def GrooveWorseUptoSaid : Prop := grooveWorseUptoRow.holds Try.pinned (OpenSpec.upto grooveWorseSpec)

/-- 'barleycornlaw05.GrooveEither', WHERE WHAT IT READS IS OF BULK AT MOST 1048576: true; the input reads as it did. -/
def grooveEitherUptoRow : OpenClaim := { program := "ytgeapenglcohfaa", sum := "e4fb12a01fb9c0bce3f52355f2246f3de3db27c25534fda3a3a73f1213ee72b8", func := "barleycorn/barleycornlaw05.GrooveEither", spec := "grooveEither", unfollowed := true, recurses := true, plainKeys := false, apart := false, narrowed := true }
def GrooveEitherUptoSaid : Prop := grooveEitherUptoRow.holds Try.pinned (OpenSpec.upto grooveEitherSpec)

/-- 'barleycornlaw05.GrooveExamples', WHERE WHAT IT READS IS OF BULK AT MOST 1048576: true; the input reads as it did. -/
def grooveExamplesUptoRow : OpenClaim := { program := "ytgeapenglcohfaa", sum := "e4fb12a01fb9c0bce3f52355f2246f3de3db27c25534fda3a3a73f1213ee72b8", func := "barleycorn/barleycornlaw05.GrooveExamples", spec := "grooveExamples", unfollowed := true, recurses := true, plainKeys := false, apart := false, narrowed := true }
def GrooveExamplesUptoSaid : Prop := grooveExamplesUptoRow.holds Try.pinned (OpenSpec.upto grooveExamplesSpec)

end Rows
end Go.Proofs.Ytgeapenglcohfaa
