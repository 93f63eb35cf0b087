/-
  No cell of these rows narrows 'for every input' (looked for: loops, veiled, ifaces, maps, wideKeys, modest, calm, conditions, laid).
  DERIVED. THE GIVEN ROWS OF THIS SEAT. 15 by the template 'for every input the law returns true; each argument reads behind the call as it read before'; 0 by the template 'total and deterministic' (their statements: YtaaceadcnnfngaaTotals.lean).
  GIVEN WITH THE SEED: the statements are not yours to turn. If you find one false, say at which input.
  Laid BY PROGRAM, IN A SANDBOX (cutbox-rows.mjs): the forced cells as the released guide's own fill.sh prints them over the translation ee3d619b5ff88086… (all of the seat's roots in one cut). By AI agents, Wed Nov 11 2026. No macro, syntax, notation, axiom, sorry.
-/
import Derived.Test.YtaaceadcnnfngaaChecked
import GoSem.Claim
import GoSem.ClaimJoined
import GoSem.ClaimMapViews
import Derived.JoinedTies
import Derived.KernelRfl
namespace Go.Proofs.Ytaaceadcnnfngaa
/- THE CELL 'sum', in the pinned program and in every row, IS THE sha256 OF THE DUMP (.gsa) THAT YtaaceadcnnfngaaProg.lean LOADS. Nothing in Lean hashes anything: it is a label: what it is worth is what the hold of that sum in a sandbox is worth. -/
noncomputable def Try.pinned : Pinned := { name := "ytaaceadcnnfngaa", sum := "ee3d619b5ff880866cb7ac02b6c057fed58aa19e6bfe181d1c9d21c348ada8a5", checked := Try.checked }
namespace Rows
def none {H : Type} : Left H := { results := [], args := [] }

/-- 'barleycornlaw03.RosetteLifts': WHATEVER THE INPUT: true; the input reads as it did. -/
def rosetteLiftsSpec : ChangeSpec := { name := "rosetteLifts", fn := fun _ => fun
  | [d1, d2, d3] => { results := [.lit (.bool true)], args := [d1, d2, d3] }
  | _ => none }
def rosetteLiftsRow : OpenClaim := { program := "ytaaceadcnnfngaa", sum := "ee3d619b5ff880866cb7ac02b6c057fed58aa19e6bfe181d1c9d21c348ada8a5", func := "barleycorn/barleycornlaw03.RosetteLifts", spec := "rosetteLifts", unfollowed := true, recurses := true, plainKeys := false, apart := false }
def RosetteLiftsSaid : Prop := rosetteLiftsRow.holds Try.pinned (OpenSpec.ofChange rosetteLiftsSpec)

/-- ITS FALSE NEIGHBOUR: 'it returns false'. Refute it at one input. -/
def rosetteLiftsWrong : ChangeSpec := { name := "rosetteLifts", fn := fun _ => fun
  | [d1, d2, d3] => { results := [.lit (.bool false)], args := [d1, d2, d3] }
  | _ => none }
def RosetteLiftsWrongFalsely : Prop := rosetteLiftsRow.holds Try.pinned (OpenSpec.ofChange rosetteLiftsWrong)

/-- 'barleycornlaw03.RosetteTurns': WHATEVER THE INPUT: true; the input reads as it did. -/
def rosetteTurnsSpec : ChangeSpec := { name := "rosetteTurns", fn := fun _ => fun
  | [d1, d2, d3] => { results := [.lit (.bool true)], args := [d1, d2, d3] }
  | _ => none }
def rosetteTurnsRow : OpenClaim := { program := "ytaaceadcnnfngaa", sum := "ee3d619b5ff880866cb7ac02b6c057fed58aa19e6bfe181d1c9d21c348ada8a5", func := "barleycorn/barleycornlaw03.RosetteTurns", spec := "rosetteTurns", unfollowed := true, recurses := true, plainKeys := false, apart := false }
def RosetteTurnsSaid : Prop := rosetteTurnsRow.holds Try.pinned (OpenSpec.ofChange rosetteTurnsSpec)

/-- ITS FALSE NEIGHBOUR: 'it returns false'. Refute it at one input. -/
def rosetteTurnsWrong : ChangeSpec := { name := "rosetteTurns", fn := fun _ => fun
  | [d1, d2, d3] => { results := [.lit (.bool false)], args := [d1, d2, d3] }
  | _ => none }
def RosetteTurnsWrongFalsely : Prop := rosetteTurnsRow.holds Try.pinned (OpenSpec.ofChange rosetteTurnsWrong)

/-- 'barleycornlaw03.RosetteFinds': WHATEVER THE INPUT: true; the input reads as it did. -/
def rosetteFindsSpec : ChangeSpec := { name := "rosetteFinds", fn := fun _ => fun
  | [d1, d2] => { results := [.lit (.bool true)], args := [d1, d2] }
  | _ => none }
def rosetteFindsRow : OpenClaim := { program := "ytaaceadcnnfngaa", sum := "ee3d619b5ff880866cb7ac02b6c057fed58aa19e6bfe181d1c9d21c348ada8a5", func := "barleycorn/barleycornlaw03.RosetteFinds", spec := "rosetteFinds", unfollowed := true, recurses := true, plainKeys := false, apart := false }
def RosetteFindsSaid : Prop := rosetteFindsRow.holds Try.pinned (OpenSpec.ofChange rosetteFindsSpec)

/-- ITS FALSE NEIGHBOUR: 'it returns false'. Refute it at one input. -/
def rosetteFindsWrong : ChangeSpec := { name := "rosetteFinds", fn := fun _ => fun
  | [d1, d2] => { results := [.lit (.bool false)], args := [d1, d2] }
  | _ => none }
def RosetteFindsWrongFalsely : Prop := rosetteFindsRow.holds Try.pinned (OpenSpec.ofChange rosetteFindsWrong)

/-- 'barleycornlaw03.RosetteAdjoint': WHATEVER THE INPUT: true; the input reads as it did. -/
def rosetteAdjointSpec : ChangeSpec := { name := "rosetteAdjoint", fn := fun _ => fun
  | [d1, d2, d3] => { results := [.lit (.bool true)], args := [d1, d2, d3] }
  | _ => none }
def rosetteAdjointRow : OpenClaim := { program := "ytaaceadcnnfngaa", sum := "ee3d619b5ff880866cb7ac02b6c057fed58aa19e6bfe181d1c9d21c348ada8a5", func := "barleycorn/barleycornlaw03.RosetteAdjoint", spec := "rosetteAdjoint", unfollowed := true, recurses := true, plainKeys := false, apart := false }
def RosetteAdjointSaid : Prop := rosetteAdjointRow.holds Try.pinned (OpenSpec.ofChange rosetteAdjointSpec)

/-- ITS FALSE NEIGHBOUR: 'it returns false'. Refute it at one input. -/
def rosetteAdjointWrong : ChangeSpec := { name := "rosetteAdjoint", fn := fun _ => fun
  | [d1, d2, d3] => { results := [.lit (.bool false)], args := [d1, d2, d3] }
  | _ => none }
def RosetteAdjointWrongFalsely : Prop := rosetteAdjointRow.holds Try.pinned (OpenSpec.ofChange rosetteAdjointWrong)

/-- 'barleycornlaw03.RosetteClosed': WHATEVER THE INPUT: true; the input reads as it did. -/
def rosetteClosedSpec : ChangeSpec := { name := "rosetteClosed", fn := fun _ => fun
  | [d1, d2, d3] => { results := [.lit (.bool true)], args := [d1, d2, d3] }
  | _ => none }
def rosetteClosedRow : OpenClaim := { program := "ytaaceadcnnfngaa", sum := "ee3d619b5ff880866cb7ac02b6c057fed58aa19e6bfe181d1c9d21c348ada8a5", func := "barleycorn/barleycornlaw03.RosetteClosed", spec := "rosetteClosed", unfollowed := true, recurses := true, plainKeys := false, apart := false }
def RosetteClosedSaid : Prop := rosetteClosedRow.holds Try.pinned (OpenSpec.ofChange rosetteClosedSpec)

/-- ITS FALSE NEIGHBOUR: 'it returns false'. Refute it at one input. -/
def rosetteClosedWrong : ChangeSpec := { name := "rosetteClosed", fn := fun _ => fun
  | [d1, d2, d3] => { results := [.lit (.bool false)], args := [d1, d2, d3] }
  | _ => none }
def RosetteClosedWrongFalsely : Prop := rosetteClosedRow.holds Try.pinned (OpenSpec.ofChange rosetteClosedWrong)

/-- 'barleycornlaw03.RosetteFound': WHATEVER THE INPUT: true; the input reads as it did. -/
def rosetteFoundSpec : ChangeSpec := { name := "rosetteFound", fn := fun _ => fun
  | [d1, d2] => { results := [.lit (.bool true)], args := [d1, d2] }
  | _ => none }
def rosetteFoundRow : OpenClaim := { program := "ytaaceadcnnfngaa", sum := "ee3d619b5ff880866cb7ac02b6c057fed58aa19e6bfe181d1c9d21c348ada8a5", func := "barleycorn/barleycornlaw03.RosetteFound", spec := "rosetteFound", unfollowed := true, recurses := true, plainKeys := false, apart := false }
def RosetteFoundSaid : Prop := rosetteFoundRow.holds Try.pinned (OpenSpec.ofChange rosetteFoundSpec)

/-- ITS FALSE NEIGHBOUR: 'it returns false'. Refute it at one input. -/
def rosetteFoundWrong : ChangeSpec := { name := "rosetteFound", fn := fun _ => fun
  | [d1, d2] => { results := [.lit (.bool false)], args := [d1, d2] }
  | _ => none }
def RosetteFoundWrongFalsely : Prop := rosetteFoundRow.holds Try.pinned (OpenSpec.ofChange rosetteFoundWrong)

/-- 'barleycornlaw03.RosetteCounted': WHATEVER THE INPUT: true; the input reads as it did. -/
def rosetteCountedSpec : ChangeSpec := { name := "rosetteCounted", fn := fun _ => fun
  | [d1, d2] => { results := [.lit (.bool true)], args := [d1, d2] }
  | _ => none }
def rosetteCountedRow : OpenClaim := { program := "ytaaceadcnnfngaa", sum := "ee3d619b5ff880866cb7ac02b6c057fed58aa19e6bfe181d1c9d21c348ada8a5", func := "barleycorn/barleycornlaw03.RosetteCounted", spec := "rosetteCounted", unfollowed := true, recurses := true, plainKeys := false, apart := false }
def RosetteCountedSaid : Prop := rosetteCountedRow.holds Try.pinned (OpenSpec.ofChange rosetteCountedSpec)

/-- ITS FALSE NEIGHBOUR: 'it returns false'. Refute it at one input. -/
def rosetteCountedWrong : ChangeSpec := { name := "rosetteCounted", fn := fun _ => fun
  | [d1, d2] => { results := [.lit (.bool false)], args := [d1, d2] }
  | _ => none }
def RosetteCountedWrongFalsely : Prop := rosetteCountedRow.holds Try.pinned (OpenSpec.ofChange rosetteCountedWrong)

/-- 'barleycornlaw03.RosetteGround': WHATEVER THE INPUT: true; the input reads as it did. -/
def rosetteGroundSpec : ChangeSpec := { name := "rosetteGround", fn := fun _ => fun
  | [d1, d2, d3] => { results := [.lit (.bool true)], args := [d1, d2, d3] }
  | _ => none }
def rosetteGroundRow : OpenClaim := { program := "ytaaceadcnnfngaa", sum := "ee3d619b5ff880866cb7ac02b6c057fed58aa19e6bfe181d1c9d21c348ada8a5", func := "barleycorn/barleycornlaw03.RosetteGround", spec := "rosetteGround", unfollowed := true, recurses := true, plainKeys := false, apart := false }
def RosetteGroundSaid : Prop := rosetteGroundRow.holds Try.pinned (OpenSpec.ofChange rosetteGroundSpec)

/-- ITS FALSE NEIGHBOUR: 'it returns false'. Refute it at one input. -/
def rosetteGroundWrong : ChangeSpec := { name := "rosetteGround", fn := fun _ => fun
  | [d1, d2, d3] => { results := [.lit (.bool false)], args := [d1, d2, d3] }
  | _ => none }
def RosetteGroundWrongFalsely : Prop := rosetteGroundRow.holds Try.pinned (OpenSpec.ofChange rosetteGroundWrong)

/-- 'barleycornlaw03.RosettePeriods': WHATEVER THE INPUT: true; the input reads as it did. -/
def rosettePeriodsSpec : ChangeSpec := { name := "rosettePeriods", fn := fun _ => fun
  | [d1, d2] => { results := [.lit (.bool true)], args := [d1, d2] }
  | _ => none }
def rosettePeriodsRow : OpenClaim := { program := "ytaaceadcnnfngaa", sum := "ee3d619b5ff880866cb7ac02b6c057fed58aa19e6bfe181d1c9d21c348ada8a5", func := "barleycorn/barleycornlaw03.RosettePeriods", spec := "rosettePeriods", unfollowed := true, recurses := true, plainKeys := false, apart := false }
def RosettePeriodsSaid : Prop := rosettePeriodsRow.holds Try.pinned (OpenSpec.ofChange rosettePeriodsSpec)

/-- ITS FALSE NEIGHBOUR: 'it returns false'. Refute it at one input. -/
def rosettePeriodsWrong : ChangeSpec := { name := "rosettePeriods", fn := fun _ => fun
  | [d1, d2] => { results := [.lit (.bool false)], args := [d1, d2] }
  | _ => none }
def RosettePeriodsWrongFalsely : Prop := rosettePeriodsRow.holds Try.pinned (OpenSpec.ofChange rosettePeriodsWrong)

/-- 'barleycornlaw03.RosetteAround': WHATEVER THE INPUT: true; the input reads as it did. -/
def rosetteAroundSpec : ChangeSpec := { name := "rosetteAround", fn := fun _ => fun
  | [d1, d2, d3] => { results := [.lit (.bool true)], args := [d1, d2, d3] }
  | _ => none }
def rosetteAroundRow : OpenClaim := { program := "ytaaceadcnnfngaa", sum := "ee3d619b5ff880866cb7ac02b6c057fed58aa19e6bfe181d1c9d21c348ada8a5", func := "barleycorn/barleycornlaw03.RosetteAround", spec := "rosetteAround", unfollowed := true, recurses := true, plainKeys := false, apart := false }
def RosetteAroundSaid : Prop := rosetteAroundRow.holds Try.pinned (OpenSpec.ofChange rosetteAroundSpec)

/-- ITS FALSE NEIGHBOUR: 'it returns false'. Refute it at one input. -/
def rosetteAroundWrong : ChangeSpec := { name := "rosetteAround", fn := fun _ => fun
  | [d1, d2, d3] => { results := [.lit (.bool false)], args := [d1, d2, d3] }
  | _ => none }
def RosetteAroundWrongFalsely : Prop := rosetteAroundRow.holds Try.pinned (OpenSpec.ofChange rosetteAroundWrong)

/-- 'barleycornlaw03.RosetteMatched': WHATEVER THE INPUT: true; the input reads as it did. -/
def rosetteMatchedSpec : ChangeSpec := { name := "rosetteMatched", fn := fun _ => fun
  | [d1, d2, d3] => { results := [.lit (.bool true)], args := [d1, d2, d3] }
  | _ => none }
def rosetteMatchedRow : OpenClaim := { program := "ytaaceadcnnfngaa", sum := "ee3d619b5ff880866cb7ac02b6c057fed58aa19e6bfe181d1c9d21c348ada8a5", func := "barleycorn/barleycornlaw03.RosetteMatched", spec := "rosetteMatched", unfollowed := true, recurses := true, plainKeys := false, apart := false }
def RosetteMatchedSaid : Prop := rosetteMatchedRow.holds Try.pinned (OpenSpec.ofChange rosetteMatchedSpec)

/-- ITS FALSE NEIGHBOUR: 'it returns false'. Refute it at one input. -/
def rosetteMatchedWrong : ChangeSpec := { name := "rosetteMatched", fn := fun _ => fun
  | [d1, d2, d3] => { results := [.lit (.bool false)], args := [d1, d2, d3] }
  | _ => none }
def RosetteMatchedWrongFalsely : Prop := rosetteMatchedRow.holds Try.pinned (OpenSpec.ofChange rosetteMatchedWrong)

/-- 'barleycornlaw03.RosetteBoth': WHATEVER THE INPUT: true; the input reads as it did. -/
def rosetteBothSpec : ChangeSpec := { name := "rosetteBoth", fn := fun _ => fun
  | [d1, d2, d3] => { results := [.lit (.bool true)], args := [d1, d2, d3] }
  | _ => none }
def rosetteBothRow : OpenClaim := { program := "ytaaceadcnnfngaa", sum := "ee3d619b5ff880866cb7ac02b6c057fed58aa19e6bfe181d1c9d21c348ada8a5", func := "barleycorn/barleycornlaw03.RosetteBoth", spec := "rosetteBoth", unfollowed := true, recurses := true, plainKeys := false, apart := false }
def RosetteBothSaid : Prop := rosetteBothRow.holds Try.pinned (OpenSpec.ofChange rosetteBothSpec)

/-- ITS FALSE NEIGHBOUR: 'it returns false'. Refute it at one input. -/
def rosetteBothWrong : ChangeSpec := { name := "rosetteBoth", fn := fun _ => fun
  | [d1, d2, d3] => { results := [.lit (.bool false)], args := [d1, d2, d3] }
  | _ => none }
def RosetteBothWrongFalsely : Prop := rosetteBothRow.holds Try.pinned (OpenSpec.ofChange rosetteBothWrong)

/-- 'barleycornlaw03.RosetteTouches': WHATEVER THE INPUT: true; the input reads as it did. -/
def rosetteTouchesSpec : ChangeSpec := { name := "rosetteTouches", fn := fun _ => fun
  | [d1, d2, d3, d4] => { results := [.lit (.bool true)], args := [d1, d2, d3, d4] }
  | _ => none }
def rosetteTouchesRow : OpenClaim := { program := "ytaaceadcnnfngaa", sum := "ee3d619b5ff880866cb7ac02b6c057fed58aa19e6bfe181d1c9d21c348ada8a5", func := "barleycorn/barleycornlaw03.RosetteTouches", spec := "rosetteTouches", unfollowed := true, recurses := true, plainKeys := false, apart := false }
def RosetteTouchesSaid : Prop := rosetteTouchesRow.holds Try.pinned (OpenSpec.ofChange rosetteTouchesSpec)

/-- ITS FALSE NEIGHBOUR: 'it returns false'. Refute it at one input. -/
def rosetteTouchesWrong : ChangeSpec := { name := "rosetteTouches", fn := fun _ => fun
  | [d1, d2, d3, d4] => { results := [.lit (.bool false)], args := [d1, d2, d3, d4] }
  | _ => none }
def RosetteTouchesWrongFalsely : Prop := rosetteTouchesRow.holds Try.pinned (OpenSpec.ofChange rosetteTouchesWrong)

/-- 'barleycornlaw03.RosetteContact': WHATEVER THE INPUT: true; the input reads as it did. -/
def rosetteContactSpec : ChangeSpec := { name := "rosetteContact", fn := fun _ => fun
  | [d1, d2] => { results := [.lit (.bool true)], args := [d1, d2] }
  | _ => none }
def rosetteContactRow : OpenClaim := { program := "ytaaceadcnnfngaa", sum := "ee3d619b5ff880866cb7ac02b6c057fed58aa19e6bfe181d1c9d21c348ada8a5", func := "barleycorn/barleycornlaw03.RosetteContact", spec := "rosetteContact", unfollowed := true, recurses := true, plainKeys := false, apart := false }
def RosetteContactSaid : Prop := rosetteContactRow.holds Try.pinned (OpenSpec.ofChange rosetteContactSpec)

/-- ITS FALSE NEIGHBOUR: 'it returns false'. Refute it at one input. -/
def rosetteContactWrong : ChangeSpec := { name := "rosetteContact", fn := fun _ => fun
  | [d1, d2] => { results := [.lit (.bool false)], args := [d1, d2] }
  | _ => none }
def RosetteContactWrongFalsely : Prop := rosetteContactRow.holds Try.pinned (OpenSpec.ofChange rosetteContactWrong)

/-- 'barleycornlaw03.RosetteExamples': WHATEVER THE INPUT: true; the input reads as it did. -/
def rosetteExamplesSpec : ChangeSpec := { name := "rosetteExamples", fn := fun _ => fun
  | [] => { results := [.lit (.bool true)], args := [] }
  | _ => none }
def rosetteExamplesRow : OpenClaim := { program := "ytaaceadcnnfngaa", sum := "ee3d619b5ff880866cb7ac02b6c057fed58aa19e6bfe181d1c9d21c348ada8a5", func := "barleycorn/barleycornlaw03.RosetteExamples", spec := "rosetteExamples", unfollowed := true, recurses := true, plainKeys := false, apart := false }
def RosetteExamplesSaid : Prop := rosetteExamplesRow.holds Try.pinned (OpenSpec.ofChange rosetteExamplesSpec)

/-- ITS FALSE NEIGHBOUR: 'it returns false'. Refute it at one input. -/
def rosetteExamplesWrong : ChangeSpec := { name := "rosetteExamples", fn := fun _ => fun
  | [] => { results := [.lit (.bool false)], args := [] }
  | _ => none }
def RosetteExamplesWrongFalsely : Prop := rosetteExamplesRow.holds Try.pinned (OpenSpec.ofChange rosetteExamplesWrong)

/- THE SECOND FORM. 'bulk': how many values and letters a reading holds, each counted each time it is reached (what is shared counts as often as it is met; a slice's spare places count too). A statement '..UptoSaid' is the law's where the arguments, and the package variables that the reading takes, are together of bulk at most 1048576: NARROWER than '..Said'. Prove '..Said' where nothing that the law and all that it calls make is longer than what came in: it says more and counts as full. Else prove '..UptoSaid'. A law counts once. -/
mutual
def uptoBulk {H : Type} : DataW H → Nat
  | .lit (.string bytes) => bytes.length + 1
  | .lit _ => 1
  | .nil => 1
  | .ptr d => uptoBulk d + 1
  | .slice elems spare => uptoBulkAll elems + uptoBulkAll spare + 1
  | .agg parts => uptoBulkAll parts + 1
  | .iface _ d => uptoBulk d + 1
  | .map entries => uptoBulkEntries entries + 1
  | .held _ => 1
def uptoBulkAll {H : Type} : List (DataW H) → Nat
  | [] => 0
  | d :: r => uptoBulk d + uptoBulkAll r
def uptoBulkEntries {H : Type} : List (Lit × DataW H) → Nat
  | [] => 0
  | x :: r => uptoBulkEntry x + uptoBulkEntries r
def uptoBulkEntry {H : Type} : Lit × DataW H → Nat
  | (.string bytes, d) => bytes.length + uptoBulk d + 1
  | (_, d) => uptoBulk d + 1
 end
def uptoSmall : (H : Type) → List (DataW H) → Bool := fun _ ds => decide (uptoBulkAll ds ≤ 1048576)
def OpenSpec.upto (s : _root_.Go.ChangeSpec) : _root_.Go.OpenSpec := { _root_.Go.OpenSpec.ofChange s with cond := some uptoSmall }

/-- 'barleycornlaw03.RosetteLifts', WHERE WHAT IT READS IS OF BULK AT MOST 1048576: true; the input reads as it did. -/
def rosetteLiftsUptoRow : OpenClaim := { program := "ytaaceadcnnfngaa", sum := "ee3d619b5ff880866cb7ac02b6c057fed58aa19e6bfe181d1c9d21c348ada8a5", func := "barleycorn/barleycornlaw03.RosetteLifts", spec := "rosetteLifts", unfollowed := true, recurses := true, plainKeys := false, apart := false, narrowed := true }
def RosetteLiftsUptoSaid : Prop := rosetteLiftsUptoRow.holds Try.pinned (OpenSpec.upto rosetteLiftsSpec)

/-- 'barleycornlaw03.RosetteTurns', WHERE WHAT IT READS IS OF BULK AT MOST 1048576: true; the input reads as it did. -/
def rosetteTurnsUptoRow : OpenClaim := { program := "ytaaceadcnnfngaa", sum := "ee3d619b5ff880866cb7ac02b6c057fed58aa19e6bfe181d1c9d21c348ada8a5", func := "barleycorn/barleycornlaw03.RosetteTurns", spec := "rosetteTurns", unfollowed := true, recurses := true, plainKeys := false, apart := false, narrowed := true }
def RosetteTurnsUptoSaid : Prop := rosetteTurnsUptoRow.holds Try.pinned (OpenSpec.upto rosetteTurnsSpec)

/-- 'barleycornlaw03.RosetteFinds', WHERE WHAT IT READS IS OF BULK AT MOST 1048576: true; the input reads as it did. -/
def rosetteFindsUptoRow : OpenClaim := { program := "ytaaceadcnnfngaa", sum := "ee3d619b5ff880866cb7ac02b6c057fed58aa19e6bfe181d1c9d21c348ada8a5", func := "barleycorn/barleycornlaw03.RosetteFinds", spec := "rosetteFinds", unfollowed := true, recurses := true, plainKeys := false, apart := false, narrowed := true }
def RosetteFindsUptoSaid : Prop := rosetteFindsUptoRow.holds Try.pinned (OpenSpec.upto rosetteFindsSpec)

/-- 'barleycornlaw03.RosetteAdjoint', WHERE WHAT IT READS IS OF BULK AT MOST 1048576: true; the input reads as it did. -/
def rosetteAdjointUptoRow : OpenClaim := { program := "ytaaceadcnnfngaa", sum := "ee3d619b5ff880866cb7ac02b6c057fed58aa19e6bfe181d1c9d21c348ada8a5", func := "barleycorn/barleycornlaw03.RosetteAdjoint", spec := "rosetteAdjoint", unfollowed := true, recurses := true, plainKeys := false, apart := false, narrowed := true }
def RosetteAdjointUptoSaid : Prop := rosetteAdjointUptoRow.holds Try.pinned (OpenSpec.upto rosetteAdjointSpec)

/-- 'barleycornlaw03.RosetteClosed', WHERE WHAT IT READS IS OF BULK AT MOST 1048576: true; the input reads as it did. -/
def rosetteClosedUptoRow : OpenClaim := { program := "ytaaceadcnnfngaa", sum := "ee3d619b5ff880866cb7ac02b6c057fed58aa19e6bfe181d1c9d21c348ada8a5", func := "barleycorn/barleycornlaw03.RosetteClosed", spec := "rosetteClosed", unfollowed := true, recurses := true, plainKeys := false, apart := false, narrowed := true }
def RosetteClosedUptoSaid : Prop := rosetteClosedUptoRow.holds Try.pinned (OpenSpec.upto rosetteClosedSpec)

/-- 'barleycornlaw03.RosetteFound', WHERE WHAT IT READS IS OF BULK AT MOST 1048576: true; the input reads as it did. -/
def rosetteFoundUptoRow : OpenClaim := { program := "ytaaceadcnnfngaa", sum := "ee3d619b5ff880866cb7ac02b6c057fed58aa19e6bfe181d1c9d21c348ada8a5", func := "barleycorn/barleycornlaw03.RosetteFound", spec := "rosetteFound", unfollowed := true, recurses := true, plainKeys := false, apart := false, narrowed := true }
def RosetteFoundUptoSaid : Prop := rosetteFoundUptoRow.holds Try.pinned (OpenSpec.upto rosetteFoundSpec)

/-- 'barleycornlaw03.RosetteCounted', WHERE WHAT IT READS IS OF BULK AT MOST 1048576: true; the input reads as it did. -/
def rosetteCountedUptoRow : OpenClaim := { program := "ytaaceadcnnfngaa", sum := "ee3d619b5ff880866cb7ac02b6c057fed58aa19e6bfe181d1c9d21c348ada8a5", func := "barleycorn/barleycornlaw03.RosetteCounted", spec := "rosetteCounted", unfollowed := true, recurses := true, plainKeys := false, apart := false, narrowed := true }
def RosetteCountedUptoSaid : Prop := rosetteCountedUptoRow.holds Try.pinned (OpenSpec.upto rosetteCountedSpec)

/-- 'barleycornlaw03.RosetteGround', WHERE WHAT IT READS IS OF BULK AT MOST 1048576: true; the input reads as it did. -/
def rosetteGroundUptoRow : OpenClaim := { program := "ytaaceadcnnfngaa", sum := "ee3d619b5ff880866cb7ac02b6c057fed58aa19e6bfe181d1c9d21c348ada8a5", func := "barleycorn/barleycornlaw03.RosetteGround", spec := "rosetteGround", unfollowed := true, recurses := true, plainKeys := false, apart := false, narrowed := true }
def RosetteGroundUptoSaid : Prop := rosetteGroundUptoRow.holds Try.pinned (OpenSpec.upto rosetteGroundSpec)

/-- 'barleycornlaw03.RosettePeriods', WHERE WHAT IT READS IS OF BULK AT MOST 1048576: true; the input reads as it did. -/
def rosettePeriodsUptoRow : OpenClaim := { program := "ytaaceadcnnfngaa", sum := "ee3d619b5ff880866cb7ac02b6c057fed58aa19e6bfe181d1c9d21c348ada8a5", func := "barleycorn/barleycornlaw03.RosettePeriods", spec := "rosettePeriods", unfollowed := true, recurses := true, plainKeys := false, apart := false, narrowed := true }
def RosettePeriodsUptoSaid : Prop := rosettePeriodsUptoRow.holds Try.pinned (OpenSpec.upto rosettePeriodsSpec)

/-- 'barleycornlaw03.RosetteAround', WHERE WHAT IT READS IS OF BULK AT MOST 1048576: true; the input reads as it did. -/
def rosetteAroundUptoRow : OpenClaim := { program := "ytaaceadcnnfngaa", sum := "ee3d619b5ff880866cb7ac02b6c057fed58aa19e6bfe181d1c9d21c348ada8a5", func := "barleycorn/barleycornlaw03.RosetteAround", spec := "rosetteAround", unfollowed := true, recurses := true, plainKeys := false, apart := false, narrowed := true }
def RosetteAroundUptoSaid : Prop := rosetteAroundUptoRow.holds Try.pinned (OpenSpec.upto rosetteAroundSpec)

/-- 'barleycornlaw03.RosetteMatched', WHERE WHAT IT READS IS OF BULK AT MOST 1048576: true; the input reads as it did. -/
def rosetteMatchedUptoRow : OpenClaim := { program := "ytaaceadcnnfngaa", sum := "ee3d619b5ff880866cb7ac02b6c057fed58aa19e6bfe181d1c9d21c348ada8a5", func := "barleycorn/barleycornlaw03.RosetteMatched", spec := "rosetteMatched", unfollowed := true, recurses := true, plainKeys := false, apart := false, narrowed := true }
def RosetteMatchedUptoSaid : Prop := rosetteMatchedUptoRow.holds Try.pinned (OpenSpec.upto rosetteMatchedSpec)

/-- 'barleycornlaw03.RosetteBoth', WHERE WHAT IT READS IS OF BULK AT MOST 1048576: true; the input reads as it did. -/
def rosetteBothUptoRow : OpenClaim := { program := "ytaaceadcnnfngaa", sum := "ee3d619b5ff880866cb7ac02b6c057fed58aa19e6bfe181d1c9d21c348ada8a5", func := "barleycorn/barleycornlaw03.RosetteBoth", spec := "rosetteBoth", unfollowed := true, recurses := true, plainKeys := false, apart := false, narrowed := true }
def RosetteBothUptoSaid : Prop := rosetteBothUptoRow.holds Try.pinned (OpenSpec.upto rosetteBothSpec)

/-- 'barleycornlaw03.RosetteTouches', WHERE WHAT IT READS IS OF BULK AT MOST 1048576: true; the input reads as it did. -/
def rosetteTouchesUptoRow : OpenClaim := { program := "ytaaceadcnnfngaa", sum := "ee3d619b5ff880866cb7ac02b6c057fed58aa19e6bfe181d1c9d21c348ada8a5", func := "barleycorn/barleycornlaw03.RosetteTouches", spec := "rosetteTouches", unfollowed := true, recurses := true, plainKeys := false, apart := false, narrowed := true }
def RosetteTouchesUptoSaid : Prop := rosetteTouchesUptoRow.holds Try.pinned (OpenSpec.upto rosetteTouchesSpec)

/-- 'barleycornlaw03.RosetteContact', WHERE WHAT IT READS IS OF BULK AT MOST 1048576: true; the input reads as it did. -/
def rosetteContactUptoRow : OpenClaim := { program := "ytaaceadcnnfngaa", sum := "ee3d619b5ff880866cb7ac02b6c057fed58aa19e6bfe181d1c9d21c348ada8a5", func := "barleycorn/barleycornlaw03.RosetteContact", spec := "rosetteContact", unfollowed := true, recurses := true, plainKeys := false, apart := false, narrowed := true }
def RosetteContactUptoSaid : Prop := rosetteContactUptoRow.holds Try.pinned (OpenSpec.upto rosetteContactSpec)

/-- 'barleycornlaw03.RosetteExamples', WHERE WHAT IT READS IS OF BULK AT MOST 1048576: true; the input reads as it did. -/
def rosetteExamplesUptoRow : OpenClaim := { program := "ytaaceadcnnfngaa", sum := "ee3d619b5ff880866cb7ac02b6c057fed58aa19e6bfe181d1c9d21c348ada8a5", func := "barleycorn/barleycornlaw03.RosetteExamples", spec := "rosetteExamples", unfollowed := true, recurses := true, plainKeys := false, apart := false, narrowed := true }
def RosetteExamplesUptoSaid : Prop := rosetteExamplesUptoRow.holds Try.pinned (OpenSpec.upto rosetteExamplesSpec)

end Rows
end Go.Proofs.Ytaaceadcnnfngaa
