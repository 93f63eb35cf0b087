/-
  No cell of these rows narrows 'for every input' (looked for: loops, veiled, ifaces, maps, wideKeys, modest, calm, conditions, laid).
  DERIVED. THE GIVEN ROWS OF THIS SEAT. 18 by the template 'for every input the law returns true; each argument reads behind the call as it read before'; 0 by the template 'total and deterministic' (their statements: YtlljhimaopnbfaaTotals.lean).
  GIVEN WITH THE SEED: the statements are not yours to turn. If you find one false, say at which input.
  Laid BY PROGRAM, IN A SANDBOX (cutbox-rows.mjs): the forced cells as the released guide's own fill.sh prints them over the translation 14470f8acec92817… (all of the seat's roots in one cut). By AI agents, Wed Nov 11 2026. No macro, syntax, notation, axiom, sorry.
-/
import Derived.Test.YtlljhimaopnbfaaChecked
import GoSem.Claim
import GoSem.ClaimJoined
import GoSem.ClaimMapViews
import Derived.JoinedTies
import Derived.KernelRfl
namespace Go.Proofs.Ytlljhimaopnbfaa
/- THE CELL 'sum', in the pinned program and in every row, IS THE sha256 OF THE DUMP (.gsa) THAT YtlljhimaopnbfaaProg.lean LOADS. Nothing in Lean hashes anything: it is a label: what it is worth is what the hold of that sum in a sandbox is worth. -/
noncomputable def Try.pinned : Pinned := { name := "ytlljhimaopnbfaa", sum := "14470f8acec9281799c9f5f42a036b2558465dfa0993640124b608affac5fa68", checked := Try.checked }
namespace Rows
def none {H : Type} : Left H := { results := [], args := [] }

/-- 'barleycornlaw06.LightBright': WHATEVER THE INPUT: true; the input reads as it did. -/
def lightBrightSpec : ChangeSpec := { name := "lightBright", fn := fun _ => fun
  | [d1, d2, d3, d4, d5] => { results := [.lit (.bool true)], args := [d1, d2, d3, d4, d5] }
  | _ => none }
def lightBrightRow : OpenClaim := { program := "ytlljhimaopnbfaa", sum := "14470f8acec9281799c9f5f42a036b2558465dfa0993640124b608affac5fa68", func := "barleycorn/barleycornlaw06.LightBright", spec := "lightBright", unfollowed := true, recurses := true, apart := false }
def LightBrightSaid : Prop := lightBrightRow.holds Try.pinned (OpenSpec.ofChange lightBrightSpec)

/-- ITS FALSE NEIGHBOUR: 'it returns false'. Refute it at one input. -/
def lightBrightWrong : ChangeSpec := { name := "lightBright", fn := fun _ => fun
  | [d1, d2, d3, d4, d5] => { results := [.lit (.bool false)], args := [d1, d2, d3, d4, d5] }
  | _ => none }
def LightBrightWrongFalsely : Prop := lightBrightRow.holds Try.pinned (OpenSpec.ofChange lightBrightWrong)

/-- 'barleycornlaw06.LightFacets': WHATEVER THE INPUT: true; the input reads as it did. -/
def lightFacetsSpec : ChangeSpec := { name := "lightFacets", fn := fun _ => fun
  | [d1, d2] => { results := [.lit (.bool true)], args := [d1, d2] }
  | _ => none }
def lightFacetsRow : OpenClaim := { program := "ytlljhimaopnbfaa", sum := "14470f8acec9281799c9f5f42a036b2558465dfa0993640124b608affac5fa68", func := "barleycorn/barleycornlaw06.LightFacets", spec := "lightFacets", unfollowed := true, recurses := true, apart := false }
def LightFacetsSaid : Prop := lightFacetsRow.holds Try.pinned (OpenSpec.ofChange lightFacetsSpec)

/-- ITS FALSE NEIGHBOUR: 'it returns false'. Refute it at one input. -/
def lightFacetsWrong : ChangeSpec := { name := "lightFacets", fn := fun _ => fun
  | [d1, d2] => { results := [.lit (.bool false)], args := [d1, d2] }
  | _ => none }
def LightFacetsWrongFalsely : Prop := lightFacetsRow.holds Try.pinned (OpenSpec.ofChange lightFacetsWrong)

/-- 'barleycornlaw06.LightPictures': WHATEVER THE INPUT: true; the input reads as it did. -/
def lightPicturesSpec : ChangeSpec := { name := "lightPictures", fn := fun _ => fun
  | [d1, d2, d3] => { results := [.lit (.bool true)], args := [d1, d2, d3] }
  | _ => none }
def lightPicturesRow : OpenClaim := { program := "ytlljhimaopnbfaa", sum := "14470f8acec9281799c9f5f42a036b2558465dfa0993640124b608affac5fa68", func := "barleycorn/barleycornlaw06.LightPictures", spec := "lightPictures", unfollowed := true, recurses := true, apart := false }
def LightPicturesSaid : Prop := lightPicturesRow.holds Try.pinned (OpenSpec.ofChange lightPicturesSpec)

/-- ITS FALSE NEIGHBOUR: 'it returns false'. Refute it at one input. -/
def lightPicturesWrong : ChangeSpec := { name := "lightPictures", fn := fun _ => fun
  | [d1, d2, d3] => { results := [.lit (.bool false)], args := [d1, d2, d3] }
  | _ => none }
def LightPicturesWrongFalsely : Prop := lightPicturesRow.holds Try.pinned (OpenSpec.ofChange lightPicturesWrong)

/-- 'barleycornlaw06.LightFlashes': WHATEVER THE INPUT: true; the input reads as it did. -/
def lightFlashesSpec : ChangeSpec := { name := "lightFlashes", fn := fun _ => fun
  | [d1, d2] => { results := [.lit (.bool true)], args := [d1, d2] }
  | _ => none }
def lightFlashesRow : OpenClaim := { program := "ytlljhimaopnbfaa", sum := "14470f8acec9281799c9f5f42a036b2558465dfa0993640124b608affac5fa68", func := "barleycorn/barleycornlaw06.LightFlashes", spec := "lightFlashes", unfollowed := true, recurses := true, apart := false }
def LightFlashesSaid : Prop := lightFlashesRow.holds Try.pinned (OpenSpec.ofChange lightFlashesSpec)

/-- ITS FALSE NEIGHBOUR: 'it returns false'. Refute it at one input. -/
def lightFlashesWrong : ChangeSpec := { name := "lightFlashes", fn := fun _ => fun
  | [d1, d2] => { results := [.lit (.bool false)], args := [d1, d2] }
  | _ => none }
def LightFlashesWrongFalsely : Prop := lightFlashesRow.holds Try.pinned (OpenSpec.ofChange lightFlashesWrong)

/-- 'barleycornlaw06.LightCarves': WHATEVER THE INPUT: true; the input reads as it did. -/
def lightCarvesSpec : ChangeSpec := { name := "lightCarves", fn := fun _ => fun
  | [d1, d2, d3, d4, d5] => { results := [.lit (.bool true)], args := [d1, d2, d3, d4, d5] }
  | _ => none }
def lightCarvesRow : OpenClaim := { program := "ytlljhimaopnbfaa", sum := "14470f8acec9281799c9f5f42a036b2558465dfa0993640124b608affac5fa68", func := "barleycorn/barleycornlaw06.LightCarves", spec := "lightCarves", unfollowed := true, recurses := true, apart := false }
def LightCarvesSaid : Prop := lightCarvesRow.holds Try.pinned (OpenSpec.ofChange lightCarvesSpec)

/-- ITS FALSE NEIGHBOUR: 'it returns false'. Refute it at one input. -/
def lightCarvesWrong : ChangeSpec := { name := "lightCarves", fn := fun _ => fun
  | [d1, d2, d3, d4, d5] => { results := [.lit (.bool false)], args := [d1, d2, d3, d4, d5] }
  | _ => none }
def LightCarvesWrongFalsely : Prop := lightCarvesRow.holds Try.pinned (OpenSpec.ofChange lightCarvesWrong)

/-- 'barleycornlaw06.LightLatent': WHATEVER THE INPUT: true; the input reads as it did. -/
def lightLatentSpec : ChangeSpec := { name := "lightLatent", fn := fun _ => fun
  | [d1, d2, d3, d4, d5, d6] => { results := [.lit (.bool true)], args := [d1, d2, d3, d4, d5, d6] }
  | _ => none }
def lightLatentRow : OpenClaim := { program := "ytlljhimaopnbfaa", sum := "14470f8acec9281799c9f5f42a036b2558465dfa0993640124b608affac5fa68", func := "barleycorn/barleycornlaw06.LightLatent", spec := "lightLatent", unfollowed := true, recurses := true, apart := false }
def LightLatentSaid : Prop := lightLatentRow.holds Try.pinned (OpenSpec.ofChange lightLatentSpec)

/-- ITS FALSE NEIGHBOUR: 'it returns false'. Refute it at one input. -/
def lightLatentWrong : ChangeSpec := { name := "lightLatent", fn := fun _ => fun
  | [d1, d2, d3, d4, d5, d6] => { results := [.lit (.bool false)], args := [d1, d2, d3, d4, d5, d6] }
  | _ => none }
def LightLatentWrongFalsely : Prop := lightLatentRow.holds Try.pinned (OpenSpec.ofChange lightLatentWrong)

/-- 'barleycornlaw06.LightOne': WHATEVER THE INPUT: true; the input reads as it did. -/
def lightOneSpec : ChangeSpec := { name := "lightOne", fn := fun _ => fun
  | [d1, d2, d3, d4] => { results := [.lit (.bool true)], args := [d1, d2, d3, d4] }
  | _ => none }
def lightOneRow : OpenClaim := { program := "ytlljhimaopnbfaa", sum := "14470f8acec9281799c9f5f42a036b2558465dfa0993640124b608affac5fa68", func := "barleycorn/barleycornlaw06.LightOne", spec := "lightOne", unfollowed := true, recurses := true, apart := false }
def LightOneSaid : Prop := lightOneRow.holds Try.pinned (OpenSpec.ofChange lightOneSpec)

/-- ITS FALSE NEIGHBOUR: 'it returns false'. Refute it at one input. -/
def lightOneWrong : ChangeSpec := { name := "lightOne", fn := fun _ => fun
  | [d1, d2, d3, d4] => { results := [.lit (.bool false)], args := [d1, d2, d3, d4] }
  | _ => none }
def LightOneWrongFalsely : Prop := lightOneRow.holds Try.pinned (OpenSpec.ofChange lightOneWrong)

/-- 'barleycornlaw06.LightCompared': WHATEVER THE INPUT: true; the input reads as it did. -/
def lightComparedSpec : ChangeSpec := { name := "lightCompared", fn := fun _ => fun
  | [d1, d2, d3, d4, d5] => { results := [.lit (.bool true)], args := [d1, d2, d3, d4, d5] }
  | _ => none }
def lightComparedRow : OpenClaim := { program := "ytlljhimaopnbfaa", sum := "14470f8acec9281799c9f5f42a036b2558465dfa0993640124b608affac5fa68", func := "barleycorn/barleycornlaw06.LightCompared", spec := "lightCompared", unfollowed := true, recurses := true, apart := false }
def LightComparedSaid : Prop := lightComparedRow.holds Try.pinned (OpenSpec.ofChange lightComparedSpec)

/-- ITS FALSE NEIGHBOUR: 'it returns false'. Refute it at one input. -/
def lightComparedWrong : ChangeSpec := { name := "lightCompared", fn := fun _ => fun
  | [d1, d2, d3, d4, d5] => { results := [.lit (.bool false)], args := [d1, d2, d3, d4, d5] }
  | _ => none }
def LightComparedWrongFalsely : Prop := lightComparedRow.holds Try.pinned (OpenSpec.ofChange lightComparedWrong)

/-- 'barleycornlaw06.LightHigher': WHATEVER THE INPUT: true; the input reads as it did. -/
def lightHigherSpec : ChangeSpec := { name := "lightHigher", fn := fun _ => fun
  | [d1, d2, d3] => { results := [.lit (.bool true)], args := [d1, d2, d3] }
  | _ => none }
def lightHigherRow : OpenClaim := { program := "ytlljhimaopnbfaa", sum := "14470f8acec9281799c9f5f42a036b2558465dfa0993640124b608affac5fa68", func := "barleycorn/barleycornlaw06.LightHigher", spec := "lightHigher", unfollowed := true, recurses := true, apart := false }
def LightHigherSaid : Prop := lightHigherRow.holds Try.pinned (OpenSpec.ofChange lightHigherSpec)

/-- ITS FALSE NEIGHBOUR: 'it returns false'. Refute it at one input. -/
def lightHigherWrong : ChangeSpec := { name := "lightHigher", fn := fun _ => fun
  | [d1, d2, d3] => { results := [.lit (.bool false)], args := [d1, d2, d3] }
  | _ => none }
def LightHigherWrongFalsely : Prop := lightHigherRow.holds Try.pinned (OpenSpec.ofChange lightHigherWrong)

/-- 'barleycornlaw06.LightTurned': WHATEVER THE INPUT: true; the input reads as it did. -/
def lightTurnedSpec : ChangeSpec := { name := "lightTurned", fn := fun _ => fun
  | [d1, d2, d3] => { results := [.lit (.bool true)], args := [d1, d2, d3] }
  | _ => none }
def lightTurnedRow : OpenClaim := { program := "ytlljhimaopnbfaa", sum := "14470f8acec9281799c9f5f42a036b2558465dfa0993640124b608affac5fa68", func := "barleycorn/barleycornlaw06.LightTurned", spec := "lightTurned", unfollowed := true, recurses := true, apart := false }
def LightTurnedSaid : Prop := lightTurnedRow.holds Try.pinned (OpenSpec.ofChange lightTurnedSpec)

/-- ITS FALSE NEIGHBOUR: 'it returns false'. Refute it at one input. -/
def lightTurnedWrong : ChangeSpec := { name := "lightTurned", fn := fun _ => fun
  | [d1, d2, d3] => { results := [.lit (.bool false)], args := [d1, d2, d3] }
  | _ => none }
def LightTurnedWrongFalsely : Prop := lightTurnedRow.holds Try.pinned (OpenSpec.ofChange lightTurnedWrong)

/-- 'barleycornlaw06.LightRaised': WHATEVER THE INPUT: true; the input reads as it did. -/
def lightRaisedSpec : ChangeSpec := { name := "lightRaised", fn := fun _ => fun
  | [d1, d2, d3] => { results := [.lit (.bool true)], args := [d1, d2, d3] }
  | _ => none }
def lightRaisedRow : OpenClaim := { program := "ytlljhimaopnbfaa", sum := "14470f8acec9281799c9f5f42a036b2558465dfa0993640124b608affac5fa68", func := "barleycorn/barleycornlaw06.LightRaised", spec := "lightRaised", unfollowed := true, recurses := true, apart := false }
def LightRaisedSaid : Prop := lightRaisedRow.holds Try.pinned (OpenSpec.ofChange lightRaisedSpec)

/-- ITS FALSE NEIGHBOUR: 'it returns false'. Refute it at one input. -/
def lightRaisedWrong : ChangeSpec := { name := "lightRaised", fn := fun _ => fun
  | [d1, d2, d3] => { results := [.lit (.bool false)], args := [d1, d2, d3] }
  | _ => none }
def LightRaisedWrongFalsely : Prop := lightRaisedRow.holds Try.pinned (OpenSpec.ofChange lightRaisedWrong)

/-- 'barleycornlaw06.LightEven': WHATEVER THE INPUT: true; the input reads as it did. -/
def lightEvenSpec : ChangeSpec := { name := "lightEven", fn := fun _ => fun
  | [d1, d2, d3, d4, d5, d6] => { results := [.lit (.bool true)], args := [d1, d2, d3, d4, d5, d6] }
  | _ => none }
def lightEvenRow : OpenClaim := { program := "ytlljhimaopnbfaa", sum := "14470f8acec9281799c9f5f42a036b2558465dfa0993640124b608affac5fa68", func := "barleycorn/barleycornlaw06.LightEven", spec := "lightEven", unfollowed := true, recurses := true, apart := false }
def LightEvenSaid : Prop := lightEvenRow.holds Try.pinned (OpenSpec.ofChange lightEvenSpec)

/-- ITS FALSE NEIGHBOUR: 'it returns false'. Refute it at one input. -/
def lightEvenWrong : ChangeSpec := { name := "lightEven", fn := fun _ => fun
  | [d1, d2, d3, d4, d5, d6] => { results := [.lit (.bool false)], args := [d1, d2, d3, d4, d5, d6] }
  | _ => none }
def LightEvenWrongFalsely : Prop := lightEvenRow.holds Try.pinned (OpenSpec.ofChange lightEvenWrong)

/-- 'barleycornlaw06.LightFlat': WHATEVER THE INPUT: true; the input reads as it did. -/
def lightFlatSpec : ChangeSpec := { name := "lightFlat", fn := fun _ => fun
  | [d1, d2, d3, d4, d5, d6] => { results := [.lit (.bool true)], args := [d1, d2, d3, d4, d5, d6] }
  | _ => none }
def lightFlatRow : OpenClaim := { program := "ytlljhimaopnbfaa", sum := "14470f8acec9281799c9f5f42a036b2558465dfa0993640124b608affac5fa68", func := "barleycorn/barleycornlaw06.LightFlat", spec := "lightFlat", unfollowed := true, recurses := true, apart := false }
def LightFlatSaid : Prop := lightFlatRow.holds Try.pinned (OpenSpec.ofChange lightFlatSpec)

/-- ITS FALSE NEIGHBOUR: 'it returns false'. Refute it at one input. -/
def lightFlatWrong : ChangeSpec := { name := "lightFlat", fn := fun _ => fun
  | [d1, d2, d3, d4, d5, d6] => { results := [.lit (.bool false)], args := [d1, d2, d3, d4, d5, d6] }
  | _ => none }
def LightFlatWrongFalsely : Prop := lightFlatRow.holds Try.pinned (OpenSpec.ofChange lightFlatWrong)

/-- 'barleycornlaw06.LightFlashed': WHATEVER THE INPUT: true; the input reads as it did. -/
def lightFlashedSpec : ChangeSpec := { name := "lightFlashed", fn := fun _ => fun
  | [d1, d2] => { results := [.lit (.bool true)], args := [d1, d2] }
  | _ => none }
def lightFlashedRow : OpenClaim := { program := "ytlljhimaopnbfaa", sum := "14470f8acec9281799c9f5f42a036b2558465dfa0993640124b608affac5fa68", func := "barleycorn/barleycornlaw06.LightFlashed", spec := "lightFlashed", unfollowed := true, recurses := true, apart := false }
def LightFlashedSaid : Prop := lightFlashedRow.holds Try.pinned (OpenSpec.ofChange lightFlashedSpec)

/-- ITS FALSE NEIGHBOUR: 'it returns false'. Refute it at one input. -/
def lightFlashedWrong : ChangeSpec := { name := "lightFlashed", fn := fun _ => fun
  | [d1, d2] => { results := [.lit (.bool false)], args := [d1, d2] }
  | _ => none }
def LightFlashedWrongFalsely : Prop := lightFlashedRow.holds Try.pinned (OpenSpec.ofChange lightFlashedWrong)

/-- 'barleycornlaw06.LightHidden': WHATEVER THE INPUT: true; the input reads as it did. -/
def lightHiddenSpec : ChangeSpec := { name := "lightHidden", fn := fun _ => fun
  | [d1, d2, d3, d4, d5] => { results := [.lit (.bool true)], args := [d1, d2, d3, d4, d5] }
  | _ => none }
def lightHiddenRow : OpenClaim := { program := "ytlljhimaopnbfaa", sum := "14470f8acec9281799c9f5f42a036b2558465dfa0993640124b608affac5fa68", func := "barleycorn/barleycornlaw06.LightHidden", spec := "lightHidden", unfollowed := true, recurses := true, apart := false }
def LightHiddenSaid : Prop := lightHiddenRow.holds Try.pinned (OpenSpec.ofChange lightHiddenSpec)

/-- ITS FALSE NEIGHBOUR: 'it returns false'. Refute it at one input. -/
def lightHiddenWrong : ChangeSpec := { name := "lightHidden", fn := fun _ => fun
  | [d1, d2, d3, d4, d5] => { results := [.lit (.bool false)], args := [d1, d2, d3, d4, d5] }
  | _ => none }
def LightHiddenWrongFalsely : Prop := lightHiddenRow.holds Try.pinned (OpenSpec.ofChange lightHiddenWrong)

/-- 'barleycornlaw06.LightMoved': WHATEVER THE INPUT: true; the input reads as it did. -/
def lightMovedSpec : ChangeSpec := { name := "lightMoved", fn := fun _ => fun
  | [d1, d2, d3, d4, d5, d6, d7, d8] => { results := [.lit (.bool true)], args := [d1, d2, d3, d4, d5, d6, d7, d8] }
  | _ => none }
def lightMovedRow : OpenClaim := { program := "ytlljhimaopnbfaa", sum := "14470f8acec9281799c9f5f42a036b2558465dfa0993640124b608affac5fa68", func := "barleycorn/barleycornlaw06.LightMoved", spec := "lightMoved", unfollowed := true, recurses := true, apart := false }
def LightMovedSaid : Prop := lightMovedRow.holds Try.pinned (OpenSpec.ofChange lightMovedSpec)

/-- ITS FALSE NEIGHBOUR: 'it returns false'. Refute it at one input. -/
def lightMovedWrong : ChangeSpec := { name := "lightMoved", fn := fun _ => fun
  | [d1, d2, d3, d4, d5, d6, d7, d8] => { results := [.lit (.bool false)], args := [d1, d2, d3, d4, d5, d6, d7, d8] }
  | _ => none }
def LightMovedWrongFalsely : Prop := lightMovedRow.holds Try.pinned (OpenSpec.ofChange lightMovedWrong)

/-- 'barleycornlaw06.LightCarved': WHATEVER THE INPUT: true; the input reads as it did. -/
def lightCarvedSpec : ChangeSpec := { name := "lightCarved", fn := fun _ => fun
  | [d1, d2, d3, d4, d5] => { results := [.lit (.bool true)], args := [d1, d2, d3, d4, d5] }
  | _ => none }
def lightCarvedRow : OpenClaim := { program := "ytlljhimaopnbfaa", sum := "14470f8acec9281799c9f5f42a036b2558465dfa0993640124b608affac5fa68", func := "barleycorn/barleycornlaw06.LightCarved", spec := "lightCarved", unfollowed := true, recurses := true, apart := false }
def LightCarvedSaid : Prop := lightCarvedRow.holds Try.pinned (OpenSpec.ofChange lightCarvedSpec)

/-- ITS FALSE NEIGHBOUR: 'it returns false'. Refute it at one input. -/
def lightCarvedWrong : ChangeSpec := { name := "lightCarved", fn := fun _ => fun
  | [d1, d2, d3, d4, d5] => { results := [.lit (.bool false)], args := [d1, d2, d3, d4, d5] }
  | _ => none }
def LightCarvedWrongFalsely : Prop := lightCarvedRow.holds Try.pinned (OpenSpec.ofChange lightCarvedWrong)

/-- 'barleycornlaw06.LightExamples': WHATEVER THE INPUT: true; the input reads as it did. -/
def lightExamplesSpec : ChangeSpec := { name := "lightExamples", fn := fun _ => fun
  | [] => { results := [.lit (.bool true)], args := [] }
  | _ => none }
def lightExamplesRow : OpenClaim := { program := "ytlljhimaopnbfaa", sum := "14470f8acec9281799c9f5f42a036b2558465dfa0993640124b608affac5fa68", func := "barleycorn/barleycornlaw06.LightExamples", spec := "lightExamples", unfollowed := true, recurses := true, apart := false }
def LightExamplesSaid : Prop := lightExamplesRow.holds Try.pinned (OpenSpec.ofChange lightExamplesSpec)

/-- ITS FALSE NEIGHBOUR: 'it returns false'. Refute it at one input. -/
def lightExamplesWrong : ChangeSpec := { name := "lightExamples", fn := fun _ => fun
  | [] => { results := [.lit (.bool false)], args := [] }
  | _ => none }
def LightExamplesWrongFalsely : Prop := lightExamplesRow.holds Try.pinned (OpenSpec.ofChange lightExamplesWrong)

/- THE SECOND FORM. 'bulk': how many values and letters a reading holds, each counted each time it is reached (what is shared counts as often as it is met; a slice's spare places count too). A statement '..UptoSaid' is the law's where the arguments, and the package variables that the reading takes, are together of bulk at most 1048576: NARROWER than '..Said'. Prove '..Said' where nothing that the law and all that it calls make is longer than what came in: it says more and counts as full. Else prove '..UptoSaid'. A law counts once. -/
mutual
def uptoBulk {H : Type} : DataW H → Nat
  | .lit (.string bytes) => bytes.length + 1
  | .lit _ => 1
  | .nil => 1
  | .ptr d => uptoBulk d + 1
  | .slice elems spare => uptoBulkAll elems + uptoBulkAll spare + 1
  | .agg parts => uptoBulkAll parts + 1
  | .iface _ d => uptoBulk d + 1
  | .map entries => uptoBulkEntries entries + 1
  | .held _ => 1
def uptoBulkAll {H : Type} : List (DataW H) → Nat
  | [] => 0
  | d :: r => uptoBulk d + uptoBulkAll r
def uptoBulkEntries {H : Type} : List (Lit × DataW H) → Nat
  | [] => 0
  | x :: r => uptoBulkEntry x + uptoBulkEntries r
def uptoBulkEntry {H : Type} : Lit × DataW H → Nat
  | (.string bytes, d) => bytes.length + uptoBulk d + 1
  | (_, d) => uptoBulk d + 1
 end
def uptoSmall : (H : Type) → List (DataW H) → Bool := fun _ ds => decide (uptoBulkAll ds ≤ 1048576)
def OpenSpec.upto (s : _root_.Go.ChangeSpec) : _root_.Go.OpenSpec := { _root_.Go.OpenSpec.ofChange s with cond := some uptoSmall }

/-- 'barleycornlaw06.LightBright', WHERE WHAT IT READS IS OF BULK AT MOST 1048576: true; the input reads as it did. -/
def lightBrightUptoRow : OpenClaim := { program := "ytlljhimaopnbfaa", sum := "14470f8acec9281799c9f5f42a036b2558465dfa0993640124b608affac5fa68", func := "barleycorn/barleycornlaw06.LightBright", spec := "lightBright", unfollowed := true, recurses := true, apart := false, narrowed := true }
def LightBrightUptoSaid : Prop := lightBrightUptoRow.holds Try.pinned (OpenSpec.upto lightBrightSpec)

/-- 'barleycornlaw06.LightFacets', WHERE WHAT IT READS IS OF BULK AT MOST 1048576: true; the input reads as it did. -/
def lightFacetsUptoRow : OpenClaim := { program := "ytlljhimaopnbfaa", sum := "14470f8acec9281799c9f5f42a036b2558465dfa0993640124b608affac5fa68", func := "barleycorn/barleycornlaw06.LightFacets", spec := "lightFacets", unfollowed := true, recurses := true, apart := false, narrowed := true }
def LightFacetsUptoSaid : Prop := lightFacetsUptoRow.holds Try.pinned (OpenSpec.upto lightFacetsSpec)

/-- 'barleycornlaw06.LightPictures', WHERE WHAT IT READS IS OF BULK AT MOST 1048576: true; the input reads as it did. -/
def lightPicturesUptoRow : OpenClaim := { program := "ytlljhimaopnbfaa", sum := "14470f8acec9281799c9f5f42a036b2558465dfa0993640124b608affac5fa68", func := "barleycorn/barleycornlaw06.LightPictures", spec := "lightPictures", unfollowed := true, recurses := true, apart := false, narrowed := true }
def LightPicturesUptoSaid : Prop := lightPicturesUptoRow.holds Try.pinned (OpenSpec.upto lightPicturesSpec)

/-- 'barleycornlaw06.LightFlashes', WHERE WHAT IT READS IS OF BULK AT MOST 1048576: true; the input reads as it did. -/
def lightFlashesUptoRow : OpenClaim := { program := "ytlljhimaopnbfaa", sum := "14470f8acec9281799c9f5f42a036b2558465dfa0993640124b608affac5fa68", func := "barleycorn/barleycornlaw06.LightFlashes", spec := "lightFlashes", unfollowed := true, recurses := true, apart := false, narrowed := true }
def LightFlashesUptoSaid : Prop := lightFlashesUptoRow.holds Try.pinned (OpenSpec.upto lightFlashesSpec)

/-- 'barleycornlaw06.LightCarves', WHERE WHAT IT READS IS OF BULK AT MOST 1048576: true; the input reads as it did. -/
def lightCarvesUptoRow : OpenClaim := { program := "ytlljhimaopnbfaa", sum := "14470f8acec9281799c9f5f42a036b2558465dfa0993640124b608affac5fa68", func := "barleycorn/barleycornlaw06.LightCarves", spec := "lightCarves", unfollowed := true, recurses := true, apart := false, narrowed := true }
def LightCarvesUptoSaid : Prop := lightCarvesUptoRow.holds Try.pinned (OpenSpec.upto lightCarvesSpec)

/-- 'barleycornlaw06.LightLatent', WHERE WHAT IT READS IS OF BULK AT MOST 1048576: true; the input reads as it did. -/
def lightLatentUptoRow : OpenClaim := { program := "ytlljhimaopnbfaa", sum := "14470f8acec9281799c9f5f42a036b2558465dfa0993640124b608affac5fa68", func := "barleycorn/barleycornlaw06.LightLatent", spec := "lightLatent", unfollowed := true, recurses := true, apart := false, narrowed := true }
def LightLatentUptoSaid : Prop := lightLatentUptoRow.holds Try.pinned (OpenSpec.upto lightLatentSpec)

/-- 'barleycornlaw06.LightOne', WHERE WHAT IT READS IS OF BULK AT MOST 1048576: true; the input reads as it did. -/
def lightOneUptoRow : OpenClaim := { program := "ytlljhimaopnbfaa", sum := "14470f8acec9281799c9f5f42a036b2558465dfa0993640124b608affac5fa68", func := "barleycorn/barleycornlaw06.LightOne", spec := "lightOne", unfollowed := true, recurses := true, apart := false, narrowed := true }
def LightOneUptoSaid : Prop := lightOneUptoRow.holds Try.pinned (OpenSpec.upto lightOneSpec)

/-- 'barleycornlaw06.LightCompared', WHERE WHAT IT READS IS OF BULK AT MOST 1048576: true; the input reads as it did. -/
def lightComparedUptoRow : OpenClaim := { program := "ytlljhimaopnbfaa", sum := "14470f8acec9281799c9f5f42a036b2558465dfa0993640124b608affac5fa68", func := "barleycorn/barleycornlaw06.LightCompared", spec := "lightCompared", unfollowed := true, recurses := true, apart := false, narrowed := true }
def LightComparedUptoSaid : Prop := lightComparedUptoRow.holds Try.pinned (OpenSpec.upto lightComparedSpec)

/-- 'barleycornlaw06.LightHigher', WHERE WHAT IT READS IS OF BULK AT MOST 1048576: true; the input reads as it did. -/
def lightHigherUptoRow : OpenClaim := { program := "ytlljhimaopnbfaa", sum := "14470f8acec9281799c9f5f42a036b2558465dfa0993640124b608affac5fa68", func := "barleycorn/barleycornlaw06.LightHigher", spec := "lightHigher", unfollowed := true, recurses := true, apart := false, narrowed := true }
def LightHigherUptoSaid : Prop := lightHigherUptoRow.holds Try.pinned (OpenSpec.upto lightHigherSpec)

/-- 'barleycornlaw06.LightTurned', WHERE WHAT IT READS IS OF BULK AT MOST 1048576: true; the input reads as it did. -/
def lightTurnedUptoRow : OpenClaim := { program := "ytlljhimaopnbfaa", sum := "14470f8acec9281799c9f5f42a036b2558465dfa0993640124b608affac5fa68", func := "barleycorn/barleycornlaw06.LightTurned", spec := "lightTurned", unfollowed := true, recurses := true, apart := false, narrowed := true }
def LightTurnedUptoSaid : Prop := lightTurnedUptoRow.holds Try.pinned (OpenSpec.upto lightTurnedSpec)

/-- 'barleycornlaw06.LightRaised', WHERE WHAT IT READS IS OF BULK AT MOST 1048576: true; the input reads as it did. -/
def lightRaisedUptoRow : OpenClaim := { program := "ytlljhimaopnbfaa", sum := "14470f8acec9281799c9f5f42a036b2558465dfa0993640124b608affac5fa68", func := "barleycorn/barleycornlaw06.LightRaised", spec := "lightRaised", unfollowed := true, recurses := true, apart := false, narrowed := true }
def LightRaisedUptoSaid : Prop := lightRaisedUptoRow.holds Try.pinned (OpenSpec.upto lightRaisedSpec)

/-- 'barleycornlaw06.LightEven', WHERE WHAT IT READS IS OF BULK AT MOST 1048576: true; the input reads as it did. -/
def lightEvenUptoRow : OpenClaim := { program := "ytlljhimaopnbfaa", sum := "14470f8acec9281799c9f5f42a036b2558465dfa0993640124b608affac5fa68", func := "barleycorn/barleycornlaw06.LightEven", spec := "lightEven", unfollowed := true, recurses := true, apart := false, narrowed := true }
def LightEvenUptoSaid : Prop := lightEvenUptoRow.holds Try.pinned (OpenSpec.upto lightEvenSpec)

/-- 'barleycornlaw06.LightFlat', WHERE WHAT IT READS IS OF BULK AT MOST 1048576: true; the input reads as it did. -/
def lightFlatUptoRow : OpenClaim := { program := "ytlljhimaopnbfaa", sum := "14470f8acec9281799c9f5f42a036b2558465dfa0993640124b608affac5fa68", func := "barleycorn/barleycornlaw06.LightFlat", spec := "lightFlat", unfollowed := true, recurses := true, apart := false, narrowed := true }
def LightFlatUptoSaid : Prop := lightFlatUptoRow.holds Try.pinned (OpenSpec.upto lightFlatSpec)

/-- 'barleycornlaw06.LightFlashed', WHERE WHAT IT READS IS OF BULK AT MOST 1048576: true; the input reads as it did. -/
def lightFlashedUptoRow : OpenClaim := { program := "ytlljhimaopnbfaa", sum := "14470f8acec9281799c9f5f42a036b2558465dfa0993640124b608affac5fa68", func := "barleycorn/barleycornlaw06.LightFlashed", spec := "lightFlashed", unfollowed := true, recurses := true, apart := false, narrowed := true }
def LightFlashedUptoSaid : Prop := lightFlashedUptoRow.holds Try.pinned (OpenSpec.upto lightFlashedSpec)

/-- 'barleycornlaw06.LightHidden', WHERE WHAT IT READS IS OF BULK AT MOST 1048576: true; the input reads as it did. -/
def lightHiddenUptoRow : OpenClaim := { program := "ytlljhimaopnbfaa", sum := "14470f8acec9281799c9f5f42a036b2558465dfa0993640124b608affac5fa68", func := "barleycorn/barleycornlaw06.LightHidden", spec := "lightHidden", unfollowed := true, recurses := true, apart := false, narrowed := true }
def LightHiddenUptoSaid : Prop := lightHiddenUptoRow.holds Try.pinned (OpenSpec.upto lightHiddenSpec)

/-- 'barleycornlaw06.LightMoved', WHERE WHAT IT READS IS OF BULK AT MOST 1048576: true; the input reads as it did. -/
def lightMovedUptoRow : OpenClaim := { program := "ytlljhimaopnbfaa", sum := "14470f8acec9281799c9f5f42a036b2558465dfa0993640124b608affac5fa68", func := "barleycorn/barleycornlaw06.LightMoved", spec := "lightMoved", unfollowed := true, recurses := true, apart := false, narrowed := true }
def LightMovedUptoSaid : Prop := lightMovedUptoRow.holds Try.pinned (OpenSpec.upto lightMovedSpec)

/-- 'barleycornlaw06.LightCarved', WHERE WHAT IT READS IS OF BULK AT MOST 1048576: true; the input reads as it did. -/
def lightCarvedUptoRow : OpenClaim := { program := "ytlljhimaopnbfaa", sum := "14470f8acec9281799c9f5f42a036b2558465dfa0993640124b608affac5fa68", func := "barleycorn/barleycornlaw06.LightCarved", spec := "lightCarved", unfollowed := true, recurses := true, apart := false, narrowed := true }
def LightCarvedUptoSaid : Prop := lightCarvedUptoRow.holds Try.pinned (OpenSpec.upto lightCarvedSpec)

/-- 'barleycornlaw06.LightExamples', WHERE WHAT IT READS IS OF BULK AT MOST 1048576: true; the input reads as it did. -/
def lightExamplesUptoRow : OpenClaim := { program := "ytlljhimaopnbfaa", sum := "14470f8acec9281799c9f5f42a036b2558465dfa0993640124b608affac5fa68", func := "barleycorn/barleycornlaw06.LightExamples", spec := "lightExamples", unfollowed := true, recurses := true, apart := false, narrowed := true }
def LightExamplesUptoSaid : Prop := lightExamplesUptoRow.holds Try.pinned (OpenSpec.upto lightExamplesSpec)

end Rows
end Go.Proofs.Ytlljhimaopnbfaa
