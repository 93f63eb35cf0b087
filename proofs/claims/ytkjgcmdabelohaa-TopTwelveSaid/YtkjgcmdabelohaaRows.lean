/-
  No cell of these rows narrows 'for every input' (looked for: loops, veiled, ifaces, maps, wideKeys, modest, calm, conditions, laid).
  DERIVED. THE GIVEN ROWS OF THIS SEAT. 3 by the template 'for every input the law returns true; each argument reads behind the call as it read before'; 0 by the template 'total and deterministic' (their statements: YtkjgcmdabelohaaTotals.lean).
  GIVEN WITH THE SEED: the statements are not yours to turn. If you find one false, say at which input.
  Laid BY PROGRAM, IN A SANDBOX (cutbox-rows.mjs): the forced cells as the released guide's own fill.sh prints them over the translation a7a9d9764693bd5e… (all of the seat's roots in one cut). By AI agents, Wed Nov 11 2026. No macro, syntax, notation, axiom, sorry.
-/
import Derived.Test.YtkjgcmdabelohaaChecked
import GoSem.Claim
import GoSem.ClaimJoined
import GoSem.ClaimMapViews
import Derived.JoinedTies
import Derived.KernelRfl
namespace Go.Proofs.Ytkjgcmdabelohaa
/- THE CELL 'sum', in the pinned program and in every row, IS THE sha256 OF THE DUMP (.gsa) THAT YtkjgcmdabelohaaProg.lean LOADS. Nothing in Lean hashes anything: it is a label: what it is worth is what the hold of that sum in a sandbox is worth. -/
noncomputable def Try.pinned : Pinned := { name := "ytkjgcmdabelohaa", sum := "a7a9d9764693bd5e26a4db404ca8ff2a19b954703ac83accbd9ab4275e9c1e22", checked := Try.checked }
namespace Rows
def none {H : Type} : Left H := { results := [], args := [] }

/-- 'barleycorntop.TopBetween': WHATEVER THE INPUT: true; the input reads as it did. -/
def topBetweenSpec : ChangeSpec := { name := "topBetween", fn := fun _ => fun
  | [d1, d2, d3] => { results := [.lit (.bool true)], args := [d1, d2, d3] }
  | _ => none }
def topBetweenRow : OpenClaim := { program := "ytkjgcmdabelohaa", sum := "a7a9d9764693bd5e26a4db404ca8ff2a19b954703ac83accbd9ab4275e9c1e22", func := "barleycorn/barleycorntop.TopBetween", spec := "topBetween", unfollowed := true, recurses := true, apart := false }
def TopBetweenSaid : Prop := topBetweenRow.holds Try.pinned (OpenSpec.ofChange topBetweenSpec)

/-- ITS FALSE NEIGHBOUR: 'it returns false'. Refute it at one input. -/
def topBetweenWrong : ChangeSpec := { name := "topBetween", fn := fun _ => fun
  | [d1, d2, d3] => { results := [.lit (.bool false)], args := [d1, d2, d3] }
  | _ => none }
def TopBetweenWrongFalsely : Prop := topBetweenRow.holds Try.pinned (OpenSpec.ofChange topBetweenWrong)

/-- 'barleycorntop.TopLatent': WHATEVER THE INPUT: true; the input reads as it did. -/
def topLatentSpec : ChangeSpec := { name := "topLatent", fn := fun _ => fun
  | [d1, d2, d3, d4, d5, d6, d7] => { results := [.lit (.bool true)], args := [d1, d2, d3, d4, d5, d6, d7] }
  | _ => none }
def topLatentRow : OpenClaim := { program := "ytkjgcmdabelohaa", sum := "a7a9d9764693bd5e26a4db404ca8ff2a19b954703ac83accbd9ab4275e9c1e22", func := "barleycorn/barleycorntop.TopLatent", spec := "topLatent", unfollowed := true, recurses := true, apart := false }
def TopLatentSaid : Prop := topLatentRow.holds Try.pinned (OpenSpec.ofChange topLatentSpec)

/-- ITS FALSE NEIGHBOUR: 'it returns false'. Refute it at one input. -/
def topLatentWrong : ChangeSpec := { name := "topLatent", fn := fun _ => fun
  | [d1, d2, d3, d4, d5, d6, d7] => { results := [.lit (.bool false)], args := [d1, d2, d3, d4, d5, d6, d7] }
  | _ => none }
def TopLatentWrongFalsely : Prop := topLatentRow.holds Try.pinned (OpenSpec.ofChange topLatentWrong)

/-- 'barleycorntop.TopTwelve': WHATEVER THE INPUT: true; the input reads as it did. -/
def topTwelveSpec : ChangeSpec := { name := "topTwelve", fn := fun _ => fun
  | [d1, d2] => { results := [.lit (.bool true)], args := [d1, d2] }
  | _ => none }
def topTwelveRow : OpenClaim := { program := "ytkjgcmdabelohaa", sum := "a7a9d9764693bd5e26a4db404ca8ff2a19b954703ac83accbd9ab4275e9c1e22", func := "barleycorn/barleycorntop.TopTwelve", spec := "topTwelve", unfollowed := true, recurses := true, apart := false }
def TopTwelveSaid : Prop := topTwelveRow.holds Try.pinned (OpenSpec.ofChange topTwelveSpec)

/-- ITS FALSE NEIGHBOUR: 'it returns false'. Refute it at one input. -/
def topTwelveWrong : ChangeSpec := { name := "topTwelve", fn := fun _ => fun
  | [d1, d2] => { results := [.lit (.bool false)], args := [d1, d2] }
  | _ => none }
def TopTwelveWrongFalsely : Prop := topTwelveRow.holds Try.pinned (OpenSpec.ofChange topTwelveWrong)

/- THE SECOND FORM. 'bulk': how many values and letters a reading holds, each counted each time it is reached (what is shared counts as often as it is met; a slice's spare places count too). A statement '..UptoSaid' is the law's where the arguments, and the package variables that the reading takes, are together of bulk at most 1048576: NARROWER than '..Said'. Prove '..Said' where nothing that the law and all that it calls make is longer than what came in: it says more and counts as full. Else prove '..UptoSaid'. A law counts once. -/
mutual
def uptoBulk {H : Type} : DataW H → Nat
  | .lit (.string bytes) => bytes.length + 1
  | .lit _ => 1
  | .nil => 1
  | .ptr d => uptoBulk d + 1
  | .slice elems spare => uptoBulkAll elems + uptoBulkAll spare + 1
  | .agg parts => uptoBulkAll parts + 1
  | .iface _ d => uptoBulk d + 1
  | .map entries => uptoBulkEntries entries + 1
  | .held _ => 1
def uptoBulkAll {H : Type} : List (DataW H) → Nat
  | [] => 0
  | d :: r => uptoBulk d + uptoBulkAll r
def uptoBulkEntries {H : Type} : List (Lit × DataW H) → Nat
  | [] => 0
  | x :: r => uptoBulkEntry x + uptoBulkEntries r
def uptoBulkEntry {H : Type} : Lit × DataW H → Nat
  | (.string bytes, d) => bytes.length + uptoBulk d + 1
  | (_, d) => uptoBulk d + 1
 end
def uptoSmall : (H : Type) → List (DataW H) → Bool := fun _ ds => decide (uptoBulkAll ds ≤ 1048576)
def OpenSpec.upto (s : _root_.Go.ChangeSpec) : _root_.Go.OpenSpec := { _root_.Go.OpenSpec.ofChange s with cond := some uptoSmall }

/-- 'barleycorntop.TopBetween', WHERE WHAT IT READS IS OF BULK AT MOST 1048576: true; the input reads as it did. -/
def topBetweenUptoRow : OpenClaim := { program := "ytkjgcmdabelohaa", sum := "a7a9d9764693bd5e26a4db404ca8ff2a19b954703ac83accbd9ab4275e9c1e22", func := "barleycorn/barleycorntop.TopBetween", spec := "topBetween", unfollowed := true, recurses := true, apart := false, narrowed := true }
def TopBetweenUptoSaid : Prop := topBetweenUptoRow.holds Try.pinned (OpenSpec.upto topBetweenSpec)

/-- 'barleycorntop.TopLatent', WHERE WHAT IT READS IS OF BULK AT MOST 1048576: true; the input reads as it did. -/
def topLatentUptoRow : OpenClaim := { program := "ytkjgcmdabelohaa", sum := "a7a9d9764693bd5e26a4db404ca8ff2a19b954703ac83accbd9ab4275e9c1e22", func := "barleycorn/barleycorntop.TopLatent", spec := "topLatent", unfollowed := true, recurses := true, apart := false, narrowed := true }
def TopLatentUptoSaid : Prop := topLatentUptoRow.holds Try.pinned (OpenSpec.upto topLatentSpec)

/-- 'barleycorntop.TopTwelve', WHERE WHAT IT READS IS OF BULK AT MOST 1048576: true; the input reads as it did. -/
def topTwelveUptoRow : OpenClaim := { program := "ytkjgcmdabelohaa", sum := "a7a9d9764693bd5e26a4db404ca8ff2a19b954703ac83accbd9ab4275e9c1e22", func := "barleycorn/barleycorntop.TopTwelve", spec := "topTwelve", unfollowed := true, recurses := true, apart := false, narrowed := true }
def TopTwelveUptoSaid : Prop := topTwelveUptoRow.holds Try.pinned (OpenSpec.upto topTwelveSpec)

end Rows
end Go.Proofs.Ytkjgcmdabelohaa
