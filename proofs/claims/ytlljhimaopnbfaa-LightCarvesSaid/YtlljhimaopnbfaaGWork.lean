/- Works: their numbers and their cuts. No condition. -/
import Derived.Test.YtlljhimaopnbfaaGLine
namespace Go.Proofs.Ytlljhimaopnbfaa
open Go.RowKit

/-- A cut: its spots, its pressure, whether it may cross. -/
abbrev CutT := List (Int × Int) × Int × Bool
/-- A cut as it lies: where its spots lie. -/
abbrev CutR := (Option Addr × Nat × Nat) × Int × Bool
def cutK : EK CutR := ⟨106, 77, 3, fun x => [.slice x.1.1 x.1.2.1 x.1.2.2, .int .i64 x.2.1, .bool x.2.2], .agg #[.slice none 0 0, .int .i64 0, .bool false], 40, Try.underlying77, by kernel_rfl, rfl, by decide, by decide, fun _ => rfl, by simp [Value.oneCell']⟩
def rowV (T : Option Addr × Nat × Nat) : Value := .slice T.1 T.2.1 T.2.2
/-- A slice of cuts that reads as a list. -/
def CutsIs (w : World) (v : Value) (cs : List CutT) : Prop := ∃ Ts, cutK.Is w v Ts ∧ Ts.length = cs.length ∧ ∀ q (h : q < Ts.length) (h' : q < cs.length), spotK.Is w (rowV Ts[q].1) cs[q].1 ∧ Ts[q].2 = cs[q].2
theorem CutsIs.ext {w w' : World} {v : Value} {cs : List CutT} (h : CutsIs w v cs) (x : Ext w w') : CutsIs w' v cs := by
  obtain ⟨Ts, h1, h2, h3⟩ := h
  exact ⟨Ts, h1.ext x, h2, fun q h h' => ⟨(h3 q h h').1.ext x, (h3 q h h').2⟩⟩

/-- A work. -/
structure WkT where
  tip : Int
  num : Int
  den : Int
  bite : Int
  slack : Int
  wall : Int
  deepest : Int
  play : Int
  fx : Int
  fy : Int
  fh : Int
  fd : Int
  cuts : List CutT
abbrev WkT.val (k : WkT) (v : Value) : Value := .agg #[.int .i64 k.tip, .int .i64 k.num, .int .i64 k.den, .int .i64 k.bite, .int .i64 k.slack, .int .i64 k.wall, .int .i64 k.deepest, .int .i64 k.play, .int .i64 k.fx, .int .i64 k.fy, .int .i64 k.fh, .int .i64 k.fd, v]
end Go.Proofs.Ytlljhimaopnbfaa
