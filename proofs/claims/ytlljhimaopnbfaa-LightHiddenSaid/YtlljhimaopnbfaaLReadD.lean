/- What light.Read reads: the definitions. No condition. -/
import Derived.Test.YtlljhimaopnbfaaLClo
namespace Go.Proofs.Ytlljhimaopnbfaa
section
def ltS (a b : Int × Int) : Prop := a.1 * b.2 < b.1 * a.2
def leS (a b : Int × Int) : Prop := a.1 * b.2 ≤ b.1 * a.2
/-- The least and the greatest of the first j shades (and of the first one). -/
def lowTo (xs : List (Int × Int)) : Nat → Int × Int
  | 0 => xs[0]?.getD (0, 1)
  | j + 1 => if compareOf (xs[j]?.getD (0, 1)).1 (xs[j]?.getD (0, 1)).2 (lowTo xs j).1 (lowTo xs j).2 < 0 then xs[j]?.getD (0, 1) else lowTo xs j
def highTo (xs : List (Int × Int)) : Nat → Int × Int
  | 0 => xs[0]?.getD (0, 1)
  | j + 1 => if 0 < compareOf (xs[j]?.getD (0, 1)).1 (xs[j]?.getD (0, 1)).2 (highTo xs j).1 (highTo xs j).2 then xs[j]?.getD (0, 1) else highTo xs j
def lowS (xs : List (Int × Int)) : Int × Int := lowTo xs xs.length
def highS (xs : List (Int × Int)) : Int × Int := highTo xs xs.length
def oneOf (xs : List (Int × Int)) (x : Int × Int) : Bool := x == lowS xs || x == highS xs
def twoB (xs : List (Int × Int)) : Bool := !(lowS xs == highS xs) && xs.all (oneOf xs)
def readE (xs : List (Int × Int)) : Int := if 576 < xs.length then 4 else if xs.all fracS then (if xs.length ≠ 0 ∧ twoB xs = true then 0 else 6) else 2
def readL (xs : List (Int × Int)) : List Bool := if readE xs = 0 then xs.map (· == highS xs) else []
end
end Go.Proofs.Ytlljhimaopnbfaa
