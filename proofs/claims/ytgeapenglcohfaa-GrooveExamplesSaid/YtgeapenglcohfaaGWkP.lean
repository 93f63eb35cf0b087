/- Works: depths, reaches, feet, what is too deep, sides. No condition. -/
import Derived.Test.YtgeapenglcohfaaGChk
import Derived.Test.YtgeapenglcohfaaGTwinP
namespace Go.Proofs.Ytgeapenglcohfaa
open Go.RowKit

/-- The high depth, the reach of a cut. -/
def hiK (k : WkT) (c : CutT) : Int := highOf k.bite k.slack c.2.1
def reachK (k : WkT) (c : CutT) : Int := halfOf k.tip k.num k.den (hiK k c)
/-- The cuts that are too deep, among the first j. -/
def deepTo (k : WkT) : Nat → List Int
  | 0 => []
  | j + 1 => if k.deepest < hiK k (k.cuts[j]?.getD ([], 0, false)) then deepTo k j ++ [(j : Int)] else deepTo k j
def deepL (k : WkT) : List Int := if workB k then deepTo k k.cuts.length else []
theorem deepTo_len (k : WkT) : ∀ j, (deepTo k j).length ≤ j
  | 0 => Nat.le_refl _
  | j + 1 => by
    have := deepTo_len k j
    unfold deepTo
    split
    · simp; omega
    · omega
theorem workB_iff {k : WkT} : workB k = true ↔ toolB k.tip k.num k.den k.bite k.slack = true ∧ fieldsB k = true ∧ k.cuts.length ≤ 16 ∧ ∀ c ∈ k.cuts, cutB c = true := by
  unfold workB
  rw [Bool.and_eq_true, Bool.and_eq_true, Bool.and_eq_true, decide_eq_true_eq, List.all_eq_true, and_assoc]
theorem workE_ok {k : WkT} (hb : workB k = true) : workE k = 0 := if_pos hb
theorem workE_no {k : WkT} (hb : workB k = false) : workE k = 51 := if_neg (by rw [hb]; exact Bool.false_ne_true)
theorem deepL_ok {k : WkT} (hb : workB k = true) : deepL k = deepTo k k.cuts.length := if_pos hb
theorem deepL_no {k : WkT} (hb : workB k = false) : deepL k = [] := if_neg (by rw [hb]; exact Bool.false_ne_true)
/-- The foot's line. -/
def footL (k : WkT) (xs : List (Int × Int)) : List (Int × Int) := xs.map fun s => (s.1 + k.fx, s.2 + k.fy)
/-- A side as it lies: where its spots and its foot's lie, its high depth, its reach, its pressure, whether it may cross. -/
abbrev SideR := RowT × RowT × Int × Int × Int × Bool
def sideK : EK SideR := ⟨130, 127, 6, fun x => [.slice x.1.1 x.1.2.1 x.1.2.2, .slice x.2.1.1 x.2.1.2.1 x.2.1.2.2, .int .i64 x.2.2.1, .int .i64 x.2.2.2.1, .int .i64 x.2.2.2.2.1, .bool x.2.2.2.2.2], .agg #[.slice none 0 0, .slice none 0 0, .int .i64 0, .int .i64 0, .int .i64 0, .bool false], 80, Try.underlying127, by kernel_rfl, rfl, by decide, by decide, fun _ => rfl, by simp [Value.oneCell']⟩
def pathK : EK (Int × Int) := ⟨56, 123, 2, fun x => [.int .i64 x.1, .int .i64 x.2], .agg #[.int .i64 0, .int .i64 0], 16, Try.underlying123, by kernel_rfl, rfl, by decide, by decide, fun _ => rfl, by simp [Value.oneCell']⟩
/-- A side of a cut. -/
structure SideIs (k : WkT) (w : World) (s : SideR) (c : CutT) : Prop where
  line : spotK.Is w (rowV s.1) c.1
  foot : spotK.Is w (rowV s.2.1) (footL k c.1)
  high : s.2.2.1 = hiK k c
  reach : s.2.2.2.1 = reachK k c
  press : s.2.2.2.2.1 = c.2.1
  cross : s.2.2.2.2.2 = c.2.2
theorem SideIs.ext {k : WkT} {w w' : World} {s : SideR} {c : CutT} (h : SideIs k w s c) (x : Ext w w') : SideIs k w' s c := ⟨h.line.ext x, h.foot.ext x, h.high, h.reach, h.press, h.cross⟩
/-- The sides of a work. -/
def SidesIs (k : WkT) (w : World) (v : Value) : Prop := ∃ Ss, sideK.Is w v Ss ∧ Ss.length = k.cuts.length ∧ ∀ q (h : q < Ss.length) (h' : q < k.cuts.length), SideIs k w Ss[q] k.cuts[q]
theorem SidesIs.ext {k : WkT} {w w' : World} {v : Value} (h : SidesIs k w v) (x : Ext w w') : SidesIs k w' v := by
  obtain ⟨Ss, h1, h2, h3⟩ := h
  exact ⟨Ss, h1.ext x, h2, fun q h h' => (h3 q h h').ext x⟩
end Go.Proofs.Ytgeapenglcohfaa
