/- Works: depths, reaches, feet, what is too deep, sides. No condition. -/
import Derived.Test.YtgeapenglcohfaaGChk
import Derived.Test.YtgeapenglcohfaaGAppD
namespace Go.Proofs.Ytgeapenglcohfaa
open Go.RowKit

/-- The high depth, the reach of a cut. -/
def hiK (k : WkT) (c : CutT) : Int := highOf k.bite k.slack c.2.1
def reachK (k : WkT) (c : CutT) : Int := halfOf k.tip k.num k.den (hiK k c)
/-- The cuts that are too deep, among the first j. -/
def deepTo (k : WkT) : Nat → List Int
  | 0 => []
  | j + 1 => if k.deepest < hiK k (k.cuts[j]?.getD ([], 0, false)) then deepTo k j ++ [(j : Int)] else deepTo k j
def deepL (k : WkT) : List Int := if workB k then deepTo k k.cuts.length else []
theorem deepTo_len (k : WkT) : ∀ j, (deepTo k j).length ≤ j
  | 0 => Nat.le_refl _
  | j + 1 => by
    have := deepTo_len k j
    unfold deepTo
    split
    · simp; omega
    · omega
theorem workB_iff {k : WkT} : workB k = true ↔ toolB k.tip k.num k.den k.bite k.slack = true ∧ fieldsB k = true ∧ k.cuts.length ≤ 16 ∧ ∀ c ∈ k.cuts, cutB c = true := by
  unfold workB
  rw [Bool.and_eq_true, Bool.and_eq_true, Bool.and_eq_true, decide_eq_true_eq, List.all_eq_true, and_assoc]
theorem workE_ok {k : WkT} (hb : workB k = true) : workE k = 0 := if_pos hb
theorem workE_no {k : WkT} (hb : workB k = false) : workE k = 51 := if_neg (by rw [hb]; exact Bool.false_ne_true)
theorem deepL_ok {k : WkT} (hb : workB k = true) : deepL k = deepTo k k.cuts.length := if_pos hb
theorem deepL_no {k : WkT} (hb : workB k = false) : deepL k = [] := if_neg (by rw [hb]; exact Bool.false_ne_true)
/-- A slice and an error are answered. -/
def RetEW {α : Type} (K : EK α) (w : World) (zs : List α) (er : Int) (e : Ending) (w' : World) : Prop := ∃ v, e = .returned (.tuple #[v, .int .i64 er]) ∧ K.Own w.heap.size w' v zs ∧ Ext w w'
theorem retEW_mk {α : Type} {K : EK α} {w W : World} {zs zs' : List α} {v : Value} {er er' : Int} (ho : K.Own w.heap.size W v zs) (hz : zs' = zs) (he : er' = er) (x : Ext w W) : RetEW K w zs' er' (.returned (.tuple #[v, .int .i64 er])) W := by
  subst hz he
  exact ⟨v, rfl, ho, x⟩
theorem own_shapeW {α : Type} {K : EK α} {B : Nat} {w : World} {v : Value} {xs : List α} (h : K.Own B w v xs) : ∃ A k c, v = .slice A k c := by
  rcases h.2 with ⟨rfl, _⟩ | ⟨g, cap, cur, rfl, _⟩ <;> exact ⟨_, _, _, rfl⟩

/-- The foot's line. -/
def footL (k : WkT) (xs : List (Int × Int)) : List (Int × Int) := xs.map fun s => (s.1 + k.fx, s.2 + k.fy)
abbrev RowT := Option Addr × Nat × Nat
/-- A side as it lies: where its spots and its foot's lie, its high depth, its reach, its pressure, whether it may cross. -/
abbrev SideR := RowT × RowT × Int × Int × Int × Bool
def sideK : EK SideR := ⟨130, 127, 6, fun x => [.slice x.1.1 x.1.2.1 x.1.2.2, .slice x.2.1.1 x.2.1.2.1 x.2.1.2.2, .int .i64 x.2.2.1, .int .i64 x.2.2.2.1, .int .i64 x.2.2.2.2.1, .bool x.2.2.2.2.2], .agg #[.slice none 0 0, .slice none 0 0, .int .i64 0, .int .i64 0, .int .i64 0, .bool false], 80, Try.underlying127, by kernel_rfl, rfl, by decide, by decide, fun _ => rfl, by simp [Value.oneCell']⟩
def pathK : EK (Int × Int) := ⟨56, 123, 2, fun x => [.int .i64 x.1, .int .i64 x.2], .agg #[.int .i64 0, .int .i64 0], 16, Try.underlying123, by kernel_rfl, rfl, by decide, by decide, fun _ => rfl, by simp [Value.oneCell']⟩
/-- A side of a cut. -/
structure SideIs (k : WkT) (w : World) (s : SideR) (c : CutT) : Prop where
  line : spotK.Is w (rowV s.1) c.1
  foot : spotK.Is w (rowV s.2.1) (footL k c.1)
  high : s.2.2.1 = hiK k c
  reach : s.2.2.2.1 = reachK k c
  press : s.2.2.2.2.1 = c.2.1
  cross : s.2.2.2.2.2 = c.2.2
theorem SideIs.ext {k : WkT} {w w' : World} {s : SideR} {c : CutT} (h : SideIs k w s c) (x : Ext w w') : SideIs k w' s c := ⟨h.line.ext x, h.foot.ext x, h.high, h.reach, h.press, h.cross⟩
/-- The sides of a work. -/
def SidesIs (k : WkT) (w : World) (v : Value) : Prop := ∃ Ss, sideK.Is w v Ss ∧ Ss.length = k.cuts.length ∧ ∀ q (h : q < Ss.length) (h' : q < k.cuts.length), SideIs k w Ss[q] k.cuts[q]
theorem SidesIs.ext {k : WkT} {w w' : World} {v : Value} (h : SidesIs k w v) (x : Ext w w') : SidesIs k w' v := by
  obtain ⟨Ss, h1, h2, h3⟩ := h
  exact ⟨Ss, h1.ext x, h2, fun q h h' => (h3 q h h').ext x⟩
/-- A work that lies in a block. -/
def WkAt (k : WkT) (sv : Value) (b : Nat) (W : World) : Prop := W.cell? ⟨b, 0, none⟩ = some (.int .i64 k.tip) ∧ W.cell? ⟨b, 1, none⟩ = some (.int .i64 k.num) ∧ W.cell? ⟨b, 2, none⟩ = some (.int .i64 k.den) ∧ W.cell? ⟨b, 3, none⟩ = some (.int .i64 k.bite) ∧ W.cell? ⟨b, 4, none⟩ = some (.int .i64 k.slack) ∧ W.cell? ⟨b, 5, none⟩ = some (.int .i64 k.wall) ∧ W.cell? ⟨b, 6, none⟩ = some (.int .i64 k.deepest) ∧ W.cell? ⟨b, 7, none⟩ = some (.int .i64 k.play) ∧ W.cell? ⟨b, 8, none⟩ = some (.int .i64 k.fx) ∧ W.cell? ⟨b, 9, none⟩ = some (.int .i64 k.fy) ∧ W.cell? ⟨b, 10, none⟩ = some (.int .i64 k.fh) ∧ W.cell? ⟨b, 11, none⟩ = some (.int .i64 k.fd) ∧ W.cell? ⟨b, 12, none⟩ = some sv
theorem WkAt.ext {k : WkT} {sv : Value} {b : Nat} {W W' : World} (h : WkAt k sv b W) (x : Ext W W') : WkAt k sv b W' := by
  obtain ⟨h0, h1, h2, h3, h4, h5, h6, h7, h8, h9, h10, h11, h12⟩ := h
  exact ⟨x.cell_some h0, x.cell_some h1, x.cell_some h2, x.cell_some h3, x.cell_some h4, x.cell_some h5, x.cell_some h6, x.cell_some h7, x.cell_some h8, x.cell_some h9, x.cell_some h10, x.cell_some h11, x.cell_some h12⟩
theorem WkAt.new (k : WkT) (sv : Value) (w : World) : WkAt k sv w.heap.size (w.alloc (.cells #[.int .i64 k.tip, .int .i64 k.num, .int .i64 k.den, .int .i64 k.bite, .int .i64 k.slack, .int .i64 k.wall, .int .i64 k.deepest, .int .i64 k.play, .int .i64 k.fx, .int .i64 k.fy, .int .i64 k.fh, .int .i64 k.fd, sv] 59)) :=
  ⟨cell_new rfl, cell_new rfl, cell_new rfl, cell_new rfl, cell_new rfl, cell_new rfl, cell_new rfl, cell_new rfl, cell_new rfl, cell_new rfl, cell_new rfl, cell_new rfl, cell_new rfl⟩
theorem WkAt.box {k : WkT} {sv : Value} {b : Nat} {W : World} (h : BoxAt b #[.int .i64 k.tip, .int .i64 k.num, .int .i64 k.den, .int .i64 k.bite, .int .i64 k.slack, .int .i64 k.wall, .int .i64 k.deepest, .int .i64 k.play, .int .i64 k.fx, .int .i64 k.fy, .int .i64 k.fh, .int .i64 k.fd, sv] 59 W) : WkAt k sv b W := ⟨h.cell rfl, h.cell rfl, h.cell rfl, h.cell rfl, h.cell rfl, h.cell rfl, h.cell rfl, h.cell rfl, h.cell rfl, h.cell rfl, h.cell rfl, h.cell rfl, h.cell rfl⟩
theorem WkAt.lt {k : WkT} {sv : Value} {b : Nat} {W : World} (h : WkAt k sv b W) : b < W.heap.size := cell_lt h.1
end Go.Proofs.Ytgeapenglcohfaa
