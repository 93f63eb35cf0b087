/- Walls in plain Lean. No program. -/
import Derived.Test.YtgeapenglcohfaaGWkP
import Derived.Test.YtgeapenglcohfaaGDist
namespace Go.Proofs.Ytgeapenglcohfaa
open Go.RowKit

theorem fields_bd {k : WkT} (h : fieldsB k = true) : (1 ≤ k.wall ∧ k.wall ≤ 1000) ∧ (0 ≤ k.play ∧ k.play ≤ 100) ∧ (-1000 ≤ k.fx ∧ k.fx ≤ 1000) ∧ (-1000 ≤ k.fy ∧ k.fy ≤ 1000) ∧ 0 ≤ k.fh ∧ k.fh ≤ 1000 := by
  unfold fieldsB at h
  simp only [Bool.and_eq_true] at h
  obtain ⟨⟨⟨⟨h1, _⟩, h2⟩, h3, h4⟩, h5⟩ := h
  exact ⟨inB_iff.1 h1, inB_iff.1 h2, inB_iff.1 h3, inB_iff.1 h4, inB_iff.1 h5⟩
theorem cutB_line {c : CutT} (h : cutB c = true) : lineB c.1 = true := by
  unfold cutB at h
  rw [Bool.and_eq_true] at h
  exact h.1
def cutAt (k : WkT) (i : Nat) : CutT := k.cuts[i]?.getD ([], 0, false)
theorem cutAt_eq {k : WkT} {i : Nat} (h : i < k.cuts.length) : cutAt k i = k.cuts[i] := by
  unfold cutAt
  rw [List.getElem?_eq_getElem h]
  rfl
/-- Two cuts break a wall. -/
def breaksB (k : WkT) (a b : CutT) : Bool := !(a.2.2 && b.2.2) && nearB a.1 b.1 (reachK k a + reachK k b + k.wall + 3 * k.play)
def rowW (k : WkT) (i : Nat) : Nat → List (Int × Int)
  | 0 => []
  | m + 1 => if breaksB k (cutAt k i) (cutAt k (i + 1 + m)) then rowW k i m ++ [((i : Int), (i : Int) + 1 + (m : Int))] else rowW k i m
def wallsTo (k : WkT) : Nat → List (Int × Int)
  | 0 => []
  | i + 1 => wallsTo k i ++ rowW k i (k.cuts.length - (i + 1))
def wallsL (k : WkT) : List (Int × Int) := if workB k then wallsTo k k.cuts.length else []
theorem wallsL_ok {k : WkT} (hb : workB k = true) : wallsL k = wallsTo k k.cuts.length := if_pos hb
theorem wallsL_no {k : WkT} (hb : workB k = false) : wallsL k = [] := if_neg (by rw [hb]; exact Bool.false_ne_true)
theorem rowW_len (k : WkT) (i : Nat) : ∀ m, (rowW k i m).length ≤ m
  | 0 => Nat.le_refl _
  | m + 1 => by
    have := rowW_len k i m
    unfold rowW
    split
    · simp; omega
    · omega
theorem wallsTo_len {k : WkT} (h16 : k.cuts.length ≤ 16) : ∀ i, (wallsTo k i).length ≤ 16 * i
  | 0 => Nat.le_refl _
  | i + 1 => by
    have := wallsTo_len h16 i
    have := rowW_len k i (k.cuts.length - (i + 1))
    unfold wallsTo
    rw [List.length_append]
    omega
end Go.Proofs.Ytgeapenglcohfaa
