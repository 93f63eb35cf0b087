/- groove.Check: whether a work is valid. Condition: the cuts read as a list. -/
import Derived.Test.YtgeapenglcohfaaGSegs
namespace Go.Proofs.Ytgeapenglcohfaa
section
/- GWork: Works: their numbers and their cuts. No condition. -/
open Go.RowKit

/-- A cut: its spots, its pressure, whether it may cross. -/
abbrev CutT := List (Int × Int) × Int × Bool
/-- A cut as it lies: where its spots lie. -/
abbrev CutR := (Option Addr × Nat × Nat) × Int × Bool
def cutK : EK CutR := ⟨86, 57, 3, fun x => [.slice x.1.1 x.1.2.1 x.1.2.2, .int .i64 x.2.1, .bool x.2.2], .agg #[.slice none 0 0, .int .i64 0, .bool false], 40, Try.underlying57, by kernel_rfl, rfl, by decide, by decide, fun _ => rfl, by simp [Value.oneCell']⟩
def rowV (T : Option Addr × Nat × Nat) : Value := .slice T.1 T.2.1 T.2.2
/-- A slice of cuts that reads as a list. -/
def CutsIs (w : World) (v : Value) (cs : List CutT) : Prop := ∃ Ts, cutK.Is w v Ts ∧ Ts.length = cs.length ∧ ∀ q (h : q < Ts.length) (h' : q < cs.length), spotK.Is w (rowV Ts[q].1) cs[q].1 ∧ Ts[q].2 = cs[q].2
theorem CutsIs.ext {w w' : World} {v : Value} {cs : List CutT} (h : CutsIs w v cs) (x : Ext w w') : CutsIs w' v cs := by
  obtain ⟨Ts, h1, h2, h3⟩ := h
  exact ⟨Ts, h1.ext x, h2, fun q h h' => ⟨(h3 q h h').1.ext x, (h3 q h h').2⟩⟩

/-- A work. -/
structure WkT where
  tip : Int
  num : Int
  den : Int
  bite : Int
  slack : Int
  wall : Int
  deepest : Int
  play : Int
  fx : Int
  fy : Int
  fh : Int
  fd : Int
  cuts : List CutT
abbrev WkT.val (k : WkT) (v : Value) : Value := .agg #[.int .i64 k.tip, .int .i64 k.num, .int .i64 k.den, .int .i64 k.bite, .int .i64 k.slack, .int .i64 k.wall, .int .i64 k.deepest, .int .i64 k.play, .int .i64 k.fx, .int .i64 k.fy, .int .i64 k.fh, .int .i64 k.fd, v]
end
section
/- Depth: groove.Depth and groove.Half: what each call computes. No condition. -/
section
/- Tools: groove's tools, depths and halves, and the reference's: what each call computes. No condition. -/
open Go.RowKit

abbrev toolV (tip num den bite slack : Int) : Value := .agg #[.int .i64 tip, .int .i64 num, .int .i64 den, .int .i64 bite, .int .i64 slack]

def toolB (tip num den bite slack : Int) : Bool := inB 0 100 tip && (inB 1 100 num && inB 1 100 den) && decide (num ≤ den) && inB 1 1000 bite && inB 0 1000 slack

def toolE (tip num den bite slack : Int) : Int := if toolB tip num den bite slack then 0 else 50

set_option maxHeartbeats 1000000 in
theorem checkTool_any (tip num den bite slack : Int) (w : World) :
    Calls Try.prog 24 #[toolV tip num den bite slack] w fun e w' => e = .returned (.int .i64 (toolE tip num den bite slack)) ∧ Ext w w' := by
  cases h1 : inB 0 100 tip
  · have HT := Lib.hid (show toolE tip num den bite slack = 50 by simp [toolE, toolB, h1])
    go_enter Try.func24, Try.ntmps24
    go_wp2_with (first
      | (go_at_call 61; (with_reducible refine (from_one _ tip _ _ _ _ ?_).mono ?_); (focus go_cell); rintro e _ ⟨rfl, hx⟩; obtain ⟨δ, rfl⟩ : Ext (w.alloc (.cells #[.int .i64 tip, .int .i64 num, .int .i64 den, .int .i64 bite, .int .i64 slack] 23)) _ := Ext.trans (by (repeat' (first | with_reducible exact Ext.refl _ | with_reducible apply Ext.alloc | with_reducible apply Ext.drew | with_reducible apply Ext.drewN | with_reducible refine Ext.setCell ?_ ?_ _ | with_reducible apply Ext.step | with_reducible assumption | with_reducible exact Nat.le_refl _ | (simp; done) | (simp; omega)))) hx)
      | (go_at_call 61; (with_reducible refine (from_two _ num den _ _ _ _ ?_ ?_).mono ?_); (focus go_cell); (focus go_cell); rintro e _ ⟨rfl, hx⟩; obtain ⟨δ, rfl⟩ : Ext (w.alloc (.cells #[.int .i64 tip, .int .i64 num, .int .i64 den, .int .i64 bite, .int .i64 slack] 23)) _ := Ext.trans (by (repeat' (first | with_reducible exact Ext.refl _ | with_reducible apply Ext.alloc | with_reducible apply Ext.drew | with_reducible apply Ext.drewN | with_reducible refine Ext.setCell ?_ ?_ _ | with_reducible apply Ext.step | with_reducible assumption | with_reducible exact Nat.le_refl _ | (simp; done) | (simp; omega)))) hx)
      | (go_at_call 61; (with_reducible refine (from_one _ bite _ _ _ _ ?_).mono ?_); (focus go_cell); rintro e _ ⟨rfl, hx⟩; obtain ⟨δ, rfl⟩ : Ext (w.alloc (.cells #[.int .i64 tip, .int .i64 num, .int .i64 den, .int .i64 bite, .int .i64 slack] 23)) _ := Ext.trans (by (repeat' (first | with_reducible exact Ext.refl _ | with_reducible apply Ext.alloc | with_reducible apply Ext.drew | with_reducible apply Ext.drewN | with_reducible refine Ext.setCell ?_ ?_ _ | with_reducible apply Ext.step | with_reducible assumption | with_reducible exact Nat.le_refl _ | (simp; done) | (simp; omega)))) hx)
      | (go_at_call 61; (with_reducible refine (from_one _ slack _ _ _ _ ?_).mono ?_); (focus go_cell); rintro e _ ⟨rfl, hx⟩; obtain ⟨δ, rfl⟩ : Ext (w.alloc (.cells #[.int .i64 tip, .int .i64 num, .int .i64 den, .int .i64 bite, .int .i64 slack] 23)) _ := Ext.trans (by (repeat' (first | with_reducible exact Ext.refl _ | with_reducible apply Ext.alloc | with_reducible apply Ext.drew | with_reducible apply Ext.drewN | with_reducible refine Ext.setCell ?_ ?_ _ | with_reducible apply Ext.step | with_reducible assumption | with_reducible exact Nat.le_refl _ | (simp; done) | (simp; omega)))) hx))
    go_ret
    exact ⟨by rw [HT.out]; rfl, by (repeat' (first | with_reducible exact Ext.refl _ | with_reducible apply Ext.alloc | with_reducible apply Ext.drew | with_reducible apply Ext.drewN | with_reducible refine Ext.setCell ?_ ?_ _ | with_reducible apply Ext.step | with_reducible assumption | with_reducible exact Nat.le_refl _ | (simp; done) | (simp; omega)))⟩
  cases h2 : (inB 1 100 num && inB 1 100 den)
  · have HT := Lib.hid (show toolE tip num den bite slack = 50 by simp [toolE, toolB, h1, h2])
    go_enter Try.func24, Try.ntmps24
    go_wp2_with (first
      | (go_at_call 61; (with_reducible refine (from_one _ tip _ _ _ _ ?_).mono ?_); (focus go_cell); rintro e _ ⟨rfl, hx⟩; obtain ⟨δ, rfl⟩ : Ext (w.alloc (.cells #[.int .i64 tip, .int .i64 num, .int .i64 den, .int .i64 bite, .int .i64 slack] 23)) _ := Ext.trans (by (repeat' (first | with_reducible exact Ext.refl _ | with_reducible apply Ext.alloc | with_reducible apply Ext.drew | with_reducible apply Ext.drewN | with_reducible refine Ext.setCell ?_ ?_ _ | with_reducible apply Ext.step | with_reducible assumption | with_reducible exact Nat.le_refl _ | (simp; done) | (simp; omega)))) hx)
      | (go_at_call 61; (with_reducible refine (from_two _ num den _ _ _ _ ?_ ?_).mono ?_); (focus go_cell); (focus go_cell); rintro e _ ⟨rfl, hx⟩; obtain ⟨δ, rfl⟩ : Ext (w.alloc (.cells #[.int .i64 tip, .int .i64 num, .int .i64 den, .int .i64 bite, .int .i64 slack] 23)) _ := Ext.trans (by (repeat' (first | with_reducible exact Ext.refl _ | with_reducible apply Ext.alloc | with_reducible apply Ext.drew | with_reducible apply Ext.drewN | with_reducible refine Ext.setCell ?_ ?_ _ | with_reducible apply Ext.step | with_reducible assumption | with_reducible exact Nat.le_refl _ | (simp; done) | (simp; omega)))) hx)
      | (go_at_call 61; (with_reducible refine (from_one _ bite _ _ _ _ ?_).mono ?_); (focus go_cell); rintro e _ ⟨rfl, hx⟩; obtain ⟨δ, rfl⟩ : Ext (w.alloc (.cells #[.int .i64 tip, .int .i64 num, .int .i64 den, .int .i64 bite, .int .i64 slack] 23)) _ := Ext.trans (by (repeat' (first | with_reducible exact Ext.refl _ | with_reducible apply Ext.alloc | with_reducible apply Ext.drew | with_reducible apply Ext.drewN | with_reducible refine Ext.setCell ?_ ?_ _ | with_reducible apply Ext.step | with_reducible assumption | with_reducible exact Nat.le_refl _ | (simp; done) | (simp; omega)))) hx)
      | (go_at_call 61; (with_reducible refine (from_one _ slack _ _ _ _ ?_).mono ?_); (focus go_cell); rintro e _ ⟨rfl, hx⟩; obtain ⟨δ, rfl⟩ : Ext (w.alloc (.cells #[.int .i64 tip, .int .i64 num, .int .i64 den, .int .i64 bite, .int .i64 slack] 23)) _ := Ext.trans (by (repeat' (first | with_reducible exact Ext.refl _ | with_reducible apply Ext.alloc | with_reducible apply Ext.drew | with_reducible apply Ext.drewN | with_reducible refine Ext.setCell ?_ ?_ _ | with_reducible apply Ext.step | with_reducible assumption | with_reducible exact Nat.le_refl _ | (simp; done) | (simp; omega)))) hx))
    go_ret
    exact ⟨by rw [HT.out]; rfl, by (repeat' (first | with_reducible exact Ext.refl _ | with_reducible apply Ext.alloc | with_reducible apply Ext.drew | with_reducible apply Ext.drewN | with_reducible refine Ext.setCell ?_ ?_ _ | with_reducible apply Ext.step | with_reducible assumption | with_reducible exact Nat.le_refl _ | (simp; done) | (simp; omega)))⟩
  cases h3 : decide (num ≤ den)
  · have HT := Lib.hid (show toolE tip num den bite slack = 50 by simp [toolE, toolB, h1, h2, h3])
    have h3b : decide (den < num) = true := by simpa using h3
    clear h3
    go_enter Try.func24, Try.ntmps24
    go_wp2_with (first
      | (go_at_call 61; (with_reducible refine (from_one _ tip _ _ _ _ ?_).mono ?_); (focus go_cell); rintro e _ ⟨rfl, hx⟩; obtain ⟨δ, rfl⟩ : Ext (w.alloc (.cells #[.int .i64 tip, .int .i64 num, .int .i64 den, .int .i64 bite, .int .i64 slack] 23)) _ := Ext.trans (by (repeat' (first | with_reducible exact Ext.refl _ | with_reducible apply Ext.alloc | with_reducible apply Ext.drew | with_reducible apply Ext.drewN | with_reducible refine Ext.setCell ?_ ?_ _ | with_reducible apply Ext.step | with_reducible assumption | with_reducible exact Nat.le_refl _ | (simp; done) | (simp; omega)))) hx)
      | (go_at_call 61; (with_reducible refine (from_two _ num den _ _ _ _ ?_ ?_).mono ?_); (focus go_cell); (focus go_cell); rintro e _ ⟨rfl, hx⟩; obtain ⟨δ, rfl⟩ : Ext (w.alloc (.cells #[.int .i64 tip, .int .i64 num, .int .i64 den, .int .i64 bite, .int .i64 slack] 23)) _ := Ext.trans (by (repeat' (first | with_reducible exact Ext.refl _ | with_reducible apply Ext.alloc | with_reducible apply Ext.drew | with_reducible apply Ext.drewN | with_reducible refine Ext.setCell ?_ ?_ _ | with_reducible apply Ext.step | with_reducible assumption | with_reducible exact Nat.le_refl _ | (simp; done) | (simp; omega)))) hx)
      | (go_at_call 61; (with_reducible refine (from_one _ bite _ _ _ _ ?_).mono ?_); (focus go_cell); rintro e _ ⟨rfl, hx⟩; obtain ⟨δ, rfl⟩ : Ext (w.alloc (.cells #[.int .i64 tip, .int .i64 num, .int .i64 den, .int .i64 bite, .int .i64 slack] 23)) _ := Ext.trans (by (repeat' (first | with_reducible exact Ext.refl _ | with_reducible apply Ext.alloc | with_reducible apply Ext.drew | with_reducible apply Ext.drewN | with_reducible refine Ext.setCell ?_ ?_ _ | with_reducible apply Ext.step | with_reducible assumption | with_reducible exact Nat.le_refl _ | (simp; done) | (simp; omega)))) hx)
      | (go_at_call 61; (with_reducible refine (from_one _ slack _ _ _ _ ?_).mono ?_); (focus go_cell); rintro e _ ⟨rfl, hx⟩; obtain ⟨δ, rfl⟩ : Ext (w.alloc (.cells #[.int .i64 tip, .int .i64 num, .int .i64 den, .int .i64 bite, .int .i64 slack] 23)) _ := Ext.trans (by (repeat' (first | with_reducible exact Ext.refl _ | with_reducible apply Ext.alloc | with_reducible apply Ext.drew | with_reducible apply Ext.drewN | with_reducible refine Ext.setCell ?_ ?_ _ | with_reducible apply Ext.step | with_reducible assumption | with_reducible exact Nat.le_refl _ | (simp; done) | (simp; omega)))) hx))
    go_ret
    exact ⟨by rw [HT.out]; rfl, by (repeat' (first | with_reducible exact Ext.refl _ | with_reducible apply Ext.alloc | with_reducible apply Ext.drew | with_reducible apply Ext.drewN | with_reducible refine Ext.setCell ?_ ?_ _ | with_reducible apply Ext.step | with_reducible assumption | with_reducible exact Nat.le_refl _ | (simp; done) | (simp; omega)))⟩
  have h3b : decide (den < num) = false := by simpa using h3
  cases h4 : inB 1 1000 bite
  · have HT := Lib.hid (show toolE tip num den bite slack = 50 by simp [toolE, toolB, h1, h2, h3, h4])
    go_enter Try.func24, Try.ntmps24
    go_wp2_with (first
      | (go_at_call 61; (with_reducible refine (from_one _ tip _ _ _ _ ?_).mono ?_); (focus go_cell); rintro e _ ⟨rfl, hx⟩; obtain ⟨δ, rfl⟩ : Ext (w.alloc (.cells #[.int .i64 tip, .int .i64 num, .int .i64 den, .int .i64 bite, .int .i64 slack] 23)) _ := Ext.trans (by (repeat' (first | with_reducible exact Ext.refl _ | with_reducible apply Ext.alloc | with_reducible apply Ext.drew | with_reducible apply Ext.drewN | with_reducible refine Ext.setCell ?_ ?_ _ | with_reducible apply Ext.step | with_reducible assumption | with_reducible exact Nat.le_refl _ | (simp; done) | (simp; omega)))) hx)
      | (go_at_call 61; (with_reducible refine (from_two _ num den _ _ _ _ ?_ ?_).mono ?_); (focus go_cell); (focus go_cell); rintro e _ ⟨rfl, hx⟩; obtain ⟨δ, rfl⟩ : Ext (w.alloc (.cells #[.int .i64 tip, .int .i64 num, .int .i64 den, .int .i64 bite, .int .i64 slack] 23)) _ := Ext.trans (by (repeat' (first | with_reducible exact Ext.refl _ | with_reducible apply Ext.alloc | with_reducible apply Ext.drew | with_reducible apply Ext.drewN | with_reducible refine Ext.setCell ?_ ?_ _ | with_reducible apply Ext.step | with_reducible assumption | with_reducible exact Nat.le_refl _ | (simp; done) | (simp; omega)))) hx)
      | (go_at_call 61; (with_reducible refine (from_one _ bite _ _ _ _ ?_).mono ?_); (focus go_cell); rintro e _ ⟨rfl, hx⟩; obtain ⟨δ, rfl⟩ : Ext (w.alloc (.cells #[.int .i64 tip, .int .i64 num, .int .i64 den, .int .i64 bite, .int .i64 slack] 23)) _ := Ext.trans (by (repeat' (first | with_reducible exact Ext.refl _ | with_reducible apply Ext.alloc | with_reducible apply Ext.drew | with_reducible apply Ext.drewN | with_reducible refine Ext.setCell ?_ ?_ _ | with_reducible apply Ext.step | with_reducible assumption | with_reducible exact Nat.le_refl _ | (simp; done) | (simp; omega)))) hx)
      | (go_at_call 61; (with_reducible refine (from_one _ slack _ _ _ _ ?_).mono ?_); (focus go_cell); rintro e _ ⟨rfl, hx⟩; obtain ⟨δ, rfl⟩ : Ext (w.alloc (.cells #[.int .i64 tip, .int .i64 num, .int .i64 den, .int .i64 bite, .int .i64 slack] 23)) _ := Ext.trans (by (repeat' (first | with_reducible exact Ext.refl _ | with_reducible apply Ext.alloc | with_reducible apply Ext.drew | with_reducible apply Ext.drewN | with_reducible refine Ext.setCell ?_ ?_ _ | with_reducible apply Ext.step | with_reducible assumption | with_reducible exact Nat.le_refl _ | (simp; done) | (simp; omega)))) hx))
    go_ret
    exact ⟨by rw [HT.out]; rfl, by (repeat' (first | with_reducible exact Ext.refl _ | with_reducible apply Ext.alloc | with_reducible apply Ext.drew | with_reducible apply Ext.drewN | with_reducible refine Ext.setCell ?_ ?_ _ | with_reducible apply Ext.step | with_reducible assumption | with_reducible exact Nat.le_refl _ | (simp; done) | (simp; omega)))⟩
  cases h5 : inB 0 1000 slack
  · have HT := Lib.hid (show toolE tip num den bite slack = 50 by simp [toolE, toolB, h1, h2, h3, h4, h5])
    go_enter Try.func24, Try.ntmps24
    go_wp2_with (first
      | (go_at_call 61; (with_reducible refine (from_one _ tip _ _ _ _ ?_).mono ?_); (focus go_cell); rintro e _ ⟨rfl, hx⟩; obtain ⟨δ, rfl⟩ : Ext (w.alloc (.cells #[.int .i64 tip, .int .i64 num, .int .i64 den, .int .i64 bite, .int .i64 slack] 23)) _ := Ext.trans (by (repeat' (first | with_reducible exact Ext.refl _ | with_reducible apply Ext.alloc | with_reducible apply Ext.drew | with_reducible apply Ext.drewN | with_reducible refine Ext.setCell ?_ ?_ _ | with_reducible apply Ext.step | with_reducible assumption | with_reducible exact Nat.le_refl _ | (simp; done) | (simp; omega)))) hx)
      | (go_at_call 61; (with_reducible refine (from_two _ num den _ _ _ _ ?_ ?_).mono ?_); (focus go_cell); (focus go_cell); rintro e _ ⟨rfl, hx⟩; obtain ⟨δ, rfl⟩ : Ext (w.alloc (.cells #[.int .i64 tip, .int .i64 num, .int .i64 den, .int .i64 bite, .int .i64 slack] 23)) _ := Ext.trans (by (repeat' (first | with_reducible exact Ext.refl _ | with_reducible apply Ext.alloc | with_reducible apply Ext.drew | with_reducible apply Ext.drewN | with_reducible refine Ext.setCell ?_ ?_ _ | with_reducible apply Ext.step | with_reducible assumption | with_reducible exact Nat.le_refl _ | (simp; done) | (simp; omega)))) hx)
      | (go_at_call 61; (with_reducible refine (from_one _ bite _ _ _ _ ?_).mono ?_); (focus go_cell); rintro e _ ⟨rfl, hx⟩; obtain ⟨δ, rfl⟩ : Ext (w.alloc (.cells #[.int .i64 tip, .int .i64 num, .int .i64 den, .int .i64 bite, .int .i64 slack] 23)) _ := Ext.trans (by (repeat' (first | with_reducible exact Ext.refl _ | with_reducible apply Ext.alloc | with_reducible apply Ext.drew | with_reducible apply Ext.drewN | with_reducible refine Ext.setCell ?_ ?_ _ | with_reducible apply Ext.step | with_reducible assumption | with_reducible exact Nat.le_refl _ | (simp; done) | (simp; omega)))) hx)
      | (go_at_call 61; (with_reducible refine (from_one _ slack _ _ _ _ ?_).mono ?_); (focus go_cell); rintro e _ ⟨rfl, hx⟩; obtain ⟨δ, rfl⟩ : Ext (w.alloc (.cells #[.int .i64 tip, .int .i64 num, .int .i64 den, .int .i64 bite, .int .i64 slack] 23)) _ := Ext.trans (by (repeat' (first | with_reducible exact Ext.refl _ | with_reducible apply Ext.alloc | with_reducible apply Ext.drew | with_reducible apply Ext.drewN | with_reducible refine Ext.setCell ?_ ?_ _ | with_reducible apply Ext.step | with_reducible assumption | with_reducible exact Nat.le_refl _ | (simp; done) | (simp; omega)))) hx))
    go_ret
    exact ⟨by rw [HT.out]; rfl, by (repeat' (first | with_reducible exact Ext.refl _ | with_reducible apply Ext.alloc | with_reducible apply Ext.drew | with_reducible apply Ext.drewN | with_reducible refine Ext.setCell ?_ ?_ _ | with_reducible apply Ext.step | with_reducible assumption | with_reducible exact Nat.le_refl _ | (simp; done) | (simp; omega)))⟩
  · have HT := Lib.hid (show toolE tip num den bite slack = 0 by simp only [toolE, toolB, h1, h2, h3, h4, h5]; rfl)
    go_enter Try.func24, Try.ntmps24
    go_wp2_with (first
      | (go_at_call 61; (with_reducible refine (from_one _ tip _ _ _ _ ?_).mono ?_); (focus go_cell); rintro e _ ⟨rfl, hx⟩; obtain ⟨δ, rfl⟩ : Ext (w.alloc (.cells #[.int .i64 tip, .int .i64 num, .int .i64 den, .int .i64 bite, .int .i64 slack] 23)) _ := Ext.trans (by (repeat' (first | with_reducible exact Ext.refl _ | with_reducible apply Ext.alloc | with_reducible apply Ext.drew | with_reducible apply Ext.drewN | with_reducible refine Ext.setCell ?_ ?_ _ | with_reducible apply Ext.step | with_reducible assumption | with_reducible exact Nat.le_refl _ | (simp; done) | (simp; omega)))) hx)
      | (go_at_call 61; (with_reducible refine (from_two _ num den _ _ _ _ ?_ ?_).mono ?_); (focus go_cell); (focus go_cell); rintro e _ ⟨rfl, hx⟩; obtain ⟨δ, rfl⟩ : Ext (w.alloc (.cells #[.int .i64 tip, .int .i64 num, .int .i64 den, .int .i64 bite, .int .i64 slack] 23)) _ := Ext.trans (by (repeat' (first | with_reducible exact Ext.refl _ | with_reducible apply Ext.alloc | with_reducible apply Ext.drew | with_reducible apply Ext.drewN | with_reducible refine Ext.setCell ?_ ?_ _ | with_reducible apply Ext.step | with_reducible assumption | with_reducible exact Nat.le_refl _ | (simp; done) | (simp; omega)))) hx)
      | (go_at_call 61; (with_reducible refine (from_one _ bite _ _ _ _ ?_).mono ?_); (focus go_cell); rintro e _ ⟨rfl, hx⟩; obtain ⟨δ, rfl⟩ : Ext (w.alloc (.cells #[.int .i64 tip, .int .i64 num, .int .i64 den, .int .i64 bite, .int .i64 slack] 23)) _ := Ext.trans (by (repeat' (first | with_reducible exact Ext.refl _ | with_reducible apply Ext.alloc | with_reducible apply Ext.drew | with_reducible apply Ext.drewN | with_reducible refine Ext.setCell ?_ ?_ _ | with_reducible apply Ext.step | with_reducible assumption | with_reducible exact Nat.le_refl _ | (simp; done) | (simp; omega)))) hx)
      | (go_at_call 61; (with_reducible refine (from_one _ slack _ _ _ _ ?_).mono ?_); (focus go_cell); rintro e _ ⟨rfl, hx⟩; obtain ⟨δ, rfl⟩ : Ext (w.alloc (.cells #[.int .i64 tip, .int .i64 num, .int .i64 den, .int .i64 bite, .int .i64 slack] 23)) _ := Ext.trans (by (repeat' (first | with_reducible exact Ext.refl _ | with_reducible apply Ext.alloc | with_reducible apply Ext.drew | with_reducible apply Ext.drewN | with_reducible refine Ext.setCell ?_ ?_ _ | with_reducible apply Ext.step | with_reducible assumption | with_reducible exact Nat.le_refl _ | (simp; done) | (simp; omega)))) hx))
    go_ret
    exact ⟨by rw [HT.out]; rfl, by (repeat' (first | with_reducible exact Ext.refl _ | with_reducible apply Ext.alloc | with_reducible apply Ext.drew | with_reducible apply Ext.drewN | with_reducible refine Ext.setCell ?_ ?_ _ | with_reducible apply Ext.step | with_reducible assumption | with_reducible exact Nat.le_refl _ | (simp; done) | (simp; omega)))⟩
end
open Go.RowKit

def depthE (tip num den bite slack press : Int) : Int := if toolB tip num den bite slack then (if inB 0 1000 press then 0 else 2) else 50
def highOf (bite slack press : Int) : Int := press * bite / 100 + slack
def depthHi (tip num den bite slack press : Int) : Int := if toolB tip num den bite slack && inB 0 1000 press then highOf bite slack press else 0
def depthLo (tip num den bite slack press : Int) : Int := if toolB tip num den bite slack && inB 0 1000 press then max (press * bite / 100 - slack) 0 else 0
abbrev depthV (tip num den bite slack press : Int) : Value := .tuple #[.int .i64 (depthLo tip num den bite slack press), .int .i64 (depthHi tip num den bite slack press), .int .i64 (depthE tip num den bite slack press)]

theorem toolB_iff {tip num den bite slack : Int} : toolB tip num den bite slack = true ↔ (0 ≤ tip ∧ tip ≤ 100) ∧ (1 ≤ num ∧ num ≤ 100) ∧ (1 ≤ den ∧ den ≤ 100) ∧ num ≤ den ∧ (1 ≤ bite ∧ bite ≤ 1000) ∧ 0 ≤ slack ∧ slack ≤ 1000 := by
  simp [toolB, inB, and_assoc]

theorem mul_bd {a b A B : Int} (h0 : 0 ≤ a) (h1 : a ≤ A) (h2 : 0 ≤ b) (h3 : b ≤ B) : 0 ≤ a * b ∧ a * b ≤ A * B :=
  ⟨Int.mul_nonneg h0 h2, Int.mul_le_mul h1 h3 h2 (Int.le_trans h0 h1)⟩

theorem checkTool_good {tip num den bite slack : Int} (h : toolB tip num den bite slack = true) (w : World) :
    Calls Try.prog 24 #[toolV tip num den bite slack] w fun e w' => e = .returned (.int .i64 0) ∧ Ext w w' := by
  have := checkTool_any tip num den bite slack w
  rwa [toolE, if_pos h] at this
theorem checkTool_bad {tip num den bite slack : Int} (h : toolB tip num den bite slack = false) (w : World) :
    Calls Try.prog 24 #[toolV tip num den bite slack] w fun e w' => e = .returned (.int .i64 50) ∧ Ext w w' := by
  have := checkTool_any tip num den bite slack w
  rwa [toolE, if_neg (by rw [h]; decide)] at this

set_option maxHeartbeats 1000000 in
theorem depth_any (tip num den bite slack press : Int) (w : World) :
    Calls Try.prog 20 #[toolV tip num den bite slack, .int .i64 press] w fun e w' => e = .returned (depthV tip num den bite slack press) ∧ Ext w w' := by
  cases h1 : toolB tip num den bite slack
  · have hE := Lib.hid (show depthE tip num den bite slack press = 50 by simp [depthE, h1])
    have hH := Lib.hid (show depthHi tip num den bite slack press = 0 by simp [depthHi, h1])
    have hL := Lib.hid (show depthLo tip num den bite slack press = 0 by simp [depthLo, h1])
    have HC := Lib.hid (checkTool_bad h1)
    go_enter Try.func20, Try.ntmps20
    go_wp2_with fail
    refine (HC.out _).mono ?_
    rintro e _ ⟨rfl, hx⟩
    obtain ⟨δ, rfl⟩ : Ext (w.alloc (.cells #[.int .i64 tip, .int .i64 num, .int .i64 den, .int .i64 bite, .int .i64 slack] 23)) _ := Ext.trans (by (repeat' (first | with_reducible exact Ext.refl _ | with_reducible apply Ext.alloc | with_reducible apply Ext.drew | with_reducible apply Ext.drewN | with_reducible refine Ext.setCell ?_ ?_ _ | with_reducible apply Ext.step | with_reducible assumption | with_reducible exact Nat.le_refl _ | (simp; done) | (simp; omega)))) hx
    clear hx
    go_wp2_with fail
    go_ret3
    exact ⟨by rw [depthV, hE.out, hH.out, hL.out]; rfl, by (repeat' (first | with_reducible exact Ext.refl _ | with_reducible apply Ext.alloc | with_reducible apply Ext.drew | with_reducible apply Ext.drewN | with_reducible refine Ext.setCell ?_ ?_ _ | with_reducible apply Ext.step | with_reducible assumption | with_reducible exact Nat.le_refl _ | (simp; done) | (simp; omega)))⟩
  have HC := Lib.hid (checkTool_good h1)
  cases h2 : inB 0 1000 press
  · have hE := Lib.hid (show depthE tip num den bite slack press = 2 by simp [depthE, h1, h2])
    have hH := Lib.hid (show depthHi tip num den bite slack press = 0 by simp [depthHi, h1, h2])
    have hL := Lib.hid (show depthLo tip num den bite slack press = 0 by simp [depthLo, h1, h2])
    go_enter Try.func20, Try.ntmps20
    go_wp2_with fail
    refine (HC.out _).mono ?_
    rintro e _ ⟨rfl, hx⟩
    obtain ⟨δ, rfl⟩ : Ext (w.alloc (.cells #[.int .i64 tip, .int .i64 num, .int .i64 den, .int .i64 bite, .int .i64 slack] 23)) _ := Ext.trans (by (repeat' (first | with_reducible exact Ext.refl _ | with_reducible apply Ext.alloc | with_reducible apply Ext.drew | with_reducible apply Ext.drewN | with_reducible refine Ext.setCell ?_ ?_ _ | with_reducible apply Ext.step | with_reducible assumption | with_reducible exact Nat.le_refl _ | (simp; done) | (simp; omega)))) hx
    clear hx
    go_wp2_with fail
    refine (from_one _ press _ _ _ _ (by go_cell)).mono ?_
    rintro e _ ⟨rfl, hx⟩
    obtain ⟨δ, rfl⟩ : Ext (w.alloc (.cells #[.int .i64 tip, .int .i64 num, .int .i64 den, .int .i64 bite, .int .i64 slack] 23)) _ := Ext.trans (by (repeat' (first | with_reducible exact Ext.refl _ | with_reducible apply Ext.alloc | with_reducible apply Ext.drew | with_reducible apply Ext.drewN | with_reducible refine Ext.setCell ?_ ?_ _ | with_reducible apply Ext.step | with_reducible assumption | with_reducible exact Nat.le_refl _ | (simp; done) | (simp; omega)))) hx
    clear hx
    go_wp2_with fail
    go_ret3
    exact ⟨by rw [depthV, hE.out, hH.out, hL.out]; rfl, by (repeat' (first | with_reducible exact Ext.refl _ | with_reducible apply Ext.alloc | with_reducible apply Ext.drew | with_reducible apply Ext.drewN | with_reducible refine Ext.setCell ?_ ?_ _ | with_reducible apply Ext.step | with_reducible assumption | with_reducible exact Nat.le_refl _ | (simp; done) | (simp; omega)))⟩
  have hE := Lib.hid (show depthE tip num den bite slack press = 0 by simp [depthE, h1, h2])
  have hH := Lib.hid (show depthHi tip num den bite slack press = press * bite / 100 + slack by simp [depthHi, highOf, h1, h2])
  have hL := Lib.hid (show depthLo tip num den bite slack press = max (press * bite / 100 - slack) 0 by simp [depthLo, h1, h2])
  obtain ⟨_, _, _, _, ⟨hb1, hb2⟩, hs1, hs2⟩ := toolB_iff.1 h1
  obtain ⟨hp1, hp2⟩ := inB_iff.1 h2
  obtain ⟨hm1, hm2⟩ := mul_bd hp1 hp2 (Int.le_trans (by decide) hb1) hb2
  go_enter Try.func20, Try.ntmps20
  go_wp2_with fail
  refine (HC.out _).mono ?_
  rintro e _ ⟨rfl, hx⟩
  obtain ⟨δ, rfl⟩ : Ext (w.alloc (.cells #[.int .i64 tip, .int .i64 num, .int .i64 den, .int .i64 bite, .int .i64 slack] 23)) _ := Ext.trans (by (repeat' (first | with_reducible exact Ext.refl _ | with_reducible apply Ext.alloc | with_reducible apply Ext.drew | with_reducible apply Ext.drewN | with_reducible refine Ext.setCell ?_ ?_ _ | with_reducible apply Ext.step | with_reducible assumption | with_reducible exact Nat.le_refl _ | (simp; done) | (simp; omega)))) hx
  clear hx
  go_wp2_with fail
  refine (from_one _ press _ _ _ _ (by go_cell)).mono ?_
  rintro e _ ⟨rfl, hx⟩
  obtain ⟨δ, rfl⟩ : Ext (w.alloc (.cells #[.int .i64 tip, .int .i64 num, .int .i64 den, .int .i64 bite, .int .i64 slack] 23)) _ := Ext.trans (by (repeat' (first | with_reducible exact Ext.refl _ | with_reducible apply Ext.alloc | with_reducible apply Ext.drew | with_reducible apply Ext.drewN | with_reducible refine Ext.setCell ?_ ?_ _ | with_reducible apply Ext.step | with_reducible assumption | with_reducible exact Nat.le_refl _ | (simp; done) | (simp; omega)))) hx
  clear hx
  go_wp2_with fail
  go_quiet (fail)
  go_wp2_with fail
  all_goals go_ret3
  all_goals refine ⟨ret_i3 ?_ hH.out.symm hE.out.symm, by (repeat' (first | with_reducible exact Ext.refl _ | with_reducible apply Ext.alloc | with_reducible apply Ext.drew | with_reducible apply Ext.drewN | with_reducible refine Ext.setCell ?_ ?_ _ | with_reducible apply Ext.step | with_reducible assumption | with_reducible exact Nat.le_refl _ | (simp; done) | (simp; omega)))⟩
  all_goals rw [hL.out]; omega

def halfE (tip num den bite slack depth : Int) : Int := if toolB tip num den bite slack then (if inB 0 20000 depth then 0 else 2) else 50
/-- The half at a depth: upwards. -/
def halfOf (tip num den depth : Int) : Int := tip + (depth * num + den - 1) / den
def halfN (tip num den bite slack depth : Int) : Int := if toolB tip num den bite slack && inB 0 20000 depth then halfOf tip num den depth else 0
abbrev halfV (tip num den bite slack depth : Int) : Value := .tuple #[.int .i64 (halfN tip num den bite slack depth), .int .i64 (halfE tip num den bite slack depth)]

theorem ceil_up {m d : Int} (hd : 1 ≤ d) (h : m / d * d < m) : m / d + 1 = (m + d - 1) / d := by
  have h1 := Int.mul_ediv_add_emod m d
  have h2 := Int.emod_lt_of_pos m (by omega : 0 < d)
  have h3 := Int.emod_nonneg m (by omega : d ≠ 0)
  rw [Int.mul_comm] at h
  symm
  have e : m + d - 1 = (m % d - 1) + d * (m / d + 1) := by rw [Int.mul_add]; omega
  rw [e, Int.add_mul_ediv_left _ _ (by omega), Int.ediv_eq_zero_of_lt (by omega) (by omega)]
  omega
theorem ceil_same {m d : Int} (hd : 1 ≤ d) (h : m ≤ m / d * d) : m / d = (m + d - 1) / d := by
  have h1 := Int.mul_ediv_add_emod m d
  have h2 := Int.emod_lt_of_pos m (by omega : 0 < d)
  have h3 := Int.emod_nonneg m (by omega : d ≠ 0)
  rw [Int.mul_comm] at h
  symm
  have e : m + d - 1 = (m % d + (d - 1)) + d * (m / d) := by omega
  rw [e, Int.add_mul_ediv_left _ _ (by omega), Int.ediv_eq_zero_of_lt (by omega) (by omega)]
  omega
theorem div_bd {m d : Int} (hd : 1 ≤ d) (h0 : 0 ≤ m) : 0 ≤ m / d ∧ m / d ≤ m ∧ 0 ≤ m / d * d ∧ m / d * d ≤ m := by
  have h1 := Int.mul_ediv_add_emod m d
  have h3 := Int.emod_nonneg m (by omega : d ≠ 0)
  have h4 := Int.ediv_nonneg h0 (by omega : 0 ≤ d)
  have h5 := Int.ediv_le_self d h0
  have h6 := Int.mul_nonneg h4 (by omega : 0 ≤ d)
  rw [Int.mul_comm] at h1
  refine ⟨h4, h5, h6, by omega⟩

set_option maxHeartbeats 1000000 in
theorem half_any (tip num den bite slack depth : Int) (w : World) :
    Calls Try.prog 22 #[toolV tip num den bite slack, .int .i64 depth] w fun e w' => e = .returned (halfV tip num den bite slack depth) ∧ Ext w w' := by
  cases h1 : toolB tip num den bite slack
  · have hE := Lib.hid (show halfE tip num den bite slack depth = 50 by simp [halfE, h1])
    have hH := Lib.hid (show halfN tip num den bite slack depth = 0 by simp [halfN, h1])
    have HC := Lib.hid (checkTool_bad h1)
    go_enter Try.func22, Try.ntmps22
    go_wp2_with fail
    refine (HC.out _).mono ?_
    rintro e _ ⟨rfl, hx⟩
    obtain ⟨δ, rfl⟩ : Ext (w.alloc (.cells #[.int .i64 tip, .int .i64 num, .int .i64 den, .int .i64 bite, .int .i64 slack] 23)) _ := Ext.trans (by (repeat' (first | with_reducible exact Ext.refl _ | with_reducible apply Ext.alloc | with_reducible apply Ext.drew | with_reducible apply Ext.drewN | with_reducible refine Ext.setCell ?_ ?_ _ | with_reducible apply Ext.step | with_reducible assumption | with_reducible exact Nat.le_refl _ | (simp; done) | (simp; omega)))) hx
    clear hx
    go_wp2_with fail
    go_ret2
    exact ⟨by rw [halfV, hE.out, hH.out]; rfl, by (repeat' (first | with_reducible exact Ext.refl _ | with_reducible apply Ext.alloc | with_reducible apply Ext.drew | with_reducible apply Ext.drewN | with_reducible refine Ext.setCell ?_ ?_ _ | with_reducible apply Ext.step | with_reducible assumption | with_reducible exact Nat.le_refl _ | (simp; done) | (simp; omega)))⟩
  have HC := Lib.hid (checkTool_good h1)
  cases h2 : inB 0 20000 depth
  · have hE := Lib.hid (show halfE tip num den bite slack depth = 2 by simp [halfE, h1, h2])
    have hH := Lib.hid (show halfN tip num den bite slack depth = 0 by simp [halfN, h1, h2])
    go_enter Try.func22, Try.ntmps22
    go_wp2_with fail
    refine (HC.out _).mono ?_
    rintro e _ ⟨rfl, hx⟩
    obtain ⟨δ, rfl⟩ : Ext (w.alloc (.cells #[.int .i64 tip, .int .i64 num, .int .i64 den, .int .i64 bite, .int .i64 slack] 23)) _ := Ext.trans (by (repeat' (first | with_reducible exact Ext.refl _ | with_reducible apply Ext.alloc | with_reducible apply Ext.drew | with_reducible apply Ext.drewN | with_reducible refine Ext.setCell ?_ ?_ _ | with_reducible apply Ext.step | with_reducible assumption | with_reducible exact Nat.le_refl _ | (simp; done) | (simp; omega)))) hx
    clear hx
    go_wp2_with fail
    refine (from_one _ depth _ _ _ _ (by go_cell)).mono ?_
    rintro e _ ⟨rfl, hx⟩
    obtain ⟨δ, rfl⟩ : Ext (w.alloc (.cells #[.int .i64 tip, .int .i64 num, .int .i64 den, .int .i64 bite, .int .i64 slack] 23)) _ := Ext.trans (by (repeat' (first | with_reducible exact Ext.refl _ | with_reducible apply Ext.alloc | with_reducible apply Ext.drew | with_reducible apply Ext.drewN | with_reducible refine Ext.setCell ?_ ?_ _ | with_reducible apply Ext.step | with_reducible assumption | with_reducible exact Nat.le_refl _ | (simp; done) | (simp; omega)))) hx
    clear hx
    go_wp2_with fail
    go_ret2
    exact ⟨by rw [halfV, hE.out, hH.out]; rfl, by (repeat' (first | with_reducible exact Ext.refl _ | with_reducible apply Ext.alloc | with_reducible apply Ext.drew | with_reducible apply Ext.drewN | with_reducible refine Ext.setCell ?_ ?_ _ | with_reducible apply Ext.step | with_reducible assumption | with_reducible exact Nat.le_refl _ | (simp; done) | (simp; omega)))⟩
  have hE := Lib.hid (show halfE tip num den bite slack depth = 0 by simp [halfE, h1, h2])
  have hH := Lib.hid (show halfN tip num den bite slack depth = tip + (depth * num + den - 1) / den by simp [halfN, halfOf, h1, h2])
  obtain ⟨⟨ht1, ht2⟩, ⟨hn1, hn2⟩, ⟨hd1, hd2⟩, _, _, hs1, hs2⟩ := toolB_iff.1 h1
  obtain ⟨hp1, hp2⟩ := inB_iff.1 h2
  obtain ⟨hm1, hm2⟩ := mul_bd hp1 hp2 (Int.le_trans (by decide) hn1) hn2
  obtain ⟨hq1, hq2, hq3, hq4⟩ := div_bd hd1 hm1
  have hup := Lib.hid (@ceil_up (depth * num) den hd1)
  have hsame := Lib.hid (@ceil_same (depth * num) den hd1)
  go_enter Try.func22, Try.ntmps22
  go_wp2_with fail
  refine (HC.out _).mono ?_
  rintro e _ ⟨rfl, hx⟩
  obtain ⟨δ, rfl⟩ : Ext (w.alloc (.cells #[.int .i64 tip, .int .i64 num, .int .i64 den, .int .i64 bite, .int .i64 slack] 23)) _ := Ext.trans (by (repeat' (first | with_reducible exact Ext.refl _ | with_reducible apply Ext.alloc | with_reducible apply Ext.drew | with_reducible apply Ext.drewN | with_reducible refine Ext.setCell ?_ ?_ _ | with_reducible apply Ext.step | with_reducible assumption | with_reducible exact Nat.le_refl _ | (simp; done) | (simp; omega)))) hx
  clear hx
  go_wp2_with fail
  refine (from_one _ depth _ _ _ _ (by go_cell)).mono ?_
  rintro e _ ⟨rfl, hx⟩
  obtain ⟨δ, rfl⟩ : Ext (w.alloc (.cells #[.int .i64 tip, .int .i64 num, .int .i64 den, .int .i64 bite, .int .i64 slack] 23)) _ := Ext.trans (by (repeat' (first | with_reducible exact Ext.refl _ | with_reducible apply Ext.alloc | with_reducible apply Ext.drew | with_reducible apply Ext.drewN | with_reducible refine Ext.setCell ?_ ?_ _ | with_reducible apply Ext.step | with_reducible assumption | with_reducible exact Nat.le_refl _ | (simp; done) | (simp; omega)))) hx
  clear hx
  go_wp2_with fail
  all_goals go_ret2
  · have hlt : depth * num / den * den < depth * num := by assumption
    exact ⟨ret_i2 (by rw [hH.out, ← hup.out hlt]) hE.out.symm, by (repeat' (first | with_reducible exact Ext.refl _ | with_reducible apply Ext.alloc | with_reducible apply Ext.drew | with_reducible apply Ext.drewN | with_reducible refine Ext.setCell ?_ ?_ _ | with_reducible apply Ext.step | with_reducible assumption | with_reducible exact Nat.le_refl _ | (simp; done) | (simp; omega)))⟩
  · have hlt : depth * num ≤ depth * num / den * den := by omega
    exact ⟨ret_i2 (by rw [hH.out, ← hsame.out hlt]) hE.out.symm, by (repeat' (first | with_reducible exact Ext.refl _ | with_reducible apply Ext.alloc | with_reducible apply Ext.drew | with_reducible apply Ext.drewN | with_reducible refine Ext.setCell ?_ ?_ _ | with_reducible apply Ext.step | with_reducible assumption | with_reducible exact Nat.le_refl _ | (simp; done) | (simp; omega)))⟩
end
open Go.RowKit

def cutB (c : CutT) : Bool := lineB c.1 && inB 0 1000 c.2.1
def fieldsB (k : WkT) : Bool := ((((inB 1 1000 k.wall && (inB 0 20000 k.deepest && inB 0 20000 k.fd)) && inB 0 100 k.play) && (inB (-1000) 1000 k.fx && inB (-1000) 1000 k.fy)) && inB 0 1000 k.fh)
def workB (k : WkT) : Bool := (toolB k.tip k.num k.den k.bite k.slack && fieldsB k) && (decide (k.cuts.length ≤ 16) && k.cuts.all cutB)
def workE (k : WkT) : Int := if workB k then 0 else 51

set_option maxHeartbeats 1000000 in
theorem strange_any (T : Option Addr × Nat × Nat) (p : Int) (b : Bool) (xs : List (Int × Int)) (w : World) (hI : spotK.Is w (rowV T) xs) :
    Calls Try.prog 82 #[.agg #[.slice T.1 T.2.1 T.2.2, .int .i64 p, .bool b]] w fun e w' => e = .returned (.bool (!cutB (xs, p, b))) ∧ Ext w w' := by
  obtain ⟨A, k, c⟩ := T
  have HL := Lib.hid fun (W : World) (x : Ext w W) => isLine_any (.slice A k c) xs W (hI.ext x)
  have HG := Lib.hid fun (b : Nat) (W : World) (h : W.cell? ⟨b, 0, none⟩ = some (.int .i64 p)) => from_one b p 0 1000 1 W h
  clear hI
  cases h1 : lineB xs
  · have HR := Lib.hid (show cutB (xs, p, b) = false by simp [cutB, h1])
    rw [h1] at HL
    go_enter Try.func82, Try.ntmps82
    go_wp2_with fail
    refine (HL.out _ (by (repeat' (first | with_reducible exact Ext.refl _ | with_reducible apply Ext.alloc | with_reducible apply Ext.drew | with_reducible apply Ext.drewN | with_reducible refine Ext.setCell ?_ ?_ _ | with_reducible apply Ext.step | with_reducible assumption | with_reducible exact Nat.le_refl _ | (simp; done) | (simp; omega))))).mono ?_
    rintro e _ ⟨rfl, hx⟩
    obtain ⟨δ, rfl⟩ : Ext (w.alloc (.cells #[.slice A k c, .int .i64 p, .bool b] 86)) _ := Ext.trans (by (repeat' (first | with_reducible exact Ext.refl _ | with_reducible apply Ext.alloc | with_reducible apply Ext.drew | with_reducible apply Ext.drewN | with_reducible refine Ext.setCell ?_ ?_ _ | with_reducible apply Ext.step | with_reducible assumption | with_reducible exact Nat.le_refl _ | (simp; done) | (simp; omega)))) hx
    clear hx
    try (have hs0 := δ.lt (w.heap.size) (by first | (simp; done) | (simp; omega)))
    go_wp2_with fail
    go_ret
    exact ⟨ret_b (by rw [HR.out]; rfl), by (repeat' (first | with_reducible exact Ext.refl _ | with_reducible apply Ext.alloc | with_reducible apply Ext.drew | with_reducible apply Ext.drewN | with_reducible refine Ext.setCell ?_ ?_ _ | with_reducible apply Ext.step | with_reducible assumption | with_reducible exact Nat.le_refl _ | (simp; done) | (simp; omega)))⟩
  rw [h1] at HL
  cases h2 : inB 0 1000 p
  all_goals
    have HR := Lib.hid (show cutB (xs, p, b) = _ by rw [cutB, h1, h2])
    rw [h2] at HG
    go_enter Try.func82, Try.ntmps82
    go_wp2_with fail
    refine (HL.out _ (by (repeat' (first | with_reducible exact Ext.refl _ | with_reducible apply Ext.alloc | with_reducible apply Ext.drew | with_reducible apply Ext.drewN | with_reducible refine Ext.setCell ?_ ?_ _ | with_reducible apply Ext.step | with_reducible assumption | with_reducible exact Nat.le_refl _ | (simp; done) | (simp; omega))))).mono ?_
    rintro e _ ⟨rfl, hx⟩
    obtain ⟨δ, rfl⟩ : Ext (w.alloc (.cells #[.slice A k c, .int .i64 p, .bool b] 86)) _ := Ext.trans (by (repeat' (first | with_reducible exact Ext.refl _ | with_reducible apply Ext.alloc | with_reducible apply Ext.drew | with_reducible apply Ext.drewN | with_reducible refine Ext.setCell ?_ ?_ _ | with_reducible apply Ext.step | with_reducible assumption | with_reducible exact Nat.le_refl _ | (simp; done) | (simp; omega)))) hx
    clear hx
    try (have hs0 := δ.lt (w.heap.size) (by first | (simp; done) | (simp; omega)))
    go_wp2_with fail
    refine (HG.out _ _ (by go_cell)).mono ?_
    rintro e _ ⟨rfl, hx⟩
    obtain ⟨δ, rfl⟩ : Ext (w.alloc (.cells #[.slice A k c, .int .i64 p, .bool b] 86)) _ := Ext.trans (by (repeat' (first | with_reducible exact Ext.refl _ | with_reducible apply Ext.alloc | with_reducible apply Ext.drew | with_reducible apply Ext.drewN | with_reducible refine Ext.setCell ?_ ?_ _ | with_reducible apply Ext.step | with_reducible assumption | with_reducible exact Nat.le_refl _ | (simp; done) | (simp; omega)))) hx
    clear hx
    try (have hs0 := δ.lt (w.heap.size) (by first | (simp; done) | (simp; omega)))
    go_wp2_with fail
    go_ret
    exact ⟨ret_b (by rw [HR.out]; rfl), by (repeat' (first | with_reducible exact Ext.refl _ | with_reducible apply Ext.alloc | with_reducible apply Ext.drew | with_reducible apply Ext.drewN | with_reducible refine Ext.setCell ?_ ?_ _ | with_reducible apply Ext.step | with_reducible assumption | with_reducible exact Nat.le_refl _ | (simp; done) | (simp; omega)))⟩

theorem cutsIs_at {w : World} {v : Value} {cs : List CutT} (h : CutsIs w v cs) : ∃ A c, v = .slice A cs.length c ∧ (A = none → c = 0) ∧ (cs.length ≤ c ∧ c ≤ maxLen) ∧ ∀ j (hj : j < cs.length), ∃ b o T, A = some ⟨b, o, none⟩ ∧ b < w.heap.size ∧ w.cell? ⟨b, o + j * 3, none⟩ = some (.slice T.1 T.2.1 T.2.2) ∧ w.cell? ⟨b, o + j * 3 + 1, none⟩ = some (.int .i64 cs[j].2.1) ∧ w.cell? ⟨b, o + j * 3 + 2, none⟩ = some (.bool cs[j].2.2) ∧ spotK.Is w (rowV T) cs[j].1 := by
  obtain ⟨Ts, ⟨A, c, hv, h0, hc, hr⟩, hl, hq⟩ := h
  refine ⟨A, c, by rw [hv, hl], h0, by rw [← hl]; exact hc, fun j hj => ?_⟩
  have hj' : j < Ts.length := by omega
  obtain ⟨b, o, hA, hb, hcell⟩ := hr j hj'
  obtain ⟨h1, h2⟩ := hq j hj' hj
  refine ⟨b, o, Ts[j].1, hA, hb, hcell 0 _ rfl, ?_, ?_, h1⟩
  · rw [← h2]; exact hcell 1 _ rfl
  · rw [← h2]; exact hcell 2 _ rfl

set_option maxRecDepth 100000 in
set_option maxHeartbeats 4000000 in
theorem indexCuts_any (v : Value) (cs : List CutT) (w : World) (hI : CutsIs w v cs) :
    Calls Try.prog 103 #[v, .func (.func 82) #[] #[]] w fun e w' => ∃ i : Int, e = .returned (.int .i64 i) ∧ ((0 ≤ i) ↔ cs.all cutB = false) ∧ Ext w w' := by
  obtain ⟨A, c, rfl, hA0, ⟨hc1, hc2⟩, hat⟩ := cutsIs_at hI
  unfold maxLen at hc2
  have HAT := Lib.hid hat
  obtain ⟨n, hn⟩ : ∃ n, n = cs.length := ⟨_, rfl⟩
  rw [← hn] at hc1 ⊢
  have HN := Lib.hid hn
  clear hat hI hn hA0
  go_enter Try.func103, Try.ntmps103
  go_wp2_with fail
  go_loopw [8, 5] (fun iv _ wr => ∃ j : Nat, j ≤ n ∧ iv = .int .i64 j ∧ Hid (∀ (q : Nat) (hq : q < cs.length), q < j → cutB cs[q] = true) ∧ Ext w wr) (fun iv _ _ => n - (intOf iv).toNat)
  case atStart => exact ⟨0, by omega, rfl, (fun q hq h => by omega), Ext.refl _⟩
  case round =>
    obtain ⟨j, hj, rfl, Ha, hx⟩ := hrel
    have HX := Lib.hid hx
    by_cases hlt : j < n
    · have hjl : j < cs.length := by rw [← HN.out]; exact hlt
      obtain ⟨b, o, T, rfl, hb, c0, c1, c2, hsp⟩ := HAT.out j hjl
      replace c0 := hx.cell_some c0
      replace c1 := hx.cell_some c1
      replace c2 := hx.cell_some c2
      have HS := Lib.hid (strange_any T cs[j].2.1 cs[j].2.2 cs[j].1 wr (hsp.ext hx))
      have lb := cell_lt c0
      have HCB := Lib.hid (show cutB (cs[j].1, cs[j].2.1, cs[j].2.2) = cutB cs[j] from rfl)
      rw [HCB.out] at HS
      generalize hp1 : cs[j].2.1 = p at *
      generalize hp2 : cs[j].2.2 = bb at *
      clear hp1 hp2 hsp hx
      cases hv : cutB cs[j]
      · have HA2 := Lib.hid (show cs.all cutB = false from not_all_at hjl hv)
        rw [hv] at HS
        clear hv
        go_wp2_with fail
        refine HS.out.mono ?_
        rintro e W2 ⟨rfl, x2⟩
        have HX2 := Lib.hid (HX.out.trans x2)
        clear x2
        go_wp2_with fail
        go_ret
        exact ⟨j, rfl, ⟨fun _ => HA2.out, fun _ => by omega⟩, HX2.out⟩
      · have HA2 := Lib.hid (show ∀ (q : Nat) (hq : q < cs.length), q < j + 1 → cutB cs[q] = true from fun q hq h => by
          rcases (by omega : q < j ∨ q = j) with h | rfl
          · exact Ha.out q hq h
          · exact hv)
        rw [hv] at HS
        clear hv
        go_wp2_with fail
        refine HS.out.mono ?_
        rintro e W2 ⟨rfl, x2⟩
        have HX2 := Lib.hid (HX.out.trans x2)
        clear x2
        go_wp2_with fail
        go_roundw
        case rel => exact ⟨j + 1, by omega, by go_num, HA2, HX2.out⟩
        case measure => simp [intOf]; omega
    · obtain rfl : j = n := by omega
      have HA2 := Lib.hid (show cs.all cutB = true from all_upto HN.out.symm Ha.out)
      clear hx
      go_wp2_with fail
      go_ret
      exact ⟨-1, rfl, ⟨fun h => absurd h (by omega), fun h => by rw [HA2.out] at h; cases h⟩, HX.out⟩
theorem containsCuts_any (v : Value) (cs : List CutT) (w : World) (hI : CutsIs w v cs) :
    Calls Try.prog 83 #[v, .func (.func 82) #[] #[]] w fun e w' => e = .returned (.bool (!cs.all cutB)) ∧ Ext w w' := by
  have H := Lib.hid (indexCuts_any v cs w hI)
  obtain ⟨A, c, rfl, _⟩ := cutsIs_at hI
  clear hI
  go_enter Try.func83, Try.ntmps83
  go_wp2_with fail
  refine H.out.mono ?_
  rintro e w1 ⟨i, rfl, hi, hx⟩
  have HX := Lib.hid hx
  have HI := Lib.hid hi
  clear hx hi
  go_wp2_with fail
  go_ret
  refine ⟨ret_b ?_, HX.out⟩
  by_cases h : 0 ≤ i
  · rw [HI.out.1 h]; simpa using h
  · cases ha : cs.all cutB
    · exact absurd (HI.out.2 ha) h
    · simpa using h

set_option maxRecDepth 100000 in
set_option maxHeartbeats 8000000 in
theorem check_any (k : WkT) (v : Value) (w : World) (hI : CutsIs w v k.cuts) :
    Calls Try.prog 39 #[k.val v] w fun e w' => e = .returned (.int .i64 (workE k)) ∧ Ext w w' := by
  have HC := Lib.hid fun (W : World) (x : Ext w W) => containsCuts_any v k.cuts W (hI.ext x)
  have HT := Lib.hid fun W : World => checkTool_any k.tip k.num k.den k.bite k.slack W
  obtain ⟨A, c, rfl, -, ⟨hcl, hcm⟩, -⟩ := cutsIs_at hI
  unfold maxLen at hcm
  clear hI
  obtain ⟨n, hn⟩ : ∃ n, n = k.cuts.length := ⟨_, rfl⟩
  rw [← hn] at HC hcl ⊢
  have HN := Lib.hid hn
  have hn63 : n ≤ 9223372036854775807 := by omega
  clear hn hcm hcl
  have HG1 := Lib.hid fun (b : Nat) (W : World) (h : W.cell? ⟨b, 0, none⟩ = some (.int .i64 k.wall)) => from_one b k.wall 1 1000 1 W h
  have HG2 := Lib.hid fun (b : Nat) (W : World) (h : W.cell? ⟨b, 0, none⟩ = some (.int .i64 k.deepest)) (h' : W.cell? ⟨b, 1, none⟩ = some (.int .i64 k.fd)) => from_two b k.deepest k.fd 0 20000 2 W h h'
  have HG3 := Lib.hid fun (b : Nat) (W : World) (h : W.cell? ⟨b, 0, none⟩ = some (.int .i64 k.play)) => from_one b k.play 0 100 1 W h
  have HG4 := Lib.hid fun (b : Nat) (W : World) (h : W.cell? ⟨b, 0, none⟩ = some (.int .i64 k.fx)) (h' : W.cell? ⟨b, 1, none⟩ = some (.int .i64 k.fy)) => from_two b k.fx k.fy (-1000) 1000 2 W h h'
  have HG5 := Lib.hid fun (b : Nat) (W : World) (h : W.cell? ⟨b, 0, none⟩ = some (.int .i64 k.fh)) => from_one b k.fh 0 1000 1 W h
  have HE := Lib.hid (show toolE k.tip k.num k.den k.bite k.slack = if toolB k.tip k.num k.den k.bite k.slack then 0 else 50 from rfl)
  have HB := Lib.hid (show workE k = if workB k then 0 else 51 from rfl)
  cases h1 : inB 1 1000 k.wall
  · have hf : fieldsB k = false := by unfold fieldsB; rw [h1]; simp
    rw [h1] at HG1
    have HR := Lib.hid (show workE k = 51 by rw [HB.out, workB, hf]; simp)
    clear h1 hf
    cases ht : toolB k.tip k.num k.den k.bite k.slack
    all_goals
      rw [toolE, ht] at HT
      first | rw [if_pos rfl] at HT | rw [if_neg (by decide)] at HT
      clear ht
      go_enter Try.func39, Try.ntmps39
      go_wp2_with fail
      refine (HG1.out _ _ (by go_cell)).mono ?_
      rintro e _ ⟨rfl, hx⟩
      obtain ⟨δ, rfl⟩ : Ext ((w.alloc (.cells #[.int .i64 k.tip, .int .i64 k.num, .int .i64 k.den, .int .i64 k.bite, .int .i64 k.slack, .int .i64 k.wall, .int .i64 k.deepest, .int .i64 k.play, .int .i64 k.fx, .int .i64 k.fy, .int .i64 k.fh, .int .i64 k.fd, .slice A n c] 59))) _ := Ext.trans (by (repeat' (first | with_reducible exact Ext.refl _ | with_reducible apply Ext.alloc | with_reducible apply Ext.drew | with_reducible apply Ext.drewN | with_reducible refine Ext.setCell ?_ ?_ _ | with_reducible apply Ext.step | with_reducible assumption | with_reducible exact Nat.le_refl _ | (simp; done) | (simp; omega)))) hx
      clear hx
      try (have hs0 := δ.lt (w.heap.size) (by first | (simp; done) | (simp; omega)))
      go_wp2_with fail
      refine (HT.out _).mono ?_
      rintro e _ ⟨rfl, hx⟩
      obtain ⟨δ, rfl⟩ : Ext ((w.alloc (.cells #[.int .i64 k.tip, .int .i64 k.num, .int .i64 k.den, .int .i64 k.bite, .int .i64 k.slack, .int .i64 k.wall, .int .i64 k.deepest, .int .i64 k.play, .int .i64 k.fx, .int .i64 k.fy, .int .i64 k.fh, .int .i64 k.fd, .slice A n c] 59))) _ := Ext.trans (by (repeat' (first | with_reducible exact Ext.refl _ | with_reducible apply Ext.alloc | with_reducible apply Ext.drew | with_reducible apply Ext.drewN | with_reducible refine Ext.setCell ?_ ?_ _ | with_reducible apply Ext.step | with_reducible assumption | with_reducible exact Nat.le_refl _ | (simp; done) | (simp; omega)))) hx
      clear hx
      try (have hs0 := δ.lt (w.heap.size) (by first | (simp; done) | (simp; omega)))
      go_wp2_with fail
      go_ret
      exact ⟨by first | (rw [HR.out]; done) | (rw [HR.out]; rfl), by (repeat' (first | with_reducible exact Ext.refl _ | with_reducible apply Ext.alloc | with_reducible apply Ext.drew | with_reducible apply Ext.drewN | with_reducible refine Ext.setCell ?_ ?_ _ | with_reducible apply Ext.step | with_reducible assumption | with_reducible exact Nat.le_refl _ | (simp; done) | (simp; omega)))⟩
  cases h2 : (inB 0 20000 k.deepest && inB 0 20000 k.fd)
  · have hf : fieldsB k = false := by unfold fieldsB; rw [h2]; simp
    rw [h1] at HG1
    rw [h2] at HG2
    have HR := Lib.hid (show workE k = 51 by rw [HB.out, workB, hf]; simp)
    clear h1 h2 hf
    cases ht : toolB k.tip k.num k.den k.bite k.slack
    all_goals
      rw [toolE, ht] at HT
      first | rw [if_pos rfl] at HT | rw [if_neg (by decide)] at HT
      clear ht
      go_enter Try.func39, Try.ntmps39
      go_wp2_with fail
      refine (HG1.out _ _ (by go_cell)).mono ?_
      rintro e _ ⟨rfl, hx⟩
      obtain ⟨δ, rfl⟩ : Ext ((w.alloc (.cells #[.int .i64 k.tip, .int .i64 k.num, .int .i64 k.den, .int .i64 k.bite, .int .i64 k.slack, .int .i64 k.wall, .int .i64 k.deepest, .int .i64 k.play, .int .i64 k.fx, .int .i64 k.fy, .int .i64 k.fh, .int .i64 k.fd, .slice A n c] 59))) _ := Ext.trans (by (repeat' (first | with_reducible exact Ext.refl _ | with_reducible apply Ext.alloc | with_reducible apply Ext.drew | with_reducible apply Ext.drewN | with_reducible refine Ext.setCell ?_ ?_ _ | with_reducible apply Ext.step | with_reducible assumption | with_reducible exact Nat.le_refl _ | (simp; done) | (simp; omega)))) hx
      clear hx
      try (have hs0 := δ.lt (w.heap.size) (by first | (simp; done) | (simp; omega)))
      go_wp2_with fail
      refine (HG2.out _ _ (by go_cell) (by go_cell)).mono ?_
      rintro e _ ⟨rfl, hx⟩
      obtain ⟨δ, rfl⟩ : Ext ((w.alloc (.cells #[.int .i64 k.tip, .int .i64 k.num, .int .i64 k.den, .int .i64 k.bite, .int .i64 k.slack, .int .i64 k.wall, .int .i64 k.deepest, .int .i64 k.play, .int .i64 k.fx, .int .i64 k.fy, .int .i64 k.fh, .int .i64 k.fd, .slice A n c] 59))) _ := Ext.trans (by (repeat' (first | with_reducible exact Ext.refl _ | with_reducible apply Ext.alloc | with_reducible apply Ext.drew | with_reducible apply Ext.drewN | with_reducible refine Ext.setCell ?_ ?_ _ | with_reducible apply Ext.step | with_reducible assumption | with_reducible exact Nat.le_refl _ | (simp; done) | (simp; omega)))) hx
      clear hx
      try (have hs0 := δ.lt (w.heap.size) (by first | (simp; done) | (simp; omega)))
      go_wp2_with fail
      refine (HT.out _).mono ?_
      rintro e _ ⟨rfl, hx⟩
      obtain ⟨δ, rfl⟩ : Ext ((w.alloc (.cells #[.int .i64 k.tip, .int .i64 k.num, .int .i64 k.den, .int .i64 k.bite, .int .i64 k.slack, .int .i64 k.wall, .int .i64 k.deepest, .int .i64 k.play, .int .i64 k.fx, .int .i64 k.fy, .int .i64 k.fh, .int .i64 k.fd, .slice A n c] 59))) _ := Ext.trans (by (repeat' (first | with_reducible exact Ext.refl _ | with_reducible apply Ext.alloc | with_reducible apply Ext.drew | with_reducible apply Ext.drewN | with_reducible refine Ext.setCell ?_ ?_ _ | with_reducible apply Ext.step | with_reducible assumption | with_reducible exact Nat.le_refl _ | (simp; done) | (simp; omega)))) hx
      clear hx
      try (have hs0 := δ.lt (w.heap.size) (by first | (simp; done) | (simp; omega)))
      go_wp2_with fail
      go_ret
      exact ⟨by first | (rw [HR.out]; done) | (rw [HR.out]; rfl), by (repeat' (first | with_reducible exact Ext.refl _ | with_reducible apply Ext.alloc | with_reducible apply Ext.drew | with_reducible apply Ext.drewN | with_reducible refine Ext.setCell ?_ ?_ _ | with_reducible apply Ext.step | with_reducible assumption | with_reducible exact Nat.le_refl _ | (simp; done) | (simp; omega)))⟩
  cases h3 : inB 0 100 k.play
  · have hf : fieldsB k = false := by unfold fieldsB; rw [h3]; simp
    rw [h1] at HG1
    rw [h2] at HG2
    rw [h3] at HG3
    have HR := Lib.hid (show workE k = 51 by rw [HB.out, workB, hf]; simp)
    clear h1 h2 h3 hf
    cases ht : toolB k.tip k.num k.den k.bite k.slack
    all_goals
      rw [toolE, ht] at HT
      first | rw [if_pos rfl] at HT | rw [if_neg (by decide)] at HT
      clear ht
      go_enter Try.func39, Try.ntmps39
      go_wp2_with fail
      refine (HG1.out _ _ (by go_cell)).mono ?_
      rintro e _ ⟨rfl, hx⟩
      obtain ⟨δ, rfl⟩ : Ext ((w.alloc (.cells #[.int .i64 k.tip, .int .i64 k.num, .int .i64 k.den, .int .i64 k.bite, .int .i64 k.slack, .int .i64 k.wall, .int .i64 k.deepest, .int .i64 k.play, .int .i64 k.fx, .int .i64 k.fy, .int .i64 k.fh, .int .i64 k.fd, .slice A n c] 59))) _ := Ext.trans (by (repeat' (first | with_reducible exact Ext.refl _ | with_reducible apply Ext.alloc | with_reducible apply Ext.drew | with_reducible apply Ext.drewN | with_reducible refine Ext.setCell ?_ ?_ _ | with_reducible apply Ext.step | with_reducible assumption | with_reducible exact Nat.le_refl _ | (simp; done) | (simp; omega)))) hx
      clear hx
      try (have hs0 := δ.lt (w.heap.size) (by first | (simp; done) | (simp; omega)))
      go_wp2_with fail
      refine (HG2.out _ _ (by go_cell) (by go_cell)).mono ?_
      rintro e _ ⟨rfl, hx⟩
      obtain ⟨δ, rfl⟩ : Ext ((w.alloc (.cells #[.int .i64 k.tip, .int .i64 k.num, .int .i64 k.den, .int .i64 k.bite, .int .i64 k.slack, .int .i64 k.wall, .int .i64 k.deepest, .int .i64 k.play, .int .i64 k.fx, .int .i64 k.fy, .int .i64 k.fh, .int .i64 k.fd, .slice A n c] 59))) _ := Ext.trans (by (repeat' (first | with_reducible exact Ext.refl _ | with_reducible apply Ext.alloc | with_reducible apply Ext.drew | with_reducible apply Ext.drewN | with_reducible refine Ext.setCell ?_ ?_ _ | with_reducible apply Ext.step | with_reducible assumption | with_reducible exact Nat.le_refl _ | (simp; done) | (simp; omega)))) hx
      clear hx
      try (have hs0 := δ.lt (w.heap.size) (by first | (simp; done) | (simp; omega)))
      go_wp2_with fail
      refine (HG3.out _ _ (by go_cell)).mono ?_
      rintro e _ ⟨rfl, hx⟩
      obtain ⟨δ, rfl⟩ : Ext ((w.alloc (.cells #[.int .i64 k.tip, .int .i64 k.num, .int .i64 k.den, .int .i64 k.bite, .int .i64 k.slack, .int .i64 k.wall, .int .i64 k.deepest, .int .i64 k.play, .int .i64 k.fx, .int .i64 k.fy, .int .i64 k.fh, .int .i64 k.fd, .slice A n c] 59))) _ := Ext.trans (by (repeat' (first | with_reducible exact Ext.refl _ | with_reducible apply Ext.alloc | with_reducible apply Ext.drew | with_reducible apply Ext.drewN | with_reducible refine Ext.setCell ?_ ?_ _ | with_reducible apply Ext.step | with_reducible assumption | with_reducible exact Nat.le_refl _ | (simp; done) | (simp; omega)))) hx
      clear hx
      try (have hs0 := δ.lt (w.heap.size) (by first | (simp; done) | (simp; omega)))
      go_wp2_with fail
      refine (HT.out _).mono ?_
      rintro e _ ⟨rfl, hx⟩
      obtain ⟨δ, rfl⟩ : Ext ((w.alloc (.cells #[.int .i64 k.tip, .int .i64 k.num, .int .i64 k.den, .int .i64 k.bite, .int .i64 k.slack, .int .i64 k.wall, .int .i64 k.deepest, .int .i64 k.play, .int .i64 k.fx, .int .i64 k.fy, .int .i64 k.fh, .int .i64 k.fd, .slice A n c] 59))) _ := Ext.trans (by (repeat' (first | with_reducible exact Ext.refl _ | with_reducible apply Ext.alloc | with_reducible apply Ext.drew | with_reducible apply Ext.drewN | with_reducible refine Ext.setCell ?_ ?_ _ | with_reducible apply Ext.step | with_reducible assumption | with_reducible exact Nat.le_refl _ | (simp; done) | (simp; omega)))) hx
      clear hx
      try (have hs0 := δ.lt (w.heap.size) (by first | (simp; done) | (simp; omega)))
      go_wp2_with fail
      go_ret
      exact ⟨by first | (rw [HR.out]; done) | (rw [HR.out]; rfl), by (repeat' (first | with_reducible exact Ext.refl _ | with_reducible apply Ext.alloc | with_reducible apply Ext.drew | with_reducible apply Ext.drewN | with_reducible refine Ext.setCell ?_ ?_ _ | with_reducible apply Ext.step | with_reducible assumption | with_reducible exact Nat.le_refl _ | (simp; done) | (simp; omega)))⟩
  cases h4 : (inB (-1000) 1000 k.fx && inB (-1000) 1000 k.fy)
  · have hf : fieldsB k = false := by unfold fieldsB; rw [h4]; simp
    rw [h1] at HG1
    rw [h2] at HG2
    rw [h3] at HG3
    rw [h4] at HG4
    have HR := Lib.hid (show workE k = 51 by rw [HB.out, workB, hf]; simp)
    clear h1 h2 h3 h4 hf
    cases ht : toolB k.tip k.num k.den k.bite k.slack
    all_goals
      rw [toolE, ht] at HT
      first | rw [if_pos rfl] at HT | rw [if_neg (by decide)] at HT
      clear ht
      go_enter Try.func39, Try.ntmps39
      go_wp2_with fail
      refine (HG1.out _ _ (by go_cell)).mono ?_
      rintro e _ ⟨rfl, hx⟩
      obtain ⟨δ, rfl⟩ : Ext ((w.alloc (.cells #[.int .i64 k.tip, .int .i64 k.num, .int .i64 k.den, .int .i64 k.bite, .int .i64 k.slack, .int .i64 k.wall, .int .i64 k.deepest, .int .i64 k.play, .int .i64 k.fx, .int .i64 k.fy, .int .i64 k.fh, .int .i64 k.fd, .slice A n c] 59))) _ := Ext.trans (by (repeat' (first | with_reducible exact Ext.refl _ | with_reducible apply Ext.alloc | with_reducible apply Ext.drew | with_reducible apply Ext.drewN | with_reducible refine Ext.setCell ?_ ?_ _ | with_reducible apply Ext.step | with_reducible assumption | with_reducible exact Nat.le_refl _ | (simp; done) | (simp; omega)))) hx
      clear hx
      try (have hs0 := δ.lt (w.heap.size) (by first | (simp; done) | (simp; omega)))
      go_wp2_with fail
      refine (HG2.out _ _ (by go_cell) (by go_cell)).mono ?_
      rintro e _ ⟨rfl, hx⟩
      obtain ⟨δ, rfl⟩ : Ext ((w.alloc (.cells #[.int .i64 k.tip, .int .i64 k.num, .int .i64 k.den, .int .i64 k.bite, .int .i64 k.slack, .int .i64 k.wall, .int .i64 k.deepest, .int .i64 k.play, .int .i64 k.fx, .int .i64 k.fy, .int .i64 k.fh, .int .i64 k.fd, .slice A n c] 59))) _ := Ext.trans (by (repeat' (first | with_reducible exact Ext.refl _ | with_reducible apply Ext.alloc | with_reducible apply Ext.drew | with_reducible apply Ext.drewN | with_reducible refine Ext.setCell ?_ ?_ _ | with_reducible apply Ext.step | with_reducible assumption | with_reducible exact Nat.le_refl _ | (simp; done) | (simp; omega)))) hx
      clear hx
      try (have hs0 := δ.lt (w.heap.size) (by first | (simp; done) | (simp; omega)))
      go_wp2_with fail
      refine (HG3.out _ _ (by go_cell)).mono ?_
      rintro e _ ⟨rfl, hx⟩
      obtain ⟨δ, rfl⟩ : Ext ((w.alloc (.cells #[.int .i64 k.tip, .int .i64 k.num, .int .i64 k.den, .int .i64 k.bite, .int .i64 k.slack, .int .i64 k.wall, .int .i64 k.deepest, .int .i64 k.play, .int .i64 k.fx, .int .i64 k.fy, .int .i64 k.fh, .int .i64 k.fd, .slice A n c] 59))) _ := Ext.trans (by (repeat' (first | with_reducible exact Ext.refl _ | with_reducible apply Ext.alloc | with_reducible apply Ext.drew | with_reducible apply Ext.drewN | with_reducible refine Ext.setCell ?_ ?_ _ | with_reducible apply Ext.step | with_reducible assumption | with_reducible exact Nat.le_refl _ | (simp; done) | (simp; omega)))) hx
      clear hx
      try (have hs0 := δ.lt (w.heap.size) (by first | (simp; done) | (simp; omega)))
      go_wp2_with fail
      refine (HG4.out _ _ (by go_cell) (by go_cell)).mono ?_
      rintro e _ ⟨rfl, hx⟩
      obtain ⟨δ, rfl⟩ : Ext ((w.alloc (.cells #[.int .i64 k.tip, .int .i64 k.num, .int .i64 k.den, .int .i64 k.bite, .int .i64 k.slack, .int .i64 k.wall, .int .i64 k.deepest, .int .i64 k.play, .int .i64 k.fx, .int .i64 k.fy, .int .i64 k.fh, .int .i64 k.fd, .slice A n c] 59))) _ := Ext.trans (by (repeat' (first | with_reducible exact Ext.refl _ | with_reducible apply Ext.alloc | with_reducible apply Ext.drew | with_reducible apply Ext.drewN | with_reducible refine Ext.setCell ?_ ?_ _ | with_reducible apply Ext.step | with_reducible assumption | with_reducible exact Nat.le_refl _ | (simp; done) | (simp; omega)))) hx
      clear hx
      try (have hs0 := δ.lt (w.heap.size) (by first | (simp; done) | (simp; omega)))
      go_wp2_with fail
      refine (HT.out _).mono ?_
      rintro e _ ⟨rfl, hx⟩
      obtain ⟨δ, rfl⟩ : Ext ((w.alloc (.cells #[.int .i64 k.tip, .int .i64 k.num, .int .i64 k.den, .int .i64 k.bite, .int .i64 k.slack, .int .i64 k.wall, .int .i64 k.deepest, .int .i64 k.play, .int .i64 k.fx, .int .i64 k.fy, .int .i64 k.fh, .int .i64 k.fd, .slice A n c] 59))) _ := Ext.trans (by (repeat' (first | with_reducible exact Ext.refl _ | with_reducible apply Ext.alloc | with_reducible apply Ext.drew | with_reducible apply Ext.drewN | with_reducible refine Ext.setCell ?_ ?_ _ | with_reducible apply Ext.step | with_reducible assumption | with_reducible exact Nat.le_refl _ | (simp; done) | (simp; omega)))) hx
      clear hx
      try (have hs0 := δ.lt (w.heap.size) (by first | (simp; done) | (simp; omega)))
      go_wp2_with fail
      go_ret
      exact ⟨by first | (rw [HR.out]; done) | (rw [HR.out]; rfl), by (repeat' (first | with_reducible exact Ext.refl _ | with_reducible apply Ext.alloc | with_reducible apply Ext.drew | with_reducible apply Ext.drewN | with_reducible refine Ext.setCell ?_ ?_ _ | with_reducible apply Ext.step | with_reducible assumption | with_reducible exact Nat.le_refl _ | (simp; done) | (simp; omega)))⟩
  cases h5 : inB 0 1000 k.fh
  · have hf : fieldsB k = false := by unfold fieldsB; rw [h5]; simp
    rw [h1] at HG1
    rw [h2] at HG2
    rw [h3] at HG3
    rw [h4] at HG4
    rw [h5] at HG5
    have HR := Lib.hid (show workE k = 51 by rw [HB.out, workB, hf]; simp)
    clear h1 h2 h3 h4 h5 hf
    cases ht : toolB k.tip k.num k.den k.bite k.slack
    all_goals
      rw [toolE, ht] at HT
      first | rw [if_pos rfl] at HT | rw [if_neg (by decide)] at HT
      clear ht
      go_enter Try.func39, Try.ntmps39
      go_wp2_with fail
      refine (HG1.out _ _ (by go_cell)).mono ?_
      rintro e _ ⟨rfl, hx⟩
      obtain ⟨δ, rfl⟩ : Ext ((w.alloc (.cells #[.int .i64 k.tip, .int .i64 k.num, .int .i64 k.den, .int .i64 k.bite, .int .i64 k.slack, .int .i64 k.wall, .int .i64 k.deepest, .int .i64 k.play, .int .i64 k.fx, .int .i64 k.fy, .int .i64 k.fh, .int .i64 k.fd, .slice A n c] 59))) _ := Ext.trans (by (repeat' (first | with_reducible exact Ext.refl _ | with_reducible apply Ext.alloc | with_reducible apply Ext.drew | with_reducible apply Ext.drewN | with_reducible refine Ext.setCell ?_ ?_ _ | with_reducible apply Ext.step | with_reducible assumption | with_reducible exact Nat.le_refl _ | (simp; done) | (simp; omega)))) hx
      clear hx
      try (have hs0 := δ.lt (w.heap.size) (by first | (simp; done) | (simp; omega)))
      go_wp2_with fail
      refine (HG2.out _ _ (by go_cell) (by go_cell)).mono ?_
      rintro e _ ⟨rfl, hx⟩
      obtain ⟨δ, rfl⟩ : Ext ((w.alloc (.cells #[.int .i64 k.tip, .int .i64 k.num, .int .i64 k.den, .int .i64 k.bite, .int .i64 k.slack, .int .i64 k.wall, .int .i64 k.deepest, .int .i64 k.play, .int .i64 k.fx, .int .i64 k.fy, .int .i64 k.fh, .int .i64 k.fd, .slice A n c] 59))) _ := Ext.trans (by (repeat' (first | with_reducible exact Ext.refl _ | with_reducible apply Ext.alloc | with_reducible apply Ext.drew | with_reducible apply Ext.drewN | with_reducible refine Ext.setCell ?_ ?_ _ | with_reducible apply Ext.step | with_reducible assumption | with_reducible exact Nat.le_refl _ | (simp; done) | (simp; omega)))) hx
      clear hx
      try (have hs0 := δ.lt (w.heap.size) (by first | (simp; done) | (simp; omega)))
      go_wp2_with fail
      refine (HG3.out _ _ (by go_cell)).mono ?_
      rintro e _ ⟨rfl, hx⟩
      obtain ⟨δ, rfl⟩ : Ext ((w.alloc (.cells #[.int .i64 k.tip, .int .i64 k.num, .int .i64 k.den, .int .i64 k.bite, .int .i64 k.slack, .int .i64 k.wall, .int .i64 k.deepest, .int .i64 k.play, .int .i64 k.fx, .int .i64 k.fy, .int .i64 k.fh, .int .i64 k.fd, .slice A n c] 59))) _ := Ext.trans (by (repeat' (first | with_reducible exact Ext.refl _ | with_reducible apply Ext.alloc | with_reducible apply Ext.drew | with_reducible apply Ext.drewN | with_reducible refine Ext.setCell ?_ ?_ _ | with_reducible apply Ext.step | with_reducible assumption | with_reducible exact Nat.le_refl _ | (simp; done) | (simp; omega)))) hx
      clear hx
      try (have hs0 := δ.lt (w.heap.size) (by first | (simp; done) | (simp; omega)))
      go_wp2_with fail
      refine (HG4.out _ _ (by go_cell) (by go_cell)).mono ?_
      rintro e _ ⟨rfl, hx⟩
      obtain ⟨δ, rfl⟩ : Ext ((w.alloc (.cells #[.int .i64 k.tip, .int .i64 k.num, .int .i64 k.den, .int .i64 k.bite, .int .i64 k.slack, .int .i64 k.wall, .int .i64 k.deepest, .int .i64 k.play, .int .i64 k.fx, .int .i64 k.fy, .int .i64 k.fh, .int .i64 k.fd, .slice A n c] 59))) _ := Ext.trans (by (repeat' (first | with_reducible exact Ext.refl _ | with_reducible apply Ext.alloc | with_reducible apply Ext.drew | with_reducible apply Ext.drewN | with_reducible refine Ext.setCell ?_ ?_ _ | with_reducible apply Ext.step | with_reducible assumption | with_reducible exact Nat.le_refl _ | (simp; done) | (simp; omega)))) hx
      clear hx
      try (have hs0 := δ.lt (w.heap.size) (by first | (simp; done) | (simp; omega)))
      go_wp2_with fail
      refine (HG5.out _ _ (by go_cell)).mono ?_
      rintro e _ ⟨rfl, hx⟩
      obtain ⟨δ, rfl⟩ : Ext ((w.alloc (.cells #[.int .i64 k.tip, .int .i64 k.num, .int .i64 k.den, .int .i64 k.bite, .int .i64 k.slack, .int .i64 k.wall, .int .i64 k.deepest, .int .i64 k.play, .int .i64 k.fx, .int .i64 k.fy, .int .i64 k.fh, .int .i64 k.fd, .slice A n c] 59))) _ := Ext.trans (by (repeat' (first | with_reducible exact Ext.refl _ | with_reducible apply Ext.alloc | with_reducible apply Ext.drew | with_reducible apply Ext.drewN | with_reducible refine Ext.setCell ?_ ?_ _ | with_reducible apply Ext.step | with_reducible assumption | with_reducible exact Nat.le_refl _ | (simp; done) | (simp; omega)))) hx
      clear hx
      try (have hs0 := δ.lt (w.heap.size) (by first | (simp; done) | (simp; omega)))
      go_wp2_with fail
      refine (HT.out _).mono ?_
      rintro e _ ⟨rfl, hx⟩
      obtain ⟨δ, rfl⟩ : Ext ((w.alloc (.cells #[.int .i64 k.tip, .int .i64 k.num, .int .i64 k.den, .int .i64 k.bite, .int .i64 k.slack, .int .i64 k.wall, .int .i64 k.deepest, .int .i64 k.play, .int .i64 k.fx, .int .i64 k.fy, .int .i64 k.fh, .int .i64 k.fd, .slice A n c] 59))) _ := Ext.trans (by (repeat' (first | with_reducible exact Ext.refl _ | with_reducible apply Ext.alloc | with_reducible apply Ext.drew | with_reducible apply Ext.drewN | with_reducible refine Ext.setCell ?_ ?_ _ | with_reducible apply Ext.step | with_reducible assumption | with_reducible exact Nat.le_refl _ | (simp; done) | (simp; omega)))) hx
      clear hx
      try (have hs0 := δ.lt (w.heap.size) (by first | (simp; done) | (simp; omega)))
      go_wp2_with fail
      go_ret
      exact ⟨by first | (rw [HR.out]; done) | (rw [HR.out]; rfl), by (repeat' (first | with_reducible exact Ext.refl _ | with_reducible apply Ext.alloc | with_reducible apply Ext.drew | with_reducible apply Ext.drewN | with_reducible refine Ext.setCell ?_ ?_ _ | with_reducible apply Ext.step | with_reducible assumption | with_reducible exact Nat.le_refl _ | (simp; done) | (simp; omega)))⟩
  have hf : fieldsB k = true := by unfold fieldsB; rw [h1, h2, h3, h4, h5]; rfl
  rw [h1] at HG1
  rw [h2] at HG2
  rw [h3] at HG3
  rw [h4] at HG4
  rw [h5] at HG5
  clear h1 h2 h3 h4 h5
  cases ht : toolB k.tip k.num k.den k.bite k.slack
  · have HR := Lib.hid (show workE k = 51 by rw [HB.out, workB, ht]; simp)
    rw [toolE, ht] at HT
    rw [if_neg (by decide)] at HT
    clear ht hf
    go_enter Try.func39, Try.ntmps39
    go_wp2_with fail
    refine (HG1.out _ _ (by go_cell)).mono ?_
    rintro e _ ⟨rfl, hx⟩
    obtain ⟨δ, rfl⟩ : Ext ((w.alloc (.cells #[.int .i64 k.tip, .int .i64 k.num, .int .i64 k.den, .int .i64 k.bite, .int .i64 k.slack, .int .i64 k.wall, .int .i64 k.deepest, .int .i64 k.play, .int .i64 k.fx, .int .i64 k.fy, .int .i64 k.fh, .int .i64 k.fd, .slice A n c] 59))) _ := Ext.trans (by (repeat' (first | with_reducible exact Ext.refl _ | with_reducible apply Ext.alloc | with_reducible apply Ext.drew | with_reducible apply Ext.drewN | with_reducible refine Ext.setCell ?_ ?_ _ | with_reducible apply Ext.step | with_reducible assumption | with_reducible exact Nat.le_refl _ | (simp; done) | (simp; omega)))) hx
    clear hx
    try (have hs0 := δ.lt (w.heap.size) (by first | (simp; done) | (simp; omega)))
    go_wp2_with fail
    refine (HG2.out _ _ (by go_cell) (by go_cell)).mono ?_
    rintro e _ ⟨rfl, hx⟩
    obtain ⟨δ, rfl⟩ : Ext ((w.alloc (.cells #[.int .i64 k.tip, .int .i64 k.num, .int .i64 k.den, .int .i64 k.bite, .int .i64 k.slack, .int .i64 k.wall, .int .i64 k.deepest, .int .i64 k.play, .int .i64 k.fx, .int .i64 k.fy, .int .i64 k.fh, .int .i64 k.fd, .slice A n c] 59))) _ := Ext.trans (by (repeat' (first | with_reducible exact Ext.refl _ | with_reducible apply Ext.alloc | with_reducible apply Ext.drew | with_reducible apply Ext.drewN | with_reducible refine Ext.setCell ?_ ?_ _ | with_reducible apply Ext.step | with_reducible assumption | with_reducible exact Nat.le_refl _ | (simp; done) | (simp; omega)))) hx
    clear hx
    try (have hs0 := δ.lt (w.heap.size) (by first | (simp; done) | (simp; omega)))
    go_wp2_with fail
    refine (HG3.out _ _ (by go_cell)).mono ?_
    rintro e _ ⟨rfl, hx⟩
    obtain ⟨δ, rfl⟩ : Ext ((w.alloc (.cells #[.int .i64 k.tip, .int .i64 k.num, .int .i64 k.den, .int .i64 k.bite, .int .i64 k.slack, .int .i64 k.wall, .int .i64 k.deepest, .int .i64 k.play, .int .i64 k.fx, .int .i64 k.fy, .int .i64 k.fh, .int .i64 k.fd, .slice A n c] 59))) _ := Ext.trans (by (repeat' (first | with_reducible exact Ext.refl _ | with_reducible apply Ext.alloc | with_reducible apply Ext.drew | with_reducible apply Ext.drewN | with_reducible refine Ext.setCell ?_ ?_ _ | with_reducible apply Ext.step | with_reducible assumption | with_reducible exact Nat.le_refl _ | (simp; done) | (simp; omega)))) hx
    clear hx
    try (have hs0 := δ.lt (w.heap.size) (by first | (simp; done) | (simp; omega)))
    go_wp2_with fail
    refine (HG4.out _ _ (by go_cell) (by go_cell)).mono ?_
    rintro e _ ⟨rfl, hx⟩
    obtain ⟨δ, rfl⟩ : Ext ((w.alloc (.cells #[.int .i64 k.tip, .int .i64 k.num, .int .i64 k.den, .int .i64 k.bite, .int .i64 k.slack, .int .i64 k.wall, .int .i64 k.deepest, .int .i64 k.play, .int .i64 k.fx, .int .i64 k.fy, .int .i64 k.fh, .int .i64 k.fd, .slice A n c] 59))) _ := Ext.trans (by (repeat' (first | with_reducible exact Ext.refl _ | with_reducible apply Ext.alloc | with_reducible apply Ext.drew | with_reducible apply Ext.drewN | with_reducible refine Ext.setCell ?_ ?_ _ | with_reducible apply Ext.step | with_reducible assumption | with_reducible exact Nat.le_refl _ | (simp; done) | (simp; omega)))) hx
    clear hx
    try (have hs0 := δ.lt (w.heap.size) (by first | (simp; done) | (simp; omega)))
    go_wp2_with fail
    refine (HG5.out _ _ (by go_cell)).mono ?_
    rintro e _ ⟨rfl, hx⟩
    obtain ⟨δ, rfl⟩ : Ext ((w.alloc (.cells #[.int .i64 k.tip, .int .i64 k.num, .int .i64 k.den, .int .i64 k.bite, .int .i64 k.slack, .int .i64 k.wall, .int .i64 k.deepest, .int .i64 k.play, .int .i64 k.fx, .int .i64 k.fy, .int .i64 k.fh, .int .i64 k.fd, .slice A n c] 59))) _ := Ext.trans (by (repeat' (first | with_reducible exact Ext.refl _ | with_reducible apply Ext.alloc | with_reducible apply Ext.drew | with_reducible apply Ext.drewN | with_reducible refine Ext.setCell ?_ ?_ _ | with_reducible apply Ext.step | with_reducible assumption | with_reducible exact Nat.le_refl _ | (simp; done) | (simp; omega)))) hx
    clear hx
    try (have hs0 := δ.lt (w.heap.size) (by first | (simp; done) | (simp; omega)))
    go_wp2_with fail
    refine (HT.out _).mono ?_
    rintro e _ ⟨rfl, hx⟩
    obtain ⟨δ, rfl⟩ : Ext ((w.alloc (.cells #[.int .i64 k.tip, .int .i64 k.num, .int .i64 k.den, .int .i64 k.bite, .int .i64 k.slack, .int .i64 k.wall, .int .i64 k.deepest, .int .i64 k.play, .int .i64 k.fx, .int .i64 k.fy, .int .i64 k.fh, .int .i64 k.fd, .slice A n c] 59))) _ := Ext.trans (by (repeat' (first | with_reducible exact Ext.refl _ | with_reducible apply Ext.alloc | with_reducible apply Ext.drew | with_reducible apply Ext.drewN | with_reducible refine Ext.setCell ?_ ?_ _ | with_reducible apply Ext.step | with_reducible assumption | with_reducible exact Nat.le_refl _ | (simp; done) | (simp; omega)))) hx
    clear hx
    try (have hs0 := δ.lt (w.heap.size) (by first | (simp; done) | (simp; omega)))
    go_wp2_with fail
    go_ret
    exact ⟨by first | (rw [HR.out]; done) | (rw [HR.out]; rfl), by (repeat' (first | with_reducible exact Ext.refl _ | with_reducible apply Ext.alloc | with_reducible apply Ext.drew | with_reducible apply Ext.drewN | with_reducible refine Ext.setCell ?_ ?_ _ | with_reducible apply Ext.step | with_reducible assumption | with_reducible exact Nat.le_refl _ | (simp; done) | (simp; omega)))⟩
  rw [toolE, ht] at HT
  rw [if_pos rfl] at HT
  by_cases hl : 16 < n
  · have HR := Lib.hid (show workE k = 51 by
      have : decide (k.cuts.length ≤ 16) = false := by have := HN.out; simp; omega
      rw [HB.out, workB, this]; simp)
    have hld : decide ((16 : Int) < (n : Int)) = true := by simp; omega
    clear ht hf hl
    go_enter Try.func39, Try.ntmps39
    go_wp2_with fail
    refine (HG1.out _ _ (by go_cell)).mono ?_
    rintro e _ ⟨rfl, hx⟩
    obtain ⟨δ, rfl⟩ : Ext ((w.alloc (.cells #[.int .i64 k.tip, .int .i64 k.num, .int .i64 k.den, .int .i64 k.bite, .int .i64 k.slack, .int .i64 k.wall, .int .i64 k.deepest, .int .i64 k.play, .int .i64 k.fx, .int .i64 k.fy, .int .i64 k.fh, .int .i64 k.fd, .slice A n c] 59))) _ := Ext.trans (by (repeat' (first | with_reducible exact Ext.refl _ | with_reducible apply Ext.alloc | with_reducible apply Ext.drew | with_reducible apply Ext.drewN | with_reducible refine Ext.setCell ?_ ?_ _ | with_reducible apply Ext.step | with_reducible assumption | with_reducible exact Nat.le_refl _ | (simp; done) | (simp; omega)))) hx
    clear hx
    try (have hs0 := δ.lt (w.heap.size) (by first | (simp; done) | (simp; omega)))
    go_wp2_with fail
    refine (HG2.out _ _ (by go_cell) (by go_cell)).mono ?_
    rintro e _ ⟨rfl, hx⟩
    obtain ⟨δ, rfl⟩ : Ext ((w.alloc (.cells #[.int .i64 k.tip, .int .i64 k.num, .int .i64 k.den, .int .i64 k.bite, .int .i64 k.slack, .int .i64 k.wall, .int .i64 k.deepest, .int .i64 k.play, .int .i64 k.fx, .int .i64 k.fy, .int .i64 k.fh, .int .i64 k.fd, .slice A n c] 59))) _ := Ext.trans (by (repeat' (first | with_reducible exact Ext.refl _ | with_reducible apply Ext.alloc | with_reducible apply Ext.drew | with_reducible apply Ext.drewN | with_reducible refine Ext.setCell ?_ ?_ _ | with_reducible apply Ext.step | with_reducible assumption | with_reducible exact Nat.le_refl _ | (simp; done) | (simp; omega)))) hx
    clear hx
    try (have hs0 := δ.lt (w.heap.size) (by first | (simp; done) | (simp; omega)))
    go_wp2_with fail
    refine (HG3.out _ _ (by go_cell)).mono ?_
    rintro e _ ⟨rfl, hx⟩
    obtain ⟨δ, rfl⟩ : Ext ((w.alloc (.cells #[.int .i64 k.tip, .int .i64 k.num, .int .i64 k.den, .int .i64 k.bite, .int .i64 k.slack, .int .i64 k.wall, .int .i64 k.deepest, .int .i64 k.play, .int .i64 k.fx, .int .i64 k.fy, .int .i64 k.fh, .int .i64 k.fd, .slice A n c] 59))) _ := Ext.trans (by (repeat' (first | with_reducible exact Ext.refl _ | with_reducible apply Ext.alloc | with_reducible apply Ext.drew | with_reducible apply Ext.drewN | with_reducible refine Ext.setCell ?_ ?_ _ | with_reducible apply Ext.step | with_reducible assumption | with_reducible exact Nat.le_refl _ | (simp; done) | (simp; omega)))) hx
    clear hx
    try (have hs0 := δ.lt (w.heap.size) (by first | (simp; done) | (simp; omega)))
    go_wp2_with fail
    refine (HG4.out _ _ (by go_cell) (by go_cell)).mono ?_
    rintro e _ ⟨rfl, hx⟩
    obtain ⟨δ, rfl⟩ : Ext ((w.alloc (.cells #[.int .i64 k.tip, .int .i64 k.num, .int .i64 k.den, .int .i64 k.bite, .int .i64 k.slack, .int .i64 k.wall, .int .i64 k.deepest, .int .i64 k.play, .int .i64 k.fx, .int .i64 k.fy, .int .i64 k.fh, .int .i64 k.fd, .slice A n c] 59))) _ := Ext.trans (by (repeat' (first | with_reducible exact Ext.refl _ | with_reducible apply Ext.alloc | with_reducible apply Ext.drew | with_reducible apply Ext.drewN | with_reducible refine Ext.setCell ?_ ?_ _ | with_reducible apply Ext.step | with_reducible assumption | with_reducible exact Nat.le_refl _ | (simp; done) | (simp; omega)))) hx
    clear hx
    try (have hs0 := δ.lt (w.heap.size) (by first | (simp; done) | (simp; omega)))
    go_wp2_with fail
    refine (HG5.out _ _ (by go_cell)).mono ?_
    rintro e _ ⟨rfl, hx⟩
    obtain ⟨δ, rfl⟩ : Ext ((w.alloc (.cells #[.int .i64 k.tip, .int .i64 k.num, .int .i64 k.den, .int .i64 k.bite, .int .i64 k.slack, .int .i64 k.wall, .int .i64 k.deepest, .int .i64 k.play, .int .i64 k.fx, .int .i64 k.fy, .int .i64 k.fh, .int .i64 k.fd, .slice A n c] 59))) _ := Ext.trans (by (repeat' (first | with_reducible exact Ext.refl _ | with_reducible apply Ext.alloc | with_reducible apply Ext.drew | with_reducible apply Ext.drewN | with_reducible refine Ext.setCell ?_ ?_ _ | with_reducible apply Ext.step | with_reducible assumption | with_reducible exact Nat.le_refl _ | (simp; done) | (simp; omega)))) hx
    clear hx
    try (have hs0 := δ.lt (w.heap.size) (by first | (simp; done) | (simp; omega)))
    go_wp2_with fail
    refine (HT.out _).mono ?_
    rintro e _ ⟨rfl, hx⟩
    obtain ⟨δ, rfl⟩ : Ext ((w.alloc (.cells #[.int .i64 k.tip, .int .i64 k.num, .int .i64 k.den, .int .i64 k.bite, .int .i64 k.slack, .int .i64 k.wall, .int .i64 k.deepest, .int .i64 k.play, .int .i64 k.fx, .int .i64 k.fy, .int .i64 k.fh, .int .i64 k.fd, .slice A n c] 59))) _ := Ext.trans (by (repeat' (first | with_reducible exact Ext.refl _ | with_reducible apply Ext.alloc | with_reducible apply Ext.drew | with_reducible apply Ext.drewN | with_reducible refine Ext.setCell ?_ ?_ _ | with_reducible apply Ext.step | with_reducible assumption | with_reducible exact Nat.le_refl _ | (simp; done) | (simp; omega)))) hx
    clear hx
    try (have hs0 := δ.lt (w.heap.size) (by first | (simp; done) | (simp; omega)))
    go_wp2_with fail
    go_ret
    exact ⟨by first | (rw [HR.out]; done) | (rw [HR.out]; rfl), by (repeat' (first | with_reducible exact Ext.refl _ | with_reducible apply Ext.alloc | with_reducible apply Ext.drew | with_reducible apply Ext.drewN | with_reducible refine Ext.setCell ?_ ?_ _ | with_reducible apply Ext.step | with_reducible assumption | with_reducible exact Nat.le_refl _ | (simp; done) | (simp; omega)))⟩
  have hld : decide ((16 : Int) < (n : Int)) = false := by simp; omega
  cases ha : k.cuts.all cutB
  all_goals
    have HR := Lib.hid (show workE k = _ by
      have : decide (k.cuts.length ≤ 16) = true := by have := HN.out; simp; omega
      rw [HB.out, workB, this, ht, hf, ha])
    rw [ha] at HC
    clear ha
  all_goals clear ht hf hl
  all_goals
    go_enter Try.func39, Try.ntmps39
    go_wp2_with fail
    refine (HG1.out _ _ (by go_cell)).mono ?_
    rintro e _ ⟨rfl, hx⟩
    obtain ⟨δ, rfl⟩ : Ext ((w.alloc (.cells #[.int .i64 k.tip, .int .i64 k.num, .int .i64 k.den, .int .i64 k.bite, .int .i64 k.slack, .int .i64 k.wall, .int .i64 k.deepest, .int .i64 k.play, .int .i64 k.fx, .int .i64 k.fy, .int .i64 k.fh, .int .i64 k.fd, .slice A n c] 59))) _ := Ext.trans (by (repeat' (first | with_reducible exact Ext.refl _ | with_reducible apply Ext.alloc | with_reducible apply Ext.drew | with_reducible apply Ext.drewN | with_reducible refine Ext.setCell ?_ ?_ _ | with_reducible apply Ext.step | with_reducible assumption | with_reducible exact Nat.le_refl _ | (simp; done) | (simp; omega)))) hx
    clear hx
    try (have hs0 := δ.lt (w.heap.size) (by first | (simp; done) | (simp; omega)))
    go_wp2_with fail
    refine (HG2.out _ _ (by go_cell) (by go_cell)).mono ?_
    rintro e _ ⟨rfl, hx⟩
    obtain ⟨δ, rfl⟩ : Ext ((w.alloc (.cells #[.int .i64 k.tip, .int .i64 k.num, .int .i64 k.den, .int .i64 k.bite, .int .i64 k.slack, .int .i64 k.wall, .int .i64 k.deepest, .int .i64 k.play, .int .i64 k.fx, .int .i64 k.fy, .int .i64 k.fh, .int .i64 k.fd, .slice A n c] 59))) _ := Ext.trans (by (repeat' (first | with_reducible exact Ext.refl _ | with_reducible apply Ext.alloc | with_reducible apply Ext.drew | with_reducible apply Ext.drewN | with_reducible refine Ext.setCell ?_ ?_ _ | with_reducible apply Ext.step | with_reducible assumption | with_reducible exact Nat.le_refl _ | (simp; done) | (simp; omega)))) hx
    clear hx
    try (have hs0 := δ.lt (w.heap.size) (by first | (simp; done) | (simp; omega)))
    go_wp2_with fail
    refine (HG3.out _ _ (by go_cell)).mono ?_
    rintro e _ ⟨rfl, hx⟩
    obtain ⟨δ, rfl⟩ : Ext ((w.alloc (.cells #[.int .i64 k.tip, .int .i64 k.num, .int .i64 k.den, .int .i64 k.bite, .int .i64 k.slack, .int .i64 k.wall, .int .i64 k.deepest, .int .i64 k.play, .int .i64 k.fx, .int .i64 k.fy, .int .i64 k.fh, .int .i64 k.fd, .slice A n c] 59))) _ := Ext.trans (by (repeat' (first | with_reducible exact Ext.refl _ | with_reducible apply Ext.alloc | with_reducible apply Ext.drew | with_reducible apply Ext.drewN | with_reducible refine Ext.setCell ?_ ?_ _ | with_reducible apply Ext.step | with_reducible assumption | with_reducible exact Nat.le_refl _ | (simp; done) | (simp; omega)))) hx
    clear hx
    try (have hs0 := δ.lt (w.heap.size) (by first | (simp; done) | (simp; omega)))
    go_wp2_with fail
    refine (HG4.out _ _ (by go_cell) (by go_cell)).mono ?_
    rintro e _ ⟨rfl, hx⟩
    obtain ⟨δ, rfl⟩ : Ext ((w.alloc (.cells #[.int .i64 k.tip, .int .i64 k.num, .int .i64 k.den, .int .i64 k.bite, .int .i64 k.slack, .int .i64 k.wall, .int .i64 k.deepest, .int .i64 k.play, .int .i64 k.fx, .int .i64 k.fy, .int .i64 k.fh, .int .i64 k.fd, .slice A n c] 59))) _ := Ext.trans (by (repeat' (first | with_reducible exact Ext.refl _ | with_reducible apply Ext.alloc | with_reducible apply Ext.drew | with_reducible apply Ext.drewN | with_reducible refine Ext.setCell ?_ ?_ _ | with_reducible apply Ext.step | with_reducible assumption | with_reducible exact Nat.le_refl _ | (simp; done) | (simp; omega)))) hx
    clear hx
    try (have hs0 := δ.lt (w.heap.size) (by first | (simp; done) | (simp; omega)))
    go_wp2_with fail
    refine (HG5.out _ _ (by go_cell)).mono ?_
    rintro e _ ⟨rfl, hx⟩
    obtain ⟨δ, rfl⟩ : Ext ((w.alloc (.cells #[.int .i64 k.tip, .int .i64 k.num, .int .i64 k.den, .int .i64 k.bite, .int .i64 k.slack, .int .i64 k.wall, .int .i64 k.deepest, .int .i64 k.play, .int .i64 k.fx, .int .i64 k.fy, .int .i64 k.fh, .int .i64 k.fd, .slice A n c] 59))) _ := Ext.trans (by (repeat' (first | with_reducible exact Ext.refl _ | with_reducible apply Ext.alloc | with_reducible apply Ext.drew | with_reducible apply Ext.drewN | with_reducible refine Ext.setCell ?_ ?_ _ | with_reducible apply Ext.step | with_reducible assumption | with_reducible exact Nat.le_refl _ | (simp; done) | (simp; omega)))) hx
    clear hx
    try (have hs0 := δ.lt (w.heap.size) (by first | (simp; done) | (simp; omega)))
    go_wp2_with fail
    refine (HT.out _).mono ?_
    rintro e _ ⟨rfl, hx⟩
    obtain ⟨δ, rfl⟩ : Ext ((w.alloc (.cells #[.int .i64 k.tip, .int .i64 k.num, .int .i64 k.den, .int .i64 k.bite, .int .i64 k.slack, .int .i64 k.wall, .int .i64 k.deepest, .int .i64 k.play, .int .i64 k.fx, .int .i64 k.fy, .int .i64 k.fh, .int .i64 k.fd, .slice A n c] 59))) _ := Ext.trans (by (repeat' (first | with_reducible exact Ext.refl _ | with_reducible apply Ext.alloc | with_reducible apply Ext.drew | with_reducible apply Ext.drewN | with_reducible refine Ext.setCell ?_ ?_ _ | with_reducible apply Ext.step | with_reducible assumption | with_reducible exact Nat.le_refl _ | (simp; done) | (simp; omega)))) hx
    clear hx
    try (have hs0 := δ.lt (w.heap.size) (by first | (simp; done) | (simp; omega)))
    go_wp2_with fail
    refine (HC.out _ (by (repeat' (first | with_reducible exact Ext.refl _ | with_reducible apply Ext.alloc | with_reducible apply Ext.drew | with_reducible apply Ext.drewN | with_reducible refine Ext.setCell ?_ ?_ _ | with_reducible apply Ext.step | with_reducible assumption | with_reducible exact Nat.le_refl _ | (simp; done) | (simp; omega))))).mono ?_
    rintro e _ ⟨rfl, hx⟩
    obtain ⟨δ, rfl⟩ : Ext ((w.alloc (.cells #[.int .i64 k.tip, .int .i64 k.num, .int .i64 k.den, .int .i64 k.bite, .int .i64 k.slack, .int .i64 k.wall, .int .i64 k.deepest, .int .i64 k.play, .int .i64 k.fx, .int .i64 k.fy, .int .i64 k.fh, .int .i64 k.fd, .slice A n c] 59))) _ := Ext.trans (by (repeat' (first | with_reducible exact Ext.refl _ | with_reducible apply Ext.alloc | with_reducible apply Ext.drew | with_reducible apply Ext.drewN | with_reducible refine Ext.setCell ?_ ?_ _ | with_reducible apply Ext.step | with_reducible assumption | with_reducible exact Nat.le_refl _ | (simp; done) | (simp; omega)))) hx
    clear hx
    try (have hs0 := δ.lt (w.heap.size) (by first | (simp; done) | (simp; omega)))
    go_wp2_with fail
    go_ret
    exact ⟨by rw [HR.out]; rfl, by (repeat' (first | with_reducible exact Ext.refl _ | with_reducible apply Ext.alloc | with_reducible apply Ext.drew | with_reducible apply Ext.drewN | with_reducible refine Ext.setCell ?_ ?_ _ | with_reducible apply Ext.step | with_reducible assumption | with_reducible exact Nat.le_refl _ | (simp; done) | (simp; omega)))⟩
end Go.Proofs.Ytgeapenglcohfaa
