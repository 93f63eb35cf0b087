/- groove.Depth and groove.Half: what each call computes. No condition. -/
import Derived.Test.YtlljhimaopnbfaaFrom
namespace Go.Proofs.Ytlljhimaopnbfaa
section
/- Tools: groove's tools, depths and halves, and the reference's: what each call computes. No condition. -/
open Go.RowKit

abbrev toolV (tip num den bite slack : Int) : Value := .agg #[.int .i64 tip, .int .i64 num, .int .i64 den, .int .i64 bite, .int .i64 slack]

def toolB (tip num den bite slack : Int) : Bool := inB 0 100 tip && (inB 1 100 num && inB 1 100 den) && decide (num ≤ den) && inB 1 1000 bite && inB 0 1000 slack

def toolE (tip num den bite slack : Int) : Int := if toolB tip num den bite slack then 0 else 50

set_option maxHeartbeats 1000000 in
theorem checkTool_any (tip num den bite slack : Int) (w : World) :
    Calls Try.prog 101 #[toolV tip num den bite slack] w fun e w' => e = .returned (.int .i64 (toolE tip num den bite slack)) ∧ Ext w w' := by
  cases h1 : inB 0 100 tip
  · have HT := Lib.hid (show toolE tip num den bite slack = 50 by simp [toolE, toolB, h1])
    go_enter Try.func101, Try.ntmps101
    go_wp2_with (first
      | (go_at_call 102; (with_reducible refine (from_one _ tip _ _ _ _ ?_).mono ?_); (focus go_cell); rintro e _ ⟨rfl, hx⟩; obtain ⟨δ, rfl⟩ : Ext (w.alloc (.cells #[.int .i64 tip, .int .i64 num, .int .i64 den, .int .i64 bite, .int .i64 slack] 75)) _ := Ext.trans (by (repeat' (first | with_reducible exact Ext.refl _ | with_reducible apply Ext.alloc | with_reducible apply Ext.drew | with_reducible apply Ext.drewN | with_reducible refine Ext.setCell ?_ ?_ _ | with_reducible apply Ext.step | with_reducible assumption | with_reducible exact Nat.le_refl _ | (simp; done) | (simp; omega)))) hx)
      | (go_at_call 102; (with_reducible refine (from_two _ num den _ _ _ _ ?_ ?_).mono ?_); (focus go_cell); (focus go_cell); rintro e _ ⟨rfl, hx⟩; obtain ⟨δ, rfl⟩ : Ext (w.alloc (.cells #[.int .i64 tip, .int .i64 num, .int .i64 den, .int .i64 bite, .int .i64 slack] 75)) _ := Ext.trans (by (repeat' (first | with_reducible exact Ext.refl _ | with_reducible apply Ext.alloc | with_reducible apply Ext.drew | with_reducible apply Ext.drewN | with_reducible refine Ext.setCell ?_ ?_ _ | with_reducible apply Ext.step | with_reducible assumption | with_reducible exact Nat.le_refl _ | (simp; done) | (simp; omega)))) hx)
      | (go_at_call 102; (with_reducible refine (from_one _ bite _ _ _ _ ?_).mono ?_); (focus go_cell); rintro e _ ⟨rfl, hx⟩; obtain ⟨δ, rfl⟩ : Ext (w.alloc (.cells #[.int .i64 tip, .int .i64 num, .int .i64 den, .int .i64 bite, .int .i64 slack] 75)) _ := Ext.trans (by (repeat' (first | with_reducible exact Ext.refl _ | with_reducible apply Ext.alloc | with_reducible apply Ext.drew | with_reducible apply Ext.drewN | with_reducible refine Ext.setCell ?_ ?_ _ | with_reducible apply Ext.step | with_reducible assumption | with_reducible exact Nat.le_refl _ | (simp; done) | (simp; omega)))) hx)
      | (go_at_call 102; (with_reducible refine (from_one _ slack _ _ _ _ ?_).mono ?_); (focus go_cell); rintro e _ ⟨rfl, hx⟩; obtain ⟨δ, rfl⟩ : Ext (w.alloc (.cells #[.int .i64 tip, .int .i64 num, .int .i64 den, .int .i64 bite, .int .i64 slack] 75)) _ := Ext.trans (by (repeat' (first | with_reducible exact Ext.refl _ | with_reducible apply Ext.alloc | with_reducible apply Ext.drew | with_reducible apply Ext.drewN | with_reducible refine Ext.setCell ?_ ?_ _ | with_reducible apply Ext.step | with_reducible assumption | with_reducible exact Nat.le_refl _ | (simp; done) | (simp; omega)))) hx))
    go_ret
    exact ⟨by rw [HT.out]; rfl, by (repeat' (first | with_reducible exact Ext.refl _ | with_reducible apply Ext.alloc | with_reducible apply Ext.drew | with_reducible apply Ext.drewN | with_reducible refine Ext.setCell ?_ ?_ _ | with_reducible apply Ext.step | with_reducible assumption | with_reducible exact Nat.le_refl _ | (simp; done) | (simp; omega)))⟩
  cases h2 : (inB 1 100 num && inB 1 100 den)
  · have HT := Lib.hid (show toolE tip num den bite slack = 50 by simp [toolE, toolB, h1, h2])
    go_enter Try.func101, Try.ntmps101
    go_wp2_with (first
      | (go_at_call 102; (with_reducible refine (from_one _ tip _ _ _ _ ?_).mono ?_); (focus go_cell); rintro e _ ⟨rfl, hx⟩; obtain ⟨δ, rfl⟩ : Ext (w.alloc (.cells #[.int .i64 tip, .int .i64 num, .int .i64 den, .int .i64 bite, .int .i64 slack] 75)) _ := Ext.trans (by (repeat' (first | with_reducible exact Ext.refl _ | with_reducible apply Ext.alloc | with_reducible apply Ext.drew | with_reducible apply Ext.drewN | with_reducible refine Ext.setCell ?_ ?_ _ | with_reducible apply Ext.step | with_reducible assumption | with_reducible exact Nat.le_refl _ | (simp; done) | (simp; omega)))) hx)
      | (go_at_call 102; (with_reducible refine (from_two _ num den _ _ _ _ ?_ ?_).mono ?_); (focus go_cell); (focus go_cell); rintro e _ ⟨rfl, hx⟩; obtain ⟨δ, rfl⟩ : Ext (w.alloc (.cells #[.int .i64 tip, .int .i64 num, .int .i64 den, .int .i64 bite, .int .i64 slack] 75)) _ := Ext.trans (by (repeat' (first | with_reducible exact Ext.refl _ | with_reducible apply Ext.alloc | with_reducible apply Ext.drew | with_reducible apply Ext.drewN | with_reducible refine Ext.setCell ?_ ?_ _ | with_reducible apply Ext.step | with_reducible assumption | with_reducible exact Nat.le_refl _ | (simp; done) | (simp; omega)))) hx)
      | (go_at_call 102; (with_reducible refine (from_one _ bite _ _ _ _ ?_).mono ?_); (focus go_cell); rintro e _ ⟨rfl, hx⟩; obtain ⟨δ, rfl⟩ : Ext (w.alloc (.cells #[.int .i64 tip, .int .i64 num, .int .i64 den, .int .i64 bite, .int .i64 slack] 75)) _ := Ext.trans (by (repeat' (first | with_reducible exact Ext.refl _ | with_reducible apply Ext.alloc | with_reducible apply Ext.drew | with_reducible apply Ext.drewN | with_reducible refine Ext.setCell ?_ ?_ _ | with_reducible apply Ext.step | with_reducible assumption | with_reducible exact Nat.le_refl _ | (simp; done) | (simp; omega)))) hx)
      | (go_at_call 102; (with_reducible refine (from_one _ slack _ _ _ _ ?_).mono ?_); (focus go_cell); rintro e _ ⟨rfl, hx⟩; obtain ⟨δ, rfl⟩ : Ext (w.alloc (.cells #[.int .i64 tip, .int .i64 num, .int .i64 den, .int .i64 bite, .int .i64 slack] 75)) _ := Ext.trans (by (repeat' (first | with_reducible exact Ext.refl _ | with_reducible apply Ext.alloc | with_reducible apply Ext.drew | with_reducible apply Ext.drewN | with_reducible refine Ext.setCell ?_ ?_ _ | with_reducible apply Ext.step | with_reducible assumption | with_reducible exact Nat.le_refl _ | (simp; done) | (simp; omega)))) hx))
    go_ret
    exact ⟨by rw [HT.out]; rfl, by (repeat' (first | with_reducible exact Ext.refl _ | with_reducible apply Ext.alloc | with_reducible apply Ext.drew | with_reducible apply Ext.drewN | with_reducible refine Ext.setCell ?_ ?_ _ | with_reducible apply Ext.step | with_reducible assumption | with_reducible exact Nat.le_refl _ | (simp; done) | (simp; omega)))⟩
  cases h3 : decide (num ≤ den)
  · have HT := Lib.hid (show toolE tip num den bite slack = 50 by simp [toolE, toolB, h1, h2, h3])
    have h3b : decide (den < num) = true := by simpa using h3
    clear h3
    go_enter Try.func101, Try.ntmps101
    go_wp2_with (first
      | (go_at_call 102; (with_reducible refine (from_one _ tip _ _ _ _ ?_).mono ?_); (focus go_cell); rintro e _ ⟨rfl, hx⟩; obtain ⟨δ, rfl⟩ : Ext (w.alloc (.cells #[.int .i64 tip, .int .i64 num, .int .i64 den, .int .i64 bite, .int .i64 slack] 75)) _ := Ext.trans (by (repeat' (first | with_reducible exact Ext.refl _ | with_reducible apply Ext.alloc | with_reducible apply Ext.drew | with_reducible apply Ext.drewN | with_reducible refine Ext.setCell ?_ ?_ _ | with_reducible apply Ext.step | with_reducible assumption | with_reducible exact Nat.le_refl _ | (simp; done) | (simp; omega)))) hx)
      | (go_at_call 102; (with_reducible refine (from_two _ num den _ _ _ _ ?_ ?_).mono ?_); (focus go_cell); (focus go_cell); rintro e _ ⟨rfl, hx⟩; obtain ⟨δ, rfl⟩ : Ext (w.alloc (.cells #[.int .i64 tip, .int .i64 num, .int .i64 den, .int .i64 bite, .int .i64 slack] 75)) _ := Ext.trans (by (repeat' (first | with_reducible exact Ext.refl _ | with_reducible apply Ext.alloc | with_reducible apply Ext.drew | with_reducible apply Ext.drewN | with_reducible refine Ext.setCell ?_ ?_ _ | with_reducible apply Ext.step | with_reducible assumption | with_reducible exact Nat.le_refl _ | (simp; done) | (simp; omega)))) hx)
      | (go_at_call 102; (with_reducible refine (from_one _ bite _ _ _ _ ?_).mono ?_); (focus go_cell); rintro e _ ⟨rfl, hx⟩; obtain ⟨δ, rfl⟩ : Ext (w.alloc (.cells #[.int .i64 tip, .int .i64 num, .int .i64 den, .int .i64 bite, .int .i64 slack] 75)) _ := Ext.trans (by (repeat' (first | with_reducible exact Ext.refl _ | with_reducible apply Ext.alloc | with_reducible apply Ext.drew | with_reducible apply Ext.drewN | with_reducible refine Ext.setCell ?_ ?_ _ | with_reducible apply Ext.step | with_reducible assumption | with_reducible exact Nat.le_refl _ | (simp; done) | (simp; omega)))) hx)
      | (go_at_call 102; (with_reducible refine (from_one _ slack _ _ _ _ ?_).mono ?_); (focus go_cell); rintro e _ ⟨rfl, hx⟩; obtain ⟨δ, rfl⟩ : Ext (w.alloc (.cells #[.int .i64 tip, .int .i64 num, .int .i64 den, .int .i64 bite, .int .i64 slack] 75)) _ := Ext.trans (by (repeat' (first | with_reducible exact Ext.refl _ | with_reducible apply Ext.alloc | with_reducible apply Ext.drew | with_reducible apply Ext.drewN | with_reducible refine Ext.setCell ?_ ?_ _ | with_reducible apply Ext.step | with_reducible assumption | with_reducible exact Nat.le_refl _ | (simp; done) | (simp; omega)))) hx))
    go_ret
    exact ⟨by rw [HT.out]; rfl, by (repeat' (first | with_reducible exact Ext.refl _ | with_reducible apply Ext.alloc | with_reducible apply Ext.drew | with_reducible apply Ext.drewN | with_reducible refine Ext.setCell ?_ ?_ _ | with_reducible apply Ext.step | with_reducible assumption | with_reducible exact Nat.le_refl _ | (simp; done) | (simp; omega)))⟩
  have h3b : decide (den < num) = false := by simpa using h3
  cases h4 : inB 1 1000 bite
  · have HT := Lib.hid (show toolE tip num den bite slack = 50 by simp [toolE, toolB, h1, h2, h3, h4])
    go_enter Try.func101, Try.ntmps101
    go_wp2_with (first
      | (go_at_call 102; (with_reducible refine (from_one _ tip _ _ _ _ ?_).mono ?_); (focus go_cell); rintro e _ ⟨rfl, hx⟩; obtain ⟨δ, rfl⟩ : Ext (w.alloc (.cells #[.int .i64 tip, .int .i64 num, .int .i64 den, .int .i64 bite, .int .i64 slack] 75)) _ := Ext.trans (by (repeat' (first | with_reducible exact Ext.refl _ | with_reducible apply Ext.alloc | with_reducible apply Ext.drew | with_reducible apply Ext.drewN | with_reducible refine Ext.setCell ?_ ?_ _ | with_reducible apply Ext.step | with_reducible assumption | with_reducible exact Nat.le_refl _ | (simp; done) | (simp; omega)))) hx)
      | (go_at_call 102; (with_reducible refine (from_two _ num den _ _ _ _ ?_ ?_).mono ?_); (focus go_cell); (focus go_cell); rintro e _ ⟨rfl, hx⟩; obtain ⟨δ, rfl⟩ : Ext (w.alloc (.cells #[.int .i64 tip, .int .i64 num, .int .i64 den, .int .i64 bite, .int .i64 slack] 75)) _ := Ext.trans (by (repeat' (first | with_reducible exact Ext.refl _ | with_reducible apply Ext.alloc | with_reducible apply Ext.drew | with_reducible apply Ext.drewN | with_reducible refine Ext.setCell ?_ ?_ _ | with_reducible apply Ext.step | with_reducible assumption | with_reducible exact Nat.le_refl _ | (simp; done) | (simp; omega)))) hx)
      | (go_at_call 102; (with_reducible refine (from_one _ bite _ _ _ _ ?_).mono ?_); (focus go_cell); rintro e _ ⟨rfl, hx⟩; obtain ⟨δ, rfl⟩ : Ext (w.alloc (.cells #[.int .i64 tip, .int .i64 num, .int .i64 den, .int .i64 bite, .int .i64 slack] 75)) _ := Ext.trans (by (repeat' (first | with_reducible exact Ext.refl _ | with_reducible apply Ext.alloc | with_reducible apply Ext.drew | with_reducible apply Ext.drewN | with_reducible refine Ext.setCell ?_ ?_ _ | with_reducible apply Ext.step | with_reducible assumption | with_reducible exact Nat.le_refl _ | (simp; done) | (simp; omega)))) hx)
      | (go_at_call 102; (with_reducible refine (from_one _ slack _ _ _ _ ?_).mono ?_); (focus go_cell); rintro e _ ⟨rfl, hx⟩; obtain ⟨δ, rfl⟩ : Ext (w.alloc (.cells #[.int .i64 tip, .int .i64 num, .int .i64 den, .int .i64 bite, .int .i64 slack] 75)) _ := Ext.trans (by (repeat' (first | with_reducible exact Ext.refl _ | with_reducible apply Ext.alloc | with_reducible apply Ext.drew | with_reducible apply Ext.drewN | with_reducible refine Ext.setCell ?_ ?_ _ | with_reducible apply Ext.step | with_reducible assumption | with_reducible exact Nat.le_refl _ | (simp; done) | (simp; omega)))) hx))
    go_ret
    exact ⟨by rw [HT.out]; rfl, by (repeat' (first | with_reducible exact Ext.refl _ | with_reducible apply Ext.alloc | with_reducible apply Ext.drew | with_reducible apply Ext.drewN | with_reducible refine Ext.setCell ?_ ?_ _ | with_reducible apply Ext.step | with_reducible assumption | with_reducible exact Nat.le_refl _ | (simp; done) | (simp; omega)))⟩
  cases h5 : inB 0 1000 slack
  · have HT := Lib.hid (show toolE tip num den bite slack = 50 by simp [toolE, toolB, h1, h2, h3, h4, h5])
    go_enter Try.func101, Try.ntmps101
    go_wp2_with (first
      | (go_at_call 102; (with_reducible refine (from_one _ tip _ _ _ _ ?_).mono ?_); (focus go_cell); rintro e _ ⟨rfl, hx⟩; obtain ⟨δ, rfl⟩ : Ext (w.alloc (.cells #[.int .i64 tip, .int .i64 num, .int .i64 den, .int .i64 bite, .int .i64 slack] 75)) _ := Ext.trans (by (repeat' (first | with_reducible exact Ext.refl _ | with_reducible apply Ext.alloc | with_reducible apply Ext.drew | with_reducible apply Ext.drewN | with_reducible refine Ext.setCell ?_ ?_ _ | with_reducible apply Ext.step | with_reducible assumption | with_reducible exact Nat.le_refl _ | (simp; done) | (simp; omega)))) hx)
      | (go_at_call 102; (with_reducible refine (from_two _ num den _ _ _ _ ?_ ?_).mono ?_); (focus go_cell); (focus go_cell); rintro e _ ⟨rfl, hx⟩; obtain ⟨δ, rfl⟩ : Ext (w.alloc (.cells #[.int .i64 tip, .int .i64 num, .int .i64 den, .int .i64 bite, .int .i64 slack] 75)) _ := Ext.trans (by (repeat' (first | with_reducible exact Ext.refl _ | with_reducible apply Ext.alloc | with_reducible apply Ext.drew | with_reducible apply Ext.drewN | with_reducible refine Ext.setCell ?_ ?_ _ | with_reducible apply Ext.step | with_reducible assumption | with_reducible exact Nat.le_refl _ | (simp; done) | (simp; omega)))) hx)
      | (go_at_call 102; (with_reducible refine (from_one _ bite _ _ _ _ ?_).mono ?_); (focus go_cell); rintro e _ ⟨rfl, hx⟩; obtain ⟨δ, rfl⟩ : Ext (w.alloc (.cells #[.int .i64 tip, .int .i64 num, .int .i64 den, .int .i64 bite, .int .i64 slack] 75)) _ := Ext.trans (by (repeat' (first | with_reducible exact Ext.refl _ | with_reducible apply Ext.alloc | with_reducible apply Ext.drew | with_reducible apply Ext.drewN | with_reducible refine Ext.setCell ?_ ?_ _ | with_reducible apply Ext.step | with_reducible assumption | with_reducible exact Nat.le_refl _ | (simp; done) | (simp; omega)))) hx)
      | (go_at_call 102; (with_reducible refine (from_one _ slack _ _ _ _ ?_).mono ?_); (focus go_cell); rintro e _ ⟨rfl, hx⟩; obtain ⟨δ, rfl⟩ : Ext (w.alloc (.cells #[.int .i64 tip, .int .i64 num, .int .i64 den, .int .i64 bite, .int .i64 slack] 75)) _ := Ext.trans (by (repeat' (first | with_reducible exact Ext.refl _ | with_reducible apply Ext.alloc | with_reducible apply Ext.drew | with_reducible apply Ext.drewN | with_reducible refine Ext.setCell ?_ ?_ _ | with_reducible apply Ext.step | with_reducible assumption | with_reducible exact Nat.le_refl _ | (simp; done) | (simp; omega)))) hx))
    go_ret
    exact ⟨by rw [HT.out]; rfl, by (repeat' (first | with_reducible exact Ext.refl _ | with_reducible apply Ext.alloc | with_reducible apply Ext.drew | with_reducible apply Ext.drewN | with_reducible refine Ext.setCell ?_ ?_ _ | with_reducible apply Ext.step | with_reducible assumption | with_reducible exact Nat.le_refl _ | (simp; done) | (simp; omega)))⟩
  · have HT := Lib.hid (show toolE tip num den bite slack = 0 by simp only [toolE, toolB, h1, h2, h3, h4, h5]; rfl)
    go_enter Try.func101, Try.ntmps101
    go_wp2_with (first
      | (go_at_call 102; (with_reducible refine (from_one _ tip _ _ _ _ ?_).mono ?_); (focus go_cell); rintro e _ ⟨rfl, hx⟩; obtain ⟨δ, rfl⟩ : Ext (w.alloc (.cells #[.int .i64 tip, .int .i64 num, .int .i64 den, .int .i64 bite, .int .i64 slack] 75)) _ := Ext.trans (by (repeat' (first | with_reducible exact Ext.refl _ | with_reducible apply Ext.alloc | with_reducible apply Ext.drew | with_reducible apply Ext.drewN | with_reducible refine Ext.setCell ?_ ?_ _ | with_reducible apply Ext.step | with_reducible assumption | with_reducible exact Nat.le_refl _ | (simp; done) | (simp; omega)))) hx)
      | (go_at_call 102; (with_reducible refine (from_two _ num den _ _ _ _ ?_ ?_).mono ?_); (focus go_cell); (focus go_cell); rintro e _ ⟨rfl, hx⟩; obtain ⟨δ, rfl⟩ : Ext (w.alloc (.cells #[.int .i64 tip, .int .i64 num, .int .i64 den, .int .i64 bite, .int .i64 slack] 75)) _ := Ext.trans (by (repeat' (first | with_reducible exact Ext.refl _ | with_reducible apply Ext.alloc | with_reducible apply Ext.drew | with_reducible apply Ext.drewN | with_reducible refine Ext.setCell ?_ ?_ _ | with_reducible apply Ext.step | with_reducible assumption | with_reducible exact Nat.le_refl _ | (simp; done) | (simp; omega)))) hx)
      | (go_at_call 102; (with_reducible refine (from_one _ bite _ _ _ _ ?_).mono ?_); (focus go_cell); rintro e _ ⟨rfl, hx⟩; obtain ⟨δ, rfl⟩ : Ext (w.alloc (.cells #[.int .i64 tip, .int .i64 num, .int .i64 den, .int .i64 bite, .int .i64 slack] 75)) _ := Ext.trans (by (repeat' (first | with_reducible exact Ext.refl _ | with_reducible apply Ext.alloc | with_reducible apply Ext.drew | with_reducible apply Ext.drewN | with_reducible refine Ext.setCell ?_ ?_ _ | with_reducible apply Ext.step | with_reducible assumption | with_reducible exact Nat.le_refl _ | (simp; done) | (simp; omega)))) hx)
      | (go_at_call 102; (with_reducible refine (from_one _ slack _ _ _ _ ?_).mono ?_); (focus go_cell); rintro e _ ⟨rfl, hx⟩; obtain ⟨δ, rfl⟩ : Ext (w.alloc (.cells #[.int .i64 tip, .int .i64 num, .int .i64 den, .int .i64 bite, .int .i64 slack] 75)) _ := Ext.trans (by (repeat' (first | with_reducible exact Ext.refl _ | with_reducible apply Ext.alloc | with_reducible apply Ext.drew | with_reducible apply Ext.drewN | with_reducible refine Ext.setCell ?_ ?_ _ | with_reducible apply Ext.step | with_reducible assumption | with_reducible exact Nat.le_refl _ | (simp; done) | (simp; omega)))) hx))
    go_ret
    exact ⟨by rw [HT.out]; rfl, by (repeat' (first | with_reducible exact Ext.refl _ | with_reducible apply Ext.alloc | with_reducible apply Ext.drew | with_reducible apply Ext.drewN | with_reducible refine Ext.setCell ?_ ?_ _ | with_reducible apply Ext.step | with_reducible assumption | with_reducible exact Nat.le_refl _ | (simp; done) | (simp; omega)))⟩
end
open Go.RowKit

def depthE (tip num den bite slack press : Int) : Int := if toolB tip num den bite slack then (if inB 0 1000 press then 0 else 2) else 50
def highOf (bite slack press : Int) : Int := press * bite / 100 + slack
def depthHi (tip num den bite slack press : Int) : Int := if toolB tip num den bite slack && inB 0 1000 press then highOf bite slack press else 0
def depthLo (tip num den bite slack press : Int) : Int := if toolB tip num den bite slack && inB 0 1000 press then max (press * bite / 100 - slack) 0 else 0
abbrev depthV (tip num den bite slack press : Int) : Value := .tuple #[.int .i64 (depthLo tip num den bite slack press), .int .i64 (depthHi tip num den bite slack press), .int .i64 (depthE tip num den bite slack press)]

theorem toolB_iff {tip num den bite slack : Int} : toolB tip num den bite slack = true ↔ (0 ≤ tip ∧ tip ≤ 100) ∧ (1 ≤ num ∧ num ≤ 100) ∧ (1 ≤ den ∧ den ≤ 100) ∧ num ≤ den ∧ (1 ≤ bite ∧ bite ≤ 1000) ∧ 0 ≤ slack ∧ slack ≤ 1000 := by
  simp [toolB, inB, and_assoc]

theorem mul_bd {a b A B : Int} (h0 : 0 ≤ a) (h1 : a ≤ A) (h2 : 0 ≤ b) (h3 : b ≤ B) : 0 ≤ a * b ∧ a * b ≤ A * B :=
  ⟨Int.mul_nonneg h0 h2, Int.mul_le_mul h1 h3 h2 (Int.le_trans h0 h1)⟩

theorem checkTool_good {tip num den bite slack : Int} (h : toolB tip num den bite slack = true) (w : World) :
    Calls Try.prog 101 #[toolV tip num den bite slack] w fun e w' => e = .returned (.int .i64 0) ∧ Ext w w' := by
  have := checkTool_any tip num den bite slack w
  rwa [toolE, if_pos h] at this
theorem checkTool_bad {tip num den bite slack : Int} (h : toolB tip num den bite slack = false) (w : World) :
    Calls Try.prog 101 #[toolV tip num den bite slack] w fun e w' => e = .returned (.int .i64 50) ∧ Ext w w' := by
  have := checkTool_any tip num den bite slack w
  rwa [toolE, if_neg (by rw [h]; decide)] at this

set_option maxHeartbeats 1000000 in
theorem depth_any (tip num den bite slack press : Int) (w : World) :
    Calls Try.prog 59 #[toolV tip num den bite slack, .int .i64 press] w fun e w' => e = .returned (depthV tip num den bite slack press) ∧ Ext w w' := by
  cases h1 : toolB tip num den bite slack
  · have hE := Lib.hid (show depthE tip num den bite slack press = 50 by simp [depthE, h1])
    have hH := Lib.hid (show depthHi tip num den bite slack press = 0 by simp [depthHi, h1])
    have hL := Lib.hid (show depthLo tip num den bite slack press = 0 by simp [depthLo, h1])
    have HC := Lib.hid (checkTool_bad h1)
    go_enter Try.func59, Try.ntmps59
    go_wp2_with fail
    refine (HC.out _).mono ?_
    rintro e _ ⟨rfl, hx⟩
    obtain ⟨δ, rfl⟩ : Ext (w.alloc (.cells #[.int .i64 tip, .int .i64 num, .int .i64 den, .int .i64 bite, .int .i64 slack] 75)) _ := Ext.trans (by (repeat' (first | with_reducible exact Ext.refl _ | with_reducible apply Ext.alloc | with_reducible apply Ext.drew | with_reducible apply Ext.drewN | with_reducible refine Ext.setCell ?_ ?_ _ | with_reducible apply Ext.step | with_reducible assumption | with_reducible exact Nat.le_refl _ | (simp; done) | (simp; omega)))) hx
    clear hx
    go_wp2_with fail
    go_ret3
    exact ⟨by rw [depthV, hE.out, hH.out, hL.out]; rfl, by (repeat' (first | with_reducible exact Ext.refl _ | with_reducible apply Ext.alloc | with_reducible apply Ext.drew | with_reducible apply Ext.drewN | with_reducible refine Ext.setCell ?_ ?_ _ | with_reducible apply Ext.step | with_reducible assumption | with_reducible exact Nat.le_refl _ | (simp; done) | (simp; omega)))⟩
  have HC := Lib.hid (checkTool_good h1)
  cases h2 : inB 0 1000 press
  · have hE := Lib.hid (show depthE tip num den bite slack press = 2 by simp [depthE, h1, h2])
    have hH := Lib.hid (show depthHi tip num den bite slack press = 0 by simp [depthHi, h1, h2])
    have hL := Lib.hid (show depthLo tip num den bite slack press = 0 by simp [depthLo, h1, h2])
    go_enter Try.func59, Try.ntmps59
    go_wp2_with fail
    refine (HC.out _).mono ?_
    rintro e _ ⟨rfl, hx⟩
    obtain ⟨δ, rfl⟩ : Ext (w.alloc (.cells #[.int .i64 tip, .int .i64 num, .int .i64 den, .int .i64 bite, .int .i64 slack] 75)) _ := Ext.trans (by (repeat' (first | with_reducible exact Ext.refl _ | with_reducible apply Ext.alloc | with_reducible apply Ext.drew | with_reducible apply Ext.drewN | with_reducible refine Ext.setCell ?_ ?_ _ | with_reducible apply Ext.step | with_reducible assumption | with_reducible exact Nat.le_refl _ | (simp; done) | (simp; omega)))) hx
    clear hx
    go_wp2_with fail
    refine (from_one _ press _ _ _ _ (by go_cell)).mono ?_
    rintro e _ ⟨rfl, hx⟩
    obtain ⟨δ, rfl⟩ : Ext (w.alloc (.cells #[.int .i64 tip, .int .i64 num, .int .i64 den, .int .i64 bite, .int .i64 slack] 75)) _ := Ext.trans (by (repeat' (first | with_reducible exact Ext.refl _ | with_reducible apply Ext.alloc | with_reducible apply Ext.drew | with_reducible apply Ext.drewN | with_reducible refine Ext.setCell ?_ ?_ _ | with_reducible apply Ext.step | with_reducible assumption | with_reducible exact Nat.le_refl _ | (simp; done) | (simp; omega)))) hx
    clear hx
    go_wp2_with fail
    go_ret3
    exact ⟨by rw [depthV, hE.out, hH.out, hL.out]; rfl, by (repeat' (first | with_reducible exact Ext.refl _ | with_reducible apply Ext.alloc | with_reducible apply Ext.drew | with_reducible apply Ext.drewN | with_reducible refine Ext.setCell ?_ ?_ _ | with_reducible apply Ext.step | with_reducible assumption | with_reducible exact Nat.le_refl _ | (simp; done) | (simp; omega)))⟩
  have hE := Lib.hid (show depthE tip num den bite slack press = 0 by simp [depthE, h1, h2])
  have hH := Lib.hid (show depthHi tip num den bite slack press = press * bite / 100 + slack by simp [depthHi, highOf, h1, h2])
  have hL := Lib.hid (show depthLo tip num den bite slack press = max (press * bite / 100 - slack) 0 by simp [depthLo, h1, h2])
  obtain ⟨_, _, _, _, ⟨hb1, hb2⟩, hs1, hs2⟩ := toolB_iff.1 h1
  obtain ⟨hp1, hp2⟩ := inB_iff.1 h2
  obtain ⟨hm1, hm2⟩ := mul_bd hp1 hp2 (Int.le_trans (by decide) hb1) hb2
  go_enter Try.func59, Try.ntmps59
  go_wp2_with fail
  refine (HC.out _).mono ?_
  rintro e _ ⟨rfl, hx⟩
  obtain ⟨δ, rfl⟩ : Ext (w.alloc (.cells #[.int .i64 tip, .int .i64 num, .int .i64 den, .int .i64 bite, .int .i64 slack] 75)) _ := Ext.trans (by (repeat' (first | with_reducible exact Ext.refl _ | with_reducible apply Ext.alloc | with_reducible apply Ext.drew | with_reducible apply Ext.drewN | with_reducible refine Ext.setCell ?_ ?_ _ | with_reducible apply Ext.step | with_reducible assumption | with_reducible exact Nat.le_refl _ | (simp; done) | (simp; omega)))) hx
  clear hx
  go_wp2_with fail
  refine (from_one _ press _ _ _ _ (by go_cell)).mono ?_
  rintro e _ ⟨rfl, hx⟩
  obtain ⟨δ, rfl⟩ : Ext (w.alloc (.cells #[.int .i64 tip, .int .i64 num, .int .i64 den, .int .i64 bite, .int .i64 slack] 75)) _ := Ext.trans (by (repeat' (first | with_reducible exact Ext.refl _ | with_reducible apply Ext.alloc | with_reducible apply Ext.drew | with_reducible apply Ext.drewN | with_reducible refine Ext.setCell ?_ ?_ _ | with_reducible apply Ext.step | with_reducible assumption | with_reducible exact Nat.le_refl _ | (simp; done) | (simp; omega)))) hx
  clear hx
  go_wp2_with fail
  go_quiet (fail)
  go_wp2_with fail
  all_goals go_ret3
  all_goals refine ⟨ret_i3 ?_ hH.out.symm hE.out.symm, by (repeat' (first | with_reducible exact Ext.refl _ | with_reducible apply Ext.alloc | with_reducible apply Ext.drew | with_reducible apply Ext.drewN | with_reducible refine Ext.setCell ?_ ?_ _ | with_reducible apply Ext.step | with_reducible assumption | with_reducible exact Nat.le_refl _ | (simp; done) | (simp; omega)))⟩
  all_goals rw [hL.out]; omega

def halfE (tip num den bite slack depth : Int) : Int := if toolB tip num den bite slack then (if inB 0 20000 depth then 0 else 2) else 50
/-- The half at a depth: upwards. -/
def halfOf (tip num den depth : Int) : Int := tip + (depth * num + den - 1) / den
def halfN (tip num den bite slack depth : Int) : Int := if toolB tip num den bite slack && inB 0 20000 depth then halfOf tip num den depth else 0
abbrev halfV (tip num den bite slack depth : Int) : Value := .tuple #[.int .i64 (halfN tip num den bite slack depth), .int .i64 (halfE tip num den bite slack depth)]

theorem ceil_up {m d : Int} (hd : 1 ≤ d) (h : m / d * d < m) : m / d + 1 = (m + d - 1) / d := by
  have h1 := Int.mul_ediv_add_emod m d
  have h2 := Int.emod_lt_of_pos m (by omega : 0 < d)
  have h3 := Int.emod_nonneg m (by omega : d ≠ 0)
  rw [Int.mul_comm] at h
  symm
  have e : m + d - 1 = (m % d - 1) + d * (m / d + 1) := by rw [Int.mul_add]; omega
  rw [e, Int.add_mul_ediv_left _ _ (by omega), Int.ediv_eq_zero_of_lt (by omega) (by omega)]
  omega
theorem ceil_same {m d : Int} (hd : 1 ≤ d) (h : m ≤ m / d * d) : m / d = (m + d - 1) / d := by
  have h1 := Int.mul_ediv_add_emod m d
  have h2 := Int.emod_lt_of_pos m (by omega : 0 < d)
  have h3 := Int.emod_nonneg m (by omega : d ≠ 0)
  rw [Int.mul_comm] at h
  symm
  have e : m + d - 1 = (m % d + (d - 1)) + d * (m / d) := by omega
  rw [e, Int.add_mul_ediv_left _ _ (by omega), Int.ediv_eq_zero_of_lt (by omega) (by omega)]
  omega
theorem div_bd {m d : Int} (hd : 1 ≤ d) (h0 : 0 ≤ m) : 0 ≤ m / d ∧ m / d ≤ m ∧ 0 ≤ m / d * d ∧ m / d * d ≤ m := by
  have h1 := Int.mul_ediv_add_emod m d
  have h3 := Int.emod_nonneg m (by omega : d ≠ 0)
  have h4 := Int.ediv_nonneg h0 (by omega : 0 ≤ d)
  have h5 := Int.ediv_le_self d h0
  have h6 := Int.mul_nonneg h4 (by omega : 0 ≤ d)
  rw [Int.mul_comm] at h1
  refine ⟨h4, h5, h6, by omega⟩

set_option maxHeartbeats 1000000 in
theorem half_any (tip num den bite slack depth : Int) (w : World) :
    Calls Try.prog 60 #[toolV tip num den bite slack, .int .i64 depth] w fun e w' => e = .returned (halfV tip num den bite slack depth) ∧ Ext w w' := by
  cases h1 : toolB tip num den bite slack
  · have hE := Lib.hid (show halfE tip num den bite slack depth = 50 by simp [halfE, h1])
    have hH := Lib.hid (show halfN tip num den bite slack depth = 0 by simp [halfN, h1])
    have HC := Lib.hid (checkTool_bad h1)
    go_enter Try.func60, Try.ntmps60
    go_wp2_with fail
    refine (HC.out _).mono ?_
    rintro e _ ⟨rfl, hx⟩
    obtain ⟨δ, rfl⟩ : Ext (w.alloc (.cells #[.int .i64 tip, .int .i64 num, .int .i64 den, .int .i64 bite, .int .i64 slack] 75)) _ := Ext.trans (by (repeat' (first | with_reducible exact Ext.refl _ | with_reducible apply Ext.alloc | with_reducible apply Ext.drew | with_reducible apply Ext.drewN | with_reducible refine Ext.setCell ?_ ?_ _ | with_reducible apply Ext.step | with_reducible assumption | with_reducible exact Nat.le_refl _ | (simp; done) | (simp; omega)))) hx
    clear hx
    go_wp2_with fail
    go_ret2
    exact ⟨by rw [halfV, hE.out, hH.out]; rfl, by (repeat' (first | with_reducible exact Ext.refl _ | with_reducible apply Ext.alloc | with_reducible apply Ext.drew | with_reducible apply Ext.drewN | with_reducible refine Ext.setCell ?_ ?_ _ | with_reducible apply Ext.step | with_reducible assumption | with_reducible exact Nat.le_refl _ | (simp; done) | (simp; omega)))⟩
  have HC := Lib.hid (checkTool_good h1)
  cases h2 : inB 0 20000 depth
  · have hE := Lib.hid (show halfE tip num den bite slack depth = 2 by simp [halfE, h1, h2])
    have hH := Lib.hid (show halfN tip num den bite slack depth = 0 by simp [halfN, h1, h2])
    go_enter Try.func60, Try.ntmps60
    go_wp2_with fail
    refine (HC.out _).mono ?_
    rintro e _ ⟨rfl, hx⟩
    obtain ⟨δ, rfl⟩ : Ext (w.alloc (.cells #[.int .i64 tip, .int .i64 num, .int .i64 den, .int .i64 bite, .int .i64 slack] 75)) _ := Ext.trans (by (repeat' (first | with_reducible exact Ext.refl _ | with_reducible apply Ext.alloc | with_reducible apply Ext.drew | with_reducible apply Ext.drewN | with_reducible refine Ext.setCell ?_ ?_ _ | with_reducible apply Ext.step | with_reducible assumption | with_reducible exact Nat.le_refl _ | (simp; done) | (simp; omega)))) hx
    clear hx
    go_wp2_with fail
    refine (from_one _ depth _ _ _ _ (by go_cell)).mono ?_
    rintro e _ ⟨rfl, hx⟩
    obtain ⟨δ, rfl⟩ : Ext (w.alloc (.cells #[.int .i64 tip, .int .i64 num, .int .i64 den, .int .i64 bite, .int .i64 slack] 75)) _ := Ext.trans (by (repeat' (first | with_reducible exact Ext.refl _ | with_reducible apply Ext.alloc | with_reducible apply Ext.drew | with_reducible apply Ext.drewN | with_reducible refine Ext.setCell ?_ ?_ _ | with_reducible apply Ext.step | with_reducible assumption | with_reducible exact Nat.le_refl _ | (simp; done) | (simp; omega)))) hx
    clear hx
    go_wp2_with fail
    go_ret2
    exact ⟨by rw [halfV, hE.out, hH.out]; rfl, by (repeat' (first | with_reducible exact Ext.refl _ | with_reducible apply Ext.alloc | with_reducible apply Ext.drew | with_reducible apply Ext.drewN | with_reducible refine Ext.setCell ?_ ?_ _ | with_reducible apply Ext.step | with_reducible assumption | with_reducible exact Nat.le_refl _ | (simp; done) | (simp; omega)))⟩
  have hE := Lib.hid (show halfE tip num den bite slack depth = 0 by simp [halfE, h1, h2])
  have hH := Lib.hid (show halfN tip num den bite slack depth = tip + (depth * num + den - 1) / den by simp [halfN, halfOf, h1, h2])
  obtain ⟨⟨ht1, ht2⟩, ⟨hn1, hn2⟩, ⟨hd1, hd2⟩, _, _, hs1, hs2⟩ := toolB_iff.1 h1
  obtain ⟨hp1, hp2⟩ := inB_iff.1 h2
  obtain ⟨hm1, hm2⟩ := mul_bd hp1 hp2 (Int.le_trans (by decide) hn1) hn2
  obtain ⟨hq1, hq2, hq3, hq4⟩ := div_bd hd1 hm1
  have hup := Lib.hid (@ceil_up (depth * num) den hd1)
  have hsame := Lib.hid (@ceil_same (depth * num) den hd1)
  go_enter Try.func60, Try.ntmps60
  go_wp2_with fail
  refine (HC.out _).mono ?_
  rintro e _ ⟨rfl, hx⟩
  obtain ⟨δ, rfl⟩ : Ext (w.alloc (.cells #[.int .i64 tip, .int .i64 num, .int .i64 den, .int .i64 bite, .int .i64 slack] 75)) _ := Ext.trans (by (repeat' (first | with_reducible exact Ext.refl _ | with_reducible apply Ext.alloc | with_reducible apply Ext.drew | with_reducible apply Ext.drewN | with_reducible refine Ext.setCell ?_ ?_ _ | with_reducible apply Ext.step | with_reducible assumption | with_reducible exact Nat.le_refl _ | (simp; done) | (simp; omega)))) hx
  clear hx
  go_wp2_with fail
  refine (from_one _ depth _ _ _ _ (by go_cell)).mono ?_
  rintro e _ ⟨rfl, hx⟩
  obtain ⟨δ, rfl⟩ : Ext (w.alloc (.cells #[.int .i64 tip, .int .i64 num, .int .i64 den, .int .i64 bite, .int .i64 slack] 75)) _ := Ext.trans (by (repeat' (first | with_reducible exact Ext.refl _ | with_reducible apply Ext.alloc | with_reducible apply Ext.drew | with_reducible apply Ext.drewN | with_reducible refine Ext.setCell ?_ ?_ _ | with_reducible apply Ext.step | with_reducible assumption | with_reducible exact Nat.le_refl _ | (simp; done) | (simp; omega)))) hx
  clear hx
  go_wp2_with fail
  all_goals go_ret2
  · have hlt : depth * num / den * den < depth * num := by assumption
    exact ⟨ret_i2 (by rw [hH.out, ← hup.out hlt]) hE.out.symm, by (repeat' (first | with_reducible exact Ext.refl _ | with_reducible apply Ext.alloc | with_reducible apply Ext.drew | with_reducible apply Ext.drewN | with_reducible refine Ext.setCell ?_ ?_ _ | with_reducible apply Ext.step | with_reducible assumption | with_reducible exact Nat.le_refl _ | (simp; done) | (simp; omega)))⟩
  · have hlt : depth * num ≤ depth * num / den * den := by omega
    exact ⟨ret_i2 (by rw [hH.out, ← hsame.out hlt]) hE.out.symm, by (repeat' (first | with_reducible exact Ext.refl _ | with_reducible apply Ext.alloc | with_reducible apply Ext.drew | with_reducible apply Ext.drewN | with_reducible refine Ext.setCell ?_ ?_ _ | with_reducible apply Ext.step | with_reducible assumption | with_reducible exact Nat.le_refl _ | (simp; done) | (simp; omega)))⟩
end Go.Proofs.Ytlljhimaopnbfaa
