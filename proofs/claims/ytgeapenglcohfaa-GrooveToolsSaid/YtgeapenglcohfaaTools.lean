/- groove's tools, depths and halves, and the reference's: what each call computes. No condition. -/
import Derived.Test.YtgeapenglcohfaaFrom
namespace Go.Proofs.Ytgeapenglcohfaa
open Go.RowKit

abbrev toolV (tip num den bite slack : Int) : Value := .agg #[.int .i64 tip, .int .i64 num, .int .i64 den, .int .i64 bite, .int .i64 slack]

def toolB (tip num den bite slack : Int) : Bool := inB 0 100 tip && (inB 1 100 num && inB 1 100 den) && decide (num ≤ den) && inB 1 1000 bite && inB 0 1000 slack

def toolE (tip num den bite slack : Int) : Int := if toolB tip num den bite slack then 0 else 50

set_option maxHeartbeats 1000000 in
theorem checkTool_any (tip num den bite slack : Int) (w : World) :
    Calls Try.prog 24 #[toolV tip num den bite slack] w fun e w' => e = .returned (.int .i64 (toolE tip num den bite slack)) ∧ Ext w w' := by
  cases h1 : inB 0 100 tip
  · have HT := Lib.hid (show toolE tip num den bite slack = 50 by simp [toolE, toolB, h1])
    go_enter Try.func24, Try.ntmps24
    go_wp2_with (first
      | (go_at_call 61; (with_reducible refine (from_one _ tip _ _ _ _ ?_).mono ?_); (focus go_cell); rintro e _ ⟨rfl, hx⟩; obtain ⟨δ, rfl⟩ : Ext (w.alloc (.cells #[.int .i64 tip, .int .i64 num, .int .i64 den, .int .i64 bite, .int .i64 slack] 23)) _ := Ext.trans (by (repeat' (first | with_reducible exact Ext.refl _ | with_reducible apply Ext.alloc | with_reducible apply Ext.drew | with_reducible apply Ext.drewN | with_reducible apply Ext.step | with_reducible assumption))) hx)
      | (go_at_call 61; (with_reducible refine (from_two _ num den _ _ _ _ ?_ ?_).mono ?_); (focus go_cell); (focus go_cell); rintro e _ ⟨rfl, hx⟩; obtain ⟨δ, rfl⟩ : Ext (w.alloc (.cells #[.int .i64 tip, .int .i64 num, .int .i64 den, .int .i64 bite, .int .i64 slack] 23)) _ := Ext.trans (by (repeat' (first | with_reducible exact Ext.refl _ | with_reducible apply Ext.alloc | with_reducible apply Ext.drew | with_reducible apply Ext.drewN | with_reducible apply Ext.step | with_reducible assumption))) hx)
      | (go_at_call 61; (with_reducible refine (from_one _ bite _ _ _ _ ?_).mono ?_); (focus go_cell); rintro e _ ⟨rfl, hx⟩; obtain ⟨δ, rfl⟩ : Ext (w.alloc (.cells #[.int .i64 tip, .int .i64 num, .int .i64 den, .int .i64 bite, .int .i64 slack] 23)) _ := Ext.trans (by (repeat' (first | with_reducible exact Ext.refl _ | with_reducible apply Ext.alloc | with_reducible apply Ext.drew | with_reducible apply Ext.drewN | with_reducible apply Ext.step | with_reducible assumption))) hx)
      | (go_at_call 61; (with_reducible refine (from_one _ slack _ _ _ _ ?_).mono ?_); (focus go_cell); rintro e _ ⟨rfl, hx⟩; obtain ⟨δ, rfl⟩ : Ext (w.alloc (.cells #[.int .i64 tip, .int .i64 num, .int .i64 den, .int .i64 bite, .int .i64 slack] 23)) _ := Ext.trans (by (repeat' (first | with_reducible exact Ext.refl _ | with_reducible apply Ext.alloc | with_reducible apply Ext.drew | with_reducible apply Ext.drewN | with_reducible apply Ext.step | with_reducible assumption))) hx))
    go_ret
    exact ⟨by rw [HT.out]; rfl, by (repeat' (first | with_reducible exact Ext.refl _ | with_reducible apply Ext.alloc | with_reducible apply Ext.drew | with_reducible apply Ext.drewN | with_reducible apply Ext.step | with_reducible assumption))⟩
  cases h2 : (inB 1 100 num && inB 1 100 den)
  · have HT := Lib.hid (show toolE tip num den bite slack = 50 by simp [toolE, toolB, h1, h2])
    go_enter Try.func24, Try.ntmps24
    go_wp2_with (first
      | (go_at_call 61; (with_reducible refine (from_one _ tip _ _ _ _ ?_).mono ?_); (focus go_cell); rintro e _ ⟨rfl, hx⟩; obtain ⟨δ, rfl⟩ : Ext (w.alloc (.cells #[.int .i64 tip, .int .i64 num, .int .i64 den, .int .i64 bite, .int .i64 slack] 23)) _ := Ext.trans (by (repeat' (first | with_reducible exact Ext.refl _ | with_reducible apply Ext.alloc | with_reducible apply Ext.drew | with_reducible apply Ext.drewN | with_reducible apply Ext.step | with_reducible assumption))) hx)
      | (go_at_call 61; (with_reducible refine (from_two _ num den _ _ _ _ ?_ ?_).mono ?_); (focus go_cell); (focus go_cell); rintro e _ ⟨rfl, hx⟩; obtain ⟨δ, rfl⟩ : Ext (w.alloc (.cells #[.int .i64 tip, .int .i64 num, .int .i64 den, .int .i64 bite, .int .i64 slack] 23)) _ := Ext.trans (by (repeat' (first | with_reducible exact Ext.refl _ | with_reducible apply Ext.alloc | with_reducible apply Ext.drew | with_reducible apply Ext.drewN | with_reducible apply Ext.step | with_reducible assumption))) hx)
      | (go_at_call 61; (with_reducible refine (from_one _ bite _ _ _ _ ?_).mono ?_); (focus go_cell); rintro e _ ⟨rfl, hx⟩; obtain ⟨δ, rfl⟩ : Ext (w.alloc (.cells #[.int .i64 tip, .int .i64 num, .int .i64 den, .int .i64 bite, .int .i64 slack] 23)) _ := Ext.trans (by (repeat' (first | with_reducible exact Ext.refl _ | with_reducible apply Ext.alloc | with_reducible apply Ext.drew | with_reducible apply Ext.drewN | with_reducible apply Ext.step | with_reducible assumption))) hx)
      | (go_at_call 61; (with_reducible refine (from_one _ slack _ _ _ _ ?_).mono ?_); (focus go_cell); rintro e _ ⟨rfl, hx⟩; obtain ⟨δ, rfl⟩ : Ext (w.alloc (.cells #[.int .i64 tip, .int .i64 num, .int .i64 den, .int .i64 bite, .int .i64 slack] 23)) _ := Ext.trans (by (repeat' (first | with_reducible exact Ext.refl _ | with_reducible apply Ext.alloc | with_reducible apply Ext.drew | with_reducible apply Ext.drewN | with_reducible apply Ext.step | with_reducible assumption))) hx))
    go_ret
    exact ⟨by rw [HT.out]; rfl, by (repeat' (first | with_reducible exact Ext.refl _ | with_reducible apply Ext.alloc | with_reducible apply Ext.drew | with_reducible apply Ext.drewN | with_reducible apply Ext.step | with_reducible assumption))⟩
  cases h3 : decide (num ≤ den)
  · have HT := Lib.hid (show toolE tip num den bite slack = 50 by simp [toolE, toolB, h1, h2, h3])
    have h3b : decide (den < num) = true := by simpa using h3
    clear h3
    go_enter Try.func24, Try.ntmps24
    go_wp2_with (first
      | (go_at_call 61; (with_reducible refine (from_one _ tip _ _ _ _ ?_).mono ?_); (focus go_cell); rintro e _ ⟨rfl, hx⟩; obtain ⟨δ, rfl⟩ : Ext (w.alloc (.cells #[.int .i64 tip, .int .i64 num, .int .i64 den, .int .i64 bite, .int .i64 slack] 23)) _ := Ext.trans (by (repeat' (first | with_reducible exact Ext.refl _ | with_reducible apply Ext.alloc | with_reducible apply Ext.drew | with_reducible apply Ext.drewN | with_reducible apply Ext.step | with_reducible assumption))) hx)
      | (go_at_call 61; (with_reducible refine (from_two _ num den _ _ _ _ ?_ ?_).mono ?_); (focus go_cell); (focus go_cell); rintro e _ ⟨rfl, hx⟩; obtain ⟨δ, rfl⟩ : Ext (w.alloc (.cells #[.int .i64 tip, .int .i64 num, .int .i64 den, .int .i64 bite, .int .i64 slack] 23)) _ := Ext.trans (by (repeat' (first | with_reducible exact Ext.refl _ | with_reducible apply Ext.alloc | with_reducible apply Ext.drew | with_reducible apply Ext.drewN | with_reducible apply Ext.step | with_reducible assumption))) hx)
      | (go_at_call 61; (with_reducible refine (from_one _ bite _ _ _ _ ?_).mono ?_); (focus go_cell); rintro e _ ⟨rfl, hx⟩; obtain ⟨δ, rfl⟩ : Ext (w.alloc (.cells #[.int .i64 tip, .int .i64 num, .int .i64 den, .int .i64 bite, .int .i64 slack] 23)) _ := Ext.trans (by (repeat' (first | with_reducible exact Ext.refl _ | with_reducible apply Ext.alloc | with_reducible apply Ext.drew | with_reducible apply Ext.drewN | with_reducible apply Ext.step | with_reducible assumption))) hx)
      | (go_at_call 61; (with_reducible refine (from_one _ slack _ _ _ _ ?_).mono ?_); (focus go_cell); rintro e _ ⟨rfl, hx⟩; obtain ⟨δ, rfl⟩ : Ext (w.alloc (.cells #[.int .i64 tip, .int .i64 num, .int .i64 den, .int .i64 bite, .int .i64 slack] 23)) _ := Ext.trans (by (repeat' (first | with_reducible exact Ext.refl _ | with_reducible apply Ext.alloc | with_reducible apply Ext.drew | with_reducible apply Ext.drewN | with_reducible apply Ext.step | with_reducible assumption))) hx))
    go_ret
    exact ⟨by rw [HT.out]; rfl, by (repeat' (first | with_reducible exact Ext.refl _ | with_reducible apply Ext.alloc | with_reducible apply Ext.drew | with_reducible apply Ext.drewN | with_reducible apply Ext.step | with_reducible assumption))⟩
  have h3b : decide (den < num) = false := by simpa using h3
  cases h4 : inB 1 1000 bite
  · have HT := Lib.hid (show toolE tip num den bite slack = 50 by simp [toolE, toolB, h1, h2, h3, h4])
    go_enter Try.func24, Try.ntmps24
    go_wp2_with (first
      | (go_at_call 61; (with_reducible refine (from_one _ tip _ _ _ _ ?_).mono ?_); (focus go_cell); rintro e _ ⟨rfl, hx⟩; obtain ⟨δ, rfl⟩ : Ext (w.alloc (.cells #[.int .i64 tip, .int .i64 num, .int .i64 den, .int .i64 bite, .int .i64 slack] 23)) _ := Ext.trans (by (repeat' (first | with_reducible exact Ext.refl _ | with_reducible apply Ext.alloc | with_reducible apply Ext.drew | with_reducible apply Ext.drewN | with_reducible apply Ext.step | with_reducible assumption))) hx)
      | (go_at_call 61; (with_reducible refine (from_two _ num den _ _ _ _ ?_ ?_).mono ?_); (focus go_cell); (focus go_cell); rintro e _ ⟨rfl, hx⟩; obtain ⟨δ, rfl⟩ : Ext (w.alloc (.cells #[.int .i64 tip, .int .i64 num, .int .i64 den, .int .i64 bite, .int .i64 slack] 23)) _ := Ext.trans (by (repeat' (first | with_reducible exact Ext.refl _ | with_reducible apply Ext.alloc | with_reducible apply Ext.drew | with_reducible apply Ext.drewN | with_reducible apply Ext.step | with_reducible assumption))) hx)
      | (go_at_call 61; (with_reducible refine (from_one _ bite _ _ _ _ ?_).mono ?_); (focus go_cell); rintro e _ ⟨rfl, hx⟩; obtain ⟨δ, rfl⟩ : Ext (w.alloc (.cells #[.int .i64 tip, .int .i64 num, .int .i64 den, .int .i64 bite, .int .i64 slack] 23)) _ := Ext.trans (by (repeat' (first | with_reducible exact Ext.refl _ | with_reducible apply Ext.alloc | with_reducible apply Ext.drew | with_reducible apply Ext.drewN | with_reducible apply Ext.step | with_reducible assumption))) hx)
      | (go_at_call 61; (with_reducible refine (from_one _ slack _ _ _ _ ?_).mono ?_); (focus go_cell); rintro e _ ⟨rfl, hx⟩; obtain ⟨δ, rfl⟩ : Ext (w.alloc (.cells #[.int .i64 tip, .int .i64 num, .int .i64 den, .int .i64 bite, .int .i64 slack] 23)) _ := Ext.trans (by (repeat' (first | with_reducible exact Ext.refl _ | with_reducible apply Ext.alloc | with_reducible apply Ext.drew | with_reducible apply Ext.drewN | with_reducible apply Ext.step | with_reducible assumption))) hx))
    go_ret
    exact ⟨by rw [HT.out]; rfl, by (repeat' (first | with_reducible exact Ext.refl _ | with_reducible apply Ext.alloc | with_reducible apply Ext.drew | with_reducible apply Ext.drewN | with_reducible apply Ext.step | with_reducible assumption))⟩
  cases h5 : inB 0 1000 slack
  · have HT := Lib.hid (show toolE tip num den bite slack = 50 by simp [toolE, toolB, h1, h2, h3, h4, h5])
    go_enter Try.func24, Try.ntmps24
    go_wp2_with (first
      | (go_at_call 61; (with_reducible refine (from_one _ tip _ _ _ _ ?_).mono ?_); (focus go_cell); rintro e _ ⟨rfl, hx⟩; obtain ⟨δ, rfl⟩ : Ext (w.alloc (.cells #[.int .i64 tip, .int .i64 num, .int .i64 den, .int .i64 bite, .int .i64 slack] 23)) _ := Ext.trans (by (repeat' (first | with_reducible exact Ext.refl _ | with_reducible apply Ext.alloc | with_reducible apply Ext.drew | with_reducible apply Ext.drewN | with_reducible apply Ext.step | with_reducible assumption))) hx)
      | (go_at_call 61; (with_reducible refine (from_two _ num den _ _ _ _ ?_ ?_).mono ?_); (focus go_cell); (focus go_cell); rintro e _ ⟨rfl, hx⟩; obtain ⟨δ, rfl⟩ : Ext (w.alloc (.cells #[.int .i64 tip, .int .i64 num, .int .i64 den, .int .i64 bite, .int .i64 slack] 23)) _ := Ext.trans (by (repeat' (first | with_reducible exact Ext.refl _ | with_reducible apply Ext.alloc | with_reducible apply Ext.drew | with_reducible apply Ext.drewN | with_reducible apply Ext.step | with_reducible assumption))) hx)
      | (go_at_call 61; (with_reducible refine (from_one _ bite _ _ _ _ ?_).mono ?_); (focus go_cell); rintro e _ ⟨rfl, hx⟩; obtain ⟨δ, rfl⟩ : Ext (w.alloc (.cells #[.int .i64 tip, .int .i64 num, .int .i64 den, .int .i64 bite, .int .i64 slack] 23)) _ := Ext.trans (by (repeat' (first | with_reducible exact Ext.refl _ | with_reducible apply Ext.alloc | with_reducible apply Ext.drew | with_reducible apply Ext.drewN | with_reducible apply Ext.step | with_reducible assumption))) hx)
      | (go_at_call 61; (with_reducible refine (from_one _ slack _ _ _ _ ?_).mono ?_); (focus go_cell); rintro e _ ⟨rfl, hx⟩; obtain ⟨δ, rfl⟩ : Ext (w.alloc (.cells #[.int .i64 tip, .int .i64 num, .int .i64 den, .int .i64 bite, .int .i64 slack] 23)) _ := Ext.trans (by (repeat' (first | with_reducible exact Ext.refl _ | with_reducible apply Ext.alloc | with_reducible apply Ext.drew | with_reducible apply Ext.drewN | with_reducible apply Ext.step | with_reducible assumption))) hx))
    go_ret
    exact ⟨by rw [HT.out]; rfl, by (repeat' (first | with_reducible exact Ext.refl _ | with_reducible apply Ext.alloc | with_reducible apply Ext.drew | with_reducible apply Ext.drewN | with_reducible apply Ext.step | with_reducible assumption))⟩
  · have HT := Lib.hid (show toolE tip num den bite slack = 0 by simp only [toolE, toolB, h1, h2, h3, h4, h5]; rfl)
    go_enter Try.func24, Try.ntmps24
    go_wp2_with (first
      | (go_at_call 61; (with_reducible refine (from_one _ tip _ _ _ _ ?_).mono ?_); (focus go_cell); rintro e _ ⟨rfl, hx⟩; obtain ⟨δ, rfl⟩ : Ext (w.alloc (.cells #[.int .i64 tip, .int .i64 num, .int .i64 den, .int .i64 bite, .int .i64 slack] 23)) _ := Ext.trans (by (repeat' (first | with_reducible exact Ext.refl _ | with_reducible apply Ext.alloc | with_reducible apply Ext.drew | with_reducible apply Ext.drewN | with_reducible apply Ext.step | with_reducible assumption))) hx)
      | (go_at_call 61; (with_reducible refine (from_two _ num den _ _ _ _ ?_ ?_).mono ?_); (focus go_cell); (focus go_cell); rintro e _ ⟨rfl, hx⟩; obtain ⟨δ, rfl⟩ : Ext (w.alloc (.cells #[.int .i64 tip, .int .i64 num, .int .i64 den, .int .i64 bite, .int .i64 slack] 23)) _ := Ext.trans (by (repeat' (first | with_reducible exact Ext.refl _ | with_reducible apply Ext.alloc | with_reducible apply Ext.drew | with_reducible apply Ext.drewN | with_reducible apply Ext.step | with_reducible assumption))) hx)
      | (go_at_call 61; (with_reducible refine (from_one _ bite _ _ _ _ ?_).mono ?_); (focus go_cell); rintro e _ ⟨rfl, hx⟩; obtain ⟨δ, rfl⟩ : Ext (w.alloc (.cells #[.int .i64 tip, .int .i64 num, .int .i64 den, .int .i64 bite, .int .i64 slack] 23)) _ := Ext.trans (by (repeat' (first | with_reducible exact Ext.refl _ | with_reducible apply Ext.alloc | with_reducible apply Ext.drew | with_reducible apply Ext.drewN | with_reducible apply Ext.step | with_reducible assumption))) hx)
      | (go_at_call 61; (with_reducible refine (from_one _ slack _ _ _ _ ?_).mono ?_); (focus go_cell); rintro e _ ⟨rfl, hx⟩; obtain ⟨δ, rfl⟩ : Ext (w.alloc (.cells #[.int .i64 tip, .int .i64 num, .int .i64 den, .int .i64 bite, .int .i64 slack] 23)) _ := Ext.trans (by (repeat' (first | with_reducible exact Ext.refl _ | with_reducible apply Ext.alloc | with_reducible apply Ext.drew | with_reducible apply Ext.drewN | with_reducible apply Ext.step | with_reducible assumption))) hx))
    go_ret
    exact ⟨by rw [HT.out]; rfl, by (repeat' (first | with_reducible exact Ext.refl _ | with_reducible apply Ext.alloc | with_reducible apply Ext.drew | with_reducible apply Ext.drewN | with_reducible apply Ext.step | with_reducible assumption))⟩

end Go.Proofs.Ytgeapenglcohfaa
