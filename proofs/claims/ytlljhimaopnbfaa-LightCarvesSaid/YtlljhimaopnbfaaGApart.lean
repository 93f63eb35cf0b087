/- groove.apart, isLine. Conditions: bounds of the coordinates; the slice reads as a list. -/
import Derived.Test.YtlljhimaopnbfaaSpot
namespace Go.Proofs.Ytlljhimaopnbfaa
open Go.RowKit

/-- Two spots lie on different sides of a segment. -/
def apartB (ax ay bx by' cx cy dx dy : Int) : Bool := ((decide (0 < crossP cx cy ax ay bx by') != decide (0 < crossP dx dy ax ay bx by')) && crossP cx cy ax ay bx by' != 0) && crossP dx dy ax ay bx by' != 0

set_option maxHeartbeats 4000000 in
theorem apart_any (ax ay bx by' cx cy dx dy : Int) (w : World) (h1 : Co ax) (h2 : Co ay) (h3 : Co bx) (h4 : Co by') (h5 : Co cx) (h6 : Co cy) (h7 : Co dx) (h8 : Co dy) :
    Calls Try.prog 128 #[V2 ax ay, V2 bx by', V2 cx cy, V2 dx dy] w fun e w' => e = .returned (.bool (apartB ax ay bx by' cx cy dx dy)) ∧ Ext w w' := by
  have HA := Lib.hid (show apartB ax ay bx by' cx cy dx dy = (((decide (0 < crossP cx cy ax ay bx by') != decide (0 < crossP dx dy ax ay bx by')) && crossP cx cy ax ay bx by' != 0) && crossP dx dy ax ay bx by' != 0) from rfl)
  have HU := Lib.hid fun W : World => way_any ax ay bx by' W h1 h2 h3 h4
  have HV := Lib.hid fun W : World => way_any ax ay cx cy W h1 h2 h5 h6
  have HW := Lib.hid fun W : World => way_any ax ay dx dy W h1 h2 h7 h8
  have HM := Lib.hid fun W : World => (show Calls Try.prog 147 #[V2 (bx - ax) (by' - ay), V2 (cx - ax) (cy - ay)] W fun e w' => e = .returned (.int .i64 (crossP cx cy ax ay bx by')) ∧ Ext W w' from cross_any _ _ _ _ W (h3.sub h1) (h4.sub h2) (h5.sub h1) (h6.sub h2))
  have HN := Lib.hid fun W : World => (show Calls Try.prog 147 #[V2 (bx - ax) (by' - ay), V2 (dx - ax) (dy - ay)] W fun e w' => e = .returned (.int .i64 (crossP dx dy ax ay bx by')) ∧ Ext W w' from cross_any _ _ _ _ W (h3.sub h1) (h4.sub h2) (h7.sub h1) (h8.sub h2))
  generalize apartB ax ay bx by' cx cy dx dy = R at *
  generalize crossP cx cy ax ay bx by' = m at *
  generalize crossP dx dy ax ay bx by' = n at *
  generalize bx - ax = ux at *
  generalize by' - ay = uy at *
  generalize cx - ax = vx at *
  generalize cy - ay = vy at *
  generalize dx - ax = wx at *
  generalize dy - ay = wy at *
  clear h1 h2 h3 h4 h5 h6 h7 h8
  go_enter Try.func128, Try.ntmps128
  go_wp2_with fail
  refine wp_region_bext (by kernel_rfl) (by kernel_rfl) ?_
  repeat (any_goals (go_big_quiet_step ((first | (go_at_call 146; with_reducible exact bext_call (HU.out _)) | (go_at_call 146; with_reducible exact bext_call (HV.out _)) | (go_at_call 146; with_reducible exact bext_call (HW.out _)) | (go_at_call 147; with_reducible exact bext_call (HM.out _)) | (go_at_call 147; with_reducible exact bext_call (HN.out _))))))
  all_goals refine wpQuiet_nil ?_
  all_goals rintro _ ⟨δ, rfl⟩
  have X1 : Ext w δ.wd := Ext.trans (by (repeat' (first | with_reducible exact Ext.refl _ | with_reducible apply Ext.alloc | with_reducible apply Ext.drew | with_reducible apply Ext.drewN | with_reducible refine Ext.setCell ?_ ?_ _ | with_reducible apply Ext.step | with_reducible assumption | with_reducible exact Nat.le_refl _ | (simp; done) | (simp; omega)))) ⟨δ, rfl⟩
  generalize δ.wd = W1 at *
  cases q1 : decide (0 < m) <;> cases q2 : decide (0 < n) <;> cases q3 : (m != 0) <;> cases q4 : (n != 0)
  all_goals
    rw [q1, q2, q3, q4] at HA
    go_wp2_with fail
    go_ret
    exact ⟨by rw [HA.out]; rfl, X1⟩
end Go.Proofs.Ytlljhimaopnbfaa
