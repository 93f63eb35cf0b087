/- GrooveTools: the law's walk. No condition. -/
import Derived.Test.YtgeapenglcohfaaRefTools
namespace Go.Proofs.Ytgeapenglcohfaa
open Go.RowKit

set_option maxHeartbeats 1000000 in
theorem lawTools_any (tip num den bite slack press depth : Int) (w : World) :
    Calls Try.prog 3 #[toolV tip num den bite slack, .int .i64 press, .int .i64 depth] w fun e w' => e = .returned (.bool true) ∧ Ext w w' := by
  go_enter Try.func3, Try.ntmps3
  go_wp2_with fail
  refine (depth_any _ _ _ _ _ _ _).mono ?_
  rintro e _ ⟨rfl, hx⟩
  obtain ⟨δ, rfl⟩ : Ext (w.alloc (.cells #[.int .i64 tip, .int .i64 num, .int .i64 den, .int .i64 bite, .int .i64 slack] 23)) _ := Ext.trans (by (repeat' (first | with_reducible exact Ext.refl _ | with_reducible apply Ext.alloc | with_reducible apply Ext.drew | with_reducible apply Ext.drewN | with_reducible apply Ext.step | with_reducible assumption))) hx
  clear hx
  go_wp2_with fail
  refine (refDepth_any _ _ _ _ _ _ _).mono ?_
  rintro e _ ⟨rfl, hx⟩
  obtain ⟨δ, rfl⟩ : Ext (w.alloc (.cells #[.int .i64 tip, .int .i64 num, .int .i64 den, .int .i64 bite, .int .i64 slack] 23)) _ := Ext.trans (by (repeat' (first | with_reducible exact Ext.refl _ | with_reducible apply Ext.alloc | with_reducible apply Ext.drew | with_reducible apply Ext.drewN | with_reducible apply Ext.step | with_reducible assumption))) hx
  clear hx
  go_wp2_with fail
  refine (half_any _ _ _ _ _ _ _).mono ?_
  rintro e _ ⟨rfl, hx⟩
  obtain ⟨δ, rfl⟩ : Ext (w.alloc (.cells #[.int .i64 tip, .int .i64 num, .int .i64 den, .int .i64 bite, .int .i64 slack] 23)) _ := Ext.trans (by (repeat' (first | with_reducible exact Ext.refl _ | with_reducible apply Ext.alloc | with_reducible apply Ext.drew | with_reducible apply Ext.drewN | with_reducible apply Ext.step | with_reducible assumption))) hx
  clear hx
  go_wp2_with fail
  refine (refHalf_any _ _ _ _ _ _ _).mono ?_
  rintro e _ ⟨rfl, hx⟩
  obtain ⟨δ, rfl⟩ : Ext (w.alloc (.cells #[.int .i64 tip, .int .i64 num, .int .i64 den, .int .i64 bite, .int .i64 slack] 23)) _ := Ext.trans (by (repeat' (first | with_reducible exact Ext.refl _ | with_reducible apply Ext.alloc | with_reducible apply Ext.drew | with_reducible apply Ext.drewN | with_reducible apply Ext.step | with_reducible assumption))) hx
  clear hx
  go_wp2_with fail
  refine wp_region_bext (by kernel_rfl) (by kernel_rfl) ?_
  repeat (any_goals (go_big_quiet_step ((first | (go_at_call 24; exact bext_call (checkTool_any _ _ _ _ _ _)) | (go_at_call 25; exact bext_call (refCheckTool_any _ _ _ _ _ _))))))
  all_goals refine wpQuiet_nil ?_
  all_goals rintro _ ⟨δ, rfl⟩
  go_wp2_with fail
  go_ret
  exact ⟨rfl, by (repeat' (first | with_reducible exact Ext.refl _ | with_reducible apply Ext.alloc | with_reducible apply Ext.drew | with_reducible apply Ext.drewN | with_reducible apply Ext.step | with_reducible assumption))⟩
end Go.Proofs.Ytgeapenglcohfaa
