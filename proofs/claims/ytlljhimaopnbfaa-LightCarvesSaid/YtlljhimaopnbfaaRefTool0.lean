/- The reference's tools: within, Tool, High. No condition. -/
import Derived.Test.YtlljhimaopnbfaaDepth
import Derived.BigGuardPart
namespace Go.Proofs.Ytlljhimaopnbfaa
open Go.RowKit

theorem within_any (n lo hi : Int) (w : World) :
    Calls Try.prog 116 #[.int .i64 n, .int .i64 lo, .int .i64 hi] w fun e w' => e = .returned (.bool (inB lo hi n)) ∧ w = w' := by
  by_cases h1 : lo ≤ n <;> by_cases h2 : n ≤ hi
  all_goals
    go_enter Try.func116, Try.ntmps116
    go_wp2
    go_ret
    exact ⟨ret_b (by simp [inB, h1, h2]), rfl⟩

def refToolB (tip num den bite slack : Int) : Bool := inB 0 100 tip && inB 1 den num && inB 1 100 den && inB 1 1000 bite && inB 0 1000 slack
theorem refToolB_eq (tip num den bite slack : Int) : refToolB tip num den bite slack = toolB tip num den bite slack := by
  rw [Bool.eq_iff_iff]
  simp [refToolB, toolB, inB]
  omega

set_option maxHeartbeats 1000000 in
theorem refTool_any (tip num den bite slack : Int) (w : World) :
    Calls Try.prog 130 #[toolV tip num den bite slack] w fun e w' => e = .returned (.bool (toolB tip num den bite slack)) ∧ Ext w w' := by
  rw [← refToolB_eq]
  go_enter Try.func130, Try.ntmps130
  go_wp2_with (go_at_call 116; (with_reducible refine (within_any _ _ _ _).mono ?_); rintro e _ ⟨rfl, rfl⟩)
  all_goals go_ret
  all_goals exact ⟨ret_b (by simp [refToolB, *]), by (repeat' (first | with_reducible exact Ext.refl _ | with_reducible apply Ext.alloc | with_reducible apply Ext.drew | with_reducible apply Ext.drewN | with_reducible refine Ext.setCell ?_ ?_ _ | with_reducible apply Ext.step | with_reducible assumption | with_reducible exact Nat.le_refl _ | (simp; done) | (simp; omega)))⟩

theorem refHigh_any (tip num den bite slack press : Int) (w : World) (hb1 : 1 ≤ bite) (hb2 : bite ≤ 1000) (hs1 : 0 ≤ slack) (hs2 : slack ≤ 1000) (hp1 : 0 ≤ press) (hp2 : press ≤ 1000) :
    Calls Try.prog 90 #[toolV tip num den bite slack, .int .i64 press] w fun e w' => e = .returned (.int .i64 (highOf bite slack press)) ∧ Ext w w' := by
  obtain ⟨hm1, hm2⟩ := mul_bd hp1 hp2 (Int.le_trans (by decide) hb1) hb2
  go_enter Try.func90, Try.ntmps90
  go_wp2
  go_ret
  exact ⟨rfl, by (repeat' (first | with_reducible exact Ext.refl _ | with_reducible apply Ext.alloc | with_reducible apply Ext.drew | with_reducible apply Ext.drewN | with_reducible refine Ext.setCell ?_ ?_ _ | with_reducible apply Ext.step | with_reducible assumption | with_reducible exact Nat.le_refl _ | (simp; done) | (simp; omega)))⟩
end Go.Proofs.Ytlljhimaopnbfaa
