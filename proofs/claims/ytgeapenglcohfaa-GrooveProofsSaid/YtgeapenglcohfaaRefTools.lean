/- The reference's tools, depths and halves: what each call computes. No condition. -/
import Derived.Test.YtgeapenglcohfaaDepth
import Derived.BigGuardPart
namespace Go.Proofs.Ytgeapenglcohfaa
open Go.RowKit

theorem within_any (n lo hi : Int) (w : World) :
    Calls Try.prog 63 #[.int .i64 n, .int .i64 lo, .int .i64 hi] w fun e w' => e = .returned (.bool (inB lo hi n)) ∧ w = w' := by
  by_cases h1 : lo ≤ n <;> by_cases h2 : n ≤ hi
  all_goals
    go_enter Try.func63, Try.ntmps63
    go_wp2
    go_ret
    exact ⟨ret_b (by simp [inB, h1, h2]), rfl⟩

def refToolB (tip num den bite slack : Int) : Bool := inB 0 100 tip && inB 1 den num && inB 1 100 den && inB 1 1000 bite && inB 0 1000 slack
theorem refToolB_eq (tip num den bite slack : Int) : refToolB tip num den bite slack = toolB tip num den bite slack := by
  rw [Bool.eq_iff_iff]
  simp [refToolB, toolB, inB]
  omega

set_option maxHeartbeats 1000000 in
theorem refTool_any (tip num den bite slack : Int) (w : World) :
    Calls Try.prog 62 #[toolV tip num den bite slack] w fun e w' => e = .returned (.bool (toolB tip num den bite slack)) ∧ Ext w w' := by
  rw [← refToolB_eq]
  go_enter Try.func62, Try.ntmps62
  go_wp2_with (go_at_call 63; (with_reducible refine (within_any _ _ _ _).mono ?_); rintro e _ ⟨rfl, rfl⟩)
  all_goals go_ret
  all_goals exact ⟨ret_b (by simp [refToolB, *]), by (repeat' (first | with_reducible exact Ext.refl _ | with_reducible apply Ext.alloc | with_reducible apply Ext.drew | with_reducible apply Ext.drewN | with_reducible refine Ext.setCell ?_ ?_ _ | with_reducible apply Ext.step | with_reducible assumption | with_reducible exact Nat.le_refl _ | (simp; done) | (simp; omega)))⟩

set_option maxHeartbeats 1000000 in
theorem refCheckTool_any (tip num den bite slack : Int) (w : World) :
    Calls Try.prog 25 #[toolV tip num den bite slack] w fun e w' => e = .returned (.int .i64 (toolE tip num den bite slack)) ∧ Ext w w' := by
  cases h1 : toolB tip num den bite slack
  all_goals
    have hT := Lib.hid (show toolE tip num den bite slack = _ from by rw [toolE, h1])
    go_enter Try.func25, Try.ntmps25
    go_wp2_with fail
    refine (refTool_any _ _ _ _ _ _).mono ?_
    rintro e _ ⟨rfl, hx⟩
    obtain ⟨δ, rfl⟩ : Ext (w.alloc (.cells #[.int .i64 tip, .int .i64 num, .int .i64 den, .int .i64 bite, .int .i64 slack] 23)) _ := Ext.trans (by (repeat' (first | with_reducible exact Ext.refl _ | with_reducible apply Ext.alloc | with_reducible apply Ext.drew | with_reducible apply Ext.drewN | with_reducible refine Ext.setCell ?_ ?_ _ | with_reducible apply Ext.step | with_reducible assumption | with_reducible exact Nat.le_refl _ | (simp; done) | (simp; omega)))) hx
    clear hx
    go_wp2_with fail
    go_ret
    exact ⟨ret_i (by rw [hT.out]; rfl), by (repeat' (first | with_reducible exact Ext.refl _ | with_reducible apply Ext.alloc | with_reducible apply Ext.drew | with_reducible apply Ext.drewN | with_reducible refine Ext.setCell ?_ ?_ _ | with_reducible apply Ext.step | with_reducible assumption | with_reducible exact Nat.le_refl _ | (simp; done) | (simp; omega)))⟩

theorem refHigh_any (tip num den bite slack press : Int) (w : World) (hb1 : 1 ≤ bite) (hb2 : bite ≤ 1000) (hs1 : 0 ≤ slack) (hs2 : slack ≤ 1000) (hp1 : 0 ≤ press) (hp2 : press ≤ 1000) :
    Calls Try.prog 64 #[toolV tip num den bite slack, .int .i64 press] w fun e w' => e = .returned (.int .i64 (highOf bite slack press)) ∧ Ext w w' := by
  obtain ⟨hm1, hm2⟩ := mul_bd hp1 hp2 (Int.le_trans (by decide) hb1) hb2
  go_enter Try.func64, Try.ntmps64
  go_wp2
  go_ret
  exact ⟨rfl, by (repeat' (first | with_reducible exact Ext.refl _ | with_reducible apply Ext.alloc | with_reducible apply Ext.drew | with_reducible apply Ext.drewN | with_reducible refine Ext.setCell ?_ ?_ _ | with_reducible apply Ext.step | with_reducible assumption | with_reducible exact Nat.le_refl _ | (simp; done) | (simp; omega)))⟩

set_option maxHeartbeats 1000000 in
theorem refDepth_any (tip num den bite slack press : Int) (w : World) :
    Calls Try.prog 21 #[toolV tip num den bite slack, .int .i64 press] w fun e w' => e = .returned (depthV tip num den bite slack press) ∧ Ext w w' := by
  cases h1 : toolB tip num den bite slack
  · have hE := Lib.hid (show depthE tip num den bite slack press = 50 by simp [depthE, h1])
    have hH := Lib.hid (show depthHi tip num den bite slack press = 0 by simp [depthHi, h1])
    have hL := Lib.hid (show depthLo tip num den bite slack press = 0 by simp [depthLo, h1])
    go_enter Try.func21, Try.ntmps21
    go_wp2_with fail
    refine (refTool_any _ _ _ _ _ _).mono ?_
    rintro e _ ⟨rfl, hx⟩
    obtain ⟨δ, rfl⟩ : Ext (w.alloc (.cells #[.int .i64 tip, .int .i64 num, .int .i64 den, .int .i64 bite, .int .i64 slack] 23)) _ := Ext.trans (by (repeat' (first | with_reducible exact Ext.refl _ | with_reducible apply Ext.alloc | with_reducible apply Ext.drew | with_reducible apply Ext.drewN | with_reducible refine Ext.setCell ?_ ?_ _ | with_reducible apply Ext.step | with_reducible assumption | with_reducible exact Nat.le_refl _ | (simp; done) | (simp; omega)))) hx
    clear hx
    go_wp2_with fail
    go_ret3
    exact ⟨by rw [depthV, hE.out, hH.out, hL.out]; rfl, by (repeat' (first | with_reducible exact Ext.refl _ | with_reducible apply Ext.alloc | with_reducible apply Ext.drew | with_reducible apply Ext.drewN | with_reducible refine Ext.setCell ?_ ?_ _ | with_reducible apply Ext.step | with_reducible assumption | with_reducible exact Nat.le_refl _ | (simp; done) | (simp; omega)))⟩
  cases h2 : inB 0 1000 press
  · have hE := Lib.hid (show depthE tip num den bite slack press = 2 by simp [depthE, h1, h2])
    have hH := Lib.hid (show depthHi tip num den bite slack press = 0 by simp [depthHi, h1, h2])
    have hL := Lib.hid (show depthLo tip num den bite slack press = 0 by simp [depthLo, h1, h2])
    go_enter Try.func21, Try.ntmps21
    go_wp2_with fail
    refine (refTool_any _ _ _ _ _ _).mono ?_
    rintro e _ ⟨rfl, hx⟩
    obtain ⟨δ, rfl⟩ : Ext (w.alloc (.cells #[.int .i64 tip, .int .i64 num, .int .i64 den, .int .i64 bite, .int .i64 slack] 23)) _ := Ext.trans (by (repeat' (first | with_reducible exact Ext.refl _ | with_reducible apply Ext.alloc | with_reducible apply Ext.drew | with_reducible apply Ext.drewN | with_reducible refine Ext.setCell ?_ ?_ _ | with_reducible apply Ext.step | with_reducible assumption | with_reducible exact Nat.le_refl _ | (simp; done) | (simp; omega)))) hx
    clear hx
    go_wp2_with fail
    refine (within_any _ _ _ _).mono ?_
    rintro e _ ⟨rfl, rfl⟩
    go_wp2_with fail
    go_ret3
    exact ⟨by rw [depthV, hE.out, hH.out, hL.out]; rfl, by (repeat' (first | with_reducible exact Ext.refl _ | with_reducible apply Ext.alloc | with_reducible apply Ext.drew | with_reducible apply Ext.drewN | with_reducible refine Ext.setCell ?_ ?_ _ | with_reducible apply Ext.step | with_reducible assumption | with_reducible exact Nat.le_refl _ | (simp; done) | (simp; omega)))⟩
  have hE := Lib.hid (show depthE tip num den bite slack press = 0 by simp [depthE, h1, h2])
  have hH := Lib.hid (show depthHi tip num den bite slack press = highOf bite slack press by simp [depthHi, h1, h2])
  have hL := Lib.hid (show depthLo tip num den bite slack press = max (press * bite / 100 - slack) 0 by simp [depthLo, h1, h2])
  obtain ⟨_, _, _, _, ⟨hb1, hb2⟩, hs1, hs2⟩ := toolB_iff.1 h1
  obtain ⟨hp1, hp2⟩ := inB_iff.1 h2
  obtain ⟨hm1, hm2⟩ := mul_bd hp1 hp2 (Int.le_trans (by decide) hb1) hb2
  have HC := Lib.hid fun W => refHigh_any tip num den bite slack press W hb1 hb2 hs1 hs2 hp1 hp2
  go_enter Try.func21, Try.ntmps21
  go_wp2_with fail
  refine (refTool_any _ _ _ _ _ _).mono ?_
  rintro e _ ⟨rfl, hx⟩
  obtain ⟨δ, rfl⟩ : Ext (w.alloc (.cells #[.int .i64 tip, .int .i64 num, .int .i64 den, .int .i64 bite, .int .i64 slack] 23)) _ := Ext.trans (by (repeat' (first | with_reducible exact Ext.refl _ | with_reducible apply Ext.alloc | with_reducible apply Ext.drew | with_reducible apply Ext.drewN | with_reducible refine Ext.setCell ?_ ?_ _ | with_reducible apply Ext.step | with_reducible assumption | with_reducible exact Nat.le_refl _ | (simp; done) | (simp; omega)))) hx
  clear hx
  go_wp2_with fail
  refine (within_any _ _ _ _).mono ?_
  rintro e _ ⟨rfl, rfl⟩
  by_cases hd : 0 < press * bite / 100 - slack
  all_goals
    go_wp2_with fail
    refine wp_region_bext (by kernel_rfl) (by kernel_rfl) ?_
    repeat (any_goals (go_big_quiet_step (((go_at_call 64; exact bext_call (HC.out _))))))
    all_goals refine wpQuiet_nil ?_
    all_goals rintro _ ⟨δ, rfl⟩
    go_wp2_with fail
    go_ret3
    exact ⟨ret_i3 (by rw [hL.out]; omega) hH.out.symm hE.out.symm, by (repeat' (first | with_reducible exact Ext.refl _ | with_reducible apply Ext.alloc | with_reducible apply Ext.drew | with_reducible apply Ext.drewN | with_reducible refine Ext.setCell ?_ ?_ _ | with_reducible apply Ext.step | with_reducible assumption | with_reducible exact Nat.le_refl _ | (simp; done) | (simp; omega)))⟩

theorem refSide_any (tip num den bite slack depth : Int) (w : World) (ht1 : 0 ≤ tip) (ht2 : tip ≤ 100) (hn1 : 1 ≤ num) (hn2 : num ≤ 100) (hd1 : 1 ≤ den) (hd2 : den ≤ 100) (hp1 : 0 ≤ depth) (hp2 : depth ≤ 20000) :
    Calls Try.prog 65 #[toolV tip num den bite slack, .int .i64 depth] w fun e w' => e = .returned (.int .i64 (halfOf tip num den depth)) ∧ Ext w w' := by
  obtain ⟨hm1, hm2⟩ := mul_bd hp1 hp2 (Int.le_trans (by decide) hn1) hn2
  obtain ⟨hq1, hq2, _, _⟩ := div_bd (m := depth * num + den - 1) hd1 (by omega)
  go_enter Try.func65, Try.ntmps65
  go_wp2_with fail
  refine wp_region_bext (by kernel_rfl) (by kernel_rfl) ?_
  repeat (any_goals (go_big_quiet_step (fail)))
  all_goals refine wpQuiet_nil ?_
  all_goals rintro _ ⟨δ, rfl⟩
  go_wp2_with fail
  go_ret
  exact ⟨rfl, by (repeat' (first | with_reducible exact Ext.refl _ | with_reducible apply Ext.alloc | with_reducible apply Ext.drew | with_reducible apply Ext.drewN | with_reducible refine Ext.setCell ?_ ?_ _ | with_reducible apply Ext.step | with_reducible assumption | with_reducible exact Nat.le_refl _ | (simp; done) | (simp; omega)))⟩

set_option maxHeartbeats 1000000 in
theorem refHalf_any (tip num den bite slack depth : Int) (w : World) :
    Calls Try.prog 23 #[toolV tip num den bite slack, .int .i64 depth] w fun e w' => e = .returned (halfV tip num den bite slack depth) ∧ Ext w w' := by
  cases h1 : toolB tip num den bite slack
  · have hE := Lib.hid (show halfE tip num den bite slack depth = 50 by simp [halfE, h1])
    have hH := Lib.hid (show halfN tip num den bite slack depth = 0 by simp [halfN, h1])
    go_enter Try.func23, Try.ntmps23
    go_wp2_with fail
    refine (refTool_any _ _ _ _ _ _).mono ?_
    rintro e _ ⟨rfl, hx⟩
    obtain ⟨δ, rfl⟩ : Ext (w.alloc (.cells #[.int .i64 tip, .int .i64 num, .int .i64 den, .int .i64 bite, .int .i64 slack] 23)) _ := Ext.trans (by (repeat' (first | with_reducible exact Ext.refl _ | with_reducible apply Ext.alloc | with_reducible apply Ext.drew | with_reducible apply Ext.drewN | with_reducible refine Ext.setCell ?_ ?_ _ | with_reducible apply Ext.step | with_reducible assumption | with_reducible exact Nat.le_refl _ | (simp; done) | (simp; omega)))) hx
    clear hx
    go_wp2_with fail
    go_ret2
    exact ⟨by rw [halfV, hE.out, hH.out]; rfl, by (repeat' (first | with_reducible exact Ext.refl _ | with_reducible apply Ext.alloc | with_reducible apply Ext.drew | with_reducible apply Ext.drewN | with_reducible refine Ext.setCell ?_ ?_ _ | with_reducible apply Ext.step | with_reducible assumption | with_reducible exact Nat.le_refl _ | (simp; done) | (simp; omega)))⟩
  cases h2 : inB 0 20000 depth
  · have hE := Lib.hid (show halfE tip num den bite slack depth = 2 by simp [halfE, h1, h2])
    have hH := Lib.hid (show halfN tip num den bite slack depth = 0 by simp [halfN, h1, h2])
    go_enter Try.func23, Try.ntmps23
    go_wp2_with fail
    refine (refTool_any _ _ _ _ _ _).mono ?_
    rintro e _ ⟨rfl, hx⟩
    obtain ⟨δ, rfl⟩ : Ext (w.alloc (.cells #[.int .i64 tip, .int .i64 num, .int .i64 den, .int .i64 bite, .int .i64 slack] 23)) _ := Ext.trans (by (repeat' (first | with_reducible exact Ext.refl _ | with_reducible apply Ext.alloc | with_reducible apply Ext.drew | with_reducible apply Ext.drewN | with_reducible refine Ext.setCell ?_ ?_ _ | with_reducible apply Ext.step | with_reducible assumption | with_reducible exact Nat.le_refl _ | (simp; done) | (simp; omega)))) hx
    clear hx
    go_wp2_with fail
    refine (within_any _ _ _ _).mono ?_
    rintro e _ ⟨rfl, rfl⟩
    go_wp2_with fail
    go_ret2
    exact ⟨by rw [halfV, hE.out, hH.out]; rfl, by (repeat' (first | with_reducible exact Ext.refl _ | with_reducible apply Ext.alloc | with_reducible apply Ext.drew | with_reducible apply Ext.drewN | with_reducible refine Ext.setCell ?_ ?_ _ | with_reducible apply Ext.step | with_reducible assumption | with_reducible exact Nat.le_refl _ | (simp; done) | (simp; omega)))⟩
  have hE := Lib.hid (show halfE tip num den bite slack depth = 0 by simp [halfE, h1, h2])
  have hH := Lib.hid (show halfN tip num den bite slack depth = halfOf tip num den depth by simp [halfN, h1, h2])
  obtain ⟨⟨ht1, ht2⟩, ⟨hn1, hn2⟩, ⟨hd1, hd2⟩, _⟩ := toolB_iff.1 h1
  obtain ⟨hp1, hp2⟩ := inB_iff.1 h2
  go_enter Try.func23, Try.ntmps23
  go_wp2_with fail
  refine (refTool_any _ _ _ _ _ _).mono ?_
  rintro e _ ⟨rfl, hx⟩
  obtain ⟨δ, rfl⟩ : Ext (w.alloc (.cells #[.int .i64 tip, .int .i64 num, .int .i64 den, .int .i64 bite, .int .i64 slack] 23)) _ := Ext.trans (by (repeat' (first | with_reducible exact Ext.refl _ | with_reducible apply Ext.alloc | with_reducible apply Ext.drew | with_reducible apply Ext.drewN | with_reducible refine Ext.setCell ?_ ?_ _ | with_reducible apply Ext.step | with_reducible assumption | with_reducible exact Nat.le_refl _ | (simp; done) | (simp; omega)))) hx
  clear hx
  go_wp2_with fail
  refine (within_any _ _ _ _).mono ?_
  rintro e _ ⟨rfl, rfl⟩
  go_wp2_with fail
  refine (refSide_any _ _ _ _ _ _ _ ht1 ht2 hn1 hn2 hd1 hd2 hp1 hp2).mono ?_
  rintro e _ ⟨rfl, hx⟩
  obtain ⟨δ, rfl⟩ : Ext (w.alloc (.cells #[.int .i64 tip, .int .i64 num, .int .i64 den, .int .i64 bite, .int .i64 slack] 23)) _ := Ext.trans (by (repeat' (first | with_reducible exact Ext.refl _ | with_reducible apply Ext.alloc | with_reducible apply Ext.drew | with_reducible apply Ext.drewN | with_reducible refine Ext.setCell ?_ ?_ _ | with_reducible apply Ext.step | with_reducible assumption | with_reducible exact Nat.le_refl _ | (simp; done) | (simp; omega)))) hx
  clear hx
  go_wp2_with fail
  go_ret2
  exact ⟨ret_i2 hH.out.symm hE.out.symm, by (repeat' (first | with_reducible exact Ext.refl _ | with_reducible apply Ext.alloc | with_reducible apply Ext.drew | with_reducible apply Ext.drewN | with_reducible refine Ext.setCell ?_ ?_ _ | with_reducible apply Ext.step | with_reducible assumption | with_reducible exact Nat.le_refl _ | (simp; done) | (simp; omega)))⟩
end Go.Proofs.Ytgeapenglcohfaa
