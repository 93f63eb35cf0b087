/- The reference's costs: abs, more, fewer. Conditions: bounds. -/
import Derived.Test.YtgeapenglcohfaaGHidT
import Derived.Test.YtgeapenglcohfaaRefTools
import Derived.StillTailTactics
namespace Go.Proofs.Ytgeapenglcohfaa
open Go.RowKit

attribute [local go_sem] Oper.semAt_some

theorem abs_any (n : Int) (w : World) (h : -100 ≤ n ∧ n ≤ 100) : Calls Try.prog 70 #[.int .i64 n] w fun e w' => e = .returned (.int .i64 (max n (-n))) ∧ w = w' := by
  obtain ⟨h1, h2⟩ := h
  obtain ⟨m, hm⟩ : ∃ m, m = max n (-n) := ⟨_, rfl⟩
  have hm1 : (if n < -n then -n else n) = m := by split <;> omega
  rw [← hm]
  clear hm
  go_enter Try.func70, Try.ntmps70
  go_wp2
  go_ret
  exact ⟨rfl, rfl⟩
theorem abs_ext (n : Int) (w : World) (h : -100 ≤ n ∧ n ≤ 100) : Calls Try.prog 70 #[.int .i64 n] w fun e w' => e = .returned (.int .i64 (max n (-n))) ∧ Ext w w' :=
  (abs_any n w h).mono fun _ _ h => ⟨h.1, h.2 ▸ Ext.refl _⟩

set_option maxHeartbeats 1000000 in
theorem fewer_any (a b : Cst) (w : World) :
    Calls Try.prog 72 #[V3 a.1 a.2.1 a.2.2, V3 b.1 b.2.1 b.2.2] w fun e w' => e = .returned (.bool (fewC a b)) ∧ Ext w w' := by
  obtain ⟨ac, as', an⟩ := a
  obtain ⟨bc, bs, bn⟩ := b
  cases an <;> cases bn
  case true.true =>
    have HB := Lib.hid (show fewC (ac, as', true) (bc, bs, true) = (decide (ac < bc) || (decide (ac = bc) && decide (as' < bs))) by simp [fewC])
    by_cases h1 : ac < bc
    · have HB2 := Lib.hid (show fewC (ac, as', true) (bc, bs, true) = true by rw [HB.out]; simp [h1])
      go_enter Try.func72, Try.ntmps72
      go_wp2
      go_ret
      exact ⟨ret_b (by rw [HB2.out]), by (repeat' (first | with_reducible exact Ext.refl _ | with_reducible apply Ext.alloc | with_reducible apply Ext.drew | with_reducible apply Ext.drewN | with_reducible refine Ext.setCell ?_ ?_ _ | with_reducible apply Ext.step | with_reducible assumption | with_reducible exact Nat.le_refl _ | (simp; done) | (simp; omega)))⟩
    · by_cases h2 : ac = bc
      · subst h2
        have HB2 := Lib.hid (show fewC (ac, as', true) (ac, bs, true) = decide (as' < bs) by rw [HB.out]; simp)
        go_enter Try.func72, Try.ntmps72
        go_wp2
        go_ret
        exact ⟨ret_b (by rw [HB2.out]), by (repeat' (first | with_reducible exact Ext.refl _ | with_reducible apply Ext.alloc | with_reducible apply Ext.drew | with_reducible apply Ext.drewN | with_reducible refine Ext.setCell ?_ ?_ _ | with_reducible apply Ext.step | with_reducible assumption | with_reducible exact Nat.le_refl _ | (simp; done) | (simp; omega)))⟩
      · have h2b : (ac == bc) = false := by simpa using h2
        have HB2 := Lib.hid (show fewC (ac, as', true) (bc, bs, true) = false by rw [HB.out]; simp [h1, h2])
        go_enter Try.func72, Try.ntmps72
        go_wp2
        go_ret
        exact ⟨ret_b (by rw [HB2.out]), by (repeat' (first | with_reducible exact Ext.refl _ | with_reducible apply Ext.alloc | with_reducible apply Ext.drew | with_reducible apply Ext.drewN | with_reducible refine Ext.setCell ?_ ?_ _ | with_reducible apply Ext.step | with_reducible assumption | with_reducible exact Nat.le_refl _ | (simp; done) | (simp; omega)))⟩
  all_goals
    go_enter Try.func72, Try.ntmps72
    go_wp2
    go_ret
    exact ⟨ret_b (by simp [fewC]), by (repeat' (first | with_reducible exact Ext.refl _ | with_reducible apply Ext.alloc | with_reducible apply Ext.drew | with_reducible apply Ext.drewN | with_reducible refine Ext.setCell ?_ ?_ _ | with_reducible apply Ext.step | with_reducible assumption | with_reducible exact Nat.le_refl _ | (simp; done) | (simp; omega)))⟩

set_option maxRecDepth 100000 in
set_option maxHeartbeats 4000000 in
theorem more_any (a : Cst) (n : Int) (w : World) (h1 : 0 ≤ a.1 ∧ a.1 ≤ 1000000000) (h2 : 0 ≤ a.2.1 ∧ a.2.1 ≤ 1000000000) (hn : -20 ≤ n ∧ n ≤ 20) :
    Calls Try.prog 71 #[V3 a.1 a.2.1 a.2.2, .int .i64 n] w fun e w' => e = .returned (V3 (moreC a n).1 (moreC a n).2.1 (moreC a n).2.2) ∧ Ext w w' := by
  obtain ⟨ac, as', an⟩ := a
  obtain ⟨h1, h1'⟩ := h1
  obtain ⟨h2, h2'⟩ := h2
  obtain ⟨h3, h3'⟩ := hn
  simp only at h1 h1' h2 h2' ⊢
  have HA := Lib.hid fun W : World => abs_ext n W ⟨by omega, by omega⟩
  obtain ⟨m, hm⟩ : ∃ m, m = max n (-n) := ⟨_, rfl⟩
  rw [← hm] at HA
  have hm2 : 0 ≤ m := by omega
  have hm3 : m ≤ 20 := by omega
  obtain ⟨a1, ha1⟩ : ∃ a1, a1 = if n = 0 then ac else ac + 1 := ⟨_, rfl⟩
  have HP := Lib.hid (show moreC (ac, as', an) n = (a1, as' + m, an) by unfold moreC; rw [ha1, hm])
  have hsum : IntKind.i64.wrap (as' + m) = as' + m := IntWalk.i64_in _ (by omega)
  by_cases hz : n = 0
  case' pos =>
    have hzb : (n != 0) = false := by simpa using hz
    rw [if_pos hz] at ha1
  case' neg =>
    have hzb : (n != 0) = true := by simpa using hz
    rw [if_neg hz] at ha1
  all_goals
    have HA1 := Lib.hid ha1
    clear hm hz ha1
    go_enter Try.func71, Try.ntmps71
    go_wp2_with fail
    refine lay_wp (fun W => Ext w W ∧ (W.cell? ⟨w.heap.size, 0, none⟩ = some (.int .i64 a1) ∧ W.cell? ⟨w.heap.size, 1, none⟩ = some (.int .i64 as') ∧ W.cell? ⟨w.heap.size, 2, none⟩ = some (.bool an) ∧ W.frozen? ⟨w.heap.size, 1, none⟩ = false) ∧
      (W.cell? ⟨w.heap.size + 1, 0, none⟩ = some (.int .i64 0) ∧ W.cell? ⟨w.heap.size + 1, 1, none⟩ = some (.int .i64 0) ∧ W.cell? ⟨w.heap.size + 1, 2, none⟩ = some (.bool false)) ∧ W.frozen? ⟨w.heap.size + 1, 0, none⟩ = false ∧ W.frozen? ⟨w.heap.size + 1, 1, none⟩ = false ∧ W.frozen? ⟨w.heap.size + 1, 2, none⟩ = false)
      ⟨by (repeat' (first | with_reducible exact Ext.refl _ | with_reducible apply Ext.alloc | with_reducible apply Ext.drew | with_reducible apply Ext.drewN | with_reducible refine Ext.setCell ?_ ?_ _ | with_reducible apply Ext.step | with_reducible assumption | with_reducible exact Nat.le_refl _ | (simp; done) | (simp; omega))), ⟨by rw [HA1.out]; go_cell, by go_cell, by go_cell, by go_simp⟩, ⟨by go_cell, by go_cell, by go_cell⟩, by go_simp, by go_simp, by go_simp⟩ ?_
    rintro W1 ⟨x1, ⟨c0, c1, c2, f1⟩, ⟨r0, r1, r2⟩, g0, g1, g2⟩
    have HX1 := Lib.hid x1
    clear x1
    have q1 := But.cells (D := []) c1 (by simp)
    have lc := cell_lt c0
    have lr := cell_lt r0
    refine (wpIn_wide (n := 3)).1 ?_
    refine wpIn_region_steps [] 6 [(0, true), (1, true), (2, true), (3, true), (4, true), (5, true)] (by kernel_rfl) (by kernel_rfl) ?_
    iterate 3 (refine wpSD_q (by rfl) (fun _ _ _ => trivial) (fun K hK => ?_); go_simp; refine hK _ ?_; clear hK K)
    refine wpSD_q (by rfl) (fun _ _ _ => trivial) (fun K hK => ?_)
    go_simp
    refine ⟨_, fun δ => callsIn_wide.2 (HA.out δ.wd), hK _ ?_⟩
    clear hK K
    iterate 2 (refine wpSD_q (by rfl) (fun _ _ _ => trivial) (fun K hK => ?_); go_simp; refine hK _ ?_; clear hK K)
    refine wpSD_nil ?_
    intro W2 x2
    have HX2 := Lib.hid (HX1.out.trans x2)
    replace f1 := x2.frozen c1 f1
    replace g0 := x2.frozen r0 g0
    replace g1 := x2.frozen r1 g1
    replace g2 := x2.frozen r2 g2
    replace c0 := x2.cell_some c0
    replace c1 := x2.cell_some c1
    replace c2 := x2.cell_some c2
    replace r0 := x2.cell_some r0
    replace r1 := x2.cell_some r1
    replace r2 := x2.cell_some r2
    replace lc := cell_lt c0
    replace lr := cell_lt r0
    clear x2 q1
    simp only [List.drop_succ_cons, List.drop_zero]
    gi_wp2
    go_wp2_with fail
    have hne : w.heap.size + 1 ≠ w.heap.size := by omega
    have hc : CostAt (w.heap.size + 1) 0 (a1, as' + m, an) _ := (CostAt.oth (p := 1) (b := w.heap.size) (⟨r0, r1, r2, g0, g1, g2⟩ : CostAt (w.heap.size + 1) 0 (0, 0, false) W2) (.int .i64 (as' + m)) (.inl hne)).put (a1, as' + m, an)
    have z0 := hc.c0
    have z1 := hc.c1
    have z2 := hc.c2
    simp only [Nat.zero_add] at z0 z1 z2
    exact bodyPost_ret (v := V3 a1 (as' + m) an) (by simp [results, Try.results71, go_sem, z0, z1, z2]) rfl ⟨by rw [HP.out], (((HX2.out.setCell (by simp) _).setCell (by simp) _).setCell (by simp) _).setCell (by simp) _⟩
end Go.Proofs.Ytgeapenglcohfaa
