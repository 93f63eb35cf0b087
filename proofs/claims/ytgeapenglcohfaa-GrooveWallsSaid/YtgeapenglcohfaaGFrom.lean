/- The reference's distance of a spot from a segment, and whether segments meet. Conditions: bounds. -/
import Derived.Test.YtgeapenglcohfaaGRef
namespace Go.Proofs.Ytgeapenglcohfaa
open Go.RowKit

set_option maxRecDepth 100000 in
set_option maxHeartbeats 8000000 in
theorem fromSegment_any (px py ax ay bx by' : Int) (w : World) (h1 : Co px) (h2 : Co py) (h3 : Co ax) (h4 : Co ay) (h5 : Co bx) (h6 : Co by') :
    Calls Try.prog 101 #[V2 px py, V2 ax ay, V2 bx by'] w fun e w' => e = .returned (V2 (lowF (spotN px py ax ay bx by') (spotD px py ax ay bx by')).1 (lowF (spotN px py ax ay bx by') (spotD px py ax ay bx by')).2) ∧ Ext w w' := by
  have hsq := spotP_bd (p := (px, py)) (a := (ax, ay)) (b := (bx, by')) ⟨h1, h2⟩ ⟨h3, h4⟩ ⟨h5, h6⟩
  obtain ⟨hsn0, hsn1, hsd0, hsd1⟩ := hsq
  simp only [spotP] at hsn0 hsn1 hsd0 hsd1
  have HLOW := fun W : World => lowest_any (spotN px py ax ay bx by') (spotD px py ax ay bx by') W hsn0 (by omega) hsd0 (by omega)
  clear hsn0 hsn1 hsd0 hsd1
  have HN := Lib.hid (show spotN px py ax ay bx by' = if alongP px py ax ay bx by' ≤ 0 then sizeP ax ay px py else if sizeP ax ay bx by' ≤ alongP px py ax ay bx by' then sizeP bx by' px py else crossP px py ax ay bx by' * crossP px py ax ay bx by' from rfl)
  have HDN := Lib.hid (show spotD px py ax ay bx by' = if alongP px py ax ay bx by' ≤ 0 then 1 else if sizeP ax ay bx by' ≤ alongP px py ax ay bx by' then 1 else sizeP ax ay bx by' from rfl)
  generalize spotN px py ax ay bx by' = sn at *
  generalize spotD px py ax ay bx by' = sd at *
  have HLW := Lib.hid HLOW
  clear HLOW
  go_enter Try.func101, Try.ntmps101
  go_wp2_with fail
  refine wp_region_mk ([⟨6, 8, 7, 56, #[.int .i64 0, .int .i64 0], 15⟩, ⟨7, 9, 8, 56, #[.int .i64 0, .int .i64 0], 18⟩]) (by kernel_rfl) (by kernel_rfl) ?_ ?_
  · intro m hm o ho ρ W
    simp only [List.mem_cons, List.not_mem_nil, or_false] at hm
    rcases hm with rfl | rfl <;> (cases ho; go_simp)
  repeat (any_goals (first | (refine wpX_skip (by rfl) ?_) | (refine wpX_pass (by rfl) (by rfl) ?_) | (refine wpX_stepK (by rfl) (by rfl) (fun K hK => ?_); go_simp; first | (refine hK _ ?_; clear hK K) | (apply Exists.intro; refine ⟨fun δ => ?_, hK _ ?_⟩; (focus (go_at_call 112; exact minus_any _ _ _ _ _ (by assumption) (by assumption) (by assumption) (by assumption))); clear hK K))))
  all_goals refine wpX_nil ⟨?_, ?_⟩
  any_goals (intro m hm; simp only [List.mem_cons, List.not_mem_nil, or_false] at hm; rcases hm with rfl | rfl <;> exact ⟨by kernel_rfl, rfl, by simp [Value.cells, Value.oneCell']⟩)
  all_goals refine mk_two (by decide) ?_
  rintro b7 b8 δ hb7 hb8 hne m7 m8
  have X1 : Ext w δ.wd := Ext.trans (by (repeat' (first | with_reducible exact Ext.refl _ | with_reducible apply Ext.alloc | with_reducible apply Ext.drew | with_reducible apply Ext.drewN | with_reducible refine Ext.setCell ?_ ?_ _ | with_reducible apply Ext.step | with_reducible assumption | with_reducible exact Nat.le_refl _ | (simp; done) | (simp; omega)))) ⟨δ, rfl⟩
  have k0 : δ.wd.cell? ⟨b7, 0, none⟩ = some (.int .i64 (bx - ax)) := (m7.cell 0).trans (by simp [Value.cells])
  have k1 : δ.wd.cell? ⟨b7, 1, none⟩ = some (.int .i64 (by' - ay)) := (m7.cell 1).trans (by simp [Value.cells])
  have k2 : δ.wd.cell? ⟨b8, 0, none⟩ = some (.int .i64 (px - ax)) := (m8.cell 0).trans (by simp [Value.cells])
  have k3 : δ.wd.cell? ⟨b8, 1, none⟩ = some (.int .i64 (py - ay)) := (m8.cell 1).trans (by simp [Value.cells])
  have hr : δ.wd.cell? ⟨w.heap.size + 1 + 1 + 1, 0, none⟩ = some (.int .i64 0) := Ext.cell_some ⟨δ, rfl⟩ (by go_cell)
  have hr1 : δ.wd.cell? ⟨w.heap.size + 1 + 1 + 1, 1, none⟩ = some (.int .i64 0) := Ext.cell_some ⟨δ, rfl⟩ (by go_cell)
  have hf : δ.wd.frozen? ⟨w.heap.size + 1 + 1 + 1, 0, none⟩ = false := Ext.frozen ⟨δ, rfl⟩ (v := .int .i64 0) (by go_cell) (by go_simp)
  have hf1 : δ.wd.frozen? ⟨w.heap.size + 1 + 1 + 1, 1, none⟩ = false := Ext.frozen ⟨δ, rfl⟩ (v := .int .i64 0) (by go_cell) (by go_simp)
  have HX1 := Lib.hid X1
  have k4 : δ.wd.cell? ⟨w.heap.size, 0, none⟩ = some (.int .i64 px) := Ext.cell_some ⟨δ, rfl⟩ (by go_cell)
  have k5 : δ.wd.cell? ⟨w.heap.size, 1, none⟩ = some (.int .i64 py) := Ext.cell_some ⟨δ, rfl⟩ (by go_cell)
  have k6 : δ.wd.cell? ⟨w.heap.size + 1 + 1, 0, none⟩ = some (.int .i64 bx) := Ext.cell_some ⟨δ, rfl⟩ (by go_cell)
  have k7 : δ.wd.cell? ⟨w.heap.size + 1 + 1, 1, none⟩ = some (.int .i64 by') := Ext.cell_some ⟨δ, rfl⟩ (by go_cell)
  replace m7 := cell_lt k0
  replace m8 := cell_lt k2
  have mr := cell_lt hr
  have mp := cell_lt k4
  have mb := cell_lt k6
  have HA := Lib.hid fun W : World => (show Calls Try.prog 115 #[V2 (bx - ax) (by' - ay), V2 (px - ax) (py - ay)] W fun e w' => e = .returned (.int .i64 (alongP px py ax ay bx by')) ∧ Ext W w' from refDot_any _ _ _ _ W (h5.sub h3) (h6.sub h4) (h1.sub h3) (h2.sub h4))
  have HS := Lib.hid fun W : World => (show Calls Try.prog 115 #[V2 (bx - ax) (by' - ay), V2 (bx - ax) (by' - ay)] W fun e w' => e = .returned (.int .i64 (sizeP ax ay bx by')) ∧ Ext W w' from refDot_any _ _ _ _ W (h5.sub h3) (h6.sub h4) (h5.sub h3) (h6.sub h4))
  have HV := Lib.hid fun W : World => (show Calls Try.prog 115 #[V2 (px - ax) (py - ay), V2 (px - ax) (py - ay)] W fun e w' => e = .returned (.int .i64 (sizeP ax ay px py)) ∧ Ext W w' from refDot_any _ _ _ _ W (h1.sub h3) (h2.sub h4) (h1.sub h3) (h2.sub h4))
  have HW := Lib.hid fun W : World => (show Calls Try.prog 115 #[V2 (px - bx) (py - by'), V2 (px - bx) (py - by')] W fun e w' => e = .returned (.int .i64 (sizeP bx by' px py)) ∧ Ext W w' from refDot_any _ _ _ _ W (h1.sub h5) (h2.sub h6) (h1.sub h5) (h2.sub h6))
  have HC := Lib.hid fun W : World => (show Calls Try.prog 114 #[V2 (bx - ax) (by' - ay), V2 (px - ax) (py - ay)] W fun e w' => e = .returned (.int .i64 (crossP px py ax ay bx by')) ∧ Ext W w' from refCross_any _ _ _ _ W (h5.sub h3) (h6.sub h4) (h1.sub h3) (h2.sub h4))
  have HWY := Lib.hid fun W : World => minus_any px py bx by' W h1 h2 h5 h6
  obtain ⟨c1, c2⟩ : -968000000 ≤ crossP px py ax ay bx by' ∧ crossP px py ax ay bx by' ≤ 968000000 := by
    have a1 := pr_bd (h5.sub h3) (h2.sub h4)
    have a2 := pr_bd (h6.sub h4) (h1.sub h3)
    unfold crossP
    omega
  obtain ⟨c3, c4⟩ : 0 ≤ crossP px py ax ay bx by' * crossP px py ax ay bx by' ∧ crossP px py ax ay bx by' * crossP px py ax ay bx by' ≤ 937024000000000000 := by
    generalize crossP px py ax ay bx by' = c at *
    have h : (c * c).natAbs ≤ 968000000 * 968000000 := by
      rw [Int.natAbs_mul]
      exact Nat.mul_le_mul (by omega) (by omega)
    have h0 := sq_nn c
    omega
  generalize alongP px py ax ay bx by' = al at *
  generalize crossP px py ax ay bx by' = cr at *
  generalize sizeP ax ay bx by' = sz at *
  generalize sizeP ax ay px py = sv at *
  generalize sizeP bx by' px py = sw at *
  generalize bx - ax = ux at *
  generalize by' - ay = uy at *
  generalize px - ax = vx at *
  generalize py - ay = vy at *
  generalize px - bx = wx at *
  generalize py - by' = wy at *
  generalize δ.wd = W1 at *
  clear hb7 hb8 hne h1 h2 h3 h4 h5 h6 c1 c2 X1
  by_cases q1 : al ≤ 0
  · obtain ⟨rfl, rfl⟩ : sn = sv ∧ sd = 1 := by rw [HN.out, HDN.out, if_pos q1, if_pos q1]; exact ⟨rfl, rfl⟩
    clear HN HDN
    go_wp2_with fail
    try go_frame
    refine wp_region_bext (by kernel_rfl) (by kernel_rfl) ?_
    repeat (any_goals (go_big_quiet_step ((first | (go_at_call 115; with_reducible exact bext_call (HA.out _)) | (go_at_call 115; with_reducible exact bext_call (HS.out _))))))
    all_goals refine wpQuiet_nil ?_
    all_goals rintro _ ⟨δ, rfl⟩
    have X2 : Ext W1 δ.wd := ⟨δ, rfl⟩
    replace hf := X2.frozen hr hf
    replace hf1 := X2.frozen hr1 hf1
    replace k0 := X2.cell_some k0
    replace k1 := X2.cell_some k1
    replace k2 := X2.cell_some k2
    replace k3 := X2.cell_some k3
    replace k4 := X2.cell_some k4
    replace k5 := X2.cell_some k5
    replace k6 := X2.cell_some k6
    replace k7 := X2.cell_some k7
    replace hr := X2.cell_some hr
    replace hr1 := X2.cell_some hr1
    replace m7 := cell_lt k0
    replace m8 := cell_lt k2
    replace mr := cell_lt hr
    replace mp := cell_lt k4
    replace mb := cell_lt k6
    have HX2 := Lib.hid (HX1.out.trans X2)
    generalize δ.wd = W2 at *
    clear X2
    go_wp2_with fail
    refine (HV.out _).mono ?_
    rintro e W3 ⟨rfl, x3⟩
    have X3 : Ext W2 W3 := Ext.trans (by (repeat' (first | with_reducible exact Ext.refl _ | with_reducible apply Ext.alloc | with_reducible apply Ext.drew | with_reducible apply Ext.drewN | with_reducible refine Ext.setCell ?_ ?_ _ | with_reducible apply Ext.step | with_reducible assumption | with_reducible exact Nat.le_refl _ | (simp; done) | (simp; omega)))) x3
    have HX3 := Lib.hid (HX2.out.trans X3)
    replace hf := X3.frozen hr hf
    replace hf1 := X3.frozen hr1 hf1
    replace k0 := X3.cell_some k0
    replace k1 := X3.cell_some k1
    replace k2 := X3.cell_some k2
    replace k3 := X3.cell_some k3
    replace k4 := X3.cell_some k4
    replace k5 := X3.cell_some k5
    replace k6 := X3.cell_some k6
    replace k7 := X3.cell_some k7
    replace hr := X3.cell_some hr
    replace hr1 := X3.cell_some hr1
    replace m7 := cell_lt k0
    replace m8 := cell_lt k2
    replace mr := cell_lt hr
    replace mp := cell_lt k4
    replace mb := cell_lt k6
    clear X3 x3
    go_wp2_with fail
    refine (HLW.out _).mono ?_
    rintro e W4 ⟨rfl, x3⟩
    have X3 : Ext W3 W4 := Ext.trans (by (repeat' (first | with_reducible exact Ext.refl _ | with_reducible apply Ext.alloc | with_reducible apply Ext.drew | with_reducible apply Ext.drewN | with_reducible refine Ext.setCell ?_ ?_ _ | with_reducible apply Ext.step | with_reducible assumption | with_reducible exact Nat.le_refl _ | (simp; done) | (simp; omega)))) x3
    have HX4 := Lib.hid (HX3.out.trans X3)
    replace hf := X3.frozen hr hf
    replace hf1 := X3.frozen hr1 hf1
    replace k0 := X3.cell_some k0
    replace k1 := X3.cell_some k1
    replace k2 := X3.cell_some k2
    replace k3 := X3.cell_some k3
    replace k4 := X3.cell_some k4
    replace k5 := X3.cell_some k5
    replace k6 := X3.cell_some k6
    replace k7 := X3.cell_some k7
    replace hr := X3.cell_some hr
    replace hr1 := X3.cell_some hr1
    replace m7 := cell_lt k0
    replace m8 := cell_lt k2
    replace mr := cell_lt hr
    replace mp := cell_lt k4
    replace mb := cell_lt k6
    clear X3 x3
    go_wp2_with fail
    have z0 := cell_set_same (u := .int .i64 (lowF sn 1).1) hr
    have z1 := (set2 hr hr1 (.int .i64 (lowF sn 1).1) (.int .i64 (lowF sn 1).2)).2
    exact bodyPost_ret (v := V2 (lowF sn 1).1 (lowF sn 1).2) (by simp [results, Try.results101, go_sem, z0, z1]) rfl ⟨rfl, (HX4.out.setCell (by simp <;> omega) _).setCell (by simp <;> omega) _⟩
  by_cases q2 : sz ≤ al
  · obtain ⟨rfl, rfl⟩ : sn = sw ∧ sd = 1 := by rw [HN.out, HDN.out, if_neg q1, if_neg q1, if_pos q2, if_pos q2]; exact ⟨rfl, rfl⟩
    clear HN HDN
    go_wp2_with fail
    try go_frame
    refine wp_region_bext (by kernel_rfl) (by kernel_rfl) ?_
    repeat (any_goals (go_big_quiet_step ((first | (go_at_call 115; with_reducible exact bext_call (HA.out _)) | (go_at_call 115; with_reducible exact bext_call (HS.out _))))))
    all_goals refine wpQuiet_nil ?_
    all_goals rintro _ ⟨δ, rfl⟩
    have X2 : Ext W1 δ.wd := ⟨δ, rfl⟩
    replace hf := X2.frozen hr hf
    replace hf1 := X2.frozen hr1 hf1
    replace k0 := X2.cell_some k0
    replace k1 := X2.cell_some k1
    replace k2 := X2.cell_some k2
    replace k3 := X2.cell_some k3
    replace k4 := X2.cell_some k4
    replace k5 := X2.cell_some k5
    replace k6 := X2.cell_some k6
    replace k7 := X2.cell_some k7
    replace hr := X2.cell_some hr
    replace hr1 := X2.cell_some hr1
    replace m7 := cell_lt k0
    replace m8 := cell_lt k2
    replace mr := cell_lt hr
    replace mp := cell_lt k4
    replace mb := cell_lt k6
    have HX2 := Lib.hid (HX1.out.trans X2)
    generalize δ.wd = W2 at *
    clear X2
    go_wp2_with fail
    refine (HWY.out _).mono ?_
    rintro e W3 ⟨rfl, x3⟩
    have X3 : Ext W2 W3 := Ext.trans (by (repeat' (first | with_reducible exact Ext.refl _ | with_reducible apply Ext.alloc | with_reducible apply Ext.drew | with_reducible apply Ext.drewN | with_reducible refine Ext.setCell ?_ ?_ _ | with_reducible apply Ext.step | with_reducible assumption | with_reducible exact Nat.le_refl _ | (simp; done) | (simp; omega)))) x3
    have HX3 := Lib.hid (HX2.out.trans X3)
    replace hf := X3.frozen hr hf
    replace hf1 := X3.frozen hr1 hf1
    replace k0 := X3.cell_some k0
    replace k1 := X3.cell_some k1
    replace k2 := X3.cell_some k2
    replace k3 := X3.cell_some k3
    replace k4 := X3.cell_some k4
    replace k5 := X3.cell_some k5
    replace k6 := X3.cell_some k6
    replace k7 := X3.cell_some k7
    replace hr := X3.cell_some hr
    replace hr1 := X3.cell_some hr1
    replace m7 := cell_lt k0
    replace m8 := cell_lt k2
    replace mr := cell_lt hr
    replace mp := cell_lt k4
    replace mb := cell_lt k6
    clear X3 x3
    go_wp2_with fail
    refine (HW.out _).mono ?_
    rintro e W4 ⟨rfl, x3⟩
    have X3 : Ext W3 W4 := Ext.trans (by (repeat' (first | with_reducible exact Ext.refl _ | with_reducible apply Ext.alloc | with_reducible apply Ext.drew | with_reducible apply Ext.drewN | with_reducible refine Ext.setCell ?_ ?_ _ | with_reducible apply Ext.step | with_reducible assumption | with_reducible exact Nat.le_refl _ | (simp; done) | (simp; omega)))) x3
    have HX4 := Lib.hid (HX3.out.trans X3)
    replace hf := X3.frozen hr hf
    replace hf1 := X3.frozen hr1 hf1
    replace k0 := X3.cell_some k0
    replace k1 := X3.cell_some k1
    replace k2 := X3.cell_some k2
    replace k3 := X3.cell_some k3
    replace k4 := X3.cell_some k4
    replace k5 := X3.cell_some k5
    replace k6 := X3.cell_some k6
    replace k7 := X3.cell_some k7
    replace hr := X3.cell_some hr
    replace hr1 := X3.cell_some hr1
    replace m7 := cell_lt k0
    replace m8 := cell_lt k2
    replace mr := cell_lt hr
    replace mp := cell_lt k4
    replace mb := cell_lt k6
    clear X3 x3
    go_wp2_with fail
    refine (HLW.out _).mono ?_
    rintro e W5 ⟨rfl, x3⟩
    have X3 : Ext W4 W5 := Ext.trans (by (repeat' (first | with_reducible exact Ext.refl _ | with_reducible apply Ext.alloc | with_reducible apply Ext.drew | with_reducible apply Ext.drewN | with_reducible refine Ext.setCell ?_ ?_ _ | with_reducible apply Ext.step | with_reducible assumption | with_reducible exact Nat.le_refl _ | (simp; done) | (simp; omega)))) x3
    have HX5 := Lib.hid (HX4.out.trans X3)
    replace hf := X3.frozen hr hf
    replace hf1 := X3.frozen hr1 hf1
    replace k0 := X3.cell_some k0
    replace k1 := X3.cell_some k1
    replace k2 := X3.cell_some k2
    replace k3 := X3.cell_some k3
    replace k4 := X3.cell_some k4
    replace k5 := X3.cell_some k5
    replace k6 := X3.cell_some k6
    replace k7 := X3.cell_some k7
    replace hr := X3.cell_some hr
    replace hr1 := X3.cell_some hr1
    replace m7 := cell_lt k0
    replace m8 := cell_lt k2
    replace mr := cell_lt hr
    replace mp := cell_lt k4
    replace mb := cell_lt k6
    clear X3 x3
    go_wp2_with fail
    have z0 := cell_set_same (u := .int .i64 (lowF sn 1).1) hr
    have z1 := (set2 hr hr1 (.int .i64 (lowF sn 1).1) (.int .i64 (lowF sn 1).2)).2
    exact bodyPost_ret (v := V2 (lowF sn 1).1 (lowF sn 1).2) (by simp [results, Try.results101, go_sem, z0, z1]) rfl ⟨rfl, (HX5.out.setCell (by simp <;> omega) _).setCell (by simp <;> omega) _⟩
  · obtain ⟨rfl, rfl⟩ : sn = cr * cr ∧ sd = sz := by rw [HN.out, HDN.out, if_neg q1, if_neg q1, if_neg q2, if_neg q2]; exact ⟨rfl, rfl⟩
    clear HN HDN
    go_wp2_with fail
    try go_frame
    refine wp_region_bext (by kernel_rfl) (by kernel_rfl) ?_
    repeat (any_goals (go_big_quiet_step ((first | (go_at_call 115; with_reducible exact bext_call (HA.out _)) | (go_at_call 115; with_reducible exact bext_call (HS.out _))))))
    all_goals refine wpQuiet_nil ?_
    all_goals rintro _ ⟨δ, rfl⟩
    have X2 : Ext W1 δ.wd := ⟨δ, rfl⟩
    replace hf := X2.frozen hr hf
    replace hf1 := X2.frozen hr1 hf1
    replace k0 := X2.cell_some k0
    replace k1 := X2.cell_some k1
    replace k2 := X2.cell_some k2
    replace k3 := X2.cell_some k3
    replace k4 := X2.cell_some k4
    replace k5 := X2.cell_some k5
    replace k6 := X2.cell_some k6
    replace k7 := X2.cell_some k7
    replace hr := X2.cell_some hr
    replace hr1 := X2.cell_some hr1
    replace m7 := cell_lt k0
    replace m8 := cell_lt k2
    replace mr := cell_lt hr
    replace mp := cell_lt k4
    replace mb := cell_lt k6
    have HX2 := Lib.hid (HX1.out.trans X2)
    generalize δ.wd = W2 at *
    clear X2
    go_wp2_with fail
    refine (HC.out _).mono ?_
    rintro e W3 ⟨rfl, x3⟩
    have X3 : Ext W2 W3 := Ext.trans (by (repeat' (first | with_reducible exact Ext.refl _ | with_reducible apply Ext.alloc | with_reducible apply Ext.drew | with_reducible apply Ext.drewN | with_reducible refine Ext.setCell ?_ ?_ _ | with_reducible apply Ext.step | with_reducible assumption | with_reducible exact Nat.le_refl _ | (simp; done) | (simp; omega)))) x3
    have HX3 := Lib.hid (HX2.out.trans X3)
    replace hf := X3.frozen hr hf
    replace hf1 := X3.frozen hr1 hf1
    replace k0 := X3.cell_some k0
    replace k1 := X3.cell_some k1
    replace k2 := X3.cell_some k2
    replace k3 := X3.cell_some k3
    replace k4 := X3.cell_some k4
    replace k5 := X3.cell_some k5
    replace k6 := X3.cell_some k6
    replace k7 := X3.cell_some k7
    replace hr := X3.cell_some hr
    replace hr1 := X3.cell_some hr1
    replace m7 := cell_lt k0
    replace m8 := cell_lt k2
    replace mr := cell_lt hr
    replace mp := cell_lt k4
    replace mb := cell_lt k6
    clear X3 x3
    go_wp2_with fail
    refine (HLW.out _).mono ?_
    rintro e W4 ⟨rfl, x3⟩
    have X3 : Ext W3 W4 := Ext.trans (by (repeat' (first | with_reducible exact Ext.refl _ | with_reducible apply Ext.alloc | with_reducible apply Ext.drew | with_reducible apply Ext.drewN | with_reducible refine Ext.setCell ?_ ?_ _ | with_reducible apply Ext.step | with_reducible assumption | with_reducible exact Nat.le_refl _ | (simp; done) | (simp; omega)))) x3
    have HX4 := Lib.hid (HX3.out.trans X3)
    replace hf := X3.frozen hr hf
    replace hf1 := X3.frozen hr1 hf1
    replace k0 := X3.cell_some k0
    replace k1 := X3.cell_some k1
    replace k2 := X3.cell_some k2
    replace k3 := X3.cell_some k3
    replace k4 := X3.cell_some k4
    replace k5 := X3.cell_some k5
    replace k6 := X3.cell_some k6
    replace k7 := X3.cell_some k7
    replace hr := X3.cell_some hr
    replace hr1 := X3.cell_some hr1
    replace m7 := cell_lt k0
    replace m8 := cell_lt k2
    replace mr := cell_lt hr
    replace mp := cell_lt k4
    replace mb := cell_lt k6
    clear X3 x3
    go_wp2_with fail
    have z0 := cell_set_same (u := .int .i64 (lowF (cr * cr) sd).1) hr
    have z1 := (set2 hr hr1 (.int .i64 (lowF (cr * cr) sd).1) (.int .i64 (lowF (cr * cr) sd).2)).2
    exact bodyPost_ret (v := V2 (lowF (cr * cr) sd).1 (lowF (cr * cr) sd).2) (by simp [results, Try.results101, go_sem, z0, z1]) rfl ⟨rfl, (HX4.out.setCell (by simp <;> omega) _).setCell (by simp <;> omega) _⟩

/-- Two segments cross each other. -/
def meetB (ax ay bx by' cx cy dx dy : Int) : Bool := apartB ax ay bx by' cx cy dx dy && apartB cx cy dx dy ax ay bx by'

set_option maxRecDepth 100000 in
set_option maxHeartbeats 8000000 in
theorem meet_any (ax ay bx by' cx cy dx dy : Int) (w : World) (h1 : Co ax) (h2 : Co ay) (h3 : Co bx) (h4 : Co by') (h5 : Co cx) (h6 : Co cy) (h7 : Co dx) (h8 : Co dy) :
    Calls Try.prog 100 #[V2 ax ay, V2 bx by', V2 cx cy, V2 dx dy] w fun e w' => e = .returned (.bool (meetB ax ay bx by' cx cy dx dy)) ∧ Ext w w' := by
  have HM := Lib.hid (show meetB ax ay bx by' cx cy dx dy = (decide (signI (crossP cx cy ax ay bx by') * signI (crossP dx dy ax ay bx by') < 0) && decide (signI (crossP ax ay cx cy dx dy) * signI (crossP bx by' cx cy dx dy) < 0)) by
    have e1 : apartB ax ay bx by' cx cy dx dy = decide (signI (crossP cx cy ax ay bx by') * signI (crossP dx dy ax ay bx by') < 0) := by
      rw [Bool.eq_iff_iff, decide_eq_true_eq, sign_neg]; rfl
    have e2 : apartB cx cy dx dy ax ay bx by' = decide (signI (crossP ax ay cx cy dx dy) * signI (crossP bx by' cx cy dx dy) < 0) := by
      rw [Bool.eq_iff_iff, decide_eq_true_eq, sign_neg]; rfl
    rw [meetB, e1, e2])
  have HC1 := Lib.hid fun W : World => (show Calls Try.prog 114 #[V2 (bx - ax) (by' - ay), V2 (cx - ax) (cy - ay)] W fun e w' => e = .returned (.int .i64 (crossP cx cy ax ay bx by')) ∧ Ext W w' from refCross_any _ _ _ _ W (h3.sub h1) (h4.sub h2) (h5.sub h1) (h6.sub h2))
  have HC2 := Lib.hid fun W : World => (show Calls Try.prog 114 #[V2 (bx - ax) (by' - ay), V2 (dx - ax) (dy - ay)] W fun e w' => e = .returned (.int .i64 (crossP dx dy ax ay bx by')) ∧ Ext W w' from refCross_any _ _ _ _ W (h3.sub h1) (h4.sub h2) (h7.sub h1) (h8.sub h2))
  have HC3 := Lib.hid fun W : World => (show Calls Try.prog 114 #[V2 (dx - cx) (dy - cy), V2 (ax - cx) (ay - cy)] W fun e w' => e = .returned (.int .i64 (crossP ax ay cx cy dx dy)) ∧ Ext W w' from refCross_any _ _ _ _ W (h7.sub h5) (h8.sub h6) (h1.sub h5) (h2.sub h6))
  have HC4 := Lib.hid fun W : World => (show Calls Try.prog 114 #[V2 (dx - cx) (dy - cy), V2 (bx - cx) (by' - cy)] W fun e w' => e = .returned (.int .i64 (crossP bx by' cx cy dx dy)) ∧ Ext W w' from refCross_any _ _ _ _ W (h7.sub h5) (h8.sub h6) (h3.sub h5) (h4.sub h6))
  have HM1 := Lib.hid fun W : World => minus_any cx cy ax ay W h5 h6 h1 h2
  have HM2 := Lib.hid fun W : World => minus_any dx dy ax ay W h7 h8 h1 h2
  have HM3 := Lib.hid fun W : World => minus_any ax ay cx cy W h1 h2 h5 h6
  have HM4 := Lib.hid fun W : World => minus_any bx by' cx cy W h3 h4 h5 h6
  generalize crossP cx cy ax ay bx by' = m1 at *
  generalize crossP dx dy ax ay bx by' = m2 at *
  generalize crossP ax ay cx cy dx dy = m3 at *
  generalize crossP bx by' cx cy dx dy = m4 at *
  have HS1 := Lib.hid fun W : World => sign_any m1 W
  have HS2 := Lib.hid fun W : World => sign_any m2 W
  have HS3 := Lib.hid fun W : World => sign_any m3 W
  have HS4 := Lib.hid fun W : World => sign_any m4 W
  have b1 := sign_bd m1
  have b2 := sign_bd m2
  have b3 := sign_bd m3
  have b4 := sign_bd m4
  go_enter Try.func100, Try.ntmps100
  go_wp2_with fail
  refine wp_region_mk ([⟨6, 8, 9, 56, #[.int .i64 0, .int .i64 0], 13⟩, ⟨7, 9, 10, 56, #[.int .i64 0, .int .i64 0], 16⟩]) (by kernel_rfl) (by kernel_rfl) ?_ ?_
  · intro m hm o ho ρ W
    simp only [List.mem_cons, List.not_mem_nil, or_false] at hm
    rcases hm with rfl | rfl <;> (cases ho; go_simp)
  repeat (any_goals (first | (refine wpX_skip (by rfl) ?_) | (refine wpX_pass (by rfl) (by rfl) ?_) | (refine wpX_stepK (by rfl) (by rfl) (fun K hK => ?_); go_simp; first | (refine hK _ ?_; clear hK K) | (apply Exists.intro; refine ⟨fun δ => ?_, hK _ ?_⟩; (focus (go_at_call 112; exact minus_any _ _ _ _ _ (by assumption) (by assumption) (by assumption) (by assumption))); clear hK K))))
  all_goals refine wpX_nil ⟨?_, ?_⟩
  any_goals (intro m hm; simp only [List.mem_cons, List.not_mem_nil, or_false] at hm; rcases hm with rfl | rfl <;> exact ⟨by kernel_rfl, rfl, by simp [Value.cells, Value.oneCell']⟩)
  all_goals refine mk_two (by decide) ?_
  rintro b7 b8 δ hb7 hb8 hne m7 m8
  have X1 : Ext w δ.wd := Ext.trans (by (repeat' (first | with_reducible exact Ext.refl _ | with_reducible apply Ext.alloc | with_reducible apply Ext.drew | with_reducible apply Ext.drewN | with_reducible refine Ext.setCell ?_ ?_ _ | with_reducible apply Ext.step | with_reducible assumption | with_reducible exact Nat.le_refl _ | (simp; done) | (simp; omega)))) ⟨δ, rfl⟩
  have k0 : δ.wd.cell? ⟨b7, 0, none⟩ = some (.int .i64 (bx - ax)) := (m7.cell 0).trans (by simp [Value.cells])
  have k1 : δ.wd.cell? ⟨b7, 1, none⟩ = some (.int .i64 (by' - ay)) := (m7.cell 1).trans (by simp [Value.cells])
  have k2 : δ.wd.cell? ⟨b8, 0, none⟩ = some (.int .i64 (dx - cx)) := (m8.cell 0).trans (by simp [Value.cells])
  have k3 : δ.wd.cell? ⟨b8, 1, none⟩ = some (.int .i64 (dy - cy)) := (m8.cell 1).trans (by simp [Value.cells])
  have a0 : δ.wd.cell? ⟨w.heap.size, 0, none⟩ = some (.int .i64 ax) := Ext.cell_some ⟨δ, rfl⟩ (by go_cell)
  have a1 : δ.wd.cell? ⟨w.heap.size, 1, none⟩ = some (.int .i64 ay) := Ext.cell_some ⟨δ, rfl⟩ (by go_cell)
  have a2 : δ.wd.cell? ⟨w.heap.size + 1, 0, none⟩ = some (.int .i64 bx) := Ext.cell_some ⟨δ, rfl⟩ (by go_cell)
  have a3 : δ.wd.cell? ⟨w.heap.size + 1, 1, none⟩ = some (.int .i64 by') := Ext.cell_some ⟨δ, rfl⟩ (by go_cell)
  have a4 : δ.wd.cell? ⟨w.heap.size + 1 + 1, 0, none⟩ = some (.int .i64 cx) := Ext.cell_some ⟨δ, rfl⟩ (by go_cell)
  have a5 : δ.wd.cell? ⟨w.heap.size + 1 + 1, 1, none⟩ = some (.int .i64 cy) := Ext.cell_some ⟨δ, rfl⟩ (by go_cell)
  have a6 : δ.wd.cell? ⟨w.heap.size + 1 + 1 + 1, 0, none⟩ = some (.int .i64 dx) := Ext.cell_some ⟨δ, rfl⟩ (by go_cell)
  have a7 : δ.wd.cell? ⟨w.heap.size + 1 + 1 + 1, 1, none⟩ = some (.int .i64 dy) := Ext.cell_some ⟨δ, rfl⟩ (by go_cell)
  have HX1 := Lib.hid X1
  replace m7 := cell_lt k0
  replace m8 := cell_lt k2
  have l0 := cell_lt a0
  have l1 := cell_lt a2
  have l2 := cell_lt a4
  have l3 := cell_lt a6
  generalize bx - ax = ux at *
  generalize by' - ay = uy at *
  generalize dx - cx = vx at *
  generalize dy - cy = vy at *
  generalize cx - ax = q1 at *
  generalize cy - ay = q2 at *
  generalize dx - ax = q3 at *
  generalize dy - ay = q4 at *
  generalize ax - cx = q5 at *
  generalize ay - cy = q6 at *
  generalize bx - cx = q7 at *
  generalize by' - cy = q8 at *
  generalize δ.wd = W1 at *
  clear hb7 hb8 hne h1 h2 h3 h4 h5 h6 h7 h8 X1
  have p1 : -1 ≤ signI m1 * signI m2 ∧ signI m1 * signI m2 ≤ 1 := by
    rcases (by omega : signI m1 = -1 ∨ signI m1 = 0 ∨ signI m1 = 1) with h | h | h <;> rw [h] <;> omega
  have p2 : -1 ≤ signI m3 * signI m4 ∧ signI m3 * signI m4 ≤ 1 := by
    rcases (by omega : signI m3 = -1 ∨ signI m3 = 0 ∨ signI m3 = 1) with h | h | h <;> rw [h] <;> omega
  have e1 : IntKind.i64.wrap (signI m1 * signI m2) = signI m1 * signI m2 := IntWalk.i64_in _ (by omega)
  have e2 : IntKind.i64.wrap (signI m3 * signI m4) = signI m3 * signI m4 := IntWalk.i64_in _ (by omega)
  cases hv : decide (signI m1 * signI m2 < 0)
  · rw [hv] at HM
    go_wp2_with fail
    try go_frame
    refine wp_region_bext (by kernel_rfl) (by kernel_rfl) ?_
    repeat (any_goals (go_big_quiet_step ((first | (go_at_call 112; with_reducible exact bext_call (HM1.out _)) | (go_at_call 112; with_reducible exact bext_call (HM2.out _)) | (go_at_call 114; with_reducible exact bext_call (HC1.out _)) | (go_at_call 114; with_reducible exact bext_call (HC2.out _)) | (go_at_call 113; with_reducible exact bext_same (HS1.out _)) | (go_at_call 113; with_reducible exact bext_same (HS2.out _))))))
    all_goals refine wpQuiet_nil ?_
    all_goals rintro _ ⟨δ, rfl⟩
    go_wp2_with fail
    go_ret
    exact ⟨ret_b HM.out.symm, HX1.out.trans (by (repeat' (first | with_reducible exact Ext.refl _ | with_reducible apply Ext.alloc | with_reducible apply Ext.drew | with_reducible apply Ext.drewN | with_reducible refine Ext.setCell ?_ ?_ _ | with_reducible apply Ext.step | with_reducible assumption | with_reducible exact Nat.le_refl _ | (simp; done) | (simp; omega))))⟩
  · rw [hv] at HM
    cases hv2 : decide (signI m3 * signI m4 < 0)
    all_goals
      rw [hv2] at HM
      go_wp2_with fail
      try go_frame
      refine wp_region_bext (by kernel_rfl) (by kernel_rfl) ?_
      repeat (any_goals (go_big_quiet_step ((first | (go_at_call 112; with_reducible exact bext_call (HM1.out _)) | (go_at_call 112; with_reducible exact bext_call (HM2.out _)) | (go_at_call 112; with_reducible exact bext_call (HM3.out _)) | (go_at_call 112; with_reducible exact bext_call (HM4.out _)) | (go_at_call 114; with_reducible exact bext_call (HC1.out _)) | (go_at_call 114; with_reducible exact bext_call (HC2.out _)) | (go_at_call 114; with_reducible exact bext_call (HC3.out _)) | (go_at_call 114; with_reducible exact bext_call (HC4.out _)) | (go_at_call 113; with_reducible exact bext_same (HS1.out _)) | (go_at_call 113; with_reducible exact bext_same (HS2.out _)) | (go_at_call 113; with_reducible exact bext_same (HS3.out _)) | (go_at_call 113; with_reducible exact bext_same (HS4.out _))))))
      all_goals refine wpQuiet_nil ?_
      all_goals rintro _ ⟨δ, rfl⟩
      go_wp2_with fail
      go_ret
      exact ⟨ret_b HM.out.symm, HX1.out.trans (by (repeat' (first | with_reducible exact Ext.refl _ | with_reducible apply Ext.alloc | with_reducible apply Ext.drew | with_reducible apply Ext.drewN | with_reducible refine Ext.setCell ?_ ?_ _ | with_reducible apply Ext.step | with_reducible assumption | with_reducible exact Nat.le_refl _ | (simp; done) | (simp; omega))))⟩
end Go.Proofs.Ytgeapenglcohfaa
