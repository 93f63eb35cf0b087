/- groove.apart, isLine. Conditions: bounds of the coordinates; the slice reads as a list. -/
import Derived.Test.YtgeapenglcohfaaGSegs
import Derived.BigGuardPart
import Derived.Test.YtgeapenglcohfaaDraw
import Derived.Test.YtgeapenglcohfaaQS
namespace Go.Proofs.Ytgeapenglcohfaa
section
/- Geo: Steps and segments. Conditions: bounds of the coordinates. -/
open Go.RowKit

abbrev V2 (x y : Int) : Value := .agg #[.int .i64 x, .int .i64 y]

/-- A coordinate. -/
structure Co (x : Int) : Prop where
  lo : -11000 ≤ x
  hi : x ≤ 11000
/-- A difference of two coordinates. -/
structure Df (x : Int) : Prop where
  lo : -22000 ≤ x
  hi : x ≤ 22000
theorem Co.sub {x y : Int} (h : Co x) (k : Co y) : Df (x - y) := ⟨by have := h.lo; have := k.hi; omega, by have := h.hi; have := k.lo; omega⟩

theorem way_any (ax ay bx by' : Int) (w : World) (h1 : Co ax) (h2 : Co ay) (h3 : Co bx) (h4 : Co by') :
    Calls Try.prog 109 #[V2 ax ay, V2 bx by'] w fun e w' => e = .returned (V2 (bx - ax) (by' - ay)) ∧ Ext w w' := by
  obtain ⟨a1, a2⟩ := h1
  obtain ⟨b1, b2⟩ := h2
  obtain ⟨c1, c2⟩ := h3
  obtain ⟨d1, d2⟩ := h4
  go_enter Try.func109, Try.ntmps109
  go_wp2
  go_returns
  exact ⟨rfl, by (repeat' (first | with_reducible exact Ext.refl _ | with_reducible apply Ext.alloc | with_reducible apply Ext.drew | with_reducible apply Ext.drewN | with_reducible refine Ext.setCell ?_ ?_ _ | with_reducible apply Ext.step | with_reducible assumption | with_reducible exact Nat.le_refl _ | (simp; done) | (simp; omega)))⟩

theorem pr_bd {x y : Int} (h : Df x) (k : Df y) : -484000000 ≤ x * y ∧ x * y ≤ 484000000 := by
  obtain ⟨a1, a2⟩ := h
  obtain ⟨b1, b2⟩ := k
  have h : (x * y).natAbs ≤ 22000 * 22000 := by
    rw [Int.natAbs_mul]
    exact Nat.mul_le_mul (by omega) (by omega)
  omega

theorem dot_any (x y z u : Int) (w : World) (h1 : Df x) (h2 : Df y) (h3 : Df z) (h4 : Df u) :
    Calls Try.prog 111 #[V2 x y, V2 z u] w fun e w' => e = .returned (.int .i64 (x * z + y * u)) ∧ Ext w w' := by
  obtain ⟨a1, a2⟩ := pr_bd h1 h3
  obtain ⟨b1, b2⟩ := pr_bd h2 h4
  go_enter Try.func111, Try.ntmps111
  go_wp2
  go_ret
  exact ⟨rfl, by (repeat' (first | with_reducible exact Ext.refl _ | with_reducible apply Ext.alloc | with_reducible apply Ext.drew | with_reducible apply Ext.drewN | with_reducible refine Ext.setCell ?_ ?_ _ | with_reducible apply Ext.step | with_reducible assumption | with_reducible exact Nat.le_refl _ | (simp; done) | (simp; omega)))⟩
theorem cross_any (x y z u : Int) (w : World) (h1 : Df x) (h2 : Df y) (h3 : Df z) (h4 : Df u) :
    Calls Try.prog 110 #[V2 x y, V2 z u] w fun e w' => e = .returned (.int .i64 (x * u - y * z)) ∧ Ext w w' := by
  obtain ⟨a1, a2⟩ := pr_bd h1 h4
  obtain ⟨b1, b2⟩ := pr_bd h2 h3
  go_enter Try.func110, Try.ntmps110
  go_wp2
  go_ret
  exact ⟨rfl, by (repeat' (first | with_reducible exact Ext.refl _ | with_reducible apply Ext.alloc | with_reducible apply Ext.drew | with_reducible apply Ext.drewN | with_reducible refine Ext.setCell ?_ ?_ _ | with_reducible apply Ext.step | with_reducible assumption | with_reducible exact Nat.le_refl _ | (simp; done) | (simp; omega)))⟩
end
section
/- Spot: A spot's distance from a segment. Conditions: bounds of the coordinates. -/
open Go.RowKit

/-- The square of the distance of p from the segment a b: what is above, what is below. -/
def alongP (px py ax ay bx by' : Int) : Int := (bx - ax) * (px - ax) + (by' - ay) * (py - ay)
def sizeP (ax ay bx by' : Int) : Int := (bx - ax) * (bx - ax) + (by' - ay) * (by' - ay)
def crossP (px py ax ay bx by' : Int) : Int := (bx - ax) * (py - ay) - (by' - ay) * (px - ax)
def spotN (px py ax ay bx by' : Int) : Int := if alongP px py ax ay bx by' ≤ 0 then sizeP ax ay px py else if sizeP ax ay bx by' ≤ alongP px py ax ay bx by' then sizeP bx by' px py else crossP px py ax ay bx by' * crossP px py ax ay bx by'
def spotD (px py ax ay bx by' : Int) : Int := if alongP px py ax ay bx by' ≤ 0 then 1 else if sizeP ax ay bx by' ≤ alongP px py ax ay bx by' then 1 else sizeP ax ay bx by'

set_option maxHeartbeats 4000000 in
theorem spot_any (px py ax ay bx by' : Int) (w : World) (h1 : Co px) (h2 : Co py) (h3 : Co ax) (h4 : Co ay) (h5 : Co bx) (h6 : Co by') :
    Calls Try.prog 99 #[V2 px py, V2 ax ay, V2 bx by'] w fun e w' => e = .returned (V2 (spotN px py ax ay bx by') (spotD px py ax ay bx by')) ∧ Ext w w' := by
  go_enter Try.func99, Try.ntmps99
  go_wp2_with fail
  refine wp_region_mk ([⟨6, 8, 7, 174, #[.int .i64 0, .int .i64 0], 15⟩, ⟨7, 9, 8, 174, #[.int .i64 0, .int .i64 0], 18⟩]) (by kernel_rfl) (by kernel_rfl) ?_ ?_
  · intro m hm o ho ρ W
    simp only [List.mem_cons, List.not_mem_nil, or_false] at hm
    rcases hm with rfl | rfl <;> (cases ho; go_simp)
  repeat (any_goals (first | (refine wpX_skip (by rfl) ?_) | (refine wpX_pass (by rfl) (by rfl) ?_) | (refine wpX_stepK (by rfl) (by rfl) (fun K hK => ?_); go_simp; first | (refine hK _ ?_; clear hK K) | (apply Exists.intro; refine ⟨fun δ => ?_, hK _ ?_⟩; (focus (go_at_call 109; exact way_any _ _ _ _ _ (by assumption) (by assumption) (by assumption) (by assumption))); clear hK K))))
  all_goals refine wpX_nil ⟨?_, ?_⟩
  any_goals (intro m hm; simp only [List.mem_cons, List.not_mem_nil, or_false] at hm; rcases hm with rfl | rfl <;> exact ⟨by kernel_rfl, rfl, by simp [Value.cells, Value.oneCell']⟩)
  all_goals refine mk_two (by decide) ?_
  rintro b7 b8 δ hb7 hb8 hne m7 m8
  have X1 : Ext w δ.wd := Ext.trans (by (repeat' (first | with_reducible exact Ext.refl _ | with_reducible apply Ext.alloc | with_reducible apply Ext.drew | with_reducible apply Ext.drewN | with_reducible refine Ext.setCell ?_ ?_ _ | with_reducible apply Ext.step | with_reducible assumption | with_reducible exact Nat.le_refl _ | (simp; done) | (simp; omega)))) ⟨δ, rfl⟩
  have k0 : δ.wd.cell? ⟨b7, 0, none⟩ = some (.int .i64 (bx - ax)) := (m7.cell 0).trans (by simp [Value.cells])
  have k1 : δ.wd.cell? ⟨b7, 1, none⟩ = some (.int .i64 (by' - ay)) := (m7.cell 1).trans (by simp [Value.cells])
  have k2 : δ.wd.cell? ⟨b8, 0, none⟩ = some (.int .i64 (px - ax)) := (m8.cell 0).trans (by simp [Value.cells])
  have k3 : δ.wd.cell? ⟨b8, 1, none⟩ = some (.int .i64 (py - ay)) := (m8.cell 1).trans (by simp [Value.cells])
  have hr : δ.wd.cell? ⟨w.heap.size + 1 + 1 + 1, 0, none⟩ = some (.int .i64 0) := Ext.cell_some ⟨δ, rfl⟩ (by go_cell)
  have hr1 : δ.wd.cell? ⟨w.heap.size + 1 + 1 + 1, 1, none⟩ = some (.int .i64 0) := Ext.cell_some ⟨δ, rfl⟩ (by go_cell)
  have hf : δ.wd.frozen? ⟨w.heap.size + 1 + 1 + 1, 0, none⟩ = false := Ext.frozen ⟨δ, rfl⟩ (v := .int .i64 0) (by go_cell) (by go_simp)
  have hf1 : δ.wd.frozen? ⟨w.heap.size + 1 + 1 + 1, 1, none⟩ = false := Ext.frozen ⟨δ, rfl⟩ (v := .int .i64 0) (by go_cell) (by go_simp)
  have l7 := cell_lt k0
  have l8 := cell_lt k2
  have lr := cell_lt hr
  have HX1 := Lib.hid X1
  have k4 : δ.wd.cell? ⟨w.heap.size, 0, none⟩ = some (.int .i64 px) := Ext.cell_some ⟨δ, rfl⟩ (by go_cell)
  have k5 : δ.wd.cell? ⟨w.heap.size, 1, none⟩ = some (.int .i64 py) := Ext.cell_some ⟨δ, rfl⟩ (by go_cell)
  have k6 : δ.wd.cell? ⟨w.heap.size + 1 + 1, 0, none⟩ = some (.int .i64 bx) := Ext.cell_some ⟨δ, rfl⟩ (by go_cell)
  have k7 : δ.wd.cell? ⟨w.heap.size + 1 + 1, 1, none⟩ = some (.int .i64 by') := Ext.cell_some ⟨δ, rfl⟩ (by go_cell)
  have HN := Lib.hid (show spotN px py ax ay bx by' = if alongP px py ax ay bx by' ≤ 0 then sizeP ax ay px py else if sizeP ax ay bx by' ≤ alongP px py ax ay bx by' then sizeP bx by' px py else crossP px py ax ay bx by' * crossP px py ax ay bx by' from rfl)
  have HDN := Lib.hid (show spotD px py ax ay bx by' = if alongP px py ax ay bx by' ≤ 0 then 1 else if sizeP ax ay bx by' ≤ alongP px py ax ay bx by' then 1 else sizeP ax ay bx by' from rfl)
  have HA := Lib.hid fun W : World => (show Calls Try.prog 111 #[V2 (bx - ax) (by' - ay), V2 (px - ax) (py - ay)] W fun e w' => e = .returned (.int .i64 (alongP px py ax ay bx by')) ∧ Ext W w' from dot_any _ _ _ _ W (h5.sub h3) (h6.sub h4) (h1.sub h3) (h2.sub h4))
  have HS := Lib.hid fun W : World => (show Calls Try.prog 111 #[V2 (bx - ax) (by' - ay), V2 (bx - ax) (by' - ay)] W fun e w' => e = .returned (.int .i64 (sizeP ax ay bx by')) ∧ Ext W w' from dot_any _ _ _ _ W (h5.sub h3) (h6.sub h4) (h5.sub h3) (h6.sub h4))
  have HV := Lib.hid fun W : World => (show Calls Try.prog 111 #[V2 (px - ax) (py - ay), V2 (px - ax) (py - ay)] W fun e w' => e = .returned (.int .i64 (sizeP ax ay px py)) ∧ Ext W w' from dot_any _ _ _ _ W (h1.sub h3) (h2.sub h4) (h1.sub h3) (h2.sub h4))
  have HW := Lib.hid fun W : World => (show Calls Try.prog 111 #[V2 (px - bx) (py - by'), V2 (px - bx) (py - by')] W fun e w' => e = .returned (.int .i64 (sizeP bx by' px py)) ∧ Ext W w' from dot_any _ _ _ _ W (h1.sub h5) (h2.sub h6) (h1.sub h5) (h2.sub h6))
  have HC := Lib.hid fun W : World => (show Calls Try.prog 110 #[V2 (bx - ax) (by' - ay), V2 (px - ax) (py - ay)] W fun e w' => e = .returned (.int .i64 (crossP px py ax ay bx by')) ∧ Ext W w' from cross_any _ _ _ _ W (h5.sub h3) (h6.sub h4) (h1.sub h3) (h2.sub h4))
  have HWY := Lib.hid fun W : World => way_any bx by' px py W h5 h6 h1 h2
  obtain ⟨c1, c2⟩ : -968000000 ≤ crossP px py ax ay bx by' ∧ crossP px py ax ay bx by' ≤ 968000000 := by
    have a1 := pr_bd (h5.sub h3) (h2.sub h4)
    have a2 := pr_bd (h6.sub h4) (h1.sub h3)
    unfold crossP
    omega
  obtain ⟨c3, c4⟩ : 0 ≤ crossP px py ax ay bx by' * crossP px py ax ay bx by' ∧ crossP px py ax ay bx by' * crossP px py ax ay bx by' ≤ 937024000000000000 := by
    generalize crossP px py ax ay bx by' = c at *
    have h : (c * c).natAbs ≤ 968000000 * 968000000 := by
      rw [Int.natAbs_mul]
      exact Nat.mul_le_mul (by omega) (by omega)
    have h0 : 0 ≤ c * c := by
      rcases Int.le_total 0 c with h | h
      · exact Int.mul_nonneg h h
      · have := Int.mul_nonneg (Int.neg_nonneg.2 h) (Int.neg_nonneg.2 h); rwa [Int.neg_mul_neg] at this
    omega
  generalize alongP px py ax ay bx by' = al at *
  generalize crossP px py ax ay bx by' = cr at *
  generalize sizeP ax ay bx by' = sz at *
  generalize sizeP ax ay px py = sv at *
  generalize sizeP bx by' px py = sw at *
  generalize bx - ax = ux at *
  generalize by' - ay = uy at *
  generalize px - ax = vx at *
  generalize py - ay = vy at *
  generalize px - bx = wx at *
  generalize py - by' = wy at *
  generalize δ.wd = W1 at *
  clear m7 m8 hb7 hb8 hne h1 h2 h3 h4 h5 h6 c1 c2 X1
  by_cases q1 : al ≤ 0
  · have HE := Lib.hid (show spotN px py ax ay bx by' = sv ∧ spotD px py ax ay bx by' = 1 by rw [HN.out, HDN.out, if_pos q1, if_pos q1]; exact ⟨rfl, rfl⟩)
    go_wp2_with fail
    try go_frame
    refine wp_region_bext (by kernel_rfl) (by kernel_rfl) ?_
    repeat (any_goals (go_big_quiet_step ((first | (go_at_call 111; with_reducible exact bext_call (HA.out _)) | (go_at_call 111; with_reducible exact bext_call (HS.out _))))))
    all_goals refine wpQuiet_nil ?_
    all_goals rintro _ ⟨δ, rfl⟩
    have X2 : Ext W1 δ.wd := ⟨δ, rfl⟩
    replace hf := X2.frozen hr hf
    replace hf1 := X2.frozen hr1 hf1
    replace k0 := X2.cell_some k0
    replace k1 := X2.cell_some k1
    replace k2 := X2.cell_some k2
    replace k3 := X2.cell_some k3
    replace k4 := X2.cell_some k4
    replace k5 := X2.cell_some k5
    replace k6 := X2.cell_some k6
    replace k7 := X2.cell_some k7
    replace hr := X2.cell_some hr
    replace hr1 := X2.cell_some hr1
    have HX2 := Lib.hid (HX1.out.trans X2)
    generalize δ.wd = W2 at *
    have m7 := cell_lt k0
    have m8 := cell_lt k2
    have mr := cell_lt hr
    have mp := cell_lt k4
    have mb := cell_lt k6
    clear X2 l7 l8 lr
    go_wp2_with fail
    refine (HV.out _).mono ?_
    rintro e W3 ⟨rfl, x3⟩
    have X3 : Ext W2 W3 := Ext.trans (by (repeat' (first | with_reducible exact Ext.refl _ | with_reducible apply Ext.alloc | with_reducible apply Ext.drew | with_reducible apply Ext.drewN | with_reducible refine Ext.setCell ?_ ?_ _ | with_reducible apply Ext.step | with_reducible assumption | with_reducible exact Nat.le_refl _ | (simp; done) | (simp; omega)))) x3
    have HX3 := Lib.hid (HX2.out.trans X3)
    replace hf := X3.frozen hr hf
    replace hf1 := X3.frozen hr1 hf1
    replace k0 := X3.cell_some k0
    replace k1 := X3.cell_some k1
    replace k2 := X3.cell_some k2
    replace k3 := X3.cell_some k3
    replace k4 := X3.cell_some k4
    replace k5 := X3.cell_some k5
    replace k6 := X3.cell_some k6
    replace k7 := X3.cell_some k7
    replace hr := X3.cell_some hr
    replace hr1 := X3.cell_some hr1
    replace m7 := cell_lt k0
    replace m8 := cell_lt k2
    replace mr := cell_lt hr
    replace mp := cell_lt k4
    replace mb := cell_lt k6
    clear X3 x3
    go_wp2_with fail
    have hset := set2 hr hr1 (.int .i64 (sv)) (.int .i64 (1))
    have X9 : Ext w _ := ((HX3.out.setCell (p := ⟨w.heap.size + 1 + 1 + 1, 0, none⟩) (by simp <;> omega) (.int .i64 (sv))).setCell (p := ⟨w.heap.size + 1 + 1 + 1, 1, none⟩) (by simp <;> omega) (.int .i64 (1)))
    generalize ((W3.setCell ⟨w.heap.size + 1 + 1 + 1, 0, none⟩ (.int .i64 (sv))).setCell ⟨w.heap.size + 1 + 1 + 1, 1, none⟩ (.int .i64 (1))) = W9 at *
    obtain ⟨t0, t1⟩ := hset
    exact bodyPost_ret (v := V2 (sv) (1)) (by simp [results, Try.results99, go_sem, t0, t1]) rfl ⟨by rw [HE.out.1, HE.out.2], X9⟩
  by_cases q2 : sz ≤ al
  · have HE := Lib.hid (show spotN px py ax ay bx by' = sw ∧ spotD px py ax ay bx by' = 1 by rw [HN.out, HDN.out, if_neg q1, if_neg q1, if_pos q2, if_pos q2]; exact ⟨rfl, rfl⟩)
    go_wp2_with fail
    try go_frame
    refine wp_region_bext (by kernel_rfl) (by kernel_rfl) ?_
    repeat (any_goals (go_big_quiet_step ((first | (go_at_call 111; with_reducible exact bext_call (HA.out _)) | (go_at_call 111; with_reducible exact bext_call (HS.out _))))))
    all_goals refine wpQuiet_nil ?_
    all_goals rintro _ ⟨δ, rfl⟩
    have X2 : Ext W1 δ.wd := ⟨δ, rfl⟩
    replace hf := X2.frozen hr hf
    replace hf1 := X2.frozen hr1 hf1
    replace k0 := X2.cell_some k0
    replace k1 := X2.cell_some k1
    replace k2 := X2.cell_some k2
    replace k3 := X2.cell_some k3
    replace k4 := X2.cell_some k4
    replace k5 := X2.cell_some k5
    replace k6 := X2.cell_some k6
    replace k7 := X2.cell_some k7
    replace hr := X2.cell_some hr
    replace hr1 := X2.cell_some hr1
    have HX2 := Lib.hid (HX1.out.trans X2)
    generalize δ.wd = W2 at *
    have m7 := cell_lt k0
    have m8 := cell_lt k2
    have mr := cell_lt hr
    have mp := cell_lt k4
    have mb := cell_lt k6
    clear X2 l7 l8 lr
    go_wp2_with fail
    refine (HWY.out _).mono ?_
    rintro e W3 ⟨rfl, x3⟩
    have X3 : Ext W2 W3 := Ext.trans (by (repeat' (first | with_reducible exact Ext.refl _ | with_reducible apply Ext.alloc | with_reducible apply Ext.drew | with_reducible apply Ext.drewN | with_reducible refine Ext.setCell ?_ ?_ _ | with_reducible apply Ext.step | with_reducible assumption | with_reducible exact Nat.le_refl _ | (simp; done) | (simp; omega)))) x3
    have HX3 := Lib.hid (HX2.out.trans X3)
    replace hf := X3.frozen hr hf
    replace hf1 := X3.frozen hr1 hf1
    replace k0 := X3.cell_some k0
    replace k1 := X3.cell_some k1
    replace k2 := X3.cell_some k2
    replace k3 := X3.cell_some k3
    replace k4 := X3.cell_some k4
    replace k5 := X3.cell_some k5
    replace k6 := X3.cell_some k6
    replace k7 := X3.cell_some k7
    replace hr := X3.cell_some hr
    replace hr1 := X3.cell_some hr1
    replace m7 := cell_lt k0
    replace m8 := cell_lt k2
    replace mr := cell_lt hr
    replace mp := cell_lt k4
    replace mb := cell_lt k6
    clear X3 x3
    go_wp2_with fail
    refine (HW.out _).mono ?_
    rintro e W4 ⟨rfl, x4⟩
    have X4 : Ext W3 W4 := Ext.trans (by (repeat' (first | with_reducible exact Ext.refl _ | with_reducible apply Ext.alloc | with_reducible apply Ext.drew | with_reducible apply Ext.drewN | with_reducible refine Ext.setCell ?_ ?_ _ | with_reducible apply Ext.step | with_reducible assumption | with_reducible exact Nat.le_refl _ | (simp; done) | (simp; omega)))) x4
    have HX4 := Lib.hid (HX3.out.trans X4)
    replace hf := X4.frozen hr hf
    replace hf1 := X4.frozen hr1 hf1
    replace hr := X4.cell_some hr
    replace hr1 := X4.cell_some hr1
    replace mr := cell_lt hr
    clear X4 x4
    go_wp2_with fail
    have hset := set2 hr hr1 (.int .i64 (sw)) (.int .i64 (1))
    have X9 : Ext w _ := ((HX4.out.setCell (p := ⟨w.heap.size + 1 + 1 + 1, 0, none⟩) (by simp <;> omega) (.int .i64 (sw))).setCell (p := ⟨w.heap.size + 1 + 1 + 1, 1, none⟩) (by simp <;> omega) (.int .i64 (1)))
    generalize ((W4.setCell ⟨w.heap.size + 1 + 1 + 1, 0, none⟩ (.int .i64 (sw))).setCell ⟨w.heap.size + 1 + 1 + 1, 1, none⟩ (.int .i64 (1))) = W9 at *
    obtain ⟨t0, t1⟩ := hset
    exact bodyPost_ret (v := V2 (sw) (1)) (by simp [results, Try.results99, go_sem, t0, t1]) rfl ⟨by rw [HE.out.1, HE.out.2], X9⟩
  · have HE := Lib.hid (show spotN px py ax ay bx by' = cr * cr ∧ spotD px py ax ay bx by' = sz by rw [HN.out, HDN.out, if_neg q1, if_neg q1, if_neg q2, if_neg q2]; exact ⟨rfl, rfl⟩)
    go_wp2_with fail
    try go_frame
    refine wp_region_bext (by kernel_rfl) (by kernel_rfl) ?_
    repeat (any_goals (go_big_quiet_step ((first | (go_at_call 111; with_reducible exact bext_call (HA.out _)) | (go_at_call 111; with_reducible exact bext_call (HS.out _))))))
    all_goals refine wpQuiet_nil ?_
    all_goals rintro _ ⟨δ, rfl⟩
    have X2 : Ext W1 δ.wd := ⟨δ, rfl⟩
    replace hf := X2.frozen hr hf
    replace hf1 := X2.frozen hr1 hf1
    replace k0 := X2.cell_some k0
    replace k1 := X2.cell_some k1
    replace k2 := X2.cell_some k2
    replace k3 := X2.cell_some k3
    replace k4 := X2.cell_some k4
    replace k5 := X2.cell_some k5
    replace k6 := X2.cell_some k6
    replace k7 := X2.cell_some k7
    replace hr := X2.cell_some hr
    replace hr1 := X2.cell_some hr1
    have HX2 := Lib.hid (HX1.out.trans X2)
    generalize δ.wd = W2 at *
    have m7 := cell_lt k0
    have m8 := cell_lt k2
    have mr := cell_lt hr
    have mp := cell_lt k4
    have mb := cell_lt k6
    clear X2 l7 l8 lr
    go_wp2_with fail
    refine (HC.out _).mono ?_
    rintro e W3 ⟨rfl, x3⟩
    have X3 : Ext W2 W3 := Ext.trans (by (repeat' (first | with_reducible exact Ext.refl _ | with_reducible apply Ext.alloc | with_reducible apply Ext.drew | with_reducible apply Ext.drewN | with_reducible refine Ext.setCell ?_ ?_ _ | with_reducible apply Ext.step | with_reducible assumption | with_reducible exact Nat.le_refl _ | (simp; done) | (simp; omega)))) x3
    have HX3 := Lib.hid (HX2.out.trans X3)
    replace hf := X3.frozen hr hf
    replace hf1 := X3.frozen hr1 hf1
    replace k0 := X3.cell_some k0
    replace k1 := X3.cell_some k1
    replace k2 := X3.cell_some k2
    replace k3 := X3.cell_some k3
    replace k4 := X3.cell_some k4
    replace k5 := X3.cell_some k5
    replace k6 := X3.cell_some k6
    replace k7 := X3.cell_some k7
    replace hr := X3.cell_some hr
    replace hr1 := X3.cell_some hr1
    replace m7 := cell_lt k0
    replace m8 := cell_lt k2
    replace mr := cell_lt hr
    replace mp := cell_lt k4
    replace mb := cell_lt k6
    clear X3 x3
    go_wp2_with fail
    have hset := set2 hr hr1 (.int .i64 (cr * cr)) (.int .i64 (sz))
    have X9 : Ext w _ := ((HX3.out.setCell (p := ⟨w.heap.size + 1 + 1 + 1, 0, none⟩) (by simp <;> omega) (.int .i64 (cr * cr))).setCell (p := ⟨w.heap.size + 1 + 1 + 1, 1, none⟩) (by simp <;> omega) (.int .i64 (sz)))
    generalize ((W3.setCell ⟨w.heap.size + 1 + 1 + 1, 0, none⟩ (.int .i64 (cr * cr))).setCell ⟨w.heap.size + 1 + 1 + 1, 1, none⟩ (.int .i64 (sz))) = W9 at *
    obtain ⟨t0, t1⟩ := hset
    exact bodyPost_ret (v := V2 (cr * cr) (sz)) (by simp [results, Try.results99, go_sem, t0, t1]) rfl ⟨by rw [HE.out.1, HE.out.2], X9⟩
end
open Go.RowKit

/-- Two spots lie on different sides of a segment. -/
def apartB (ax ay bx by' cx cy dx dy : Int) : Bool := ((decide (0 < crossP cx cy ax ay bx by') != decide (0 < crossP dx dy ax ay bx by')) && crossP cx cy ax ay bx by' != 0) && crossP dx dy ax ay bx by' != 0

set_option maxHeartbeats 4000000 in
theorem apart_any (ax ay bx by' cx cy dx dy : Int) (w : World) (h1 : Co ax) (h2 : Co ay) (h3 : Co bx) (h4 : Co by') (h5 : Co cx) (h6 : Co cy) (h7 : Co dx) (h8 : Co dy) :
    Calls Try.prog 98 #[V2 ax ay, V2 bx by', V2 cx cy, V2 dx dy] w fun e w' => e = .returned (.bool (apartB ax ay bx by' cx cy dx dy)) ∧ Ext w w' := by
  have HA := Lib.hid (show apartB ax ay bx by' cx cy dx dy = (((decide (0 < crossP cx cy ax ay bx by') != decide (0 < crossP dx dy ax ay bx by')) && crossP cx cy ax ay bx by' != 0) && crossP dx dy ax ay bx by' != 0) from rfl)
  have HU := Lib.hid fun W : World => way_any ax ay bx by' W h1 h2 h3 h4
  have HV := Lib.hid fun W : World => way_any ax ay cx cy W h1 h2 h5 h6
  have HW := Lib.hid fun W : World => way_any ax ay dx dy W h1 h2 h7 h8
  have HM := Lib.hid fun W : World => (show Calls Try.prog 110 #[V2 (bx - ax) (by' - ay), V2 (cx - ax) (cy - ay)] W fun e w' => e = .returned (.int .i64 (crossP cx cy ax ay bx by')) ∧ Ext W w' from cross_any _ _ _ _ W (h3.sub h1) (h4.sub h2) (h5.sub h1) (h6.sub h2))
  have HN := Lib.hid fun W : World => (show Calls Try.prog 110 #[V2 (bx - ax) (by' - ay), V2 (dx - ax) (dy - ay)] W fun e w' => e = .returned (.int .i64 (crossP dx dy ax ay bx by')) ∧ Ext W w' from cross_any _ _ _ _ W (h3.sub h1) (h4.sub h2) (h7.sub h1) (h8.sub h2))
  generalize apartB ax ay bx by' cx cy dx dy = R at *
  generalize crossP cx cy ax ay bx by' = m at *
  generalize crossP dx dy ax ay bx by' = n at *
  generalize bx - ax = ux at *
  generalize by' - ay = uy at *
  generalize cx - ax = vx at *
  generalize cy - ay = vy at *
  generalize dx - ax = wx at *
  generalize dy - ay = wy at *
  clear h1 h2 h3 h4 h5 h6 h7 h8
  go_enter Try.func98, Try.ntmps98
  go_wp2_with fail
  refine wp_region_bext (by kernel_rfl) (by kernel_rfl) ?_
  repeat (any_goals (go_big_quiet_step ((first | (go_at_call 109; with_reducible exact bext_call (HU.out _)) | (go_at_call 109; with_reducible exact bext_call (HV.out _)) | (go_at_call 109; with_reducible exact bext_call (HW.out _)) | (go_at_call 110; with_reducible exact bext_call (HM.out _)) | (go_at_call 110; with_reducible exact bext_call (HN.out _))))))
  all_goals refine wpQuiet_nil ?_
  all_goals rintro _ ⟨δ, rfl⟩
  have X1 : Ext w δ.wd := Ext.trans (by (repeat' (first | with_reducible exact Ext.refl _ | with_reducible apply Ext.alloc | with_reducible apply Ext.drew | with_reducible apply Ext.drewN | with_reducible refine Ext.setCell ?_ ?_ _ | with_reducible apply Ext.step | with_reducible assumption | with_reducible exact Nat.le_refl _ | (simp; done) | (simp; omega)))) ⟨δ, rfl⟩
  generalize δ.wd = W1 at *
  cases q1 : decide (0 < m) <;> cases q2 : decide (0 < n) <;> cases q3 : (m != 0) <;> cases q4 : (n != 0)
  all_goals
    rw [q1, q2, q3, q4] at HA
    go_wp2_with fail
    go_ret
    exact ⟨by rw [HA.out]; rfl, X1⟩
end Go.Proofs.Ytgeapenglcohfaa
