/- LightCompared: the law's walk. No condition. -/
import Derived.Test.YtlljhimaopnbfaaLLawOn
namespace Go.Proofs.Ytlljhimaopnbfaa
open Go.RowKit

set_option maxRecDepth 100000 in
set_option maxHeartbeats 8000000 in
theorem lawCompared_any (ta tb ua ub va vb p lx ly lz : Int) (w : World) :
    Calls Try.prog 10 #[tiltV ta tb, tiltV ua ub, tiltV va vb, .int .i64 p, lightV lx ly lz] w fun e w' => e = .returned (.bool true) ∧ Ext w w' := by
  have HAL := Lib.hid fun W : World => light_alive W
  have X0 := Lib.hid (show Ext w ((((w.alloc (.cells #[.int .i64 ta, .int .i64 tb] 23)).alloc (.cells #[.int .i64 ua, .int .i64 ub] 23)).alloc (.cells #[.int .i64 va, .int .i64 vb] 23)).alloc (.cells #[.int .i64 lx, .int .i64 ly, .int .i64 lz] 25)) from by (repeat' (first | with_reducible exact Ext.refl _ | with_reducible apply Ext.alloc | with_reducible apply Ext.drew | with_reducible apply Ext.drewN | with_reducible refine Ext.setCell ?_ ?_ _ | with_reducible apply Ext.step | with_reducible assumption | with_reducible exact Nat.le_refl _ | (simp; done) | (simp; omega))))
  have HB1 := Lib.hid fun W : World => Bright_any ta tb p lx ly lz W
  have HB2 := Lib.hid fun W : World => Bright_any ua ub p lx ly lz W
  have HB3 := Lib.hid fun W : World => Bright_any va vb p lx ly lz W
  simp only [brightV] at HB1 HB2 HB3
  have HOK := Lib.hid (show brightE ta tb p lx ly lz = 0 → FracIs (brightN ta tb p lx ly lz) (brightD ta tb p lx ly lz) from fun h => by
    obtain ⟨h1, h2, h3, h4, h5⟩ := bright_ok h
    rw [h4, h5]
    exact shade_frac h1 h2 h3)
  have HOL := Lib.hid (show brightE ua ub p lx ly lz = 0 → FracIs (brightN ua ub p lx ly lz) (brightD ua ub p lx ly lz) from fun h => by
    obtain ⟨h1, h2, h3, h4, h5⟩ := bright_ok h
    rw [h4, h5]
    exact shade_frac h1 h2 h3)
  have HOM := Lib.hid (show brightE va vb p lx ly lz = 0 → FracIs (brightN va vb p lx ly lz) (brightD va vb p lx ly lz) from fun h => by
    obtain ⟨h1, h2, h3, h4, h5⟩ := bright_ok h
    rw [h4, h5]
    exact shade_frac h1 h2 h3)
  generalize brightN ta tb p lx ly lz = n1 at *
  generalize brightD ta tb p lx ly lz = d1 at *
  generalize brightE ta tb p lx ly lz = e1 at *
  generalize brightN ua ub p lx ly lz = n2 at *
  generalize brightD ua ub p lx ly lz = d2 at *
  generalize brightE ua ub p lx ly lz = e2 at *
  generalize brightN va vb p lx ly lz = n3 at *
  generalize brightD va vb p lx ly lz = d3 at *
  generalize brightE va vb p lx ly lz = e3 at *
  go_enter Try.func10, Try.ntmps10
  go_wp2_with fail
  refine (HAL.out _).mono ?_
  rintro e w1 ⟨rfl, x1⟩
  have HX1 := Lib.hid (X0.out.trans x1)
  have a0 : w1.cell? ⟨w.heap.size, 0, none⟩ = some (.int .i64 ta) := x1.cell_some (by go_cell)
  have a1 : w1.cell? ⟨w.heap.size, 1, none⟩ = some (.int .i64 tb) := x1.cell_some (by go_cell)
  have b0 : w1.cell? ⟨w.heap.size + 1, 0, none⟩ = some (.int .i64 ua) := x1.cell_some (by go_cell)
  have b1 : w1.cell? ⟨w.heap.size + 1, 1, none⟩ = some (.int .i64 ub) := x1.cell_some (by go_cell)
  have c0 : w1.cell? ⟨w.heap.size + 2, 0, none⟩ = some (.int .i64 va) := x1.cell_some (by go_cell)
  have c1 : w1.cell? ⟨w.heap.size + 2, 1, none⟩ = some (.int .i64 vb) := x1.cell_some (by go_cell)
  have l0 : w1.cell? ⟨w.heap.size + 3, 0, none⟩ = some (.int .i64 lx) := x1.cell_some (by go_cell)
  have l1 : w1.cell? ⟨w.heap.size + 3, 1, none⟩ = some (.int .i64 ly) := x1.cell_some (by go_cell)
  have l2 : w1.cell? ⟨w.heap.size + 3, 2, none⟩ = some (.int .i64 lz) := x1.cell_some (by go_cell)
  have ll := cell_lt l0
  have la := cell_lt a0
  have lb := cell_lt b0
  have lc := cell_lt c0
  clear x1
  go_wp2_with fail
  refine (HB1.out _).mono ?_
  rintro e w2 ⟨rfl, x2⟩
  have HX2 := Lib.hid (HX1.out.trans x2)
  replace b0 := x2.cell_some b0
  replace b1 := x2.cell_some b1
  replace c0 := x2.cell_some c0
  replace c1 := x2.cell_some c1
  replace l0 := x2.cell_some l0
  replace l1 := x2.cell_some l1
  replace l2 := x2.cell_some l2
  replace ll := cell_lt l0
  replace lb := cell_lt b0
  replace lc := cell_lt c0
  clear x2 a0 a1 la
  go_wp2_with fail
  refine (HB2.out _).mono ?_
  rintro e w3 ⟨rfl, x3'⟩
  have x3 : Ext w2 w3 := Ext.trans ((Ext.refl _).alloc _) x3'
  have HX3 := Lib.hid (HX2.out.trans x3)
  have q0 : w3.cell? ⟨w2.heap.size, 0, none⟩ = some (.int .i64 n1) := x3'.cell_some (by go_cell)
  have q1 : w3.cell? ⟨w2.heap.size, 1, none⟩ = some (.int .i64 d1) := x3'.cell_some (by go_cell)
  have lq := cell_lt q0
  replace c0 := x3.cell_some c0
  replace c1 := x3.cell_some c1
  replace l0 := x3.cell_some l0
  replace l1 := x3.cell_some l1
  replace l2 := x3.cell_some l2
  replace ll := cell_lt l0
  replace lc := cell_lt c0
  clear x3 x3' b0 b1 lb
  go_wp2_with fail
  refine (HB3.out _).mono ?_
  rintro e w4 ⟨rfl, x4'⟩
  have x4 : Ext w3 w4 := Ext.trans ((Ext.refl _).alloc _) x4'
  have HX4 := Lib.hid (HX3.out.trans x4)
  have r0 : w4.cell? ⟨w3.heap.size, 0, none⟩ = some (.int .i64 n2) := x4'.cell_some (by go_cell)
  have r1 : w4.cell? ⟨w3.heap.size, 1, none⟩ = some (.int .i64 d2) := x4'.cell_some (by go_cell)
  have lr := cell_lt r0
  replace q0 := x4.cell_some q0
  replace q1 := x4.cell_some q1
  replace lq := cell_lt q0
  clear x4 x4' c0 c1 l0 l1 l2 ll lc
  by_cases h1 : e1 = 0
  case neg =>
    have g1 : (e1 != 0) = true := by simpa using h1
    clear h1
    go_wp2_with fail
    go_ret
    exact ⟨rfl, HX4.out.alloc _⟩
  by_cases h2 : e2 = 0
  case neg =>
    have g1 : (e1 != 0) = false := by simpa using h1
    have g2 : (e2 != 0) = true := by simpa using h2
    clear h1 h2
    go_wp2_with fail
    go_ret
    exact ⟨rfl, HX4.out.alloc _⟩
  by_cases h3 : e3 = 0
  case neg =>
    have g1 : (e1 != 0) = false := by simpa using h1
    have g2 : (e2 != 0) = false := by simpa using h2
    have g3 : (e3 != 0) = true := by simpa using h3
    clear h1 h2 h3
    go_wp2_with fail
    go_ret
    exact ⟨rfl, HX4.out.alloc _⟩
  have F1 := HOK.out h1
  have F2 := HOL.out h2
  have F3 := HOM.out h3
  have g1 : (e1 != 0) = false := by simpa using h1
  have g2 : (e2 != 0) = false := by simpa using h2
  have g3 : (e3 != 0) = false := by simpa using h3
  have HTR := Lib.hid (compare_trans F1 F2 F3)
  have HNG := Lib.hid (compare_neg F1 F2)
  have HZE := Lib.hid (compare_zero F1 F2)
  have HC1 := Lib.hid fun W : World => compare_any n1 d1 n2 d2 W
  have HC2 := Lib.hid fun W : World => compare_any n2 d2 n3 d3 W
  have HC3 := Lib.hid fun W : World => compare_any n1 d1 n3 d3 W
  have HC4 := Lib.hid fun W : World => compare_any n2 d2 n1 d1 W
  clear h1 h2 h3 HOK HOL HOM F1 F2 F3
  obtain ⟨k1, hk1⟩ : ∃ k, k = compareOf n1 d1 n2 d2 := ⟨_, rfl⟩
  obtain ⟨k2, hk2⟩ : ∃ k, k = compareOf n2 d2 n3 d3 := ⟨_, rfl⟩
  obtain ⟨k3, hk3⟩ : ∃ k, k = compareOf n1 d1 n3 d3 := ⟨_, rfl⟩
  obtain ⟨k4, hk4⟩ : ∃ k, k = compareOf n2 d2 n1 d1 := ⟨_, rfl⟩
  rw [← hk1] at HTR HNG HZE HC1
  rw [← hk2] at HTR HC2
  rw [← hk3] at HTR HC3
  rw [← hk4] at HNG HC4
  have HK1 := Lib.hid hk1
  have HK4 := Lib.hid hk4
  clear hk1 hk2 hk3 hk4
  have hb4 : -1 ≤ k4 ∧ k4 ≤ 1 := by
    rw [HK4.out]
    unfold compareOf
    repeat' split
    all_goals omega
  have hw4 : IntKind.i64.wrap (-k4) = -k4 := IntWalk.i64_in _ (by omega)
  have hk14 := HNG.out
  have he14 : (k1 == -k4) = true := by simpa using hk14
  clear hb4 hk14 HNG
  go_wp2_with fail
  refine (HC1.out _).mono ?_
  rintro e w5 ⟨rfl, yw5'⟩
  have yw5 : Ext w4 w5 := Ext.trans ((Ext.refl _).alloc _) yw5'
  replace q0 := yw5.cell_some q0
  replace q1 := yw5.cell_some q1
  replace r0 := yw5.cell_some r0
  replace r1 := yw5.cell_some r1
  replace lq := cell_lt q0
  replace lr := cell_lt r0
  have s0 : w5.cell? ⟨w4.heap.size, 0, none⟩ = some (.int .i64 n3) := yw5'.cell_some (by go_cell)
  have s1 : w5.cell? ⟨w4.heap.size, 1, none⟩ = some (.int .i64 d3) := yw5'.cell_some (by go_cell)
  have ls := cell_lt s0
  have HY5 := Lib.hid (HX4.out.trans yw5)
  clear yw5 yw5'
  by_cases hk1 : k1 ≤ 0
  case neg =>
    have f1 : decide (k1 ≤ 0) = false := by simpa using hk1
    clear s0 s1 ls hk1
    have XX := Lib.hid HY5.out
    by_cases ea : n1 = n2
    · by_cases eb : d1 = d2
      · subst ea eb
        obtain rfl : k1 = 0 := HZE.out.2 ⟨rfl, rfl⟩
        exact absurd f1 (by decide)
      · have hz : (k1 == 0) = false := by
          rw [beq_eq_false_iff_ne]
          exact fun h => eb (HZE.out.1 h).2
        subst ea
        have zb : (d1 == d2) = false := by simpa using eb
        clear eb
        clear HZE
        go_wp2_with fail
        refine wp_region_bext (by kernel_rfl) (by kernel_rfl) ?_
        repeat (any_goals (go_big_quiet_step ((first | (go_at_call 23; with_reducible exact bext_call (HC1.out _)) | (go_at_call 23; with_reducible exact bext_call (HC4.out _))))))
        all_goals refine wpQuiet_nil ?_
        all_goals rintro _ ⟨δ, rfl⟩
        have X9 := Lib.hid (XX.out.trans (show Ext _ δ.wd from ⟨δ, rfl⟩))
        go_wp2_with fail
        go_ret
        exact ⟨rfl, X9.out⟩
    · have hz : (k1 == 0) = false := by
        rw [beq_eq_false_iff_ne]
        exact fun h => ea (HZE.out.1 h).1
      have za : (n1 == n2) = false := by simpa using ea
      clear ea
      clear HZE
      go_wp2_with fail
      refine wp_region_bext (by kernel_rfl) (by kernel_rfl) ?_
      repeat (any_goals (go_big_quiet_step ((first | (go_at_call 23; with_reducible exact bext_call (HC1.out _)) | (go_at_call 23; with_reducible exact bext_call (HC4.out _))))))
      all_goals refine wpQuiet_nil ?_
      all_goals rintro _ ⟨δ, rfl⟩
      have X9 := Lib.hid (XX.out.trans (show Ext _ δ.wd from ⟨δ, rfl⟩))
      go_wp2_with fail
      go_ret
      exact ⟨rfl, X9.out⟩
  have f1 : decide (k1 ≤ 0) = true := by simpa using hk1
  go_wp2_with fail
  refine (HC2.out _).mono ?_
  rintro e w6 ⟨rfl, yw6'⟩
  have yw6 : Ext w5 w6 := yw6'
  replace q0 := yw6.cell_some q0
  replace q1 := yw6.cell_some q1
  replace r0 := yw6.cell_some r0
  replace r1 := yw6.cell_some r1
  replace lq := cell_lt q0
  replace lr := cell_lt r0
  replace s0 := yw6.cell_some s0
  replace s1 := yw6.cell_some s1
  replace ls := cell_lt s0
  have HY6 := Lib.hid (HY5.out.trans yw6)
  clear yw6 yw6'
  by_cases hk2 : k2 ≤ 0
  case neg =>
    have f2 : decide (k2 ≤ 0) = false := by simpa using hk2
    clear s0 s1 ls hk1 hk2
    have XX := Lib.hid HY6.out
    by_cases ea : n1 = n2
    · by_cases eb : d1 = d2
      · subst ea eb
        obtain rfl : k1 = 0 := HZE.out.2 ⟨rfl, rfl⟩
        obtain rfl : k4 = 0 := by have := eq_of_beq he14; omega
        have hz : ((0 : Int) == 0) = true := rfl
        clear HZE
        go_wp2_with fail
        refine wp_region_bext (by kernel_rfl) (by kernel_rfl) ?_
        repeat (any_goals (go_big_quiet_step ((first | (go_at_call 23; with_reducible exact bext_call (HC1.out _)) | (go_at_call 23; with_reducible exact bext_call (HC4.out _))))))
        all_goals refine wpQuiet_nil ?_
        all_goals rintro _ ⟨δ, rfl⟩
        have X9 := Lib.hid (XX.out.trans (show Ext _ δ.wd from ⟨δ, rfl⟩))
        go_wp2_with fail
        go_ret
        exact ⟨rfl, X9.out⟩
      · have hz : (k1 == 0) = false := by
          rw [beq_eq_false_iff_ne]
          exact fun h => eb (HZE.out.1 h).2
        subst ea
        have zb : (d1 == d2) = false := by simpa using eb
        clear eb
        clear HZE
        go_wp2_with fail
        refine wp_region_bext (by kernel_rfl) (by kernel_rfl) ?_
        repeat (any_goals (go_big_quiet_step ((first | (go_at_call 23; with_reducible exact bext_call (HC1.out _)) | (go_at_call 23; with_reducible exact bext_call (HC4.out _))))))
        all_goals refine wpQuiet_nil ?_
        all_goals rintro _ ⟨δ, rfl⟩
        have X9 := Lib.hid (XX.out.trans (show Ext _ δ.wd from ⟨δ, rfl⟩))
        go_wp2_with fail
        go_ret
        exact ⟨rfl, X9.out⟩
    · have hz : (k1 == 0) = false := by
        rw [beq_eq_false_iff_ne]
        exact fun h => ea (HZE.out.1 h).1
      have za : (n1 == n2) = false := by simpa using ea
      clear ea
      clear HZE
      go_wp2_with fail
      refine wp_region_bext (by kernel_rfl) (by kernel_rfl) ?_
      repeat (any_goals (go_big_quiet_step ((first | (go_at_call 23; with_reducible exact bext_call (HC1.out _)) | (go_at_call 23; with_reducible exact bext_call (HC4.out _))))))
      all_goals refine wpQuiet_nil ?_
      all_goals rintro _ ⟨δ, rfl⟩
      have X9 := Lib.hid (XX.out.trans (show Ext _ δ.wd from ⟨δ, rfl⟩))
      go_wp2_with fail
      go_ret
      exact ⟨rfl, X9.out⟩
  have f2 : decide (k2 ≤ 0) = true := by simpa using hk2
  have hk3 := HTR.out hk1 hk2
  have f3 : decide (0 < k3) = false := by simpa using hk3
  go_wp2_with fail
  refine (HC3.out _).mono ?_
  rintro e w7 ⟨rfl, yw7'⟩
  have yw7 : Ext w6 w7 := yw7'
  replace q0 := yw7.cell_some q0
  replace q1 := yw7.cell_some q1
  replace r0 := yw7.cell_some r0
  replace r1 := yw7.cell_some r1
  replace lq := cell_lt q0
  replace lr := cell_lt r0
  have HY7 := Lib.hid (HY6.out.trans yw7)
  clear yw7 yw7' s0 s1 ls hk1 hk2 hk3
  have XX := Lib.hid HY7.out
  by_cases ea : n1 = n2
  · by_cases eb : d1 = d2
    · subst ea eb
      obtain rfl : k1 = 0 := HZE.out.2 ⟨rfl, rfl⟩
      obtain rfl : k4 = 0 := by have := eq_of_beq he14; omega
      have hz : ((0 : Int) == 0) = true := rfl
      clear HZE
      go_wp2_with fail
      refine wp_region_bext (by kernel_rfl) (by kernel_rfl) ?_
      repeat (any_goals (go_big_quiet_step ((first | (go_at_call 23; with_reducible exact bext_call (HC1.out _)) | (go_at_call 23; with_reducible exact bext_call (HC4.out _))))))
      all_goals refine wpQuiet_nil ?_
      all_goals rintro _ ⟨δ, rfl⟩
      have X9 := Lib.hid (XX.out.trans (show Ext _ δ.wd from ⟨δ, rfl⟩))
      go_wp2_with fail
      go_ret
      exact ⟨rfl, X9.out⟩
    · have hz : (k1 == 0) = false := by
        rw [beq_eq_false_iff_ne]
        exact fun h => eb (HZE.out.1 h).2
      subst ea
      have zb : (d1 == d2) = false := by simpa using eb
      clear eb
      clear HZE
      go_wp2_with fail
      refine wp_region_bext (by kernel_rfl) (by kernel_rfl) ?_
      repeat (any_goals (go_big_quiet_step ((first | (go_at_call 23; with_reducible exact bext_call (HC1.out _)) | (go_at_call 23; with_reducible exact bext_call (HC4.out _))))))
      all_goals refine wpQuiet_nil ?_
      all_goals rintro _ ⟨δ, rfl⟩
      have X9 := Lib.hid (XX.out.trans (show Ext _ δ.wd from ⟨δ, rfl⟩))
      go_wp2_with fail
      go_ret
      exact ⟨rfl, X9.out⟩
  · have hz : (k1 == 0) = false := by
      rw [beq_eq_false_iff_ne]
      exact fun h => ea (HZE.out.1 h).1
    have za : (n1 == n2) = false := by simpa using ea
    clear ea
    clear HZE
    go_wp2_with fail
    refine wp_region_bext (by kernel_rfl) (by kernel_rfl) ?_
    repeat (any_goals (go_big_quiet_step ((first | (go_at_call 23; with_reducible exact bext_call (HC1.out _)) | (go_at_call 23; with_reducible exact bext_call (HC4.out _))))))
    all_goals refine wpQuiet_nil ?_
    all_goals rintro _ ⟨δ, rfl⟩
    have X9 := Lib.hid (XX.out.trans (show Ext _ δ.wd from ⟨δ, rfl⟩))
    go_wp2_with fail
    go_ret
    exact ⟨rfl, X9.out⟩
end Go.Proofs.Ytlljhimaopnbfaa
