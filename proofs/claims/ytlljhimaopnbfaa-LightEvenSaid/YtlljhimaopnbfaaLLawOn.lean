/- LightOne: the law's walk. No condition. -/
import Derived.Test.YtlljhimaopnbfaaLAliv
import Derived.Test.YtlljhimaopnbfaaLOneP
namespace Go.Proofs.Ytlljhimaopnbfaa
open Go.RowKit

theorem bright_ok {tx ty p lx ly lz : Int} (h : brightE tx ty p lx ly lz = 0) : tiltB tx ty = true ∧ inB 1 100 p = true ∧ lightB lx ly lz = true ∧ brightN tx ty p lx ly lz = shadeN tx ty p lx ly lz ∧ brightD tx ty p lx ly lz = shadeD tx ty p lx ly lz := by
  unfold brightE at h
  split at h
  · rename_i h1
    split at h
    · rename_i h2
      rw [Bool.and_eq_true] at h1
      unfold brightN brightD
      rw [h1.1, h1.2, h2]
      exact ⟨rfl, rfl, rfl, rfl, rfl⟩
    · cases h
  · cases h
theorem bright_no {tx ty p lx ly lz : Int} (h : brightE tx ty p lx ly lz ≠ 0) : brightN tx ty p lx ly lz = 0 ∧ brightD tx ty p lx ly lz = 0 := by
  have : ¬ (tiltB tx ty && inB 1 100 p && lightB lx ly lz) = true := fun h1 => by
    rw [Bool.and_eq_true] at h1
    apply h
    unfold brightE
    rw [if_pos h1.1, if_pos h1.2]
  unfold brightN brightD
  rw [if_neg this, if_neg this]
  exact ⟨rfl, rfl⟩

set_option maxRecDepth 100000 in
set_option maxHeartbeats 8000000 in
theorem lawOne_any (tx ty p lx ly lz times : Int) (w : World) :
    Calls Try.prog 9 #[tiltV tx ty, .int .i64 p, lightV lx ly lz, .int .i64 times] w fun e w' => e = .returned (.bool true) ∧ Ext w w' := by
  have HAL := Lib.hid fun W : World => light_alive W
  have X0 := Lib.hid (show Ext w ((w.alloc (.cells #[.int .i64 tx, .int .i64 ty] 23)).alloc (.cells #[.int .i64 lx, .int .i64 ly, .int .i64 lz] 25)) from by (repeat' (first | with_reducible exact Ext.refl _ | with_reducible apply Ext.alloc | with_reducible apply Ext.drew | with_reducible apply Ext.drewN | with_reducible refine Ext.setCell ?_ ?_ _ | with_reducible apply Ext.step | with_reducible assumption | with_reducible exact Nat.le_refl _ | (simp; done) | (simp; omega))))
  by_cases hE : brightE tx ty p lx ly lz = 0
  case neg =>
    obtain ⟨n1, n2⟩ := bright_no hE
    have HB := Lib.hid fun W : World => Bright_any tx ty p lx ly lz W
    rw [brightV, n1, n2] at HB
    have hEb : (brightE tx ty p lx ly lz != 0) = true := by simpa using hE
    generalize brightE tx ty p lx ly lz = be at *
    clear n1 n2 hE
    go_enter Try.func9, Try.ntmps9
    go_wp2_with fail
    refine (HAL.out _).mono ?_
    rintro e w1 ⟨rfl, x1⟩
    have HX1 := Lib.hid (X0.out.trans x1)
    have c0 : w1.cell? ⟨w.heap.size, 0, none⟩ = some (.int .i64 tx) := x1.cell_some (by go_cell)
    have c1 : w1.cell? ⟨w.heap.size, 1, none⟩ = some (.int .i64 ty) := x1.cell_some (by go_cell)
    have d0 : w1.cell? ⟨w.heap.size + 1, 0, none⟩ = some (.int .i64 lx) := x1.cell_some (by go_cell)
    have d1 : w1.cell? ⟨w.heap.size + 1, 1, none⟩ = some (.int .i64 ly) := x1.cell_some (by go_cell)
    have d2 : w1.cell? ⟨w.heap.size + 1, 2, none⟩ = some (.int .i64 lz) := x1.cell_some (by go_cell)
    have lc := cell_lt d0
    clear x1
    go_wp2_with fail
    refine (HB.out _).mono ?_
    rintro e w2 ⟨rfl, x2⟩
    have HX2 := Lib.hid (HX1.out.trans x2)
    clear x2 c0 c1 d0 d1 d2 lc
    go_wp2_with fail
    go_ret
    exact ⟨rfl, HX2.out.alloc _⟩
  obtain ⟨hT, hP, hL, n1, n2⟩ := bright_ok hE
  obtain ⟨⟨t1, t2⟩, t3, t4⟩ := tiltB_iff.1 hT
  obtain ⟨⟨l1, l2⟩, ⟨l3, l4⟩, l5, l6⟩ := lightB_iff.1 hL
  obtain ⟨p1, p2⟩ := inB_iff.1 hP
  have hF := shade_frac hT hP hL
  have HON := Lib.hid (shade_one (tx := tx) (ty := ty) hP hL)
  have HFO := Lib.hid fun h => frac_one hF h
  have hc1 := (compare_le hF one_frac).2 (by have := hF.nd; omega)
  have hc2 := (compare_le frac_zero hF).2 (by have := hF.n0; omega)
  have HTI := Lib.hid fun (ht : 1 ≤ times) (h : brightE tx ty p (times * lx) (times * ly) (times * lz) = 0) => (show brightN tx ty p (times * lx) (times * ly) (times * lz) = shadeN tx ty p lx ly lz ∧ brightD tx ty p (times * lx) (times * ly) (times * lz) = shadeD tx ty p lx ly lz from by
    obtain ⟨_, _, _, h1, h2⟩ := bright_ok h
    rw [h1, h2]
    exact shade_times ht)
  have HB := Lib.hid fun W : World => Bright_any tx ty p lx ly lz W
  rw [brightV, n1, n2, hE] at HB
  have HC1 := Lib.hid fun W : World => compare_any (shadeN tx ty p lx ly lz) (shadeD tx ty p lx ly lz) 1 1 W
  have HC2 := Lib.hid fun W : World => compare_any 0 1 (shadeN tx ty p lx ly lz) (shadeD tx ty p lx ly lz) W
  obtain ⟨q0, q1, q2, -, -⟩ := hF
  clear n1 n2 hE hT hP hL
  generalize compareOf (shadeN tx ty p lx ly lz) (shadeD tx ty p lx ly lz) 1 1 = k1 at *
  generalize compareOf 0 1 (shadeN tx ty p lx ly lz) (shadeD tx ty p lx ly lz) = k2 at *
  generalize shadeN tx ty p lx ly lz = sn at *
  generalize shadeD tx ty p lx ly lz = sd at *
  have gk1 : decide (0 < k1) = false := by simp; omega
  have gk2 : decide (0 < k2) = false := by simp; omega
  have ge1 : decide (sn < 0) = false := by simp; omega
  have ge2 : decide (sd < sn) = false := by simp; omega
  have ge3 : decide (sd < 1) = false := by simp; omega
  obtain ⟨y1, y2⟩ := abs_mul_bd (a := -tx) (b := lz) (A := 400) (B := 30) (by omega) (by omega) (by omega) l6
  obtain ⟨y3, y4⟩ := abs_mul_bd (a := -ty) (b := lz) (A := 400) (B := 30) (by omega) (by omega) (by omega) l6
  obtain ⟨y5, y6⟩ := abs_mul_bd (a := 2 * p) (b := lx) (A := 200) (B := 30) (by omega) (by omega) l1 l2
  obtain ⟨y7, y8⟩ := abs_mul_bd (a := 2 * p) (b := ly) (A := 200) (B := 30) (by omega) (by omega) l3 l4
  have i1 : IntKind.i64.wrap (-tx) = -tx := IntWalk.i64_in _ (by omega)
  have i2 : IntKind.i64.wrap (-ty) = -ty := IntWalk.i64_in _ (by omega)
  have i3 : IntKind.i64.wrap (2 * p) = 2 * p := IntWalk.i64_in _ (by omega)
  have i4 : IntKind.i64.wrap (-tx * lz) = -tx * lz := IntWalk.i64_in _ (by omega)
  have i5 : IntKind.i64.wrap (-ty * lz) = -ty * lz := IntWalk.i64_in _ (by omega)
  have i6 : IntKind.i64.wrap (2 * p * lx) = 2 * p * lx := IntWalk.i64_in _ (by omega)
  have i7 : IntKind.i64.wrap (2 * p * ly) = 2 * p * ly := IntWalk.i64_in _ (by omega)
  go_enter Try.func9, Try.ntmps9
  go_wp2_with fail
  refine (HAL.out _).mono ?_
  rintro e w1 ⟨rfl, x1⟩
  have HX1 := Lib.hid (X0.out.trans x1)
  have c0 : w1.cell? ⟨w.heap.size, 0, none⟩ = some (.int .i64 tx) := x1.cell_some (by go_cell)
  have c1 : w1.cell? ⟨w.heap.size, 1, none⟩ = some (.int .i64 ty) := x1.cell_some (by go_cell)
  have d0 : w1.cell? ⟨w.heap.size + 1, 0, none⟩ = some (.int .i64 lx) := x1.cell_some (by go_cell)
  have d1 : w1.cell? ⟨w.heap.size + 1, 1, none⟩ = some (.int .i64 ly) := x1.cell_some (by go_cell)
  have d2 : w1.cell? ⟨w.heap.size + 1, 2, none⟩ = some (.int .i64 lz) := x1.cell_some (by go_cell)
  have lc := cell_lt d0
  clear x1
  go_wp2_with fail
  refine (HB.out _).mono ?_
  rintro e w2 ⟨rfl, x2⟩
  have HX2 := Lib.hid (HX1.out.trans x2)
  replace c0 := x2.cell_some c0
  replace c1 := x2.cell_some c1
  replace d0 := x2.cell_some d0
  replace d1 := x2.cell_some d1
  replace d2 := x2.cell_some d2
  replace lc := cell_lt d0
  clear x2
  by_cases hND : sn = sd
  · obtain ⟨rfl, h2⟩ := HFO.out hND
    subst hND
    obtain ⟨o1, o2⟩ := HON.out.1 ⟨rfl, rfl⟩
    have o3 : (-tx * lz == 2 * p * lx) = true := by simpa using o1
    have o4 : (-ty * lz == 2 * p * ly) = true := by simpa using o2
    clear HFO HON h2
    go_wp2_with fail
    refine (HC1.out _).mono ?_
    rintro e w3 ⟨rfl, x3⟩
    have HX3 := Lib.hid (show Ext w2 w3 from Ext.trans (((Ext.refl _).alloc _).alloc _) x3)
    have a0 : w3.cell? ⟨w2.heap.size, 0, none⟩ = some (.int .i64 1) := x3.cell_some (by go_cell)
    have a1 : w3.cell? ⟨w2.heap.size, 1, none⟩ = some (.int .i64 1) := x3.cell_some (by go_cell)
    have b0 : w3.cell? ⟨w2.heap.size + 1, 0, none⟩ = some (.int .i64 1) := x3.cell_some (by go_cell)
    have b1 : w3.cell? ⟨w2.heap.size + 1, 1, none⟩ = some (.int .i64 1) := x3.cell_some (by go_cell)
    have lb := cell_lt b0
    clear x3
    go_wp2_with fail
    refine (HC2.out _).mono ?_
    rintro e w4 ⟨rfl, x4⟩
    have XX := Lib.hid (HX2.out.trans (HX3.out.trans x4))
    replace a0 := x4.cell_some a0
    replace a1 := x4.cell_some a1
    replace b0 := x4.cell_some b0
    replace b1 := x4.cell_some b1
    replace lb := cell_lt b0
    replace c0 := (HX3.out.trans x4).cell_some c0
    replace c1 := (HX3.out.trans x4).cell_some c1
    replace d0 := (HX3.out.trans x4).cell_some d0
    replace d1 := (HX3.out.trans x4).cell_some d1
    replace d2 := (HX3.out.trans x4).cell_some d2
    replace lc := cell_lt d0
    have la := cell_lt a0
    clear x4
    by_cases ht1 : times < 1
    · have g1 : decide (times < 1) = true := by simpa using ht1
      clear ht1
      go_wp2_with fail
      go_ret
      exact ⟨rfl, XX.out⟩
    by_cases ht2 : 30 < times
    · have g1 : decide (times < 1) = false := by simpa using ht1
      have g2 : decide (30 < times) = true := by simpa using ht2
      go_wp2_with fail
      go_ret
      exact ⟨rfl, XX.out⟩
    have g1 : decide (times < 1) = false := by simpa using ht1
    have g2 : decide (30 < times) = false := by simpa using ht2
    obtain ⟨m1, m2⟩ := abs_mul_bd (a := times) (b := lx) (A := 30) (B := 30) (by omega) (by omega) l1 l2
    obtain ⟨m3, m4⟩ := abs_mul_bd (a := times) (b := ly) (A := 30) (B := 30) (by omega) (by omega) l3 l4
    obtain ⟨m5, m6⟩ := abs_mul_bd (a := times) (b := lz) (A := 30) (B := 30) (by omega) (by omega) (by omega) l6
    have v1 : IntKind.i64.wrap (times * lx) = times * lx := IntWalk.i64_in _ (by omega)
    have v2 : IntKind.i64.wrap (times * ly) = times * ly := IntWalk.i64_in _ (by omega)
    have v3 : IntKind.i64.wrap (times * lz) = times * lz := IntWalk.i64_in _ (by omega)
    have HTM := Lib.hid (HTI.out (by omega))
    by_cases hE2 : brightE tx ty p (times * lx) (times * ly) (times * lz) = 0
    · obtain ⟨n1, n2⟩ := HTM.out hE2
      have HB2 := Lib.hid fun W : World => (show Calls Try.prog 21 #[tiltV tx ty, .int .i64 p, lightV (times * lx) (times * ly) (times * lz)] W fun e w' => e = .returned (.tuple #[shadeV 1 1, .int .i64 0]) ∧ Ext W w' from by
        have := Bright_any tx ty p (times * lx) (times * ly) (times * lz) W
        rwa [brightV, n1, n2, hE2] at this)
      clear hE2 n1 n2 m1 m2 m3 m4 m5 m6 HTM
      go_wp2_with fail
      refine (HB2.out _).mono ?_
      rintro e w5 ⟨rfl, x5⟩
      have HX5 := Lib.hid (XX.out.trans x5)
      replace a0 := x5.cell_some a0
      replace a1 := x5.cell_some a1
      have la := cell_lt a0
      clear x5 c0 c1 d0 d1 d2 lc
      go_wp2_with fail
      go_ret
      exact ⟨rfl, HX5.out.alloc _⟩
    · have hEb : (brightE tx ty p (times * lx) (times * ly) (times * lz) != 0) = true := by simpa using hE2
      have HB2 := Lib.hid fun W : World => Bright_any tx ty p (times * lx) (times * ly) (times * lz) W
      simp only [brightV] at HB2
      generalize brightN tx ty p (times * lx) (times * ly) (times * lz) = bn at *
      generalize brightD tx ty p (times * lx) (times * ly) (times * lz) = bd at *
      generalize brightE tx ty p (times * lx) (times * ly) (times * lz) = be at *
      clear m1 m2 m3 m4 m5 m6 HTM hE2
      go_wp2_with fail
      refine (HB2.out _).mono ?_
      rintro e w5 ⟨rfl, x5⟩
      have HX5 := Lib.hid (XX.out.trans x5)
      clear x5 a0 a1 c0 c1 d0 d1 d2 lc
      go_wp2_with fail
      go_ret
      exact ⟨rfl, HX5.out.alloc _⟩
  · have hne : (sn == sd) = false := by simpa using hND
    have HN1 := Lib.hid (show ¬ (sn = 1 ∧ sd = 1) from fun h => hND (by rw [h.1, h.2]))
    have HAL2 := Lib.hid (show ¬ (-tx * lz = 2 * p * lx ∧ -ty * lz = 2 * p * ly) from fun h => HN1.out (HON.out.2 h))
    clear HFO HON
    go_wp2_with fail
    refine (HC1.out _).mono ?_
    rintro e w3 ⟨rfl, x3⟩
    have HX3 := Lib.hid (show Ext w2 w3 from Ext.trans (((Ext.refl _).alloc _).alloc _) x3)
    have a0 : w3.cell? ⟨w2.heap.size, 0, none⟩ = some (.int .i64 sn) := x3.cell_some (by go_cell)
    have a1 : w3.cell? ⟨w2.heap.size, 1, none⟩ = some (.int .i64 sd) := x3.cell_some (by go_cell)
    have b0 : w3.cell? ⟨w2.heap.size + 1, 0, none⟩ = some (.int .i64 1) := x3.cell_some (by go_cell)
    have b1 : w3.cell? ⟨w2.heap.size + 1, 1, none⟩ = some (.int .i64 1) := x3.cell_some (by go_cell)
    have lb := cell_lt b0
    clear x3
    go_wp2_with fail
    refine (HC2.out _).mono ?_
    rintro e w4 ⟨rfl, x4⟩
    have XX := Lib.hid (HX2.out.trans (HX3.out.trans x4))
    replace a0 := x4.cell_some a0
    replace a1 := x4.cell_some a1
    replace b0 := x4.cell_some b0
    replace b1 := x4.cell_some b1
    replace lb := cell_lt b0
    replace c0 := (HX3.out.trans x4).cell_some c0
    replace c1 := (HX3.out.trans x4).cell_some c1
    replace d0 := (HX3.out.trans x4).cell_some d0
    replace d1 := (HX3.out.trans x4).cell_some d1
    replace d2 := (HX3.out.trans x4).cell_some d2
    replace lc := cell_lt d0
    have la := cell_lt a0
    clear x4
    by_cases o1 : -tx * lz = 2 * p * lx
    · have o3 : (-tx * lz == 2 * p * lx) = true := by simpa using o1
      have o4 : (-ty * lz == 2 * p * ly) = false := by
        rw [beq_eq_false_iff_ne]
        exact fun h => HAL2.out ⟨o1, h⟩
      by_cases h1 : sn = 1
      · have z1 : (sn == 1) = true := by simpa using h1
        have z2 : (sd == 1) = false := by
          rw [beq_eq_false_iff_ne]
          exact fun h => HN1.out ⟨h1, h⟩
        by_cases ht1 : times < 1
        · have g1 : decide (times < 1) = true := by simpa using ht1
          clear ht1
          go_wp2_with fail
          go_ret
          exact ⟨rfl, XX.out⟩
        by_cases ht2 : 30 < times
        · have g1 : decide (times < 1) = false := by simpa using ht1
          have g2 : decide (30 < times) = true := by simpa using ht2
          go_wp2_with fail
          go_ret
          exact ⟨rfl, XX.out⟩
        have g1 : decide (times < 1) = false := by simpa using ht1
        have g2 : decide (30 < times) = false := by simpa using ht2
        obtain ⟨m1, m2⟩ := abs_mul_bd (a := times) (b := lx) (A := 30) (B := 30) (by omega) (by omega) l1 l2
        obtain ⟨m3, m4⟩ := abs_mul_bd (a := times) (b := ly) (A := 30) (B := 30) (by omega) (by omega) l3 l4
        obtain ⟨m5, m6⟩ := abs_mul_bd (a := times) (b := lz) (A := 30) (B := 30) (by omega) (by omega) (by omega) l6
        have v1 : IntKind.i64.wrap (times * lx) = times * lx := IntWalk.i64_in _ (by omega)
        have v2 : IntKind.i64.wrap (times * ly) = times * ly := IntWalk.i64_in _ (by omega)
        have v3 : IntKind.i64.wrap (times * lz) = times * lz := IntWalk.i64_in _ (by omega)
        have HTM := Lib.hid (HTI.out (by omega))
        by_cases hE2 : brightE tx ty p (times * lx) (times * ly) (times * lz) = 0
        · obtain ⟨n1, n2⟩ := HTM.out hE2
          have HB2 := Lib.hid fun W : World => (show Calls Try.prog 21 #[tiltV tx ty, .int .i64 p, lightV (times * lx) (times * ly) (times * lz)] W fun e w' => e = .returned (.tuple #[shadeV sn sd, .int .i64 0]) ∧ Ext W w' from by
            have := Bright_any tx ty p (times * lx) (times * ly) (times * lz) W
            rwa [brightV, n1, n2, hE2] at this)
          clear hE2 n1 n2 m1 m2 m3 m4 m5 m6 HTM
          go_wp2_with fail
          refine (HB2.out _).mono ?_
          rintro e w5 ⟨rfl, x5⟩
          have HX5 := Lib.hid (XX.out.trans x5)
          replace a0 := x5.cell_some a0
          replace a1 := x5.cell_some a1
          have la := cell_lt a0
          clear x5 c0 c1 d0 d1 d2 lc
          go_wp2_with fail
          go_ret
          exact ⟨rfl, HX5.out.alloc _⟩
        · have hEb : (brightE tx ty p (times * lx) (times * ly) (times * lz) != 0) = true := by simpa using hE2
          have HB2 := Lib.hid fun W : World => Bright_any tx ty p (times * lx) (times * ly) (times * lz) W
          simp only [brightV] at HB2
          generalize brightN tx ty p (times * lx) (times * ly) (times * lz) = bn at *
          generalize brightD tx ty p (times * lx) (times * ly) (times * lz) = bd at *
          generalize brightE tx ty p (times * lx) (times * ly) (times * lz) = be at *
          clear m1 m2 m3 m4 m5 m6 HTM hE2
          go_wp2_with fail
          refine (HB2.out _).mono ?_
          rintro e w5 ⟨rfl, x5⟩
          have HX5 := Lib.hid (XX.out.trans x5)
          clear x5 a0 a1 c0 c1 d0 d1 d2 lc
          go_wp2_with fail
          go_ret
          exact ⟨rfl, HX5.out.alloc _⟩
      · have z1 : (sn == 1) = false := by simpa using h1
        by_cases ht1 : times < 1
        · have g1 : decide (times < 1) = true := by simpa using ht1
          clear ht1
          go_wp2_with fail
          go_ret
          exact ⟨rfl, XX.out⟩
        by_cases ht2 : 30 < times
        · have g1 : decide (times < 1) = false := by simpa using ht1
          have g2 : decide (30 < times) = true := by simpa using ht2
          go_wp2_with fail
          go_ret
          exact ⟨rfl, XX.out⟩
        have g1 : decide (times < 1) = false := by simpa using ht1
        have g2 : decide (30 < times) = false := by simpa using ht2
        obtain ⟨m1, m2⟩ := abs_mul_bd (a := times) (b := lx) (A := 30) (B := 30) (by omega) (by omega) l1 l2
        obtain ⟨m3, m4⟩ := abs_mul_bd (a := times) (b := ly) (A := 30) (B := 30) (by omega) (by omega) l3 l4
        obtain ⟨m5, m6⟩ := abs_mul_bd (a := times) (b := lz) (A := 30) (B := 30) (by omega) (by omega) (by omega) l6
        have v1 : IntKind.i64.wrap (times * lx) = times * lx := IntWalk.i64_in _ (by omega)
        have v2 : IntKind.i64.wrap (times * ly) = times * ly := IntWalk.i64_in _ (by omega)
        have v3 : IntKind.i64.wrap (times * lz) = times * lz := IntWalk.i64_in _ (by omega)
        have HTM := Lib.hid (HTI.out (by omega))
        by_cases hE2 : brightE tx ty p (times * lx) (times * ly) (times * lz) = 0
        · obtain ⟨n1, n2⟩ := HTM.out hE2
          have HB2 := Lib.hid fun W : World => (show Calls Try.prog 21 #[tiltV tx ty, .int .i64 p, lightV (times * lx) (times * ly) (times * lz)] W fun e w' => e = .returned (.tuple #[shadeV sn sd, .int .i64 0]) ∧ Ext W w' from by
            have := Bright_any tx ty p (times * lx) (times * ly) (times * lz) W
            rwa [brightV, n1, n2, hE2] at this)
          clear hE2 n1 n2 m1 m2 m3 m4 m5 m6 HTM
          go_wp2_with fail
          refine (HB2.out _).mono ?_
          rintro e w5 ⟨rfl, x5⟩
          have HX5 := Lib.hid (XX.out.trans x5)
          replace a0 := x5.cell_some a0
          replace a1 := x5.cell_some a1
          have la := cell_lt a0
          clear x5 c0 c1 d0 d1 d2 lc
          go_wp2_with fail
          go_ret
          exact ⟨rfl, HX5.out.alloc _⟩
        · have hEb : (brightE tx ty p (times * lx) (times * ly) (times * lz) != 0) = true := by simpa using hE2
          have HB2 := Lib.hid fun W : World => Bright_any tx ty p (times * lx) (times * ly) (times * lz) W
          simp only [brightV] at HB2
          generalize brightN tx ty p (times * lx) (times * ly) (times * lz) = bn at *
          generalize brightD tx ty p (times * lx) (times * ly) (times * lz) = bd at *
          generalize brightE tx ty p (times * lx) (times * ly) (times * lz) = be at *
          clear m1 m2 m3 m4 m5 m6 HTM hE2
          go_wp2_with fail
          refine (HB2.out _).mono ?_
          rintro e w5 ⟨rfl, x5⟩
          have HX5 := Lib.hid (XX.out.trans x5)
          clear x5 a0 a1 c0 c1 d0 d1 d2 lc
          go_wp2_with fail
          go_ret
          exact ⟨rfl, HX5.out.alloc _⟩
    · have o3 : (-tx * lz == 2 * p * lx) = false := by simpa using o1
      by_cases h1 : sn = 1
      · have z1 : (sn == 1) = true := by simpa using h1
        have z2 : (sd == 1) = false := by
          rw [beq_eq_false_iff_ne]
          exact fun h => HN1.out ⟨h1, h⟩
        by_cases ht1 : times < 1
        · have g1 : decide (times < 1) = true := by simpa using ht1
          clear ht1
          go_wp2_with fail
          go_ret
          exact ⟨rfl, XX.out⟩
        by_cases ht2 : 30 < times
        · have g1 : decide (times < 1) = false := by simpa using ht1
          have g2 : decide (30 < times) = true := by simpa using ht2
          go_wp2_with fail
          go_ret
          exact ⟨rfl, XX.out⟩
        have g1 : decide (times < 1) = false := by simpa using ht1
        have g2 : decide (30 < times) = false := by simpa using ht2
        obtain ⟨m1, m2⟩ := abs_mul_bd (a := times) (b := lx) (A := 30) (B := 30) (by omega) (by omega) l1 l2
        obtain ⟨m3, m4⟩ := abs_mul_bd (a := times) (b := ly) (A := 30) (B := 30) (by omega) (by omega) l3 l4
        obtain ⟨m5, m6⟩ := abs_mul_bd (a := times) (b := lz) (A := 30) (B := 30) (by omega) (by omega) (by omega) l6
        have v1 : IntKind.i64.wrap (times * lx) = times * lx := IntWalk.i64_in _ (by omega)
        have v2 : IntKind.i64.wrap (times * ly) = times * ly := IntWalk.i64_in _ (by omega)
        have v3 : IntKind.i64.wrap (times * lz) = times * lz := IntWalk.i64_in _ (by omega)
        have HTM := Lib.hid (HTI.out (by omega))
        by_cases hE2 : brightE tx ty p (times * lx) (times * ly) (times * lz) = 0
        · obtain ⟨n1, n2⟩ := HTM.out hE2
          have HB2 := Lib.hid fun W : World => (show Calls Try.prog 21 #[tiltV tx ty, .int .i64 p, lightV (times * lx) (times * ly) (times * lz)] W fun e w' => e = .returned (.tuple #[shadeV sn sd, .int .i64 0]) ∧ Ext W w' from by
            have := Bright_any tx ty p (times * lx) (times * ly) (times * lz) W
            rwa [brightV, n1, n2, hE2] at this)
          clear hE2 n1 n2 m1 m2 m3 m4 m5 m6 HTM
          go_wp2_with fail
          refine (HB2.out _).mono ?_
          rintro e w5 ⟨rfl, x5⟩
          have HX5 := Lib.hid (XX.out.trans x5)
          replace a0 := x5.cell_some a0
          replace a1 := x5.cell_some a1
          have la := cell_lt a0
          clear x5 c0 c1 d0 d1 d2 lc
          go_wp2_with fail
          go_ret
          exact ⟨rfl, HX5.out.alloc _⟩
        · have hEb : (brightE tx ty p (times * lx) (times * ly) (times * lz) != 0) = true := by simpa using hE2
          have HB2 := Lib.hid fun W : World => Bright_any tx ty p (times * lx) (times * ly) (times * lz) W
          simp only [brightV] at HB2
          generalize brightN tx ty p (times * lx) (times * ly) (times * lz) = bn at *
          generalize brightD tx ty p (times * lx) (times * ly) (times * lz) = bd at *
          generalize brightE tx ty p (times * lx) (times * ly) (times * lz) = be at *
          clear m1 m2 m3 m4 m5 m6 HTM hE2
          go_wp2_with fail
          refine (HB2.out _).mono ?_
          rintro e w5 ⟨rfl, x5⟩
          have HX5 := Lib.hid (XX.out.trans x5)
          clear x5 a0 a1 c0 c1 d0 d1 d2 lc
          go_wp2_with fail
          go_ret
          exact ⟨rfl, HX5.out.alloc _⟩
      · have z1 : (sn == 1) = false := by simpa using h1
        by_cases ht1 : times < 1
        · have g1 : decide (times < 1) = true := by simpa using ht1
          clear ht1
          go_wp2_with fail
          go_ret
          exact ⟨rfl, XX.out⟩
        by_cases ht2 : 30 < times
        · have g1 : decide (times < 1) = false := by simpa using ht1
          have g2 : decide (30 < times) = true := by simpa using ht2
          go_wp2_with fail
          go_ret
          exact ⟨rfl, XX.out⟩
        have g1 : decide (times < 1) = false := by simpa using ht1
        have g2 : decide (30 < times) = false := by simpa using ht2
        obtain ⟨m1, m2⟩ := abs_mul_bd (a := times) (b := lx) (A := 30) (B := 30) (by omega) (by omega) l1 l2
        obtain ⟨m3, m4⟩ := abs_mul_bd (a := times) (b := ly) (A := 30) (B := 30) (by omega) (by omega) l3 l4
        obtain ⟨m5, m6⟩ := abs_mul_bd (a := times) (b := lz) (A := 30) (B := 30) (by omega) (by omega) (by omega) l6
        have v1 : IntKind.i64.wrap (times * lx) = times * lx := IntWalk.i64_in _ (by omega)
        have v2 : IntKind.i64.wrap (times * ly) = times * ly := IntWalk.i64_in _ (by omega)
        have v3 : IntKind.i64.wrap (times * lz) = times * lz := IntWalk.i64_in _ (by omega)
        have HTM := Lib.hid (HTI.out (by omega))
        by_cases hE2 : brightE tx ty p (times * lx) (times * ly) (times * lz) = 0
        · obtain ⟨n1, n2⟩ := HTM.out hE2
          have HB2 := Lib.hid fun W : World => (show Calls Try.prog 21 #[tiltV tx ty, .int .i64 p, lightV (times * lx) (times * ly) (times * lz)] W fun e w' => e = .returned (.tuple #[shadeV sn sd, .int .i64 0]) ∧ Ext W w' from by
            have := Bright_any tx ty p (times * lx) (times * ly) (times * lz) W
            rwa [brightV, n1, n2, hE2] at this)
          clear hE2 n1 n2 m1 m2 m3 m4 m5 m6 HTM
          go_wp2_with fail
          refine (HB2.out _).mono ?_
          rintro e w5 ⟨rfl, x5⟩
          have HX5 := Lib.hid (XX.out.trans x5)
          replace a0 := x5.cell_some a0
          replace a1 := x5.cell_some a1
          have la := cell_lt a0
          clear x5 c0 c1 d0 d1 d2 lc
          go_wp2_with fail
          go_ret
          exact ⟨rfl, HX5.out.alloc _⟩
        · have hEb : (brightE tx ty p (times * lx) (times * ly) (times * lz) != 0) = true := by simpa using hE2
          have HB2 := Lib.hid fun W : World => Bright_any tx ty p (times * lx) (times * ly) (times * lz) W
          simp only [brightV] at HB2
          generalize brightN tx ty p (times * lx) (times * ly) (times * lz) = bn at *
          generalize brightD tx ty p (times * lx) (times * ly) (times * lz) = bd at *
          generalize brightE tx ty p (times * lx) (times * ly) (times * lz) = be at *
          clear m1 m2 m3 m4 m5 m6 HTM hE2
          go_wp2_with fail
          refine (HB2.out _).mono ?_
          rintro e w5 ⟨rfl, x5⟩
          have HX5 := Lib.hid (XX.out.trans x5)
          clear x5 a0 a1 c0 c1 d0 d1 d2 lc
          go_wp2_with fail
          go_ret
          exact ⟨rfl, HX5.out.alloc _⟩
end Go.Proofs.Ytlljhimaopnbfaa
