/- The reference's near, Distance, Apart; GrooveFar: the law's walk. Condition: the slices read as lists. -/
import Derived.Test.YtgeapenglcohfaaGRFar
namespace Go.Proofs.Ytgeapenglcohfaa
open Go.RowKit

theorem refFar_low {xs ys : List (Int × Int)} (h : lineB xs = true) (k : lineB ys = true) : farR xs ys = lowF (farL xs ys).1 (farL xs ys).2 := (far_eq (lineB_co h) (lineB_co k)).2

set_option maxHeartbeats 1000000 in
theorem refNear_any (v u : Value) (xs ys : List (Int × Int)) (n : Int) (w : World) (hx : spotK.Is w v xs) (hy : spotK.Is w u ys) (hl : 1 ≤ xs.length ∧ xs.length ≤ 1000) (hl' : 1 ≤ ys.length ∧ ys.length ≤ 1000) (hcx : ∀ s ∈ xs, CoP s) (hcy : ∀ s ∈ ys, CoP s)
    (hn : 0 ≤ n) (hn2 : n ≤ 1000000000) : Calls Try.prog 78 #[v, u, .int .i64 n] w fun e w' => e = .returned (.bool (nearB xs ys n)) ∧ Ext w w' := by
  obtain ⟨hf, hr⟩ := far_eq hcx hcy
  have HF := Lib.hid (refFar_any v u xs ys w hx hy hl hl' hcx hcy)
  rw [hr] at HF
  obtain ⟨n1, n2⟩ : 0 ≤ n * n ∧ n * n ≤ 1000000000000000000 := by
    have := Int.mul_le_mul hn2 hn2 hn (by omega)
    exact ⟨sq_nn n, by omega⟩
  have hlow := hf.low
  have HN := Lib.hid (show decide ((lowF (farL xs ys).1 (farL xs ys).2).1 * 1 < n * n * (lowF (farL xs ys).1 (farL xs ys).2).2) = nearB xs ys n by
    have h1 := lessF_low (s := farL xs ys) (t := (n * n, 1)) hf.d0 (Int.le_refl 1)
    rw [lowF_one] at h1
    simp only [lessF] at h1
    rw [h1, nearB, Int.mul_one])
  have HL := Lib.hid fun W : World => refLess_any (lowF (farL xs ys).1 (farL xs ys).2).1 (lowF (farL xs ys).1 (farL xs ys).2).2 (n * n) 1 W hlow.n0 hlow.n1 hlow.d0 (by have := hlow.d1; omega) n1 (by omega) (by decide) (by decide)
  generalize lowF (farL xs ys).1 (farL xs ys).2 = lw at *
  obtain ⟨ln, ld⟩ := lw
  simp only at HF HL HN
  rw [HN.out] at HL
  clear hf hx hy hl hl' hcx hcy hr hlow
  go_enter Try.func78, Try.ntmps78
  go_wp2_with fail
  refine HF.out.mono ?_
  rintro e W1 ⟨rfl, x1⟩
  go_wp2_with fail
  refine (HL.out _).mono ?_
  rintro e W2 ⟨rfl, x2⟩
  have HX := Lib.hid (x1.trans x2)
  clear x1 x2
  go_wp2_with fail
  go_ret
  exact ⟨rfl, HX.out⟩

set_option maxRecDepth 100000 in
set_option maxHeartbeats 4000000 in
theorem refDistance_any (v u : Value) (xs ys : List (Int × Int)) (w : World) (hx : spotK.Is w v xs) (hy : spotK.Is w u ys) :
    Calls Try.prog 30 #[v, u] w fun e w' => e = .returned (.tuple #[V2 (distP xs ys).1 (distP xs ys).2, .int .i64 (distE xs ys)]) ∧ Ext w w' := by
  have HX := Lib.hid hx
  have HY := Lib.hid hy
  obtain ⟨A, k, c, rfl, _⟩ := hx.open_
  obtain ⟨A', k', c', rfl, _⟩ := hy.open_
  clear hx hy
  have HL := Lib.hid fun (W : World) (x : Ext w W) => refLine_any _ xs W (HX.out.ext x)
  have HM := Lib.hid fun (W : World) (x : Ext w W) => refLine_any _ ys W (HY.out.ext x)
  cases h1 : lineB xs
  · have HE := Lib.hid (show distE xs ys = 2 by simp [distE, h1])
    have HP := Lib.hid (show distP xs ys = (0, 0) by simp [distP, h1])
    rw [h1] at HL
    go_enter Try.func30, Try.ntmps30
    go_wp2_with fail
    refine (HL.out _ (by (repeat' (first | with_reducible exact Ext.refl _ | with_reducible apply Ext.alloc | with_reducible apply Ext.drew | with_reducible apply Ext.drewN | with_reducible refine Ext.setCell ?_ ?_ _ | with_reducible apply Ext.step | with_reducible assumption | with_reducible exact Nat.le_refl _ | (simp; done) | (simp; omega))))).mono ?_
    rintro e _ ⟨rfl, rfl⟩
    go_wp2_with fail
    go_returns
    exact ⟨by rw [HE.out, HP.out], by (repeat' (first | with_reducible exact Ext.refl _ | with_reducible apply Ext.alloc | with_reducible apply Ext.drew | with_reducible apply Ext.drewN | with_reducible refine Ext.setCell ?_ ?_ _ | with_reducible apply Ext.step | with_reducible assumption | with_reducible exact Nat.le_refl _ | (simp; done) | (simp; omega)))⟩
  rw [h1] at HL
  cases h2 : lineB ys
  · have HE := Lib.hid (show distE xs ys = 2 by simp [distE, h1, h2])
    have HP := Lib.hid (show distP xs ys = (0, 0) by simp [distP, h1, h2])
    rw [h2] at HM
    go_enter Try.func30, Try.ntmps30
    go_wp2_with fail
    refine (HL.out _ (by (repeat' (first | with_reducible exact Ext.refl _ | with_reducible apply Ext.alloc | with_reducible apply Ext.drew | with_reducible apply Ext.drewN | with_reducible refine Ext.setCell ?_ ?_ _ | with_reducible apply Ext.step | with_reducible assumption | with_reducible exact Nat.le_refl _ | (simp; done) | (simp; omega))))).mono ?_
    rintro e _ ⟨rfl, rfl⟩
    go_wp2_with fail
    refine (HM.out _ (by (repeat' (first | with_reducible exact Ext.refl _ | with_reducible apply Ext.alloc | with_reducible apply Ext.drew | with_reducible apply Ext.drewN | with_reducible refine Ext.setCell ?_ ?_ _ | with_reducible apply Ext.step | with_reducible assumption | with_reducible exact Nat.le_refl _ | (simp; done) | (simp; omega))))).mono ?_
    rintro e _ ⟨rfl, rfl⟩
    go_wp2_with fail
    go_returns
    exact ⟨by rw [HE.out, HP.out], by (repeat' (first | with_reducible exact Ext.refl _ | with_reducible apply Ext.alloc | with_reducible apply Ext.drew | with_reducible apply Ext.drewN | with_reducible refine Ext.setCell ?_ ?_ _ | with_reducible apply Ext.step | with_reducible assumption | with_reducible exact Nat.le_refl _ | (simp; done) | (simp; omega)))⟩
  rw [h2] at HM
  have HE := Lib.hid (show distE xs ys = 0 by simp [distE, h1, h2])
  have HP := Lib.hid (show distP xs ys = farR xs ys by rw [refFar_low h1 h2]; simp [distP, h1, h2])
  have HF := Lib.hid fun (W : World) (x : Ext w W) => refFar_any _ _ xs ys W (HX.out.ext x) (HY.out.ext x) (lineB_len h1) (lineB_len h2) (lineB_co h1) (lineB_co h2)
  generalize farR xs ys = fa at *
  obtain ⟨p, q⟩ := fa
  clear h1 h2
  go_enter Try.func30, Try.ntmps30
  go_wp2_with fail
  refine (HL.out _ (by (repeat' (first | with_reducible exact Ext.refl _ | with_reducible apply Ext.alloc | with_reducible apply Ext.drew | with_reducible apply Ext.drewN | with_reducible refine Ext.setCell ?_ ?_ _ | with_reducible apply Ext.step | with_reducible assumption | with_reducible exact Nat.le_refl _ | (simp; done) | (simp; omega))))).mono ?_
  rintro e _ ⟨rfl, rfl⟩
  go_wp2_with fail
  refine (HM.out _ (by (repeat' (first | with_reducible exact Ext.refl _ | with_reducible apply Ext.alloc | with_reducible apply Ext.drew | with_reducible apply Ext.drewN | with_reducible refine Ext.setCell ?_ ?_ _ | with_reducible apply Ext.step | with_reducible assumption | with_reducible exact Nat.le_refl _ | (simp; done) | (simp; omega))))).mono ?_
  rintro e _ ⟨rfl, rfl⟩
  go_wp2_with fail
  refine (HF.out _ (by (repeat' (first | with_reducible exact Ext.refl _ | with_reducible apply Ext.alloc | with_reducible apply Ext.drew | with_reducible apply Ext.drewN | with_reducible refine Ext.setCell ?_ ?_ _ | with_reducible apply Ext.step | with_reducible assumption | with_reducible exact Nat.le_refl _ | (simp; done) | (simp; omega))))).mono ?_
  rintro e W1 ⟨rfl, x1⟩
  have y1 : Ext (w.alloc (.cells #[.int .i64 0, .int .i64 0] 45)) W1 := x1
  have c0 := y1.cell_some (show (w.alloc (.cells #[.int .i64 0, .int .i64 0] 45)).cell? ⟨w.heap.size, 0, none⟩ = some (.int .i64 0) by go_cell)
  have c1 := y1.cell_some (show (w.alloc (.cells #[.int .i64 0, .int .i64 0] 45)).cell? ⟨w.heap.size, 1, none⟩ = some (.int .i64 0) by go_cell)
  have f0 := y1.frozen (b := w.heap.size) (o := 0) (v := .int .i64 0) (c := false) (by go_cell) (by go_simp)
  have f1 := y1.frozen (b := w.heap.size) (o := 1) (v := .int .i64 0) (c := false) (by go_cell) (by go_simp)
  have lw := cell_lt c0
  have HW1 := Lib.hid (show Ext w W1 from Ext.trans (by (repeat' (first | with_reducible exact Ext.refl _ | with_reducible apply Ext.alloc | with_reducible apply Ext.drew | with_reducible apply Ext.drewN | with_reducible refine Ext.setCell ?_ ?_ _ | with_reducible apply Ext.step | with_reducible assumption | with_reducible exact Nat.le_refl _ | (simp; done) | (simp; omega)))) y1)
  clear x1 y1 HX HY HL HM HF
  go_wp2_with fail
  have z0 := cell_set_same (u := .int .i64 p) c0
  have z1 := (set2 c0 c1 (.int .i64 p) (.int .i64 q)).2
  exact bodyPost_ret (v := .tuple #[V2 p q, .int .i64 0]) (by simp [results, Try.results30, go_sem, z0, z1]) rfl ⟨by rw [HP.out, HE.out], ((HW1.out.setCell (by simp) _).setCell (by simp) _)⟩

set_option maxRecDepth 100000 in
set_option maxHeartbeats 4000000 in
theorem refApart_any (v u : Value) (xs ys : List (Int × Int)) (n : Int) (w : World) (hx : spotK.Is w v xs) (hy : spotK.Is w u ys) :
    Calls Try.prog 32 #[v, u, .int .i64 n] w fun e w' => e = .returned (.tuple #[.bool (apB xs ys n), .int .i64 (apE xs ys n)]) ∧ Ext w w' := by
  have HX := Lib.hid hx
  have HY := Lib.hid hy
  obtain ⟨A, k, c, rfl, _⟩ := hx.open_
  obtain ⟨A', k', c', rfl, _⟩ := hy.open_
  clear hx hy
  have HL := Lib.hid fun (W : World) (x : Ext w W) => refLine_any _ xs W (HX.out.ext x)
  have HM := Lib.hid fun (W : World) (x : Ext w W) => refLine_any _ ys W (HY.out.ext x)
  have HW := Lib.hid fun (W : World) => within_any n 0 30000 W
  cases h1 : lineB xs
  · have HE := Lib.hid (show apE xs ys n = 2 by simp [apE, h1])
    have HP := Lib.hid (show apB xs ys n = false by simp [apB, h1])
    rw [h1] at HL
    go_enter Try.func32, Try.ntmps32
    go_wp2_with fail
    refine (HL.out _ (by (repeat' (first | with_reducible exact Ext.refl _ | with_reducible apply Ext.alloc | with_reducible apply Ext.drew | with_reducible apply Ext.drewN | with_reducible refine Ext.setCell ?_ ?_ _ | with_reducible apply Ext.step | with_reducible assumption | with_reducible exact Nat.le_refl _ | (simp; done) | (simp; omega))))).mono ?_
    rintro e _ ⟨rfl, rfl⟩
    go_wp2_with fail
    go_ret2
    exact ⟨by rw [HE.out, HP.out]; rfl, by (repeat' (first | with_reducible exact Ext.refl _ | with_reducible apply Ext.alloc | with_reducible apply Ext.drew | with_reducible apply Ext.drewN | with_reducible refine Ext.setCell ?_ ?_ _ | with_reducible apply Ext.step | with_reducible assumption | with_reducible exact Nat.le_refl _ | (simp; done) | (simp; omega)))⟩
  rw [h1] at HL
  cases h2 : lineB ys
  · have HE := Lib.hid (show apE xs ys n = 2 by simp [apE, h1, h2])
    have HP := Lib.hid (show apB xs ys n = false by simp [apB, h1, h2])
    rw [h2] at HM
    go_enter Try.func32, Try.ntmps32
    go_wp2_with fail
    refine (HL.out _ (by (repeat' (first | with_reducible exact Ext.refl _ | with_reducible apply Ext.alloc | with_reducible apply Ext.drew | with_reducible apply Ext.drewN | with_reducible refine Ext.setCell ?_ ?_ _ | with_reducible apply Ext.step | with_reducible assumption | with_reducible exact Nat.le_refl _ | (simp; done) | (simp; omega))))).mono ?_
    rintro e _ ⟨rfl, rfl⟩
    go_wp2_with fail
    refine (HM.out _ (by (repeat' (first | with_reducible exact Ext.refl _ | with_reducible apply Ext.alloc | with_reducible apply Ext.drew | with_reducible apply Ext.drewN | with_reducible refine Ext.setCell ?_ ?_ _ | with_reducible apply Ext.step | with_reducible assumption | with_reducible exact Nat.le_refl _ | (simp; done) | (simp; omega))))).mono ?_
    rintro e _ ⟨rfl, rfl⟩
    go_wp2_with fail
    go_ret2
    exact ⟨by rw [HE.out, HP.out]; rfl, by (repeat' (first | with_reducible exact Ext.refl _ | with_reducible apply Ext.alloc | with_reducible apply Ext.drew | with_reducible apply Ext.drewN | with_reducible refine Ext.setCell ?_ ?_ _ | with_reducible apply Ext.step | with_reducible assumption | with_reducible exact Nat.le_refl _ | (simp; done) | (simp; omega)))⟩
  rw [h2] at HM
  cases h3 : inB 0 30000 n
  · have HE := Lib.hid (show apE xs ys n = 2 by simp [apE, h1, h2, h3])
    have HP := Lib.hid (show apB xs ys n = false by simp [apB, h1, h2, h3])
    rw [h3] at HW
    go_enter Try.func32, Try.ntmps32
    go_wp2_with fail
    refine (HL.out _ (by (repeat' (first | with_reducible exact Ext.refl _ | with_reducible apply Ext.alloc | with_reducible apply Ext.drew | with_reducible apply Ext.drewN | with_reducible refine Ext.setCell ?_ ?_ _ | with_reducible apply Ext.step | with_reducible assumption | with_reducible exact Nat.le_refl _ | (simp; done) | (simp; omega))))).mono ?_
    rintro e _ ⟨rfl, rfl⟩
    go_wp2_with fail
    refine (HM.out _ (by (repeat' (first | with_reducible exact Ext.refl _ | with_reducible apply Ext.alloc | with_reducible apply Ext.drew | with_reducible apply Ext.drewN | with_reducible refine Ext.setCell ?_ ?_ _ | with_reducible apply Ext.step | with_reducible assumption | with_reducible exact Nat.le_refl _ | (simp; done) | (simp; omega))))).mono ?_
    rintro e _ ⟨rfl, rfl⟩
    go_wp2_with fail
    refine (HW.out _).mono ?_
    rintro e _ ⟨rfl, rfl⟩
    go_wp2_with fail
    go_ret2
    exact ⟨by rw [HE.out, HP.out]; rfl, by (repeat' (first | with_reducible exact Ext.refl _ | with_reducible apply Ext.alloc | with_reducible apply Ext.drew | with_reducible apply Ext.drewN | with_reducible refine Ext.setCell ?_ ?_ _ | with_reducible apply Ext.step | with_reducible assumption | with_reducible exact Nat.le_refl _ | (simp; done) | (simp; omega)))⟩
  · have HE := Lib.hid (show apE xs ys n = 0 by simp [apE, h1, h2, h3])
    have HP := Lib.hid (show apB xs ys n = !nearB xs ys n by simp [apB, h1, h2, h3])
    obtain ⟨hn0, hn1⟩ := inB_iff.1 h3
    have HN := Lib.hid fun (W : World) (x : Ext w W) => refNear_any _ _ xs ys n W (HX.out.ext x) (HY.out.ext x) (lineB_len h1) (lineB_len h2) (lineB_co h1) (lineB_co h2) hn0 (by omega)
    rw [h3] at HW
    go_enter Try.func32, Try.ntmps32
    go_wp2_with fail
    refine (HL.out _ (by (repeat' (first | with_reducible exact Ext.refl _ | with_reducible apply Ext.alloc | with_reducible apply Ext.drew | with_reducible apply Ext.drewN | with_reducible refine Ext.setCell ?_ ?_ _ | with_reducible apply Ext.step | with_reducible assumption | with_reducible exact Nat.le_refl _ | (simp; done) | (simp; omega))))).mono ?_
    rintro e _ ⟨rfl, rfl⟩
    go_wp2_with fail
    refine (HM.out _ (by (repeat' (first | with_reducible exact Ext.refl _ | with_reducible apply Ext.alloc | with_reducible apply Ext.drew | with_reducible apply Ext.drewN | with_reducible refine Ext.setCell ?_ ?_ _ | with_reducible apply Ext.step | with_reducible assumption | with_reducible exact Nat.le_refl _ | (simp; done) | (simp; omega))))).mono ?_
    rintro e _ ⟨rfl, rfl⟩
    go_wp2_with fail
    refine (HW.out _).mono ?_
    rintro e _ ⟨rfl, rfl⟩
    go_wp2_with fail
    refine (HN.out _ (by (repeat' (first | with_reducible exact Ext.refl _ | with_reducible apply Ext.alloc | with_reducible apply Ext.drew | with_reducible apply Ext.drewN | with_reducible refine Ext.setCell ?_ ?_ _ | with_reducible apply Ext.step | with_reducible assumption | with_reducible exact Nat.le_refl _ | (simp; done) | (simp; omega))))).mono ?_
    rintro e _ ⟨rfl, hx⟩
    obtain ⟨δ, rfl⟩ : Ext (w) _ := Ext.trans (by (repeat' (first | with_reducible exact Ext.refl _ | with_reducible apply Ext.alloc | with_reducible apply Ext.drew | with_reducible apply Ext.drewN | with_reducible refine Ext.setCell ?_ ?_ _ | with_reducible apply Ext.step | with_reducible assumption | with_reducible exact Nat.le_refl _ | (simp; done) | (simp; omega)))) hx
    clear hx
    go_wp2_with fail
    go_ret2
    exact ⟨by rw [HE.out, HP.out]; rfl, by (repeat' (first | with_reducible exact Ext.refl _ | with_reducible apply Ext.alloc | with_reducible apply Ext.drew | with_reducible apply Ext.drewN | with_reducible refine Ext.setCell ?_ ?_ _ | with_reducible apply Ext.step | with_reducible assumption | with_reducible exact Nat.le_refl _ | (simp; done) | (simp; omega)))⟩

set_option maxRecDepth 100000 in
set_option maxHeartbeats 4000000 in
theorem lawFar_any (v : Value) (xs : List (Int × Int)) (u : Value) (ys : List (Int × Int)) (n : Int) (w : World) (hx : spotK.Is w v xs) (hy : spotK.Is w u ys) :
    Calls Try.prog 5 #[v, u, .int .i64 n] w fun e w' => e = .returned (.bool true) ∧ Ext w w' := by
  have HD := Lib.hid fun (W : World) (x : Ext w W) => distance_any v u xs ys W (hx.ext x) (hy.ext x)
  have HD' := Lib.hid fun (W : World) (x : Ext w W) => refDistance_any v u xs ys W (hx.ext x) (hy.ext x)
  have HA := Lib.hid fun (W : World) (x : Ext w W) => apart2_any v u xs ys n W (hx.ext x) (hy.ext x)
  have HA' := Lib.hid fun (W : World) (x : Ext w W) => refApart_any v u xs ys n W (hx.ext x) (hy.ext x)
  obtain ⟨A, k, c, rfl, -⟩ := hx.open_
  obtain ⟨A', k', c', rfl, -⟩ := hy.open_
  clear hx hy
  generalize distP xs ys = dp at *
  generalize distE xs ys = de at *
  generalize apB xs ys n = ab at *
  generalize apE xs ys n = ae at *
  obtain ⟨dn, dd⟩ := dp
  by_cases h1 : 20 < k
  · have e1 : decide ((20 : Int) < (k : Int)) = true := by simp; omega
    clear h1
    go_enter Try.func5, Try.ntmps5
    go_wp2_with fail
    go_ret
    exact ⟨rfl, by (repeat' (first | with_reducible exact Ext.refl _ | with_reducible apply Ext.alloc | with_reducible apply Ext.drew | with_reducible apply Ext.drewN | with_reducible refine Ext.setCell ?_ ?_ _ | with_reducible apply Ext.step | with_reducible assumption | with_reducible exact Nat.le_refl _ | (simp; done) | (simp; omega)))⟩
  have e1 : decide ((20 : Int) < (k : Int)) = false := by simp; omega
  clear h1
  by_cases h2 : 20 < k'
  · have e2 : decide ((20 : Int) < (k' : Int)) = true := by simp; omega
    clear h2
    go_enter Try.func5, Try.ntmps5
    go_wp2_with fail
    go_ret
    exact ⟨rfl, by (repeat' (first | with_reducible exact Ext.refl _ | with_reducible apply Ext.alloc | with_reducible apply Ext.drew | with_reducible apply Ext.drewN | with_reducible refine Ext.setCell ?_ ?_ _ | with_reducible apply Ext.step | with_reducible assumption | with_reducible exact Nat.le_refl _ | (simp; done) | (simp; omega)))⟩
  have e2 : decide ((20 : Int) < (k' : Int)) = false := by simp; omega
  clear h2
  go_enter Try.func5, Try.ntmps5
  go_wp2_with fail
  refine (HD.out _ (by (repeat' (first | with_reducible exact Ext.refl _ | with_reducible apply Ext.alloc | with_reducible apply Ext.drew | with_reducible apply Ext.drewN | with_reducible refine Ext.setCell ?_ ?_ _ | with_reducible apply Ext.step | with_reducible assumption | with_reducible exact Nat.le_refl _ | (simp; done) | (simp; omega))))).mono ?_
  rintro e W1 ⟨rfl, x1⟩
  have X1 := Lib.hid x1
  clear x1
  go_wp2_with fail
  refine (HD'.out _ (by first | exact X1.out | exact X1.out.alloc _)).mono ?_
  rintro e W2 ⟨rfl, x2⟩
  have X2 : Ext w W2 := (X1.out.alloc _).trans x2
  have c0 : W2.cell? ⟨W1.heap.size, 0, none⟩ = some (.int .i64 dn) := x2.cell_some (by go_cell)
  have c1 : W2.cell? ⟨W1.heap.size, 1, none⟩ = some (.int .i64 dd) := x2.cell_some (by go_cell)
  have l0 := cell_lt c0
  have HX2 := Lib.hid X2
  clear x2 X1 X2
  go_wp2_with fail
  refine (HA.out _ (HX2.out.alloc _)).mono ?_
  rintro e W3 ⟨rfl, x3⟩
  have X3 : Ext w W3 := (HX2.out.alloc _).trans x3
  replace c0 := x3.cell_some ((Ext.alloc (Ext.refl _) _).cell_some c0)
  replace c1 := x3.cell_some ((Ext.alloc (Ext.refl _) _).cell_some c1)
  have d0 : W3.cell? ⟨W2.heap.size, 0, none⟩ = some (.int .i64 dn) := x3.cell_some (by go_cell)
  have d1 : W3.cell? ⟨W2.heap.size, 1, none⟩ = some (.int .i64 dd) := x3.cell_some (by go_cell)
  have l1 := cell_lt d0
  replace l0 := cell_lt c0
  have HX3 := Lib.hid X3
  clear x3 X3 HX2
  go_wp2_with fail
  refine (HA'.out _ HX3.out).mono ?_
  rintro e W4 ⟨rfl, x4⟩
  replace c0 := x4.cell_some c0
  replace c1 := x4.cell_some c1
  replace d0 := x4.cell_some d0
  replace d1 := x4.cell_some d1
  replace l0 := cell_lt c0
  replace l1 := cell_lt d0
  have HX4 := Lib.hid (HX3.out.trans x4)
  clear x4 HX3
  go_wp2_with fail
  all_goals go_ret
  all_goals exact ⟨rfl, HX4.out⟩
end Go.Proofs.Ytgeapenglcohfaa
