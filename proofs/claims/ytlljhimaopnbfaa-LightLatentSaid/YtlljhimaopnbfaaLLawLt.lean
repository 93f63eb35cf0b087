/- LightLatent: the law's walk. Conditions: the slices read as lists. -/
import Derived.Test.YtlljhimaopnbfaaLRLat
import Derived.Test.YtlljhimaopnbfaaLRRd
import Derived.Test.YtlljhimaopnbfaaLRead
namespace Go.Proofs.Ytlljhimaopnbfaa
open Go.RowKit

set_option maxRecDepth 100000 in
set_option maxHeartbeats 8000000 in
theorem lawLatent_any (mv : Value) (ms : List Bool) (ya yb na nb p : Int) (lv : Value) (ls : List (Int × Int × Int)) (sv : Value) (xs : List (Int × Int)) (w : World) (hM : boolK.Is w mv ms) (hL : lightK.Is w lv ls) (hS : shadeK.Is w sv xs) :
    Calls Try.prog 8 #[mv, tiltV ya yb, tiltV na nb, .int .i64 p, lv, sv] w fun e w' => e = .returned (.bool true) ∧ Ext w w' := by
  have H1 := Lib.hid fun (W : World) (x : Ext w W) => Latent_any mv ms ya yb na nb W (hM.ext x)
  have H2 := Lib.hid fun (W : World) (x : Ext w W) => refLatent_any mv ms ya yb na nb W (hM.ext x)
  have H3 := Lib.hid fun (W : World) (x : Ext w W) => Shows_any ya yb na nb p lv ls W (hL.ext x)
  have H4 := Lib.hid fun (W : World) (x : Ext w W) => refShows_any ya yb na nb p lv ls W (hL.ext x)
  have H5 := Lib.hid fun (W : World) (x : Ext w W) => Read_any sv xs W (hS.ext x)
  have H6 := Lib.hid fun (W : World) (x : Ext w W) => refRead_any sv xs W (hS.ext x)
  obtain ⟨A1, n1, c1, rfl, hn1, -⟩ := hM.open_
  obtain ⟨A2, n2, c2, rfl, hn2, -⟩ := hL.open_
  obtain ⟨A3, n3, c3, rfl, hn3, -⟩ := hS.open_
  have X0 := Lib.hid (show Ext w ((w.alloc (.cells #[.int .i64 ya, .int .i64 yb] 23)).alloc (.cells #[.int .i64 na, .int .i64 nb] 23)) from by (repeat' (first | with_reducible exact Ext.refl _ | with_reducible apply Ext.alloc | with_reducible apply Ext.drew | with_reducible apply Ext.drewN | with_reducible refine Ext.setCell ?_ ?_ _ | with_reducible apply Ext.step | with_reducible assumption | with_reducible exact Nat.le_refl _ | (simp; done) | (simp; omega))))
  clear hM hL hS hn1 hn2 hn3
  by_cases g1 : 700 < n1
  · have g : decide ((700 : Int) < (n1 : Int)) = true := decide_eq_true (by omega)
    clear g1
    go_enter Try.func8, Try.ntmps8
    go_wp2_with fail
    go_ret
    exact ⟨rfl, X0.out⟩
  replace g1 : decide ((700 : Int) < (n1 : Int)) = false := decide_eq_false (by omega)
  by_cases g2 : 700 < n3
  · have g : decide ((700 : Int) < (n3 : Int)) = true := decide_eq_true (by omega)
    clear g2
    go_enter Try.func8, Try.ntmps8
    go_wp2_with fail
    go_ret
    exact ⟨rfl, X0.out⟩
  replace g2 : decide ((700 : Int) < (n3 : Int)) = false := decide_eq_false (by omega)
  by_cases g3 : 12 < n2
  · have g : decide ((12 : Int) < (n2 : Int)) = true := decide_eq_true (by omega)
    clear g3
    go_enter Try.func8, Try.ntmps8
    go_wp2_with fail
    go_ret
    exact ⟨rfl, X0.out⟩
  replace g3 : decide ((12 : Int) < (n2 : Int)) = false := decide_eq_false (by omega)
  generalize latE ms ya yb na nb = e1 at *
  generalize showsE ya yb na nb p ls = e2 at *
  generalize readE xs = e3 at *
  generalize latL ms ya yb na nb = l1 at *
  generalize showsL ya yb na nb p ls = l2 at *
  generalize readL xs = l3 at *
  go_enter Try.func8, Try.ntmps8
  go_wp2_with fail
  refine lay_calls (fun W => Ext w W ∧ W.cell? ⟨w.heap.size, 0, none⟩ = some (.int .i64 ya) ∧ W.cell? ⟨w.heap.size, 1, none⟩ = some (.int .i64 yb) ∧ W.cell? ⟨w.heap.size + 1, 0, none⟩ = some (.int .i64 na) ∧ W.cell? ⟨w.heap.size + 1, 1, none⟩ = some (.int .i64 nb)) ⟨X0.out, by go_cell, by go_cell, by go_cell, by go_cell⟩ ?_
  rintro W0 ⟨x0, a0, a1, b0, b1⟩
  have HX0 := Lib.hid x0
  have la := cell_lt a0
  have lb := cell_lt b0
  clear x0 X0
  refine (H1.out _ HX0.out).mono ?_
  rintro e w1 ⟨v1, rfl, o1, x1⟩
  have HX1 := Lib.hid (HX0.out.trans x1)
  replace a0 := x1.cell_some a0
  replace a1 := x1.cell_some a1
  replace b0 := x1.cell_some b0
  replace b1 := x1.cell_some b1
  replace la := cell_lt a0
  replace lb := cell_lt b0
  obtain ⟨B1, k1, d1, rfl⟩ := o1.shape
  have HO1 := Lib.hid o1.is
  clear x1 o1
  go_wp2_with fail
  refine (H2.out _ HX1.out).mono ?_
  rintro e w2 ⟨v2, rfl, o2, x2⟩
  have HX2 := Lib.hid (HX1.out.trans x2)
  replace HO1 := Lib.hid (HO1.out.ext x2)
  replace a0 := x2.cell_some a0
  replace a1 := x2.cell_some a1
  replace b0 := x2.cell_some b0
  replace b1 := x2.cell_some b1
  replace la := cell_lt a0
  replace lb := cell_lt b0
  obtain ⟨B2, k2, d2, rfl⟩ := o2.shape
  have HO2 := Lib.hid o2.is
  clear x2 o2
  go_wp2_with fail
  refine (H3.out _ HX2.out).mono ?_
  rintro e w3 ⟨v3, rfl, o3, x3⟩
  have HX3 := Lib.hid (HX2.out.trans x3)
  replace HO1 := Lib.hid (HO1.out.ext x3)
  replace HO2 := Lib.hid (HO2.out.ext x3)
  replace a0 := x3.cell_some a0
  replace a1 := x3.cell_some a1
  replace b0 := x3.cell_some b0
  replace b1 := x3.cell_some b1
  replace la := cell_lt a0
  replace lb := cell_lt b0
  obtain ⟨B3, k3, d3, rfl⟩ := o3.shape
  have HO3 := Lib.hid o3.is
  clear x3 o3
  go_wp2_with fail
  refine (H4.out _ HX3.out).mono ?_
  rintro e w4 ⟨v4, rfl, o4, x4⟩
  have HX4 := Lib.hid (HX3.out.trans x4)
  replace HO1 := Lib.hid (HO1.out.ext x4)
  replace HO2 := Lib.hid (HO2.out.ext x4)
  replace HO3 := Lib.hid (HO3.out.ext x4)
  obtain ⟨B4, k4, d4, rfl⟩ := o4.shape
  have HO4 := Lib.hid o4.is
  clear x4 o4 a0 a1 b0 b1 la lb
  go_wp2_with fail
  refine (H5.out _ HX4.out).mono ?_
  rintro e w5 ⟨v5, rfl, o5, x5⟩
  have HX5 := Lib.hid (HX4.out.trans x5)
  replace HO1 := Lib.hid (HO1.out.ext x5)
  replace HO2 := Lib.hid (HO2.out.ext x5)
  replace HO3 := Lib.hid (HO3.out.ext x5)
  replace HO4 := Lib.hid (HO4.out.ext x5)
  obtain ⟨B5, k5, d5, rfl⟩ := o5.shape
  have HO5 := Lib.hid o5.is
  clear x5 o5
  go_wp2_with fail
  refine (H6.out _ HX5.out).mono ?_
  rintro e w6 ⟨v6, rfl, o6, x6⟩
  have HX6 := Lib.hid (HX5.out.trans x6)
  replace HO1 := Lib.hid (HO1.out.ext x6)
  replace HO2 := Lib.hid (HO2.out.ext x6)
  replace HO3 := Lib.hid (HO3.out.ext x6)
  replace HO4 := Lib.hid (HO4.out.ext x6)
  replace HO5 := Lib.hid (HO5.out.ext x6)
  obtain ⟨B6, k6, d6, rfl⟩ := o6.shape
  have HO6 := Lib.hid o6.is
  clear x6 o6
  have HS1 := Lib.hid fun (W : World) (x : Ext w6 W) => (show Calls Try.prog 33 #[.slice B1 k1 d1, .slice B2 k2 d2] W fun e w' => e = .returned (.bool true) ∧ Ext W w' by
    have := sameTilts_any _ _ _ _ W (HO1.out.ext x) (HO2.out.ext x)
    rwa [decide_eq_true rfl] at this)
  have HS2 := Lib.hid fun (W : World) (x : Ext w6 W) => (show Calls Try.prog 43 #[.slice B3 k3 d3, .slice B4 k4 d4] W fun e w' => e = .returned (.bool true) ∧ Ext W w' by
    have := sameInts_any _ _ _ _ W (HO3.out.ext x) (HO4.out.ext x)
    rwa [decide_eq_true rfl] at this)
  have HS3 := Lib.hid fun (W : World) (x : Ext w6 W) => (show Calls Try.prog 41 #[.slice B5 k5 d5, .slice B6 k6 d6] W fun e w' => e = .returned (.bool true) ∧ Ext W w' by
    have := sameBools_any _ _ _ _ W (HO5.out.ext x) (HO6.out.ext x)
    rwa [decide_eq_true rfl] at this)
  clear HO1 HO2 HO3 HO4 HO5 HO6
  go_wp2_with fail
  refine (HS1.out _ (Ext.refl _)).mono ?_
  rintro e w7 ⟨rfl, x7⟩
  have HX7 := Lib.hid x7
  clear x7
  go_wp2_with fail
  refine (HS2.out _ HX7.out).mono ?_
  rintro e w8 ⟨rfl, x8⟩
  have HX8 := Lib.hid (HX7.out.trans x8)
  clear x8
  go_wp2_with fail
  refine (HS3.out _ HX8.out).mono ?_
  rintro e w9 ⟨rfl, x9⟩
  have HX9 := Lib.hid (HX8.out.trans x9)
  clear x9
  go_wp2_with fail
  go_ret
  exact ⟨rfl, HX6.out.trans HX9.out⟩
end Go.Proofs.Ytlljhimaopnbfaa
