/- LightCarves: the law's walk. Condition: the cuts read as a list. -/
import Derived.Test.YtlljhimaopnbfaaLRCv
import Derived.Test.YtlljhimaopnbfaaLSurf
import Derived.Test.YtlljhimaopnbfaaGGreat
namespace Go.Proofs.Ytlljhimaopnbfaa
open Go.RowKit

set_option maxRecDepth 100000 in
set_option maxHeartbeats 8000000 in
theorem lawCarves_any (k : WkT) (v : Value) (fx fy p Wd Ht : Int) (w : World) (hI : CutsIs w v k.cuts) :
    Calls Try.prog 7 #[k.val v, V2 fx fy, .int .i64 p, .int .i64 Wd, .int .i64 Ht] w fun e w' => e = .returned (.bool true) ∧ Ext w w' := by
  have HG := Lib.hid fun (W : World) (x : Ext w W) => great_any k v W (hI.ext x)
  have H1 := Lib.hid fun (W : World) (x : Ext w W) => Carve_any k v fx fy p Wd Ht W (hI.ext x)
  have H2 := Lib.hid fun (W : World) (x : Ext w W) => refCarve_any k v fx fy p Wd Ht W (hI.ext x)
  obtain ⟨A, c, rfl, -, -, -⟩ := cutsIs_at hI
  clear hI
  generalize k.cuts.length = n at *
  have X0 := Lib.hid (show Ext w ((w.alloc (.cells #[.int .i64 k.tip, .int .i64 k.num, .int .i64 k.den, .int .i64 k.bite, .int .i64 k.slack, .int .i64 k.wall, .int .i64 k.deepest, .int .i64 k.play, .int .i64 k.fx, .int .i64 k.fy, .int .i64 k.fh, .int .i64 k.fd, .slice A n c] 79)).alloc (.cells #[.int .i64 fx, .int .i64 fy] 76)) from by (repeat' (first | with_reducible exact Ext.refl _ | with_reducible apply Ext.alloc | with_reducible apply Ext.drew | with_reducible apply Ext.drewN | with_reducible refine Ext.setCell ?_ ?_ _ | with_reducible apply Ext.step | with_reducible assumption | with_reducible exact Nat.le_refl _ | (simp; done) | (simp; omega))))
  have HWK0 := Lib.hid ((WkD.new k (.slice A n c) w).ext ((Ext.refl _).alloc (.cells #[.int .i64 fx, .int .i64 fy] 76)))
  generalize ifOk (carveE k fx fy p Wd Ht) Wd = z1 at *
  generalize ifOk (carveE k fx fy p Wd Ht) Ht = z2 at *
  generalize ifOk (carveE k fx fy p Wd Ht) p = z3 at *
  generalize carveE k fx fy p Wd Ht = z4 at *
  generalize carveL k fx fy p Wd Ht = z5 at *
  cases hg : greatK k
  all_goals rw [hg] at HG; clear hg
  all_goals
    go_enter Try.func7, Try.ntmps7
    go_wp2_with fail
    refine (HG.out _ X0.out).mono ?_
    rintro e w1 ⟨rfl, x1⟩
    have HS := Lib.hid (show w1.cell? ⟨w.heap.size + 1, 0, none⟩ = some (.int .i64 fx) ∧ w1.cell? ⟨w.heap.size + 1, 1, none⟩ = some (.int .i64 fy) from ⟨x1.cell_some (by go_cell), x1.cell_some (by go_cell)⟩)
    have HWK := Lib.hid (HWK0.out.ext x1)
    have HX1 := Lib.hid (X0.out.trans x1)
    clear x1 X0
  rotate_left
  · go_wp2_with fail
    go_ret
    exact ⟨rfl, HX1.out⟩
  have hwk := HWK.out.ext (Ext.refl w1)
  have c0 := hwk.c0
  have c1 := hwk.c1
  have c2 := hwk.c2
  have c3 := hwk.c3
  have c4 := hwk.c4
  have c5 := hwk.c5
  have c6 := hwk.c6
  have c7 := hwk.c7
  have c8 := hwk.c8
  have c9 := hwk.c9
  have c10 := hwk.c10
  have c11 := hwk.c11
  have c12 := hwk.c12
  have s0 := (Ext.refl w1).cell_some HS.out.1
  have s1 := (Ext.refl w1).cell_some HS.out.2
  have lw := cell_lt c0
  have ls := cell_lt s0
  clear hwk
  go_wp2_with fail
  refine (H1.out _ HX1.out).mono ?_
  rintro e w2 ⟨v1, rfl, o1, x2⟩
  clear c0 c1 c2 c3 c4 c5 c6 c7 c8 c9 c10 c11 c12 s0 s1 lw ls
  obtain ⟨B1, k1, d1, rfl⟩ := o1.shape
  have HX2 := Lib.hid (HX1.out.trans x2)
  have hwk := HWK.out.ext x2
  have c0 := hwk.c0
  have c1 := hwk.c1
  have c2 := hwk.c2
  have c3 := hwk.c3
  have c4 := hwk.c4
  have c5 := hwk.c5
  have c6 := hwk.c6
  have c7 := hwk.c7
  have c8 := hwk.c8
  have c9 := hwk.c9
  have c10 := hwk.c10
  have c11 := hwk.c11
  have c12 := hwk.c12
  have s0 := x2.cell_some HS.out.1
  have s1 := x2.cell_some HS.out.2
  have lw := cell_lt c0
  have ls := cell_lt s0
  clear hwk
  have HY2 := Lib.hid x2
  have HO1 := Lib.hid o1.is
  clear x2 o1
  go_wp2_with fail
  refine lay_calls (fun W => Ext w2 W ∧ W.cell? ⟨w2.heap.size, 0, none⟩ = some (.int .i64 z1) ∧ W.cell? ⟨w2.heap.size, 1, none⟩ = some (.int .i64 z2) ∧ W.cell? ⟨w2.heap.size, 2, none⟩ = some (.int .i64 z3) ∧ W.cell? ⟨w2.heap.size, 3, none⟩ = some (.slice B1 k1 d1)) ⟨by (repeat' (first | with_reducible exact Ext.refl _ | with_reducible apply Ext.alloc | with_reducible apply Ext.drew | with_reducible apply Ext.drewN | with_reducible refine Ext.setCell ?_ ?_ _ | with_reducible apply Ext.step | with_reducible assumption | with_reducible exact Nat.le_refl _ | (simp; done) | (simp; omega))), by go_cell, by go_cell, by go_cell, by go_cell⟩ ?_
  rintro W3 ⟨x3, a0, a1, a2, a3⟩
  clear c0 c1 c2 c3 c4 c5 c6 c7 c8 c9 c10 c11 c12 s0 s1 lw ls
  refine (H2.out _ (HX2.out.trans x3)).mono ?_
  rintro e w4 ⟨v2, rfl, o2, x4⟩
  obtain ⟨B2, k2, d2, rfl⟩ := o2.shape
  have HX4 := Lib.hid (HX2.out.trans (x3.trans x4))
  have HO3 := Lib.hid (HO1.out.ext (x3.trans x4))
  have HO4 := Lib.hid o2.is
  replace a0 := x4.cell_some a0
  replace a1 := x4.cell_some a1
  replace a2 := x4.cell_some a2
  replace a3 := x4.cell_some a3
  have la := cell_lt a0
  clear x3 x4 o2 HO1
  have HSM := Lib.hid fun (W : World) (x : Ext w4 W) => sameSurfC_any z1 z2 z3 _ _ z5 W (HO3.out.ext x) (HO4.out.ext x)
  go_wp2_with fail
  refine (HSM.out _ (by (repeat' (first | with_reducible exact Ext.refl _ | with_reducible apply Ext.alloc | with_reducible apply Ext.drew | with_reducible apply Ext.drewN | with_reducible refine Ext.setCell ?_ ?_ _ | with_reducible apply Ext.step | with_reducible assumption | with_reducible exact Nat.le_refl _ | (simp; done) | (simp; omega))))).mono ?_
  rintro e w5 ⟨rfl, x5⟩
  have HX5 := Lib.hid ((HX4.out.alloc _).trans x5)
  clear x5 a0 a1 a2 a3 la
  go_wp2_with fail
  go_ret
  exact ⟨rfl, HX5.out⟩
end Go.Proofs.Ytlljhimaopnbfaa
