/- LightPictures: the law's walk. Condition: the slice reads as a list. -/
import Derived.Test.YtlljhimaopnbfaaLLy
namespace Go.Proofs.Ytlljhimaopnbfaa
open Go.RowKit Go.Shelf

set_option maxRecDepth 100000 in
set_option maxHeartbeats 8000000 in
theorem lawPictures_any (W H P : Int) (hv : Value) (hs : List Int) (lx ly lz k : Int) (w : World) (hI : intK.Is w hv hs) :
    Calls Try.prog 5 #[surfV W H P hv, lightV lx ly lz, .int .i64 k] w fun e w' => e = .returned (.bool true) ∧ Ext w w' := by
  have HI := Lib.hid fun (W0 : World) (x : Ext w W0) => hI.ext x
  have HGR := Lib.hid fun (W0 : World) (x : Ext w W0) => great_any W H P hv hs W0 (hI.ext x)
  obtain ⟨A, L, c, rfl, hL, _⟩ := hI.open_
  clear hI hL
  cases hg : decide (700 < hs.length)
  rotate_left
  · rw [hg] at HGR
    clear hg
    go_enter Try.func5, Try.ntmps5
    go_wp2_with fail
    refine (HGR.out _ (by (repeat' (first | with_reducible exact Ext.refl _ | with_reducible apply Ext.alloc | with_reducible apply Ext.drew | with_reducible apply Ext.drewN | with_reducible refine Ext.setCell ?_ ?_ _ | with_reducible apply Ext.step | with_reducible assumption | with_reducible exact Nat.le_refl _ | (simp; done) | (simp; omega))))).mono ?_
    rintro e _ ⟨rfl, hx⟩
    obtain ⟨δ, rfl⟩ : Ext ((w.alloc (.cells #[.int .i64 W, .int .i64 H, .int .i64 P, .slice A L c] 37)).alloc (.cells #[.int .i64 lx, .int .i64 ly, .int .i64 lz] 25)) _ := Ext.trans (by (repeat' (first | with_reducible exact Ext.refl _ | with_reducible apply Ext.alloc | with_reducible apply Ext.drew | with_reducible apply Ext.drewN | with_reducible refine Ext.setCell ?_ ?_ _ | with_reducible apply Ext.step | with_reducible assumption | with_reducible exact Nat.le_refl _ | (simp; done) | (simp; omega)))) hx
    clear hx
    try (have hs0 := δ.lt (w.heap.size) (by first | (simp; done) | (simp; omega)))
    try (have hs1 := δ.lt (w.heap.size + 1) (by first | (simp; done) | (simp; omega)))
    go_wp2_with fail
    go_ret
    exact ⟨rfl, by (repeat' (first | with_reducible exact Ext.refl _ | with_reducible apply Ext.alloc | with_reducible apply Ext.drew | with_reducible apply Ext.drewN | with_reducible refine Ext.setCell ?_ ?_ _ | with_reducible apply Ext.step | with_reducible assumption | with_reducible exact Nat.le_refl _ | (simp; done) | (simp; omega)))⟩
  · rw [hg] at HGR
    clear hg
    go_enter Try.func5, Try.ntmps5
    go_wp2_with fail
    refine (HGR.out _ (by (repeat' (first | with_reducible exact Ext.refl _ | with_reducible apply Ext.alloc | with_reducible apply Ext.drew | with_reducible apply Ext.drewN | with_reducible refine Ext.setCell ?_ ?_ _ | with_reducible apply Ext.step | with_reducible assumption | with_reducible exact Nat.le_refl _ | (simp; done) | (simp; omega))))).mono ?_
    rintro e _ ⟨rfl, hx⟩
    obtain ⟨δ, rfl⟩ : Ext ((w.alloc (.cells #[.int .i64 W, .int .i64 H, .int .i64 P, .slice A L c] 37)).alloc (.cells #[.int .i64 lx, .int .i64 ly, .int .i64 lz] 25)) _ := Ext.trans (by (repeat' (first | with_reducible exact Ext.refl _ | with_reducible apply Ext.alloc | with_reducible apply Ext.drew | with_reducible apply Ext.drewN | with_reducible refine Ext.setCell ?_ ?_ _ | with_reducible apply Ext.step | with_reducible assumption | with_reducible exact Nat.le_refl _ | (simp; done) | (simp; omega)))) hx
    clear hx
    try (have hs0 := δ.lt (w.heap.size) (by first | (simp; done) | (simp; omega)))
    try (have hs1 := δ.lt (w.heap.size + 1) (by first | (simp; done) | (simp; omega)))
    go_wp2_with fail
    refine lay_calls (fun W0 => Ext w W0 ∧ W0.cell? ⟨w.heap.size, 0, none⟩ = some (.int .i64 W) ∧ W0.cell? ⟨w.heap.size, 1, none⟩ = some (.int .i64 H) ∧ W0.cell? ⟨w.heap.size, 2, none⟩ = some (.int .i64 P) ∧ W0.cell? ⟨w.heap.size, 3, none⟩ = some (.slice A L c) ∧
      W0.cell? ⟨w.heap.size + 1, 0, none⟩ = some (.int .i64 lx) ∧ W0.cell? ⟨w.heap.size + 1, 1, none⟩ = some (.int .i64 ly) ∧ W0.cell? ⟨w.heap.size + 1, 2, none⟩ = some (.int .i64 lz)) ⟨by (repeat' (first | with_reducible exact Ext.refl _ | with_reducible apply Ext.alloc | with_reducible apply Ext.drew | with_reducible apply Ext.drewN | with_reducible refine Ext.setCell ?_ ?_ _ | with_reducible apply Ext.step | with_reducible assumption | with_reducible exact Nat.le_refl _ | (simp; done) | (simp; omega))), by go_cell, by go_cell, by go_cell, by go_cell, by go_cell, by go_cell, by go_cell⟩ ?_
    rintro W0 ⟨X0, c0, c1, c2, c3, k0, k1, k2⟩
    have HX0 := Lib.hid X0
    have l0 := cell_lt c0
    have l1 := cell_lt k0
    clear X0
    refine (shadows_any W H P _ hs lx ly lz W0 (HI.out _ HX0.out)).mono ?_
    rintro e W1 ⟨va, rfl, oa, x⟩
    obtain ⟨Aa, ka, ca, rfl⟩ := oa.shape
    have HOa := Lib.hid oa.is
    have HX1 := Lib.hid (HX0.out.trans x)
    replace c0 := x.cell_some c0
    replace c1 := x.cell_some c1
    replace c2 := x.cell_some c2
    replace c3 := x.cell_some c3
    replace k0 := x.cell_some k0
    replace k1 := x.cell_some k1
    replace k2 := x.cell_some k2
    replace l0 := cell_lt c0
    replace l1 := cell_lt k0
    clear x oa
    go_wp2_with fail
    refine (refShadows_any W H P _ hs lx ly lz W1 (HI.out _ HX1.out)).mono ?_
    rintro e W2 ⟨vb, rfl, ob, x⟩
    obtain ⟨Ab, kb, cb, rfl⟩ := ob.shape
    have HOb := Lib.hid ob.is
    replace HOa := Lib.hid (HOa.out.ext x)
    have HX2 := Lib.hid (HX1.out.trans x)
    replace c0 := x.cell_some c0
    replace c1 := x.cell_some c1
    replace c2 := x.cell_some c2
    replace c3 := x.cell_some c3
    replace k0 := x.cell_some k0
    replace k1 := x.cell_some k1
    replace k2 := x.cell_some k2
    replace l0 := cell_lt c0
    replace l1 := cell_lt k0
    clear x ob
    go_wp2_with fail
    refine (Picture_any W H P _ hs lx ly lz W2 (HI.out _ HX2.out)).mono ?_
    rintro e W3 ⟨vc, rfl, oc, x⟩
    obtain ⟨Ac, kc, cc, rfl⟩ := oc.shape
    have HOc := Lib.hid oc.is
    replace HOa := Lib.hid (HOa.out.ext x)
    replace HOb := Lib.hid (HOb.out.ext x)
    have HX3 := Lib.hid (HX2.out.trans x)
    replace c0 := x.cell_some c0
    replace c1 := x.cell_some c1
    replace c2 := x.cell_some c2
    replace c3 := x.cell_some c3
    replace k0 := x.cell_some k0
    replace k1 := x.cell_some k1
    replace k2 := x.cell_some k2
    replace l0 := cell_lt c0
    replace l1 := cell_lt k0
    clear x oc
    go_wp2_with fail
    refine (refPicture_any W H P _ hs lx ly lz W3 (HI.out _ HX3.out)).mono ?_
    rintro e W4 ⟨vd, rfl, od, x⟩
    obtain ⟨Ad, kd, cd, rfl⟩ := od.shape
    have HOd := Lib.hid od.is
    replace HOa := Lib.hid (HOa.out.ext x)
    replace HOb := Lib.hid (HOb.out.ext x)
    replace HOc := Lib.hid (HOc.out.ext x)
    have HX4 := Lib.hid (HX3.out.trans x)
    replace c0 := x.cell_some c0
    replace c1 := x.cell_some c1
    replace c2 := x.cell_some c2
    replace c3 := x.cell_some c3
    replace k0 := x.cell_some k0
    replace k1 := x.cell_some k1
    replace k2 := x.cell_some k2
    replace l0 := cell_lt c0
    replace l1 := cell_lt k0
    clear x od
    go_wp2_with fail
    refine (Levels_any W H P _ hs lx ly lz k W4 (HI.out _ HX4.out)).mono ?_
    rintro e W5 ⟨vx, rfl, ox, x⟩
    obtain ⟨Ax, kx, cx_, rfl⟩ := ox.shape
    have HOx := Lib.hid ox.is
    replace HOa := Lib.hid (HOa.out.ext x)
    replace HOb := Lib.hid (HOb.out.ext x)
    replace HOc := Lib.hid (HOc.out.ext x)
    replace HOd := Lib.hid (HOd.out.ext x)
    have HX5 := Lib.hid (HX4.out.trans x)
    replace c0 := x.cell_some c0
    replace c1 := x.cell_some c1
    replace c2 := x.cell_some c2
    replace c3 := x.cell_some c3
    replace k0 := x.cell_some k0
    replace k1 := x.cell_some k1
    replace k2 := x.cell_some k2
    replace l0 := cell_lt c0
    replace l1 := cell_lt k0
    clear x ox
    go_wp2_with fail
    refine (refLevels_any W H P _ hs lx ly lz k W5 (HI.out _ HX5.out)).mono ?_
    rintro e W6 ⟨vy, rfl, oy, x⟩
    obtain ⟨Ay, ky, cy_, rfl⟩ := oy.shape
    have HOy := Lib.hid oy.is
    replace HOa := Lib.hid (HOa.out.ext x)
    replace HOb := Lib.hid (HOb.out.ext x)
    replace HOc := Lib.hid (HOc.out.ext x)
    replace HOd := Lib.hid (HOd.out.ext x)
    replace HOx := Lib.hid (HOx.out.ext x)
    have HX6 := Lib.hid (HX5.out.trans x)
    replace c0 := x.cell_some c0
    replace c1 := x.cell_some c1
    replace c2 := x.cell_some c2
    replace c3 := x.cell_some c3
    replace k0 := x.cell_some k0
    replace k1 := x.cell_some k1
    replace k2 := x.cell_some k2
    replace l0 := cell_lt c0
    replace l1 := cell_lt k0
    clear x oy
    go_wp2_with fail
    have HS1 := Lib.hid fun (Wd : World) (x : Ext W6 Wd) => (show Calls Try.prog 41 #[.slice Aa ka ca, .slice Ab kb cb] Wd fun e w' => e = .returned (.bool true) ∧ Ext Wd w' by
      have := sameBools_any _ _ _ _ Wd (HOa.out.ext x) (HOb.out.ext x)
      rwa [decide_eq_true rfl] at this)
    have HS2 := Lib.hid fun (Wd : World) (x : Ext W6 Wd) => (show Calls Try.prog 42 #[.slice Ac kc cc, .slice Ad kd cd] Wd fun e w' => e = .returned (.bool true) ∧ Ext Wd w' by
      have := sameShades_any _ _ _ _ Wd (HOc.out.ext x) (HOd.out.ext x)
      rwa [decide_eq_true rfl] at this)
    have HS3 := Lib.hid fun (Wd : World) (x : Ext W6 Wd) => (show Calls Try.prog 43 #[.slice Ax kx cx_, .slice Ay ky cy_] Wd fun e w' => e = .returned (.bool true) ∧ Ext Wd w' by
      have := sameInts_any _ _ _ _ Wd (HOx.out.ext x) (HOy.out.ext x)
      rwa [decide_eq_true rfl] at this)
    refine (HS1.out W6 (Ext.refl _)).mono ?_
    rintro e W7 ⟨rfl, x7⟩
    have HX7 := Lib.hid x7
    clear x7
    go_wp2_with fail
    refine (HS2.out W7 HX7.out).mono ?_
    rintro e W8 ⟨rfl, x8⟩
    have HX8 := Lib.hid (HX7.out.trans x8)
    clear x8
    go_wp2_with fail
    refine (HS3.out W8 HX8.out).mono ?_
    rintro e W9 ⟨rfl, x9⟩
    have HX9 := Lib.hid (HX6.out.trans (HX8.out.trans x9))
    clear x9
    go_wp2_with fail
    go_ret
    exact ⟨rfl, HX9.out⟩
end Go.Proofs.Ytlljhimaopnbfaa
