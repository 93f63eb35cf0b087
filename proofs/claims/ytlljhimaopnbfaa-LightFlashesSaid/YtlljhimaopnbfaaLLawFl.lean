/- LightFlashes: the law's walk. Conditions: the slices read as lists. -/
import Derived.Test.YtlljhimaopnbfaaLRfl
import Derived.Test.YtlljhimaopnbfaaLSame
namespace Go.Proofs.Ytlljhimaopnbfaa
open Go.RowKit Go.Shelf

set_option maxRecDepth 100000 in
set_option maxHeartbeats 8000000 in
theorem lawFlashes_any (W H P : Int) (hv : Value) (hs : List Int) (lv : Value) (ls : List (Int × Int × Int)) (w : World) (hI : intK.Is w hv hs) (hLs : lightK.Is w lv ls) :
    Calls Try.prog 6 #[surfV W H P hv, lv] w fun e w' => e = .returned (.bool true) ∧ Ext w w' := by
  have HI := Lib.hid fun (W0 : World) (x : Ext w W0) => hI.ext x
  have HLI := Lib.hid fun (W0 : World) (x : Ext w W0) => hLs.ext x
  have HGR := Lib.hid fun (W0 : World) (x : Ext w W0) => great_any W H P hv hs W0 (hI.ext x)
  obtain ⟨A, L, c, rfl, hL, _⟩ := hI.open_
  obtain ⟨A', k, c', rfl, hk, _, _, hkm⟩ := hLs.open_
  clear hI hL hLs
  cases hg : decide (700 < hs.length)
  rotate_left
  · rw [hg] at HGR
    clear hg hk
    go_enter Try.func6, Try.ntmps6
    go_wp2_with fail
    refine (HGR.out _ (by (repeat' (first | with_reducible exact Ext.refl _ | with_reducible apply Ext.alloc | with_reducible apply Ext.drew | with_reducible apply Ext.drewN | with_reducible refine Ext.setCell ?_ ?_ _ | with_reducible apply Ext.step | with_reducible assumption | with_reducible exact Nat.le_refl _ | (simp; done) | (simp; omega))))).mono ?_
    rintro e _ ⟨rfl, hx⟩
    obtain ⟨δ, rfl⟩ : Ext (w.alloc (.cells #[.int .i64 W, .int .i64 H, .int .i64 P, .slice A L c] 37)) _ := Ext.trans (by (repeat' (first | with_reducible exact Ext.refl _ | with_reducible apply Ext.alloc | with_reducible apply Ext.drew | with_reducible apply Ext.drewN | with_reducible refine Ext.setCell ?_ ?_ _ | with_reducible apply Ext.step | with_reducible assumption | with_reducible exact Nat.le_refl _ | (simp; done) | (simp; omega)))) hx
    clear hx
    try (have hs0 := δ.lt (w.heap.size) (by first | (simp; done) | (simp; omega)))
    go_wp2_with fail
    go_ret
    exact ⟨rfl, by (repeat' (first | with_reducible exact Ext.refl _ | with_reducible apply Ext.alloc | with_reducible apply Ext.drew | with_reducible apply Ext.drewN | with_reducible refine Ext.setCell ?_ ?_ _ | with_reducible apply Ext.step | with_reducible assumption | with_reducible exact Nat.le_refl _ | (simp; done) | (simp; omega)))⟩
  · rw [hg] at HGR
    clear hg hk
    by_cases hg : 12 < k
    · have hd : decide (12 < (k : Int)) = true := by simp; omega
      go_enter Try.func6, Try.ntmps6
      go_wp2_with fail
      refine (HGR.out _ (by (repeat' (first | with_reducible exact Ext.refl _ | with_reducible apply Ext.alloc | with_reducible apply Ext.drew | with_reducible apply Ext.drewN | with_reducible refine Ext.setCell ?_ ?_ _ | with_reducible apply Ext.step | with_reducible assumption | with_reducible exact Nat.le_refl _ | (simp; done) | (simp; omega))))).mono ?_
      rintro e _ ⟨rfl, hx⟩
      obtain ⟨δ, rfl⟩ : Ext (w.alloc (.cells #[.int .i64 W, .int .i64 H, .int .i64 P, .slice A L c] 37)) _ := Ext.trans (by (repeat' (first | with_reducible exact Ext.refl _ | with_reducible apply Ext.alloc | with_reducible apply Ext.drew | with_reducible apply Ext.drewN | with_reducible refine Ext.setCell ?_ ?_ _ | with_reducible apply Ext.step | with_reducible assumption | with_reducible exact Nat.le_refl _ | (simp; done) | (simp; omega)))) hx
      clear hx
      try (have hs0 := δ.lt (w.heap.size) (by first | (simp; done) | (simp; omega)))
      go_wp2_with fail
      go_ret
      exact ⟨rfl, by (repeat' (first | with_reducible exact Ext.refl _ | with_reducible apply Ext.alloc | with_reducible apply Ext.drew | with_reducible apply Ext.drewN | with_reducible refine Ext.setCell ?_ ?_ _ | with_reducible apply Ext.step | with_reducible assumption | with_reducible exact Nat.le_refl _ | (simp; done) | (simp; omega)))⟩
    have hd : decide (12 < (k : Int)) = false := by simp; omega
    go_enter Try.func6, Try.ntmps6
    go_wp2_with fail
    refine (HGR.out _ (by (repeat' (first | with_reducible exact Ext.refl _ | with_reducible apply Ext.alloc | with_reducible apply Ext.drew | with_reducible apply Ext.drewN | with_reducible refine Ext.setCell ?_ ?_ _ | with_reducible apply Ext.step | with_reducible assumption | with_reducible exact Nat.le_refl _ | (simp; done) | (simp; omega))))).mono ?_
    rintro e _ ⟨rfl, hx⟩
    obtain ⟨δ, rfl⟩ : Ext (w.alloc (.cells #[.int .i64 W, .int .i64 H, .int .i64 P, .slice A L c] 37)) _ := Ext.trans (by (repeat' (first | with_reducible exact Ext.refl _ | with_reducible apply Ext.alloc | with_reducible apply Ext.drew | with_reducible apply Ext.drewN | with_reducible refine Ext.setCell ?_ ?_ _ | with_reducible apply Ext.step | with_reducible assumption | with_reducible exact Nat.le_refl _ | (simp; done) | (simp; omega)))) hx
    clear hx
    try (have hs0 := δ.lt (w.heap.size) (by first | (simp; done) | (simp; omega)))
    go_wp2_with fail
    refine lay_calls (fun W0 => Ext w W0 ∧ W0.cell? ⟨w.heap.size, 0, none⟩ = some (.int .i64 W) ∧ W0.cell? ⟨w.heap.size, 1, none⟩ = some (.int .i64 H) ∧ W0.cell? ⟨w.heap.size, 2, none⟩ = some (.int .i64 P) ∧ W0.cell? ⟨w.heap.size, 3, none⟩ = some (.slice A L c)) ⟨by (repeat' (first | with_reducible exact Ext.refl _ | with_reducible apply Ext.alloc | with_reducible apply Ext.drew | with_reducible apply Ext.drewN | with_reducible refine Ext.setCell ?_ ?_ _ | with_reducible apply Ext.step | with_reducible assumption | with_reducible exact Nat.le_refl _ | (simp; done) | (simp; omega))), by go_cell, by go_cell, by go_cell, by go_cell⟩ ?_
    rintro W0 ⟨X0, c0, c1, c2, c3⟩
    have HX0 := Lib.hid X0
    have l0 := cell_lt c0
    clear X0
    refine (Flash_any W H P _ hs _ ls W0 (HI.out _ HX0.out) (HLI.out _ HX0.out)).mono ?_
    rintro e W1 ⟨va, rfl, oa, x⟩
    obtain ⟨Aa, ka, ca, rfl⟩ := oa.shape
    have HOa := Lib.hid oa.is
    have HX1 := Lib.hid (HX0.out.trans x)
    replace c0 := x.cell_some c0
    replace c1 := x.cell_some c1
    replace c2 := x.cell_some c2
    replace c3 := x.cell_some c3
    replace l0 := cell_lt c0
    clear x oa
    go_wp2_with fail
    refine (refFlash_any W H P _ hs _ ls W1 (HI.out _ HX1.out) (HLI.out _ HX1.out)).mono ?_
    rintro e W2 ⟨vb, rfl, ob, x⟩
    obtain ⟨Ab, kb, cb, rfl⟩ := ob.shape
    have HOb := Lib.hid ob.is
    replace HOa := Lib.hid (HOa.out.ext x)
    have HX2 := Lib.hid (HX1.out.trans x)
    clear x ob c0 c1 c2 c3 l0
    go_wp2_with fail
    have HS3 := Lib.hid fun (Wd : World) (x : Ext W2 Wd) => (show Calls Try.prog 43 #[.slice Aa ka ca, .slice Ab kb cb] Wd fun e w' => e = .returned (.bool true) ∧ Ext Wd w' by
      have := sameInts_any _ _ _ _ Wd (HOa.out.ext x) (HOb.out.ext x)
      rwa [decide_eq_true rfl] at this)
    refine (HS3.out W2 (Ext.refl _)).mono ?_
    rintro e W9 ⟨rfl, x9⟩
    have HX9 := Lib.hid (HX2.out.trans x9)
    clear x9
    go_wp2_with fail
    go_ret
    exact ⟨rfl, HX9.out⟩
end Go.Proofs.Ytlljhimaopnbfaa
