/- light.Picture and Levels. Condition: the slice reads as a list. -/
import Derived.Test.YtlljhimaopnbfaaLPct
namespace Go.Proofs.Ytlljhimaopnbfaa
open Go.RowKit Go.Shelf

def pictureL (W H P : Int) (hs : List Int) (lx ly lz : Int) : List (Int × Int) := if surfB W H P hs && lightB lx ly lz then seenL (nOf W) (nOf H) P hs lx ly lz else []

set_option maxRecDepth 100000 in
set_option maxHeartbeats 4000000 in
theorem Picture_any (W H P : Int) (hv : Value) (hs : List Int) (lx ly lz : Int) (w : World) (hI : intK.Is w hv hs) :
    Calls Try.prog 37 #[surfV W H P hv, lightV lx ly lz] w (RetEE shadeK w (pictureL W H P hs lx ly lz) (shadE W H P hs lx ly lz)) := by
  have HI := Lib.hid fun (W0 : World) (x : Ext w W0) => hI.ext x
  have hI' := hI
  obtain ⟨A, L, c, rfl, _⟩ := hI'.open_
  clear hI' hI
  cases hb : surfB W H P hs
  · have HE := Lib.hid (show shadE W H P hs lx ly lz = 60 by simp [shadE, hb])
    have HR := Lib.hid (show pictureL W H P hs lx ly lz = [] by simp [pictureL, hb])
    have HB := Lib.hid hb
    clear hb
    go_enter Try.func37, Try.ntmps37
    go_wp2_with fail
    refine (lit_bad W H P _ hs _ _ (HI.out _ (by (repeat' (first | with_reducible exact Ext.refl _ | with_reducible apply Ext.alloc | with_reducible apply Ext.drew | with_reducible apply Ext.drewN | with_reducible refine Ext.setCell ?_ ?_ _ | with_reducible apply Ext.step | with_reducible assumption | with_reducible exact Nat.le_refl _ | (simp; done) | (simp; omega))))) HB.out).mono ?_
    rintro e W1 ⟨rfl, x1⟩
    have HX1 := Lib.hid (show Ext w W1 from Ext.trans (by (repeat' (first | with_reducible exact Ext.refl _ | with_reducible apply Ext.alloc | with_reducible apply Ext.drew | with_reducible apply Ext.drewN | with_reducible refine Ext.setCell ?_ ?_ _ | with_reducible apply Ext.step | with_reducible assumption | with_reducible exact Nat.le_refl _ | (simp; done) | (simp; omega)))) x1)
    clear x1
    go_wp2_with fail
    go_ret2
    exact ⟨_, by rw [HE.out]; rfl, by rw [HR.out]; exact EK.Own.nil _ _, HX1.out⟩
  obtain ⟨n, m, rfl, rfl, hn1, hn2, hm1, hm2⟩ := surf_nm hb
  cases hl : lightB lx ly lz
  · have HE := Lib.hid (show shadE ((n : Int) + 1) ((m : Int) + 1) P hs lx ly lz = 61 by simp [shadE, hb, hl])
    have HR := Lib.hid (show pictureL ((n : Int) + 1) ((m : Int) + 1) P hs lx ly lz = [] by simp [pictureL, hl])
    have HB := Lib.hid hb
    have HL := Lib.hid (show [(lx, ly, lz)].all lightB' = false by simp [lightB', hl])
    clear hb hl
    go_enter Try.func37, Try.ntmps37
    go_wp2_with fail
    refine (lit_dark n m P _ hs _ [(lx, ly, lz)] _ (HI.out _ (by (repeat' (first | with_reducible exact Ext.refl _ | with_reducible apply Ext.alloc | with_reducible apply Ext.drew | with_reducible apply Ext.drewN | with_reducible refine Ext.setCell ?_ ?_ _ | with_reducible apply Ext.step | with_reducible assumption | with_reducible exact Nat.le_refl _ | (simp; done) | (simp; omega))))) (by have := light_one (w := (w.alloc (.cells #[.int .i64 ((n : Int) + 1), .int .i64 ((m : Int) + 1), .int .i64 P, .slice A L c] 37)).alloc (.cells #[.int .i64 lx, .int .i64 ly, .int .i64 lz] 25)) lx ly lz; simpa using this) HB.out HL.out).mono ?_
    rintro e W1 ⟨rfl, x1⟩
    have HX1 := Lib.hid (show Ext w W1 from Ext.trans (by (repeat' (first | with_reducible exact Ext.refl _ | with_reducible apply Ext.alloc | with_reducible apply Ext.drew | with_reducible apply Ext.drewN | with_reducible refine Ext.setCell ?_ ?_ _ | with_reducible apply Ext.step | with_reducible assumption | with_reducible exact Nat.le_refl _ | (simp; done) | (simp; omega)))) x1)
    clear x1
    go_wp2_with fail
    go_ret2
    exact ⟨_, by rw [HE.out]; rfl, by rw [HR.out]; exact EK.Own.nil _ _, HX1.out⟩
  have HE := Lib.hid (show shadE ((n : Int) + 1) ((m : Int) + 1) P hs lx ly lz = 0 by simp [shadE, hb, hl])
  have HR := Lib.hid (show pictureL ((n : Int) + 1) ((m : Int) + 1) P hs lx ly lz = seenL n m P hs lx ly lz by simp [pictureL, hb, hl, nOf_add])
  have HB := Lib.hid hb
  have HL := Lib.hid (show [(lx, ly, lz)].all lightB' = true by simp [lightB', hl])
  obtain ⟨⟨hl1, hl2⟩, ⟨hl3, hl4⟩, hl5, hl6⟩ := lightB_iff.1 hl
  clear hb hl
  go_enter Try.func37, Try.ntmps37
  go_wp2_with fail
  refine (lit_good n m P _ hs _ [(lx, ly, lz)] _ (HI.out _ (by (repeat' (first | with_reducible exact Ext.refl _ | with_reducible apply Ext.alloc | with_reducible apply Ext.drew | with_reducible apply Ext.drewN | with_reducible refine Ext.setCell ?_ ?_ _ | with_reducible apply Ext.step | with_reducible assumption | with_reducible exact Nat.le_refl _ | (simp; done) | (simp; omega))))) (by have := light_one (w := (w.alloc (.cells #[.int .i64 ((n : Int) + 1), .int .i64 ((m : Int) + 1), .int .i64 P, .slice A L c] 37)).alloc (.cells #[.int .i64 lx, .int .i64 ly, .int .i64 lz] 25)) lx ly lz; simpa using this) HB.out HL.out).mono ?_
  rintro e W1 ⟨B, rfl, hF, hB, x1⟩
  have z0 : W1.cell? ⟨w.heap.size + 1, 0, none⟩ = some (.int .i64 lx) := x1.cell_some (by go_cell)
  have z1 : W1.cell? ⟨w.heap.size + 1, 1, none⟩ = some (.int .i64 ly) := x1.cell_some (by go_cell)
  have z2 : W1.cell? ⟨w.heap.size + 1, 2, none⟩ = some (.int .i64 lz) := x1.cell_some (by go_cell)
  have HX1 := Lib.hid (show Ext w W1 from Ext.trans (by (repeat' (first | with_reducible exact Ext.refl _ | with_reducible apply Ext.alloc | with_reducible apply Ext.drew | with_reducible apply Ext.drewN | with_reducible refine Ext.setCell ?_ ?_ _ | with_reducible apply Ext.step | with_reducible assumption | with_reducible exact Nat.le_refl _ | (simp; done) | (simp; omega)))) x1)
  have HF := Lib.hid hF
  have hz := cell_lt z0
  clear x1 hF hB
  go_wp2_with fail
  refine (picture_any B n m P hs lx ly lz W1 HF.out hl1 hl2 hl3 hl4 hl5 hl6).mono ?_
  rintro e W2 ⟨v, rfl, ov, x2⟩
  have HX2 := Lib.hid (HX1.out.trans x2)
  have HO := Lib.hid ov
  clear x2 ov
  go_wp2_with fail
  go_ret2
  exact ⟨_, by rw [HE.out]; rfl, by rw [HR.out]; exact HO.out.mono HX1.out.bel.size, HX2.out⟩
end Go.Proofs.Ytlljhimaopnbfaa
