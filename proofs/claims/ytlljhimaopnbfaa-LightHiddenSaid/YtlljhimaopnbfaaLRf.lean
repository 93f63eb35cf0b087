/- The reference's tilts and facets. Condition: the slice reads as a list. -/
import Derived.Test.YtlljhimaopnbfaaLRs
namespace Go.Proofs.Ytlljhimaopnbfaa
open Go.RowKit

theorem SurfOk.ext {w w' : World} {hv : Value} {n m : Nat} {P : Int} {hs : List Int} (h : SurfOk w hv n m P hs) (x : Ext w w') : SurfOk w' hv n m P hs := ⟨h.is.ext x, h.ok⟩
theorem SurfOk.bd {w : World} {hv : Value} {n m : Nat} {P : Int} {hs : List Int} (h : SurfOk w hv n m P hs) (i : Nat) : -100 ≤ hA hs i ∧ hA hs i ≤ 100 := hA_bd (surfB_iff.1 h.ok).2.2.2.2 i
theorem SurfOk.nm {w : World} {hv : Value} {n m : Nat} {P : Int} {hs : List Int} (h : SurfOk w hv n m P hs) : (1 ≤ n ∧ n ≤ 23) ∧ (1 ≤ m ∧ m ≤ 23) ∧ 1 ≤ P ∧ P ≤ 100 := by
  obtain ⟨⟨a1, a2⟩, ⟨b1, b2⟩, ⟨p1, p2⟩, _⟩ := surfB_iff.1 h.ok
  omega

/-- The four heights of a cell. -/
theorem heights_at {w : World} {hv : Value} {n m : Nat} {P : Int} {hs : List Int} (hS : SurfOk w hv n m P hs) {x y : Nat} (hx : x < n) (hy : y < m) (W : World) (X : Ext w W) :
    (Calls Try.prog 100 #[surfV ((n : Int) + 1) ((m : Int) + 1) P hv, .int .i64 x, .int .i64 y] W fun e w' => e = .returned (.int .i64 (cor0 n hs x y)) ∧ Ext W w') ∧
    (Calls Try.prog 100 #[surfV ((n : Int) + 1) ((m : Int) + 1) P hv, .int .i64 ((x : Int) + 1), .int .i64 y] W fun e w' => e = .returned (.int .i64 (cor1 n hs x y)) ∧ Ext W w') ∧
    (Calls Try.prog 100 #[surfV ((n : Int) + 1) ((m : Int) + 1) P hv, .int .i64 x, .int .i64 ((y : Int) + 1)] W fun e w' => e = .returned (.int .i64 (cor2 n hs x y)) ∧ Ext W w') ∧
    (Calls Try.prog 100 #[surfV ((n : Int) + 1) ((m : Int) + 1) P hv, .int .i64 ((x : Int) + 1), .int .i64 ((y : Int) + 1)] W fun e w' => e = .returned (.int .i64 (cor3 n hs x y)) ∧ Ext W w') := by
  have hW := hS.ext X
  have e2 : (y + 1) * (n + 1) + x = y * (n + 1) + x + (n + 1) := by rw [Nat.succ_mul]; omega
  have e3 : (y + 1) * (n + 1) + (x + 1) = y * (n + 1) + x + (n + 1) + 1 := by rw [Nat.succ_mul]; omega
  refine ⟨height_any n m P hv hs x y _ _ W hW rfl rfl (by omega) (by omega), height_any n m P hv hs (x + 1) y _ _ W hW (by omega) rfl (by omega) (by omega), ?_, ?_⟩
  · have := height_any n m P hv hs x (y + 1) (x : Int) ((y : Int) + 1) W hW rfl (by omega) (by omega) (by omega)
    rwa [e2] at this
  · have := height_any n m P hv hs (x + 1) (y + 1) ((x : Int) + 1) ((y : Int) + 1) W hW (by omega) (by omega) (by omega) (by omega)
    rwa [e3] at this

set_option maxRecDepth 100000 in
set_option maxHeartbeats 4000000 in
theorem refTiltAt_any (n m : Nat) (P : Int) (hv : Value) (hs : List Int) (x y : Nat) (w : World) (hS : SurfOk w hv n m P hs) (hx : x < n) (hy : y < m) :
    Calls Try.prog 75 #[surfV ((n : Int) + 1) ((m : Int) + 1) P hv, .int .i64 x, .int .i64 y] w fun e w' => e = .returned (tiltV (tiltX n hs x y) (tiltY n hs x y)) ∧ Ext w w' := by
  have HH := Lib.hid fun (W : World) (X : Ext w W) => heights_at hS hx hy W X
  obtain ⟨hn, hm, hp⟩ := hS.nm
  obtain ⟨A, L, c, rfl, _⟩ := hS.is.open_
  have b0 : -100 ≤ cor0 n hs x y ∧ cor0 n hs x y ≤ 100 := hS.bd _
  have b1 : -100 ≤ cor1 n hs x y ∧ cor1 n hs x y ≤ 100 := hS.bd _
  have b2 : -100 ≤ cor2 n hs x y ∧ cor2 n hs x y ≤ 100 := hS.bd _
  have b3 : -100 ≤ cor3 n hs x y ∧ cor3 n hs x y ≤ 100 := hS.bd _
  have HTX := Lib.hid (show tiltX n hs x y = cor1 n hs x y + cor3 n hs x y - cor0 n hs x y - cor2 n hs x y from rfl)
  have HTY := Lib.hid (show tiltY n hs x y = cor2 n hs x y + cor3 n hs x y - cor0 n hs x y - cor1 n hs x y from rfl)
  generalize cor0 n hs x y = r0 at *
  generalize cor1 n hs x y = r1 at *
  generalize cor2 n hs x y = r2 at *
  generalize cor3 n hs x y = r3 at *
  have i1 : IntKind.i64.wrap ((x : Int) + 1) = (x : Int) + 1 := IntWalk.i64_in _ (by omega)
  have i2 : IntKind.i64.wrap ((y : Int) + 1) = (y : Int) + 1 := IntWalk.i64_in _ (by omega)
  clear hS
  go_enter Try.func75, Try.ntmps75
  go_wp2_with fail
  try (have hs0 := δ.lt (w.heap.size) (by first | (simp; done) | (simp; omega)))
  try (have hs1 := δ.lt (w.heap.size + 1) (by first | (simp; done) | (simp; omega)))
  refine wp_region_bext (by kernel_rfl) (by kernel_rfl) ?_
  repeat (any_goals (go_big_quiet_step ((first | (go_at_call 100; (with_reducible exact bext_call (HH.out _ (by (repeat' (first | with_reducible exact Ext.refl _ | with_reducible apply Ext.alloc | with_reducible apply Ext.drew | with_reducible apply Ext.drewN | with_reducible refine Ext.setCell ?_ ?_ _ | with_reducible apply Ext.step | with_reducible assumption | with_reducible exact Nat.le_refl _ | (simp; done) | (simp; omega))))).1)) | (go_at_call 100; (with_reducible exact bext_call (HH.out _ (by (repeat' (first | with_reducible exact Ext.refl _ | with_reducible apply Ext.alloc | with_reducible apply Ext.drew | with_reducible apply Ext.drewN | with_reducible refine Ext.setCell ?_ ?_ _ | with_reducible apply Ext.step | with_reducible assumption | with_reducible exact Nat.le_refl _ | (simp; done) | (simp; omega))))).2.1)) | (go_at_call 100; (with_reducible exact bext_call (HH.out _ (by (repeat' (first | with_reducible exact Ext.refl _ | with_reducible apply Ext.alloc | with_reducible apply Ext.drew | with_reducible apply Ext.drewN | with_reducible refine Ext.setCell ?_ ?_ _ | with_reducible apply Ext.step | with_reducible assumption | with_reducible exact Nat.le_refl _ | (simp; done) | (simp; omega))))).2.2.1)) | (go_at_call 100; (with_reducible exact bext_call (HH.out _ (by (repeat' (first | with_reducible exact Ext.refl _ | with_reducible apply Ext.alloc | with_reducible apply Ext.drew | with_reducible apply Ext.drewN | with_reducible refine Ext.setCell ?_ ?_ _ | with_reducible apply Ext.step | with_reducible assumption | with_reducible exact Nat.le_refl _ | (simp; done) | (simp; omega))))).2.2.2))))))
  all_goals refine wpQuiet_nil ?_
  all_goals rintro w' hw'
  all_goals obtain ⟨δ, rfl⟩ : Ext ((w.alloc (.cells #[.int .i64 ((n : Int) + 1), .int .i64 ((m : Int) + 1), .int .i64 P, .slice A L c] 37)).alloc (.cells #[.int .i64 0, .int .i64 0] 23)) w' := Ext.trans (by (repeat' (first | with_reducible exact Ext.refl _ | with_reducible apply Ext.alloc | with_reducible apply Ext.drew | with_reducible apply Ext.drewN | with_reducible refine Ext.setCell ?_ ?_ _ | with_reducible apply Ext.step | with_reducible assumption | with_reducible exact Nat.le_refl _ | (simp; done) | (simp; omega)))) hw'
  all_goals clear hw'
  clear i1 i2
  go_wp2_with fail
  go_returns
  exact ⟨by rw [HTX.out, HTY.out], by (repeat' (first | with_reducible exact Ext.refl _ | with_reducible apply Ext.alloc | with_reducible apply Ext.drew | with_reducible apply Ext.drewN | with_reducible refine Ext.setCell ?_ ?_ _ | with_reducible apply Ext.step | with_reducible assumption | with_reducible exact Nat.le_refl _ | (simp; done) | (simp; omega)))⟩

set_option maxRecDepth 100000 in
set_option maxHeartbeats 4000000 in
theorem refFacets_any (W H P : Int) (hv : Value) (hs : List Int) (w : World) (hI : intK.Is w hv hs) :
    Calls Try.prog 28 #[surfV W H P hv] w (RetEE tiltK w (facetsL W H P hs) (surfE W H P hs)) := by
  have HSB := Lib.hid fun (W0 : World) (x : Ext w W0) => refSurface_any W H P hv hs W0 (hI.ext x)
  cases hb : surfB W H P hs
  · have HE := Lib.hid (show surfE W H P hs = 60 by simp [surfE, hb])
    have HR := Lib.hid (show facetsL W H P hs = [] by simp [facetsL, hb])
    rw [hb] at HSB
    obtain ⟨A, L, c, rfl, _⟩ := hI.open_
    clear hI hb
    go_enter Try.func28, Try.ntmps28
    go_wp2_with fail
    refine (HSB.out _ (by (repeat' (first | with_reducible exact Ext.refl _ | with_reducible apply Ext.alloc | with_reducible apply Ext.drew | with_reducible apply Ext.drewN | with_reducible refine Ext.setCell ?_ ?_ _ | with_reducible apply Ext.step | with_reducible assumption | with_reducible exact Nat.le_refl _ | (simp; done) | (simp; omega))))).mono ?_
    rintro e _ ⟨rfl, hx⟩
    obtain ⟨δ, rfl⟩ : Ext (w.alloc (.cells #[.int .i64 W, .int .i64 H, .int .i64 P, .slice A L c] 37)) _ := Ext.trans (by (repeat' (first | with_reducible exact Ext.refl _ | with_reducible apply Ext.alloc | with_reducible apply Ext.drew | with_reducible apply Ext.drewN | with_reducible refine Ext.setCell ?_ ?_ _ | with_reducible apply Ext.step | with_reducible assumption | with_reducible exact Nat.le_refl _ | (simp; done) | (simp; omega)))) hx
    clear hx
    try (have hs0 := δ.lt (w.heap.size) (by first | (simp; done) | (simp; omega)))
    go_wp2_with fail
    go_ret2
    exact ⟨_, by rw [HE.out]; rfl, by rw [HR.out]; exact EK.Own.nil _ _, by (repeat' (first | with_reducible exact Ext.refl _ | with_reducible apply Ext.alloc | with_reducible apply Ext.drew | with_reducible apply Ext.drewN | with_reducible refine Ext.setCell ?_ ?_ _ | with_reducible apply Ext.step | with_reducible assumption | with_reducible exact Nat.le_refl _ | (simp; done) | (simp; omega)))⟩
  · have HE := Lib.hid (show surfE W H P hs = 0 by simp [surfE, hb])
    obtain ⟨n, m, rfl, rfl, hn1, hn2, hm1, hm2⟩ := surf_nm hb
    have HR := Lib.hid (show facetsL ((n : Int) + 1) ((m : Int) + 1) P hs = (List.range (m * n)).map fun j => (tiltX n hs (cx n j) (cy n j), tiltY n hs (cx n j) (cy n j)) by simp [facetsL, hb, nOf_add, tiltsL])
    have HS := Lib.hid (show SurfOk w hv n m P hs from ⟨hI, hb⟩)
    rw [hb] at HSB
    obtain ⟨A, L, c, rfl, _⟩ := hI.open_
    have hmn := Nat.mul_le_mul hm2 hn2
    clear hI hb
    go_enter Try.func28, Try.ntmps28
    go_wp2_with fail
    refine (HSB.out _ (by (repeat' (first | with_reducible exact Ext.refl _ | with_reducible apply Ext.alloc | with_reducible apply Ext.drew | with_reducible apply Ext.drewN | with_reducible refine Ext.setCell ?_ ?_ _ | with_reducible apply Ext.step | with_reducible assumption | with_reducible exact Nat.le_refl _ | (simp; done) | (simp; omega))))).mono ?_
    rintro e _ ⟨rfl, hx⟩
    obtain ⟨δ, rfl⟩ : Ext (w.alloc (.cells #[.int .i64 ((n : Int) + 1), .int .i64 ((m : Int) + 1), .int .i64 P, .slice A L c] 37)) _ := Ext.trans (by (repeat' (first | with_reducible exact Ext.refl _ | with_reducible apply Ext.alloc | with_reducible apply Ext.drew | with_reducible apply Ext.drewN | with_reducible refine Ext.setCell ?_ ?_ _ | with_reducible apply Ext.step | with_reducible assumption | with_reducible exact Nat.le_refl _ | (simp; done) | (simp; omega)))) hx
    clear hx
    try (have hs0 := δ.lt (w.heap.size) (by first | (simp; done) | (simp; omega)))
    go_wp2_with fail
    refine lay_wp (fun W0 => Ext w W0 ∧ W0.cell? ⟨w.heap.size, 0, none⟩ = some (.int .i64 ((n : Int) + 1)) ∧ W0.cell? ⟨w.heap.size, 1, none⟩ = some (.int .i64 ((m : Int) + 1)) ∧ W0.cell? ⟨w.heap.size, 2, none⟩ = some (.int .i64 P) ∧ W0.cell? ⟨w.heap.size, 3, none⟩ = some (.slice A L c)) ⟨by (repeat' (first | with_reducible exact Ext.refl _ | with_reducible apply Ext.alloc | with_reducible apply Ext.drew | with_reducible apply Ext.drewN | with_reducible refine Ext.setCell ?_ ?_ _ | with_reducible apply Ext.step | with_reducible assumption | with_reducible exact Nat.le_refl _ | (simp; done) | (simp; omega))), by go_cell, by go_cell, by go_cell, by go_cell⟩ ?_
    rintro W0 ⟨X0, c0, c1, c2, c3⟩
    have HX0 := Lib.hid X0
    clear X0
    go_loopw [5, 4, 6] (fun yv ov _ wr => ∃ k : Nat, k ≤ m ∧ yv = .int .i64 k ∧ tiltK.Own W0.heap.size wr ov ((List.range (k * n)).map fun j => (tiltX n hs (cx n j) (cy n j), tiltY n hs (cx n j) (cy n j))) ∧ Ext W0 wr) (fun yv _ _ _ => m - (intOf yv).toNat)
    case atStart => exact ⟨0, by omega, rfl, by simpa using EK.Own.nil (K := tiltK) W0.heap.size W0, Ext.refl _⟩
    case round =>
      obtain ⟨k, hk, rfl, ho, hx⟩ := hrel
      obtain ⟨Av, kv, cv, rfl⟩ := ho.shape
      by_cases hlt : k < m
      · have d1 := hx.cell_some c1
        have l1 := cell_lt d1
        have HO := Lib.hid ho
        have HX := Lib.hid hx
        clear ho hx
        go_wp2_with fail
        obtain ⟨wo, rfl⟩ : ∃ wo : World, wo = wr := ⟨_, rfl⟩
        go_loopw [6, 4] (fun xv ov wr => ∃ j : Nat, j ≤ n ∧ xv = .int .i64 j ∧ tiltK.Own W0.heap.size wr ov ((List.range (k * n + j)).map fun j => (tiltX n hs (cx n j) (cy n j), tiltY n hs (cx n j) (cy n j))) ∧ Ext W0 wr) (fun xv _ _ => n - (intOf xv).toNat)
        case atStart => exact ⟨0, by omega, rfl, HO.out, HX.out⟩
        case round =>
          obtain ⟨j, hj, rfl, ho, hx⟩ := hrel
          obtain ⟨Av2, kv2, cv2, rfl⟩ := ho.shape
          by_cases hjl : j < n
          · have e0 := hx.cell_some c0
            have e1 := hx.cell_some c1
            have e2 := hx.cell_some c2
            have e3 := hx.cell_some c3
            have le0 := cell_lt e0
            have HT := Lib.hid (refTiltAt_any n m P (.slice A L c) hs j k wr (HS.out.ext (HX0.out.trans hx)) hjl hlt)
            have HSN := Lib.hid (show (List.range (k * n + (j + 1))).map (fun j => (tiltX n hs (cx n j) (cy n j), tiltY n hs (cx n j) (cy n j))) = (List.range (k * n + j)).map (fun j => (tiltX n hs (cx n j) (cy n j), tiltY n hs (cx n j) (cy n j))) ++ [(tiltX n hs j k, tiltY n hs j k)] by
              rw [← Nat.add_assoc, List.range_succ, List.map_append, List.map_singleton, cx_at hjl, cy_at hjl])
            have HZ := Lib.hid (show ((List.range (k * n + j)).map fun j => (tiltX n hs (cx n j) (cy n j), tiltY n hs (cx n j) (cy n j))).length ≤ 1000000000 by
              rw [List.length_map, List.length_range]
              have := Nat.mul_le_mul (show k ≤ 23 by omega) hn2
              omega)
            have HO := Lib.hid ho
            have HX := Lib.hid hx
            have HBB := Lib.hid (show W0.heap.size ≤ wr.heap.size from hx.bel.size)
            generalize tiltX n hs j k = tx at *
            generalize tiltY n hs j k = ty at *
            clear ho hx
            go_wp2_with fail
            refine HT.out.mono ?_
            rintro e W2 ⟨rfl, x2⟩
            have HX2 := Lib.hid x2
            clear x2
            go_wp2_with (at_builtin; refine EK.app (K := tiltK) rfl (.tmp 24) (.tmp 29) rfl W2.heap.size 1 (tx, ty) rfl rfl (fun i u hu => cell_new hu) (HO.out.ext (HX2.out.alloc _)) (Nat.le_trans HBB.out (HX2.out.alloc _).bel.size) HZ.out ?_; intro v' w3 o3 b3 _; obtain ⟨Av3, kv3, cv3, rfl⟩ := o3.shape; have HO3 := Lib.hid o3; have HB3 := Lib.hid b3; clear o3 b3)
            go_roundw
            case rel => exact ⟨j + 1, by omega, by go_num, by rw [HSN.out]; exact HO3.out, ((HX.out.trans HX2.out).alloc _).below HB3.out (Nat.le_refl _)⟩
            case measure => simp [intOf]; omega
          · obtain rfl : j = n := by omega
            have e0 := hx.cell_some c0
            have le0 := cell_lt e0
            have HO := Lib.hid (show tiltK.Own W0.heap.size wr (.slice Av2 kv2 cv2) ((List.range ((k + 1) * j)).map fun i => (tiltX j hs (cx j i) (cy j i), tiltY j hs (cx j i) (cy j i))) by rw [Nat.succ_mul]; exact ho)
            have HX := Lib.hid hx
            clear ho hx
            go_wp2_with fail
            go_roundw
            case rel => exact ⟨k + 1, by omega, by go_num, HO.out, HX.out⟩
            case measure => simp [intOf]; omega
      · obtain rfl : k = m := by omega
        have d1 := hx.cell_some c1
        have l1 := cell_lt d1
        have HO := Lib.hid ho
        have HX := Lib.hid hx
        clear ho hx
        go_wp2_with fail
        go_ret2
        exact ⟨_, by rw [HE.out]; rfl, by rw [HR.out]; exact HO.out.mono HX0.out.bel.size, HX0.out.trans HX.out⟩
end Go.Proofs.Ytlljhimaopnbfaa
