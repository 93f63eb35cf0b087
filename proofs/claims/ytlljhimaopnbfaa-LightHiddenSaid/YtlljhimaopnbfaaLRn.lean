/- The reference's shadows and pictures. Condition: the slice reads as a list. -/
import Derived.Test.YtlljhimaopnbfaaLRd
import Derived.Test.YtlljhimaopnbfaaLLev
import Derived.Test.YtlljhimaopnbfaaLLawF
namespace Go.Proofs.Ytlljhimaopnbfaa
open Go.RowKit Go.Shelf

attribute [local go_sem] Oper.semAt_some

theorem asked_any (W H P : Int) (hv : Value) (hs : List Int) (lx ly lz : Int) (w : World) (hI : intK.Is w hv hs) :
    Calls Try.prog 79 #[surfV W H P hv, lightV lx ly lz] w fun e w' => e = .returned (.int .i64 (shadE W H P hs lx ly lz)) ∧ Ext w w' := by
  have HSB := Lib.hid fun (W0 : World) (x : Ext w W0) => refSurface_any W H P hv hs W0 (hI.ext x)
  obtain ⟨A, L, c, rfl, _⟩ := hI.open_
  clear hI
  cases hb : surfB W H P hs
  · have HE := Lib.hid (show shadE W H P hs lx ly lz = 60 by simp [shadE, hb])
    rw [hb] at HSB
    clear hb
    go_enter Try.func79, Try.ntmps79
    go_wp2_with fail
    refine (HSB.out _ (by (repeat' (first | with_reducible exact Ext.refl _ | with_reducible apply Ext.alloc | with_reducible apply Ext.drew | with_reducible apply Ext.drewN | with_reducible refine Ext.setCell ?_ ?_ _ | with_reducible apply Ext.step | with_reducible assumption | with_reducible exact Nat.le_refl _ | (simp; done) | (simp; omega))))).mono ?_
    rintro e _ ⟨rfl, hx⟩
    obtain ⟨δ, rfl⟩ : Ext ((w.alloc (.cells #[.int .i64 W, .int .i64 H, .int .i64 P, .slice A L c] 37)).alloc (.cells #[.int .i64 lx, .int .i64 ly, .int .i64 lz] 25)) _ := Ext.trans (by (repeat' (first | with_reducible exact Ext.refl _ | with_reducible apply Ext.alloc | with_reducible apply Ext.drew | with_reducible apply Ext.drewN | with_reducible refine Ext.setCell ?_ ?_ _ | with_reducible apply Ext.step | with_reducible assumption | with_reducible exact Nat.le_refl _ | (simp; done) | (simp; omega)))) hx
    clear hx
    try (have hs0 := δ.lt (w.heap.size) (by first | (simp; done) | (simp; omega)))
    try (have hs1 := δ.lt (w.heap.size + 1) (by first | (simp; done) | (simp; omega)))
    go_wp2_with fail
    go_ret
    exact ⟨by rw [HE.out]; rfl, by (repeat' (first | with_reducible exact Ext.refl _ | with_reducible apply Ext.alloc | with_reducible apply Ext.drew | with_reducible apply Ext.drewN | with_reducible refine Ext.setCell ?_ ?_ _ | with_reducible apply Ext.step | with_reducible assumption | with_reducible exact Nat.le_refl _ | (simp; done) | (simp; omega)))⟩
  · have HE := Lib.hid (show shadE W H P hs lx ly lz = lightE lx ly lz by simp [shadE, hb, lightE])
    rw [hb] at HSB
    clear hb
    go_enter Try.func79, Try.ntmps79
    go_wp2_with fail
    refine (HSB.out _ (by (repeat' (first | with_reducible exact Ext.refl _ | with_reducible apply Ext.alloc | with_reducible apply Ext.drew | with_reducible apply Ext.drewN | with_reducible refine Ext.setCell ?_ ?_ _ | with_reducible apply Ext.step | with_reducible assumption | with_reducible exact Nat.le_refl _ | (simp; done) | (simp; omega))))).mono ?_
    rintro e _ ⟨rfl, hx⟩
    obtain ⟨δ, rfl⟩ : Ext ((w.alloc (.cells #[.int .i64 W, .int .i64 H, .int .i64 P, .slice A L c] 37)).alloc (.cells #[.int .i64 lx, .int .i64 ly, .int .i64 lz] 25)) _ := Ext.trans (by (repeat' (first | with_reducible exact Ext.refl _ | with_reducible apply Ext.alloc | with_reducible apply Ext.drew | with_reducible apply Ext.drewN | with_reducible refine Ext.setCell ?_ ?_ _ | with_reducible apply Ext.step | with_reducible assumption | with_reducible exact Nat.le_refl _ | (simp; done) | (simp; omega)))) hx
    clear hx
    try (have hs0 := δ.lt (w.heap.size) (by first | (simp; done) | (simp; omega)))
    try (have hs1 := δ.lt (w.heap.size + 1) (by first | (simp; done) | (simp; omega)))
    go_wp2_with fail
    refine (refCheckLight_any _ _ _ _).mono ?_
    rintro e _ ⟨rfl, hx⟩
    obtain ⟨δ, rfl⟩ : Ext ((w.alloc (.cells #[.int .i64 W, .int .i64 H, .int .i64 P, .slice A L c] 37)).alloc (.cells #[.int .i64 lx, .int .i64 ly, .int .i64 lz] 25)) _ := Ext.trans (by (repeat' (first | with_reducible exact Ext.refl _ | with_reducible apply Ext.alloc | with_reducible apply Ext.drew | with_reducible apply Ext.drewN | with_reducible refine Ext.setCell ?_ ?_ _ | with_reducible apply Ext.step | with_reducible assumption | with_reducible exact Nat.le_refl _ | (simp; done) | (simp; omega)))) hx
    clear hx
    try (have hs0 := δ.lt (w.heap.size) (by first | (simp; done) | (simp; omega)))
    try (have hs1 := δ.lt (w.heap.size + 1) (by first | (simp; done) | (simp; omega)))
    go_wp2_with fail
    go_ret
    exact ⟨by rw [HE.out]; rfl, by (repeat' (first | with_reducible exact Ext.refl _ | with_reducible apply Ext.alloc | with_reducible apply Ext.drew | with_reducible apply Ext.drewN | with_reducible refine Ext.setCell ?_ ?_ _ | with_reducible apply Ext.step | with_reducible assumption | with_reducible exact Nat.le_refl _ | (simp; done) | (simp; omega)))⟩

set_option maxRecDepth 100000 in
set_option maxHeartbeats 4000000 in
theorem refShadows_any (W H P : Int) (hv : Value) (hs : List Int) (lx ly lz : Int) (w : World) (hI : intK.Is w hv hs) :
    Calls Try.prog 36 #[surfV W H P hv, lightV lx ly lz] w (RetEE boolK w (shadowsL W H P hs lx ly lz) (shadE W H P hs lx ly lz)) := by
  have HAS := Lib.hid fun (W0 : World) (x : Ext w W0) => asked_any W H P hv hs lx ly lz W0 (hI.ext x)
  cases hbl : surfB W H P hs && lightB lx ly lz
  · have HR := Lib.hid (show shadowsL W H P hs lx ly lz = [] by simp [shadowsL, hbl])
    have hne : shadE W H P hs lx ly lz = 60 ∨ shadE W H P hs lx ly lz = 61 := by
      rw [Bool.and_eq_false_iff] at hbl
      unfold shadE
      rcases hbl with h | h
      · rw [h]; exact .inl rfl
      · rw [h]
        cases surfB W H P hs
        · exact .inl rfl
        · exact .inr rfl
    obtain ⟨A, L, c, rfl, _⟩ := hI.open_
    generalize shadE W H P hs lx ly lz = E at *
    clear hI hbl
    rcases hne with rfl | rfl
    all_goals
      go_enter Try.func36, Try.ntmps36
      go_wp2_with fail
      refine (HAS.out _ (by (repeat' (first | with_reducible exact Ext.refl _ | with_reducible apply Ext.alloc | with_reducible apply Ext.drew | with_reducible apply Ext.drewN | with_reducible refine Ext.setCell ?_ ?_ _ | with_reducible apply Ext.step | with_reducible assumption | with_reducible exact Nat.le_refl _ | (simp; done) | (simp; omega))))).mono ?_
      rintro e _ ⟨rfl, hx⟩
      obtain ⟨δ, rfl⟩ : Ext ((w.alloc (.cells #[.int .i64 W, .int .i64 H, .int .i64 P, .slice A L c] 37)).alloc (.cells #[.int .i64 lx, .int .i64 ly, .int .i64 lz] 25)) _ := Ext.trans (by (repeat' (first | with_reducible exact Ext.refl _ | with_reducible apply Ext.alloc | with_reducible apply Ext.drew | with_reducible apply Ext.drewN | with_reducible refine Ext.setCell ?_ ?_ _ | with_reducible apply Ext.step | with_reducible assumption | with_reducible exact Nat.le_refl _ | (simp; done) | (simp; omega)))) hx
      clear hx
      try (have hs0 := δ.lt (w.heap.size) (by first | (simp; done) | (simp; omega)))
      try (have hs1 := δ.lt (w.heap.size + 1) (by first | (simp; done) | (simp; omega)))
      go_wp2_with fail
      go_ret2
      exact ⟨_, rfl, by rw [HR.out]; exact EK.Own.nil _ _, by (repeat' (first | with_reducible exact Ext.refl _ | with_reducible apply Ext.alloc | with_reducible apply Ext.drew | with_reducible apply Ext.drewN | with_reducible refine Ext.setCell ?_ ?_ _ | with_reducible apply Ext.step | with_reducible assumption | with_reducible exact Nat.le_refl _ | (simp; done) | (simp; omega)))⟩
  · rw [Bool.and_eq_true] at hbl
    obtain ⟨hb, hl⟩ := hbl
    obtain ⟨n, m, rfl, rfl, hn1, hn2, hm1, hm2⟩ := surf_nm hb
    have HE := Lib.hid (show shadE ((n : Int) + 1) ((m : Int) + 1) P hs lx ly lz = 0 by simp [shadE, hb, hl])
    have HR := Lib.hid (show shadowsL ((n : Int) + 1) ((m : Int) + 1) P hs lx ly lz = (List.range (m * n)).map fun j => darkB n m P hs lx ly lz (cx n j) (cy n j) by simp [shadowsL, hb, hl, nOf_add, darksL])
    have HS := Lib.hid (show SurfOk w hv n m P hs from ⟨hI, hb⟩)
    rw [HE.out] at HAS
    obtain ⟨⟨hl1, hl2⟩, ⟨hl3, hl4⟩, hl5, hl6⟩ := lightB_iff.1 hl
    obtain ⟨A, L, c, rfl, _⟩ := hI.open_
    clear hI hb hl
    go_enter Try.func36, Try.ntmps36
    go_wp2_with fail
    refine (HAS.out _ (by (repeat' (first | with_reducible exact Ext.refl _ | with_reducible apply Ext.alloc | with_reducible apply Ext.drew | with_reducible apply Ext.drewN | with_reducible refine Ext.setCell ?_ ?_ _ | with_reducible apply Ext.step | with_reducible assumption | with_reducible exact Nat.le_refl _ | (simp; done) | (simp; omega))))).mono ?_
    rintro e _ ⟨rfl, hx⟩
    obtain ⟨δ, rfl⟩ : Ext ((w.alloc (.cells #[.int .i64 ((n : Int) + 1), .int .i64 ((m : Int) + 1), .int .i64 P, .slice A L c] 37)).alloc (.cells #[.int .i64 lx, .int .i64 ly, .int .i64 lz] 25)) _ := Ext.trans (by (repeat' (first | with_reducible exact Ext.refl _ | with_reducible apply Ext.alloc | with_reducible apply Ext.drew | with_reducible apply Ext.drewN | with_reducible refine Ext.setCell ?_ ?_ _ | with_reducible apply Ext.step | with_reducible assumption | with_reducible exact Nat.le_refl _ | (simp; done) | (simp; omega)))) hx
    clear hx
    try (have hs0 := δ.lt (w.heap.size) (by first | (simp; done) | (simp; omega)))
    try (have hs1 := δ.lt (w.heap.size + 1) (by first | (simp; done) | (simp; omega)))
    go_wp2_with fail
    refine lay_wp (fun W0 => Ext w W0 ∧ W0.cell? ⟨w.heap.size, 0, none⟩ = some (.int .i64 ((n : Int) + 1)) ∧ W0.cell? ⟨w.heap.size, 1, none⟩ = some (.int .i64 ((m : Int) + 1)) ∧ W0.cell? ⟨w.heap.size, 2, none⟩ = some (.int .i64 P) ∧ W0.cell? ⟨w.heap.size, 3, none⟩ = some (.slice A L c) ∧
      W0.cell? ⟨w.heap.size + 1, 0, none⟩ = some (.int .i64 lx) ∧ W0.cell? ⟨w.heap.size + 1, 1, none⟩ = some (.int .i64 ly) ∧ W0.cell? ⟨w.heap.size + 1, 2, none⟩ = some (.int .i64 lz)) ⟨by (repeat' (first | with_reducible exact Ext.refl _ | with_reducible apply Ext.alloc | with_reducible apply Ext.drew | with_reducible apply Ext.drewN | with_reducible refine Ext.setCell ?_ ?_ _ | with_reducible apply Ext.step | with_reducible assumption | with_reducible exact Nat.le_refl _ | (simp; done) | (simp; omega))), by go_cell, by go_cell, by go_cell, by go_cell, by go_cell, by go_cell, by go_cell⟩ ?_
    rintro W0 ⟨X0, c0, c1, c2, c3, b0, b1, b2⟩
    have HX0 := Lib.hid X0
    clear X0
    go_loopw [8, 7, 9] (fun yv ov _ wr => ∃ k : Nat, k ≤ m ∧ yv = .int .i64 k ∧ boolK.Own W0.heap.size wr ov ((List.range (k * n)).map fun j => darkB n m P hs lx ly lz (cx n j) (cy n j)) ∧ Ext W0 wr) (fun yv _ _ _ => m - (intOf yv).toNat)
    case atStart => exact ⟨0, by omega, rfl, by simpa using EK.Own.nil (K := boolK) W0.heap.size W0, Ext.refl _⟩
    case round =>
      obtain ⟨k, hk, rfl, ho, hx⟩ := hrel
      obtain ⟨Av, kv, cv, rfl⟩ := ho.shape
      by_cases hlt : k < m
      · have d1 := hx.cell_some c1
        have l1 := cell_lt d1
        have HO := Lib.hid ho
        have HX := Lib.hid hx
        clear ho hx
        go_wp2_with fail
        obtain ⟨wo, rfl⟩ : ∃ wo : World, wo = wr := ⟨_, rfl⟩
        go_loopw [9, 7] (fun xv ov wr => ∃ j : Nat, j ≤ n ∧ xv = .int .i64 j ∧ boolK.Own W0.heap.size wr ov ((List.range (k * n + j)).map fun j => darkB n m P hs lx ly lz (cx n j) (cy n j)) ∧ Ext W0 wr) (fun xv _ _ => n - (intOf xv).toNat)
        case atStart => exact ⟨0, by omega, rfl, HO.out, HX.out⟩
        case round =>
          obtain ⟨j, hj, rfl, ho, hx⟩ := hrel
          obtain ⟨Av2, kv2, cv2, rfl⟩ := ho.shape
          by_cases hjl : j < n
          · have e0 := hx.cell_some c0
            have e1 := hx.cell_some c1
            have e2 := hx.cell_some c2
            have e3 := hx.cell_some c3
            have e4 := hx.cell_some b0
            have e5 := hx.cell_some b1
            have e6 := hx.cell_some b2
            have le0 := cell_lt e0
            have le4 := cell_lt e4
            have HT := Lib.hid (refDark_any n m P (.slice A L c) hs lx ly lz j k wr (HS.out.ext (HX0.out.trans hx)) hjl hlt hl1 hl2 hl3 hl4 hl5 hl6)
            have HSN := Lib.hid (show (List.range (k * n + (j + 1))).map (fun j => darkB n m P hs lx ly lz (cx n j) (cy n j)) = (List.range (k * n + j)).map (fun j => darkB n m P hs lx ly lz (cx n j) (cy n j)) ++ [darkB n m P hs lx ly lz j k] by
              rw [← Nat.add_assoc, List.range_succ, List.map_append, List.map_singleton, cx_at hjl, cy_at hjl])
            have HZ := Lib.hid (show ((List.range (k * n + j)).map fun j => darkB n m P hs lx ly lz (cx n j) (cy n j)).length ≤ 1000000000 by
              rw [List.length_map, List.length_range]
              have := Nat.mul_le_mul (show k ≤ 23 by omega) hn2
              omega)
            have HO := Lib.hid ho
            have HX := Lib.hid hx
            have HBB := Lib.hid (show W0.heap.size ≤ wr.heap.size from hx.bel.size)
            generalize darkB n m P hs lx ly lz j k = dk at *
            clear ho hx
            go_wp2_with fail
            refine HT.out.mono ?_
            rintro e W2 ⟨rfl, x2⟩
            have HX2 := Lib.hid x2
            clear x2
            go_wp2_with (at_builtin; refine EK.app (K := boolK) rfl (.tmp 30) (.tmp 36) rfl W2.heap.size 1 dk rfl rfl (fun i u hu => cell_new hu) (HO.out.ext (HX2.out.alloc _)) (Nat.le_trans HBB.out (HX2.out.alloc _).bel.size) HZ.out ?_; intro v' w3 o3 b3 _; obtain ⟨Av3, kv3, cv3, rfl⟩ := o3.shape; have HO3 := Lib.hid o3; have HB3 := Lib.hid b3; clear o3 b3)
            go_roundw
            case rel => exact ⟨j + 1, by omega, by go_num, by rw [HSN.out]; exact HO3.out, ((HX.out.trans HX2.out).alloc _).below HB3.out (Nat.le_refl _)⟩
            case measure => simp [intOf]; omega
          · obtain rfl : j = n := by omega
            have e0 := hx.cell_some c0
            have le0 := cell_lt e0
            have HO := Lib.hid (show boolK.Own W0.heap.size wr (.slice Av2 kv2 cv2) ((List.range ((k + 1) * j)).map fun i => darkB j m P hs lx ly lz (cx j i) (cy j i)) by rw [Nat.succ_mul]; exact ho)
            have HX := Lib.hid hx
            clear ho hx
            go_wp2_with fail
            go_roundw
            case rel => exact ⟨k + 1, by omega, by go_num, HO.out, HX.out⟩
            case measure => simp [intOf]; omega
      · obtain rfl : k = m := by omega
        have d1 := hx.cell_some c1
        have l1 := cell_lt d1
        have HO := Lib.hid ho
        have HX := Lib.hid hx
        clear ho hx
        go_wp2_with fail
        go_ret2
        exact ⟨_, by rw [HE.out]; rfl, by rw [HR.out]; exact HO.out.mono HX0.out.bel.size, HX0.out.trans HX.out⟩
end Go.Proofs.Ytlljhimaopnbfaa
