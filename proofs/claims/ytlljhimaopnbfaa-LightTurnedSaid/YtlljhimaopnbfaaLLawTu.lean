/- LightTurned: the law's walk. Condition: the heights read as a list. -/
import Derived.Test.YtlljhimaopnbfaaLAround
namespace Go.Proofs.Ytlljhimaopnbfaa
open Go.RowKit

theorem shadeK_atT {w : World} {A : Option Addr} {xs : List (Int × Int)} (h : shadeK.Row w A xs) {j : Nat} (hj : j < xs.length) : ∃ b o, A = some ⟨b, o, none⟩ ∧ b < w.heap.size ∧ w.cell? ⟨b, o + j * 2, none⟩ = some (.int .i64 xs[j].1) ∧ w.cell? ⟨b, o + j * 2 + 1, none⟩ = some (.int .i64 xs[j].2) := by
  obtain ⟨b, o, rfl, hb, hc⟩ := h j hj
  exact ⟨b, o, rfl, hb, hc 0 _ rfl, hc 1 _ rfl⟩
theorem pictureL_bad {W H P : Int} {hs : List Int} {lx ly lz : Int} (h : shadE W H P hs lx ly lz ≠ 0) : pictureL W H P hs lx ly lz = [] ∧ shadowsL W H P hs lx ly lz = [] := by
  unfold shadE at h
  unfold pictureL shadowsL
  cases h1 : surfB W H P hs <;> cases h2 : lightB lx ly lz <;> simp_all
theorem pictureL_ok {n m : Nat} {P : Int} {hs : List Int} {lx ly lz : Int} (h1 : surfB ((n : Int) + 1) ((m : Int) + 1) P hs = true) (h2 : lightB lx ly lz = true) : pictureL ((n : Int) + 1) ((m : Int) + 1) P hs lx ly lz = seenL n m P hs lx ly lz := by
  unfold pictureL
  rw [h1, h2, nOf_add, nOf_add]
  rfl
theorem shadE_good {W H P : Int} {hs : List Int} {lx ly lz : Int} (h1 : surfB W H P hs = true) (h2 : lightB lx ly lz = true) : shadE W H P hs lx ly lz = 0 := by
  unfold shadE
  rw [h1, h2]
  rfl

set_option maxRecDepth 100000 in
set_option maxHeartbeats 8000000 in
theorem lawTurned_any (W H P : Int) (hv : Value) (hs : List Int) (lx ly lz : Int) (mi : Bool) (w : World) (hI : intK.Is w hv hs) :
    Calls Try.prog 12 #[surfV W H P hv, lightV lx ly lz, .bool mi] w fun e w' => e = .returned (.bool true) ∧ Ext w w' := by
  have HAL := Lib.hid fun W : World => light_alive W
  have HII := Lib.hid fun (W : World) (x : Ext w W) => hI.ext x
  have HGR := Lib.hid fun (W1 : World) (x : Ext w W1) => great_any W H P hv hs W1 (hI.ext x)
  have HPI := Lib.hid fun (W1 : World) (x : Ext w W1) => Picture_any W H P hv hs lx ly lz W1 (hI.ext x)
  have HSH := Lib.hid fun (W1 : World) (x : Ext w W1) => shadows_any W H P hv hs lx ly lz W1 (hI.ext x)
  obtain ⟨A, L, c, rfl, hL, _⟩ := hI.open_
  have X0 := Lib.hid (show Ext w ((w.alloc (.cells #[.int .i64 W, .int .i64 H, .int .i64 P, .slice A L c] 37)).alloc (.cells #[.int .i64 lx, .int .i64 ly, .int .i64 lz] 25)) from by (repeat' (first | with_reducible exact Ext.refl _ | with_reducible apply Ext.alloc | with_reducible apply Ext.drew | with_reducible apply Ext.drewN | with_reducible refine Ext.setCell ?_ ?_ _ | with_reducible apply Ext.step | with_reducible assumption | with_reducible exact Nat.le_refl _ | (simp; done) | (simp; omega))))
  clear hI hL
  go_enter Try.func12, Try.ntmps12
  go_wp2_with fail
  refine (HAL.out _).mono ?_
  rintro e w1 ⟨rfl, x1⟩
  have HX1 := Lib.hid (X0.out.trans x1)
  have a0 : w1.cell? ⟨w.heap.size, 0, none⟩ = some (.int .i64 W) := x1.cell_some (by go_cell)
  have a1 : w1.cell? ⟨w.heap.size, 1, none⟩ = some (.int .i64 H) := x1.cell_some (by go_cell)
  have a2 : w1.cell? ⟨w.heap.size, 2, none⟩ = some (.int .i64 P) := x1.cell_some (by go_cell)
  have a3 : w1.cell? ⟨w.heap.size, 3, none⟩ = some (.slice A L c) := x1.cell_some (by go_cell)
  have b0 : w1.cell? ⟨w.heap.size + 1, 0, none⟩ = some (.int .i64 lx) := x1.cell_some (by go_cell)
  have b1 : w1.cell? ⟨w.heap.size + 1, 1, none⟩ = some (.int .i64 ly) := x1.cell_some (by go_cell)
  have b2 : w1.cell? ⟨w.heap.size + 1, 2, none⟩ = some (.int .i64 lz) := x1.cell_some (by go_cell)
  have la := cell_lt a0
  have lb := cell_lt b0
  clear x1
  go_wp2_with fail
  refine (HGR.out _ HX1.out).mono ?_
  rintro e w2 ⟨rfl, x2⟩
  have HX2 := Lib.hid (HX1.out.trans x2)
  replace a0 := x2.cell_some a0
  replace a1 := x2.cell_some a1
  replace a2 := x2.cell_some a2
  replace a3 := x2.cell_some a3
  replace b0 := x2.cell_some b0
  replace b1 := x2.cell_some b1
  replace b2 := x2.cell_some b2
  replace la := cell_lt a0
  replace lb := cell_lt b0
  clear x2
  by_cases hg : 700 < hs.length
  · have g1 : decide (700 < hs.length) = true := by simpa using hg
    clear hg
    go_wp2_with fail
    go_ret
    exact ⟨rfl, HX2.out⟩
  have g1 : decide (700 < hs.length) = false := by simpa using hg
  clear hg
  by_cases he : shadE W H P hs lx ly lz = 0
  case neg =>
    have f1 : (shadE W H P hs lx ly lz != 0) = true := by simpa using he
    obtain ⟨p1, p2⟩ := pictureL_bad he
    rw [p1] at HPI
    rw [p2] at HSH
    generalize shadE W H P hs lx ly lz = er at *
    clear he p1 p2
    go_wp2_with fail
    refine (HPI.out _ HX2.out).mono ?_
    rintro e w3 ⟨v3, rfl, o3, x3⟩
    have HX3 := Lib.hid (HX2.out.trans x3)
    replace a0 := x3.cell_some a0
    replace a1 := x3.cell_some a1
    replace a2 := x3.cell_some a2
    replace a3 := x3.cell_some a3
    replace b0 := x3.cell_some b0
    replace b1 := x3.cell_some b1
    replace b2 := x3.cell_some b2
    replace la := cell_lt a0
    replace lb := cell_lt b0
    obtain ⟨A3, k3, c3, rfl, hk3, -⟩ := o3.is.open_
    obtain rfl : 0 = k3 := hk3
    clear x3 o3
    go_wp2_with fail
    refine (HSH.out _ HX3.out).mono ?_
    rintro e w4 ⟨v4, rfl, o4, x4⟩
    have HX4 := Lib.hid (HX3.out.trans x4)
    obtain ⟨A4, k4, c4, rfl, hk4, -⟩ := o4.is.open_
    obtain rfl : 0 = k4 := hk4
    clear x4 o4 a0 a1 a2 a3 b0 b1 b2 la lb
    go_wp2_with fail
    go_ret
    exact ⟨rfl, HX4.out⟩
  obtain ⟨hsb, hlb⟩ := shadE_ok he
  obtain ⟨n, m, hn, hm, hn1, hn2, hm1, hm2⟩ := surf_nm hsb
  have hmn := Nat.mul_le_mul hm2 hn2
  obtain ⟨M, hM⟩ : ∃ M, M = m * n := ⟨_, rfl⟩
  have hM5 : M ≤ 529 := by rw [hM]; exact hmn
  have hw1 : IntKind.i64.wrap (W - 1) = (n : Int) := by rw [hn]; exact (IntWalk.i64_in _ (by omega)).trans (by omega)
  have hw2 : IntKind.i64.wrap (H - 1) = (m : Int) := by rw [hm]; exact (IntWalk.i64_in _ (by omega)).trans (by omega)
  have hw3 : IntKind.i64.wrap ((n : Int) * (m : Int)) = (M : Int) := by
    rw [show (n : Int) * (m : Int) = (M : Int) by rw [hM, Int.mul_comm]; simp]
    exact IntWalk.i64_in _ (by omega)
  obtain ⟨⟨l1, l2⟩, ⟨l3, l4⟩, l5, l6⟩ := lightB_iff.1 hlb
  have hwx : IntKind.i64.wrap (-lx) = -lx := IntWalk.i64_in _ (by omega)
  have hwy : IntKind.i64.wrap (-ly) = -ly := IntWalk.i64_in _ (by omega)
  have HPL : pictureL W H P hs lx ly lz = seenL n m P hs lx ly lz := by
    rw [hn, hm] at hsb ⊢
    exact pictureL_ok hsb hlb
  have HSL : shadowsL W H P hs lx ly lz = darksL n m P hs lx ly lz := by
    rw [hn, hm] at hsb ⊢
    exact shadowsL_ok hsb hlb
  have HNM := Lib.hid (And.intro hn (And.intro hm (And.intro hM (show 1 ≤ n ∧ n ≤ 23 ∧ 1 ≤ m ∧ m ≤ 23 by omega))))
  have HSB := Lib.hid (show surfB ((n : Int) + 1) ((m : Int) + 1) P hs = true by rw [← hn, ← hm]; exact hsb)
  have HLB := Lib.hid hlb
  have HAR := Lib.hid fun (W1 : World) (x : Ext w W1) => (show Calls Try.prog 57 #[surfV W H P (.slice A L c), .bool mi] W1 (ArRet n m P mi hs W1) from by
    rw [hn, hm]
    exact around_any n m P mi (.slice A L c) hs W1 (HII.out W1 x) HSB.out)
  have HPT := Lib.hid fun (v : Value) (zs : List Int) (W1 : World) (h : intK.Is W1 v zs) (ha : ArEnd n m mi hs zs) => (show Calls Try.prog 37 #[surfV ((turnN n m mi : Int) + 1) ((turnM n m mi : Int) + 1) P v, lightV (turnX mi lx ly) (turnY mi lx ly) lz] W1 (RetEE shadeK W1 (seenL (turnN n m mi) (turnM n m mi) P zs (turnX mi lx ly) (turnY mi lx ly) lz) 0) from by
    have := Picture_any ((turnN n m mi : Int) + 1) ((turnM n m mi : Int) + 1) P v zs (turnX mi lx ly) (turnY mi lx ly) lz W1 h
    rwa [pictureL_ok (ha.surf HSB.out) (turn_light HLB.out), shadE_good (ha.surf HSB.out) (turn_light HLB.out)] at this)
  have HST := Lib.hid fun (v : Value) (zs : List Int) (W1 : World) (h : intK.Is W1 v zs) (ha : ArEnd n m mi hs zs) => (show Calls Try.prog 35 #[surfV ((turnN n m mi : Int) + 1) ((turnM n m mi : Int) + 1) P v, lightV (turnX mi lx ly) (turnY mi lx ly) lz] W1 (RetEE boolK W1 (darksL (turnN n m mi) (turnM n m mi) P zs (turnX mi lx ly) (turnY mi lx ly) lz) 0) from by
    have := shadows_any ((turnN n m mi : Int) + 1) ((turnM n m mi : Int) + 1) P v zs (turnX mi lx ly) (turnY mi lx ly) lz W1 h
    rwa [shadowsL_ok (ha.surf HSB.out) (turn_light HLB.out), shadE_good (ha.surf HSB.out) (turn_light HLB.out)] at this)
  rw [he, HPL] at HPI
  rw [he, HSL] at HSH
  have z1 : ((M : Int) != (M : Int)) = false := by simp
  have HL1 := Lib.hid (show (seenL n m P hs lx ly lz).length = M from by rw [hM]; simp [seenL])
  have HL2 := Lib.hid (show (darksL n m P hs lx ly lz).length = M from by rw [hM]; exact darksL_len ..)
  have HL3 := Lib.hid fun (zs : List Int) => (show (seenL (turnN n m mi) (turnM n m mi) P zs (turnX mi lx ly) (turnY mi lx ly) lz).length = M from by rw [hM]; simp only [seenL, List.length_map, List.length_range, turnN, turnM]; cases mi <;> simp [Nat.mul_comm])
  have HL4 := Lib.hid fun (zs : List Int) => (show (darksL (turnN n m mi) (turnM n m mi) P zs (turnX mi lx ly) (turnY mi lx ly) lz).length = M from by rw [hM, darksL_len]; simp only [turnN, turnM]; cases mi <;> simp [Nat.mul_comm])
  have HSE := Lib.hid fun (zs : List Int) (ha : ArEnd n m mi hs zs) (x y : Nat) (hx : x < n) (hy : y < m) => ha.seen (P := P) (lx := lx) (ly := ly) (lz := lz) hx hy
  clear he hsb hlb hn hm hn1 hn2 hm1 hm2 hmn hM HPL HSL l1 l2 l3 l4 l5 l6 HSB HLB
  go_wp2_with fail
  refine (HPI.out _ HX2.out).mono ?_
  rintro e w3 ⟨v3, rfl, o3, x3⟩
  have HX3 := Lib.hid (HX2.out.trans x3)
  replace a0 := x3.cell_some a0
  replace a1 := x3.cell_some a1
  replace a2 := x3.cell_some a2
  replace a3 := x3.cell_some a3
  replace b0 := x3.cell_some b0
  replace b1 := x3.cell_some b1
  replace b2 := x3.cell_some b2
  replace la := cell_lt a0
  replace lb := cell_lt b0
  obtain ⟨A3, k3, c3, rfl, hk3, -⟩ := o3.is.open_
  rw [HL1.out] at hk3
  subst hk3
  have HR3 := Lib.hid o3.is
  clear x3 o3
  go_wp2_with fail
  refine (HSH.out _ HX3.out).mono ?_
  rintro e w4 ⟨v4, rfl, o4, x4⟩
  have HX4 := Lib.hid (HX3.out.trans x4)
  have HR4 := Lib.hid (HR3.out.ext x4)
  replace a0 := x4.cell_some a0
  replace a1 := x4.cell_some a1
  replace a2 := x4.cell_some a2
  replace a3 := x4.cell_some a3
  replace b0 := x4.cell_some b0
  replace b1 := x4.cell_some b1
  replace b2 := x4.cell_some b2
  replace la := cell_lt a0
  replace lb := cell_lt b0
  obtain ⟨A4, k4, c4, rfl, hk4, -⟩ := o4.is.open_
  rw [HL2.out] at hk4
  subst hk4
  have HT4 := Lib.hid o4.is
  clear x4 o4 HR3
  cases mi
  · go_wp2_with fail
    refine lay_wp (fun W => Ext w4 W ∧ W.cell? ⟨w4.heap.size, 0, none⟩ = some (.int .i64 (turnX false lx ly)) ∧ W.cell? ⟨w4.heap.size, 1, none⟩ = some (.int .i64 (turnY false lx ly)) ∧ W.cell? ⟨w4.heap.size, 2, none⟩ = some (.int .i64 lz)) ⟨by (repeat' (first | with_reducible exact Ext.refl _ | with_reducible apply Ext.alloc | with_reducible apply Ext.drew | with_reducible apply Ext.drewN | with_reducible refine Ext.setCell ?_ ?_ _ | with_reducible apply Ext.step | with_reducible assumption | with_reducible exact Nat.le_refl _ | (simp; done) | (simp; omega))), ?_, ?_, ?_⟩ ?_
    · show World.cell? _ _ = some (.int .i64 (-ly))
      go_cell
    · show World.cell? _ _ = some (.int .i64 (lx))
      go_cell
    · go_cell
    rintro w5 ⟨x5, m0, m1, m2⟩
    have HX5 := Lib.hid (HX4.out.trans x5)
    replace HR4 := Lib.hid (HR4.out.ext x5)
    replace HT4 := Lib.hid (HT4.out.ext x5)
    replace a0 := x5.cell_some a0
    replace a1 := x5.cell_some a1
    replace a2 := x5.cell_some a2
    replace a3 := x5.cell_some a3
    replace la := cell_lt a0
    clear x5 b0 b1 b2 lb
    have lm := cell_lt m0
    go_wp2_with fail
    have q0 := But.cells (D := []) a0 (by simp)
    have q1 := But.cells (D := []) a1 (by simp)
    have q2 := But.cells (D := []) a2 (by simp)
    have q3 := But.cells (D := []) a3 (by simp)
    have r0 := But.cells (D := []) m0 (by simp)
    have r1 := But.cells (D := []) m1 (by simp)
    have r2 := But.cells (D := []) m2 (by simp)
    refine (wpIn_wide (n := 3)).1 ?_
    refine wpIn_region_steps [] 9 [(0, true), (1, true), (3, true), (2, false), (4, false), (5, true), (6, true), (7, true), (8, true)] (by kernel_rfl) (by kernel_rfl) ?_
    iterate 3 (refine wpSD_q (by rfl) (fun _ _ _ => trivial) (fun K hK => ?_); go_simp; refine hK _ ?_; clear hK K)
    refine wpSD_m (by rfl) (fun _ _ _ => trivial) (fun δ K hK => ?_)
    go_simp
    have E1 := Lib.hid (show Ext w5 δ.wd from ⟨δ, rfl⟩)
    refine (callsIn_wide.2 (HAR.out _ (HX5.out.trans E1.out))).mono ?_
    rintro e w6 ⟨sv, zs, rfl, os, hae, x6⟩
    have HOS := Lib.hid os.is
    have HAE8 := Lib.hid hae
    have HXa := Lib.hid (E1.out.trans x6)
    refine ⟨_, rfl, x6.but, hK _ _ ?_⟩
    clear hK K os x6 hae E1
    refine wpSD_m (by rfl) (fun _ _ _ => trivial) (fun δ2 K hK => ?_)
    go_simp
    have E2 := Lib.hid (show Ext w6 δ2.wd from ⟨δ2, rfl⟩)
    refine (callsIn_wide.2 (HPT.out sv zs δ2.wd (HOS.out.ext E2.out) HAE8.out)).mono ?_
    rintro e w7 ⟨v8, rfl, o8, x7⟩
    obtain ⟨B8, k8, d8, rfl, hk8, -⟩ := o8.is.open_
    rw [HL3.out] at hk8
    subst hk8
    have HO8 := Lib.hid o8.is
    have HXb := Lib.hid (HXa.out.trans (E2.out.trans x7))
    refine ⟨_, rfl, x7.but, hK _ _ ?_⟩
    clear hK K o8 x7 E2 HXa HOS
    iterate 4 (refine wpSD_q (by rfl) (fun _ _ _ => trivial) (fun K hK => ?_); go_simp; refine hK _ ?_; clear hK K)
    refine wpSD_nil ?_
    intro w8 xk
    have xk2 := HXb.out.trans xk
    have HX8 := Lib.hid (HX5.out.trans xk2)
    have HXS8 := Lib.hid xk2
    replace HO8 := Lib.hid (HO8.out.ext xk)
    clear q0 q1 q2 q3 r0 r1 r2 xk HXb
    replace a0 := xk2.cell_some a0
    replace a1 := xk2.cell_some a1
    replace a2 := xk2.cell_some a2
    replace a3 := xk2.cell_some a3
    replace m0 := xk2.cell_some m0
    replace m1 := xk2.cell_some m1
    replace m2 := xk2.cell_some m2
    replace la := cell_lt a0
    replace lm := cell_lt m0
    clear xk2
    simp only [List.drop_succ_cons, List.drop_zero]
    gi_wp2
    go_wp2_with fail
    replace HR4 := Lib.hid (HR4.out.ext HXS8.out)
    replace HT4 := Lib.hid (HT4.out.ext HXS8.out)
    have q0 := But.cells (D := []) a0 (by simp)
    have q1 := But.cells (D := []) a1 (by simp)
    have q2 := But.cells (D := []) a2 (by simp)
    have q3 := But.cells (D := []) a3 (by simp)
    have r0 := But.cells (D := []) m0 (by simp)
    have r1 := But.cells (D := []) m1 (by simp)
    have r2 := But.cells (D := []) m2 (by simp)
    refine (wpIn_wide (n := 3)).1 ?_
    refine wpIn_region_steps [] 9 [(0, true), (1, true), (3, true), (2, false), (4, false), (5, true), (6, true), (7, true), (8, true)] (by kernel_rfl) (by kernel_rfl) ?_
    iterate 3 (refine wpSD_q (by rfl) (fun _ _ _ => trivial) (fun K hK => ?_); go_simp; refine hK _ ?_; clear hK K)
    refine wpSD_m (by rfl) (fun _ _ _ => trivial) (fun δ K hK => ?_)
    go_simp
    have E1 := Lib.hid (show Ext w8 δ.wd from ⟨δ, rfl⟩)
    refine (callsIn_wide.2 (HAR.out _ (HX8.out.trans E1.out))).mono ?_
    rintro e w6 ⟨sv, ys, rfl, os, hae, x6⟩
    have HOS := Lib.hid os.is
    have HAE9 := Lib.hid hae
    have HXa := Lib.hid (E1.out.trans x6)
    refine ⟨_, rfl, x6.but, hK _ _ ?_⟩
    clear hK K os x6 hae E1
    refine wpSD_m (by rfl) (fun _ _ _ => trivial) (fun δ2 K hK => ?_)
    go_simp
    have E2 := Lib.hid (show Ext w6 δ2.wd from ⟨δ2, rfl⟩)
    refine (callsIn_wide.2 (HST.out sv ys δ2.wd (HOS.out.ext E2.out) HAE9.out)).mono ?_
    rintro e w7 ⟨v9, rfl, o9, x7⟩
    obtain ⟨B9, k9, d9, rfl, hk9, -⟩ := o9.is.open_
    rw [HL4.out] at hk9
    subst hk9
    have HO9 := Lib.hid o9.is
    have HXb := Lib.hid (HXa.out.trans (E2.out.trans x7))
    refine ⟨_, rfl, x7.but, hK _ _ ?_⟩
    clear hK K o9 x7 E2 HXa HOS
    iterate 4 (refine wpSD_q (by rfl) (fun _ _ _ => trivial) (fun K hK => ?_); go_simp; refine hK _ ?_; clear hK K)
    refine wpSD_nil ?_
    intro w9 xk
    have xk2 := HXb.out.trans xk
    have HX9 := Lib.hid (HX8.out.trans xk2)
    have HXS9 := Lib.hid xk2
    replace HO9 := Lib.hid (HO9.out.ext xk)
    clear q0 q1 q2 q3 r0 r1 r2 xk HXb
    replace a0 := xk2.cell_some a0
    replace a1 := xk2.cell_some a1
    replace a2 := xk2.cell_some a2
    replace a3 := xk2.cell_some a3
    replace m0 := xk2.cell_some m0
    replace m1 := xk2.cell_some m1
    replace m2 := xk2.cell_some m2
    replace la := cell_lt a0
    replace lm := cell_lt m0
    clear xk2
    simp only [List.drop_succ_cons, List.drop_zero]
    gi_wp2
    go_wp2_with fail
    replace HR4 := Lib.hid (HR4.out.ext HXS9.out)
    replace HT4 := Lib.hid (HT4.out.ext HXS9.out)
    replace HO8 := Lib.hid (HO8.out.ext HXS9.out)
    have HA := Lib.hid (And.intro a0 a1)
    clear a0 a1 a2 a3 m0 m1 m2 la lm HXS8 HXS9
    obtain ⟨hn, hm, hM, hnm⟩ := HNM.out
    have hn1 : 1 ≤ n := hnm.1
    have hm1 : 1 ≤ m := hnm.2.2.1
    have hn23 : n ≤ 23 := hnm.2.1
    have hm23 : m ≤ 23 := hnm.2.2.2
    have HMM := Lib.hid hM
    have HWH := Lib.hid (And.intro hn hm)
    clear hnm hM hn hm
    obtain ⟨_, _, he, _, _, hr⟩ := HR4.out
    simp only [Value.slice.injEq] at he
    obtain ⟨rfl, -, -⟩ := he
    have HWa := Lib.hid hr
    clear hr
    obtain ⟨_, _, he, _, _, hr⟩ := HT4.out
    simp only [Value.slice.injEq] at he
    obtain ⟨rfl, -, -⟩ := he
    have HWb := Lib.hid hr
    clear hr
    obtain ⟨_, _, he, _, _, hr⟩ := HO8.out
    simp only [Value.slice.injEq] at he
    obtain ⟨rfl, -, -⟩ := he
    have HWc := Lib.hid hr
    clear hr
    obtain ⟨_, _, he, _, _, hr⟩ := HO9.out
    simp only [Value.slice.injEq] at he
    obtain ⟨rfl, -, -⟩ := he
    have HWd := Lib.hid hr
    clear hr
    go_loopw [137] (fun iv wr => ∃ y : Nat, y ≤ m ∧ iv = .int .i64 (y : Int) ∧ Ext w9 wr) (fun iv _ => m - (intOf iv).toNat)
    case atStart => exact ⟨0, by omega, rfl, Ext.refl _⟩
    case round =>
      obtain ⟨y, hy, rfl, hx⟩ := hrel
      have HX := Lib.hid hx
      by_cases hlt : y < m
      · have hyi : (y : Int) < (m : Int) := by omega
        have a0 := hx.cell_some HA.out.1
        have la := cell_lt a0
        clear hx
        go_wp2_with fail
        clear a0 la
        obtain ⟨wo, rfl⟩ : ∃ wo, wo = wr := ⟨wr, rfl⟩
        go_loopw [143] (fun iv wr => ∃ x : Nat, x ≤ n ∧ iv = .int .i64 (x : Int) ∧ Ext w9 wr) (fun iv _ => n - (intOf iv).toNat)
        case atStart => exact ⟨0, by omega, rfl, HX.out⟩
        case round =>
          obtain ⟨x, hxn, rfl, hx⟩ := hrel
          have HX2 := Lib.hid hx
          by_cases hlx : x < n
          · have hxi : (x : Int) < (n : Int) := by omega
            have hal := cell_in2 hlx hlt
            rw [← HMM.out] at hal
            obtain ⟨c1, c2, e1, e2⟩ := HSE.out zs HAE8.out x y hlx hlt
            obtain ⟨d1, d2, g1, g2⟩ := HSE.out ys HAE9.out x y hlx hlt
            have htl := c1
            rw [HL3.out] at htl
            obtain ⟨bs, os, rfl, -, s0, s1⟩ := shadeK_atT HWa.out (j := y * n + x) (by rw [HL1.out]; exact hal)
            obtain ⟨bd, od, rfl, -, b0⟩ := bools_at HWb.out (y * n + x) (by rw [HL2.out]; exact hal)
            obtain ⟨bt, ot, rfl, -, t0, t1⟩ := shadeK_atT HWc.out (j := turnTo n m false x y) c1
            obtain ⟨bu, ou, rfl, -, u0⟩ := bools_at HWd.out (turnTo n m false x y) d2
            rw [seenL_atT, cx_at hlx, cy_at hlx] at s0 s1
            rw [darksL_at, cx_at hlx, cy_at hlx] at b0
            rw [e1] at t0 t1
            rw [g2] at u0
            replace s0 := hx.cell_some s0
            replace s1 := hx.cell_some s1
            replace b0 := hx.cell_some b0
            replace t0 := hx.cell_some t0
            replace t1 := hx.cell_some t1
            replace u0 := hx.cell_some u0
            have a0 := hx.cell_some HA.out.1
            have a1 := hx.cell_some HA.out.2
            have la := cell_lt a0
            have l1 := cell_lt s0
            have l2 := cell_lt b0
            have l3 := cell_lt t0
            have l4 := cell_lt u0
            have hyn : y * n ≤ 529 := by omega
            have hxm : x * m + (m - 1 - y) < M := by
              have := cell_in2 (n := m) (m := n) (x := m - 1 - y) (y := x) (by omega) hlx
              rw [HMM.out, Nat.mul_comm m]
              exact this
            have k1 : IntKind.i64.wrap ((y : Int) * (n : Int)) = ((y * n : Nat) : Int) := by
              rw [show (y : Int) * (n : Int) = ((y * n : Nat) : Int) by simp]
              exact IntWalk.i64_in _ (by omega)
            have k2 : IntKind.i64.wrap ((x : Int) * (m : Int)) = ((x * m : Nat) : Int) := by
              rw [show (x : Int) * (m : Int) = ((x * m : Nat) : Int) by simp]
              exact IntWalk.i64_in _ (by omega)
            obtain ⟨yn, hyne⟩ : ∃ z, z = y * n := ⟨_, rfl⟩
            obtain ⟨xm, hxme⟩ : ∃ z, z = x * m := ⟨_, rfl⟩
            rw [← hyne] at k1 hyn hal s0 s1 b0
            rw [← hxme] at k2 hxm
            obtain ⟨hn, hm⟩ := HWH.out
            have k3 : IntKind.i64.wrap ((yn : Int) + (x : Int)) = ((yn + x : Nat) : Int) := (IntWalk.i64_in _ (by omega)).trans (by omega)
            have k4 : IntKind.i64.wrap ((xm : Int) + H) = ((xm + (m + 1) : Nat) : Int) := by rw [hm]; exact (IntWalk.i64_in _ (by omega)).trans (by omega)
            have k5 : IntKind.i64.wrap (((xm + (m + 1) : Nat) : Int) - 2) = ((xm + (m - 1) : Nat) : Int) := (IntWalk.i64_in _ (by omega)).trans (by omega)
            have k6 : IntKind.i64.wrap (((xm + (m - 1) : Nat) : Int) - (y : Int)) = ((xm + (m - 1 - y) : Nat) : Int) := (IntWalk.i64_in _ (by omega)).trans (by omega)
            obtain ⟨p, hp⟩ : ∃ p, p = turnTo n m false x y := ⟨_, rfl⟩
            have hp2 : xm + (m - 1 - y) = p := by rw [hp, hxme]; rfl
            rw [← hp] at t0 t1 u0 htl
            rw [hp2] at k6 hxm
            have hpi : (p : Int) < (M : Int) := by omega
            obtain ⟨q, hq⟩ : ∃ q, q = yn + x := ⟨_, rfl⟩
            rw [← hq] at k3 s0 s1 b0 hal
            have hqi : (q : Int) < (M : Int) := by omega
            clear hp hp2 hq c1 c2 e1 e2 d1 d2 g1 g2 hx hn hm hyne hxme
            generalize xm + (m + 1) = n1 at *
            generalize xm + (m - 1) = n2 at *
            generalize seenC n m P hs lx ly lz x y = sc at *
            generalize darkB n m P hs lx ly lz x y = dc at *
            go_wp2_with fail
            refine wp_region_bext (by kernel_rfl) (by kernel_rfl) ?_
            repeat (any_goals (go_big_quiet_step (fail)))
            all_goals refine wpQuiet_nil ?_
            all_goals rintro _ ⟨δ, rfl⟩
            have HX7 := Lib.hid (HX2.out.trans (show Ext wr δ.wd from ⟨δ, rfl⟩))
            generalize δ.wd = W7 at *
            go_wp2_with fail
            go_roundw
            case rel => exact ⟨x + 1, by omega, by go_num, HX7.out⟩
            case measure => simp [intOf]; omega
          · obtain rfl : x = n := by omega
            clear hx
            go_wp2_with fail
            go_roundw
            case rel => exact ⟨y + 1, by omega, by go_num, HX2.out⟩
            case measure => simp [intOf]; omega
      · obtain rfl : y = m := by omega
        clear hx
        go_wp2_with fail
        go_ret
        exact ⟨rfl, HX9.out.trans HX.out⟩
  · go_wp2_with fail
    refine lay_wp (fun W => Ext w4 W ∧ W.cell? ⟨w4.heap.size, 0, none⟩ = some (.int .i64 (turnX true lx ly)) ∧ W.cell? ⟨w4.heap.size, 1, none⟩ = some (.int .i64 (turnY true lx ly)) ∧ W.cell? ⟨w4.heap.size, 2, none⟩ = some (.int .i64 lz)) ⟨by (repeat' (first | with_reducible exact Ext.refl _ | with_reducible apply Ext.alloc | with_reducible apply Ext.drew | with_reducible apply Ext.drewN | with_reducible refine Ext.setCell ?_ ?_ _ | with_reducible apply Ext.step | with_reducible assumption | with_reducible exact Nat.le_refl _ | (simp; done) | (simp; omega))), ?_, ?_, ?_⟩ ?_
    · show World.cell? _ _ = some (.int .i64 (-lx))
      go_cell
    · show World.cell? _ _ = some (.int .i64 (ly))
      go_cell
    · go_cell
    rintro w5 ⟨x5, m0, m1, m2⟩
    have HX5 := Lib.hid (HX4.out.trans x5)
    replace HR4 := Lib.hid (HR4.out.ext x5)
    replace HT4 := Lib.hid (HT4.out.ext x5)
    replace a0 := x5.cell_some a0
    replace a1 := x5.cell_some a1
    replace a2 := x5.cell_some a2
    replace a3 := x5.cell_some a3
    replace la := cell_lt a0
    clear x5 b0 b1 b2 lb
    have lm := cell_lt m0
    go_wp2_with fail
    have q0 := But.cells (D := []) a0 (by simp)
    have q1 := But.cells (D := []) a1 (by simp)
    have q2 := But.cells (D := []) a2 (by simp)
    have q3 := But.cells (D := []) a3 (by simp)
    have r0 := But.cells (D := []) m0 (by simp)
    have r1 := But.cells (D := []) m1 (by simp)
    have r2 := But.cells (D := []) m2 (by simp)
    refine (wpIn_wide (n := 3)).1 ?_
    refine wpIn_region_steps [] 9 [(0, true), (1, true), (3, true), (2, false), (4, false), (5, true), (6, true), (7, true), (8, true)] (by kernel_rfl) (by kernel_rfl) ?_
    iterate 3 (refine wpSD_q (by rfl) (fun _ _ _ => trivial) (fun K hK => ?_); go_simp; refine hK _ ?_; clear hK K)
    refine wpSD_m (by rfl) (fun _ _ _ => trivial) (fun δ K hK => ?_)
    go_simp
    have E1 := Lib.hid (show Ext w5 δ.wd from ⟨δ, rfl⟩)
    refine (callsIn_wide.2 (HAR.out _ (HX5.out.trans E1.out))).mono ?_
    rintro e w6 ⟨sv, zs, rfl, os, hae, x6⟩
    have HOS := Lib.hid os.is
    have HAE8 := Lib.hid hae
    have HXa := Lib.hid (E1.out.trans x6)
    refine ⟨_, rfl, x6.but, hK _ _ ?_⟩
    clear hK K os x6 hae E1
    refine wpSD_m (by rfl) (fun _ _ _ => trivial) (fun δ2 K hK => ?_)
    go_simp
    have E2 := Lib.hid (show Ext w6 δ2.wd from ⟨δ2, rfl⟩)
    refine (callsIn_wide.2 (HPT.out sv zs δ2.wd (HOS.out.ext E2.out) HAE8.out)).mono ?_
    rintro e w7 ⟨v8, rfl, o8, x7⟩
    obtain ⟨B8, k8, d8, rfl, hk8, -⟩ := o8.is.open_
    rw [HL3.out] at hk8
    subst hk8
    have HO8 := Lib.hid o8.is
    have HXb := Lib.hid (HXa.out.trans (E2.out.trans x7))
    refine ⟨_, rfl, x7.but, hK _ _ ?_⟩
    clear hK K o8 x7 E2 HXa HOS
    iterate 4 (refine wpSD_q (by rfl) (fun _ _ _ => trivial) (fun K hK => ?_); go_simp; refine hK _ ?_; clear hK K)
    refine wpSD_nil ?_
    intro w8 xk
    have xk2 := HXb.out.trans xk
    have HX8 := Lib.hid (HX5.out.trans xk2)
    have HXS8 := Lib.hid xk2
    replace HO8 := Lib.hid (HO8.out.ext xk)
    clear q0 q1 q2 q3 r0 r1 r2 xk HXb
    replace a0 := xk2.cell_some a0
    replace a1 := xk2.cell_some a1
    replace a2 := xk2.cell_some a2
    replace a3 := xk2.cell_some a3
    replace m0 := xk2.cell_some m0
    replace m1 := xk2.cell_some m1
    replace m2 := xk2.cell_some m2
    replace la := cell_lt a0
    replace lm := cell_lt m0
    clear xk2
    simp only [List.drop_succ_cons, List.drop_zero]
    gi_wp2
    go_wp2_with fail
    replace HR4 := Lib.hid (HR4.out.ext HXS8.out)
    replace HT4 := Lib.hid (HT4.out.ext HXS8.out)
    have q0 := But.cells (D := []) a0 (by simp)
    have q1 := But.cells (D := []) a1 (by simp)
    have q2 := But.cells (D := []) a2 (by simp)
    have q3 := But.cells (D := []) a3 (by simp)
    have r0 := But.cells (D := []) m0 (by simp)
    have r1 := But.cells (D := []) m1 (by simp)
    have r2 := But.cells (D := []) m2 (by simp)
    refine (wpIn_wide (n := 3)).1 ?_
    refine wpIn_region_steps [] 9 [(0, true), (1, true), (3, true), (2, false), (4, false), (5, true), (6, true), (7, true), (8, true)] (by kernel_rfl) (by kernel_rfl) ?_
    iterate 3 (refine wpSD_q (by rfl) (fun _ _ _ => trivial) (fun K hK => ?_); go_simp; refine hK _ ?_; clear hK K)
    refine wpSD_m (by rfl) (fun _ _ _ => trivial) (fun δ K hK => ?_)
    go_simp
    have E1 := Lib.hid (show Ext w8 δ.wd from ⟨δ, rfl⟩)
    refine (callsIn_wide.2 (HAR.out _ (HX8.out.trans E1.out))).mono ?_
    rintro e w6 ⟨sv, ys, rfl, os, hae, x6⟩
    have HOS := Lib.hid os.is
    have HAE9 := Lib.hid hae
    have HXa := Lib.hid (E1.out.trans x6)
    refine ⟨_, rfl, x6.but, hK _ _ ?_⟩
    clear hK K os x6 hae E1
    refine wpSD_m (by rfl) (fun _ _ _ => trivial) (fun δ2 K hK => ?_)
    go_simp
    have E2 := Lib.hid (show Ext w6 δ2.wd from ⟨δ2, rfl⟩)
    refine (callsIn_wide.2 (HST.out sv ys δ2.wd (HOS.out.ext E2.out) HAE9.out)).mono ?_
    rintro e w7 ⟨v9, rfl, o9, x7⟩
    obtain ⟨B9, k9, d9, rfl, hk9, -⟩ := o9.is.open_
    rw [HL4.out] at hk9
    subst hk9
    have HO9 := Lib.hid o9.is
    have HXb := Lib.hid (HXa.out.trans (E2.out.trans x7))
    refine ⟨_, rfl, x7.but, hK _ _ ?_⟩
    clear hK K o9 x7 E2 HXa HOS
    iterate 4 (refine wpSD_q (by rfl) (fun _ _ _ => trivial) (fun K hK => ?_); go_simp; refine hK _ ?_; clear hK K)
    refine wpSD_nil ?_
    intro w9 xk
    have xk2 := HXb.out.trans xk
    have HX9 := Lib.hid (HX8.out.trans xk2)
    have HXS9 := Lib.hid xk2
    replace HO9 := Lib.hid (HO9.out.ext xk)
    clear q0 q1 q2 q3 r0 r1 r2 xk HXb
    replace a0 := xk2.cell_some a0
    replace a1 := xk2.cell_some a1
    replace a2 := xk2.cell_some a2
    replace a3 := xk2.cell_some a3
    replace m0 := xk2.cell_some m0
    replace m1 := xk2.cell_some m1
    replace m2 := xk2.cell_some m2
    replace la := cell_lt a0
    replace lm := cell_lt m0
    clear xk2
    simp only [List.drop_succ_cons, List.drop_zero]
    gi_wp2
    go_wp2_with fail
    replace HR4 := Lib.hid (HR4.out.ext HXS9.out)
    replace HT4 := Lib.hid (HT4.out.ext HXS9.out)
    replace HO8 := Lib.hid (HO8.out.ext HXS9.out)
    have HA := Lib.hid (And.intro a0 a1)
    clear a0 a1 a2 a3 m0 m1 m2 la lm HXS8 HXS9
    obtain ⟨hn, hm, hM, hnm⟩ := HNM.out
    have hn1 : 1 ≤ n := hnm.1
    have hm1 : 1 ≤ m := hnm.2.2.1
    have hn23 : n ≤ 23 := hnm.2.1
    have hm23 : m ≤ 23 := hnm.2.2.2
    have HMM := Lib.hid hM
    have HWH := Lib.hid (And.intro hn hm)
    clear hnm hM hn hm
    obtain ⟨_, _, he, _, _, hr⟩ := HR4.out
    simp only [Value.slice.injEq] at he
    obtain ⟨rfl, -, -⟩ := he
    have HWa := Lib.hid hr
    clear hr
    obtain ⟨_, _, he, _, _, hr⟩ := HT4.out
    simp only [Value.slice.injEq] at he
    obtain ⟨rfl, -, -⟩ := he
    have HWb := Lib.hid hr
    clear hr
    obtain ⟨_, _, he, _, _, hr⟩ := HO8.out
    simp only [Value.slice.injEq] at he
    obtain ⟨rfl, -, -⟩ := he
    have HWc := Lib.hid hr
    clear hr
    obtain ⟨_, _, he, _, _, hr⟩ := HO9.out
    simp only [Value.slice.injEq] at he
    obtain ⟨rfl, -, -⟩ := he
    have HWd := Lib.hid hr
    clear hr
    go_loopw [137] (fun iv wr => ∃ y : Nat, y ≤ m ∧ iv = .int .i64 (y : Int) ∧ Ext w9 wr) (fun iv _ => m - (intOf iv).toNat)
    case atStart => exact ⟨0, by omega, rfl, Ext.refl _⟩
    case round =>
      obtain ⟨y, hy, rfl, hx⟩ := hrel
      have HX := Lib.hid hx
      by_cases hlt : y < m
      · have hyi : (y : Int) < (m : Int) := by omega
        have a0 := hx.cell_some HA.out.1
        have la := cell_lt a0
        clear hx
        go_wp2_with fail
        clear a0 la
        obtain ⟨wo, rfl⟩ : ∃ wo, wo = wr := ⟨wr, rfl⟩
        go_loopw [143] (fun iv wr => ∃ x : Nat, x ≤ n ∧ iv = .int .i64 (x : Int) ∧ Ext w9 wr) (fun iv _ => n - (intOf iv).toNat)
        case atStart => exact ⟨0, by omega, rfl, HX.out⟩
        case round =>
          obtain ⟨x, hxn, rfl, hx⟩ := hrel
          have HX2 := Lib.hid hx
          by_cases hlx : x < n
          · have hxi : (x : Int) < (n : Int) := by omega
            have hal := cell_in2 hlx hlt
            rw [← HMM.out] at hal
            obtain ⟨c1, c2, e1, e2⟩ := HSE.out zs HAE8.out x y hlx hlt
            obtain ⟨d1, d2, g1, g2⟩ := HSE.out ys HAE9.out x y hlx hlt
            have htl := c1
            rw [HL3.out] at htl
            obtain ⟨bs, os, rfl, -, s0, s1⟩ := shadeK_atT HWa.out (j := y * n + x) (by rw [HL1.out]; exact hal)
            obtain ⟨bd, od, rfl, -, b0⟩ := bools_at HWb.out (y * n + x) (by rw [HL2.out]; exact hal)
            obtain ⟨bt, ot, rfl, -, t0, t1⟩ := shadeK_atT HWc.out (j := turnTo n m true x y) c1
            obtain ⟨bu, ou, rfl, -, u0⟩ := bools_at HWd.out (turnTo n m true x y) d2
            rw [seenL_atT, cx_at hlx, cy_at hlx] at s0 s1
            rw [darksL_at, cx_at hlx, cy_at hlx] at b0
            rw [e1] at t0 t1
            rw [g2] at u0
            replace s0 := hx.cell_some s0
            replace s1 := hx.cell_some s1
            replace b0 := hx.cell_some b0
            replace t0 := hx.cell_some t0
            replace t1 := hx.cell_some t1
            replace u0 := hx.cell_some u0
            have a0 := hx.cell_some HA.out.1
            have a1 := hx.cell_some HA.out.2
            have la := cell_lt a0
            have l1 := cell_lt s0
            have l2 := cell_lt b0
            have l3 := cell_lt t0
            have l4 := cell_lt u0
            have hyn : y * n ≤ 529 := by omega
            have hxm : x * m + (m - 1 - y) < M := by
              have := cell_in2 (n := m) (m := n) (x := m - 1 - y) (y := x) (by omega) hlx
              rw [HMM.out, Nat.mul_comm m]
              exact this
            have k1 : IntKind.i64.wrap ((y : Int) * (n : Int)) = ((y * n : Nat) : Int) := by
              rw [show (y : Int) * (n : Int) = ((y * n : Nat) : Int) by simp]
              exact IntWalk.i64_in _ (by omega)
            have k2 : IntKind.i64.wrap ((x : Int) * (m : Int)) = ((x * m : Nat) : Int) := by
              rw [show (x : Int) * (m : Int) = ((x * m : Nat) : Int) by simp]
              exact IntWalk.i64_in _ (by omega)
            obtain ⟨yn, hyne⟩ : ∃ z, z = y * n := ⟨_, rfl⟩
            obtain ⟨xm, hxme⟩ : ∃ z, z = x * m := ⟨_, rfl⟩
            rw [← hyne] at k1 hyn hal s0 s1 b0
            rw [← hxme] at k2 hxm
            obtain ⟨hn, hm⟩ := HWH.out
            have k3 : IntKind.i64.wrap ((yn : Int) + (x : Int)) = ((yn + x : Nat) : Int) := (IntWalk.i64_in _ (by omega)).trans (by omega)
            have k4 : IntKind.i64.wrap ((xm : Int) + H) = ((xm + (m + 1) : Nat) : Int) := by rw [hm]; exact (IntWalk.i64_in _ (by omega)).trans (by omega)
            have k5 : IntKind.i64.wrap (((xm + (m + 1) : Nat) : Int) - 2) = ((xm + (m - 1) : Nat) : Int) := (IntWalk.i64_in _ (by omega)).trans (by omega)
            have k6 : IntKind.i64.wrap (((xm + (m - 1) : Nat) : Int) - (y : Int)) = ((xm + (m - 1 - y) : Nat) : Int) := (IntWalk.i64_in _ (by omega)).trans (by omega)
            have j4 : IntKind.i64.wrap ((yn : Int) + W) = ((yn + (n + 1) : Nat) : Int) := by rw [hn]; exact (IntWalk.i64_in _ (by omega)).trans (by omega)
            have j5 : IntKind.i64.wrap (((yn + (n + 1) : Nat) : Int) - 2) = ((yn + (n - 1) : Nat) : Int) := (IntWalk.i64_in _ (by omega)).trans (by omega)
            have j6 : IntKind.i64.wrap (((yn + (n - 1) : Nat) : Int) - (x : Int)) = ((yn + (n - 1 - x) : Nat) : Int) := (IntWalk.i64_in _ (by omega)).trans (by omega)
            obtain ⟨p, hp⟩ : ∃ p, p = turnTo n m true x y := ⟨_, rfl⟩
            have hp2 : yn + (n - 1 - x) = p := by rw [hp, hyne]; rfl
            rw [← hp] at t0 t1 u0 htl
            rw [hp2] at j6
            have hpi : (p : Int) < (M : Int) := by omega
            obtain ⟨q, hq⟩ : ∃ q, q = yn + x := ⟨_, rfl⟩
            rw [← hq] at k3 s0 s1 b0 hal
            have hqi : (q : Int) < (M : Int) := by omega
            clear hp hp2 hq c1 c2 e1 e2 d1 d2 g1 g2 hx hn hm hyne hxme
            generalize xm + (m + 1) = n1 at *
            generalize xm + (m - 1) = n2 at *
            generalize xm + (m - 1 - y) = n3 at *
            generalize yn + (n + 1) = n4 at *
            generalize yn + (n - 1) = n5 at *
            generalize seenC n m P hs lx ly lz x y = sc at *
            generalize darkB n m P hs lx ly lz x y = dc at *
            go_wp2_with fail
            refine wp_region_bext (by kernel_rfl) (by kernel_rfl) ?_
            repeat (any_goals (go_big_quiet_step (fail)))
            all_goals refine wpQuiet_nil ?_
            all_goals rintro _ ⟨δ, rfl⟩
            have HX7 := Lib.hid (HX2.out.trans (show Ext wr δ.wd from ⟨δ, rfl⟩))
            generalize δ.wd = W7 at *
            go_wp2_with fail
            go_roundw
            case rel => exact ⟨x + 1, by omega, by go_num, HX7.out⟩
            case measure => simp [intOf]; omega
          · obtain rfl : x = n := by omega
            clear hx
            go_wp2_with fail
            go_roundw
            case rel => exact ⟨y + 1, by omega, by go_num, HX2.out⟩
            case measure => simp [intOf]; omega
      · obtain rfl : y = m := by omega
        clear hx
        go_wp2_with fail
        go_ret
        exact ⟨rfl, HX9.out.trans HX.out⟩
end Go.Proofs.Ytlljhimaopnbfaa
