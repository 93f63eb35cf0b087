/- The reference's middles and shadows. Condition: the slice reads as a list. -/
import Derived.Test.YtlljhimaopnbfaaLRf
import Derived.Test.YtlljhimaopnbfaaLSha
namespace Go.Proofs.Ytlljhimaopnbfaa
open Go.RowKit

set_option maxHeartbeats 1000000 in
theorem commonAny_any (a b : Int) (w : World) (ha1 : -4611686018427387904 ≤ a) (ha2 : a ≤ 4611686018427387904) (hb1 : -4611686018427387904 ≤ b) (hb2 : b ≤ 4611686018427387904) :
    Calls Try.prog 99 #[.int .i64 a, .int .i64 b] w fun e w' => e = .returned (.int .i64 (Int.gcd a b : Int)) ∧ Ext w w' := by
  go_enter Try.func99, Try.ntmps99
  go_wp2
  go_loopw [0, 1] (fun u v wr => ∃ x y : Int, u = .int .i64 x ∧ v = .int .i64 y ∧ -4611686018427387904 ≤ x ∧ x ≤ 4611686018427387904 ∧ -4611686018427387904 ≤ y ∧ y ≤ 4611686018427387904 ∧ GcdIs a b x y ∧ Ext w wr) (fun _ v _ => (intOf v).natAbs)
  case atStart => exact ⟨a, b, rfl, rfl, ha1, ha2, hb1, hb2, rfl, Ext.refl _⟩
  case round =>
    obtain ⟨x, y, rfl, rfl, hx1, hx2, hy1, hy2, hg, hw⟩ := hrel
    by_cases hy : y = 0
    · subst hy
      go_wp2
      all_goals go_ret
      all_goals refine ⟨ret_i ?_, hw⟩
      all_goals
        unfold GcdIs at hg
        rw [← hg]
        simp
        omega
    · have hyb : (y != 0) = true := by simpa using hy
      have hm := Int.natAbs_tmod x y
      have hm2 := Nat.mod_lt x.natAbs (show 0 < y.natAbs by omega)
      have hm3 : (x.tmod y).natAbs < y.natAbs := by omega
      have Hm := Lib.hid hm3
      have hm4 : -4611686018427387904 ≤ x.tmod y := by omega
      have hm5 : x.tmod y ≤ 4611686018427387904 := by omega
      have Hg := Lib.hid (show GcdIs a b y (x.tmod y) from (gcd_step x y).trans hg)
      clear hm hm2 hm3 hg
      go_wp2_with fail
      refine wp_region_bext (by kernel_rfl) (by kernel_rfl) ?_
      repeat (any_goals (go_big_quiet_step (fail)))
      all_goals refine wpQuiet_nil ?_
      all_goals rintro _ ⟨δ, rfl⟩
      go_wp2_with fail
      go_roundw
      case rel => exact ⟨y, x.tmod y, rfl, rfl, hy1, hy2, hm4, hm5, Hg.out, by (repeat' (first | with_reducible exact Ext.refl _ | with_reducible apply Ext.alloc | with_reducible apply Ext.drew | with_reducible apply Ext.drewN | with_reducible refine Ext.setCell ?_ ?_ _ | with_reducible apply Ext.step | with_reducible assumption | with_reducible exact Nat.le_refl _ | (simp; done) | (simp; omega)))⟩
      case measure => simpa [intOf] using Hm.out

set_option maxRecDepth 100000 in
set_option maxHeartbeats 4000000 in
theorem refMiddle_any (n m : Nat) (P : Int) (hv : Value) (hs : List Int) (x y : Nat) (w : World) (hS : SurfOk w hv n m P hs) (hx : x < n) (hy : y < m) :
    Calls Try.prog 56 #[surfV ((n : Int) + 1) ((m : Int) + 1) P hv, .int .i64 x, .int .i64 y] w fun e w' => e = .returned (.int .i64 (midC n hs x y)) ∧ Ext w w' := by
  have HH := Lib.hid fun (W : World) (X : Ext w W) => heights_at hS hx hy W X
  obtain ⟨hn, hm, hp⟩ := hS.nm
  obtain ⟨A, L, c, rfl, _⟩ := hS.is.open_
  have b0 : -100 ≤ cor0 n hs x y ∧ cor0 n hs x y ≤ 100 := hS.bd _
  have b1 : -100 ≤ cor1 n hs x y ∧ cor1 n hs x y ≤ 100 := hS.bd _
  have b2 : -100 ≤ cor2 n hs x y ∧ cor2 n hs x y ≤ 100 := hS.bd _
  have b3 : -100 ≤ cor3 n hs x y ∧ cor3 n hs x y ≤ 100 := hS.bd _
  have HM := Lib.hid (show midC n hs x y = cor0 n hs x y + cor1 n hs x y + cor2 n hs x y + cor3 n hs x y from rfl)
  generalize cor0 n hs x y = r0 at *
  generalize cor1 n hs x y = r1 at *
  generalize cor2 n hs x y = r2 at *
  generalize cor3 n hs x y = r3 at *
  have i1 : IntKind.i64.wrap ((x : Int) + 1) = (x : Int) + 1 := IntWalk.i64_in _ (by omega)
  have i2 : IntKind.i64.wrap ((y : Int) + 1) = (y : Int) + 1 := IntWalk.i64_in _ (by omega)
  have i3 : IntKind.i64.wrap (r0 + r1) = r0 + r1 := IntWalk.i64_in _ (by omega)
  have i4 : IntKind.i64.wrap (r0 + r1 + r2) = r0 + r1 + r2 := IntWalk.i64_in _ (by omega)
  have i5 : IntKind.i64.wrap (r0 + r1 + r2 + r3) = r0 + r1 + r2 + r3 := IntWalk.i64_in _ (by omega)
  clear hS
  go_enter Try.func56, Try.ntmps56
  go_wp2_with fail
  try (have hs0 := δ.lt (w.heap.size) (by first | (simp; done) | (simp; omega)))
  refine wp_region_bext (by kernel_rfl) (by kernel_rfl) ?_
  repeat (any_goals (go_big_quiet_step ((first | (go_at_call 100; (with_reducible exact bext_call (HH.out _ (by (repeat' (first | with_reducible exact Ext.refl _ | with_reducible apply Ext.alloc | with_reducible apply Ext.drew | with_reducible apply Ext.drewN | with_reducible refine Ext.setCell ?_ ?_ _ | with_reducible apply Ext.step | with_reducible assumption | with_reducible exact Nat.le_refl _ | (simp; done) | (simp; omega))))).1)) | (go_at_call 100; (with_reducible exact bext_call (HH.out _ (by (repeat' (first | with_reducible exact Ext.refl _ | with_reducible apply Ext.alloc | with_reducible apply Ext.drew | with_reducible apply Ext.drewN | with_reducible refine Ext.setCell ?_ ?_ _ | with_reducible apply Ext.step | with_reducible assumption | with_reducible exact Nat.le_refl _ | (simp; done) | (simp; omega))))).2.1)) | (go_at_call 100; (with_reducible exact bext_call (HH.out _ (by (repeat' (first | with_reducible exact Ext.refl _ | with_reducible apply Ext.alloc | with_reducible apply Ext.drew | with_reducible apply Ext.drewN | with_reducible refine Ext.setCell ?_ ?_ _ | with_reducible apply Ext.step | with_reducible assumption | with_reducible exact Nat.le_refl _ | (simp; done) | (simp; omega))))).2.2.1)) | (go_at_call 100; (with_reducible exact bext_call (HH.out _ (by (repeat' (first | with_reducible exact Ext.refl _ | with_reducible apply Ext.alloc | with_reducible apply Ext.drew | with_reducible apply Ext.drewN | with_reducible refine Ext.setCell ?_ ?_ _ | with_reducible apply Ext.step | with_reducible assumption | with_reducible exact Nat.le_refl _ | (simp; done) | (simp; omega))))).2.2.2))))))
  all_goals refine wpQuiet_nil ?_
  all_goals rintro w' hw'
  all_goals obtain ⟨δ, rfl⟩ : Ext (w.alloc (.cells #[.int .i64 ((n : Int) + 1), .int .i64 ((m : Int) + 1), .int .i64 P, .slice A L c] 37)) w' := Ext.trans (by (repeat' (first | with_reducible exact Ext.refl _ | with_reducible apply Ext.alloc | with_reducible apply Ext.drew | with_reducible apply Ext.drewN | with_reducible refine Ext.setCell ?_ ?_ _ | with_reducible apply Ext.step | with_reducible assumption | with_reducible exact Nat.le_refl _ | (simp; done) | (simp; omega)))) hw'
  all_goals clear hw'
  clear i1 i2 i3 i4 i5
  go_wp2_with fail
  go_ret
  exact ⟨by rw [HM.out]; rfl, by (repeat' (first | with_reducible exact Ext.refl _ | with_reducible apply Ext.alloc | with_reducible apply Ext.drew | with_reducible apply Ext.drewN | with_reducible refine Ext.setCell ?_ ?_ _ | with_reducible apply Ext.step | with_reducible assumption | with_reducible exact Nat.le_refl _ | (simp; done) | (simp; omega)))⟩

set_option maxRecDepth 100000 in
set_option maxHeartbeats 4000000 in
theorem refDark_any (n m : Nat) (P : Int) (hv : Value) (hs : List Int) (lx ly lz : Int) (x y : Nat) (w : World) (hS : SurfOk w hv n m P hs) (hx : x < n) (hy : y < m)
    (hl1 : -30 ≤ lx) (hl2 : lx ≤ 30) (hl3 : -30 ≤ ly) (hl4 : ly ≤ 30) (hl5 : 1 ≤ lz) (hl6 : lz ≤ 30) :
    Calls Try.prog 80 #[surfV ((n : Int) + 1) ((m : Int) + 1) P hv, lightV lx ly lz, .int .i64 x, .int .i64 y] w fun e w' => e = .returned (.bool (darkB n m P hs lx ly lz x y)) ∧ Ext w w' := by
  have HS := Lib.hid hS
  obtain ⟨⟨hn1, hn2⟩, ⟨hm1, hm2⟩, hp1, hp2⟩ := hS.nm
  have HMID := Lib.hid fun (W : World) (Y : Ext w W) (X Z : Nat) (h1 : X < n) (h2 : Z < m) => refMiddle_any n m P hv hs X Z W (hS.ext Y) h1 h2
  obtain ⟨A, L, c, rfl, _⟩ := hS.is.open_
  have HD := Lib.hid fun W : World => (show Calls Try.prog 99 #[.int .i64 lx, .int .i64 ly] W fun e w' => e = .returned (.int .i64 (gL lx ly)) ∧ Ext W w' from commonAny_any lx ly W (by omega) (by omega) (by omega) (by omega))
  have HGL := Lib.hid (gL_le hl1 hl2 hl3 hl4)
  have HMB := Lib.hid fun X Y : Nat => (show -400 ≤ midC n hs X Y ∧ midC n hs X Y ≤ 400 by
    have h0 : -100 ≤ cor0 n hs X Y ∧ cor0 n hs X Y ≤ 100 := hS.bd _
    have h1 : -100 ≤ cor1 n hs X Y ∧ cor1 n hs X Y ≤ 100 := hS.bd _
    have h2 : -100 ≤ cor2 n hs X Y ∧ cor2 n hs X Y ≤ 100 := hS.bd _
    have h3 : -100 ≤ cor3 n hs X Y ∧ cor3 n hs X Y ≤ 100 := hS.bd _
    unfold midC
    omega)
  clear hS
  by_cases hg : gL lx ly = 0
  · obtain ⟨rfl, rfl⟩ := gL_zero.1 hg
    have HR := Lib.hid (show darkB n m P hs 0 0 lz x y = false from dark_flat hg)
    clear hg HD HGL
    go_enter Try.func80, Try.ntmps80
    go_wp2_with fail
    go_ret
    exact ⟨by rw [HR.out]; rfl, by (repeat' (first | with_reducible exact Ext.refl _ | with_reducible apply Ext.alloc | with_reducible apply Ext.drew | with_reducible apply Ext.drewN | with_reducible refine Ext.setCell ?_ ?_ _ | with_reducible apply Ext.step | with_reducible assumption | with_reducible exact Nat.le_refl _ | (simp; done) | (simp; omega)))⟩
  have hor : ¬ (lx = 0 ∧ ly = 0) := fun h => hg (gL_zero.2 h)
  have HDX := Lib.hid (gL_x lx ly)
  have HDY := Lib.hid (gL_y lx ly)
  have HQX := Lib.hid fun k : Int => ray_divx hg k
  have HQY := Lib.hid fun k : Int => ray_divy hg k
  have hg1 : 1 ≤ gL lx ly := by have := gL_nonneg lx ly; omega
  have hg2 := HGL.out
  obtain ⟨dx1, dx2⟩ := quo_bd hg1 HDX.out hl1 hl2
  obtain ⟨dy1, dy2⟩ := quo_bd hg1 HDY.out hl3 hl4
  have HRX := Lib.hid fun k : Nat => (show rayX lx ly x k = (x : Int) + (k : Int) * (lx / gL lx ly) from rfl)
  have HRY := Lib.hid fun k : Nat => (show rayY lx ly y k = (y : Int) + (k : Int) * (ly / gL lx ly) from rfl)
  have HHI := Lib.hid fun (k X Y : Nat) (hX : rayX lx ly x k = X) (hY : rayY lx ly y k = Y) (hi : inC n m X Y = true) => (show hitB n m P hs lx ly lz x y k = decide (4 * (k : Int) * P * lz < gL lx ly * (midC n hs X Y - midC n hs x y)) by
    rw [hitB, hX, hY, hi, Bool.true_and, Int.toNat_natCast, Int.toNat_natCast])
  have hbo := HMB.out x y
  have HMO := Lib.hid fun (W : World) (Y : Ext w W) => HMID.out W Y x y hx hy
  obtain ⟨m0, hm0⟩ : ∃ z, z = midC n hs x y := ⟨_, rfl⟩
  rw [← hm0] at hbo HHI HMO
  have hg0 : ((gL lx ly : Int) == 0) = false := by simpa using hg
  have HYES := Lib.hid fun k : Nat => @dark_yes n m P hs lx ly lz x y k hg
  have HALL := Lib.hid fun (h : ∀ j, 1 ≤ j → j < 24 → hitB n m P hs lx ly lz x y j = false) => dark_no (lz := lz) (p := P) (hs := hs) hx hy h (out_24 hx hy hn2 hm2 hg)
  generalize gL lx ly = g at *
  generalize lx / g = dx at *
  generalize ly / g = dy at *
  clear hm0 hg
  have HOR := Lib.hid hor
  have HLOOP : ∀ (a : Nat), True := fun _ => trivial
  clear HLOOP hor
  cases hlx : (lx == 0)
  all_goals cases hly : (ly == 0)
  all_goals try (exact absurd ⟨by simpa using hlx, by simpa using hly⟩ HOR.out)
  all_goals
    go_enter Try.func80, Try.ntmps80
    go_wp2_with fail
    refine (HD.out _).mono ?_
    rintro e _ ⟨rfl, hx⟩
    obtain ⟨δ, rfl⟩ : Ext ((w.alloc (.cells #[.int .i64 ((n : Int) + 1), .int .i64 ((m : Int) + 1), .int .i64 P, .slice A L c] 37)).alloc (.cells #[.int .i64 lx, .int .i64 ly, .int .i64 lz] 25)) _ := Ext.trans (by (repeat' (first | with_reducible exact Ext.refl _ | with_reducible apply Ext.alloc | with_reducible apply Ext.drew | with_reducible apply Ext.drewN | with_reducible refine Ext.setCell ?_ ?_ _ | with_reducible apply Ext.step | with_reducible assumption | with_reducible exact Nat.le_refl _ | (simp; done) | (simp; omega)))) hx
    clear hx
    try (have hs0 := δ.lt (w.heap.size) (by first | (simp; done) | (simp; omega)))
    try (have hs1 := δ.lt (w.heap.size + 1) (by first | (simp; done) | (simp; omega)))
    go_wp2_with fail
    refine lay_wp (fun W => Ext w W ∧ W.cell? ⟨w.heap.size, 0, none⟩ = some (.int .i64 ((n : Int) + 1)) ∧ W.cell? ⟨w.heap.size, 1, none⟩ = some (.int .i64 ((m : Int) + 1)) ∧ W.cell? ⟨w.heap.size, 2, none⟩ = some (.int .i64 P) ∧ W.cell? ⟨w.heap.size, 3, none⟩ = some (.slice A L c) ∧
      W.cell? ⟨w.heap.size + 1, 0, none⟩ = some (.int .i64 lx) ∧ W.cell? ⟨w.heap.size + 1, 1, none⟩ = some (.int .i64 ly) ∧ W.cell? ⟨w.heap.size + 1, 2, none⟩ = some (.int .i64 lz)) ⟨by (repeat' (first | with_reducible exact Ext.refl _ | with_reducible apply Ext.alloc | with_reducible apply Ext.drew | with_reducible apply Ext.drewN | with_reducible refine Ext.setCell ?_ ?_ _ | with_reducible apply Ext.step | with_reducible assumption | with_reducible exact Nat.le_refl _ | (simp; done) | (simp; omega))), by go_cell, by go_cell, by go_cell, by go_cell, by go_cell, by go_cell, by go_cell⟩ ?_
    rintro W0 ⟨X0, c0, c1, c2, c3, b0, b1, b2⟩
    have HX0 := Lib.hid X0
    clear X0 hlx hly
    go_loopw [10, 11, 12] (fun kv _ _ wr => ∃ k : Nat, 1 ≤ k ∧ k ≤ 24 ∧ kv = .int .i64 k ∧ Hid (∀ j, 1 ≤ j → j < k → hitB n m P hs lx ly lz x y j = false) ∧ Ext W0 wr) (fun kv _ _ _ => 25 - (intOf kv).toNat)
    case atStart => exact ⟨1, by omega, by omega, rfl, (fun j h1 h2 => by omega), Ext.refl _⟩
    case round =>
      obtain ⟨k, hk1, hk2, rfl, Hh, hx0⟩ := hrel
      by_cases hk3 : k < 24
      rotate_left
      · obtain rfl : k = 24 := by omega
        have HR := Lib.hid (HALL.out Hh.out)
        have HXR := Lib.hid hx0
        clear hx0
        go_wp2_with fail
        go_ret
        exact ⟨ret_b HR.out.symm, HX0.out.trans HXR.out⟩
      have HXR := Lib.hid hx0
      have d0 := hx0.cell_some c0
      have d1 := hx0.cell_some c1
      have d2 := hx0.cell_some c2
      have d3 := hx0.cell_some c3
      have e0 := hx0.cell_some b0
      have e1 := hx0.cell_some b1
      have e2 := hx0.cell_some b2
      have l0 := cell_lt d0
      have l1 := cell_lt e0
      clear hx0
      obtain ⟨u1, u2⟩ := abs_mul_bd (a := (k : Int)) (A := 24) (b := lx) (B := 30) (by omega) (by omega) hl1 hl2
      obtain ⟨u3, u4⟩ := abs_mul_bd (a := (k : Int)) (A := 24) (b := ly) (B := 30) (by omega) (by omega) hl3 hl4
      obtain ⟨u5, u6⟩ := abs_mul_bd (a := (k : Int)) (A := 24) (b := dx) (B := 30) (by omega) (by omega) dx1 dx2
      obtain ⟨u7, u8⟩ := abs_mul_bd (a := (k : Int)) (A := 24) (b := dy) (B := 30) (by omega) (by omega) dy1 dy2
      have HRXk := Lib.hid (HRX.out k)
      have HRYk := Lib.hid (HRY.out k)
      have q1 := HQX.out k
      have q2 := HQY.out k
      obtain ⟨kx, hkx⟩ : ∃ z, z = (k : Int) * dx := ⟨_, rfl⟩
      obtain ⟨ky, hky⟩ : ∃ z, z = (k : Int) * dy := ⟨_, rfl⟩
      rw [← hkx] at q1 u5 u6 HRXk
      rw [← hky] at q2 u7 u8 HRYk
      clear hkx hky
      have w1 : IntKind.i64.wrap ((k : Int) * lx) = (k : Int) * lx := IntWalk.i64_in _ (by omega)
      have w2 : IntKind.i64.wrap ((k : Int) * ly) = (k : Int) * ly := IntWalk.i64_in _ (by omega)
      have w3 : IntKind.i64.wrap kx = kx := IntWalk.i64_in _ (by omega)
      have w4 : IntKind.i64.wrap ky = ky := IntWalk.i64_in _ (by omega)
      have w5 : IntKind.i64.wrap ((x : Int) + kx) = (x : Int) + kx := IntWalk.i64_in _ (by omega)
      have w6 : IntKind.i64.wrap ((y : Int) + ky) = (y : Int) + ky := IntWalk.i64_in _ (by omega)
      have hdk : decide ((k : Int) < 24) = true := by simp; omega
      go_wp2_with fail
      refine wp_region_bext (by kernel_rfl) (by kernel_rfl) ?_
      repeat (any_goals (go_big_quiet_step (fail)))
      all_goals refine wpQuiet_nil ?_
      all_goals rintro _ ⟨δ, rfl⟩
      clear q1 q2 w1 w2 w3 w4 w5 w6 hdk
      obtain ⟨X, hX⟩ : ∃ X, X = (x : Int) + kx := ⟨_, rfl⟩
      obtain ⟨Y, hY⟩ : ∃ Y, Y = (y : Int) + ky := ⟨_, rfl⟩
      rw [← hX, ← hY]
      have HEX := Lib.hid (HRXk.out.trans hX.symm)
      have HEY := Lib.hid (HRYk.out.trans hY.symm)
      have hXb : -1000 ≤ X ∧ X ≤ 1000 := by omega
      have hYb : -1000 ≤ Y ∧ Y ≤ 1000 := by omega
      clear hX hY u1 u2 u3 u4 u5 u6 u7 u8 HRXk HRYk
      have HIC := Lib.hid (show inC n m X Y = (inB 0 ((n : Int) + 1 - 2) X && inB 0 ((m : Int) + 1 - 2) Y) by
        rw [inC, show (n : Int) + 1 - 2 = (n : Int) - 1 by omega, show (m : Int) + 1 - 2 = (m : Int) - 1 by omega])
      have HNEXT := Lib.hid fun (h : hitB n m P hs lx ly lz x y k = false) => (show ∀ j, 1 ≤ j → j < k + 1 → hitB n m P hs lx ly lz x y j = false from fun j h1 h2 => by
        rcases (by omega : j < k ∨ j = k) with h' | rfl
        · exact Hh.out j h1 h'
        · exact h)
      have HOUT := Lib.hid fun (h : inC n m X Y = false) => HNEXT.out (hit_in (by rw [HEX.out, HEY.out]; exact h))
      cases h1 : inB 0 ((n : Int) + 1 - 2) X
      · have HW1 := Lib.hid fun W : World => (show Calls Try.prog 67 #[.int .i64 X, .int .i64 0, .int .i64 ((n : Int) + 1 - 2)] W fun e w' => e = .returned (.bool false) ∧ W = w' by
          have := within_any X 0 ((n : Int) + 1 - 2) W
          rwa [h1] at this)
        have HN := Lib.hid (HOUT.out (by rw [HIC.out, h1]; rfl))
        clear h1
        go_wp2_with fail
        refine (HW1.out _).mono ?_
        rintro e _ ⟨rfl, rfl⟩
        go_wp2_with fail
        go_roundw
        case rel => exact ⟨k + 1, by omega, by omega, by go_num, HN, HXR.out.step _⟩
        case measure => simp [intOf]; omega
      · have HW1 := Lib.hid fun W : World => (show Calls Try.prog 67 #[.int .i64 X, .int .i64 0, .int .i64 ((n : Int) + 1 - 2)] W fun e w' => e = .returned (.bool true) ∧ W = w' by
          have := within_any X 0 ((n : Int) + 1 - 2) W
          rwa [h1] at this)
        cases h2 : inB 0 ((m : Int) + 1 - 2) Y
        · have HW2 := Lib.hid fun W : World => (show Calls Try.prog 67 #[.int .i64 Y, .int .i64 0, .int .i64 ((m : Int) + 1 - 2)] W fun e w' => e = .returned (.bool false) ∧ W = w' by
            have := within_any Y 0 ((m : Int) + 1 - 2) W
            rwa [h2] at this)
          have HN := Lib.hid (HOUT.out (by rw [HIC.out, h1, h2]; rfl))
          clear h1 h2
          go_wp2_with fail
          refine (HW1.out _).mono ?_
          rintro e _ ⟨rfl, rfl⟩
          go_wp2_with fail
          refine (HW2.out _).mono ?_
          rintro e _ ⟨rfl, rfl⟩
          go_wp2_with fail
          go_roundw
          case rel => exact ⟨k + 1, by omega, by omega, by go_num, HN, HXR.out.step _⟩
          case measure => simp [intOf]; omega
        · have HW2 := Lib.hid fun W : World => (show Calls Try.prog 67 #[.int .i64 Y, .int .i64 0, .int .i64 ((m : Int) + 1 - 2)] W fun e w' => e = .returned (.bool true) ∧ W = w' by
            have := within_any Y 0 ((m : Int) + 1 - 2) W
            rwa [h2] at this)
          have hin : inC n m X Y = true := by rw [HIC.out, h1, h2]; rfl
          obtain ⟨⟨i1, i2⟩, i3, i4⟩ := inC_iff.1 hin
          clear h1 h2
          obtain ⟨Xn, rfl⟩ : ∃ q : Nat, X = q := ⟨X.toNat, by omega⟩
          obtain ⟨Yn, rfl⟩ : ∃ q : Nat, Y = q := ⟨Y.toNat, by omega⟩
          have HHIk := Lib.hid (HHI.out k Xn Yn HEX.out HEY.out hin)
          have HM1 := Lib.hid fun (W : World) (Z : Ext w W) => HMID.out W Z Xn Yn (by omega) (by omega)
          have hbm1 := HMB.out Xn Yn
          generalize midC n hs Xn Yn = m1 at *
          clear hin i1 i2 i3 i4
          obtain ⟨v1, v2⟩ := abs_mul_bd (a := g) (A := 30) (b := m1 - m0) (B := 800) (by omega) hg2 (by omega) (by omega)
          obtain ⟨v3, v4⟩ := mul_bd (a := 4 * (k : Int)) (A := 96) (b := P) (B := 100) (by omega) (by omega) (by omega) hp2
          obtain ⟨v5, v6⟩ := mul_bd (a := 4 * (k : Int) * P) (A := 9600) (b := lz) (B := 30) v3 v4 (by omega) hl6
          go_wp2_with fail
          refine (HW1.out _).mono ?_
          rintro e _ ⟨rfl, rfl⟩
          go_wp2_with fail
          refine (HW2.out _).mono ?_
          rintro e _ ⟨rfl, rfl⟩
          go_wp2_with fail
          have s1 : IntKind.i64.wrap (m1 - m0) = m1 - m0 := IntWalk.i64_in _ (by omega)
          have s2 : IntKind.i64.wrap (g * (m1 - m0)) = g * (m1 - m0) := IntWalk.i64_in _ (by omega)
          have s3 : IntKind.i64.wrap (4 * (k : Int)) = 4 * (k : Int) := IntWalk.i64_in _ (by omega)
          have s4 : IntKind.i64.wrap (4 * (k : Int) * P) = 4 * (k : Int) * P := IntWalk.i64_in _ (by omega)
          have s5 : IntKind.i64.wrap (4 * (k : Int) * P * lz) = 4 * (k : Int) * P * lz := IntWalk.i64_in _ (by omega)
          have HC1 := Lib.hid fun (δ' : BExt δ.wd) => HM1.out δ'.wd (((HX0.out.trans HXR.out).step δ).step δ')
          have HC2 := Lib.hid fun (δ' : BExt δ.wd) => HMO.out δ'.wd (((HX0.out.trans HXR.out).step δ).step δ')
          cases hd : decide (4 * (k : Int) * P * lz < g * (m1 - m0))
          · have HN := Lib.hid (HNEXT.out (by rw [HHIk.out, hd]))
            refine wp_region_bext (by kernel_rfl) (by kernel_rfl) ?_
            repeat (any_goals (go_big_quiet_step ((first | (go_at_call 56; (with_reducible exact bext_call (HC1.out _))) | (go_at_call 56; (with_reducible exact bext_call (HC2.out _)))))))
            all_goals refine wpQuiet_nil ?_
            all_goals rintro _ ⟨δ, rfl⟩
            clear s1 s2 s3 s4 s5
            go_wp2_with fail
            go_roundw
            case rel => exact ⟨k + 1, by omega, by omega, by go_num, HN, (HXR.out.step _).step _⟩
            case measure => simp [intOf]; omega
          · have HY1 := Lib.hid (HYES.out k hk1 hk3 (by rw [HHIk.out, hd]))
            refine wp_region_bext (by kernel_rfl) (by kernel_rfl) ?_
            repeat (any_goals (go_big_quiet_step ((first | (go_at_call 56; (with_reducible exact bext_call (HC1.out _))) | (go_at_call 56; (with_reducible exact bext_call (HC2.out _)))))))
            all_goals refine wpQuiet_nil ?_
            all_goals rintro _ ⟨δ, rfl⟩
            clear s1 s2 s3 s4 s5
            go_wp2_with fail
            go_ret
            exact ⟨ret_b HY1.out.symm, ((HX0.out.trans HXR.out).step _).step _⟩
end Go.Proofs.Ytlljhimaopnbfaa
