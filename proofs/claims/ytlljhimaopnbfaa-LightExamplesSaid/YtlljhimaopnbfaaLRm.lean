/- The reference's pictures. Condition: the slice reads as a list. -/
import Derived.Test.YtlljhimaopnbfaaLRf
import Derived.Test.YtlljhimaopnbfaaLShw
import Derived.Test.YtlljhimaopnbfaaLSame
import Derived.Test.YtlljhimaopnbfaaQS
import Derived.Test.YtlljhimaopnbfaaLLev
namespace Go.Proofs.Ytlljhimaopnbfaa
section
/- LRd: The reference's middles and shadows. Condition: the slice reads as a list. -/
open Go.RowKit

set_option maxHeartbeats 1000000 in
theorem commonAny_any (a b : Int) (w : World) (ha1 : -4611686018427387904 ≤ a) (ha2 : a ≤ 4611686018427387904) (hb1 : -4611686018427387904 ≤ b) (hb2 : b ≤ 4611686018427387904) :
    Calls Try.prog 99 #[.int .i64 a, .int .i64 b] w fun e w' => e = .returned (.int .i64 (Int.gcd a b : Int)) ∧ Ext w w' := by
  go_enter Try.func99, Try.ntmps99
  go_wp2
  go_loopw [0, 1] (fun u v wr => ∃ x y : Int, u = .int .i64 x ∧ v = .int .i64 y ∧ -4611686018427387904 ≤ x ∧ x ≤ 4611686018427387904 ∧ -4611686018427387904 ≤ y ∧ y ≤ 4611686018427387904 ∧ GcdIs a b x y ∧ Ext w wr) (fun _ v _ => (intOf v).natAbs)
  case atStart => exact ⟨a, b, rfl, rfl, ha1, ha2, hb1, hb2, rfl, Ext.refl _⟩
  case round =>
    obtain ⟨x, y, rfl, rfl, hx1, hx2, hy1, hy2, hg, hw⟩ := hrel
    by_cases hy : y = 0
    · subst hy
      go_wp2
      all_goals go_ret
      all_goals refine ⟨ret_i ?_, hw⟩
      all_goals
        unfold GcdIs at hg
        rw [← hg]
        simp
        omega
    · have hyb : (y != 0) = true := by simpa using hy
      have hm := Int.natAbs_tmod x y
      have hm2 := Nat.mod_lt x.natAbs (show 0 < y.natAbs by omega)
      have hm3 : (x.tmod y).natAbs < y.natAbs := by omega
      have Hm := Lib.hid hm3
      have hm4 : -4611686018427387904 ≤ x.tmod y := by omega
      have hm5 : x.tmod y ≤ 4611686018427387904 := by omega
      have Hg := Lib.hid (show GcdIs a b y (x.tmod y) from (gcd_step x y).trans hg)
      clear hm hm2 hm3 hg
      go_wp2_with fail
      refine wp_region_bext (by kernel_rfl) (by kernel_rfl) ?_
      repeat (any_goals (go_big_quiet_step (fail)))
      all_goals refine wpQuiet_nil ?_
      all_goals rintro _ ⟨δ, rfl⟩
      go_wp2_with fail
      go_roundw
      case rel => exact ⟨y, x.tmod y, rfl, rfl, hy1, hy2, hm4, hm5, Hg.out, by (repeat' (first | with_reducible exact Ext.refl _ | with_reducible apply Ext.alloc | with_reducible apply Ext.drew | with_reducible apply Ext.drewN | with_reducible refine Ext.setCell ?_ ?_ _ | with_reducible apply Ext.step | with_reducible assumption | with_reducible exact Nat.le_refl _ | (simp; done) | (simp; omega)))⟩
      case measure => simpa [intOf] using Hm.out

set_option maxRecDepth 100000 in
set_option maxHeartbeats 4000000 in
theorem refMiddle_any (n m : Nat) (P : Int) (hv : Value) (hs : List Int) (x y : Nat) (w : World) (hS : SurfOk w hv n m P hs) (hx : x < n) (hy : y < m) :
    Calls Try.prog 56 #[surfV ((n : Int) + 1) ((m : Int) + 1) P hv, .int .i64 x, .int .i64 y] w fun e w' => e = .returned (.int .i64 (midC n hs x y)) ∧ Ext w w' := by
  have HH := Lib.hid fun (W : World) (X : Ext w W) => heights_at hS hx hy W X
  obtain ⟨hn, hm, hp⟩ := hS.nm
  obtain ⟨A, L, c, rfl, _⟩ := hS.is.open_
  have b0 : -100 ≤ cor0 n hs x y ∧ cor0 n hs x y ≤ 100 := hS.bd _
  have b1 : -100 ≤ cor1 n hs x y ∧ cor1 n hs x y ≤ 100 := hS.bd _
  have b2 : -100 ≤ cor2 n hs x y ∧ cor2 n hs x y ≤ 100 := hS.bd _
  have b3 : -100 ≤ cor3 n hs x y ∧ cor3 n hs x y ≤ 100 := hS.bd _
  have HM := Lib.hid (show midC n hs x y = cor0 n hs x y + cor1 n hs x y + cor2 n hs x y + cor3 n hs x y from rfl)
  generalize cor0 n hs x y = r0 at *
  generalize cor1 n hs x y = r1 at *
  generalize cor2 n hs x y = r2 at *
  generalize cor3 n hs x y = r3 at *
  have i1 : IntKind.i64.wrap ((x : Int) + 1) = (x : Int) + 1 := IntWalk.i64_in _ (by omega)
  have i2 : IntKind.i64.wrap ((y : Int) + 1) = (y : Int) + 1 := IntWalk.i64_in _ (by omega)
  have i3 : IntKind.i64.wrap (r0 + r1) = r0 + r1 := IntWalk.i64_in _ (by omega)
  have i4 : IntKind.i64.wrap (r0 + r1 + r2) = r0 + r1 + r2 := IntWalk.i64_in _ (by omega)
  have i5 : IntKind.i64.wrap (r0 + r1 + r2 + r3) = r0 + r1 + r2 + r3 := IntWalk.i64_in _ (by omega)
  clear hS
  go_enter Try.func56, Try.ntmps56
  go_wp2_with fail
  try (have hs0 := δ.lt (w.heap.size) (by first | (simp; done) | (simp; omega)))
  refine wp_region_bext (by kernel_rfl) (by kernel_rfl) ?_
  repeat (any_goals (go_big_quiet_step ((first | (go_at_call 100; (with_reducible exact bext_call (HH.out _ (by (repeat' (first | with_reducible exact Ext.refl _ | with_reducible apply Ext.alloc | with_reducible apply Ext.drew | with_reducible apply Ext.drewN | with_reducible refine Ext.setCell ?_ ?_ _ | with_reducible apply Ext.step | with_reducible assumption | with_reducible exact Nat.le_refl _ | (simp; done) | (simp; omega))))).1)) | (go_at_call 100; (with_reducible exact bext_call (HH.out _ (by (repeat' (first | with_reducible exact Ext.refl _ | with_reducible apply Ext.alloc | with_reducible apply Ext.drew | with_reducible apply Ext.drewN | with_reducible refine Ext.setCell ?_ ?_ _ | with_reducible apply Ext.step | with_reducible assumption | with_reducible exact Nat.le_refl _ | (simp; done) | (simp; omega))))).2.1)) | (go_at_call 100; (with_reducible exact bext_call (HH.out _ (by (repeat' (first | with_reducible exact Ext.refl _ | with_reducible apply Ext.alloc | with_reducible apply Ext.drew | with_reducible apply Ext.drewN | with_reducible refine Ext.setCell ?_ ?_ _ | with_reducible apply Ext.step | with_reducible assumption | with_reducible exact Nat.le_refl _ | (simp; done) | (simp; omega))))).2.2.1)) | (go_at_call 100; (with_reducible exact bext_call (HH.out _ (by (repeat' (first | with_reducible exact Ext.refl _ | with_reducible apply Ext.alloc | with_reducible apply Ext.drew | with_reducible apply Ext.drewN | with_reducible refine Ext.setCell ?_ ?_ _ | with_reducible apply Ext.step | with_reducible assumption | with_reducible exact Nat.le_refl _ | (simp; done) | (simp; omega))))).2.2.2))))))
  all_goals refine wpQuiet_nil ?_
  all_goals rintro w' hw'
  all_goals obtain ⟨δ, rfl⟩ : Ext (w.alloc (.cells #[.int .i64 ((n : Int) + 1), .int .i64 ((m : Int) + 1), .int .i64 P, .slice A L c] 37)) w' := Ext.trans (by (repeat' (first | with_reducible exact Ext.refl _ | with_reducible apply Ext.alloc | with_reducible apply Ext.drew | with_reducible apply Ext.drewN | with_reducible refine Ext.setCell ?_ ?_ _ | with_reducible apply Ext.step | with_reducible assumption | with_reducible exact Nat.le_refl _ | (simp; done) | (simp; omega)))) hw'
  all_goals clear hw'
  clear i1 i2 i3 i4 i5
  go_wp2_with fail
  go_ret
  exact ⟨by rw [HM.out]; rfl, by (repeat' (first | with_reducible exact Ext.refl _ | with_reducible apply Ext.alloc | with_reducible apply Ext.drew | with_reducible apply Ext.drewN | with_reducible refine Ext.setCell ?_ ?_ _ | with_reducible apply Ext.step | with_reducible assumption | with_reducible exact Nat.le_refl _ | (simp; done) | (simp; omega)))⟩

set_option maxRecDepth 100000 in
set_option maxHeartbeats 4000000 in
theorem refDark_any (n m : Nat) (P : Int) (hv : Value) (hs : List Int) (lx ly lz : Int) (x y : Nat) (w : World) (hS : SurfOk w hv n m P hs) (hx : x < n) (hy : y < m)
    (hl1 : -30 ≤ lx) (hl2 : lx ≤ 30) (hl3 : -30 ≤ ly) (hl4 : ly ≤ 30) (hl5 : 1 ≤ lz) (hl6 : lz ≤ 30) :
    Calls Try.prog 80 #[surfV ((n : Int) + 1) ((m : Int) + 1) P hv, lightV lx ly lz, .int .i64 x, .int .i64 y] w fun e w' => e = .returned (.bool (darkB n m P hs lx ly lz x y)) ∧ Ext w w' := by
  have HS := Lib.hid hS
  obtain ⟨⟨hn1, hn2⟩, ⟨hm1, hm2⟩, hp1, hp2⟩ := hS.nm
  have HMID := Lib.hid fun (W : World) (Y : Ext w W) (X Z : Nat) (h1 : X < n) (h2 : Z < m) => refMiddle_any n m P hv hs X Z W (hS.ext Y) h1 h2
  obtain ⟨A, L, c, rfl, _⟩ := hS.is.open_
  have HD := Lib.hid fun W : World => (show Calls Try.prog 99 #[.int .i64 lx, .int .i64 ly] W fun e w' => e = .returned (.int .i64 (gL lx ly)) ∧ Ext W w' from commonAny_any lx ly W (by omega) (by omega) (by omega) (by omega))
  have HGL := Lib.hid (gL_le hl1 hl2 hl3 hl4)
  have HMB := Lib.hid fun X Y : Nat => (show -400 ≤ midC n hs X Y ∧ midC n hs X Y ≤ 400 by
    have h0 : -100 ≤ cor0 n hs X Y ∧ cor0 n hs X Y ≤ 100 := hS.bd _
    have h1 : -100 ≤ cor1 n hs X Y ∧ cor1 n hs X Y ≤ 100 := hS.bd _
    have h2 : -100 ≤ cor2 n hs X Y ∧ cor2 n hs X Y ≤ 100 := hS.bd _
    have h3 : -100 ≤ cor3 n hs X Y ∧ cor3 n hs X Y ≤ 100 := hS.bd _
    unfold midC
    omega)
  clear hS
  by_cases hg : gL lx ly = 0
  · obtain ⟨rfl, rfl⟩ := gL_zero.1 hg
    have HR := Lib.hid (show darkB n m P hs 0 0 lz x y = false from dark_flat hg)
    clear hg HD HGL
    go_enter Try.func80, Try.ntmps80
    go_wp2_with fail
    go_ret
    exact ⟨by rw [HR.out]; rfl, by (repeat' (first | with_reducible exact Ext.refl _ | with_reducible apply Ext.alloc | with_reducible apply Ext.drew | with_reducible apply Ext.drewN | with_reducible refine Ext.setCell ?_ ?_ _ | with_reducible apply Ext.step | with_reducible assumption | with_reducible exact Nat.le_refl _ | (simp; done) | (simp; omega)))⟩
  have hor : ¬ (lx = 0 ∧ ly = 0) := fun h => hg (gL_zero.2 h)
  have HDX := Lib.hid (gL_x lx ly)
  have HDY := Lib.hid (gL_y lx ly)
  have HQX := Lib.hid fun k : Int => ray_divx hg k
  have HQY := Lib.hid fun k : Int => ray_divy hg k
  have hg1 : 1 ≤ gL lx ly := by have := gL_nonneg lx ly; omega
  have hg2 := HGL.out
  obtain ⟨dx1, dx2⟩ := quo_bd hg1 HDX.out hl1 hl2
  obtain ⟨dy1, dy2⟩ := quo_bd hg1 HDY.out hl3 hl4
  have HRX := Lib.hid fun k : Nat => (show rayX lx ly x k = (x : Int) + (k : Int) * (lx / gL lx ly) from rfl)
  have HRY := Lib.hid fun k : Nat => (show rayY lx ly y k = (y : Int) + (k : Int) * (ly / gL lx ly) from rfl)
  have HHI := Lib.hid fun (k X Y : Nat) (hX : rayX lx ly x k = X) (hY : rayY lx ly y k = Y) (hi : inC n m X Y = true) => (show hitB n m P hs lx ly lz x y k = decide (4 * (k : Int) * P * lz < gL lx ly * (midC n hs X Y - midC n hs x y)) by
    rw [hitB, hX, hY, hi, Bool.true_and, Int.toNat_natCast, Int.toNat_natCast])
  have hbo := HMB.out x y
  have HMO := Lib.hid fun (W : World) (Y : Ext w W) => HMID.out W Y x y hx hy
  obtain ⟨m0, hm0⟩ : ∃ z, z = midC n hs x y := ⟨_, rfl⟩
  rw [← hm0] at hbo HHI HMO
  have hg0 : ((gL lx ly : Int) == 0) = false := by simpa using hg
  have HYES := Lib.hid fun k : Nat => @dark_yes n m P hs lx ly lz x y k hg
  have HALL := Lib.hid fun (h : ∀ j, 1 ≤ j → j < 24 → hitB n m P hs lx ly lz x y j = false) => dark_no (lz := lz) (p := P) (hs := hs) hx hy h (out_24 hx hy hn2 hm2 hg)
  generalize gL lx ly = g at *
  generalize lx / g = dx at *
  generalize ly / g = dy at *
  clear hm0 hg
  have HOR := Lib.hid hor
  have HLOOP : ∀ (a : Nat), True := fun _ => trivial
  clear HLOOP hor
  cases hlx : (lx == 0)
  all_goals cases hly : (ly == 0)
  all_goals try (exact absurd ⟨by simpa using hlx, by simpa using hly⟩ HOR.out)
  all_goals
    go_enter Try.func80, Try.ntmps80
    go_wp2_with fail
    refine (HD.out _).mono ?_
    rintro e _ ⟨rfl, hx⟩
    obtain ⟨δ, rfl⟩ : Ext ((w.alloc (.cells #[.int .i64 ((n : Int) + 1), .int .i64 ((m : Int) + 1), .int .i64 P, .slice A L c] 37)).alloc (.cells #[.int .i64 lx, .int .i64 ly, .int .i64 lz] 25)) _ := Ext.trans (by (repeat' (first | with_reducible exact Ext.refl _ | with_reducible apply Ext.alloc | with_reducible apply Ext.drew | with_reducible apply Ext.drewN | with_reducible refine Ext.setCell ?_ ?_ _ | with_reducible apply Ext.step | with_reducible assumption | with_reducible exact Nat.le_refl _ | (simp; done) | (simp; omega)))) hx
    clear hx
    try (have hs0 := δ.lt (w.heap.size) (by first | (simp; done) | (simp; omega)))
    try (have hs1 := δ.lt (w.heap.size + 1) (by first | (simp; done) | (simp; omega)))
    go_wp2_with fail
    refine lay_wp (fun W => Ext w W ∧ W.cell? ⟨w.heap.size, 0, none⟩ = some (.int .i64 ((n : Int) + 1)) ∧ W.cell? ⟨w.heap.size, 1, none⟩ = some (.int .i64 ((m : Int) + 1)) ∧ W.cell? ⟨w.heap.size, 2, none⟩ = some (.int .i64 P) ∧ W.cell? ⟨w.heap.size, 3, none⟩ = some (.slice A L c) ∧
      W.cell? ⟨w.heap.size + 1, 0, none⟩ = some (.int .i64 lx) ∧ W.cell? ⟨w.heap.size + 1, 1, none⟩ = some (.int .i64 ly) ∧ W.cell? ⟨w.heap.size + 1, 2, none⟩ = some (.int .i64 lz)) ⟨by (repeat' (first | with_reducible exact Ext.refl _ | with_reducible apply Ext.alloc | with_reducible apply Ext.drew | with_reducible apply Ext.drewN | with_reducible refine Ext.setCell ?_ ?_ _ | with_reducible apply Ext.step | with_reducible assumption | with_reducible exact Nat.le_refl _ | (simp; done) | (simp; omega))), by go_cell, by go_cell, by go_cell, by go_cell, by go_cell, by go_cell, by go_cell⟩ ?_
    rintro W0 ⟨X0, c0, c1, c2, c3, b0, b1, b2⟩
    have HX0 := Lib.hid X0
    clear X0 hlx hly
    go_loopw [10, 11, 12] (fun kv _ _ wr => ∃ k : Nat, 1 ≤ k ∧ k ≤ 24 ∧ kv = .int .i64 k ∧ Hid (∀ j, 1 ≤ j → j < k → hitB n m P hs lx ly lz x y j = false) ∧ Ext W0 wr) (fun kv _ _ _ => 25 - (intOf kv).toNat)
    case atStart => exact ⟨1, by omega, by omega, rfl, (fun j h1 h2 => by omega), Ext.refl _⟩
    case round =>
      obtain ⟨k, hk1, hk2, rfl, Hh, hx0⟩ := hrel
      by_cases hk3 : k < 24
      rotate_left
      · obtain rfl : k = 24 := by omega
        have HR := Lib.hid (HALL.out Hh.out)
        have HXR := Lib.hid hx0
        clear hx0
        go_wp2_with fail
        go_ret
        exact ⟨ret_b HR.out.symm, HX0.out.trans HXR.out⟩
      have HXR := Lib.hid hx0
      have d0 := hx0.cell_some c0
      have d1 := hx0.cell_some c1
      have d2 := hx0.cell_some c2
      have d3 := hx0.cell_some c3
      have e0 := hx0.cell_some b0
      have e1 := hx0.cell_some b1
      have e2 := hx0.cell_some b2
      have l0 := cell_lt d0
      have l1 := cell_lt e0
      clear hx0
      obtain ⟨u1, u2⟩ := abs_mul_bd (a := (k : Int)) (A := 24) (b := lx) (B := 30) (by omega) (by omega) hl1 hl2
      obtain ⟨u3, u4⟩ := abs_mul_bd (a := (k : Int)) (A := 24) (b := ly) (B := 30) (by omega) (by omega) hl3 hl4
      obtain ⟨u5, u6⟩ := abs_mul_bd (a := (k : Int)) (A := 24) (b := dx) (B := 30) (by omega) (by omega) dx1 dx2
      obtain ⟨u7, u8⟩ := abs_mul_bd (a := (k : Int)) (A := 24) (b := dy) (B := 30) (by omega) (by omega) dy1 dy2
      have HRXk := Lib.hid (HRX.out k)
      have HRYk := Lib.hid (HRY.out k)
      have q1 := HQX.out k
      have q2 := HQY.out k
      obtain ⟨kx, hkx⟩ : ∃ z, z = (k : Int) * dx := ⟨_, rfl⟩
      obtain ⟨ky, hky⟩ : ∃ z, z = (k : Int) * dy := ⟨_, rfl⟩
      rw [← hkx] at q1 u5 u6 HRXk
      rw [← hky] at q2 u7 u8 HRYk
      clear hkx hky
      have w1 : IntKind.i64.wrap ((k : Int) * lx) = (k : Int) * lx := IntWalk.i64_in _ (by omega)
      have w2 : IntKind.i64.wrap ((k : Int) * ly) = (k : Int) * ly := IntWalk.i64_in _ (by omega)
      have w3 : IntKind.i64.wrap kx = kx := IntWalk.i64_in _ (by omega)
      have w4 : IntKind.i64.wrap ky = ky := IntWalk.i64_in _ (by omega)
      have w5 : IntKind.i64.wrap ((x : Int) + kx) = (x : Int) + kx := IntWalk.i64_in _ (by omega)
      have w6 : IntKind.i64.wrap ((y : Int) + ky) = (y : Int) + ky := IntWalk.i64_in _ (by omega)
      have hdk : decide ((k : Int) < 24) = true := by simp; omega
      go_wp2_with fail
      refine wp_region_bext (by kernel_rfl) (by kernel_rfl) ?_
      repeat (any_goals (go_big_quiet_step (fail)))
      all_goals refine wpQuiet_nil ?_
      all_goals rintro _ ⟨δ, rfl⟩
      clear q1 q2 w1 w2 w3 w4 w5 w6 hdk
      obtain ⟨X, hX⟩ : ∃ X, X = (x : Int) + kx := ⟨_, rfl⟩
      obtain ⟨Y, hY⟩ : ∃ Y, Y = (y : Int) + ky := ⟨_, rfl⟩
      rw [← hX, ← hY]
      have HEX := Lib.hid (HRXk.out.trans hX.symm)
      have HEY := Lib.hid (HRYk.out.trans hY.symm)
      have hXb : -1000 ≤ X ∧ X ≤ 1000 := by omega
      have hYb : -1000 ≤ Y ∧ Y ≤ 1000 := by omega
      clear hX hY u1 u2 u3 u4 u5 u6 u7 u8 HRXk HRYk
      have HIC := Lib.hid (show inC n m X Y = (inB 0 ((n : Int) + 1 - 2) X && inB 0 ((m : Int) + 1 - 2) Y) by
        rw [inC, show (n : Int) + 1 - 2 = (n : Int) - 1 by omega, show (m : Int) + 1 - 2 = (m : Int) - 1 by omega])
      have HNEXT := Lib.hid fun (h : hitB n m P hs lx ly lz x y k = false) => (show ∀ j, 1 ≤ j → j < k + 1 → hitB n m P hs lx ly lz x y j = false from fun j h1 h2 => by
        rcases (by omega : j < k ∨ j = k) with h' | rfl
        · exact Hh.out j h1 h'
        · exact h)
      have HOUT := Lib.hid fun (h : inC n m X Y = false) => HNEXT.out (hit_in (by rw [HEX.out, HEY.out]; exact h))
      cases h1 : inB 0 ((n : Int) + 1 - 2) X
      · have HW1 := Lib.hid fun W : World => (show Calls Try.prog 67 #[.int .i64 X, .int .i64 0, .int .i64 ((n : Int) + 1 - 2)] W fun e w' => e = .returned (.bool false) ∧ W = w' by
          have := within_any X 0 ((n : Int) + 1 - 2) W
          rwa [h1] at this)
        have HN := Lib.hid (HOUT.out (by rw [HIC.out, h1]; rfl))
        clear h1
        go_wp2_with fail
        refine (HW1.out _).mono ?_
        rintro e _ ⟨rfl, rfl⟩
        go_wp2_with fail
        go_roundw
        case rel => exact ⟨k + 1, by omega, by omega, by go_num, HN, HXR.out.step _⟩
        case measure => simp [intOf]; omega
      · have HW1 := Lib.hid fun W : World => (show Calls Try.prog 67 #[.int .i64 X, .int .i64 0, .int .i64 ((n : Int) + 1 - 2)] W fun e w' => e = .returned (.bool true) ∧ W = w' by
          have := within_any X 0 ((n : Int) + 1 - 2) W
          rwa [h1] at this)
        cases h2 : inB 0 ((m : Int) + 1 - 2) Y
        · have HW2 := Lib.hid fun W : World => (show Calls Try.prog 67 #[.int .i64 Y, .int .i64 0, .int .i64 ((m : Int) + 1 - 2)] W fun e w' => e = .returned (.bool false) ∧ W = w' by
            have := within_any Y 0 ((m : Int) + 1 - 2) W
            rwa [h2] at this)
          have HN := Lib.hid (HOUT.out (by rw [HIC.out, h1, h2]; rfl))
          clear h1 h2
          go_wp2_with fail
          refine (HW1.out _).mono ?_
          rintro e _ ⟨rfl, rfl⟩
          go_wp2_with fail
          refine (HW2.out _).mono ?_
          rintro e _ ⟨rfl, rfl⟩
          go_wp2_with fail
          go_roundw
          case rel => exact ⟨k + 1, by omega, by omega, by go_num, HN, HXR.out.step _⟩
          case measure => simp [intOf]; omega
        · have HW2 := Lib.hid fun W : World => (show Calls Try.prog 67 #[.int .i64 Y, .int .i64 0, .int .i64 ((m : Int) + 1 - 2)] W fun e w' => e = .returned (.bool true) ∧ W = w' by
            have := within_any Y 0 ((m : Int) + 1 - 2) W
            rwa [h2] at this)
          have hin : inC n m X Y = true := by rw [HIC.out, h1, h2]; rfl
          obtain ⟨⟨i1, i2⟩, i3, i4⟩ := inC_iff.1 hin
          clear h1 h2
          obtain ⟨Xn, rfl⟩ : ∃ q : Nat, X = q := ⟨X.toNat, by omega⟩
          obtain ⟨Yn, rfl⟩ : ∃ q : Nat, Y = q := ⟨Y.toNat, by omega⟩
          have HHIk := Lib.hid (HHI.out k Xn Yn HEX.out HEY.out hin)
          have HM1 := Lib.hid fun (W : World) (Z : Ext w W) => HMID.out W Z Xn Yn (by omega) (by omega)
          have hbm1 := HMB.out Xn Yn
          generalize midC n hs Xn Yn = m1 at *
          clear hin i1 i2 i3 i4
          obtain ⟨v1, v2⟩ := abs_mul_bd (a := g) (A := 30) (b := m1 - m0) (B := 800) (by omega) hg2 (by omega) (by omega)
          obtain ⟨v3, v4⟩ := mul_bd (a := 4 * (k : Int)) (A := 96) (b := P) (B := 100) (by omega) (by omega) (by omega) hp2
          obtain ⟨v5, v6⟩ := mul_bd (a := 4 * (k : Int) * P) (A := 9600) (b := lz) (B := 30) v3 v4 (by omega) hl6
          go_wp2_with fail
          refine (HW1.out _).mono ?_
          rintro e _ ⟨rfl, rfl⟩
          go_wp2_with fail
          refine (HW2.out _).mono ?_
          rintro e _ ⟨rfl, rfl⟩
          go_wp2_with fail
          have s1 : IntKind.i64.wrap (m1 - m0) = m1 - m0 := IntWalk.i64_in _ (by omega)
          have s2 : IntKind.i64.wrap (g * (m1 - m0)) = g * (m1 - m0) := IntWalk.i64_in _ (by omega)
          have s3 : IntKind.i64.wrap (4 * (k : Int)) = 4 * (k : Int) := IntWalk.i64_in _ (by omega)
          have s4 : IntKind.i64.wrap (4 * (k : Int) * P) = 4 * (k : Int) * P := IntWalk.i64_in _ (by omega)
          have s5 : IntKind.i64.wrap (4 * (k : Int) * P * lz) = 4 * (k : Int) * P * lz := IntWalk.i64_in _ (by omega)
          have HC1 := Lib.hid fun (δ' : BExt δ.wd) => HM1.out δ'.wd (((HX0.out.trans HXR.out).step δ).step δ')
          have HC2 := Lib.hid fun (δ' : BExt δ.wd) => HMO.out δ'.wd (((HX0.out.trans HXR.out).step δ).step δ')
          cases hd : decide (4 * (k : Int) * P * lz < g * (m1 - m0))
          · have HN := Lib.hid (HNEXT.out (by rw [HHIk.out, hd]))
            refine wp_region_bext (by kernel_rfl) (by kernel_rfl) ?_
            repeat (any_goals (go_big_quiet_step ((first | (go_at_call 56; (with_reducible exact bext_call (HC1.out _))) | (go_at_call 56; (with_reducible exact bext_call (HC2.out _)))))))
            all_goals refine wpQuiet_nil ?_
            all_goals rintro _ ⟨δ, rfl⟩
            clear s1 s2 s3 s4 s5
            go_wp2_with fail
            go_roundw
            case rel => exact ⟨k + 1, by omega, by omega, by go_num, HN, (HXR.out.step _).step _⟩
            case measure => simp [intOf]; omega
          · have HY1 := Lib.hid (HYES.out k hk1 hk3 (by rw [HHIk.out, hd]))
            refine wp_region_bext (by kernel_rfl) (by kernel_rfl) ?_
            repeat (any_goals (go_big_quiet_step ((first | (go_at_call 56; (with_reducible exact bext_call (HC1.out _))) | (go_at_call 56; (with_reducible exact bext_call (HC2.out _)))))))
            all_goals refine wpQuiet_nil ?_
            all_goals rintro _ ⟨δ, rfl⟩
            clear s1 s2 s3 s4 s5
            go_wp2_with fail
            go_ret
            exact ⟨ret_b HY1.out.symm, ((HX0.out.trans HXR.out).step _).step _⟩
end
section
/- LLawF: LightFacets: the law's walk. Condition: the slice reads as a list. -/
open Go.RowKit

attribute [local go_sem] Oper.semAt_some

theorem greatS_any (W H P : Int) (hv : Value) (hs : List Int) (w : World) (hI : intK.Is w hv hs) :
    Calls Try.prog 25 #[surfV W H P hv] w fun e w' => e = .returned (.bool (decide (700 < hs.length))) ∧ Ext w w' := by
  obtain ⟨A, L, c, rfl, hL, _⟩ := hI.open_
  have HL := Lib.hid hL
  clear hL hI
  go_enter Try.func25, Try.ntmps25
  go_wp2
  go_ret
  exact ⟨ret_b (by rw [HL.out]; simp; omega), by (repeat' (first | with_reducible exact Ext.refl _ | with_reducible apply Ext.alloc | with_reducible apply Ext.drew | with_reducible apply Ext.drewN | with_reducible refine Ext.setCell ?_ ?_ _ | with_reducible apply Ext.step | with_reducible assumption | with_reducible exact Nat.le_refl _ | (simp; done) | (simp; omega)))⟩

set_option maxRecDepth 100000 in
set_option maxHeartbeats 4000000 in
theorem twin_any (W H P : Int) (hv : Value) (hs : List Int) (w : World) (hI : intK.Is w hv hs) (hl : hs.length ≤ 700) :
    Calls Try.prog 26 #[surfV W H P hv] w fun e w' => ∃ v, e = .returned (surfV W H P v) ∧ intK.Own w.heap.size w' v hs ∧ Ext w w' := by
  have HII := Lib.hid (intK_isI hI)
  obtain ⟨A, L, c, rfl, hL, _⟩ := hI.open_
  have HL := Lib.hid hL
  clear hL hI
  obtain ⟨W2, hW2⟩ : ∃ W2, W2 = ((w.alloc (.cells #[.int .i64 W, .int .i64 H, .int .i64 P, .slice A L c] 37)).alloc (.cells #[.int .i64 0, .int .i64 0, .int .i64 0, .slice none 0 0] 37)).alloc (.cells #[] 3) := ⟨_, rfl⟩
  have HM := Lib.hid (show OwnI (w.heap.size + 2) W2 (.slice (some ⟨w.heap.size + 1 + 1, 0, none⟩) 0 0) [] by
    rw [hW2]
    have := OwnI.made (w.heap.size + 2) ((w.alloc (.cells #[.int .i64 W, .int .i64 H, .int .i64 P, .slice A L c] 37)).alloc (.cells #[.int .i64 0, .int .i64 0, .int .i64 0, .slice none 0 0] 37)) 0 (by simp) #[] (by decide) rfl
    simpa using this)
  have HB2 := Lib.hid (show w.heap.size + 2 ≤ W2.heap.size by rw [hW2]; simp)
  have HX2 := Lib.hid (show Ext w W2 by rw [hW2]; exact by (repeat' (first | with_reducible exact Ext.refl _ | with_reducible apply Ext.alloc | with_reducible apply Ext.drew | with_reducible apply Ext.drewN | with_reducible refine Ext.setCell ?_ ?_ _ | with_reducible apply Ext.step | with_reducible assumption | with_reducible exact Nat.le_refl _ | (simp; done) | (simp; omega))))
  have HU := Lib.hid (HII.out.ext HX2.out)
  have a0 : W2.cell? ⟨w.heap.size, 0, none⟩ = some (.int .i64 W) := by rw [hW2]; go_cell
  have a1 : W2.cell? ⟨w.heap.size, 1, none⟩ = some (.int .i64 H) := by rw [hW2]; go_cell
  have a2 : W2.cell? ⟨w.heap.size, 2, none⟩ = some (.int .i64 P) := by rw [hW2]; go_cell
  have a3 : W2.cell? ⟨w.heap.size, 3, none⟩ = some (.slice A L c) := by rw [hW2]; go_cell
  have b0 : W2.cell? ⟨w.heap.size + 1, 0, none⟩ = some (.int .i64 0) := by rw [hW2]; go_cell
  have b1 : W2.cell? ⟨w.heap.size + 1, 1, none⟩ = some (.int .i64 0) := by rw [hW2]; go_cell
  have b2 : W2.cell? ⟨w.heap.size + 1, 2, none⟩ = some (.int .i64 0) := by rw [hW2]; go_cell
  have b3 : W2.cell? ⟨w.heap.size + 1, 3, none⟩ = some (.slice none 0 0) := by rw [hW2]; go_cell
  have f3 : W2.frozen? ⟨w.heap.size, 3, none⟩ = false := by rw [hW2]; go_simp
  have g0 : W2.frozen? ⟨w.heap.size + 1, 0, none⟩ = false := by rw [hW2]; go_simp
  have g1 : W2.frozen? ⟨w.heap.size + 1, 1, none⟩ = false := by rw [hW2]; go_simp
  have g2 : W2.frozen? ⟨w.heap.size + 1, 2, none⟩ = false := by rw [hW2]; go_simp
  have g3 : W2.frozen? ⟨w.heap.size + 1, 3, none⟩ = false := by rw [hW2]; go_simp
  have HZ := Lib.hid (show ([] : List Int).length + hs.length ≤ 10000000000 by simp; omega)
  have HW2 := Lib.hid hW2
  clear hW2
  go_enter Try.func26, Try.ntmps26
  have HCK := Lib.hid fun (w3 : World) (hb : Below (w.heap.size + 2) W2 w3) => (show (w3.cell? ⟨w.heap.size, 0, none⟩ = some (.int .i64 W) ∧ w3.cell? ⟨w.heap.size, 1, none⟩ = some (.int .i64 H) ∧ w3.cell? ⟨w.heap.size, 2, none⟩ = some (.int .i64 P) ∧ w3.cell? ⟨w.heap.size, 3, none⟩ = some (.slice A L c)) ∧
      (w3.cell? ⟨w.heap.size + 1, 0, none⟩ = some (.int .i64 0) ∧ w3.cell? ⟨w.heap.size + 1, 1, none⟩ = some (.int .i64 0) ∧ w3.cell? ⟨w.heap.size + 1, 2, none⟩ = some (.int .i64 0) ∧ w3.cell? ⟨w.heap.size + 1, 3, none⟩ = some (.slice none 0 0)) ∧
      w3.frozen? ⟨w.heap.size, 3, none⟩ = false ∧ w3.frozen? ⟨w.heap.size + 1, 0, none⟩ = false ∧ w3.frozen? ⟨w.heap.size + 1, 1, none⟩ = false ∧ w3.frozen? ⟨w.heap.size + 1, 2, none⟩ = false ∧ w3.frozen? ⟨w.heap.size + 1, 3, none⟩ = false ∧ w.heap.size + 1 < w3.heap.size from by
    obtain ⟨kc, kf⟩ := bcell hb
    refine ⟨⟨?_, ?_, ?_, ?_⟩, ⟨?_, ?_, ?_, ?_⟩, ?_, ?_, ?_, ?_, ?_, ?_⟩
    all_goals first | (rw [kc _ _ (by omega)]; assumption) | (rw [kf _ _ (by omega)]; assumption) | skip
    have := cell_lt b0
    have := hb.size
    omega)
  clear a0 a1 a2 a3 b0 b1 b2 b3 f3 g0 g1 g2 g3
  go_wp2_with (at_builtin; rw [← HW2.out]; refine app_all rfl (.tmp 3) (.tmp 5) rfl rfl rfl HU.out HM.out HB2.out HZ.out ?_; intro v' w3 o3 hb3; obtain ⟨⟨a0, a1, a2, a3⟩, ⟨b0, b1, b2, b3⟩, f3, g0, g1, g2, g3, l3⟩ := HCK.out w3 hb3; obtain ⟨Av, kv, cv, rfl⟩ := (intK_own.2 o3).shape; have HO3 := Lib.hid o3; have HB3 := Lib.hid hb3; clear o3 hb3)
  have ne1 : w.heap.size + 1 ≠ w.heap.size := by omega
  have hset := set4 (W := w3.setCell ⟨w.heap.size, 3, none⟩ (.slice Av kv cv)) ((cell_set_other (.inl ne1)).trans b0) ((cell_set_other (.inl ne1)).trans b1) ((cell_set_other (.inl ne1)).trans b2) ((cell_set_other (.inl ne1)).trans b3) (.int .i64 W) (.int .i64 H) (.int .i64 P) (.slice Av kv cv)
  have X3 : Ext w w3 := HX2.out.below HB3.out (by omega)
  have X4 : Ext w _ := (((((X3.setCell (p := ⟨w.heap.size, 3, none⟩) (Nat.le_refl _) (.slice Av kv cv)).setCell (p := ⟨w.heap.size + 1, 0, none⟩) (Nat.le_succ _) (.int .i64 W)).setCell (p := ⟨w.heap.size + 1, 1, none⟩) (Nat.le_succ _) (.int .i64 H)).setCell (p := ⟨w.heap.size + 1, 2, none⟩) (Nat.le_succ _) (.int .i64 P)).setCell (p := ⟨w.heap.size + 1, 3, none⟩) (Nat.le_succ _) (.slice Av kv cv))
  have O4 : intK.Own (w.heap.size + 2) _ _ hs := ((((((show intK.Own (w.heap.size + 2) w3 (.slice Av kv cv) hs from intK_own.2 (by simpa using HO3.out)).setCell (b := w.heap.size) (o := 3) (u := .slice Av kv cv) (by omega)).setCell (b := w.heap.size + 1) (o := 0) (u := .int .i64 W) (by omega)).setCell (b := w.heap.size + 1) (o := 1) (u := .int .i64 H) (by omega)).setCell (b := w.heap.size + 1) (o := 2) (u := .int .i64 P) (by omega)).setCell (b := w.heap.size + 1) (o := 3) (u := .slice Av kv cv) (by omega))
  generalize ((((w3.setCell ⟨w.heap.size, 3, none⟩ (.slice Av kv cv)).setCell ⟨w.heap.size + 1, 0, none⟩ (.int .i64 W)).setCell ⟨w.heap.size + 1, 1, none⟩ (.int .i64 H)).setCell ⟨w.heap.size + 1, 2, none⟩ (.int .i64 P)).setCell ⟨w.heap.size + 1, 3, none⟩ (.slice Av kv cv) = W4 at *
  obtain ⟨t0, t1, t2, t3⟩ := hset
  exact bodyPost_ret (v := surfV W H P (.slice Av kv cv)) (by simp [results, Try.results26, go_sem, t0, t1, t2, t3]) rfl ⟨_, rfl, O4.mono (by omega), X4⟩

set_option maxHeartbeats 4000000 in
theorem sameSurf_any (W H P : Int) (u v : Value) (hs : List Int) (w : World) (hu : intK.Is w u hs) (hv : intK.Is w v hs) :
    Calls Try.prog 34 #[surfV W H P u, surfV W H P v] w fun e w' => e = .returned (.bool true) ∧ Ext w w' := by
  have HS := Lib.hid fun (W0 : World) (x : Ext w W0) => (show Calls Try.prog 43 #[u, v] W0 fun e w' => e = .returned (.bool true) ∧ Ext W0 w' by
    have := sameInts_any u v hs hs W0 (hu.ext x) (hv.ext x)
    rwa [decide_eq_true rfl] at this)
  obtain ⟨A, L, c, rfl, _⟩ := hu.open_
  obtain ⟨A', L', c', rfl, _⟩ := hv.open_
  clear hu hv
  go_enter Try.func34, Try.ntmps34
  go_wp2_with fail
  refine (HS.out _ (by (repeat' (first | with_reducible exact Ext.refl _ | with_reducible apply Ext.alloc | with_reducible apply Ext.drew | with_reducible apply Ext.drewN | with_reducible refine Ext.setCell ?_ ?_ _ | with_reducible apply Ext.step | with_reducible assumption | with_reducible exact Nat.le_refl _ | (simp; done) | (simp; omega))))).mono ?_
  rintro e _ ⟨rfl, hx⟩
  obtain ⟨δ, rfl⟩ : Ext ((w.alloc (.cells #[.int .i64 W, .int .i64 H, .int .i64 P, .slice A L c] 37)).alloc (.cells #[.int .i64 W, .int .i64 H, .int .i64 P, .slice A' L' c'] 37)) _ := Ext.trans (by (repeat' (first | with_reducible exact Ext.refl _ | with_reducible apply Ext.alloc | with_reducible apply Ext.drew | with_reducible apply Ext.drewN | with_reducible refine Ext.setCell ?_ ?_ _ | with_reducible apply Ext.step | with_reducible assumption | with_reducible exact Nat.le_refl _ | (simp; done) | (simp; omega)))) hx
  clear hx
  try (have hs0 := δ.lt (w.heap.size) (by first | (simp; done) | (simp; omega)))
  try (have hs1 := δ.lt (w.heap.size + 1) (by first | (simp; done) | (simp; omega)))
  go_wp2_with fail
  go_ret
  exact ⟨rfl, by (repeat' (first | with_reducible exact Ext.refl _ | with_reducible apply Ext.alloc | with_reducible apply Ext.drew | with_reducible apply Ext.drewN | with_reducible refine Ext.setCell ?_ ?_ _ | with_reducible apply Ext.step | with_reducible assumption | with_reducible exact Nat.le_refl _ | (simp; done) | (simp; omega)))⟩

theorem refCheckLight_any (lx ly lz : Int) (w : World) :
    Calls Try.prog 32 #[lightV lx ly lz] w fun e w' => e = .returned (.int .i64 (lightE lx ly lz)) ∧ Ext w w' := by
  cases h : lightB lx ly lz
  all_goals
    have HE := Lib.hid (show lightE lx ly lz = _ by rw [lightE, h])
    have HL := Lib.hid (refLight_any lx ly lz)
    rw [h] at HL
    go_enter Try.func32, Try.ntmps32
    go_wp2_with fail
    refine (HL.out _).mono ?_
    rintro e _ ⟨rfl, hx⟩
    obtain ⟨δ, rfl⟩ : Ext (w.alloc (.cells #[.int .i64 lx, .int .i64 ly, .int .i64 lz] 25)) _ := Ext.trans (by (repeat' (first | with_reducible exact Ext.refl _ | with_reducible apply Ext.alloc | with_reducible apply Ext.drew | with_reducible apply Ext.drewN | with_reducible refine Ext.setCell ?_ ?_ _ | with_reducible apply Ext.step | with_reducible assumption | with_reducible exact Nat.le_refl _ | (simp; done) | (simp; omega)))) hx
    clear hx
    try (have hs0 := δ.lt (w.heap.size) (by first | (simp; done) | (simp; omega)))
    go_wp2_with fail
    go_ret
    exact ⟨by rw [HE.out]; rfl, by (repeat' (first | with_reducible exact Ext.refl _ | with_reducible apply Ext.alloc | with_reducible apply Ext.drew | with_reducible apply Ext.drewN | with_reducible refine Ext.setCell ?_ ?_ _ | with_reducible apply Ext.step | with_reducible assumption | with_reducible exact Nat.le_refl _ | (simp; done) | (simp; omega)))⟩

set_option maxRecDepth 100000 in
set_option maxHeartbeats 4000000 in
theorem lawFacets_any (W H P : Int) (hv : Value) (hs : List Int) (lx ly lz : Int) (w : World) (hI : intK.Is w hv hs) :
    Calls Try.prog 4 #[surfV W H P hv, lightV lx ly lz] w fun e w' => e = .returned (.bool true) ∧ Ext w w' := by
  have HI := Lib.hid fun (W0 : World) (x : Ext w W0) => hI.ext x
  have HGR := Lib.hid fun (W0 : World) (x : Ext w W0) => greatS_any W H P hv hs W0 (hI.ext x)
  obtain ⟨A, L, c, rfl, hL, _⟩ := hI.open_
  clear hI
  by_cases hg : 700 < hs.length
  · rw [decide_eq_true hg] at HGR
    clear hg
    go_enter Try.func4, Try.ntmps4
    go_wp2_with fail
    refine (HGR.out _ (by (repeat' (first | with_reducible exact Ext.refl _ | with_reducible apply Ext.alloc | with_reducible apply Ext.drew | with_reducible apply Ext.drewN | with_reducible refine Ext.setCell ?_ ?_ _ | with_reducible apply Ext.step | with_reducible assumption | with_reducible exact Nat.le_refl _ | (simp; done) | (simp; omega))))).mono ?_
    rintro e _ ⟨rfl, hx⟩
    obtain ⟨δ, rfl⟩ : Ext ((w.alloc (.cells #[.int .i64 W, .int .i64 H, .int .i64 P, .slice A L c] 37)).alloc (.cells #[.int .i64 lx, .int .i64 ly, .int .i64 lz] 25)) _ := Ext.trans (by (repeat' (first | with_reducible exact Ext.refl _ | with_reducible apply Ext.alloc | with_reducible apply Ext.drew | with_reducible apply Ext.drewN | with_reducible refine Ext.setCell ?_ ?_ _ | with_reducible apply Ext.step | with_reducible assumption | with_reducible exact Nat.le_refl _ | (simp; done) | (simp; omega)))) hx
    clear hx
    try (have hs0 := δ.lt (w.heap.size) (by first | (simp; done) | (simp; omega)))
    try (have hs1 := δ.lt (w.heap.size + 1) (by first | (simp; done) | (simp; omega)))
    go_wp2_with fail
    go_ret
    exact ⟨rfl, by (repeat' (first | with_reducible exact Ext.refl _ | with_reducible apply Ext.alloc | with_reducible apply Ext.drew | with_reducible apply Ext.drewN | with_reducible refine Ext.setCell ?_ ?_ _ | with_reducible apply Ext.step | with_reducible assumption | with_reducible exact Nat.le_refl _ | (simp; done) | (simp; omega)))⟩
  · rw [decide_eq_false hg] at HGR
    have hl : hs.length ≤ 700 := by omega
    have HL := Lib.hid hl
    clear hg hL hl
    go_enter Try.func4, Try.ntmps4
    go_wp2_with fail
    refine (HGR.out _ (by (repeat' (first | with_reducible exact Ext.refl _ | with_reducible apply Ext.alloc | with_reducible apply Ext.drew | with_reducible apply Ext.drewN | with_reducible refine Ext.setCell ?_ ?_ _ | with_reducible apply Ext.step | with_reducible assumption | with_reducible exact Nat.le_refl _ | (simp; done) | (simp; omega))))).mono ?_
    rintro e _ ⟨rfl, hx⟩
    obtain ⟨δ, rfl⟩ : Ext ((w.alloc (.cells #[.int .i64 W, .int .i64 H, .int .i64 P, .slice A L c] 37)).alloc (.cells #[.int .i64 lx, .int .i64 ly, .int .i64 lz] 25)) _ := Ext.trans (by (repeat' (first | with_reducible exact Ext.refl _ | with_reducible apply Ext.alloc | with_reducible apply Ext.drew | with_reducible apply Ext.drewN | with_reducible refine Ext.setCell ?_ ?_ _ | with_reducible apply Ext.step | with_reducible assumption | with_reducible exact Nat.le_refl _ | (simp; done) | (simp; omega)))) hx
    clear hx
    try (have hs0 := δ.lt (w.heap.size) (by first | (simp; done) | (simp; omega)))
    try (have hs1 := δ.lt (w.heap.size + 1) (by first | (simp; done) | (simp; omega)))
    go_wp2_with fail
    refine lay_calls (fun W0 => Ext w W0 ∧ W0.cell? ⟨w.heap.size, 0, none⟩ = some (.int .i64 W) ∧ W0.cell? ⟨w.heap.size, 1, none⟩ = some (.int .i64 H) ∧ W0.cell? ⟨w.heap.size, 2, none⟩ = some (.int .i64 P) ∧ W0.cell? ⟨w.heap.size, 3, none⟩ = some (.slice A L c) ∧
      W0.cell? ⟨w.heap.size + 1, 0, none⟩ = some (.int .i64 lx) ∧ W0.cell? ⟨w.heap.size + 1, 1, none⟩ = some (.int .i64 ly) ∧ W0.cell? ⟨w.heap.size + 1, 2, none⟩ = some (.int .i64 lz)) ⟨by (repeat' (first | with_reducible exact Ext.refl _ | with_reducible apply Ext.alloc | with_reducible apply Ext.drew | with_reducible apply Ext.drewN | with_reducible refine Ext.setCell ?_ ?_ _ | with_reducible apply Ext.step | with_reducible assumption | with_reducible exact Nat.le_refl _ | (simp; done) | (simp; omega))), by go_cell, by go_cell, by go_cell, by go_cell, by go_cell, by go_cell, by go_cell⟩ ?_
    rintro W0 ⟨X0, c0, c1, c2, c3, k0, k1, k2⟩
    have HX0 := Lib.hid X0
    have l0 := cell_lt c0
    have l1 := cell_lt k0
    clear X0
    refine (twin_any W H P _ hs W0 (HI.out _ HX0.out) HL.out).mono ?_
    rintro e W1 ⟨ov, rfl, oo, x1⟩
    obtain ⟨Ao, ko, co, rfl⟩ := oo.shape
    have HX1 := Lib.hid (HX0.out.trans x1)
    have HO := Lib.hid oo.is
    replace c0 := x1.cell_some c0
    replace c1 := x1.cell_some c1
    replace c2 := x1.cell_some c2
    replace c3 := x1.cell_some c3
    replace k0 := x1.cell_some k0
    replace k1 := x1.cell_some k1
    replace k2 := x1.cell_some k2
    replace l0 := cell_lt c0
    replace l1 := cell_lt k0
    clear x1 oo
    go_wp2_with fail
    refine lay_calls (fun W2 => Ext W1 W2 ∧ W2.cell? ⟨W1.heap.size, 0, none⟩ = some (.int .i64 W) ∧ W2.cell? ⟨W1.heap.size, 1, none⟩ = some (.int .i64 H) ∧ W2.cell? ⟨W1.heap.size, 2, none⟩ = some (.int .i64 P) ∧ W2.cell? ⟨W1.heap.size, 3, none⟩ = some (.slice Ao ko co)) ⟨by (repeat' (first | with_reducible exact Ext.refl _ | with_reducible apply Ext.alloc | with_reducible apply Ext.drew | with_reducible apply Ext.drewN | with_reducible refine Ext.setCell ?_ ?_ _ | with_reducible apply Ext.step | with_reducible assumption | with_reducible exact Nat.le_refl _ | (simp; done) | (simp; omega))), by go_cell, by go_cell, by go_cell, by go_cell⟩ ?_
    rintro W2 ⟨X2, o0, o1, o2, o3⟩
    have HX2 := Lib.hid X2
    refine (facets_any W H P _ hs W2 (HO.out.ext X2)).mono ?_
    rintro e W3 ⟨va, rfl, oa, x3⟩
    obtain ⟨Aa, ka, ca, rfl⟩ := oa.shape
    have HOA := Lib.hid oa.is
    have X3 := X2.trans x3
    have HX3 := Lib.hid X3
    replace c0 := X3.cell_some c0
    replace c1 := X3.cell_some c1
    replace c2 := X3.cell_some c2
    replace c3 := X3.cell_some c3
    replace k0 := X3.cell_some k0
    replace k1 := X3.cell_some k1
    replace k2 := X3.cell_some k2
    replace o0 := x3.cell_some o0
    replace o1 := x3.cell_some o1
    replace o2 := x3.cell_some o2
    replace o3 := x3.cell_some o3
    replace l0 := cell_lt c0
    replace l1 := cell_lt k0
    have l2 := cell_lt o0
    clear x3 oa X2 X3
    go_wp2_with fail
    refine (refFacets_any W H P _ hs W3 (HI.out _ (HX1.out.trans HX3.out))).mono ?_
    rintro e W4 ⟨vb, rfl, ob, x4⟩
    obtain ⟨Ab, kb, cb, rfl⟩ := ob.shape
    have HOB := Lib.hid ob.is
    have HX4 := Lib.hid x4
    replace c0 := x4.cell_some c0
    replace c1 := x4.cell_some c1
    replace c2 := x4.cell_some c2
    replace c3 := x4.cell_some c3
    replace k0 := x4.cell_some k0
    replace k1 := x4.cell_some k1
    replace k2 := x4.cell_some k2
    replace o0 := x4.cell_some o0
    replace o1 := x4.cell_some o1
    replace o2 := x4.cell_some o2
    replace o3 := x4.cell_some o3
    replace l0 := cell_lt c0
    replace l1 := cell_lt k0
    replace l2 := cell_lt o0
    clear x4 ob
    have HC1 := Lib.hid fun (δ : BExt W4) => checkS_any W H P (.slice Ao ko co) hs δ.wd (HO.out.ext ((HX3.out.trans HX4.out).step δ))
    have HC2 := Lib.hid fun (δ : BExt W4) => refCheck_any W H P (.slice A L c) hs δ.wd (HI.out _ (((HX1.out.trans HX3.out).trans HX4.out).step δ))
    have HC5 := Lib.hid fun (δ : BExt W4) => (show Calls Try.prog 33 #[.slice Aa ka ca, .slice Ab kb cb] δ.wd fun e w' => e = .returned (.bool true) ∧ Ext δ.wd w' by
      have := sameTilts_any _ _ _ _ δ.wd (HOA.out.ext (HX4.out.step δ)) (HOB.out.ext ((Ext.refl W4).step δ))
      rwa [decide_eq_true rfl] at this)
    have HC6 := Lib.hid fun (δ : BExt W4) => sameSurf_any W H P (.slice Ao ko co) (.slice A L c) hs δ.wd (HO.out.ext ((HX3.out.trans HX4.out).step δ)) (HI.out _ (((HX1.out.trans HX3.out).trans HX4.out).step δ))
    go_wp2_with fail
    refine wp_region_bext (by kernel_rfl) (by kernel_rfl) ?_
    repeat (any_goals (go_big_quiet_step ((first | (go_at_call 29; exact bext_call (HC1.out _)) | (go_at_call 30; exact bext_call (HC2.out _)) | (go_at_call 31; exact bext_call (checkLight_any _ _ _ _)) | (go_at_call 32; exact bext_call (refCheckLight_any _ _ _ _)) | (go_at_call 33; exact bext_call (HC5.out _)) | (go_at_call 34; exact bext_call (HC6.out _))))))
    all_goals refine wpQuiet_nil ?_
    all_goals rintro _ ⟨δ, rfl⟩
    go_wp2_with fail
    go_ret
    exact ⟨rfl, (((HX1.out.trans HX3.out).trans HX4.out).step _)⟩
end
section
/- LRn: The reference's shadows and pictures. Condition: the slice reads as a list. -/
open Go.RowKit Go.Shelf

attribute [local go_sem] Oper.semAt_some

theorem asked_any (W H P : Int) (hv : Value) (hs : List Int) (lx ly lz : Int) (w : World) (hI : intK.Is w hv hs) :
    Calls Try.prog 79 #[surfV W H P hv, lightV lx ly lz] w fun e w' => e = .returned (.int .i64 (shadE W H P hs lx ly lz)) ∧ Ext w w' := by
  have HSB := Lib.hid fun (W0 : World) (x : Ext w W0) => refSurface_any W H P hv hs W0 (hI.ext x)
  obtain ⟨A, L, c, rfl, _⟩ := hI.open_
  clear hI
  cases hb : surfB W H P hs
  · have HE := Lib.hid (show shadE W H P hs lx ly lz = 60 by simp [shadE, hb])
    rw [hb] at HSB
    clear hb
    go_enter Try.func79, Try.ntmps79
    go_wp2_with fail
    refine (HSB.out _ (by (repeat' (first | with_reducible exact Ext.refl _ | with_reducible apply Ext.alloc | with_reducible apply Ext.drew | with_reducible apply Ext.drewN | with_reducible refine Ext.setCell ?_ ?_ _ | with_reducible apply Ext.step | with_reducible assumption | with_reducible exact Nat.le_refl _ | (simp; done) | (simp; omega))))).mono ?_
    rintro e _ ⟨rfl, hx⟩
    obtain ⟨δ, rfl⟩ : Ext ((w.alloc (.cells #[.int .i64 W, .int .i64 H, .int .i64 P, .slice A L c] 37)).alloc (.cells #[.int .i64 lx, .int .i64 ly, .int .i64 lz] 25)) _ := Ext.trans (by (repeat' (first | with_reducible exact Ext.refl _ | with_reducible apply Ext.alloc | with_reducible apply Ext.drew | with_reducible apply Ext.drewN | with_reducible refine Ext.setCell ?_ ?_ _ | with_reducible apply Ext.step | with_reducible assumption | with_reducible exact Nat.le_refl _ | (simp; done) | (simp; omega)))) hx
    clear hx
    try (have hs0 := δ.lt (w.heap.size) (by first | (simp; done) | (simp; omega)))
    try (have hs1 := δ.lt (w.heap.size + 1) (by first | (simp; done) | (simp; omega)))
    go_wp2_with fail
    go_ret
    exact ⟨by rw [HE.out]; rfl, by (repeat' (first | with_reducible exact Ext.refl _ | with_reducible apply Ext.alloc | with_reducible apply Ext.drew | with_reducible apply Ext.drewN | with_reducible refine Ext.setCell ?_ ?_ _ | with_reducible apply Ext.step | with_reducible assumption | with_reducible exact Nat.le_refl _ | (simp; done) | (simp; omega)))⟩
  · have HE := Lib.hid (show shadE W H P hs lx ly lz = lightE lx ly lz by simp [shadE, hb, lightE])
    rw [hb] at HSB
    clear hb
    go_enter Try.func79, Try.ntmps79
    go_wp2_with fail
    refine (HSB.out _ (by (repeat' (first | with_reducible exact Ext.refl _ | with_reducible apply Ext.alloc | with_reducible apply Ext.drew | with_reducible apply Ext.drewN | with_reducible refine Ext.setCell ?_ ?_ _ | with_reducible apply Ext.step | with_reducible assumption | with_reducible exact Nat.le_refl _ | (simp; done) | (simp; omega))))).mono ?_
    rintro e _ ⟨rfl, hx⟩
    obtain ⟨δ, rfl⟩ : Ext ((w.alloc (.cells #[.int .i64 W, .int .i64 H, .int .i64 P, .slice A L c] 37)).alloc (.cells #[.int .i64 lx, .int .i64 ly, .int .i64 lz] 25)) _ := Ext.trans (by (repeat' (first | with_reducible exact Ext.refl _ | with_reducible apply Ext.alloc | with_reducible apply Ext.drew | with_reducible apply Ext.drewN | with_reducible refine Ext.setCell ?_ ?_ _ | with_reducible apply Ext.step | with_reducible assumption | with_reducible exact Nat.le_refl _ | (simp; done) | (simp; omega)))) hx
    clear hx
    try (have hs0 := δ.lt (w.heap.size) (by first | (simp; done) | (simp; omega)))
    try (have hs1 := δ.lt (w.heap.size + 1) (by first | (simp; done) | (simp; omega)))
    go_wp2_with fail
    refine (refCheckLight_any _ _ _ _).mono ?_
    rintro e _ ⟨rfl, hx⟩
    obtain ⟨δ, rfl⟩ : Ext ((w.alloc (.cells #[.int .i64 W, .int .i64 H, .int .i64 P, .slice A L c] 37)).alloc (.cells #[.int .i64 lx, .int .i64 ly, .int .i64 lz] 25)) _ := Ext.trans (by (repeat' (first | with_reducible exact Ext.refl _ | with_reducible apply Ext.alloc | with_reducible apply Ext.drew | with_reducible apply Ext.drewN | with_reducible refine Ext.setCell ?_ ?_ _ | with_reducible apply Ext.step | with_reducible assumption | with_reducible exact Nat.le_refl _ | (simp; done) | (simp; omega)))) hx
    clear hx
    try (have hs0 := δ.lt (w.heap.size) (by first | (simp; done) | (simp; omega)))
    try (have hs1 := δ.lt (w.heap.size + 1) (by first | (simp; done) | (simp; omega)))
    go_wp2_with fail
    go_ret
    exact ⟨by rw [HE.out]; rfl, by (repeat' (first | with_reducible exact Ext.refl _ | with_reducible apply Ext.alloc | with_reducible apply Ext.drew | with_reducible apply Ext.drewN | with_reducible refine Ext.setCell ?_ ?_ _ | with_reducible apply Ext.step | with_reducible assumption | with_reducible exact Nat.le_refl _ | (simp; done) | (simp; omega)))⟩

set_option maxRecDepth 100000 in
set_option maxHeartbeats 4000000 in
theorem refShadows_any (W H P : Int) (hv : Value) (hs : List Int) (lx ly lz : Int) (w : World) (hI : intK.Is w hv hs) :
    Calls Try.prog 36 #[surfV W H P hv, lightV lx ly lz] w (RetEE boolK w (shadowsL W H P hs lx ly lz) (shadE W H P hs lx ly lz)) := by
  have HAS := Lib.hid fun (W0 : World) (x : Ext w W0) => asked_any W H P hv hs lx ly lz W0 (hI.ext x)
  cases hbl : surfB W H P hs && lightB lx ly lz
  · have HR := Lib.hid (show shadowsL W H P hs lx ly lz = [] by simp [shadowsL, hbl])
    have hne : shadE W H P hs lx ly lz = 60 ∨ shadE W H P hs lx ly lz = 61 := by
      rw [Bool.and_eq_false_iff] at hbl
      unfold shadE
      rcases hbl with h | h
      · rw [h]; exact .inl rfl
      · rw [h]
        cases surfB W H P hs
        · exact .inl rfl
        · exact .inr rfl
    obtain ⟨A, L, c, rfl, _⟩ := hI.open_
    generalize shadE W H P hs lx ly lz = E at *
    clear hI hbl
    rcases hne with rfl | rfl
    all_goals
      go_enter Try.func36, Try.ntmps36
      go_wp2_with fail
      refine (HAS.out _ (by (repeat' (first | with_reducible exact Ext.refl _ | with_reducible apply Ext.alloc | with_reducible apply Ext.drew | with_reducible apply Ext.drewN | with_reducible refine Ext.setCell ?_ ?_ _ | with_reducible apply Ext.step | with_reducible assumption | with_reducible exact Nat.le_refl _ | (simp; done) | (simp; omega))))).mono ?_
      rintro e _ ⟨rfl, hx⟩
      obtain ⟨δ, rfl⟩ : Ext ((w.alloc (.cells #[.int .i64 W, .int .i64 H, .int .i64 P, .slice A L c] 37)).alloc (.cells #[.int .i64 lx, .int .i64 ly, .int .i64 lz] 25)) _ := Ext.trans (by (repeat' (first | with_reducible exact Ext.refl _ | with_reducible apply Ext.alloc | with_reducible apply Ext.drew | with_reducible apply Ext.drewN | with_reducible refine Ext.setCell ?_ ?_ _ | with_reducible apply Ext.step | with_reducible assumption | with_reducible exact Nat.le_refl _ | (simp; done) | (simp; omega)))) hx
      clear hx
      try (have hs0 := δ.lt (w.heap.size) (by first | (simp; done) | (simp; omega)))
      try (have hs1 := δ.lt (w.heap.size + 1) (by first | (simp; done) | (simp; omega)))
      go_wp2_with fail
      go_ret2
      exact ⟨_, rfl, by rw [HR.out]; exact EK.Own.nil _ _, by (repeat' (first | with_reducible exact Ext.refl _ | with_reducible apply Ext.alloc | with_reducible apply Ext.drew | with_reducible apply Ext.drewN | with_reducible refine Ext.setCell ?_ ?_ _ | with_reducible apply Ext.step | with_reducible assumption | with_reducible exact Nat.le_refl _ | (simp; done) | (simp; omega)))⟩
  · rw [Bool.and_eq_true] at hbl
    obtain ⟨hb, hl⟩ := hbl
    obtain ⟨n, m, rfl, rfl, hn1, hn2, hm1, hm2⟩ := surf_nm hb
    have HE := Lib.hid (show shadE ((n : Int) + 1) ((m : Int) + 1) P hs lx ly lz = 0 by simp [shadE, hb, hl])
    have HR := Lib.hid (show shadowsL ((n : Int) + 1) ((m : Int) + 1) P hs lx ly lz = (List.range (m * n)).map fun j => darkB n m P hs lx ly lz (cx n j) (cy n j) by simp [shadowsL, hb, hl, nOf_add, darksL])
    have HS := Lib.hid (show SurfOk w hv n m P hs from ⟨hI, hb⟩)
    rw [HE.out] at HAS
    obtain ⟨⟨hl1, hl2⟩, ⟨hl3, hl4⟩, hl5, hl6⟩ := lightB_iff.1 hl
    obtain ⟨A, L, c, rfl, _⟩ := hI.open_
    clear hI hb hl
    go_enter Try.func36, Try.ntmps36
    go_wp2_with fail
    refine (HAS.out _ (by (repeat' (first | with_reducible exact Ext.refl _ | with_reducible apply Ext.alloc | with_reducible apply Ext.drew | with_reducible apply Ext.drewN | with_reducible refine Ext.setCell ?_ ?_ _ | with_reducible apply Ext.step | with_reducible assumption | with_reducible exact Nat.le_refl _ | (simp; done) | (simp; omega))))).mono ?_
    rintro e _ ⟨rfl, hx⟩
    obtain ⟨δ, rfl⟩ : Ext ((w.alloc (.cells #[.int .i64 ((n : Int) + 1), .int .i64 ((m : Int) + 1), .int .i64 P, .slice A L c] 37)).alloc (.cells #[.int .i64 lx, .int .i64 ly, .int .i64 lz] 25)) _ := Ext.trans (by (repeat' (first | with_reducible exact Ext.refl _ | with_reducible apply Ext.alloc | with_reducible apply Ext.drew | with_reducible apply Ext.drewN | with_reducible refine Ext.setCell ?_ ?_ _ | with_reducible apply Ext.step | with_reducible assumption | with_reducible exact Nat.le_refl _ | (simp; done) | (simp; omega)))) hx
    clear hx
    try (have hs0 := δ.lt (w.heap.size) (by first | (simp; done) | (simp; omega)))
    try (have hs1 := δ.lt (w.heap.size + 1) (by first | (simp; done) | (simp; omega)))
    go_wp2_with fail
    refine lay_wp (fun W0 => Ext w W0 ∧ W0.cell? ⟨w.heap.size, 0, none⟩ = some (.int .i64 ((n : Int) + 1)) ∧ W0.cell? ⟨w.heap.size, 1, none⟩ = some (.int .i64 ((m : Int) + 1)) ∧ W0.cell? ⟨w.heap.size, 2, none⟩ = some (.int .i64 P) ∧ W0.cell? ⟨w.heap.size, 3, none⟩ = some (.slice A L c) ∧
      W0.cell? ⟨w.heap.size + 1, 0, none⟩ = some (.int .i64 lx) ∧ W0.cell? ⟨w.heap.size + 1, 1, none⟩ = some (.int .i64 ly) ∧ W0.cell? ⟨w.heap.size + 1, 2, none⟩ = some (.int .i64 lz)) ⟨by (repeat' (first | with_reducible exact Ext.refl _ | with_reducible apply Ext.alloc | with_reducible apply Ext.drew | with_reducible apply Ext.drewN | with_reducible refine Ext.setCell ?_ ?_ _ | with_reducible apply Ext.step | with_reducible assumption | with_reducible exact Nat.le_refl _ | (simp; done) | (simp; omega))), by go_cell, by go_cell, by go_cell, by go_cell, by go_cell, by go_cell, by go_cell⟩ ?_
    rintro W0 ⟨X0, c0, c1, c2, c3, b0, b1, b2⟩
    have HX0 := Lib.hid X0
    clear X0
    go_loopw [8, 7, 9] (fun yv ov _ wr => ∃ k : Nat, k ≤ m ∧ yv = .int .i64 k ∧ boolK.Own W0.heap.size wr ov ((List.range (k * n)).map fun j => darkB n m P hs lx ly lz (cx n j) (cy n j)) ∧ Ext W0 wr) (fun yv _ _ _ => m - (intOf yv).toNat)
    case atStart => exact ⟨0, by omega, rfl, by simpa using EK.Own.nil (K := boolK) W0.heap.size W0, Ext.refl _⟩
    case round =>
      obtain ⟨k, hk, rfl, ho, hx⟩ := hrel
      obtain ⟨Av, kv, cv, rfl⟩ := ho.shape
      by_cases hlt : k < m
      · have d1 := hx.cell_some c1
        have l1 := cell_lt d1
        have HO := Lib.hid ho
        have HX := Lib.hid hx
        clear ho hx
        go_wp2_with fail
        obtain ⟨wo, rfl⟩ : ∃ wo : World, wo = wr := ⟨_, rfl⟩
        go_loopw [9, 7] (fun xv ov wr => ∃ j : Nat, j ≤ n ∧ xv = .int .i64 j ∧ boolK.Own W0.heap.size wr ov ((List.range (k * n + j)).map fun j => darkB n m P hs lx ly lz (cx n j) (cy n j)) ∧ Ext W0 wr) (fun xv _ _ => n - (intOf xv).toNat)
        case atStart => exact ⟨0, by omega, rfl, HO.out, HX.out⟩
        case round =>
          obtain ⟨j, hj, rfl, ho, hx⟩ := hrel
          obtain ⟨Av2, kv2, cv2, rfl⟩ := ho.shape
          by_cases hjl : j < n
          · have e0 := hx.cell_some c0
            have e1 := hx.cell_some c1
            have e2 := hx.cell_some c2
            have e3 := hx.cell_some c3
            have e4 := hx.cell_some b0
            have e5 := hx.cell_some b1
            have e6 := hx.cell_some b2
            have le0 := cell_lt e0
            have le4 := cell_lt e4
            have HT := Lib.hid (refDark_any n m P (.slice A L c) hs lx ly lz j k wr (HS.out.ext (HX0.out.trans hx)) hjl hlt hl1 hl2 hl3 hl4 hl5 hl6)
            have HSN := Lib.hid (show (List.range (k * n + (j + 1))).map (fun j => darkB n m P hs lx ly lz (cx n j) (cy n j)) = (List.range (k * n + j)).map (fun j => darkB n m P hs lx ly lz (cx n j) (cy n j)) ++ [darkB n m P hs lx ly lz j k] by
              rw [← Nat.add_assoc, List.range_succ, List.map_append, List.map_singleton, cx_at hjl, cy_at hjl])
            have HZ := Lib.hid (show ((List.range (k * n + j)).map fun j => darkB n m P hs lx ly lz (cx n j) (cy n j)).length ≤ 1000000000 by
              rw [List.length_map, List.length_range]
              have := Nat.mul_le_mul (show k ≤ 23 by omega) hn2
              omega)
            have HO := Lib.hid ho
            have HX := Lib.hid hx
            have HBB := Lib.hid (show W0.heap.size ≤ wr.heap.size from hx.bel.size)
            generalize darkB n m P hs lx ly lz j k = dk at *
            clear ho hx
            go_wp2_with fail
            refine HT.out.mono ?_
            rintro e W2 ⟨rfl, x2⟩
            have HX2 := Lib.hid x2
            clear x2
            go_wp2_with (at_builtin; refine EK.app (K := boolK) rfl (.tmp 30) (.tmp 36) rfl W2.heap.size 1 dk rfl rfl (fun i u hu => cell_new hu) (HO.out.ext (HX2.out.alloc _)) (Nat.le_trans HBB.out (HX2.out.alloc _).bel.size) HZ.out ?_; intro v' w3 o3 b3 _; obtain ⟨Av3, kv3, cv3, rfl⟩ := o3.shape; have HO3 := Lib.hid o3; have HB3 := Lib.hid b3; clear o3 b3)
            go_roundw
            case rel => exact ⟨j + 1, by omega, by go_num, by rw [HSN.out]; exact HO3.out, ((HX.out.trans HX2.out).alloc _).below HB3.out (Nat.le_refl _)⟩
            case measure => simp [intOf]; omega
          · obtain rfl : j = n := by omega
            have e0 := hx.cell_some c0
            have le0 := cell_lt e0
            have HO := Lib.hid (show boolK.Own W0.heap.size wr (.slice Av2 kv2 cv2) ((List.range ((k + 1) * j)).map fun i => darkB j m P hs lx ly lz (cx j i) (cy j i)) by rw [Nat.succ_mul]; exact ho)
            have HX := Lib.hid hx
            clear ho hx
            go_wp2_with fail
            go_roundw
            case rel => exact ⟨k + 1, by omega, by go_num, HO.out, HX.out⟩
            case measure => simp [intOf]; omega
      · obtain rfl : k = m := by omega
        have d1 := hx.cell_some c1
        have l1 := cell_lt d1
        have HO := Lib.hid ho
        have HX := Lib.hid hx
        clear ho hx
        go_wp2_with fail
        go_ret2
        exact ⟨_, by rw [HE.out]; rfl, by rw [HR.out]; exact HO.out.mono HX0.out.bel.size, HX0.out.trans HX.out⟩
end
open Go.RowKit Go.Shelf

attribute [local go_sem] Oper.semAt_some

set_option maxRecDepth 100000 in
set_option maxHeartbeats 8000000 in
theorem refSeen_any (n m : Nat) (P : Int) (hv : Value) (hs : List Int) (lx ly lz : Int) (w : World) (hS : SurfOk w hv n m P hs)
    (hl1 : -30 ≤ lx) (hl2 : lx ≤ 30) (hl3 : -30 ≤ ly) (hl4 : ly ≤ 30) (hl5 : 1 ≤ lz) (hl6 : lz ≤ 30) :
    Calls Try.prog 82 #[surfV ((n : Int) + 1) ((m : Int) + 1) P hv, lightV lx ly lz] w (RetE shadeK w (seenL n m P hs lx ly lz)) := by
  have HS := Lib.hid hS
  obtain ⟨⟨hn1, hn2⟩, ⟨hm1, hm2⟩, hp1, hp2⟩ := hS.nm
  have HTB := Lib.hid fun X Y : Nat => (show (-400 ≤ tiltX n hs X Y ∧ tiltX n hs X Y ≤ 400) ∧ -400 ≤ tiltY n hs X Y ∧ tiltY n hs X Y ≤ 400 by
    have h0 : -100 ≤ cor0 n hs X Y ∧ cor0 n hs X Y ≤ 100 := hS.bd _
    have h1 : -100 ≤ cor1 n hs X Y ∧ cor1 n hs X Y ≤ 100 := hS.bd _
    have h2 : -100 ≤ cor2 n hs X Y ∧ cor2 n hs X Y ≤ 100 := hS.bd _
    have h3 : -100 ≤ cor3 n hs X Y ∧ cor3 n hs X Y ≤ 100 := hS.bd _
    unfold tiltX tiltY
    omega)
  obtain ⟨A, L, c, rfl, _⟩ := hS.is.open_
  clear hS
  refine (callsIn_wide (n := 3)).1 ?_
  refine callsIn_of_wp Try.func82 rfl trivial ?_ rfl
  simp only [Try.ntmps82, List.size_toArray, List.length_cons, List.length_nil, Nat.reduceAdd, Nat.reduceSub, Array.replicate_succ, Array.replicate_zero, List.push_toArray, List.append_toArray, List.nil_append, List.cons_append]
  have F1 : Fence.wide.fn 80 := trivial
  have F2 : Fence.wide.fn 75 := trivial
  have F3 : Fence.wide.fn 69 := trivial
  gi_wp2
  refine lay_in (fun W0 => Ext w W0 ∧ W0.cell? ⟨w.heap.size, 0, none⟩ = some (.int .i64 ((n : Int) + 1)) ∧ W0.cell? ⟨w.heap.size, 1, none⟩ = some (.int .i64 ((m : Int) + 1)) ∧ W0.cell? ⟨w.heap.size, 2, none⟩ = some (.int .i64 P) ∧ W0.cell? ⟨w.heap.size, 3, none⟩ = some (.slice A L c) ∧
    W0.cell? ⟨w.heap.size + 1, 0, none⟩ = some (.int .i64 lx) ∧ W0.cell? ⟨w.heap.size + 1, 1, none⟩ = some (.int .i64 ly) ∧ W0.cell? ⟨w.heap.size + 1, 2, none⟩ = some (.int .i64 lz)) ⟨by (repeat' (first | with_reducible exact Ext.refl _ | with_reducible apply Ext.alloc | with_reducible apply Ext.drew | with_reducible apply Ext.drewN | with_reducible refine Ext.setCell ?_ ?_ _ | with_reducible apply Ext.step | with_reducible assumption | with_reducible exact Nat.le_refl _ | (simp; done) | (simp; omega))), by go_cell, by go_cell, by go_cell, by go_cell, by go_cell, by go_cell, by go_cell⟩ ?_
  rintro W0 ⟨X0, c0, c1, c2, c3, b0, b1, b2⟩
  have HX0 := Lib.hid X0
  clear X0
  gi_loopw [6, 5, 7] (fun yv ov _ wr => ∃ k : Nat, k ≤ m ∧ yv = .int .i64 k ∧ shadeK.Own W0.heap.size wr ov ((List.range (k * n)).map fun j => seenC n m P hs lx ly lz (cx n j) (cy n j)) ∧ Ext W0 wr) (fun yv _ _ _ => m - (intOf yv).toNat)
  case atStart => exact ⟨0, by omega, rfl, by simpa using EK.Own.nil (K := shadeK) W0.heap.size W0, Ext.refl _⟩
  case round =>
    obtain ⟨k, hk, rfl, ho, hx⟩ := hrel
    obtain ⟨Av, kv, cv, rfl⟩ := ho.shape
    by_cases hlt : k < m
    · have d1 := hx.cell_some c1
      have l1 := cell_lt d1
      have HO := Lib.hid ho
      have HX := Lib.hid hx
      clear ho hx
      gi_wp2
      obtain ⟨wo, rfl⟩ : ∃ wo : World, wo = wr := ⟨_, rfl⟩
      gi_loopw [7, 5] (fun xv ov wr => ∃ j : Nat, j ≤ n ∧ xv = .int .i64 j ∧ shadeK.Own W0.heap.size wr ov ((List.range (k * n + j)).map fun j => seenC n m P hs lx ly lz (cx n j) (cy n j)) ∧ Ext W0 wr) (fun xv _ _ => n - (intOf xv).toNat)
      case atStart => exact ⟨0, by omega, rfl, HO.out, HX.out⟩
      case round =>
        obtain ⟨j, hj, rfl, ho, hx⟩ := hrel
        obtain ⟨Av2, kv2, cv2, rfl⟩ := ho.shape
        by_cases hjl : j < n
        · have e0 := hx.cell_some c0
          have e1 := hx.cell_some c1
          have e2 := hx.cell_some c2
          have e3 := hx.cell_some c3
          have e4 := hx.cell_some b0
          have e5 := hx.cell_some b1
          have e6 := hx.cell_some b2
          have le0 := cell_lt e0
          have le4 := cell_lt e4
          have HD := Lib.hid (refDark_any n m P (.slice A L c) hs lx ly lz j k wr (HS.out.ext (HX0.out.trans hx)) hjl hlt hl1 hl2 hl3 hl4 hl5 hl6)
          have HT := Lib.hid fun (Wd : World) (Y : Cells (fun b => b < w.heap.size) w Wd) => refTiltAt_any n m P (.slice A L c) hs j k Wd ⟨HS.out.is.cells Y (fun _ h => h), HS.out.ok⟩ hjl hlt
          have HSN := Lib.hid (show (List.range (k * n + (j + 1))).map (fun j => seenC n m P hs lx ly lz (cx n j) (cy n j)) = (List.range (k * n + j)).map (fun j => seenC n m P hs lx ly lz (cx n j) (cy n j)) ++ [seenC n m P hs lx ly lz j k] by
            rw [← Nat.add_assoc, List.range_succ, List.map_append, List.map_singleton, cx_at hjl, cy_at hjl])
          have HZ := Lib.hid (show ((List.range (k * n + j)).map fun j => seenC n m P hs lx ly lz (cx n j) (cy n j)).length ≤ 1000000000 by
            rw [List.length_map, List.length_range]
            have := Nat.mul_le_mul (show k ≤ 23 by omega) hn2
            omega)
          have HO := Lib.hid ho
          have HX := Lib.hid hx
          have HBB := Lib.hid (show W0.heap.size ≤ wr.heap.size from hx.bel.size)
          obtain ⟨sc, hsc⟩ : ∃ z, z = seenC n m P hs lx ly lz j k := ⟨_, rfl⟩
          rw [← hsc] at HSN
          have HSC := Lib.hid (show sc = if darkB n m P hs lx ly lz j k then (0, 1) else (shadeN (tiltX n hs j k) (tiltY n hs j k) P lx ly lz, shadeD (tiltX n hs j k) (tiltY n hs j k) P lx ly lz) by rw [hsc]; rfl)
          obtain ⟨⟨tb1, tb2⟩, tb3, tb4⟩ := HTB.out j k
          generalize tiltX n hs j k = tx at *
          generalize tiltY n hs j k = ty at *
          have hnot : ∀ b, b < W0.heap.size → b ∉ (Value.slice Av2 kv2 cv2).ownBlock.toList := fun b hb => notin_own (fun g hg => by have := ho.lt g hg; omega)
          clear hsc ho hx
          cases hd : darkB n m P hs lx ly lz j k
          · rw [hd] at HD HSC
            clear hd
            gi_wp2
            refine (callsIn_wide.2 HD.out).mono ?_
            rintro e W2 ⟨rfl, x2⟩
            have HX2 := Lib.hid x2
            have q0 := But.cells (D := (Value.slice Av2 kv2 cv2).ownBlock.toList) (x2.cell_some e0) (hnot _ (cell_lt c0))
            have q1 := But.cells (D := (Value.slice Av2 kv2 cv2).ownBlock.toList) (x2.cell_some e1) (hnot _ (cell_lt c0))
            have q2 := But.cells (D := (Value.slice Av2 kv2 cv2).ownBlock.toList) (x2.cell_some e2) (hnot _ (cell_lt c0))
            have q3 := But.cells (D := (Value.slice Av2 kv2 cv2).ownBlock.toList) (x2.cell_some e3) (hnot _ (cell_lt c0))
            have q4 := But.cells (D := (Value.slice Av2 kv2 cv2).ownBlock.toList) (x2.cell_some e4) (hnot _ (cell_lt b0))
            have q5 := But.cells (D := (Value.slice Av2 kv2 cv2).ownBlock.toList) (x2.cell_some e5) (hnot _ (cell_lt b0))
            have q6 := But.cells (D := (Value.slice Av2 kv2 cv2).ownBlock.toList) (x2.cell_some e6) (hnot _ (cell_lt b0))
            have HSB := Lib.hid fun Wd : World => refShade_any tx ty P lx ly lz Wd tb1 tb2 tb3 tb4 hp1 hp2 hl1 hl2 hl3 hl4 hl5 hl6
            have HTD := Lib.hid fun (δ : BBut (Value.slice Av2 kv2 cv2).ownBlock.toList W2) => HT.out δ.wd ⟨Nat.le_trans ((HX0.out.trans HX.out).trans HX2.out).bel.size δ.but.size, fun b o v hb hc => δ.but.cell (((HX0.out.trans HX.out).trans HX2.out).cell_some hc) (hnot b (Nat.lt_of_lt_of_le hb HX0.out.bel.size))⟩
            clear x2 hnot
            gi_wp2
            refine wpIn_region_steps (Value.slice Av2 kv2 cv2).ownBlock.toList 11 [(0, true), (1, true), (2, true), (3, true), (4, true), (5, true), (6, true), (7, true), (8, true), (9, false), (10, false)] (by kernel_rfl) (by kernel_rfl) ?_
            repeat (refine wpSD_q (by rfl) (fun _ _ _ => trivial) (fun K hK => ?_); go_simp; refine hK _ ?_; clear hK K)
            refine wpSD_q (by rfl) (fun _ _ _ => trivial) (fun K hK => ?_)
            go_simp
            refine ⟨tiltV tx ty, fun δ => callsIn_wide.2 (HTD.out δ), hK _ ?_⟩
            clear hK K
            repeat (refine wpSD_q (by rfl) (fun _ _ _ => trivial) (fun K hK => ?_); go_simp; refine hK _ ?_; clear hK K)
            refine wpSD_q (by rfl) (fun _ _ _ => trivial) (fun K hK => ?_)
            go_simp
            refine ⟨shadeV (shadeN tx ty P lx ly lz) (shadeD tx ty P lx ly lz), fun δ => callsIn_wide.2 (HSB.out δ.wd), hK _ ?_⟩
            clear hK K
            refine wpSD_m (by rfl) (fun _ _ _ => trivial) (fun δ K hK => ?_)
            go_simp
            refine ⟨((Ext.refl _).alloc _).but, hK _ _ ?_⟩
            clear hK K
            have Xd : Ext W2 δ.wd := ⟨δ, rfl⟩
            refine EK.app_s (K := shadeK) (B := W0.heap.size) (v := .slice Av2 kv2 cv2) (by rfl) rfl (.tmp 31) (.tmp 40) rfl δ.wd.heap.size 1 (shadeN tx ty P lx ly lz, shadeD tx ty P lx ly lz) rfl rfl (fun i u hu => cell_new hu) (HO.out.ext ((HX2.out.trans Xd).alloc _)) (Nat.le_trans HBB.out ((HX2.out.trans Xd).alloc _).bel.size) HZ.out ?_
            intro v' w3 w4 o3 x3 g3
            obtain ⟨Av3, kv3, cv3, rfl⟩ := o3.shape
            refine wpSD_nil ?_
            intro w5 x5
            have HX5 := Lib.hid (show Ext W0 w5 from ((((HX.out.trans HX2.out).trans Xd).alloc _).trans x3 |>.below ((Below.refl W0.heap.size w3).grown g3 (Nat.le_trans HBB.out (((HX2.out.trans Xd).alloc _).trans x3).bel.size) (fun r e => (HO.out.lt r e).1)) (Nat.le_refl _)).trans x5)
            have HO3 := Lib.hid (show shadeK.Own W0.heap.size w5 (.slice Av3 kv3 cv3) _ from o3.ext x5)
            clear o3 x3 g3 x5 q0 q1 q2 q3 q4 q5 q6
            simp only [List.drop_succ_cons, List.drop_zero]
            gi_wp2
            go_roundw
            case rel => exact ⟨j + 1, by omega, by go_num, by rw [HSN.out, HSC.out]; exact HO3.out, HX5.out⟩
            case measure => simp [intOf]; omega
          · rw [hd] at HD HSC
            clear hd hnot
            gi_wp2
            refine (callsIn_wide.2 HD.out).mono ?_
            rintro e W2 ⟨rfl, x2⟩
            have HX2 := Lib.hid x2
            clear x2
            gi_wp2_with (gi_at_builtin; refine EK.app_in (K := shadeK) (B := W0.heap.size) rfl (.tmp 27) (.tmp 29) rfl W2.heap.size 1 ((0 : Int), (1 : Int)) rfl rfl (fun i u hu => cell_new hu) (HO.out.ext (HX2.out.alloc _)) (Nat.le_trans HBB.out (HX2.out.alloc _).bel.size) HZ.out ?_; intro v' w3 o3 b3 _; obtain ⟨Av3, kv3, cv3, rfl⟩ := o3.shape; have HO3 := Lib.hid o3; have HB3 := Lib.hid b3; clear o3 b3)
            go_roundw
            case rel => exact ⟨j + 1, by omega, by go_num, by rw [HSN.out, HSC.out]; exact HO3.out, ((HX.out.trans HX2.out).alloc _).below HB3.out (Nat.le_refl _)⟩
            case measure => simp [intOf]; omega
        · obtain rfl : j = n := by omega
          have e0 := hx.cell_some c0
          have le0 := cell_lt e0
          have HO := Lib.hid (show shadeK.Own W0.heap.size wr (.slice Av2 kv2 cv2) ((List.range ((k + 1) * j)).map fun i => seenC j m P hs lx ly lz (cx j i) (cy j i)) by rw [Nat.succ_mul]; exact ho)
          have HX := Lib.hid hx
          clear ho hx
          gi_wp2
          go_roundw
          case rel => exact ⟨k + 1, by omega, by go_num, HO.out, HX.out⟩
          case measure => simp [intOf]; omega
    · obtain rfl : k = m := by omega
      have d1 := hx.cell_some c1
      have l1 := cell_lt d1
      have HO := Lib.hid ho
      have HX := Lib.hid hx
      clear ho hx
      gi_wp2
      go_ret
      exact ⟨_, rfl, HO.out.mono HX0.out.bel.size, HX0.out.trans HX.out⟩
end Go.Proofs.Ytlljhimaopnbfaa
