/- light.shadow. Conditions: a field lies there; bounds. -/
import Derived.Test.YtlljhimaopnbfaaLSha
namespace Go.Proofs.Ytlljhimaopnbfaa
open Go.RowKit Go.Shelf

set_option maxRecDepth 100000 in
set_option maxHeartbeats 4000000 in
theorem shadow_any (B n m : Nat) (p : Int) (hs : List Int) (lx ly lz : Int) (x y : Nat) (w : World) (hF : Fld w B n m p hs) (hx : x < n) (hy : y < m)
    (hl1 : -30 ≤ lx) (hl2 : lx ≤ 30) (hl3 : -30 ≤ ly) (hl4 : ly ≤ 30) (hl5 : 1 ≤ lz) (hl6 : lz ≤ 30) :
    Calls Try.prog 78 #[.pointer (some ⟨B, 0, none⟩), lightV lx ly lz, .int .i64 x, .int .i64 y] w fun e w' => e = .returned (.bool (darkB n m p hs lx ly lz x y)) ∧ Ext w w' := by
  have HF := Lib.hid hF
  have hn2 := hF.at_.n2
  have hm2 := hF.at_.m2
  have hB := cell_lt hF.at_.fw
  clear hF
  have HD := Lib.hid fun W : World => (show Calls Try.prog 95 #[.int .i64 lx, .int .i64 ly] W fun e w' => e = .returned (.int .i64 (gL lx ly)) ∧ Ext W w' from divisor_any lx ly W (by omega) (by omega) (by omega) (by omega))
  have HGL := Lib.hid (gL_le hl1 hl2 hl3 hl4)
  by_cases hg : gL lx ly = 0
  · have HR := Lib.hid (show darkB n m p hs lx ly lz x y = false from dark_flat hg)
    rw [hg] at HD
    go_enter Try.func78, Try.ntmps78
    go_wp2_with fail
    go_step3
    go_wp2_with fail
    refine (HD.out _).mono ?_
    rintro e _ ⟨rfl, hx⟩
    obtain ⟨δ, rfl⟩ : Ext (w.alloc (.cells #[.int .i64 lx, .int .i64 ly, .int .i64 lz] 25)) _ := Ext.trans (by (repeat' (first | with_reducible exact Ext.refl _ | with_reducible apply Ext.alloc | with_reducible apply Ext.drew | with_reducible apply Ext.drewN | with_reducible refine Ext.setCell ?_ ?_ _ | with_reducible apply Ext.step | with_reducible assumption | with_reducible exact Nat.le_refl _ | (simp; done) | (simp; omega)))) hx
    clear hx
    try (have hs0 := δ.lt (w.heap.size) (by first | (simp; done) | (simp; omega)))
    go_wp2_with fail
    rw [Exit.noGoto_ret]
    go_ret
    exact ⟨by rw [HR.out]; rfl, by (repeat' (first | with_reducible exact Ext.refl _ | with_reducible apply Ext.alloc | with_reducible apply Ext.drew | with_reducible apply Ext.drewN | with_reducible refine Ext.setCell ?_ ?_ _ | with_reducible apply Ext.step | with_reducible assumption | with_reducible exact Nat.le_refl _ | (simp; done) | (simp; omega)))⟩
  · obtain ⟨mv, cm, hM⟩ := HF.out.mm
    have hlen : (midsL n m hs).length = m * n := by simp [midsL]
    have hN : 1 ≤ m * n := Nat.mul_pos (by omega) (by omega)
    obtain ⟨bm, om, cc, rfl, hbm, hcm⟩ := intK_at hM (by rw [hlen]; exact hN)
    have hNN : m * n ≤ 23 * 23 := Nat.mul_le_mul hm2 hn2
    have HMC := Lib.hid fun (X Y : Nat) (hX : X < n) (hY : Y < m) => (show Y * n + X < (midsL n m hs).length ∧ w.cell? ⟨bm, om + (Y * n + X), none⟩ = some (.int .i64 (midC n hs X Y)) by
      have h : Y * n + X < m * n := by
        have : (Y + 1) * n ≤ m * n := Nat.mul_le_mul_right _ hY
        rw [Nat.succ_mul] at this
        omega
      rw [← hlen] at h
      exact ⟨h, by rw [hcm _ h, mids_at hX hY]⟩)
    have cp := HF.out.at_.fp
    have hp1 := HF.out.at_.p1
    have hp2 := HF.out.at_.p2
    generalize (midsL n m hs).length = N at *
    have HDX := Lib.hid (gL_x lx ly)
    have HDY := Lib.hid (gL_y lx ly)
    have HQX := Lib.hid fun k : Int => ray_divx hg k
    have HQY := Lib.hid fun k : Int => ray_divy hg k
    have HG := Lib.hid hg
    have hg1 : 1 ≤ gL lx ly := by have := gL_nonneg lx ly; omega
    have hg2 := HGL.out
    obtain ⟨dx1, dx2⟩ := quo_bd hg1 HDX.out hl1 hl2
    obtain ⟨dy1, dy2⟩ := quo_bd hg1 HDY.out hl3 hl4
    have HRX := Lib.hid fun k : Nat => (show rayX lx ly x k = (x : Int) + (k : Int) * (lx / gL lx ly) from rfl)
    have HRY := Lib.hid fun k : Nat => (show rayY lx ly y k = (y : Int) + (k : Int) * (ly / gL lx ly) from rfl)
    have HHI := Lib.hid fun (k X Y : Nat) (hX : rayX lx ly x k = X) (hY : rayY lx ly y k = Y) (hi : inC n m X Y = true) => (show hitB n m p hs lx ly lz x y k = decide (4 * (k : Int) * p * lz < gL lx ly * (midC n hs X Y - midC n hs x y)) by
      rw [hitB, hX, hY, hi, Bool.true_and, Int.toNat_natCast, Int.toNat_natCast])
    have HMB := Lib.hid fun X Y : Nat => mid_bd HF.out.at_ X Y
    have HIN := Lib.hid fun (k : Nat) (hi : inC n m (rayX lx ly x k) (rayY lx ly y k) = true) => in_lt hx hy hn2 hm2 hg hi
    obtain ⟨own, hown⟩ : ∃ o : Nat, o = y * n + x := ⟨_, rfl⟩
    obtain ⟨ho1, ho2⟩ := HMC.out x y hx hy
    rw [← hown] at ho1 ho2
    have hbo := HMB.out x y
    obtain ⟨m0, hm0⟩ : ∃ z, z = midC n hs x y := ⟨_, rfl⟩
    rw [← hm0] at ho2 hbo HHI
    have e0 : (y : Int) * (n : Int) + (x : Int) = (own : Int) := by rw [hown]; simp
    have hg0 : ((gL lx ly : Int) == 0) = false := by simpa using hg
    have HNO := Lib.hid fun k : Nat => @dark_no n m p hs lx ly lz x y k hx hy
    have HYES := Lib.hid fun k : Nat => @dark_yes n m p hs lx ly lz x y k hg
    have HAT := Lib.hid fun (X Y : Int) (W : World) (hx : Ext w W) => at_any B n m p hs X Y W (HF.out.at_.ext hx)
    generalize gL lx ly = g at *
    generalize lx / g = dx at *
    generalize ly / g = dy at *
    have HOWN := Lib.hid hown
    clear hown hm0 hlen hcm hM hg
    have hinc : inC n m x y = true := inC_iff.2 ⟨⟨by omega, by omega⟩, by omega, by omega⟩
    have HAT0 := Lib.hid fun (W : World) (hx : Ext w W) => (show Calls Try.prog 110 #[.pointer (some ⟨B, 0, none⟩), .int .i64 x, .int .i64 y] W fun e w' => e = .returned (.tuple #[.int .i64 own, .bool true]) ∧ Ext W w' by
      have := HAT.out x y W hx (by omega) (by omega) (by omega) (by omega)
      rwa [e0, hinc] at this)
    clear hinc e0
    go_enter Try.func78, Try.ntmps78
    go_wp2_with fail
    go_step3
    go_wp2_with fail
    refine (HD.out _).mono ?_
    rintro e _ ⟨rfl, hx⟩
    obtain ⟨δ, rfl⟩ : Ext (w.alloc (.cells #[.int .i64 lx, .int .i64 ly, .int .i64 lz] 25)) _ := Ext.trans (by (repeat' (first | with_reducible exact Ext.refl _ | with_reducible apply Ext.alloc | with_reducible apply Ext.drew | with_reducible apply Ext.drewN | with_reducible refine Ext.setCell ?_ ?_ _ | with_reducible apply Ext.step | with_reducible assumption | with_reducible exact Nat.le_refl _ | (simp; done) | (simp; omega)))) hx
    clear hx
    try (have hs0 := δ.lt (w.heap.size) (by first | (simp; done) | (simp; omega)))
    go_wp2_with fail
    refine (HAT0.out _ (by (repeat' (first | with_reducible exact Ext.refl _ | with_reducible apply Ext.alloc | with_reducible apply Ext.drew | with_reducible apply Ext.drewN | with_reducible refine Ext.setCell ?_ ?_ _ | with_reducible apply Ext.step | with_reducible assumption | with_reducible exact Nat.le_refl _ | (simp; done) | (simp; omega))))).mono ?_
    rintro e _ ⟨rfl, hx⟩
    obtain ⟨δ, rfl⟩ : Ext (w.alloc (.cells #[.int .i64 lx, .int .i64 ly, .int .i64 lz] 25)) _ := Ext.trans (by (repeat' (first | with_reducible exact Ext.refl _ | with_reducible apply Ext.alloc | with_reducible apply Ext.drew | with_reducible apply Ext.drewN | with_reducible refine Ext.setCell ?_ ?_ _ | with_reducible apply Ext.step | with_reducible assumption | with_reducible exact Nat.le_refl _ | (simp; done) | (simp; omega)))) hx
    clear hx
    try (have hs0 := δ.lt (w.heap.size) (by first | (simp; done) | (simp; omega)))
    go_wp2_with fail
    refine lay_wp (fun W => Ext w W ∧ W.cell? ⟨w.heap.size, 0, none⟩ = some (.int .i64 lx) ∧ W.cell? ⟨w.heap.size, 1, none⟩ = some (.int .i64 ly) ∧ W.cell? ⟨w.heap.size, 2, none⟩ = some (.int .i64 lz)) ⟨by (repeat' (first | with_reducible exact Ext.refl _ | with_reducible apply Ext.alloc | with_reducible apply Ext.drew | with_reducible apply Ext.drewN | with_reducible refine Ext.setCell ?_ ?_ _ | with_reducible apply Ext.step | with_reducible assumption | with_reducible exact Nat.le_refl _ | (simp; done) | (simp; omega))), by go_cell, by go_cell, by go_cell⟩ ?_
    rintro W0 ⟨X0, b0, b1, b2⟩
    have HX0 := Lib.hid X0
    have c4 := X0.cell_some cm
    have cp0 := X0.cell_some cp
    have co0 := X0.cell_some ho2
    have hBm0 := cell_lt co0
    have hB0 := cell_lt c4
    have hl0 := cell_lt b0
    clear X0 cm cp ho2
    go_step3
    go_wp2_with fail
    go_loopw [12, 13, 14, 52, 55] (fun kv _ _ _ _ wr => ∃ k : Nat, 1 ≤ k ∧ k ≤ 24 ∧ kv = .int .i64 k ∧ Hid (∀ j, 1 ≤ j → j < k → hitB n m p hs lx ly lz x y j = false) ∧ Ext W0 wr) (fun kv _ _ _ _ _ => 25 - (intOf kv).toNat)
    case atStart => exact ⟨1, by omega, by omega, rfl, (fun j h1 h2 => by omega), Ext.refl _⟩
    case round =>
      obtain ⟨k, hk1, hk2, rfl, Hh, hx0⟩ := hrel
      have HXR := Lib.hid hx0
      have d0 := hx0.cell_some b0
      have d1 := hx0.cell_some b1
      have d2 := hx0.cell_some b2
      have d4 := hx0.cell_some c4
      have dp := hx0.cell_some cp0
      have dO := hx0.cell_some co0
      have l0 := cell_lt d0
      have l4 := cell_lt d4
      have lO := cell_lt dO
      clear hx0
      obtain ⟨u1, u2⟩ := abs_mul_bd (a := (k : Int)) (A := 24) (b := lx) (B := 30) (by omega) (by omega) hl1 hl2
      obtain ⟨u3, u4⟩ := abs_mul_bd (a := (k : Int)) (A := 24) (b := ly) (B := 30) (by omega) (by omega) hl3 hl4
      obtain ⟨u5, u6⟩ := abs_mul_bd (a := (k : Int)) (A := 24) (b := dx) (B := 30) (by omega) (by omega) dx1 dx2
      obtain ⟨u7, u8⟩ := abs_mul_bd (a := (k : Int)) (A := 24) (b := dy) (B := 30) (by omega) (by omega) dy1 dy2
      have HRXk := Lib.hid (HRX.out k)
      have HRYk := Lib.hid (HRY.out k)
      have HATk := Lib.hid fun (W : World) (hx : Ext w W) => HAT.out ((x : Int) + (k : Int) * dx) ((y : Int) + (k : Int) * dy) W hx (by omega) (by omega) (by omega) (by omega)
      have q1 := HQX.out k
      have q2 := HQY.out k
      obtain ⟨kx, hkx⟩ : ∃ z, z = (k : Int) * dx := ⟨_, rfl⟩
      obtain ⟨ky, hky⟩ : ∃ z, z = (k : Int) * dy := ⟨_, rfl⟩
      rw [← hkx] at q1 u5 u6 HRXk HATk
      rw [← hky] at q2 u7 u8 HRYk HATk
      clear hkx hky
      have w1 : IntKind.i64.wrap ((k : Int) * lx) = (k : Int) * lx := IntWalk.i64_in _ (by omega)
      have w2 : IntKind.i64.wrap ((k : Int) * ly) = (k : Int) * ly := IntWalk.i64_in _ (by omega)
      have w3 : IntKind.i64.wrap kx = kx := IntWalk.i64_in _ (by omega)
      have w4 : IntKind.i64.wrap ky = ky := IntWalk.i64_in _ (by omega)
      have w5 : IntKind.i64.wrap ((x : Int) + kx) = (x : Int) + kx := IntWalk.i64_in _ (by omega)
      have w6 : IntKind.i64.wrap ((y : Int) + ky) = (y : Int) + ky := IntWalk.i64_in _ (by omega)
      cases hin : inC n m ((x : Int) + kx) ((y : Int) + ky)
      · rw [hin] at HATk
        have HIN' := Lib.hid hin
        clear hin
        go_wp2_with fail
        refine wp_region_bext (by kernel_rfl) (by kernel_rfl) ?_
        repeat (any_goals (go_big_quiet_step (((go_at_call 110; exact bext_call (HATk.out _ ((HX0.out.trans HXR.out).step _)))))))
        all_goals refine wpQuiet_nil ?_
        all_goals rintro _ ⟨δ, rfl⟩
        clear q1 q2 w1 w2 w3 w4 w5 w6
        go_wp2_with fail
        rw [Exit.noGoto_ret]
        go_ret
        exact ⟨ret_b (HNO.out k Hh.out (by rw [HRXk.out, HRYk.out]; exact HIN'.out)).symm, (HX0.out.trans HXR.out).step _⟩
      · obtain ⟨⟨i1, i2⟩, i3, i4⟩ := inC_iff.1 hin
        obtain ⟨X, hX⟩ : ∃ X : Nat, (x : Int) + kx = X := ⟨((x : Int) + kx).toNat, by omega⟩
        obtain ⟨Y, hY⟩ : ∃ Y : Nat, (y : Int) + ky = Y := ⟨((y : Int) + ky).toNat, by omega⟩
        have hk3 : k < 24 := HIN.out k (by rw [HRXk.out, HRYk.out]; exact hin)
        have HHIk := Lib.hid (HHI.out k X Y (HRXk.out.trans hX) (HRYk.out.trans hY) (by rw [← hX, ← hY]; exact hin))
        obtain ⟨hq1, hq2⟩ := HMC.out X Y (by omega) (by omega)
        obtain ⟨qq, hqq⟩ : ∃ z, z = Y * n + X := ⟨_, rfl⟩
        rw [← hqq] at hq1 hq2
        rw [hin, hX, hY, show (Y : Int) * (n : Int) + (X : Int) = (qq : Int) by rw [hqq]; simp] at HATk
        have hbm1 := HMB.out X Y
        generalize midC n hs X Y = m1 at *
        have dq := HXR.out.cell_some (HX0.out.cell_some hq2)
        have HHX := Lib.hid hX
        have HHY := Lib.hid hY
        clear hqq hq2 hX hY hin i1 i2 i3 i4
        rw [HHX.out] at w5
        rw [HHY.out] at w6
        have e5 := HHX.out
        have e6 := HHY.out
        go_wp2_with fail
        refine wp_region_bext (by kernel_rfl) (by kernel_rfl) ?_
        repeat (any_goals (go_big_quiet_step (((go_at_call 110; exact bext_call (HATk.out _ ((HX0.out.trans HXR.out).step _)))))))
        all_goals refine wpQuiet_nil ?_
        all_goals rintro _ ⟨δ, rfl⟩
        clear q1 q2 w1 w2 w3 w4 w5 w6 e5 e6
        go_wp2_with fail
        obtain ⟨v1, v2⟩ := abs_mul_bd (a := g) (A := 30) (b := m1 - m0) (B := 800) (by omega) hg2 (by omega) (by omega)
        obtain ⟨v3, v4⟩ := mul_bd (a := 4 * (k : Int)) (A := 96) (b := p) (B := 100) (by omega) (by omega) (by omega) hp2
        obtain ⟨v5, v6⟩ := mul_bd (a := 4 * (k : Int) * p) (A := 9600) (b := lz) (B := 30) v3 v4 (by omega) hl6
        have s1 : IntKind.i64.wrap (m1 - m0) = m1 - m0 := IntWalk.i64_in _ (by omega)
        have s2 : IntKind.i64.wrap (g * (m1 - m0)) = g * (m1 - m0) := IntWalk.i64_in _ (by omega)
        have s3 : IntKind.i64.wrap (4 * (k : Int)) = 4 * (k : Int) := IntWalk.i64_in _ (by omega)
        have s4 : IntKind.i64.wrap (4 * (k : Int) * p) = 4 * (k : Int) * p := IntWalk.i64_in _ (by omega)
        have s5 : IntKind.i64.wrap (4 * (k : Int) * p * lz) = 4 * (k : Int) * p * lz := IntWalk.i64_in _ (by omega)
        cases hd : decide (4 * (k : Int) * p * lz < g * (m1 - m0))
        · have HN1 := Lib.hid (show ∀ j, 1 ≤ j → j < k + 1 → hitB n m p hs lx ly lz x y j = false from fun j h1 h2 => by
            rcases (by omega : j < k ∨ j = k) with h | rfl
            · exact Hh.out j h1 h
            · rw [HHIk.out, hd])
          refine wp_region_bext (by kernel_rfl) (by kernel_rfl) ?_
          repeat (any_goals (go_big_quiet_step (fail)))
          all_goals refine wpQuiet_nil ?_
          all_goals rintro _ ⟨δ, rfl⟩
          clear s1 s2 s3 s4 s5
          go_wp2_with fail
          go_roundw
          case rel => exact ⟨k + 1, by omega, by omega, by go_num, HN1, (HXR.out.step _).step _⟩
          case measure => simp [intOf]; omega
        · have HN1 := Lib.hid (HYES.out k hk1 hk3 (by rw [HHIk.out, hd]))
          refine wp_region_bext (by kernel_rfl) (by kernel_rfl) ?_
          repeat (any_goals (go_big_quiet_step (fail)))
          all_goals refine wpQuiet_nil ?_
          all_goals rintro _ ⟨δ, rfl⟩
          clear s1 s2 s3 s4 s5
          go_wp2_with fail
          rw [Exit.noGoto_ret]
          go_ret
          exact ⟨ret_b HN1.out.symm, ((HX0.out.trans HXR.out).step _).step _⟩
end Go.Proofs.Ytlljhimaopnbfaa
