/- light.Shadows. Condition: the slice reads as a list. -/
import Derived.Test.YtlljhimaopnbfaaQS
import Derived.Test.YtlljhimaopnbfaaLX
import Derived.Test.YtlljhimaopnbfaaLFac
namespace Go.Proofs.Ytlljhimaopnbfaa
section
/- LSha: light.at and shadow. Conditions: a field lies there; bounds. -/
open Go.RowKit Go.Shelf

attribute [local go_sem] Oper.semAt_some

theorem lfrom_one' (x lo hi : Int) (b c : Nat) (w : World) (h : w.cell? ⟨b, 0, none⟩ = some (.int .i64 x)) {r : Bool} (hr : inB lo hi x = r) :
    Calls Try.prog 64 #[.int .i64 lo, .int .i64 hi, .slice (some ⟨b, 0, none⟩) 1 c] w fun e w' => e = .returned (.bool r) ∧ Ext w w' := by
  have := lfrom_one b x lo hi c w h
  rwa [hr] at this

set_option maxRecDepth 100000 in
set_option maxHeartbeats 4000000 in
theorem at_any (B n m : Nat) (p : Int) (hs : List Int) (x y : Int) (w : World) (hF : FieldAt w B n m p hs) (hx1 : -1000 ≤ x) (hx2 : x ≤ 1000) (hy1 : -1000 ≤ y) (hy2 : y ≤ 1000) :
    Calls Try.prog 110 #[.pointer (some ⟨B, 0, none⟩), .int .i64 x, .int .i64 y] w fun e w' => e = .returned (.tuple #[.int .i64 (y * (n : Int) + x), .bool (inC n m x y)]) ∧ Ext w w' := by
  have g0 := But.cells (D := []) hF.fw (by simp)
  have g1 := But.cells (D := []) hF.fh (by simp)
  have e0 := hF.fw
  have e1 := hF.fh
  have hB := cell_lt e0
  have hn1 := hF.n1
  have hn2 := hF.n2
  have hm1 := hF.m1
  have hm2 := hF.m2
  clear hF
  obtain ⟨a1, a2⟩ := abs_mul_bd (A := 1000) (B := 23) hy1 hy2 (show -23 ≤ (n : Int) by omega) (show (n : Int) ≤ 23 by omega)
  have i0 : IntKind.i64.wrap (n : Int) = n := IntWalk.i64_in _ (by omega)
  have i1 : IntKind.i64.wrap (y * (n : Int)) = y * n := IntWalk.i64_in _ (by omega)
  have i2 : IntKind.i64.wrap (y * (n : Int) + x) = y * n + x := IntWalk.i64_in _ (by omega)
  have i3 : IntKind.i64.wrap ((n : Int) + 1 - 2) = (n : Int) - 1 := by rw [IntWalk.i64_in _ (by omega)]; omega
  have i4 : IntKind.i64.wrap ((m : Int) + 1 - 2) = (m : Int) - 1 := by rw [IntWalk.i64_in _ (by omega)]; omega
  have F1 : Fence.wide.fn 64 := trivial
  have HR := Lib.hid (show inC n m x y = (inB 0 ((n : Int) - 1) x && inB 0 ((m : Int) - 1) y) from rfl)
  refine (callsIn_wide (n := 3)).1 ?_
  refine callsIn_of_wp Try.func110 rfl trivial ?_ rfl
  simp only [Try.ntmps110, List.size_toArray, List.length_cons, List.length_nil, Nat.reduceAdd, Nat.reduceSub, Array.replicate_succ, Array.replicate_zero, List.push_toArray, List.append_toArray, List.nil_append, List.cons_append]
  gi_wp2
  cases h1 : inB 0 ((n : Int) - 1) x
  · have H1 := Lib.hid h1
    clear h1
    refine wpIn_region_steps [] 31 [(0, true), (1, true), (2, true), (3, true), (4, true), (5, true), (6, true), (7, true), (8, true), (9, true), (10, true), (11, true), (12, true), (13, true), (14, true), (15, true), (16, true), (17, false), (18, false), (19, false), (20, true), (21, true), (22, true), (23, true), (24, true), (25, true), (26, true), (27, false), (28, false), (29, true), (30, false)] (by kernel_rfl) (by kernel_rfl) ?_
    repeat (refine wpSD_q (by rfl) (fun _ _ _ => trivial) (fun K hK => ?_); go_simp; refine hK _ ?_; clear hK K)
    refine wpSD_m (by rfl) (fun _ _ _ => trivial) (fun δ K hK => ?_)
    go_simp
    refine ⟨((Ext.refl _).alloc _).but, hK _ _ ?_⟩
    clear hK K
    refine wpSD_m (by rfl) (fun _ _ _ => trivial) (fun δ2 K hK => ?_)
    go_simp
    refine (callsIn_wide.2 (lfrom_one' x _ _ _ _ _ (by go_cell) H1.out)).mono ?_
    rintro e w3 ⟨rfl, x3⟩
    refine ⟨_, rfl, x3.but, hK _ _ ?_⟩
    have X3 : Ext w w3 := Ext.trans (by (repeat' (first | with_reducible exact Ext.refl _ | with_reducible apply Ext.alloc | with_reducible apply Ext.drew | with_reducible apply Ext.drewN | with_reducible refine Ext.setCell ?_ ?_ _ | with_reducible apply Ext.step | with_reducible assumption | with_reducible exact Nat.le_refl _ | (simp; done) | (simp; omega)))) x3
    clear hK K x3
    refine wpSD_m (by rfl) (fun _ _ _ => trivial) (fun δ3 K hK => ?_)
    go_simp
    refine ⟨(Ext.refl _).but, hK _ _ ?_⟩
    clear hK K
    have X4 : Ext w δ3.wd := X3.trans ⟨δ3, rfl⟩
    clear g0 g1
    have g1 := But.cells (D := []) (X4.cell_some e1) (by simp)
    repeat (refine wpSD_q (by rfl) (fun _ _ _ => trivial) (fun K hK => ?_); go_simp; refine hK _ ?_; clear hK K)
    refine wpSD_m (by rfl) (fun _ _ _ => trivial) (fun δ5 K hK => ?_)
    go_simp
    refine hK _ _ ?_
    clear hK K
    refine wpSD_m (by rfl) (fun _ _ _ => trivial) (fun δ6 K hK => ?_)
    go_simp
    refine hK _ _ ?_
    clear hK K
    refine wpSD_q (by rfl) (fun _ _ _ => trivial) (fun K hK => ?_)
    go_simp
    refine hK _ ?_
    clear hK K
    refine wpSD_m (by rfl) (fun _ _ _ => trivial) (fun δ7 K hK => ?_)
    go_simp
    refine ⟨(Ext.refl _).but, hK _ _ ?_⟩
    clear hK K
    have XX : Ext w δ7.wd := ((X4.trans ⟨δ5, rfl⟩).trans ⟨δ6, rfl⟩).trans ⟨δ7, rfl⟩
    refine wpSD_nil ?_
    intro w9 x9
    have HX9 := Lib.hid (XX.trans x9)
    clear x9 XX
    simp only [List.drop_succ_cons, List.drop_zero]
    gi_wp2
    go_ret2
    exact ⟨by rw [HR.out, H1.out]; rfl, HX9.out⟩
  · have H1 := Lib.hid h1
    clear h1
    cases h2 : inB 0 ((m : Int) - 1) y
    all_goals
      have H2 := Lib.hid h2
      clear h2
      refine wpIn_region_steps [] 31 [(0, true), (1, true), (2, true), (3, true), (4, true), (5, true), (6, true), (7, true), (8, true), (9, true), (10, true), (11, true), (12, true), (13, true), (14, true), (15, true), (16, true), (17, false), (18, false), (19, false), (20, true), (21, true), (22, true), (23, true), (24, true), (25, true), (26, true), (27, false), (28, false), (29, true), (30, false)] (by kernel_rfl) (by kernel_rfl) ?_
      repeat (refine wpSD_q (by rfl) (fun _ _ _ => trivial) (fun K hK => ?_); go_simp; refine hK _ ?_; clear hK K)
      refine wpSD_m (by rfl) (fun _ _ _ => trivial) (fun δ K hK => ?_)
      go_simp
      refine ⟨((Ext.refl _).alloc _).but, hK _ _ ?_⟩
      clear hK K
      refine wpSD_m (by rfl) (fun _ _ _ => trivial) (fun δ2 K hK => ?_)
      go_simp
      refine (callsIn_wide.2 (lfrom_one' x _ _ _ _ _ (by go_cell) H1.out)).mono ?_
      rintro e w3 ⟨rfl, x3⟩
      refine ⟨_, rfl, x3.but, hK _ _ ?_⟩
      have X3 : Ext w w3 := Ext.trans (by (repeat' (first | with_reducible exact Ext.refl _ | with_reducible apply Ext.alloc | with_reducible apply Ext.drew | with_reducible apply Ext.drewN | with_reducible refine Ext.setCell ?_ ?_ _ | with_reducible apply Ext.step | with_reducible assumption | with_reducible exact Nat.le_refl _ | (simp; done) | (simp; omega)))) x3
      clear hK K x3
      refine wpSD_m (by rfl) (fun _ _ _ => trivial) (fun δ3 K hK => ?_)
      go_simp
      refine ⟨(Ext.refl _).but, hK _ _ ?_⟩
      clear hK K
      have X4 : Ext w δ3.wd := X3.trans ⟨δ3, rfl⟩
      clear g0 g1
      have g1 := But.cells (D := []) (X4.cell_some e1) (by simp)
      repeat (refine wpSD_q (by rfl) (fun _ _ _ => trivial) (fun K hK => ?_); go_simp; refine hK _ ?_; clear hK K)
      refine wpSD_m (by rfl) (fun _ _ _ => trivial) (fun δ5 K hK => ?_)
      go_simp
      refine ⟨((Ext.refl _).alloc _).but, hK _ _ ?_⟩
      clear hK K
      refine wpSD_m (by rfl) (fun _ _ _ => trivial) (fun δ6 K hK => ?_)
      go_simp
      refine (callsIn_wide.2 (lfrom_one' y _ _ _ _ _ (by go_cell) H2.out)).mono ?_
      rintro e w6 ⟨rfl, x6⟩
      refine ⟨_, rfl, x6.but, hK _ _ ?_⟩
      have X6 : Ext w w6 := Ext.trans (by (repeat' (first | with_reducible exact Ext.refl _ | with_reducible apply Ext.alloc | with_reducible apply Ext.drew | with_reducible apply Ext.drewN | with_reducible refine Ext.setCell ?_ ?_ _ | with_reducible apply Ext.step | with_reducible assumption | with_reducible exact Nat.le_refl _ | (simp; done) | (simp; omega)))) x6
      clear hK K x6
      refine wpSD_q (by rfl) (fun _ _ _ => trivial) (fun K hK => ?_)
      go_simp
      refine hK _ ?_
      clear hK K
      refine wpSD_m (by rfl) (fun _ _ _ => trivial) (fun δ7 K hK => ?_)
      go_simp
      refine ⟨(Ext.refl _).but, hK _ _ ?_⟩
      clear hK K
      have XX : Ext w δ7.wd := X6.trans ⟨δ7, rfl⟩
      refine wpSD_nil ?_
      intro w9 x9
      have HX9 := Lib.hid (XX.trans x9)
      clear x9 XX
      simp only [List.drop_succ_cons, List.drop_zero]
      gi_wp2
      go_ret2
      exact ⟨by rw [HR.out, H1.out, H2.out]; rfl, HX9.out⟩

theorem gL_le {lx ly : Int} (h1 : -30 ≤ lx) (h2 : lx ≤ 30) (h3 : -30 ≤ ly) (h4 : ly ≤ 30) : gL lx ly ≤ 30 := by
  by_cases hx : lx = 0
  · by_cases hy : ly = 0
    · rw [gL_zero.2 ⟨hx, hy⟩]
      decide
    · have := Int.le_of_dvd (show 0 < (ly.natAbs : Int) by omega) (show gL lx ly ∣ (ly.natAbs : Int) from Int.dvd_natAbs.2 (Int.gcd_dvd_right lx ly))
      omega
  · have := Int.le_of_dvd (show 0 < (lx.natAbs : Int) by omega) (show gL lx ly ∣ (lx.natAbs : Int) from Int.dvd_natAbs.2 (Int.gcd_dvd_left lx ly))
    omega
theorem quo_bd {g d a : Int} (hg : 1 ≤ g) (h : g * d = a) (h1 : -30 ≤ a) (h2 : a ≤ 30) : -30 ≤ d ∧ d ≤ 30 := by
  have e := congrArg Int.natAbs h
  rw [Int.natAbs_mul] at e
  have : d.natAbs ≤ g.natAbs * d.natAbs := Nat.le_mul_of_pos_left _ (by omega)
  omega
theorem mid_bd {w : World} {B n m : Nat} {p : Int} {hs : List Int} (h : FieldAt w B n m p hs) (x y : Nat) : -400 ≤ midC n hs x y ∧ midC n hs x y ≤ 400 := by
  obtain ⟨h0, h1, h2, h3⟩ := cor_bd h x y
  unfold midC
  omega
theorem mids_at {n m : Nat} {hs : List Int} {x y : Nat} (hx : x < n) (hy : y < m) : hA (midsL n m hs) (y * n + x) = midC n hs x y := by
  have h : y * n + x < m * n := by
    have : (y + 1) * n ≤ m * n := Nat.mul_le_mul_right _ hy
    rw [Nat.succ_mul] at this
    omega
  rw [hA, midsL, List.getElem?_map, List.getElem?_range h]
  simp [cx_at hx, cy_at hx]
end
section
/- LShb: light.shadow. Conditions: a field lies there; bounds. -/
open Go.RowKit Go.Shelf

set_option maxRecDepth 100000 in
set_option maxHeartbeats 4000000 in
theorem shadow_any (B n m : Nat) (p : Int) (hs : List Int) (lx ly lz : Int) (x y : Nat) (w : World) (hF : Fld w B n m p hs) (hx : x < n) (hy : y < m)
    (hl1 : -30 ≤ lx) (hl2 : lx ≤ 30) (hl3 : -30 ≤ ly) (hl4 : ly ≤ 30) (hl5 : 1 ≤ lz) (hl6 : lz ≤ 30) :
    Calls Try.prog 78 #[.pointer (some ⟨B, 0, none⟩), lightV lx ly lz, .int .i64 x, .int .i64 y] w fun e w' => e = .returned (.bool (darkB n m p hs lx ly lz x y)) ∧ Ext w w' := by
  have HF := Lib.hid hF
  have hn2 := hF.at_.n2
  have hm2 := hF.at_.m2
  have hB := cell_lt hF.at_.fw
  clear hF
  have HD := Lib.hid fun W : World => (show Calls Try.prog 95 #[.int .i64 lx, .int .i64 ly] W fun e w' => e = .returned (.int .i64 (gL lx ly)) ∧ Ext W w' from divisor_any lx ly W (by omega) (by omega) (by omega) (by omega))
  have HGL := Lib.hid (gL_le hl1 hl2 hl3 hl4)
  by_cases hg : gL lx ly = 0
  · have HR := Lib.hid (show darkB n m p hs lx ly lz x y = false from dark_flat hg)
    rw [hg] at HD
    go_enter Try.func78, Try.ntmps78
    go_wp2_with fail
    go_step3
    go_wp2_with fail
    refine (HD.out _).mono ?_
    rintro e _ ⟨rfl, hx⟩
    obtain ⟨δ, rfl⟩ : Ext (w.alloc (.cells #[.int .i64 lx, .int .i64 ly, .int .i64 lz] 25)) _ := Ext.trans (by (repeat' (first | with_reducible exact Ext.refl _ | with_reducible apply Ext.alloc | with_reducible apply Ext.drew | with_reducible apply Ext.drewN | with_reducible refine Ext.setCell ?_ ?_ _ | with_reducible apply Ext.step | with_reducible assumption | with_reducible exact Nat.le_refl _ | (simp; done) | (simp; omega)))) hx
    clear hx
    try (have hs0 := δ.lt (w.heap.size) (by first | (simp; done) | (simp; omega)))
    go_wp2_with fail
    rw [Exit.noGoto_ret]
    go_ret
    exact ⟨by rw [HR.out]; rfl, by (repeat' (first | with_reducible exact Ext.refl _ | with_reducible apply Ext.alloc | with_reducible apply Ext.drew | with_reducible apply Ext.drewN | with_reducible refine Ext.setCell ?_ ?_ _ | with_reducible apply Ext.step | with_reducible assumption | with_reducible exact Nat.le_refl _ | (simp; done) | (simp; omega)))⟩
  · obtain ⟨mv, cm, hM⟩ := HF.out.mm
    have hlen : (midsL n m hs).length = m * n := by simp [midsL]
    have hN : 1 ≤ m * n := Nat.mul_pos (by omega) (by omega)
    obtain ⟨bm, om, cc, rfl, hbm, hcm⟩ := intK_at hM (by rw [hlen]; exact hN)
    have hNN : m * n ≤ 23 * 23 := Nat.mul_le_mul hm2 hn2
    have HMC := Lib.hid fun (X Y : Nat) (hX : X < n) (hY : Y < m) => (show Y * n + X < (midsL n m hs).length ∧ w.cell? ⟨bm, om + (Y * n + X), none⟩ = some (.int .i64 (midC n hs X Y)) by
      have h : Y * n + X < m * n := by
        have : (Y + 1) * n ≤ m * n := Nat.mul_le_mul_right _ hY
        rw [Nat.succ_mul] at this
        omega
      rw [← hlen] at h
      exact ⟨h, by rw [hcm _ h, mids_at hX hY]⟩)
    have cp := HF.out.at_.fp
    have hp1 := HF.out.at_.p1
    have hp2 := HF.out.at_.p2
    generalize (midsL n m hs).length = N at *
    have HDX := Lib.hid (gL_x lx ly)
    have HDY := Lib.hid (gL_y lx ly)
    have HQX := Lib.hid fun k : Int => ray_divx hg k
    have HQY := Lib.hid fun k : Int => ray_divy hg k
    have HG := Lib.hid hg
    have hg1 : 1 ≤ gL lx ly := by have := gL_nonneg lx ly; omega
    have hg2 := HGL.out
    obtain ⟨dx1, dx2⟩ := quo_bd hg1 HDX.out hl1 hl2
    obtain ⟨dy1, dy2⟩ := quo_bd hg1 HDY.out hl3 hl4
    have HRX := Lib.hid fun k : Nat => (show rayX lx ly x k = (x : Int) + (k : Int) * (lx / gL lx ly) from rfl)
    have HRY := Lib.hid fun k : Nat => (show rayY lx ly y k = (y : Int) + (k : Int) * (ly / gL lx ly) from rfl)
    have HHI := Lib.hid fun (k X Y : Nat) (hX : rayX lx ly x k = X) (hY : rayY lx ly y k = Y) (hi : inC n m X Y = true) => (show hitB n m p hs lx ly lz x y k = decide (4 * (k : Int) * p * lz < gL lx ly * (midC n hs X Y - midC n hs x y)) by
      rw [hitB, hX, hY, hi, Bool.true_and, Int.toNat_natCast, Int.toNat_natCast])
    have HMB := Lib.hid fun X Y : Nat => mid_bd HF.out.at_ X Y
    have HIN := Lib.hid fun (k : Nat) (hi : inC n m (rayX lx ly x k) (rayY lx ly y k) = true) => in_lt hx hy hn2 hm2 hg hi
    obtain ⟨own, hown⟩ : ∃ o : Nat, o = y * n + x := ⟨_, rfl⟩
    obtain ⟨ho1, ho2⟩ := HMC.out x y hx hy
    rw [← hown] at ho1 ho2
    have hbo := HMB.out x y
    obtain ⟨m0, hm0⟩ : ∃ z, z = midC n hs x y := ⟨_, rfl⟩
    rw [← hm0] at ho2 hbo HHI
    have e0 : (y : Int) * (n : Int) + (x : Int) = (own : Int) := by rw [hown]; simp
    have hg0 : ((gL lx ly : Int) == 0) = false := by simpa using hg
    have HNO := Lib.hid fun k : Nat => @dark_no n m p hs lx ly lz x y k hx hy
    have HYES := Lib.hid fun k : Nat => @dark_yes n m p hs lx ly lz x y k hg
    have HAT := Lib.hid fun (X Y : Int) (W : World) (hx : Ext w W) => at_any B n m p hs X Y W (HF.out.at_.ext hx)
    generalize gL lx ly = g at *
    generalize lx / g = dx at *
    generalize ly / g = dy at *
    have HOWN := Lib.hid hown
    clear hown hm0 hlen hcm hM hg
    have hinc : inC n m x y = true := inC_iff.2 ⟨⟨by omega, by omega⟩, by omega, by omega⟩
    have HAT0 := Lib.hid fun (W : World) (hx : Ext w W) => (show Calls Try.prog 110 #[.pointer (some ⟨B, 0, none⟩), .int .i64 x, .int .i64 y] W fun e w' => e = .returned (.tuple #[.int .i64 own, .bool true]) ∧ Ext W w' by
      have := HAT.out x y W hx (by omega) (by omega) (by omega) (by omega)
      rwa [e0, hinc] at this)
    clear hinc e0
    go_enter Try.func78, Try.ntmps78
    go_wp2_with fail
    go_step3
    go_wp2_with fail
    refine (HD.out _).mono ?_
    rintro e _ ⟨rfl, hx⟩
    obtain ⟨δ, rfl⟩ : Ext (w.alloc (.cells #[.int .i64 lx, .int .i64 ly, .int .i64 lz] 25)) _ := Ext.trans (by (repeat' (first | with_reducible exact Ext.refl _ | with_reducible apply Ext.alloc | with_reducible apply Ext.drew | with_reducible apply Ext.drewN | with_reducible refine Ext.setCell ?_ ?_ _ | with_reducible apply Ext.step | with_reducible assumption | with_reducible exact Nat.le_refl _ | (simp; done) | (simp; omega)))) hx
    clear hx
    try (have hs0 := δ.lt (w.heap.size) (by first | (simp; done) | (simp; omega)))
    go_wp2_with fail
    refine (HAT0.out _ (by (repeat' (first | with_reducible exact Ext.refl _ | with_reducible apply Ext.alloc | with_reducible apply Ext.drew | with_reducible apply Ext.drewN | with_reducible refine Ext.setCell ?_ ?_ _ | with_reducible apply Ext.step | with_reducible assumption | with_reducible exact Nat.le_refl _ | (simp; done) | (simp; omega))))).mono ?_
    rintro e _ ⟨rfl, hx⟩
    obtain ⟨δ, rfl⟩ : Ext (w.alloc (.cells #[.int .i64 lx, .int .i64 ly, .int .i64 lz] 25)) _ := Ext.trans (by (repeat' (first | with_reducible exact Ext.refl _ | with_reducible apply Ext.alloc | with_reducible apply Ext.drew | with_reducible apply Ext.drewN | with_reducible refine Ext.setCell ?_ ?_ _ | with_reducible apply Ext.step | with_reducible assumption | with_reducible exact Nat.le_refl _ | (simp; done) | (simp; omega)))) hx
    clear hx
    try (have hs0 := δ.lt (w.heap.size) (by first | (simp; done) | (simp; omega)))
    go_wp2_with fail
    refine lay_wp (fun W => Ext w W ∧ W.cell? ⟨w.heap.size, 0, none⟩ = some (.int .i64 lx) ∧ W.cell? ⟨w.heap.size, 1, none⟩ = some (.int .i64 ly) ∧ W.cell? ⟨w.heap.size, 2, none⟩ = some (.int .i64 lz)) ⟨by (repeat' (first | with_reducible exact Ext.refl _ | with_reducible apply Ext.alloc | with_reducible apply Ext.drew | with_reducible apply Ext.drewN | with_reducible refine Ext.setCell ?_ ?_ _ | with_reducible apply Ext.step | with_reducible assumption | with_reducible exact Nat.le_refl _ | (simp; done) | (simp; omega))), by go_cell, by go_cell, by go_cell⟩ ?_
    rintro W0 ⟨X0, b0, b1, b2⟩
    have HX0 := Lib.hid X0
    have c4 := X0.cell_some cm
    have cp0 := X0.cell_some cp
    have co0 := X0.cell_some ho2
    have hBm0 := cell_lt co0
    have hB0 := cell_lt c4
    have hl0 := cell_lt b0
    clear X0 cm cp ho2
    go_step3
    go_wp2_with fail
    go_loopw [12, 13, 14, 52, 55] (fun kv _ _ _ _ wr => ∃ k : Nat, 1 ≤ k ∧ k ≤ 24 ∧ kv = .int .i64 k ∧ Hid (∀ j, 1 ≤ j → j < k → hitB n m p hs lx ly lz x y j = false) ∧ Ext W0 wr) (fun kv _ _ _ _ _ => 25 - (intOf kv).toNat)
    case atStart => exact ⟨1, by omega, by omega, rfl, (fun j h1 h2 => by omega), Ext.refl _⟩
    case round =>
      obtain ⟨k, hk1, hk2, rfl, Hh, hx0⟩ := hrel
      have HXR := Lib.hid hx0
      have d0 := hx0.cell_some b0
      have d1 := hx0.cell_some b1
      have d2 := hx0.cell_some b2
      have d4 := hx0.cell_some c4
      have dp := hx0.cell_some cp0
      have dO := hx0.cell_some co0
      have l0 := cell_lt d0
      have l4 := cell_lt d4
      have lO := cell_lt dO
      clear hx0
      obtain ⟨u1, u2⟩ := abs_mul_bd (a := (k : Int)) (A := 24) (b := lx) (B := 30) (by omega) (by omega) hl1 hl2
      obtain ⟨u3, u4⟩ := abs_mul_bd (a := (k : Int)) (A := 24) (b := ly) (B := 30) (by omega) (by omega) hl3 hl4
      obtain ⟨u5, u6⟩ := abs_mul_bd (a := (k : Int)) (A := 24) (b := dx) (B := 30) (by omega) (by omega) dx1 dx2
      obtain ⟨u7, u8⟩ := abs_mul_bd (a := (k : Int)) (A := 24) (b := dy) (B := 30) (by omega) (by omega) dy1 dy2
      have HRXk := Lib.hid (HRX.out k)
      have HRYk := Lib.hid (HRY.out k)
      have HATk := Lib.hid fun (W : World) (hx : Ext w W) => HAT.out ((x : Int) + (k : Int) * dx) ((y : Int) + (k : Int) * dy) W hx (by omega) (by omega) (by omega) (by omega)
      have q1 := HQX.out k
      have q2 := HQY.out k
      obtain ⟨kx, hkx⟩ : ∃ z, z = (k : Int) * dx := ⟨_, rfl⟩
      obtain ⟨ky, hky⟩ : ∃ z, z = (k : Int) * dy := ⟨_, rfl⟩
      rw [← hkx] at q1 u5 u6 HRXk HATk
      rw [← hky] at q2 u7 u8 HRYk HATk
      clear hkx hky
      have w1 : IntKind.i64.wrap ((k : Int) * lx) = (k : Int) * lx := IntWalk.i64_in _ (by omega)
      have w2 : IntKind.i64.wrap ((k : Int) * ly) = (k : Int) * ly := IntWalk.i64_in _ (by omega)
      have w3 : IntKind.i64.wrap kx = kx := IntWalk.i64_in _ (by omega)
      have w4 : IntKind.i64.wrap ky = ky := IntWalk.i64_in _ (by omega)
      have w5 : IntKind.i64.wrap ((x : Int) + kx) = (x : Int) + kx := IntWalk.i64_in _ (by omega)
      have w6 : IntKind.i64.wrap ((y : Int) + ky) = (y : Int) + ky := IntWalk.i64_in _ (by omega)
      cases hin : inC n m ((x : Int) + kx) ((y : Int) + ky)
      · rw [hin] at HATk
        have HIN' := Lib.hid hin
        clear hin
        go_wp2_with fail
        refine wp_region_bext (by kernel_rfl) (by kernel_rfl) ?_
        repeat (any_goals (go_big_quiet_step (((go_at_call 110; exact bext_call (HATk.out _ ((HX0.out.trans HXR.out).step _)))))))
        all_goals refine wpQuiet_nil ?_
        all_goals rintro _ ⟨δ, rfl⟩
        clear q1 q2 w1 w2 w3 w4 w5 w6
        go_wp2_with fail
        rw [Exit.noGoto_ret]
        go_ret
        exact ⟨ret_b (HNO.out k Hh.out (by rw [HRXk.out, HRYk.out]; exact HIN'.out)).symm, (HX0.out.trans HXR.out).step _⟩
      · obtain ⟨⟨i1, i2⟩, i3, i4⟩ := inC_iff.1 hin
        obtain ⟨X, hX⟩ : ∃ X : Nat, (x : Int) + kx = X := ⟨((x : Int) + kx).toNat, by omega⟩
        obtain ⟨Y, hY⟩ : ∃ Y : Nat, (y : Int) + ky = Y := ⟨((y : Int) + ky).toNat, by omega⟩
        have hk3 : k < 24 := HIN.out k (by rw [HRXk.out, HRYk.out]; exact hin)
        have HHIk := Lib.hid (HHI.out k X Y (HRXk.out.trans hX) (HRYk.out.trans hY) (by rw [← hX, ← hY]; exact hin))
        obtain ⟨hq1, hq2⟩ := HMC.out X Y (by omega) (by omega)
        obtain ⟨qq, hqq⟩ : ∃ z, z = Y * n + X := ⟨_, rfl⟩
        rw [← hqq] at hq1 hq2
        rw [hin, hX, hY, show (Y : Int) * (n : Int) + (X : Int) = (qq : Int) by rw [hqq]; simp] at HATk
        have hbm1 := HMB.out X Y
        generalize midC n hs X Y = m1 at *
        have dq := HXR.out.cell_some (HX0.out.cell_some hq2)
        have HHX := Lib.hid hX
        have HHY := Lib.hid hY
        clear hqq hq2 hX hY hin i1 i2 i3 i4
        rw [HHX.out] at w5
        rw [HHY.out] at w6
        have e5 := HHX.out
        have e6 := HHY.out
        go_wp2_with fail
        refine wp_region_bext (by kernel_rfl) (by kernel_rfl) ?_
        repeat (any_goals (go_big_quiet_step (((go_at_call 110; exact bext_call (HATk.out _ ((HX0.out.trans HXR.out).step _)))))))
        all_goals refine wpQuiet_nil ?_
        all_goals rintro _ ⟨δ, rfl⟩
        clear q1 q2 w1 w2 w3 w4 w5 w6 e5 e6
        go_wp2_with fail
        obtain ⟨v1, v2⟩ := abs_mul_bd (a := g) (A := 30) (b := m1 - m0) (B := 800) (by omega) hg2 (by omega) (by omega)
        obtain ⟨v3, v4⟩ := mul_bd (a := 4 * (k : Int)) (A := 96) (b := p) (B := 100) (by omega) (by omega) (by omega) hp2
        obtain ⟨v5, v6⟩ := mul_bd (a := 4 * (k : Int) * p) (A := 9600) (b := lz) (B := 30) v3 v4 (by omega) hl6
        have s1 : IntKind.i64.wrap (m1 - m0) = m1 - m0 := IntWalk.i64_in _ (by omega)
        have s2 : IntKind.i64.wrap (g * (m1 - m0)) = g * (m1 - m0) := IntWalk.i64_in _ (by omega)
        have s3 : IntKind.i64.wrap (4 * (k : Int)) = 4 * (k : Int) := IntWalk.i64_in _ (by omega)
        have s4 : IntKind.i64.wrap (4 * (k : Int) * p) = 4 * (k : Int) * p := IntWalk.i64_in _ (by omega)
        have s5 : IntKind.i64.wrap (4 * (k : Int) * p * lz) = 4 * (k : Int) * p * lz := IntWalk.i64_in _ (by omega)
        cases hd : decide (4 * (k : Int) * p * lz < g * (m1 - m0))
        · have HN1 := Lib.hid (show ∀ j, 1 ≤ j → j < k + 1 → hitB n m p hs lx ly lz x y j = false from fun j h1 h2 => by
            rcases (by omega : j < k ∨ j = k) with h | rfl
            · exact Hh.out j h1 h
            · rw [HHIk.out, hd])
          refine wp_region_bext (by kernel_rfl) (by kernel_rfl) ?_
          repeat (any_goals (go_big_quiet_step (fail)))
          all_goals refine wpQuiet_nil ?_
          all_goals rintro _ ⟨δ, rfl⟩
          clear s1 s2 s3 s4 s5
          go_wp2_with fail
          go_roundw
          case rel => exact ⟨k + 1, by omega, by omega, by go_num, HN1, (HXR.out.step _).step _⟩
          case measure => simp [intOf]; omega
        · have HN1 := Lib.hid (HYES.out k hk1 hk3 (by rw [HHIk.out, hd]))
          refine wp_region_bext (by kernel_rfl) (by kernel_rfl) ?_
          repeat (any_goals (go_big_quiet_step (fail)))
          all_goals refine wpQuiet_nil ?_
          all_goals rintro _ ⟨δ, rfl⟩
          clear s1 s2 s3 s4 s5
          go_wp2_with fail
          rw [Exit.noGoto_ret]
          go_ret
          exact ⟨ret_b HN1.out.symm, ((HX0.out.trans HXR.out).step _).step _⟩
end
section
/- LLit: light.lit: a surface at work, or the error of it and of lights. Condition: the slices read as lists. -/
open Go.RowKit Go.Shelf

def lightB' (l : Int × Int × Int) : Bool := lightB l.1 l.2.1 l.2.2
def litE (W H P : Int) (hs : List Int) (ls : List (Int × Int × Int)) : Int := if surfB W H P hs then (if ls.all lightB' then 0 else 61) else 60

theorem lit_bad (W H P : Int) (hv : Value) (hs : List Int) (lv : Value) (w : World) (hI : intK.Is w hv hs) (hb : surfB W H P hs = false) :
    Calls Try.prog 76 #[surfV W H P hv, lv] w (OpenBad w) := by
  have HI := Lib.hid fun (W0 : World) (x : Ext w W0) => hI.ext x
  obtain ⟨A, L, c, rfl, _⟩ := hI.open_
  have HB := Lib.hid hb
  clear hb hI
  go_enter Try.func76, Try.ntmps76
  go_wp2_with fail
  refine (open_bad W H P _ hs _ (HI.out _ (by (repeat' (first | with_reducible exact Ext.refl _ | with_reducible apply Ext.alloc | with_reducible apply Ext.drew | with_reducible apply Ext.drewN | with_reducible refine Ext.setCell ?_ ?_ _ | with_reducible apply Ext.step | with_reducible assumption | with_reducible exact Nat.le_refl _ | (simp; done) | (simp; omega))))) HB.out).mono ?_
  rintro e W1 ⟨rfl, x1⟩
  have HX1 := Lib.hid (show Ext w W1 from Ext.trans (by (repeat' (first | with_reducible exact Ext.refl _ | with_reducible apply Ext.alloc | with_reducible apply Ext.drew | with_reducible apply Ext.drewN | with_reducible refine Ext.setCell ?_ ?_ _ | with_reducible apply Ext.step | with_reducible assumption | with_reducible exact Nat.le_refl _ | (simp; done) | (simp; omega)))) x1)
  clear x1
  go_wp2_with fail
  go_ret2
  exact ⟨rfl, HX1.out⟩

theorem lightK_at {w : World} {A : Option Addr} {ls : List (Int × Int × Int)} (h : lightK.Row w A ls) (j : Nat) (hj : j < ls.length) : ∃ b o, A = some ⟨b, o, none⟩ ∧ b < w.heap.size ∧ w.cell? ⟨b, o + j * 3, none⟩ = some (.int .i64 ls[j].1) ∧ w.cell? ⟨b, o + j * 3 + 1, none⟩ = some (.int .i64 ls[j].2.1) ∧ w.cell? ⟨b, o + j * 3 + 2, none⟩ = some (.int .i64 ls[j].2.2) := by
  obtain ⟨b, o, rfl, hb, hc⟩ := h j hj
  exact ⟨b, o, rfl, hb, hc 0 _ rfl, hc 1 _ rfl, hc 2 _ rfl⟩

set_option maxRecDepth 100000 in
set_option maxHeartbeats 4000000 in
/-- What lit hands back where the surface is valid. -/
theorem lit_open (n m : Nat) (P : Int) (hv : Value) (hs : List Int) (lv : Value) (ls : List (Int × Int × Int)) (w : World) (hI : intK.Is w hv hs) (hL : lightK.Is w lv ls) (hb : surfB ((n : Int) + 1) ((m : Int) + 1) P hs = true) :
    Calls Try.prog 76 #[surfV ((n : Int) + 1) ((m : Int) + 1) P hv, lv] w (if ls.all lightB' then OpenGood n m P hs w else fun e w' => e = .returned (.tuple #[.pointer none, .int .i64 61]) ∧ Ext w w') := by
  have HI := Lib.hid fun (W0 : World) (x : Ext w W0) => hI.ext x
  obtain ⟨A, L, c, rfl, _⟩ := hI.open_
  obtain ⟨A', k, c', rfl, hk, hk0, hr, hkm⟩ := hL.open_
  have HB := Lib.hid hb
  have HR := Lib.hid hr
  have HK := Lib.hid hk
  clear hb hI hL hr hk
  obtain ⟨Q, hQ⟩ : ∃ Q, Q = (if ls.all lightB' then OpenGood n m P hs w else fun e w' => e = .returned (.tuple #[.pointer none, .int .i64 61]) ∧ Ext w w') := ⟨_, rfl⟩
  rw [← hQ]
  have HQ := Lib.hid hQ
  clear hQ
  go_enter Try.func76, Try.ntmps76
  go_wp2_with fail
  refine (open_good n m P _ hs _ (HI.out _ (by (repeat' (first | with_reducible exact Ext.refl _ | with_reducible apply Ext.alloc | with_reducible apply Ext.drew | with_reducible apply Ext.drewN | with_reducible refine Ext.setCell ?_ ?_ _ | with_reducible apply Ext.step | with_reducible assumption | with_reducible exact Nat.le_refl _ | (simp; done) | (simp; omega))))) HB.out).mono ?_
  rintro e W1 ⟨B, rfl, hF, hB, x1⟩
  have hBw : w.heap.size ≤ B := Nat.le_trans (by simp) hB
  have HX1 := Lib.hid (show Ext w W1 from Ext.trans (by (repeat' (first | with_reducible exact Ext.refl _ | with_reducible apply Ext.alloc | with_reducible apply Ext.drew | with_reducible apply Ext.drewN | with_reducible refine Ext.setCell ?_ ?_ _ | with_reducible apply Ext.step | with_reducible assumption | with_reducible exact Nat.le_refl _ | (simp; done) | (simp; omega)))) x1)
  have HF := Lib.hid hF
  have HBW := Lib.hid hBw
  clear x1 hF hB hBw
  go_wp2_with fail
  go_loopw [21, 9, 10] (fun i _ _ wr => ∃ j : Nat, j ≤ k ∧ i = .int .i64 j ∧ Hid (∀ (q : Nat) (hq : q < ls.length), q < j → lightB' ls[q] = true) ∧ Ext W1 wr) (fun i _ _ _ => k - (intOf i).toNat)
  case atStart => exact ⟨0, by omega, rfl, (fun q hq h => by omega), Ext.refl _⟩
  case round =>
    obtain ⟨j, hj, rfl, Ha, hx⟩ := hrel
    by_cases hlt : j < k
    · have hjl : j < ls.length := by rw [HK.out]; exact hlt
      obtain ⟨b, o, rfl, hb, h0, h1, h2⟩ := lightK_at HR.out j hjl
      have HXR := Lib.hid (HX1.out.trans hx)
      have g0 := HXR.out.cell_some h0
      have g1 := HXR.out.cell_some h1
      have g2 := HXR.out.cell_some h2
      have hbr := HXR.out.lt hb
      have HJ := Lib.hid (show lightB' ls[j] = lightB ls[j].1 ls[j].2.1 ls[j].2.2 from rfl)
      have HXW := Lib.hid hx
      generalize hl1 : ls[j].1 = lx at *
      generalize hl2 : ls[j].2.1 = ly at *
      generalize hl3 : ls[j].2.2 = lz at *
      clear h0 h1 h2 hx hl1 hl2 hl3
      cases hv : lightB lx ly lz
      · have HE := Lib.hid (show lightE lx ly lz = 61 by simp [lightE, hv])
        have HN := Lib.hid (show ls.all lightB' = false by
          rw [List.all_eq_false]
          exact ⟨ls[j], List.getElem_mem hjl, by rw [HJ.out, hv]; simp⟩)
        have HCL := Lib.hid (fun W => (show Calls Try.prog 31 #[lightV lx ly lz] W fun e w' => e = .returned (.int .i64 61) ∧ Ext W w' by
          have := checkLight_any lx ly lz W
          rwa [HE.out] at this))
        clear hv
        go_wp2_with fail
        refine (HCL.out _).mono ?_
        rintro e W2 ⟨rfl, x2⟩
        have HX2 := Lib.hid (show Ext w W2 from HXR.out.trans (Ext.trans (by (repeat' (first | with_reducible exact Ext.refl _ | with_reducible apply Ext.alloc | with_reducible apply Ext.drew | with_reducible apply Ext.drewN | with_reducible refine Ext.setCell ?_ ?_ _ | with_reducible apply Ext.step | with_reducible assumption | with_reducible exact Nat.le_refl _ | (simp; done) | (simp; omega)))) x2))
        clear x2
        go_wp2_with fail
        rw [HQ.out, HN.out]
        exact ⟨rfl, HX2.out⟩
      · have HE := Lib.hid (show lightE lx ly lz = 0 by simp [lightE, hv])
        have HA2 := Lib.hid (show ∀ (q : Nat) (hq : q < ls.length), q < j + 1 → lightB' ls[q] = true from fun q hq h => by
          rcases (by omega : q < j ∨ q = j) with h | rfl
          · exact Ha.out q hq h
          · rw [HJ.out, hv])
        have HCL := Lib.hid (fun W => (show Calls Try.prog 31 #[lightV lx ly lz] W fun e w' => e = .returned (.int .i64 0) ∧ Ext W w' by
          have := checkLight_any lx ly lz W
          rwa [HE.out] at this))
        clear hv
        go_wp2_with fail
        refine (HCL.out _).mono ?_
        rintro e W2 ⟨rfl, x2⟩
        have HX2 := Lib.hid (show Ext W1 W2 from HXW.out.trans (Ext.trans (by (repeat' (first | with_reducible exact Ext.refl _ | with_reducible apply Ext.alloc | with_reducible apply Ext.drew | with_reducible apply Ext.drewN | with_reducible refine Ext.setCell ?_ ?_ _ | with_reducible apply Ext.step | with_reducible assumption | with_reducible exact Nat.le_refl _ | (simp; done) | (simp; omega)))) x2))
        clear x2
        go_wp2_with fail
        go_roundw
        case rel => exact ⟨j + 1, by omega, by go_num, HA2, HX2.out⟩
        case measure => simp [intOf]; omega
    · obtain rfl : j = k := by omega
      have HY := Lib.hid (show ls.all lightB' = true by
        rw [List.all_eq_true]
        intro x hx
        obtain ⟨q, hq, rfl⟩ := List.getElem_of_mem hx
        exact Ha.out q hq (by rw [← HK.out]; exact hq))
      have HXR := Lib.hid hx
      clear hx
      go_wp2_with fail
      rw [HQ.out, HY.out]
      exact ⟨B, rfl, HF.out.ext HXR.out, HBW.out, HX1.out.trans HXR.out⟩

theorem lit_dark (n m : Nat) (P : Int) (hv : Value) (hs : List Int) (lv : Value) (ls : List (Int × Int × Int)) (w : World) (hI : intK.Is w hv hs) (hL : lightK.Is w lv ls) (hb : surfB ((n : Int) + 1) ((m : Int) + 1) P hs = true) (hl : ls.all lightB' = false) :
    Calls Try.prog 76 #[surfV ((n : Int) + 1) ((m : Int) + 1) P hv, lv] w fun e w' => e = .returned (.tuple #[.pointer none, .int .i64 61]) ∧ Ext w w' := by
  have := lit_open n m P hv hs lv ls w hI hL hb
  rwa [hl] at this
theorem lit_good (n m : Nat) (P : Int) (hv : Value) (hs : List Int) (lv : Value) (ls : List (Int × Int × Int)) (w : World) (hI : intK.Is w hv hs) (hL : lightK.Is w lv ls) (hb : surfB ((n : Int) + 1) ((m : Int) + 1) P hs = true) (hl : ls.all lightB' = true) :
    Calls Try.prog 76 #[surfV ((n : Int) + 1) ((m : Int) + 1) P hv, lv] w (OpenGood n m P hs w) := by
  have := lit_open n m P hv hs lv ls w hI hL hb
  rwa [hl] at this
end
open Go.RowKit Go.Shelf

attribute [local go_sem] Oper.semAt_some

/-- A field of an elder world lies on, whatever is done to the slice's own block. -/
theorem Acc.fldD {α : Type} {K : EK α} {w W0 W Wc : World} {Bx off : Nat} {ans : List α} {sv : Value} (hA : Acc K W0 Bx off ans W) (ho : K.Own W0.heap.size W sv ans) {B n m : Nat} {p : Int} {hs : List Int} (hF : Fld w B n m p hs) (x : Ext w W0) (hb : w.heap.size ≤ Bx) (xc : Ext W Wc) (δ : BBut sv.ownBlock.toList Wc) : Fld δ.wd B n m p hs := by
  have h1 := hA.fld hF x hb
  refine hF.cells (S := fun b => b < w.heap.size) ⟨?_, fun b o v hb' hc => ?_⟩ (fun _ h => h)
  · exact Nat.le_trans x.bel.size (Nat.le_trans hA.but.size (Nat.le_trans xc.bel.size δ.but.size))
  · have := x.bel.size
    exact δ.but.cell (xc.cell_some (hA.cell (x.cell_some hc) (.inl (by omega)))) (Acc.notin ho (.inl (by omega)))

theorem light_one {w : World} (lx ly lz : Int) : lightK.Is (w.alloc (.cells #[.int .i64 lx, .int .i64 ly, .int .i64 lz] 25)) (.slice (some ⟨w.heap.size, 0, none⟩) 1 1) [(lx, ly, lz)] :=
  (EK.Own.lit (K := lightK) (B := 0) w #[.int .i64 lx, .int .i64 ly, .int .i64 lz] [(lx, ly, lz)] rfl (Nat.zero_le _) (by simp [maxLen])).is

def shadE (W H P : Int) (hs : List Int) (lx ly lz : Int) : Int := if surfB W H P hs then (if lightB lx ly lz then 0 else 61) else 60
def darksL (n m : Nat) (p : Int) (hs : List Int) (lx ly lz : Int) : List Bool := (List.range (m * n)).map fun j => darkB n m p hs lx ly lz (cx n j) (cy n j)
def shadowsL (W H P : Int) (hs : List Int) (lx ly lz : Int) : List Bool := if surfB W H P hs && lightB lx ly lz then darksL (nOf W) (nOf H) P hs lx ly lz else []

set_option maxRecDepth 100000 in
set_option maxHeartbeats 4000000 in
theorem shadows_any (W H P : Int) (hv : Value) (hs : List Int) (lx ly lz : Int) (w : World) (hI : intK.Is w hv hs) :
    Calls Try.prog 35 #[surfV W H P hv, lightV lx ly lz] w (RetEE boolK w (shadowsL W H P hs lx ly lz) (shadE W H P hs lx ly lz)) := by
  have HI := Lib.hid fun (W0 : World) (x : Ext w W0) => hI.ext x
  have hI' := hI
  obtain ⟨A, L, c, rfl, _⟩ := hI'.open_
  clear hI' hI
  cases hb : surfB W H P hs
  · have HE := Lib.hid (show shadE W H P hs lx ly lz = 60 by simp [shadE, hb])
    have HR := Lib.hid (show shadowsL W H P hs lx ly lz = [] by simp [shadowsL, hb])
    have HB := Lib.hid hb
    clear hb
    go_enter Try.func35, Try.ntmps35
    go_wp2_with fail
    refine (lit_bad W H P _ hs _ _ (HI.out _ (by (repeat' (first | with_reducible exact Ext.refl _ | with_reducible apply Ext.alloc | with_reducible apply Ext.drew | with_reducible apply Ext.drewN | with_reducible refine Ext.setCell ?_ ?_ _ | with_reducible apply Ext.step | with_reducible assumption | with_reducible exact Nat.le_refl _ | (simp; done) | (simp; omega))))) HB.out).mono ?_
    rintro e W1 ⟨rfl, x1⟩
    have HX1 := Lib.hid (show Ext w W1 from Ext.trans (by (repeat' (first | with_reducible exact Ext.refl _ | with_reducible apply Ext.alloc | with_reducible apply Ext.drew | with_reducible apply Ext.drewN | with_reducible refine Ext.setCell ?_ ?_ _ | with_reducible apply Ext.step | with_reducible assumption | with_reducible exact Nat.le_refl _ | (simp; done) | (simp; omega)))) x1)
    clear x1
    go_wp2_with fail
    go_ret2
    exact ⟨_, by rw [HE.out]; rfl, by rw [HR.out]; exact EK.Own.nil _ _, HX1.out.alloc _⟩
  obtain ⟨n, m, rfl, rfl, hn1, hn2, hm1, hm2⟩ := surf_nm hb
  cases hl : lightB lx ly lz
  · have HE := Lib.hid (show shadE ((n : Int) + 1) ((m : Int) + 1) P hs lx ly lz = 61 by simp [shadE, hb, hl])
    have HR := Lib.hid (show shadowsL ((n : Int) + 1) ((m : Int) + 1) P hs lx ly lz = [] by simp [shadowsL, hl])
    have HB := Lib.hid hb
    have HL := Lib.hid (show [(lx, ly, lz)].all lightB' = false by simp [lightB', hl])
    clear hb hl
    go_enter Try.func35, Try.ntmps35
    go_wp2_with fail
    refine (lit_dark n m P _ hs _ [(lx, ly, lz)] _ (HI.out _ (by (repeat' (first | with_reducible exact Ext.refl _ | with_reducible apply Ext.alloc | with_reducible apply Ext.drew | with_reducible apply Ext.drewN | with_reducible refine Ext.setCell ?_ ?_ _ | with_reducible apply Ext.step | with_reducible assumption | with_reducible exact Nat.le_refl _ | (simp; done) | (simp; omega))))) (by have := light_one (w := (w.alloc (.cells #[.int .i64 ((n : Int) + 1), .int .i64 ((m : Int) + 1), .int .i64 P, .slice A L c] 37)).alloc (.cells #[.int .i64 lx, .int .i64 ly, .int .i64 lz] 25)) lx ly lz; simpa using this) HB.out HL.out).mono ?_
    rintro e W1 ⟨rfl, x1⟩
    have HX1 := Lib.hid (show Ext w W1 from Ext.trans (by (repeat' (first | with_reducible exact Ext.refl _ | with_reducible apply Ext.alloc | with_reducible apply Ext.drew | with_reducible apply Ext.drewN | with_reducible refine Ext.setCell ?_ ?_ _ | with_reducible apply Ext.step | with_reducible assumption | with_reducible exact Nat.le_refl _ | (simp; done) | (simp; omega)))) x1)
    clear x1
    go_wp2_with fail
    go_ret2
    exact ⟨_, by rw [HE.out]; rfl, by rw [HR.out]; exact EK.Own.nil _ _, HX1.out.alloc _⟩
  have HE := Lib.hid (show shadE ((n : Int) + 1) ((m : Int) + 1) P hs lx ly lz = 0 by simp [shadE, hb, hl])
  have HR := Lib.hid (show shadowsL ((n : Int) + 1) ((m : Int) + 1) P hs lx ly lz = darksL n m P hs lx ly lz by simp [shadowsL, hb, hl, nOf_add])
  have HB := Lib.hid hb
  have HL := Lib.hid (show [(lx, ly, lz)].all lightB' = true by simp [lightB', hl])
  obtain ⟨⟨hl1, hl2⟩, ⟨hl3, hl4⟩, hl5, hl6⟩ := lightB_iff.1 hl
  clear hb hl
  refine (callsIn_wide (n := 3)).1 ?_
  refine callsIn_of_wp_marks Try.func35 rfl trivial ?_ rfl
  simp only [Try.ntmps35, List.size_toArray, List.length_cons, List.length_nil, Nat.reduceAdd, Nat.reduceSub, Array.replicate_succ, Array.replicate_zero, List.push_toArray, List.append_toArray, List.nil_append, List.cons_append]
  have F1 : Fence.wide.fn 76 := trivial
  have F2 : Fence.wide.fn 78 := trivial
  have F3 : Fence.wide.fn 77 := trivial
  gi_wp2
  refine (callsIn_wide.2 (lit_good n m P _ hs _ [(lx, ly, lz)] _ (HI.out _ (by (repeat' (first | with_reducible exact Ext.refl _ | with_reducible apply Ext.alloc | with_reducible apply Ext.drew | with_reducible apply Ext.drewN | with_reducible refine Ext.setCell ?_ ?_ _ | with_reducible apply Ext.step | with_reducible assumption | with_reducible exact Nat.le_refl _ | (simp; done) | (simp; omega))))) (by have := light_one (w := (w.alloc (.cells #[.int .i64 ((n : Int) + 1), .int .i64 ((m : Int) + 1), .int .i64 P, .slice A L c] 37)).alloc (.cells #[.int .i64 lx, .int .i64 ly, .int .i64 lz] 25)) lx ly lz; simpa using this) HB.out HL.out)).mono ?_
  rintro e W1 ⟨B, rfl, hF, hB, x1⟩
  have z0 : W1.cell? ⟨w.heap.size + 1, 0, none⟩ = some (.int .i64 lx) := x1.cell_some (by go_cell)
  have z1 : W1.cell? ⟨w.heap.size + 1, 1, none⟩ = some (.int .i64 ly) := x1.cell_some (by go_cell)
  have z2 : W1.cell? ⟨w.heap.size + 1, 2, none⟩ = some (.int .i64 lz) := x1.cell_some (by go_cell)
  have HX1 := Lib.hid (show Ext w W1 from Ext.trans (by (repeat' (first | with_reducible exact Ext.refl _ | with_reducible apply Ext.alloc | with_reducible apply Ext.drew | with_reducible apply Ext.drewN | with_reducible refine Ext.setCell ?_ ?_ _ | with_reducible apply Ext.step | with_reducible assumption | with_reducible exact Nat.le_refl _ | (simp; done) | (simp; omega)))) x1)
  have HF := Lib.hid hF
  have hz := cell_lt z0
  clear x1 hF hB
  gi_wp2
  refine (cells_in Fence.wide 2 trivial rfl _ _).mono ?_
  rintro e _ ⟨rfl, rfl⟩
  gi_wp2
  refine lay_in (fun W => Ext W1 W ∧ W.heap.size = W1.heap.size + 3 ∧ W.cell? ⟨w.heap.size + 1, 0, none⟩ = some (.int .i64 lx) ∧ W.cell? ⟨w.heap.size + 1, 1, none⟩ = some (.int .i64 ly) ∧ W.cell? ⟨w.heap.size + 1, 2, none⟩ = some (.int .i64 lz) ∧
    W.cell? ⟨W1.heap.size, 0, none⟩ = some (.pointer (some ⟨B, 0, none⟩)) ∧ W.cell? ⟨W1.heap.size + 1, 0, none⟩ = some (.slice none 0 0) ∧ W.frozen? ⟨W1.heap.size + 1, 0, none⟩ = false ∧ W.cell? ⟨W1.heap.size + 1 + 1, 0, none⟩ = some (.pointer (some ⟨B, 0, none⟩)))
    ⟨by (repeat' (first | with_reducible exact Ext.refl _ | with_reducible apply Ext.alloc | with_reducible apply Ext.drew | with_reducible apply Ext.drewN | with_reducible refine Ext.setCell ?_ ?_ _ | with_reducible apply Ext.step | with_reducible assumption | with_reducible exact Nat.le_refl _ | (simp; done) | (simp; omega))), by simp, Ext.cell_some (by (repeat' (first | with_reducible exact Ext.refl _ | with_reducible apply Ext.alloc | with_reducible apply Ext.drew | with_reducible apply Ext.drewN | with_reducible refine Ext.setCell ?_ ?_ _ | with_reducible apply Ext.step | with_reducible assumption | with_reducible exact Nat.le_refl _ | (simp; done) | (simp; omega)))) z0, Ext.cell_some (by (repeat' (first | with_reducible exact Ext.refl _ | with_reducible apply Ext.alloc | with_reducible apply Ext.drew | with_reducible apply Ext.drewN | with_reducible refine Ext.setCell ?_ ?_ _ | with_reducible apply Ext.step | with_reducible assumption | with_reducible exact Nat.le_refl _ | (simp; done) | (simp; omega)))) z1, Ext.cell_some (by (repeat' (first | with_reducible exact Ext.refl _ | with_reducible apply Ext.alloc | with_reducible apply Ext.drew | with_reducible apply Ext.drewN | with_reducible refine Ext.setCell ?_ ?_ _ | with_reducible apply Ext.step | with_reducible assumption | with_reducible exact Nat.le_refl _ | (simp; done) | (simp; omega)))) z2, by go_cell, by go_cell, by go_simp, by go_cell⟩ ?_
  rintro W0 ⟨X0, hs0, b0, b1, b2, bp, b4, g4, bs⟩
  have HX0 := Lib.hid X0
  have HF0 := Lib.hid (HF.out.ext X0)
  have hBl := cell_lt HF.out.at_.fw
  clear X0 z0 z1 z2
  refine wpIn_rangeFunc_acc (K := boolK) (Bx := W1.heap.size + 1) (off := 0) (N := m * n) (fun j => darkB n m P hs lx ly lz (cx n j) (cy n j)) rfl (by decide) (gf := 109) (lb := #[.pointer (some ⟨W1.heap.size + 1 + 1, 0, none⟩)]) rfl trivial (enters_of Try.func109 (by kernel_rfl) rfl)
    (cells_stops Fence.wide 2 trivial rfl (by decide) (W1.heap.size + 1 + 1) B (W1.heap.size + 1) 0 n m hn1 hn2 hm2 W0 (by omega) (by omega) bs HF0.out.at_.fw HF0.out.at_.fh) (fun _ => rfl) b4 g4 ?a1 ?assign ?body ?done
  case assign =>
    intro l x W K hK
    simp only [cellEnc]
    gi_wp2
    exact hK
  case body =>
    intro l ans x W sv hlen hA hc ho
    have hcx : cx n x.val < n := cx_lt hn1
    have hcy : cy n x.val < m := cy_lt x.isLt
    obtain ⟨dk, hdk⟩ : ∃ z, z = darkB n m P hs lx ly lz (cx n x.val) (cy n x.val) := ⟨_, rfl⟩
    show Code.wpIn _ _ _ _ (AccPost boolK W0 (W1.heap.size + 1) 0 W sv (ans ++ [darkB n m P hs lx ly lz (cx n x.val) (cy n x.val)])) _ _
    rw [← hdk]
    have HSH := Lib.hid fun (Wd : World) (hd : Fld Wd B n m P hs) => (show Calls Try.prog 78 #[.pointer (some ⟨B, 0, none⟩), lightV lx ly lz, .int .i64 (cx n x.val), .int .i64 (cy n x.val)] Wd fun e w' => e = .returned (.bool dk) ∧ Ext Wd w' by
      rw [hdk]
      exact shadow_any B n m P hs lx ly lz _ _ Wd hd hcx hcy hl1 hl2 hl3 hl4 hl5 hl6)
    generalize cx n x.val = xx at *
    generalize cy n x.val = yy at *
    have HAA := Lib.hid hA
    have HO := Lib.hid ho
    have HC := Lib.hid hc
    have hWs := hA.but.size
    have q0 := But.cells (D := sv.ownBlock.toList) (hA.cell b0 (.inl (by omega))) (Acc.notin ho (.inl (by omega)))
    have q1 := But.cells (D := sv.ownBlock.toList) (hA.cell b1 (.inl (by omega))) (Acc.notin ho (.inl (by omega)))
    have q2 := But.cells (D := sv.ownBlock.toList) (hA.cell b2 (.inl (by omega))) (Acc.notin ho (.inl (by omega)))
    have qp := But.cells (D := sv.ownBlock.toList) (hA.cell bp (.inl (by omega))) (Acc.notin ho (.inl (by omega)))
    have qm := But.cells (D := sv.ownBlock.toList) hc (Acc.notin ho (.inl (by omega)))
    have HZ := Lib.hid (show ans.length ≤ 1000000000 by have := Nat.mul_le_mul hm2 hn2; omega)
    clear hdk hA ho hc
    gi_wp2
    refine wpIn_region_steps sv.ownBlock.toList 8 [(0, true), (1, true), (2, true), (3, true), (4, true), (5, true), (6, false), (7, false)] (by kernel_rfl) (by kernel_rfl) ?_
    repeat (refine wpSD_q (by rfl) (fun _ _ _ => trivial) (fun K hK => ?_); go_simp; refine hK _ ?_; clear hK K)
    refine wpSD_q (by rfl) (fun _ _ _ => trivial) (fun K hK => ?_)
    go_simp
    refine ⟨.bool dk, fun δ => (CallsIn.inRound l (callsIn_wide.2 (HSH.out δ.wd (HAA.out.fldD HO.out HF.out HX0.out (by omega) (Ext.refl _) δ)))), hK _ ?_⟩
    clear hK K
    refine wpSD_m (by rfl) (fun _ _ _ => trivial) (fun δ K hK => ?_)
    go_simp
    refine ⟨((Ext.refl _).alloc _).but, hK _ _ ?_⟩
    clear hK K
    have Xd : Ext W δ.wd := ⟨δ, rfl⟩
    refine EK.app_s (K := boolK) (B := W0.heap.size) (xs := ans) (by rfl) rfl (.tmp 25) (.tmp 31) rfl δ.wd.heap.size 1 dk rfl rfl (fun i u hu => cell_new hu) (HO.out.ext (Xd.alloc _)) (Nat.le_trans hWs (Xd.alloc _).bel.size) HZ.out ?_
    intro v' w2 w3 o3 x2 g3
    obtain ⟨Av, kv, cv, rfl⟩ := o3.shape
    refine wpSD_nil ?_
    intro w4 x4
    obtain ⟨e3, f3, _⟩ := HAA.out.after HC.out HO.out ((Xd.alloc _).trans x2) g3
    have f4 := x4.frozen e3 f3
    have e4 := x4.cell_some e3
    have HX2 := Lib.hid ((Xd.alloc _).trans x2)
    have HX4 := Lib.hid x4
    have HG3 := Lib.hid g3
    have HO3 := Lib.hid o3
    clear e3 f3 x2 x4 g3 o3 qp qm q0 q1 q2
    have l4 := cell_lt e4
    simp only [List.drop_succ_cons, List.drop_zero]
    gi_wp2
    exact ⟨_, _, _, _, HX2.out, HG3.out, HO3.out, HX4.out, Ext.refl _⟩
  case done =>
    intro D W sv hD hA hc ho hK
    have HO := Lib.hid ho
    have HAA := Lib.hid hA
    have HK := Lib.hid hK
    clear hA ho hK
    gi_wp2
    have hw1 := HX1.out.bel.size
    refine leaves_marks [D] W (by simp) (mark_one HK.out) (fun W' hW => ⟨_, results_tmp2 rfl _ _ _, sv, by rw [HE.out]; rfl, by rw [HR.out]; exact (HO.out.put hW (mark_one HK.out)).mono (by omega), hW.ext (HAA.out.but.below (HX1.out.trans HX0.out) (by simp; omega)) (by simp; omega)⟩)
end Go.Proofs.Ytlljhimaopnbfaa
