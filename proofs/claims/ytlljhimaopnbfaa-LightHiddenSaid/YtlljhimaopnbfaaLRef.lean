/- The reference's shades: what each call computes. No condition. -/
import Derived.Test.YtlljhimaopnbfaaLTools
namespace Go.Proofs.Ytlljhimaopnbfaa
open Go.RowKit

theorem within_any (n lo hi : Int) (w : World) :
    Calls Try.prog 67 #[.int .i64 n, .int .i64 lo, .int .i64 hi] w fun e w' => e = .returned (.bool (inB lo hi n)) ∧ w = w' := by
  by_cases h1 : lo ≤ n <;> by_cases h2 : n ≤ hi
  all_goals
    go_enter Try.func67, Try.ntmps67
    go_wp2
    go_ret
    exact ⟨ret_b (by simp [inB, h1, h2]), rfl⟩

set_option maxHeartbeats 1000000 in
theorem refTilt_any (tx ty : Int) (w : World) :
    Calls Try.prog 66 #[tiltV tx ty] w fun e w' => e = .returned (.bool (tiltB tx ty)) ∧ Ext w w' := by
  go_enter Try.func66, Try.ntmps66
  go_wp2_with (go_at_call 67; (with_reducible refine (within_any _ _ _ _).mono ?_); rintro e _ ⟨rfl, rfl⟩)
  all_goals go_ret
  all_goals exact ⟨ret_b (by simp [tiltB, *]), by (repeat' (first | with_reducible exact Ext.refl _ | with_reducible apply Ext.alloc | with_reducible apply Ext.drew | with_reducible apply Ext.drewN | with_reducible refine Ext.setCell ?_ ?_ _ | with_reducible apply Ext.step | with_reducible assumption | with_reducible exact Nat.le_refl _ | (simp; done) | (simp; omega)))⟩

set_option maxHeartbeats 1000000 in
theorem refLight_any (lx ly lz : Int) (w : World) :
    Calls Try.prog 68 #[lightV lx ly lz] w fun e w' => e = .returned (.bool (lightB lx ly lz)) ∧ Ext w w' := by
  go_enter Try.func68, Try.ntmps68
  go_wp2_with (go_at_call 67; (with_reducible refine (within_any _ _ _ _).mono ?_); rintro e _ ⟨rfl, rfl⟩)
  all_goals go_ret
  all_goals exact ⟨ret_b (by simp [lightB, *]), by (repeat' (first | with_reducible exact Ext.refl _ | with_reducible apply Ext.alloc | with_reducible apply Ext.drew | with_reducible apply Ext.drewN | with_reducible refine Ext.setCell ?_ ?_ _ | with_reducible apply Ext.step | with_reducible assumption | with_reducible exact Nat.le_refl _ | (simp; done) | (simp; omega)))⟩

set_option maxHeartbeats 1000000 in
theorem refShaped_any (n d : Int) (w : World) :
    Calls Try.prog 71 #[shadeV n d] w fun e w' => e = .returned (.bool (shapedB n d)) ∧ Ext w w' := by
  go_enter Try.func71, Try.ntmps71
  go_wp2_with (go_at_call 67; (with_reducible refine (within_any _ _ _ _).mono ?_); rintro e _ ⟨rfl, rfl⟩)
  all_goals go_ret
  all_goals exact ⟨ret_b (by simp [shapedB, *]), by (repeat' (first | with_reducible exact Ext.refl _ | with_reducible apply Ext.alloc | with_reducible apply Ext.drew | with_reducible apply Ext.drewN | with_reducible refine Ext.setCell ?_ ?_ _ | with_reducible apply Ext.step | with_reducible assumption | with_reducible exact Nat.le_refl _ | (simp; done) | (simp; omega)))⟩

set_option maxHeartbeats 1000000 in
theorem refCompare_any (an ad bn bd : Int) (w : World) :
    Calls Try.prog 24 #[shadeV an ad, shadeV bn bd] w fun e w' => e = .returned (.int .i64 (compareOf an ad bn bd)) ∧ Ext w w' := by
  cases h1 : shapedB an ad
  · have HT := Lib.hid (show compareOf an ad bn bd = 0 by simp [compareOf, h1])
    go_enter Try.func24, Try.ntmps24
    go_wp2_with fail
    refine (refShaped_any _ _ _).mono ?_
    rintro e _ ⟨rfl, hx⟩
    obtain ⟨δ, rfl⟩ : Ext ((w.alloc (.cells #[.int .i64 an, .int .i64 ad] 27)).alloc (.cells #[.int .i64 bn, .int .i64 bd] 27)) _ := Ext.trans (by (repeat' (first | with_reducible exact Ext.refl _ | with_reducible apply Ext.alloc | with_reducible apply Ext.drew | with_reducible apply Ext.drewN | with_reducible refine Ext.setCell ?_ ?_ _ | with_reducible apply Ext.step | with_reducible assumption | with_reducible exact Nat.le_refl _ | (simp; done) | (simp; omega)))) hx
    clear hx
    try (have hs0 := δ.lt (w.heap.size) (by first | (simp; done) | (simp; omega)))
    try (have hs1 := δ.lt (w.heap.size + 1) (by first | (simp; done) | (simp; omega)))
    go_wp2_with fail
    go_ret
    exact ⟨by rw [HT.out]; rfl, by (repeat' (first | with_reducible exact Ext.refl _ | with_reducible apply Ext.alloc | with_reducible apply Ext.drew | with_reducible apply Ext.drewN | with_reducible refine Ext.setCell ?_ ?_ _ | with_reducible apply Ext.step | with_reducible assumption | with_reducible exact Nat.le_refl _ | (simp; done) | (simp; omega)))⟩
  cases h2 : shapedB bn bd
  · have HT := Lib.hid (show compareOf an ad bn bd = 0 by simp [compareOf, h2])
    go_enter Try.func24, Try.ntmps24
    go_wp2_with fail
    refine (refShaped_any _ _ _).mono ?_
    rintro e _ ⟨rfl, hx⟩
    obtain ⟨δ, rfl⟩ : Ext ((w.alloc (.cells #[.int .i64 an, .int .i64 ad] 27)).alloc (.cells #[.int .i64 bn, .int .i64 bd] 27)) _ := Ext.trans (by (repeat' (first | with_reducible exact Ext.refl _ | with_reducible apply Ext.alloc | with_reducible apply Ext.drew | with_reducible apply Ext.drewN | with_reducible refine Ext.setCell ?_ ?_ _ | with_reducible apply Ext.step | with_reducible assumption | with_reducible exact Nat.le_refl _ | (simp; done) | (simp; omega)))) hx
    clear hx
    try (have hs0 := δ.lt (w.heap.size) (by first | (simp; done) | (simp; omega)))
    try (have hs1 := δ.lt (w.heap.size + 1) (by first | (simp; done) | (simp; omega)))
    go_wp2_with fail
    refine (refShaped_any _ _ _).mono ?_
    rintro e _ ⟨rfl, hx⟩
    obtain ⟨δ, rfl⟩ : Ext ((w.alloc (.cells #[.int .i64 an, .int .i64 ad] 27)).alloc (.cells #[.int .i64 bn, .int .i64 bd] 27)) _ := Ext.trans (by (repeat' (first | with_reducible exact Ext.refl _ | with_reducible apply Ext.alloc | with_reducible apply Ext.drew | with_reducible apply Ext.drewN | with_reducible refine Ext.setCell ?_ ?_ _ | with_reducible apply Ext.step | with_reducible assumption | with_reducible exact Nat.le_refl _ | (simp; done) | (simp; omega)))) hx
    clear hx
    try (have hs0 := δ.lt (w.heap.size) (by first | (simp; done) | (simp; omega)))
    try (have hs1 := δ.lt (w.heap.size + 1) (by first | (simp; done) | (simp; omega)))
    go_wp2_with fail
    go_ret
    exact ⟨by rw [HT.out]; rfl, by (repeat' (first | with_reducible exact Ext.refl _ | with_reducible apply Ext.alloc | with_reducible apply Ext.drew | with_reducible apply Ext.drewN | with_reducible refine Ext.setCell ?_ ?_ _ | with_reducible apply Ext.step | with_reducible assumption | with_reducible exact Nat.le_refl _ | (simp; done) | (simp; omega)))⟩
  have HT := Lib.hid (show compareOf an ad bn bd = _ by rw [compareOf, h1, h2, Bool.and_true, if_pos rfl])
  obtain ⟨⟨ha1, ha2⟩, ha3, ha4⟩ := shapedB_iff.1 h1
  obtain ⟨⟨hb1, hb2⟩, hb3, hb4⟩ := shapedB_iff.1 h2
  obtain ⟨hm1, hm2⟩ := mul_bd ha3 (Int.le_trans ha4 ha2) (by omega : 0 ≤ bd) hb2
  obtain ⟨hm3, hm4⟩ := mul_bd hb3 (Int.le_trans hb4 hb2) (by omega : 0 ≤ ad) ha2
  go_enter Try.func24, Try.ntmps24
  go_wp2_with fail
  refine (refShaped_any _ _ _).mono ?_
  rintro e _ ⟨rfl, hx⟩
  obtain ⟨δ, rfl⟩ : Ext ((w.alloc (.cells #[.int .i64 an, .int .i64 ad] 27)).alloc (.cells #[.int .i64 bn, .int .i64 bd] 27)) _ := Ext.trans (by (repeat' (first | with_reducible exact Ext.refl _ | with_reducible apply Ext.alloc | with_reducible apply Ext.drew | with_reducible apply Ext.drewN | with_reducible refine Ext.setCell ?_ ?_ _ | with_reducible apply Ext.step | with_reducible assumption | with_reducible exact Nat.le_refl _ | (simp; done) | (simp; omega)))) hx
  clear hx
  try (have hs0 := δ.lt (w.heap.size) (by first | (simp; done) | (simp; omega)))
  try (have hs1 := δ.lt (w.heap.size + 1) (by first | (simp; done) | (simp; omega)))
  go_wp2_with fail
  refine (refShaped_any _ _ _).mono ?_
  rintro e _ ⟨rfl, hx⟩
  obtain ⟨δ, rfl⟩ : Ext ((w.alloc (.cells #[.int .i64 an, .int .i64 ad] 27)).alloc (.cells #[.int .i64 bn, .int .i64 bd] 27)) _ := Ext.trans (by (repeat' (first | with_reducible exact Ext.refl _ | with_reducible apply Ext.alloc | with_reducible apply Ext.drew | with_reducible apply Ext.drewN | with_reducible refine Ext.setCell ?_ ?_ _ | with_reducible apply Ext.step | with_reducible assumption | with_reducible exact Nat.le_refl _ | (simp; done) | (simp; omega)))) hx
  clear hx
  try (have hs0 := δ.lt (w.heap.size) (by first | (simp; done) | (simp; omega)))
  try (have hs1 := δ.lt (w.heap.size + 1) (by first | (simp; done) | (simp; omega)))
  go_wp2_with fail
  try (have hs0 := δ.lt (w.heap.size) (by first | (simp; done) | (simp; omega)))
  try (have hs1 := δ.lt (w.heap.size + 1) (by first | (simp; done) | (simp; omega)))
  refine wp_region_bext (by kernel_rfl) (by kernel_rfl) ?_
  repeat (any_goals (go_big_quiet_step (fail)))
  all_goals refine wpQuiet_nil ?_
  all_goals rintro w' hw'
  all_goals obtain ⟨δ, rfl⟩ : Ext ((w.alloc (.cells #[.int .i64 an, .int .i64 ad] 27)).alloc (.cells #[.int .i64 bn, .int .i64 bd] 27)) w' := Ext.trans (by (repeat' (first | with_reducible exact Ext.refl _ | with_reducible apply Ext.alloc | with_reducible apply Ext.drew | with_reducible apply Ext.drewN | with_reducible refine Ext.setCell ?_ ?_ _ | with_reducible apply Ext.step | with_reducible assumption | with_reducible exact Nat.le_refl _ | (simp; done) | (simp; omega)))) hw'
  all_goals clear hw'
  go_wp2_with fail
  all_goals go_ret
  all_goals refine ⟨ret_i ?_, by (repeat' (first | with_reducible exact Ext.refl _ | with_reducible apply Ext.alloc | with_reducible apply Ext.drew | with_reducible apply Ext.drewN | with_reducible refine Ext.setCell ?_ ?_ _ | with_reducible apply Ext.step | with_reducible assumption | with_reducible exact Nat.le_refl _ | (simp; done) | (simp; omega)))⟩
  all_goals
    rw [HT.out]
    generalize an * bd = x at *
    generalize bn * ad = y at *
    (repeat' split) <;> omega

set_option maxHeartbeats 1000000 in
theorem common_any (a b : Int) (w : World) (ha1 : 0 ≤ a) (ha2 : a ≤ 4611686018427387904) (hb1 : 0 ≤ b) (hb2 : b ≤ 4611686018427387904) :
    Calls Try.prog 99 #[.int .i64 a, .int .i64 b] w fun e w' => e = .returned (.int .i64 (Int.gcd a b : Int)) ∧ Ext w w' := by
  go_enter Try.func99, Try.ntmps99
  go_wp2
  go_loopw [0, 1] (fun u v wr => ∃ x y : Int, u = .int .i64 x ∧ v = .int .i64 y ∧ -4611686018427387904 ≤ x ∧ x ≤ 4611686018427387904 ∧ -4611686018427387904 ≤ y ∧ y ≤ 4611686018427387904 ∧ GcdIs a b x y ∧ Ext w wr) (fun _ v _ => (intOf v).natAbs)
  case atStart => exact ⟨a, b, rfl, rfl, by omega, ha2, by omega, hb2, rfl, Ext.refl _⟩
  case round =>
    obtain ⟨x, y, rfl, rfl, hx1, hx2, hy1, hy2, hg, hw⟩ := hrel
    by_cases hy : y = 0
    · subst hy
      go_wp2
      all_goals go_ret
      all_goals refine ⟨ret_i ?_, hw⟩
      all_goals
        unfold GcdIs at hg
        rw [← hg]
        simp
        omega
    · have hyb : (y != 0) = true := by simpa using hy
      have hm := Int.natAbs_tmod x y
      have hm2 := Nat.mod_lt x.natAbs (show 0 < y.natAbs by omega)
      have hm3 : (x.tmod y).natAbs < y.natAbs := by omega
      have Hm := Lib.hid hm3
      have hm4 : -4611686018427387904 ≤ x.tmod y := by omega
      have hm5 : x.tmod y ≤ 4611686018427387904 := by omega
      have Hg := Lib.hid (show GcdIs a b y (x.tmod y) from (gcd_step x y).trans hg)
      clear hm hm2 hm3 hg
      go_wp2_with fail
      refine wp_region_bext (by kernel_rfl) (by kernel_rfl) ?_
      repeat (any_goals (go_big_quiet_step (fail)))
      all_goals refine wpQuiet_nil ?_
      all_goals rintro _ ⟨δ, rfl⟩
      go_wp2_with fail
      go_roundw
      case rel => exact ⟨y, x.tmod y, rfl, rfl, hy1, hy2, hm4, hm5, Hg.out, by (repeat' (first | with_reducible exact Ext.refl _ | with_reducible apply Ext.alloc | with_reducible apply Ext.drew | with_reducible apply Ext.drewN | with_reducible refine Ext.setCell ?_ ?_ _ | with_reducible apply Ext.step | with_reducible assumption | with_reducible exact Nat.le_refl _ | (simp; done) | (simp; omega)))⟩
      case measure => simpa [intOf] using Hm.out

set_option maxRecDepth 100000 in
set_option maxHeartbeats 1000000 in
theorem refShade_any (tx ty p lx ly lz : Int) (w : World) (ht1 : -400 ≤ tx) (ht2 : tx ≤ 400) (ht3 : -400 ≤ ty) (ht4 : ty ≤ 400) (hp1 : 1 ≤ p) (hp2 : p ≤ 100)
    (hl1 : -30 ≤ lx) (hl2 : lx ≤ 30) (hl3 : -30 ≤ ly) (hl4 : ly ≤ 30) (hl5 : 1 ≤ lz) (hl6 : lz ≤ 30) :
    Calls Try.prog 69 #[tiltV tx ty, .int .i64 p, lightV lx ly lz] w fun e w' =>
      e = .returned (shadeV (shadeN tx ty p lx ly lz) (shadeD tx ty p lx ly lz)) ∧ Ext w w' := by
  obtain ⟨ha1, ha2⟩ := abs_mul_bd (b := tx) (B := 400) hl1 hl2 (by omega) (by omega)
  obtain ⟨hb1, hb2⟩ := abs_mul_bd (b := ty) (B := 400) hl3 hl4 (by omega) (by omega)
  obtain ⟨hc1, hc2⟩ := mul_bd (a := 2 * p) (A := 200) (by omega) (by omega) (by omega : 0 ≤ lz) hl6
  obtain ⟨hd1, hd2⟩ := sq_bd ht1 ht2
  obtain ⟨he1, he2⟩ := sq_bd ht3 ht4
  obtain ⟨hf1, hf2⟩ := mul_bd (a := 4 * p) (A := 400) (by omega) (by omega) (by omega : 0 ≤ p) hp2
  obtain ⟨hg1, hg2⟩ := sq_bd hl1 hl2
  obtain ⟨hh1, hh2⟩ := sq_bd hl3 hl4
  obtain ⟨hi1, hi2⟩ := sq_bd (a := lz) (A := 30) (by omega) hl6
  obtain ⟨hal1, hal2⟩ := sq_bd (a := 2 * p * lz - lx * tx - ly * ty) (A := 30000) (by omega) (by omega)
  have hn0 : 1 ≤ 4 * p * p := by
    have := Int.mul_le_mul (show (1 : Int) ≤ 4 * p by omega) hp1 (by decide) (by omega)
    omega
  have hm0 : 1 ≤ lz * lz := by
    have := Int.mul_le_mul hl5 hl5 (by decide) (by omega)
    omega
  obtain ⟨hnm0, hnm2⟩ := mul_bd (a := tx * tx + ty * ty + 4 * p * p) (b := lx * lx + ly * ly + lz * lz) (A := 360000) (B := 2700) (by omega) (by omega) (by omega) (by omega)
  have hnm1 : 1 ≤ (tx * tx + ty * ty + 4 * p * p) * (lx * lx + ly * ly + lz * lz) := by
    have := Int.mul_le_mul (show (1 : Int) ≤ tx * tx + ty * ty + 4 * p * p by omega) (show (1 : Int) ≤ lx * lx + ly * ly + lz * lz by omega) (by decide) (by omega)
    omega
  by_cases hle : 2 * p * lz - lx * tx - ly * ty ≤ 0
  · have HN := Lib.hid (show shadeN tx ty p lx ly lz = 0 from if_pos hle)
    have HD := Lib.hid (show shadeD tx ty p lx ly lz = 1 from if_pos hle)
    go_enter Try.func69, Try.ntmps69
    go_wp2_with fail
    go_returns
    exact ⟨by rw [HN.out, HD.out] <;> rfl, by (repeat' (first | with_reducible exact Ext.refl _ | with_reducible apply Ext.alloc | with_reducible apply Ext.drew | with_reducible apply Ext.drewN | with_reducible refine Ext.setCell ?_ ?_ _ | with_reducible apply Ext.step | with_reducible assumption | with_reducible exact Nat.le_refl _ | (simp; done) | (simp; omega)))⟩
  · have HN := Lib.hid (show shadeN tx ty p lx ly lz = _ from if_neg hle)
    have HD := Lib.hid (show shadeD tx ty p lx ly lz = _ from if_neg hle)
    obtain ⟨g, hg⟩ : ∃ g : Int, g = (Int.gcd ((2 * p * lz - lx * tx - ly * ty) * (2 * p * lz - lx * tx - ly * ty)) ((tx * tx + ty * ty + 4 * p * p) * (lx * lx + ly * ly + lz * lz)) : Int) := ⟨_, rfl⟩
    have hg1 : 1 ≤ g := by
      rw [hg]
      have := Int.gcd_pos_of_ne_zero_right ((2 * p * lz - lx * tx - ly * ty) * (2 * p * lz - lx * tx - ly * ty)) (show (tx * tx + ty * ty + 4 * p * p) * (lx * lx + ly * ly + lz * lz) ≠ 0 by omega)
      omega
    have hg0 : ¬ g = 0 := by omega
    have HC := Lib.hid fun W => common_any ((2 * p * lz - lx * tx - ly * ty) * (2 * p * lz - lx * tx - ly * ty)) ((tx * tx + ty * ty + 4 * p * p) * (lx * lx + ly * ly + lz * lz)) W (by omega) (by omega) (by omega) (by omega)
    rw [← hg] at HC
    have HG := Lib.hid hg
    clear hg
    have hq1 := Int.ediv_nonneg hal1 (show 0 ≤ g by omega)
    have hq2 := Int.ediv_le_self g hal1
    have hq3 := Int.ediv_nonneg hnm0 (show 0 ≤ g by omega)
    have hq4 := Int.ediv_le_self g hnm0
    go_enter Try.func69, Try.ntmps69
    go_wp2_with fail
    refine (HC.out _).mono ?_
    rintro e _ ⟨rfl, hx⟩
    obtain ⟨δ, rfl⟩ : Ext (((w.alloc (.cells #[.int .i64 tx, .int .i64 ty] 23)).alloc (.cells #[.int .i64 lx, .int .i64 ly, .int .i64 lz] 25)).alloc (.cells #[.int .i64 0, .int .i64 0] 27)) _ := Ext.trans (by (repeat' (first | with_reducible exact Ext.refl _ | with_reducible apply Ext.alloc | with_reducible apply Ext.drew | with_reducible apply Ext.drewN | with_reducible refine Ext.setCell ?_ ?_ _ | with_reducible apply Ext.step | with_reducible assumption | with_reducible exact Nat.le_refl _ | (simp; done) | (simp; omega)))) hx
    clear hx
    try (have hs0 := δ.lt (w.heap.size) (by first | (simp; done) | (simp; omega)))
    try (have hs1 := δ.lt (w.heap.size + 1) (by first | (simp; done) | (simp; omega)))
    try (have hs2 := δ.lt (w.heap.size + 1 + 1) (by first | (simp; done) | (simp; omega)))
    go_wp2_with fail
    refine wp_region_still_tail 9 (by kernel_rfl) (by kernel_rfl) ?_
    simp only [List.take_succ_cons, List.take_zero, List.drop_succ_cons, List.drop_zero]
    repeat (refine wpStill_step (fun K hK => ?_); go_simp; (try go_bits); refine hK _ ?_; clear hK K)
    refine wpStill_nil ?_
    change wpList _ _ _ _ _ δ.wd.drew
    go_wp2_with fail
    go_returns
    exact ⟨by rw [HN.out, HD.out, alongOf, denOf, ← HG.out], by (repeat' (first | with_reducible exact Ext.refl _ | with_reducible apply Ext.alloc | with_reducible apply Ext.drew | with_reducible apply Ext.drewN | with_reducible refine Ext.setCell ?_ ?_ _ | with_reducible apply Ext.step | with_reducible assumption | with_reducible exact Nat.le_refl _ | (simp; done) | (simp; omega)))⟩

set_option maxHeartbeats 1000000 in
theorem refBright_any (tx ty p lx ly lz : Int) (w : World) :
    Calls Try.prog 22 #[tiltV tx ty, .int .i64 p, lightV lx ly lz] w fun e w' => e = .returned (brightV tx ty p lx ly lz) ∧ Ext w w' := by
  cases h1 : tiltB tx ty
  · have HE := Lib.hid (show brightE tx ty p lx ly lz = 2 by simp [brightE, h1])
    have HN := Lib.hid (show brightN tx ty p lx ly lz = 0 by simp [brightN, h1])
    have HD := Lib.hid (show brightD tx ty p lx ly lz = 0 by simp [brightD, h1])
    go_enter Try.func22, Try.ntmps22
    go_wp2_with fail
    refine (refTilt_any _ _ _).mono ?_
    rintro e _ ⟨rfl, hx⟩
    obtain ⟨δ, rfl⟩ : Ext (((w.alloc (.cells #[.int .i64 tx, .int .i64 ty] 23)).alloc (.cells #[.int .i64 lx, .int .i64 ly, .int .i64 lz] 25)).alloc (.cells #[.int .i64 0, .int .i64 0] 27)) _ := Ext.trans (by (repeat' (first | with_reducible exact Ext.refl _ | with_reducible apply Ext.alloc | with_reducible apply Ext.drew | with_reducible apply Ext.drewN | with_reducible refine Ext.setCell ?_ ?_ _ | with_reducible apply Ext.step | with_reducible assumption | with_reducible exact Nat.le_refl _ | (simp; done) | (simp; omega)))) hx
    clear hx
    try (have hs0 := δ.lt (w.heap.size) (by first | (simp; done) | (simp; omega)))
    try (have hs1 := δ.lt (w.heap.size + 1) (by first | (simp; done) | (simp; omega)))
    try (have hs2 := δ.lt (w.heap.size + 1 + 1) (by first | (simp; done) | (simp; omega)))
    go_wp2_with fail
    go_returns
    exact ⟨by rw [brightV, HE.out, HN.out, HD.out] <;> rfl, by (repeat' (first | with_reducible exact Ext.refl _ | with_reducible apply Ext.alloc | with_reducible apply Ext.drew | with_reducible apply Ext.drewN | with_reducible refine Ext.setCell ?_ ?_ _ | with_reducible apply Ext.step | with_reducible assumption | with_reducible exact Nat.le_refl _ | (simp; done) | (simp; omega)))⟩
  cases h2 : inB 1 100 p
  · have HE := Lib.hid (show brightE tx ty p lx ly lz = 2 by simp [brightE, h2])
    have HN := Lib.hid (show brightN tx ty p lx ly lz = 0 by simp [brightN, h2])
    have HD := Lib.hid (show brightD tx ty p lx ly lz = 0 by simp [brightD, h2])
    go_enter Try.func22, Try.ntmps22
    go_wp2_with fail
    refine (refTilt_any _ _ _).mono ?_
    rintro e _ ⟨rfl, hx⟩
    obtain ⟨δ, rfl⟩ : Ext (((w.alloc (.cells #[.int .i64 tx, .int .i64 ty] 23)).alloc (.cells #[.int .i64 lx, .int .i64 ly, .int .i64 lz] 25)).alloc (.cells #[.int .i64 0, .int .i64 0] 27)) _ := Ext.trans (by (repeat' (first | with_reducible exact Ext.refl _ | with_reducible apply Ext.alloc | with_reducible apply Ext.drew | with_reducible apply Ext.drewN | with_reducible refine Ext.setCell ?_ ?_ _ | with_reducible apply Ext.step | with_reducible assumption | with_reducible exact Nat.le_refl _ | (simp; done) | (simp; omega)))) hx
    clear hx
    try (have hs0 := δ.lt (w.heap.size) (by first | (simp; done) | (simp; omega)))
    try (have hs1 := δ.lt (w.heap.size + 1) (by first | (simp; done) | (simp; omega)))
    try (have hs2 := δ.lt (w.heap.size + 1 + 1) (by first | (simp; done) | (simp; omega)))
    go_wp2_with fail
    refine (within_any _ _ _ _).mono ?_
    rintro e _ ⟨rfl, rfl⟩
    go_wp2_with fail
    go_returns
    exact ⟨by rw [brightV, HE.out, HN.out, HD.out] <;> rfl, by (repeat' (first | with_reducible exact Ext.refl _ | with_reducible apply Ext.alloc | with_reducible apply Ext.drew | with_reducible apply Ext.drewN | with_reducible refine Ext.setCell ?_ ?_ _ | with_reducible apply Ext.step | with_reducible assumption | with_reducible exact Nat.le_refl _ | (simp; done) | (simp; omega)))⟩
  cases h3 : lightB lx ly lz
  · have HE := Lib.hid (show brightE tx ty p lx ly lz = 61 by simp [brightE, h1, h2, h3])
    have HN := Lib.hid (show brightN tx ty p lx ly lz = 0 by simp [brightN, h3])
    have HD := Lib.hid (show brightD tx ty p lx ly lz = 0 by simp [brightD, h3])
    go_enter Try.func22, Try.ntmps22
    go_wp2_with fail
    refine (refTilt_any _ _ _).mono ?_
    rintro e _ ⟨rfl, hx⟩
    obtain ⟨δ, rfl⟩ : Ext (((w.alloc (.cells #[.int .i64 tx, .int .i64 ty] 23)).alloc (.cells #[.int .i64 lx, .int .i64 ly, .int .i64 lz] 25)).alloc (.cells #[.int .i64 0, .int .i64 0] 27)) _ := Ext.trans (by (repeat' (first | with_reducible exact Ext.refl _ | with_reducible apply Ext.alloc | with_reducible apply Ext.drew | with_reducible apply Ext.drewN | with_reducible refine Ext.setCell ?_ ?_ _ | with_reducible apply Ext.step | with_reducible assumption | with_reducible exact Nat.le_refl _ | (simp; done) | (simp; omega)))) hx
    clear hx
    try (have hs0 := δ.lt (w.heap.size) (by first | (simp; done) | (simp; omega)))
    try (have hs1 := δ.lt (w.heap.size + 1) (by first | (simp; done) | (simp; omega)))
    try (have hs2 := δ.lt (w.heap.size + 1 + 1) (by first | (simp; done) | (simp; omega)))
    go_wp2_with fail
    refine (within_any _ _ _ _).mono ?_
    rintro e _ ⟨rfl, rfl⟩
    go_wp2_with fail
    refine (refLight_any _ _ _ _).mono ?_
    rintro e _ ⟨rfl, hx⟩
    obtain ⟨δ, rfl⟩ : Ext (((w.alloc (.cells #[.int .i64 tx, .int .i64 ty] 23)).alloc (.cells #[.int .i64 lx, .int .i64 ly, .int .i64 lz] 25)).alloc (.cells #[.int .i64 0, .int .i64 0] 27)) _ := Ext.trans (by (repeat' (first | with_reducible exact Ext.refl _ | with_reducible apply Ext.alloc | with_reducible apply Ext.drew | with_reducible apply Ext.drewN | with_reducible refine Ext.setCell ?_ ?_ _ | with_reducible apply Ext.step | with_reducible assumption | with_reducible exact Nat.le_refl _ | (simp; done) | (simp; omega)))) hx
    clear hx
    try (have hs0 := δ.lt (w.heap.size) (by first | (simp; done) | (simp; omega)))
    try (have hs1 := δ.lt (w.heap.size + 1) (by first | (simp; done) | (simp; omega)))
    try (have hs2 := δ.lt (w.heap.size + 1 + 1) (by first | (simp; done) | (simp; omega)))
    go_wp2_with fail
    go_returns
    exact ⟨by rw [brightV, HE.out, HN.out, HD.out] <;> rfl, by (repeat' (first | with_reducible exact Ext.refl _ | with_reducible apply Ext.alloc | with_reducible apply Ext.drew | with_reducible apply Ext.drewN | with_reducible refine Ext.setCell ?_ ?_ _ | with_reducible apply Ext.step | with_reducible assumption | with_reducible exact Nat.le_refl _ | (simp; done) | (simp; omega)))⟩
  have HE := Lib.hid (show brightE tx ty p lx ly lz = 0 by simp [brightE, h1, h2, h3])
  have HN := Lib.hid (show brightN tx ty p lx ly lz = shadeN tx ty p lx ly lz by simp [brightN, h1, h2, h3])
  have HD := Lib.hid (show brightD tx ty p lx ly lz = shadeD tx ty p lx ly lz by simp [brightD, h1, h2, h3])
  obtain ⟨⟨ht1, ht2⟩, ht3, ht4⟩ := tiltB_iff.1 h1
  obtain ⟨⟨hl1, hl2⟩, ⟨hl3, hl4⟩, hl5, hl6⟩ := lightB_iff.1 h3
  obtain ⟨hp1, hp2⟩ := inB_iff.1 h2
  have HB := Lib.hid fun W => refShade_any tx ty p lx ly lz W ht1 ht2 ht3 ht4 hp1 hp2 hl1 hl2 hl3 hl4 hl5 hl6
  go_enter Try.func22, Try.ntmps22
  go_wp2_with fail
  refine (refTilt_any _ _ _).mono ?_
  rintro e _ ⟨rfl, hx⟩
  obtain ⟨δ, rfl⟩ : Ext (((w.alloc (.cells #[.int .i64 tx, .int .i64 ty] 23)).alloc (.cells #[.int .i64 lx, .int .i64 ly, .int .i64 lz] 25)).alloc (.cells #[.int .i64 0, .int .i64 0] 27)) _ := Ext.trans (by (repeat' (first | with_reducible exact Ext.refl _ | with_reducible apply Ext.alloc | with_reducible apply Ext.drew | with_reducible apply Ext.drewN | with_reducible refine Ext.setCell ?_ ?_ _ | with_reducible apply Ext.step | with_reducible assumption | with_reducible exact Nat.le_refl _ | (simp; done) | (simp; omega)))) hx
  clear hx
  try (have hs0 := δ.lt (w.heap.size) (by first | (simp; done) | (simp; omega)))
  try (have hs1 := δ.lt (w.heap.size + 1) (by first | (simp; done) | (simp; omega)))
  try (have hs2 := δ.lt (w.heap.size + 1 + 1) (by first | (simp; done) | (simp; omega)))
  go_wp2_with fail
  refine (within_any _ _ _ _).mono ?_
  rintro e _ ⟨rfl, rfl⟩
  go_wp2_with fail
  refine (refLight_any _ _ _ _).mono ?_
  rintro e _ ⟨rfl, hx⟩
  obtain ⟨δ, rfl⟩ : Ext (((w.alloc (.cells #[.int .i64 tx, .int .i64 ty] 23)).alloc (.cells #[.int .i64 lx, .int .i64 ly, .int .i64 lz] 25)).alloc (.cells #[.int .i64 0, .int .i64 0] 27)) _ := Ext.trans (by (repeat' (first | with_reducible exact Ext.refl _ | with_reducible apply Ext.alloc | with_reducible apply Ext.drew | with_reducible apply Ext.drewN | with_reducible refine Ext.setCell ?_ ?_ _ | with_reducible apply Ext.step | with_reducible assumption | with_reducible exact Nat.le_refl _ | (simp; done) | (simp; omega)))) hx
  clear hx
  try (have hs0 := δ.lt (w.heap.size) (by first | (simp; done) | (simp; omega)))
  try (have hs1 := δ.lt (w.heap.size + 1) (by first | (simp; done) | (simp; omega)))
  try (have hs2 := δ.lt (w.heap.size + 1 + 1) (by first | (simp; done) | (simp; omega)))
  go_wp2_with fail
  refine (HB.out _).mono ?_
  rintro e _ ⟨rfl, hx⟩
  obtain ⟨δ, rfl⟩ : Ext (((w.alloc (.cells #[.int .i64 tx, .int .i64 ty] 23)).alloc (.cells #[.int .i64 lx, .int .i64 ly, .int .i64 lz] 25)).alloc (.cells #[.int .i64 0, .int .i64 0] 27)) _ := Ext.trans (by (repeat' (first | with_reducible exact Ext.refl _ | with_reducible apply Ext.alloc | with_reducible apply Ext.drew | with_reducible apply Ext.drewN | with_reducible refine Ext.setCell ?_ ?_ _ | with_reducible apply Ext.step | with_reducible assumption | with_reducible exact Nat.le_refl _ | (simp; done) | (simp; omega)))) hx
  clear hx
  try (have hs0 := δ.lt (w.heap.size) (by first | (simp; done) | (simp; omega)))
  try (have hs1 := δ.lt (w.heap.size + 1) (by first | (simp; done) | (simp; omega)))
  try (have hs2 := δ.lt (w.heap.size + 1 + 1) (by first | (simp; done) | (simp; omega)))
  go_wp2_with fail
  go_returns
  exact ⟨by rw [brightV, HE.out, HN.out, HD.out] <;> rfl, by (repeat' (first | with_reducible exact Ext.refl _ | with_reducible apply Ext.alloc | with_reducible apply Ext.drew | with_reducible apply Ext.drewN | with_reducible refine Ext.setCell ?_ ?_ _ | with_reducible apply Ext.step | with_reducible assumption | with_reducible exact Nat.le_refl _ | (simp; done) | (simp; omega)))⟩
end Go.Proofs.Ytlljhimaopnbfaa
