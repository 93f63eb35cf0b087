/- The reference's tilts and facets. Condition: the slice reads as a list. -/
import Derived.Test.YtlljhimaopnbfaaLTools
import Derived.Test.YtlljhimaopnbfaaLFac
namespace Go.Proofs.Ytlljhimaopnbfaa
section
/- LRef: The reference's shades: what each call computes. No condition. -/
open Go.RowKit

theorem within_any (n lo hi : Int) (w : World) :
    Calls Try.prog 67 #[.int .i64 n, .int .i64 lo, .int .i64 hi] w fun e w' => e = .returned (.bool (inB lo hi n)) ∧ w = w' := by
  by_cases h1 : lo ≤ n <;> by_cases h2 : n ≤ hi
  all_goals
    go_enter Try.func67, Try.ntmps67
    go_wp2
    go_ret
    exact ⟨ret_b (by simp [inB, h1, h2]), rfl⟩

set_option maxHeartbeats 1000000 in
theorem refTilt_any (tx ty : Int) (w : World) :
    Calls Try.prog 66 #[tiltV tx ty] w fun e w' => e = .returned (.bool (tiltB tx ty)) ∧ Ext w w' := by
  go_enter Try.func66, Try.ntmps66
  go_wp2_with (go_at_call 67; (with_reducible refine (within_any _ _ _ _).mono ?_); rintro e _ ⟨rfl, rfl⟩)
  all_goals go_ret
  all_goals exact ⟨ret_b (by simp [tiltB, *]), by (repeat' (first | with_reducible exact Ext.refl _ | with_reducible apply Ext.alloc | with_reducible apply Ext.drew | with_reducible apply Ext.drewN | with_reducible refine Ext.setCell ?_ ?_ _ | with_reducible apply Ext.step | with_reducible assumption | with_reducible exact Nat.le_refl _ | (simp; done) | (simp; omega)))⟩

set_option maxHeartbeats 1000000 in
theorem refLight_any (lx ly lz : Int) (w : World) :
    Calls Try.prog 68 #[lightV lx ly lz] w fun e w' => e = .returned (.bool (lightB lx ly lz)) ∧ Ext w w' := by
  go_enter Try.func68, Try.ntmps68
  go_wp2_with (go_at_call 67; (with_reducible refine (within_any _ _ _ _).mono ?_); rintro e _ ⟨rfl, rfl⟩)
  all_goals go_ret
  all_goals exact ⟨ret_b (by simp [lightB, *]), by (repeat' (first | with_reducible exact Ext.refl _ | with_reducible apply Ext.alloc | with_reducible apply Ext.drew | with_reducible apply Ext.drewN | with_reducible refine Ext.setCell ?_ ?_ _ | with_reducible apply Ext.step | with_reducible assumption | with_reducible exact Nat.le_refl _ | (simp; done) | (simp; omega)))⟩

set_option maxHeartbeats 1000000 in
theorem refShaped_any (n d : Int) (w : World) :
    Calls Try.prog 71 #[shadeV n d] w fun e w' => e = .returned (.bool (shapedB n d)) ∧ Ext w w' := by
  go_enter Try.func71, Try.ntmps71
  go_wp2_with (go_at_call 67; (with_reducible refine (within_any _ _ _ _).mono ?_); rintro e _ ⟨rfl, rfl⟩)
  all_goals go_ret
  all_goals exact ⟨ret_b (by simp [shapedB, *]), by (repeat' (first | with_reducible exact Ext.refl _ | with_reducible apply Ext.alloc | with_reducible apply Ext.drew | with_reducible apply Ext.drewN | with_reducible refine Ext.setCell ?_ ?_ _ | with_reducible apply Ext.step | with_reducible assumption | with_reducible exact Nat.le_refl _ | (simp; done) | (simp; omega)))⟩

set_option maxHeartbeats 1000000 in
theorem refCompare_any (an ad bn bd : Int) (w : World) :
    Calls Try.prog 24 #[shadeV an ad, shadeV bn bd] w fun e w' => e = .returned (.int .i64 (compareOf an ad bn bd)) ∧ Ext w w' := by
  cases h1 : shapedB an ad
  · have HT := Lib.hid (show compareOf an ad bn bd = 0 by simp [compareOf, h1])
    go_enter Try.func24, Try.ntmps24
    go_wp2_with fail
    refine (refShaped_any _ _ _).mono ?_
    rintro e _ ⟨rfl, hx⟩
    obtain ⟨δ, rfl⟩ : Ext ((w.alloc (.cells #[.int .i64 an, .int .i64 ad] 27)).alloc (.cells #[.int .i64 bn, .int .i64 bd] 27)) _ := Ext.trans (by (repeat' (first | with_reducible exact Ext.refl _ | with_reducible apply Ext.alloc | with_reducible apply Ext.drew | with_reducible apply Ext.drewN | with_reducible refine Ext.setCell ?_ ?_ _ | with_reducible apply Ext.step | with_reducible assumption | with_reducible exact Nat.le_refl _ | (simp; done) | (simp; omega)))) hx
    clear hx
    try (have hs0 := δ.lt (w.heap.size) (by first | (simp; done) | (simp; omega)))
    try (have hs1 := δ.lt (w.heap.size + 1) (by first | (simp; done) | (simp; omega)))
    go_wp2_with fail
    go_ret
    exact ⟨by rw [HT.out]; rfl, by (repeat' (first | with_reducible exact Ext.refl _ | with_reducible apply Ext.alloc | with_reducible apply Ext.drew | with_reducible apply Ext.drewN | with_reducible refine Ext.setCell ?_ ?_ _ | with_reducible apply Ext.step | with_reducible assumption | with_reducible exact Nat.le_refl _ | (simp; done) | (simp; omega)))⟩
  cases h2 : shapedB bn bd
  · have HT := Lib.hid (show compareOf an ad bn bd = 0 by simp [compareOf, h2])
    go_enter Try.func24, Try.ntmps24
    go_wp2_with fail
    refine (refShaped_any _ _ _).mono ?_
    rintro e _ ⟨rfl, hx⟩
    obtain ⟨δ, rfl⟩ : Ext ((w.alloc (.cells #[.int .i64 an, .int .i64 ad] 27)).alloc (.cells #[.int .i64 bn, .int .i64 bd] 27)) _ := Ext.trans (by (repeat' (first | with_reducible exact Ext.refl _ | with_reducible apply Ext.alloc | with_reducible apply Ext.drew | with_reducible apply Ext.drewN | with_reducible refine Ext.setCell ?_ ?_ _ | with_reducible apply Ext.step | with_reducible assumption | with_reducible exact Nat.le_refl _ | (simp; done) | (simp; omega)))) hx
    clear hx
    try (have hs0 := δ.lt (w.heap.size) (by first | (simp; done) | (simp; omega)))
    try (have hs1 := δ.lt (w.heap.size + 1) (by first | (simp; done) | (simp; omega)))
    go_wp2_with fail
    refine (refShaped_any _ _ _).mono ?_
    rintro e _ ⟨rfl, hx⟩
    obtain ⟨δ, rfl⟩ : Ext ((w.alloc (.cells #[.int .i64 an, .int .i64 ad] 27)).alloc (.cells #[.int .i64 bn, .int .i64 bd] 27)) _ := Ext.trans (by (repeat' (first | with_reducible exact Ext.refl _ | with_reducible apply Ext.alloc | with_reducible apply Ext.drew | with_reducible apply Ext.drewN | with_reducible refine Ext.setCell ?_ ?_ _ | with_reducible apply Ext.step | with_reducible assumption | with_reducible exact Nat.le_refl _ | (simp; done) | (simp; omega)))) hx
    clear hx
    try (have hs0 := δ.lt (w.heap.size) (by first | (simp; done) | (simp; omega)))
    try (have hs1 := δ.lt (w.heap.size + 1) (by first | (simp; done) | (simp; omega)))
    go_wp2_with fail
    go_ret
    exact ⟨by rw [HT.out]; rfl, by (repeat' (first | with_reducible exact Ext.refl _ | with_reducible apply Ext.alloc | with_reducible apply Ext.drew | with_reducible apply Ext.drewN | with_reducible refine Ext.setCell ?_ ?_ _ | with_reducible apply Ext.step | with_reducible assumption | with_reducible exact Nat.le_refl _ | (simp; done) | (simp; omega)))⟩
  have HT := Lib.hid (show compareOf an ad bn bd = _ by rw [compareOf, h1, h2, Bool.and_true, if_pos rfl])
  obtain ⟨⟨ha1, ha2⟩, ha3, ha4⟩ := shapedB_iff.1 h1
  obtain ⟨⟨hb1, hb2⟩, hb3, hb4⟩ := shapedB_iff.1 h2
  obtain ⟨hm1, hm2⟩ := mul_bd ha3 (Int.le_trans ha4 ha2) (by omega : 0 ≤ bd) hb2
  obtain ⟨hm3, hm4⟩ := mul_bd hb3 (Int.le_trans hb4 hb2) (by omega : 0 ≤ ad) ha2
  go_enter Try.func24, Try.ntmps24
  go_wp2_with fail
  refine (refShaped_any _ _ _).mono ?_
  rintro e _ ⟨rfl, hx⟩
  obtain ⟨δ, rfl⟩ : Ext ((w.alloc (.cells #[.int .i64 an, .int .i64 ad] 27)).alloc (.cells #[.int .i64 bn, .int .i64 bd] 27)) _ := Ext.trans (by (repeat' (first | with_reducible exact Ext.refl _ | with_reducible apply Ext.alloc | with_reducible apply Ext.drew | with_reducible apply Ext.drewN | with_reducible refine Ext.setCell ?_ ?_ _ | with_reducible apply Ext.step | with_reducible assumption | with_reducible exact Nat.le_refl _ | (simp; done) | (simp; omega)))) hx
  clear hx
  try (have hs0 := δ.lt (w.heap.size) (by first | (simp; done) | (simp; omega)))
  try (have hs1 := δ.lt (w.heap.size + 1) (by first | (simp; done) | (simp; omega)))
  go_wp2_with fail
  refine (refShaped_any _ _ _).mono ?_
  rintro e _ ⟨rfl, hx⟩
  obtain ⟨δ, rfl⟩ : Ext ((w.alloc (.cells #[.int .i64 an, .int .i64 ad] 27)).alloc (.cells #[.int .i64 bn, .int .i64 bd] 27)) _ := Ext.trans (by (repeat' (first | with_reducible exact Ext.refl _ | with_reducible apply Ext.alloc | with_reducible apply Ext.drew | with_reducible apply Ext.drewN | with_reducible refine Ext.setCell ?_ ?_ _ | with_reducible apply Ext.step | with_reducible assumption | with_reducible exact Nat.le_refl _ | (simp; done) | (simp; omega)))) hx
  clear hx
  try (have hs0 := δ.lt (w.heap.size) (by first | (simp; done) | (simp; omega)))
  try (have hs1 := δ.lt (w.heap.size + 1) (by first | (simp; done) | (simp; omega)))
  go_wp2_with fail
  try (have hs0 := δ.lt (w.heap.size) (by first | (simp; done) | (simp; omega)))
  try (have hs1 := δ.lt (w.heap.size + 1) (by first | (simp; done) | (simp; omega)))
  refine wp_region_bext (by kernel_rfl) (by kernel_rfl) ?_
  repeat (any_goals (go_big_quiet_step (fail)))
  all_goals refine wpQuiet_nil ?_
  all_goals rintro w' hw'
  all_goals obtain ⟨δ, rfl⟩ : Ext ((w.alloc (.cells #[.int .i64 an, .int .i64 ad] 27)).alloc (.cells #[.int .i64 bn, .int .i64 bd] 27)) w' := Ext.trans (by (repeat' (first | with_reducible exact Ext.refl _ | with_reducible apply Ext.alloc | with_reducible apply Ext.drew | with_reducible apply Ext.drewN | with_reducible refine Ext.setCell ?_ ?_ _ | with_reducible apply Ext.step | with_reducible assumption | with_reducible exact Nat.le_refl _ | (simp; done) | (simp; omega)))) hw'
  all_goals clear hw'
  go_wp2_with fail
  all_goals go_ret
  all_goals refine ⟨ret_i ?_, by (repeat' (first | with_reducible exact Ext.refl _ | with_reducible apply Ext.alloc | with_reducible apply Ext.drew | with_reducible apply Ext.drewN | with_reducible refine Ext.setCell ?_ ?_ _ | with_reducible apply Ext.step | with_reducible assumption | with_reducible exact Nat.le_refl _ | (simp; done) | (simp; omega)))⟩
  all_goals
    rw [HT.out]
    generalize an * bd = x at *
    generalize bn * ad = y at *
    (repeat' split) <;> omega

set_option maxHeartbeats 1000000 in
theorem common_any (a b : Int) (w : World) (ha1 : 0 ≤ a) (ha2 : a ≤ 4611686018427387904) (hb1 : 0 ≤ b) (hb2 : b ≤ 4611686018427387904) :
    Calls Try.prog 99 #[.int .i64 a, .int .i64 b] w fun e w' => e = .returned (.int .i64 (Int.gcd a b : Int)) ∧ Ext w w' := by
  go_enter Try.func99, Try.ntmps99
  go_wp2
  go_loopw [0, 1] (fun u v wr => ∃ x y : Int, u = .int .i64 x ∧ v = .int .i64 y ∧ -4611686018427387904 ≤ x ∧ x ≤ 4611686018427387904 ∧ -4611686018427387904 ≤ y ∧ y ≤ 4611686018427387904 ∧ GcdIs a b x y ∧ Ext w wr) (fun _ v _ => (intOf v).natAbs)
  case atStart => exact ⟨a, b, rfl, rfl, by omega, ha2, by omega, hb2, rfl, Ext.refl _⟩
  case round =>
    obtain ⟨x, y, rfl, rfl, hx1, hx2, hy1, hy2, hg, hw⟩ := hrel
    by_cases hy : y = 0
    · subst hy
      go_wp2
      all_goals go_ret
      all_goals refine ⟨ret_i ?_, hw⟩
      all_goals
        unfold GcdIs at hg
        rw [← hg]
        simp
        omega
    · have hyb : (y != 0) = true := by simpa using hy
      have hm := Int.natAbs_tmod x y
      have hm2 := Nat.mod_lt x.natAbs (show 0 < y.natAbs by omega)
      have hm3 : (x.tmod y).natAbs < y.natAbs := by omega
      have Hm := Lib.hid hm3
      have hm4 : -4611686018427387904 ≤ x.tmod y := by omega
      have hm5 : x.tmod y ≤ 4611686018427387904 := by omega
      have Hg := Lib.hid (show GcdIs a b y (x.tmod y) from (gcd_step x y).trans hg)
      clear hm hm2 hm3 hg
      go_wp2_with fail
      refine wp_region_bext (by kernel_rfl) (by kernel_rfl) ?_
      repeat (any_goals (go_big_quiet_step (fail)))
      all_goals refine wpQuiet_nil ?_
      all_goals rintro _ ⟨δ, rfl⟩
      go_wp2_with fail
      go_roundw
      case rel => exact ⟨y, x.tmod y, rfl, rfl, hy1, hy2, hm4, hm5, Hg.out, by (repeat' (first | with_reducible exact Ext.refl _ | with_reducible apply Ext.alloc | with_reducible apply Ext.drew | with_reducible apply Ext.drewN | with_reducible refine Ext.setCell ?_ ?_ _ | with_reducible apply Ext.step | with_reducible assumption | with_reducible exact Nat.le_refl _ | (simp; done) | (simp; omega)))⟩
      case measure => simpa [intOf] using Hm.out

set_option maxRecDepth 100000 in
set_option maxHeartbeats 1000000 in
theorem refShade_any (tx ty p lx ly lz : Int) (w : World) (ht1 : -400 ≤ tx) (ht2 : tx ≤ 400) (ht3 : -400 ≤ ty) (ht4 : ty ≤ 400) (hp1 : 1 ≤ p) (hp2 : p ≤ 100)
    (hl1 : -30 ≤ lx) (hl2 : lx ≤ 30) (hl3 : -30 ≤ ly) (hl4 : ly ≤ 30) (hl5 : 1 ≤ lz) (hl6 : lz ≤ 30) :
    Calls Try.prog 69 #[tiltV tx ty, .int .i64 p, lightV lx ly lz] w fun e w' =>
      e = .returned (shadeV (shadeN tx ty p lx ly lz) (shadeD tx ty p lx ly lz)) ∧ Ext w w' := by
  obtain ⟨ha1, ha2⟩ := abs_mul_bd (b := tx) (B := 400) hl1 hl2 (by omega) (by omega)
  obtain ⟨hb1, hb2⟩ := abs_mul_bd (b := ty) (B := 400) hl3 hl4 (by omega) (by omega)
  obtain ⟨hc1, hc2⟩ := mul_bd (a := 2 * p) (A := 200) (by omega) (by omega) (by omega : 0 ≤ lz) hl6
  obtain ⟨hd1, hd2⟩ := sq_bd ht1 ht2
  obtain ⟨he1, he2⟩ := sq_bd ht3 ht4
  obtain ⟨hf1, hf2⟩ := mul_bd (a := 4 * p) (A := 400) (by omega) (by omega) (by omega : 0 ≤ p) hp2
  obtain ⟨hg1, hg2⟩ := sq_bd hl1 hl2
  obtain ⟨hh1, hh2⟩ := sq_bd hl3 hl4
  obtain ⟨hi1, hi2⟩ := sq_bd (a := lz) (A := 30) (by omega) hl6
  obtain ⟨hal1, hal2⟩ := sq_bd (a := 2 * p * lz - lx * tx - ly * ty) (A := 30000) (by omega) (by omega)
  have hn0 : 1 ≤ 4 * p * p := by
    have := Int.mul_le_mul (show (1 : Int) ≤ 4 * p by omega) hp1 (by decide) (by omega)
    omega
  have hm0 : 1 ≤ lz * lz := by
    have := Int.mul_le_mul hl5 hl5 (by decide) (by omega)
    omega
  obtain ⟨hnm0, hnm2⟩ := mul_bd (a := tx * tx + ty * ty + 4 * p * p) (b := lx * lx + ly * ly + lz * lz) (A := 360000) (B := 2700) (by omega) (by omega) (by omega) (by omega)
  have hnm1 : 1 ≤ (tx * tx + ty * ty + 4 * p * p) * (lx * lx + ly * ly + lz * lz) := by
    have := Int.mul_le_mul (show (1 : Int) ≤ tx * tx + ty * ty + 4 * p * p by omega) (show (1 : Int) ≤ lx * lx + ly * ly + lz * lz by omega) (by decide) (by omega)
    omega
  by_cases hle : 2 * p * lz - lx * tx - ly * ty ≤ 0
  · have HN := Lib.hid (show shadeN tx ty p lx ly lz = 0 from if_pos hle)
    have HD := Lib.hid (show shadeD tx ty p lx ly lz = 1 from if_pos hle)
    go_enter Try.func69, Try.ntmps69
    go_wp2_with fail
    go_returns
    exact ⟨by rw [HN.out, HD.out] <;> rfl, by (repeat' (first | with_reducible exact Ext.refl _ | with_reducible apply Ext.alloc | with_reducible apply Ext.drew | with_reducible apply Ext.drewN | with_reducible refine Ext.setCell ?_ ?_ _ | with_reducible apply Ext.step | with_reducible assumption | with_reducible exact Nat.le_refl _ | (simp; done) | (simp; omega)))⟩
  · have HN := Lib.hid (show shadeN tx ty p lx ly lz = _ from if_neg hle)
    have HD := Lib.hid (show shadeD tx ty p lx ly lz = _ from if_neg hle)
    obtain ⟨g, hg⟩ : ∃ g : Int, g = (Int.gcd ((2 * p * lz - lx * tx - ly * ty) * (2 * p * lz - lx * tx - ly * ty)) ((tx * tx + ty * ty + 4 * p * p) * (lx * lx + ly * ly + lz * lz)) : Int) := ⟨_, rfl⟩
    have hg1 : 1 ≤ g := by
      rw [hg]
      have := Int.gcd_pos_of_ne_zero_right ((2 * p * lz - lx * tx - ly * ty) * (2 * p * lz - lx * tx - ly * ty)) (show (tx * tx + ty * ty + 4 * p * p) * (lx * lx + ly * ly + lz * lz) ≠ 0 by omega)
      omega
    have hg0 : ¬ g = 0 := by omega
    have HC := Lib.hid fun W => common_any ((2 * p * lz - lx * tx - ly * ty) * (2 * p * lz - lx * tx - ly * ty)) ((tx * tx + ty * ty + 4 * p * p) * (lx * lx + ly * ly + lz * lz)) W (by omega) (by omega) (by omega) (by omega)
    rw [← hg] at HC
    have HG := Lib.hid hg
    clear hg
    have hq1 := Int.ediv_nonneg hal1 (show 0 ≤ g by omega)
    have hq2 := Int.ediv_le_self g hal1
    have hq3 := Int.ediv_nonneg hnm0 (show 0 ≤ g by omega)
    have hq4 := Int.ediv_le_self g hnm0
    go_enter Try.func69, Try.ntmps69
    go_wp2_with fail
    refine (HC.out _).mono ?_
    rintro e _ ⟨rfl, hx⟩
    obtain ⟨δ, rfl⟩ : Ext (((w.alloc (.cells #[.int .i64 tx, .int .i64 ty] 23)).alloc (.cells #[.int .i64 lx, .int .i64 ly, .int .i64 lz] 25)).alloc (.cells #[.int .i64 0, .int .i64 0] 27)) _ := Ext.trans (by (repeat' (first | with_reducible exact Ext.refl _ | with_reducible apply Ext.alloc | with_reducible apply Ext.drew | with_reducible apply Ext.drewN | with_reducible refine Ext.setCell ?_ ?_ _ | with_reducible apply Ext.step | with_reducible assumption | with_reducible exact Nat.le_refl _ | (simp; done) | (simp; omega)))) hx
    clear hx
    try (have hs0 := δ.lt (w.heap.size) (by first | (simp; done) | (simp; omega)))
    try (have hs1 := δ.lt (w.heap.size + 1) (by first | (simp; done) | (simp; omega)))
    try (have hs2 := δ.lt (w.heap.size + 1 + 1) (by first | (simp; done) | (simp; omega)))
    go_wp2_with fail
    refine wp_region_still_tail 9 (by kernel_rfl) (by kernel_rfl) ?_
    simp only [List.take_succ_cons, List.take_zero, List.drop_succ_cons, List.drop_zero]
    repeat (refine wpStill_step (fun K hK => ?_); go_simp; (try go_bits); refine hK _ ?_; clear hK K)
    refine wpStill_nil ?_
    change wpList _ _ _ _ _ δ.wd.drew
    go_wp2_with fail
    go_returns
    exact ⟨by rw [HN.out, HD.out, alongOf, denOf, ← HG.out], by (repeat' (first | with_reducible exact Ext.refl _ | with_reducible apply Ext.alloc | with_reducible apply Ext.drew | with_reducible apply Ext.drewN | with_reducible refine Ext.setCell ?_ ?_ _ | with_reducible apply Ext.step | with_reducible assumption | with_reducible exact Nat.le_refl _ | (simp; done) | (simp; omega)))⟩

set_option maxHeartbeats 1000000 in
theorem refBright_any (tx ty p lx ly lz : Int) (w : World) :
    Calls Try.prog 22 #[tiltV tx ty, .int .i64 p, lightV lx ly lz] w fun e w' => e = .returned (brightV tx ty p lx ly lz) ∧ Ext w w' := by
  cases h1 : tiltB tx ty
  · have HE := Lib.hid (show brightE tx ty p lx ly lz = 2 by simp [brightE, h1])
    have HN := Lib.hid (show brightN tx ty p lx ly lz = 0 by simp [brightN, h1])
    have HD := Lib.hid (show brightD tx ty p lx ly lz = 0 by simp [brightD, h1])
    go_enter Try.func22, Try.ntmps22
    go_wp2_with fail
    refine (refTilt_any _ _ _).mono ?_
    rintro e _ ⟨rfl, hx⟩
    obtain ⟨δ, rfl⟩ : Ext (((w.alloc (.cells #[.int .i64 tx, .int .i64 ty] 23)).alloc (.cells #[.int .i64 lx, .int .i64 ly, .int .i64 lz] 25)).alloc (.cells #[.int .i64 0, .int .i64 0] 27)) _ := Ext.trans (by (repeat' (first | with_reducible exact Ext.refl _ | with_reducible apply Ext.alloc | with_reducible apply Ext.drew | with_reducible apply Ext.drewN | with_reducible refine Ext.setCell ?_ ?_ _ | with_reducible apply Ext.step | with_reducible assumption | with_reducible exact Nat.le_refl _ | (simp; done) | (simp; omega)))) hx
    clear hx
    try (have hs0 := δ.lt (w.heap.size) (by first | (simp; done) | (simp; omega)))
    try (have hs1 := δ.lt (w.heap.size + 1) (by first | (simp; done) | (simp; omega)))
    try (have hs2 := δ.lt (w.heap.size + 1 + 1) (by first | (simp; done) | (simp; omega)))
    go_wp2_with fail
    go_returns
    exact ⟨by rw [brightV, HE.out, HN.out, HD.out] <;> rfl, by (repeat' (first | with_reducible exact Ext.refl _ | with_reducible apply Ext.alloc | with_reducible apply Ext.drew | with_reducible apply Ext.drewN | with_reducible refine Ext.setCell ?_ ?_ _ | with_reducible apply Ext.step | with_reducible assumption | with_reducible exact Nat.le_refl _ | (simp; done) | (simp; omega)))⟩
  cases h2 : inB 1 100 p
  · have HE := Lib.hid (show brightE tx ty p lx ly lz = 2 by simp [brightE, h2])
    have HN := Lib.hid (show brightN tx ty p lx ly lz = 0 by simp [brightN, h2])
    have HD := Lib.hid (show brightD tx ty p lx ly lz = 0 by simp [brightD, h2])
    go_enter Try.func22, Try.ntmps22
    go_wp2_with fail
    refine (refTilt_any _ _ _).mono ?_
    rintro e _ ⟨rfl, hx⟩
    obtain ⟨δ, rfl⟩ : Ext (((w.alloc (.cells #[.int .i64 tx, .int .i64 ty] 23)).alloc (.cells #[.int .i64 lx, .int .i64 ly, .int .i64 lz] 25)).alloc (.cells #[.int .i64 0, .int .i64 0] 27)) _ := Ext.trans (by (repeat' (first | with_reducible exact Ext.refl _ | with_reducible apply Ext.alloc | with_reducible apply Ext.drew | with_reducible apply Ext.drewN | with_reducible refine Ext.setCell ?_ ?_ _ | with_reducible apply Ext.step | with_reducible assumption | with_reducible exact Nat.le_refl _ | (simp; done) | (simp; omega)))) hx
    clear hx
    try (have hs0 := δ.lt (w.heap.size) (by first | (simp; done) | (simp; omega)))
    try (have hs1 := δ.lt (w.heap.size + 1) (by first | (simp; done) | (simp; omega)))
    try (have hs2 := δ.lt (w.heap.size + 1 + 1) (by first | (simp; done) | (simp; omega)))
    go_wp2_with fail
    refine (within_any _ _ _ _).mono ?_
    rintro e _ ⟨rfl, rfl⟩
    go_wp2_with fail
    go_returns
    exact ⟨by rw [brightV, HE.out, HN.out, HD.out] <;> rfl, by (repeat' (first | with_reducible exact Ext.refl _ | with_reducible apply Ext.alloc | with_reducible apply Ext.drew | with_reducible apply Ext.drewN | with_reducible refine Ext.setCell ?_ ?_ _ | with_reducible apply Ext.step | with_reducible assumption | with_reducible exact Nat.le_refl _ | (simp; done) | (simp; omega)))⟩
  cases h3 : lightB lx ly lz
  · have HE := Lib.hid (show brightE tx ty p lx ly lz = 61 by simp [brightE, h1, h2, h3])
    have HN := Lib.hid (show brightN tx ty p lx ly lz = 0 by simp [brightN, h3])
    have HD := Lib.hid (show brightD tx ty p lx ly lz = 0 by simp [brightD, h3])
    go_enter Try.func22, Try.ntmps22
    go_wp2_with fail
    refine (refTilt_any _ _ _).mono ?_
    rintro e _ ⟨rfl, hx⟩
    obtain ⟨δ, rfl⟩ : Ext (((w.alloc (.cells #[.int .i64 tx, .int .i64 ty] 23)).alloc (.cells #[.int .i64 lx, .int .i64 ly, .int .i64 lz] 25)).alloc (.cells #[.int .i64 0, .int .i64 0] 27)) _ := Ext.trans (by (repeat' (first | with_reducible exact Ext.refl _ | with_reducible apply Ext.alloc | with_reducible apply Ext.drew | with_reducible apply Ext.drewN | with_reducible refine Ext.setCell ?_ ?_ _ | with_reducible apply Ext.step | with_reducible assumption | with_reducible exact Nat.le_refl _ | (simp; done) | (simp; omega)))) hx
    clear hx
    try (have hs0 := δ.lt (w.heap.size) (by first | (simp; done) | (simp; omega)))
    try (have hs1 := δ.lt (w.heap.size + 1) (by first | (simp; done) | (simp; omega)))
    try (have hs2 := δ.lt (w.heap.size + 1 + 1) (by first | (simp; done) | (simp; omega)))
    go_wp2_with fail
    refine (within_any _ _ _ _).mono ?_
    rintro e _ ⟨rfl, rfl⟩
    go_wp2_with fail
    refine (refLight_any _ _ _ _).mono ?_
    rintro e _ ⟨rfl, hx⟩
    obtain ⟨δ, rfl⟩ : Ext (((w.alloc (.cells #[.int .i64 tx, .int .i64 ty] 23)).alloc (.cells #[.int .i64 lx, .int .i64 ly, .int .i64 lz] 25)).alloc (.cells #[.int .i64 0, .int .i64 0] 27)) _ := Ext.trans (by (repeat' (first | with_reducible exact Ext.refl _ | with_reducible apply Ext.alloc | with_reducible apply Ext.drew | with_reducible apply Ext.drewN | with_reducible refine Ext.setCell ?_ ?_ _ | with_reducible apply Ext.step | with_reducible assumption | with_reducible exact Nat.le_refl _ | (simp; done) | (simp; omega)))) hx
    clear hx
    try (have hs0 := δ.lt (w.heap.size) (by first | (simp; done) | (simp; omega)))
    try (have hs1 := δ.lt (w.heap.size + 1) (by first | (simp; done) | (simp; omega)))
    try (have hs2 := δ.lt (w.heap.size + 1 + 1) (by first | (simp; done) | (simp; omega)))
    go_wp2_with fail
    go_returns
    exact ⟨by rw [brightV, HE.out, HN.out, HD.out] <;> rfl, by (repeat' (first | with_reducible exact Ext.refl _ | with_reducible apply Ext.alloc | with_reducible apply Ext.drew | with_reducible apply Ext.drewN | with_reducible refine Ext.setCell ?_ ?_ _ | with_reducible apply Ext.step | with_reducible assumption | with_reducible exact Nat.le_refl _ | (simp; done) | (simp; omega)))⟩
  have HE := Lib.hid (show brightE tx ty p lx ly lz = 0 by simp [brightE, h1, h2, h3])
  have HN := Lib.hid (show brightN tx ty p lx ly lz = shadeN tx ty p lx ly lz by simp [brightN, h1, h2, h3])
  have HD := Lib.hid (show brightD tx ty p lx ly lz = shadeD tx ty p lx ly lz by simp [brightD, h1, h2, h3])
  obtain ⟨⟨ht1, ht2⟩, ht3, ht4⟩ := tiltB_iff.1 h1
  obtain ⟨⟨hl1, hl2⟩, ⟨hl3, hl4⟩, hl5, hl6⟩ := lightB_iff.1 h3
  obtain ⟨hp1, hp2⟩ := inB_iff.1 h2
  have HB := Lib.hid fun W => refShade_any tx ty p lx ly lz W ht1 ht2 ht3 ht4 hp1 hp2 hl1 hl2 hl3 hl4 hl5 hl6
  go_enter Try.func22, Try.ntmps22
  go_wp2_with fail
  refine (refTilt_any _ _ _).mono ?_
  rintro e _ ⟨rfl, hx⟩
  obtain ⟨δ, rfl⟩ : Ext (((w.alloc (.cells #[.int .i64 tx, .int .i64 ty] 23)).alloc (.cells #[.int .i64 lx, .int .i64 ly, .int .i64 lz] 25)).alloc (.cells #[.int .i64 0, .int .i64 0] 27)) _ := Ext.trans (by (repeat' (first | with_reducible exact Ext.refl _ | with_reducible apply Ext.alloc | with_reducible apply Ext.drew | with_reducible apply Ext.drewN | with_reducible refine Ext.setCell ?_ ?_ _ | with_reducible apply Ext.step | with_reducible assumption | with_reducible exact Nat.le_refl _ | (simp; done) | (simp; omega)))) hx
  clear hx
  try (have hs0 := δ.lt (w.heap.size) (by first | (simp; done) | (simp; omega)))
  try (have hs1 := δ.lt (w.heap.size + 1) (by first | (simp; done) | (simp; omega)))
  try (have hs2 := δ.lt (w.heap.size + 1 + 1) (by first | (simp; done) | (simp; omega)))
  go_wp2_with fail
  refine (within_any _ _ _ _).mono ?_
  rintro e _ ⟨rfl, rfl⟩
  go_wp2_with fail
  refine (refLight_any _ _ _ _).mono ?_
  rintro e _ ⟨rfl, hx⟩
  obtain ⟨δ, rfl⟩ : Ext (((w.alloc (.cells #[.int .i64 tx, .int .i64 ty] 23)).alloc (.cells #[.int .i64 lx, .int .i64 ly, .int .i64 lz] 25)).alloc (.cells #[.int .i64 0, .int .i64 0] 27)) _ := Ext.trans (by (repeat' (first | with_reducible exact Ext.refl _ | with_reducible apply Ext.alloc | with_reducible apply Ext.drew | with_reducible apply Ext.drewN | with_reducible refine Ext.setCell ?_ ?_ _ | with_reducible apply Ext.step | with_reducible assumption | with_reducible exact Nat.le_refl _ | (simp; done) | (simp; omega)))) hx
  clear hx
  try (have hs0 := δ.lt (w.heap.size) (by first | (simp; done) | (simp; omega)))
  try (have hs1 := δ.lt (w.heap.size + 1) (by first | (simp; done) | (simp; omega)))
  try (have hs2 := δ.lt (w.heap.size + 1 + 1) (by first | (simp; done) | (simp; omega)))
  go_wp2_with fail
  refine (HB.out _).mono ?_
  rintro e _ ⟨rfl, hx⟩
  obtain ⟨δ, rfl⟩ : Ext (((w.alloc (.cells #[.int .i64 tx, .int .i64 ty] 23)).alloc (.cells #[.int .i64 lx, .int .i64 ly, .int .i64 lz] 25)).alloc (.cells #[.int .i64 0, .int .i64 0] 27)) _ := Ext.trans (by (repeat' (first | with_reducible exact Ext.refl _ | with_reducible apply Ext.alloc | with_reducible apply Ext.drew | with_reducible apply Ext.drewN | with_reducible refine Ext.setCell ?_ ?_ _ | with_reducible apply Ext.step | with_reducible assumption | with_reducible exact Nat.le_refl _ | (simp; done) | (simp; omega)))) hx
  clear hx
  try (have hs0 := δ.lt (w.heap.size) (by first | (simp; done) | (simp; omega)))
  try (have hs1 := δ.lt (w.heap.size + 1) (by first | (simp; done) | (simp; omega)))
  try (have hs2 := δ.lt (w.heap.size + 1 + 1) (by first | (simp; done) | (simp; omega)))
  go_wp2_with fail
  go_returns
  exact ⟨by rw [brightV, HE.out, HN.out, HD.out] <;> rfl, by (repeat' (first | with_reducible exact Ext.refl _ | with_reducible apply Ext.alloc | with_reducible apply Ext.drew | with_reducible apply Ext.drewN | with_reducible refine Ext.setCell ?_ ?_ _ | with_reducible apply Ext.step | with_reducible assumption | with_reducible exact Nat.le_refl _ | (simp; done) | (simp; omega)))⟩
end
section
/- LRs: The reference's surfaces: what each call computes. Condition: the slice reads as a list. -/
open Go.RowKit

set_option maxRecDepth 100000 in
set_option maxHeartbeats 4000000 in
theorem refSurface_any (W H P : Int) (hv : Value) (hs : List Int) (w : World) (hI : intK.Is w hv hs) :
    Calls Try.prog 74 #[surfV W H P hv] w fun e w' => e = .returned (.bool (surfB W H P hs)) ∧ Ext w w' := by
  have hl := hI.len
  unfold maxLen at hl
  have HII := Lib.hid (intK_isI hI)
  have HS := Lib.hid (show surfB W H P hs = (inB 2 24 W && inB 2 24 H && inB 1 100 P && decide ((hs.length : Int) = W * H) && allB (-100) 100 hs) from rfl)
  obtain ⟨A, c, rfl, _⟩ := hI
  obtain ⟨_, _, he, _, _, hr⟩ := HII.out
  cases he
  have HR := Lib.hid hr
  clear hr HII
  generalize hL : hs.length = L at *
  have HL := Lib.hid hL
  clear hL
  cases h1 : inB 2 24 W
  · go_enter Try.func74, Try.ntmps74
    go_wp2_with (go_at_call 67; (with_reducible refine (within_any _ _ _ _).mono ?_); rintro e _ ⟨rfl, rfl⟩)
    go_ret
    exact ⟨ret_b (by rw [HS.out, h1]; rfl), by (repeat' (first | with_reducible exact Ext.refl _ | with_reducible apply Ext.alloc | with_reducible apply Ext.drew | with_reducible apply Ext.drewN | with_reducible refine Ext.setCell ?_ ?_ _ | with_reducible apply Ext.step | with_reducible assumption | with_reducible exact Nat.le_refl _ | (simp; done) | (simp; omega)))⟩
  cases h2 : inB 2 24 H
  · go_enter Try.func74, Try.ntmps74
    go_wp2_with (go_at_call 67; (with_reducible refine (within_any _ _ _ _).mono ?_); rintro e _ ⟨rfl, rfl⟩)
    go_ret
    exact ⟨ret_b (by rw [HS.out, h1, h2]; rfl), by (repeat' (first | with_reducible exact Ext.refl _ | with_reducible apply Ext.alloc | with_reducible apply Ext.drew | with_reducible apply Ext.drewN | with_reducible refine Ext.setCell ?_ ?_ _ | with_reducible apply Ext.step | with_reducible assumption | with_reducible exact Nat.le_refl _ | (simp; done) | (simp; omega)))⟩
  cases h3 : inB 1 100 P
  · go_enter Try.func74, Try.ntmps74
    go_wp2_with (go_at_call 67; (with_reducible refine (within_any _ _ _ _).mono ?_); rintro e _ ⟨rfl, rfl⟩)
    go_ret
    exact ⟨ret_b (by rw [HS.out, h1, h2, h3]; rfl), by (repeat' (first | with_reducible exact Ext.refl _ | with_reducible apply Ext.alloc | with_reducible apply Ext.drew | with_reducible apply Ext.drewN | with_reducible refine Ext.setCell ?_ ?_ _ | with_reducible apply Ext.step | with_reducible assumption | with_reducible exact Nat.le_refl _ | (simp; done) | (simp; omega)))⟩
  obtain ⟨a1, a2⟩ := inB_iff.1 h1
  obtain ⟨b1, b2⟩ := inB_iff.1 h2
  obtain ⟨m1, m2⟩ := mul_bd (a := W) (b := H) (A := 24) (B := 24) (by omega) a2 (by omega) b2
  cases h4 : decide ((L : Int) = W * H)
  · have hne : ((L : Int) != W * H) = true := by simpa using h4
    have h4' : ((L : Int) == W * H) = false := by simpa using h4
    have H4 := Lib.hid h4
    clear h4
    go_enter Try.func74, Try.ntmps74
    go_wp2_with (go_at_call 67; (with_reducible refine (within_any _ _ _ _).mono ?_); rintro e _ ⟨rfl, rfl⟩)
    go_ret
    exact ⟨ret_b (by rw [HS.out, h1, h2, h3, H4.out]; rfl), by (repeat' (first | with_reducible exact Ext.refl _ | with_reducible apply Ext.alloc | with_reducible apply Ext.drew | with_reducible apply Ext.drewN | with_reducible refine Ext.setCell ?_ ?_ _ | with_reducible apply Ext.step | with_reducible assumption | with_reducible exact Nat.le_refl _ | (simp; done) | (simp; omega)))⟩
  have hne : ((L : Int) != W * H) = false := by simpa using h4
  have h4' : ((L : Int) == W * H) = true := by simpa using h4
  have H4 := Lib.hid h4
  clear h4
  go_enter Try.func74, Try.ntmps74
  go_wp2_with (go_at_call 67; (with_reducible refine (within_any _ _ _ _).mono ?_); rintro e _ ⟨rfl, rfl⟩)
  refine lay_wp (fun W0 => Ext w W0 ∧ W0.cell? ⟨w.heap.size, 3, none⟩ = some (.slice A L c)) ⟨by (repeat' (first | with_reducible exact Ext.refl _ | with_reducible apply Ext.alloc | with_reducible apply Ext.drew | with_reducible apply Ext.drewN | with_reducible refine Ext.setCell ?_ ?_ _ | with_reducible apply Ext.step | with_reducible assumption | with_reducible exact Nat.le_refl _ | (simp; done) | (simp; omega))), by go_cell⟩ ?_
  rintro W0 ⟨X0, c3⟩
  go_loop [3] (fun i => ∃ k : Nat, k ≤ L ∧ i = .int .i64 k ∧ Hid (∀ j, j < k → inB (-100) 100 (hs[j]?.getD 0) = true)) (fun i => L - (intOf i).toNat)
  case atStart => exact ⟨0, by omega, rfl, fun j hj => absurd hj (by omega)⟩
  case round =>
    obtain ⟨k, hk, rfl, Ha⟩ := hrel
    by_cases hlt : k < L
    · obtain ⟨b, o, rfl, _, hc⟩ := HR.out.at_ k hlt
      have hc' := X0.cell_some hc
      have hb' := cell_lt hc'
      have H0 := Lib.hid (within_any (hs[k]?.getD 0) (-100) 100 W0)
      cases hin : inB (-100) 100 (hs[k]?.getD 0)
      · go_wp2_with (go_at_call 67; (with_reducible refine H0.out.mono ?_); rintro e w' ⟨rfl, rfl⟩)
        go_ret
        have hno : allB (-100) 100 hs = false := by
          simp only [allB, List.all_eq_false]
          have hlt' : k < hs.length := by rw [HL.out]; exact hlt
          exact ⟨hs[k], List.getElem_mem hlt', by simpa [hlt'] using hin⟩
        exact ⟨ret_b (by rw [HS.out, hno, Bool.and_false]), X0⟩
      · go_wp2_with (go_at_call 67; (with_reducible refine H0.out.mono ?_); rintro e w' ⟨rfl, rfl⟩)
        go_round
        case rel =>
          refine ⟨k + 1, by omega, by go_num, fun j hj => ?_⟩
          rcases (by omega : j < k ∨ j = k) with h | rfl
          · exact Ha.out j h
          · exact hin
        case measure => simp [intOf]; omega
    · obtain rfl : k = L := by omega
      go_wp2
      go_ret
      have hyes : allB (-100) 100 hs = true := by
        simp only [allB, List.all_eq_true]
        intro x hx
        obtain ⟨j, hj, rfl⟩ := List.getElem_of_mem hx
        have := Ha.out j (by rw [← HL.out]; exact hj)
        simpa [hj] using this
      exact ⟨ret_b (by rw [HS.out, h1, h2, h3, H4.out, hyes]; rfl), X0⟩

theorem refCheck_any (W H P : Int) (hv : Value) (hs : List Int) (w : World) (hI : intK.Is w hv hs) :
    Calls Try.prog 30 #[surfV W H P hv] w fun e w' => e = .returned (.int .i64 (surfE W H P hs)) ∧ Ext w w' := by
  have HI := Lib.hid fun (W0 : World) (x : Ext w W0) => refSurface_any W H P hv hs W0 (hI.ext x)
  obtain ⟨A, L, c, rfl, _⟩ := hI.open_
  clear hI
  cases hb : surfB W H P hs
  all_goals
    have HE := Lib.hid (show surfE W H P hs = _ by rw [surfE, hb])
    rw [hb] at HI
    go_enter Try.func30, Try.ntmps30
    go_wp2_with fail
    refine (HI.out _ (by (repeat' (first | with_reducible exact Ext.refl _ | with_reducible apply Ext.alloc | with_reducible apply Ext.drew | with_reducible apply Ext.drewN | with_reducible refine Ext.setCell ?_ ?_ _ | with_reducible apply Ext.step | with_reducible assumption | with_reducible exact Nat.le_refl _ | (simp; done) | (simp; omega))))).mono ?_
    rintro e _ ⟨rfl, hx⟩
    obtain ⟨δ, rfl⟩ : Ext (w.alloc (.cells #[.int .i64 W, .int .i64 H, .int .i64 P, .slice A L c] 37)) _ := Ext.trans (by (repeat' (first | with_reducible exact Ext.refl _ | with_reducible apply Ext.alloc | with_reducible apply Ext.drew | with_reducible apply Ext.drewN | with_reducible refine Ext.setCell ?_ ?_ _ | with_reducible apply Ext.step | with_reducible assumption | with_reducible exact Nat.le_refl _ | (simp; done) | (simp; omega)))) hx
    clear hx
    try (have hs0 := δ.lt (w.heap.size) (by first | (simp; done) | (simp; omega)))
    go_wp2_with fail
    go_ret
    exact ⟨by rw [HE.out]; rfl, by (repeat' (first | with_reducible exact Ext.refl _ | with_reducible apply Ext.alloc | with_reducible apply Ext.drew | with_reducible apply Ext.drewN | with_reducible refine Ext.setCell ?_ ?_ _ | with_reducible apply Ext.step | with_reducible assumption | with_reducible exact Nat.le_refl _ | (simp; done) | (simp; omega)))⟩

/-- A surface that is valid. -/
structure SurfOk (w : World) (hv : Value) (n m : Nat) (P : Int) (hs : List Int) : Prop where
  is : intK.Is w hv hs
  ok : surfB ((n : Int) + 1) ((m : Int) + 1) P hs = true

set_option maxRecDepth 100000 in
set_option maxHeartbeats 1000000 in
theorem height_any (n m : Nat) (P : Int) (hv : Value) (hs : List Int) (x y : Nat) (X Y : Int) (w : World) (hS : SurfOk w hv n m P hs) (hX : X = x) (hY : Y = y) (hx : x ≤ n) (hy : y ≤ m) :
    Calls Try.prog 100 #[surfV ((n : Int) + 1) ((m : Int) + 1) P hv, .int .i64 X, .int .i64 Y] w fun e w' => e = .returned (.int .i64 (hA hs (y * (n + 1) + x))) ∧ Ext w w' := by
  obtain ⟨⟨a1, a2⟩, ⟨b1, b2⟩, _, hlen, _⟩ := surfB_iff.1 hS.ok
  have hlen' : hs.length = (n + 1) * (m + 1) := by rw [← Int.natCast_inj]; simpa using hlen
  have hidx : y * (n + 1) + x < hs.length := by
    have h : y * (n + 1) + (n + 1) ≤ (m + 1) * (n + 1) := by
      rw [← Nat.succ_mul]
      exact Nat.mul_le_mul_right _ (by omega)
    rw [hlen', Nat.mul_comm (n + 1)]
    omega
  obtain ⟨b, o, c, rfl, hb, hcell⟩ := intK_at hS.is (by omega)
  have hmul : y * (n + 1) ≤ 24 * 24 := Nat.mul_le_mul (by omega) (by omega)
  obtain ⟨q, hq⟩ : ∃ q, q = y * (n + 1) := ⟨_, rfl⟩
  have e0 : (y : Int) * ((n : Int) + 1) = (q : Int) := by rw [hq]; simp
  rw [← hq] at hidx hmul ⊢
  obtain ⟨k, hk⟩ : ∃ k, k = q + x := ⟨_, rfl⟩
  have e1 : (q : Int) + (x : Int) = (k : Int) := by omega
  rw [← hk] at hidx ⊢
  have f0 := hcell k hidx
  generalize hs.length = L at *
  clear hcell hS hlen hlen' hq hk
  subst hX
  subst hY
  go_enter Try.func100, Try.ntmps100
  go_wp2
  go_ret
  exact ⟨rfl, by (repeat' (first | with_reducible exact Ext.refl _ | with_reducible apply Ext.alloc | with_reducible apply Ext.drew | with_reducible apply Ext.drewN | with_reducible refine Ext.setCell ?_ ?_ _ | with_reducible apply Ext.step | with_reducible assumption | with_reducible exact Nat.le_refl _ | (simp; done) | (simp; omega)))⟩
end
open Go.RowKit

theorem SurfOk.ext {w w' : World} {hv : Value} {n m : Nat} {P : Int} {hs : List Int} (h : SurfOk w hv n m P hs) (x : Ext w w') : SurfOk w' hv n m P hs := ⟨h.is.ext x, h.ok⟩
theorem SurfOk.bd {w : World} {hv : Value} {n m : Nat} {P : Int} {hs : List Int} (h : SurfOk w hv n m P hs) (i : Nat) : -100 ≤ hA hs i ∧ hA hs i ≤ 100 := hA_bd (surfB_iff.1 h.ok).2.2.2.2 i
theorem SurfOk.nm {w : World} {hv : Value} {n m : Nat} {P : Int} {hs : List Int} (h : SurfOk w hv n m P hs) : (1 ≤ n ∧ n ≤ 23) ∧ (1 ≤ m ∧ m ≤ 23) ∧ 1 ≤ P ∧ P ≤ 100 := by
  obtain ⟨⟨a1, a2⟩, ⟨b1, b2⟩, ⟨p1, p2⟩, _⟩ := surfB_iff.1 h.ok
  omega

/-- The four heights of a cell. -/
theorem heights_at {w : World} {hv : Value} {n m : Nat} {P : Int} {hs : List Int} (hS : SurfOk w hv n m P hs) {x y : Nat} (hx : x < n) (hy : y < m) (W : World) (X : Ext w W) :
    (Calls Try.prog 100 #[surfV ((n : Int) + 1) ((m : Int) + 1) P hv, .int .i64 x, .int .i64 y] W fun e w' => e = .returned (.int .i64 (cor0 n hs x y)) ∧ Ext W w') ∧
    (Calls Try.prog 100 #[surfV ((n : Int) + 1) ((m : Int) + 1) P hv, .int .i64 ((x : Int) + 1), .int .i64 y] W fun e w' => e = .returned (.int .i64 (cor1 n hs x y)) ∧ Ext W w') ∧
    (Calls Try.prog 100 #[surfV ((n : Int) + 1) ((m : Int) + 1) P hv, .int .i64 x, .int .i64 ((y : Int) + 1)] W fun e w' => e = .returned (.int .i64 (cor2 n hs x y)) ∧ Ext W w') ∧
    (Calls Try.prog 100 #[surfV ((n : Int) + 1) ((m : Int) + 1) P hv, .int .i64 ((x : Int) + 1), .int .i64 ((y : Int) + 1)] W fun e w' => e = .returned (.int .i64 (cor3 n hs x y)) ∧ Ext W w') := by
  have hW := hS.ext X
  have e2 : (y + 1) * (n + 1) + x = y * (n + 1) + x + (n + 1) := by rw [Nat.succ_mul]; omega
  have e3 : (y + 1) * (n + 1) + (x + 1) = y * (n + 1) + x + (n + 1) + 1 := by rw [Nat.succ_mul]; omega
  refine ⟨height_any n m P hv hs x y _ _ W hW rfl rfl (by omega) (by omega), height_any n m P hv hs (x + 1) y _ _ W hW (by omega) rfl (by omega) (by omega), ?_, ?_⟩
  · have := height_any n m P hv hs x (y + 1) (x : Int) ((y : Int) + 1) W hW rfl (by omega) (by omega) (by omega)
    rwa [e2] at this
  · have := height_any n m P hv hs (x + 1) (y + 1) ((x : Int) + 1) ((y : Int) + 1) W hW (by omega) (by omega) (by omega) (by omega)
    rwa [e3] at this

set_option maxRecDepth 100000 in
set_option maxHeartbeats 4000000 in
theorem refTiltAt_any (n m : Nat) (P : Int) (hv : Value) (hs : List Int) (x y : Nat) (w : World) (hS : SurfOk w hv n m P hs) (hx : x < n) (hy : y < m) :
    Calls Try.prog 75 #[surfV ((n : Int) + 1) ((m : Int) + 1) P hv, .int .i64 x, .int .i64 y] w fun e w' => e = .returned (tiltV (tiltX n hs x y) (tiltY n hs x y)) ∧ Ext w w' := by
  have HH := Lib.hid fun (W : World) (X : Ext w W) => heights_at hS hx hy W X
  obtain ⟨hn, hm, hp⟩ := hS.nm
  obtain ⟨A, L, c, rfl, _⟩ := hS.is.open_
  have b0 : -100 ≤ cor0 n hs x y ∧ cor0 n hs x y ≤ 100 := hS.bd _
  have b1 : -100 ≤ cor1 n hs x y ∧ cor1 n hs x y ≤ 100 := hS.bd _
  have b2 : -100 ≤ cor2 n hs x y ∧ cor2 n hs x y ≤ 100 := hS.bd _
  have b3 : -100 ≤ cor3 n hs x y ∧ cor3 n hs x y ≤ 100 := hS.bd _
  have HTX := Lib.hid (show tiltX n hs x y = cor1 n hs x y + cor3 n hs x y - cor0 n hs x y - cor2 n hs x y from rfl)
  have HTY := Lib.hid (show tiltY n hs x y = cor2 n hs x y + cor3 n hs x y - cor0 n hs x y - cor1 n hs x y from rfl)
  generalize cor0 n hs x y = r0 at *
  generalize cor1 n hs x y = r1 at *
  generalize cor2 n hs x y = r2 at *
  generalize cor3 n hs x y = r3 at *
  have i1 : IntKind.i64.wrap ((x : Int) + 1) = (x : Int) + 1 := IntWalk.i64_in _ (by omega)
  have i2 : IntKind.i64.wrap ((y : Int) + 1) = (y : Int) + 1 := IntWalk.i64_in _ (by omega)
  clear hS
  go_enter Try.func75, Try.ntmps75
  go_wp2_with fail
  try (have hs0 := δ.lt (w.heap.size) (by first | (simp; done) | (simp; omega)))
  try (have hs1 := δ.lt (w.heap.size + 1) (by first | (simp; done) | (simp; omega)))
  refine wp_region_bext (by kernel_rfl) (by kernel_rfl) ?_
  repeat (any_goals (go_big_quiet_step ((first | (go_at_call 100; (with_reducible exact bext_call (HH.out _ (by (repeat' (first | with_reducible exact Ext.refl _ | with_reducible apply Ext.alloc | with_reducible apply Ext.drew | with_reducible apply Ext.drewN | with_reducible refine Ext.setCell ?_ ?_ _ | with_reducible apply Ext.step | with_reducible assumption | with_reducible exact Nat.le_refl _ | (simp; done) | (simp; omega))))).1)) | (go_at_call 100; (with_reducible exact bext_call (HH.out _ (by (repeat' (first | with_reducible exact Ext.refl _ | with_reducible apply Ext.alloc | with_reducible apply Ext.drew | with_reducible apply Ext.drewN | with_reducible refine Ext.setCell ?_ ?_ _ | with_reducible apply Ext.step | with_reducible assumption | with_reducible exact Nat.le_refl _ | (simp; done) | (simp; omega))))).2.1)) | (go_at_call 100; (with_reducible exact bext_call (HH.out _ (by (repeat' (first | with_reducible exact Ext.refl _ | with_reducible apply Ext.alloc | with_reducible apply Ext.drew | with_reducible apply Ext.drewN | with_reducible refine Ext.setCell ?_ ?_ _ | with_reducible apply Ext.step | with_reducible assumption | with_reducible exact Nat.le_refl _ | (simp; done) | (simp; omega))))).2.2.1)) | (go_at_call 100; (with_reducible exact bext_call (HH.out _ (by (repeat' (first | with_reducible exact Ext.refl _ | with_reducible apply Ext.alloc | with_reducible apply Ext.drew | with_reducible apply Ext.drewN | with_reducible refine Ext.setCell ?_ ?_ _ | with_reducible apply Ext.step | with_reducible assumption | with_reducible exact Nat.le_refl _ | (simp; done) | (simp; omega))))).2.2.2))))))
  all_goals refine wpQuiet_nil ?_
  all_goals rintro w' hw'
  all_goals obtain ⟨δ, rfl⟩ : Ext ((w.alloc (.cells #[.int .i64 ((n : Int) + 1), .int .i64 ((m : Int) + 1), .int .i64 P, .slice A L c] 37)).alloc (.cells #[.int .i64 0, .int .i64 0] 23)) w' := Ext.trans (by (repeat' (first | with_reducible exact Ext.refl _ | with_reducible apply Ext.alloc | with_reducible apply Ext.drew | with_reducible apply Ext.drewN | with_reducible refine Ext.setCell ?_ ?_ _ | with_reducible apply Ext.step | with_reducible assumption | with_reducible exact Nat.le_refl _ | (simp; done) | (simp; omega)))) hw'
  all_goals clear hw'
  clear i1 i2
  go_wp2_with fail
  go_returns
  exact ⟨by rw [HTX.out, HTY.out], by (repeat' (first | with_reducible exact Ext.refl _ | with_reducible apply Ext.alloc | with_reducible apply Ext.drew | with_reducible apply Ext.drewN | with_reducible refine Ext.setCell ?_ ?_ _ | with_reducible apply Ext.step | with_reducible assumption | with_reducible exact Nat.le_refl _ | (simp; done) | (simp; omega)))⟩

set_option maxRecDepth 100000 in
set_option maxHeartbeats 4000000 in
theorem refFacets_any (W H P : Int) (hv : Value) (hs : List Int) (w : World) (hI : intK.Is w hv hs) :
    Calls Try.prog 28 #[surfV W H P hv] w (RetEE tiltK w (facetsL W H P hs) (surfE W H P hs)) := by
  have HSB := Lib.hid fun (W0 : World) (x : Ext w W0) => refSurface_any W H P hv hs W0 (hI.ext x)
  cases hb : surfB W H P hs
  · have HE := Lib.hid (show surfE W H P hs = 60 by simp [surfE, hb])
    have HR := Lib.hid (show facetsL W H P hs = [] by simp [facetsL, hb])
    rw [hb] at HSB
    obtain ⟨A, L, c, rfl, _⟩ := hI.open_
    clear hI hb
    go_enter Try.func28, Try.ntmps28
    go_wp2_with fail
    refine (HSB.out _ (by (repeat' (first | with_reducible exact Ext.refl _ | with_reducible apply Ext.alloc | with_reducible apply Ext.drew | with_reducible apply Ext.drewN | with_reducible refine Ext.setCell ?_ ?_ _ | with_reducible apply Ext.step | with_reducible assumption | with_reducible exact Nat.le_refl _ | (simp; done) | (simp; omega))))).mono ?_
    rintro e _ ⟨rfl, hx⟩
    obtain ⟨δ, rfl⟩ : Ext (w.alloc (.cells #[.int .i64 W, .int .i64 H, .int .i64 P, .slice A L c] 37)) _ := Ext.trans (by (repeat' (first | with_reducible exact Ext.refl _ | with_reducible apply Ext.alloc | with_reducible apply Ext.drew | with_reducible apply Ext.drewN | with_reducible refine Ext.setCell ?_ ?_ _ | with_reducible apply Ext.step | with_reducible assumption | with_reducible exact Nat.le_refl _ | (simp; done) | (simp; omega)))) hx
    clear hx
    try (have hs0 := δ.lt (w.heap.size) (by first | (simp; done) | (simp; omega)))
    go_wp2_with fail
    go_ret2
    exact ⟨_, by rw [HE.out]; rfl, by rw [HR.out]; exact EK.Own.nil _ _, by (repeat' (first | with_reducible exact Ext.refl _ | with_reducible apply Ext.alloc | with_reducible apply Ext.drew | with_reducible apply Ext.drewN | with_reducible refine Ext.setCell ?_ ?_ _ | with_reducible apply Ext.step | with_reducible assumption | with_reducible exact Nat.le_refl _ | (simp; done) | (simp; omega)))⟩
  · have HE := Lib.hid (show surfE W H P hs = 0 by simp [surfE, hb])
    obtain ⟨n, m, rfl, rfl, hn1, hn2, hm1, hm2⟩ := surf_nm hb
    have HR := Lib.hid (show facetsL ((n : Int) + 1) ((m : Int) + 1) P hs = (List.range (m * n)).map fun j => (tiltX n hs (cx n j) (cy n j), tiltY n hs (cx n j) (cy n j)) by simp [facetsL, hb, nOf_add, tiltsL])
    have HS := Lib.hid (show SurfOk w hv n m P hs from ⟨hI, hb⟩)
    rw [hb] at HSB
    obtain ⟨A, L, c, rfl, _⟩ := hI.open_
    have hmn := Nat.mul_le_mul hm2 hn2
    clear hI hb
    go_enter Try.func28, Try.ntmps28
    go_wp2_with fail
    refine (HSB.out _ (by (repeat' (first | with_reducible exact Ext.refl _ | with_reducible apply Ext.alloc | with_reducible apply Ext.drew | with_reducible apply Ext.drewN | with_reducible refine Ext.setCell ?_ ?_ _ | with_reducible apply Ext.step | with_reducible assumption | with_reducible exact Nat.le_refl _ | (simp; done) | (simp; omega))))).mono ?_
    rintro e _ ⟨rfl, hx⟩
    obtain ⟨δ, rfl⟩ : Ext (w.alloc (.cells #[.int .i64 ((n : Int) + 1), .int .i64 ((m : Int) + 1), .int .i64 P, .slice A L c] 37)) _ := Ext.trans (by (repeat' (first | with_reducible exact Ext.refl _ | with_reducible apply Ext.alloc | with_reducible apply Ext.drew | with_reducible apply Ext.drewN | with_reducible refine Ext.setCell ?_ ?_ _ | with_reducible apply Ext.step | with_reducible assumption | with_reducible exact Nat.le_refl _ | (simp; done) | (simp; omega)))) hx
    clear hx
    try (have hs0 := δ.lt (w.heap.size) (by first | (simp; done) | (simp; omega)))
    go_wp2_with fail
    refine lay_wp (fun W0 => Ext w W0 ∧ W0.cell? ⟨w.heap.size, 0, none⟩ = some (.int .i64 ((n : Int) + 1)) ∧ W0.cell? ⟨w.heap.size, 1, none⟩ = some (.int .i64 ((m : Int) + 1)) ∧ W0.cell? ⟨w.heap.size, 2, none⟩ = some (.int .i64 P) ∧ W0.cell? ⟨w.heap.size, 3, none⟩ = some (.slice A L c)) ⟨by (repeat' (first | with_reducible exact Ext.refl _ | with_reducible apply Ext.alloc | with_reducible apply Ext.drew | with_reducible apply Ext.drewN | with_reducible refine Ext.setCell ?_ ?_ _ | with_reducible apply Ext.step | with_reducible assumption | with_reducible exact Nat.le_refl _ | (simp; done) | (simp; omega))), by go_cell, by go_cell, by go_cell, by go_cell⟩ ?_
    rintro W0 ⟨X0, c0, c1, c2, c3⟩
    have HX0 := Lib.hid X0
    clear X0
    go_loopw [5, 4, 6] (fun yv ov _ wr => ∃ k : Nat, k ≤ m ∧ yv = .int .i64 k ∧ tiltK.Own W0.heap.size wr ov ((List.range (k * n)).map fun j => (tiltX n hs (cx n j) (cy n j), tiltY n hs (cx n j) (cy n j))) ∧ Ext W0 wr) (fun yv _ _ _ => m - (intOf yv).toNat)
    case atStart => exact ⟨0, by omega, rfl, by simpa using EK.Own.nil (K := tiltK) W0.heap.size W0, Ext.refl _⟩
    case round =>
      obtain ⟨k, hk, rfl, ho, hx⟩ := hrel
      obtain ⟨Av, kv, cv, rfl⟩ := ho.shape
      by_cases hlt : k < m
      · have d1 := hx.cell_some c1
        have l1 := cell_lt d1
        have HO := Lib.hid ho
        have HX := Lib.hid hx
        clear ho hx
        go_wp2_with fail
        obtain ⟨wo, rfl⟩ : ∃ wo : World, wo = wr := ⟨_, rfl⟩
        go_loopw [6, 4] (fun xv ov wr => ∃ j : Nat, j ≤ n ∧ xv = .int .i64 j ∧ tiltK.Own W0.heap.size wr ov ((List.range (k * n + j)).map fun j => (tiltX n hs (cx n j) (cy n j), tiltY n hs (cx n j) (cy n j))) ∧ Ext W0 wr) (fun xv _ _ => n - (intOf xv).toNat)
        case atStart => exact ⟨0, by omega, rfl, HO.out, HX.out⟩
        case round =>
          obtain ⟨j, hj, rfl, ho, hx⟩ := hrel
          obtain ⟨Av2, kv2, cv2, rfl⟩ := ho.shape
          by_cases hjl : j < n
          · have e0 := hx.cell_some c0
            have e1 := hx.cell_some c1
            have e2 := hx.cell_some c2
            have e3 := hx.cell_some c3
            have le0 := cell_lt e0
            have HT := Lib.hid (refTiltAt_any n m P (.slice A L c) hs j k wr (HS.out.ext (HX0.out.trans hx)) hjl hlt)
            have HSN := Lib.hid (show (List.range (k * n + (j + 1))).map (fun j => (tiltX n hs (cx n j) (cy n j), tiltY n hs (cx n j) (cy n j))) = (List.range (k * n + j)).map (fun j => (tiltX n hs (cx n j) (cy n j), tiltY n hs (cx n j) (cy n j))) ++ [(tiltX n hs j k, tiltY n hs j k)] by
              rw [← Nat.add_assoc, List.range_succ, List.map_append, List.map_singleton, cx_at hjl, cy_at hjl])
            have HZ := Lib.hid (show ((List.range (k * n + j)).map fun j => (tiltX n hs (cx n j) (cy n j), tiltY n hs (cx n j) (cy n j))).length ≤ 1000000000 by
              rw [List.length_map, List.length_range]
              have := Nat.mul_le_mul (show k ≤ 23 by omega) hn2
              omega)
            have HO := Lib.hid ho
            have HX := Lib.hid hx
            have HBB := Lib.hid (show W0.heap.size ≤ wr.heap.size from hx.bel.size)
            generalize tiltX n hs j k = tx at *
            generalize tiltY n hs j k = ty at *
            clear ho hx
            go_wp2_with fail
            refine HT.out.mono ?_
            rintro e W2 ⟨rfl, x2⟩
            have HX2 := Lib.hid x2
            clear x2
            go_wp2_with (at_builtin; refine EK.app (K := tiltK) rfl (.tmp 24) (.tmp 29) rfl W2.heap.size 1 (tx, ty) rfl rfl (fun i u hu => cell_new hu) (HO.out.ext (HX2.out.alloc _)) (Nat.le_trans HBB.out (HX2.out.alloc _).bel.size) HZ.out ?_; intro v' w3 o3 b3 _; obtain ⟨Av3, kv3, cv3, rfl⟩ := o3.shape; have HO3 := Lib.hid o3; have HB3 := Lib.hid b3; clear o3 b3)
            go_roundw
            case rel => exact ⟨j + 1, by omega, by go_num, by rw [HSN.out]; exact HO3.out, ((HX.out.trans HX2.out).alloc _).below HB3.out (Nat.le_refl _)⟩
            case measure => simp [intOf]; omega
          · obtain rfl : j = n := by omega
            have e0 := hx.cell_some c0
            have le0 := cell_lt e0
            have HO := Lib.hid (show tiltK.Own W0.heap.size wr (.slice Av2 kv2 cv2) ((List.range ((k + 1) * j)).map fun i => (tiltX j hs (cx j i) (cy j i), tiltY j hs (cx j i) (cy j i))) by rw [Nat.succ_mul]; exact ho)
            have HX := Lib.hid hx
            clear ho hx
            go_wp2_with fail
            go_roundw
            case rel => exact ⟨k + 1, by omega, by go_num, HO.out, HX.out⟩
            case measure => simp [intOf]; omega
      · obtain rfl : k = m := by omega
        have d1 := hx.cell_some c1
        have l1 := cell_lt d1
        have HO := Lib.hid ho
        have HX := Lib.hid hx
        clear ho hx
        go_wp2_with fail
        go_ret2
        exact ⟨_, by rw [HE.out]; rfl, by rw [HR.out]; exact HO.out.mono HX0.out.bel.size, HX0.out.trans HX.out⟩
end Go.Proofs.Ytlljhimaopnbfaa
