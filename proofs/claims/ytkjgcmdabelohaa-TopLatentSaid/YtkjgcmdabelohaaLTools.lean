/- light.CheckLight, Compare, Bright: what each call computes. No condition. -/
import Derived.Test.YtkjgcmdabelohaaLFrom
import Derived.BigGuardPart
import Derived.StillTailTactics
import Derived.LoopN
namespace Go.Proofs.Ytkjgcmdabelohaa
section
/- LBright: light.divisor, light.bright and what they lean on. No condition but bounds. -/
open Go.RowKit

theorem gcd_step (x y : Int) : Int.gcd y (x.tmod y) = Int.gcd x y := by
  simp [Int.gcd, Int.natAbs_tmod]
  rw [Nat.gcd_comm, ← Nat.gcd_rec]
  exact Nat.gcd_comm _ _

def GcdIs (a b x y : Int) : Prop := Int.gcd x y = Int.gcd a b

set_option maxHeartbeats 400000 in
theorem divisor_any (a b : Int) (w : World) (ha1 : -4611686018427387904 ≤ a) (ha2 : a ≤ 4611686018427387904) (hb1 : -4611686018427387904 ≤ b) (hb2 : b ≤ 4611686018427387904) :
    Calls Try.prog 75 #[.int .i64 a, .int .i64 b] w fun e w' => e = .returned (.int .i64 (Int.gcd a b)) ∧ Ext w w' := by
  go_enter Try.func75, Try.ntmps75
  go_wp2
  go_loopw [0, 1] (fun u v wr => ∃ x y : Int, u = .int .i64 x ∧ v = .int .i64 y ∧ -4611686018427387904 ≤ x ∧ x ≤ 4611686018427387904 ∧ -4611686018427387904 ≤ y ∧ y ≤ 4611686018427387904 ∧ GcdIs a b x y ∧ Ext w wr) (fun _ v _ => (intOf v).natAbs)
  case atStart => exact ⟨a, b, rfl, rfl, ha1, ha2, hb1, hb2, rfl, Ext.refl _⟩
  case round =>
    obtain ⟨x, y, rfl, rfl, hx1, hx2, hy1, hy2, hg, hw⟩ := hrel
    by_cases hy : y = 0
    · subst hy
      go_wp2
      all_goals go_ret
      all_goals refine ⟨ret_i ?_, hw⟩
      all_goals
        unfold GcdIs at hg
        rw [← hg]
        simp
        omega
    · have hyb : (y != 0) = true := by simpa using hy
      have hm := Int.natAbs_tmod x y
      have hm2 := Nat.mod_lt x.natAbs (show 0 < y.natAbs by omega)
      have hm3 : (x.tmod y).natAbs < y.natAbs := by omega
      have Hm := Lib.hid hm3
      have hm4 : -4611686018427387904 ≤ x.tmod y := by omega
      have hm5 : x.tmod y ≤ 4611686018427387904 := by omega
      have Hg := Lib.hid (show GcdIs a b y (x.tmod y) from (gcd_step x y).trans hg)
      clear hm hm2 hm3 hg
      go_wp2_with fail
      refine wp_region_bext (by kernel_rfl) (by kernel_rfl) ?_
      repeat (any_goals (go_big_quiet_step (fail)))
      all_goals refine wpQuiet_nil ?_
      all_goals rintro _ ⟨δ, rfl⟩
      go_wp2_with fail
      go_roundw
      case rel => exact ⟨y, x.tmod y, rfl, rfl, hy1, hy2, hm4, hm5, Hg.out, by (repeat' (first | with_reducible exact Ext.refl _ | with_reducible apply Ext.alloc | with_reducible apply Ext.drew | with_reducible apply Ext.drewN | with_reducible refine Ext.setCell ?_ ?_ _ | with_reducible apply Ext.step | with_reducible assumption | with_reducible exact Nat.le_refl _ | (simp; done) | (simp; omega)))⟩
      case measure => simpa [intOf] using Hm.out

def alongOf (tx ty p lx ly lz : Int) : Int := 2 * p * lz - lx * tx - ly * ty
def denOf (tx ty p lx ly lz : Int) : Int := (tx * tx + ty * ty + 4 * p * p) * (lx * lx + ly * ly + lz * lz)
def shadeN (tx ty p lx ly lz : Int) : Int := if alongOf tx ty p lx ly lz ≤ 0 then 0 else alongOf tx ty p lx ly lz * alongOf tx ty p lx ly lz / (Int.gcd (alongOf tx ty p lx ly lz * alongOf tx ty p lx ly lz) (denOf tx ty p lx ly lz) : Int)
def shadeD (tx ty p lx ly lz : Int) : Int := if alongOf tx ty p lx ly lz ≤ 0 then 1 else denOf tx ty p lx ly lz / (Int.gcd (alongOf tx ty p lx ly lz * alongOf tx ty p lx ly lz) (denOf tx ty p lx ly lz) : Int)

theorem mul_bd {a b A B : Int} (h0 : 0 ≤ a) (h1 : a ≤ A) (h2 : 0 ≤ b) (h3 : b ≤ B) : 0 ≤ a * b ∧ a * b ≤ A * B :=
  ⟨Int.mul_nonneg h0 h2, Int.mul_le_mul h1 h3 h2 (Int.le_trans h0 h1)⟩
theorem abs_mul_bd {a b A B : Int} (ha1 : -A ≤ a) (ha2 : a ≤ A) (hb1 : -B ≤ b) (hb2 : b ≤ B) : -(A * B) ≤ a * b ∧ a * b ≤ A * B := by
  have h : (a * b).natAbs ≤ (A * B).natAbs := by
    rw [Int.natAbs_mul, Int.natAbs_mul]
    exact Nat.mul_le_mul (by omega) (by omega)
  have hA : 0 ≤ A * B := Int.mul_nonneg (by omega) (by omega)
  omega
theorem sq_bd {a A : Int} (h1 : -A ≤ a) (h2 : a ≤ A) : 0 ≤ a * a ∧ a * a ≤ A * A := by
  refine ⟨?_, (abs_mul_bd h1 h2 h1 h2).2⟩
  rcases Int.le_total 0 a with h | h
  · exact Int.mul_nonneg h h
  · exact Int.mul_nonneg_of_nonpos_of_nonpos h h

theorem dark_any (w : World) : Calls Try.prog 74 #[] w fun e w' => e = .returned (.agg #[.int .i64 0, .int .i64 1]) ∧ Ext w w' := by
  go_enter Try.func74, Try.ntmps74
  go_wp2
  go_returns
  exact ⟨rfl, by (repeat' (first | with_reducible exact Ext.refl _ | with_reducible apply Ext.alloc | with_reducible apply Ext.drew | with_reducible apply Ext.drewN | with_reducible refine Ext.setCell ?_ ?_ _ | with_reducible apply Ext.step | with_reducible assumption | with_reducible exact Nat.le_refl _ | (simp; done) | (simp; omega)))⟩

set_option maxRecDepth 100000 in
set_option maxHeartbeats 1000000 in
theorem bright_any (tx ty p lx ly lz : Int) (w : World) (ht1 : -400 ≤ tx) (ht2 : tx ≤ 400) (ht3 : -400 ≤ ty) (ht4 : ty ≤ 400) (hp1 : 1 ≤ p) (hp2 : p ≤ 100)
    (hl1 : -30 ≤ lx) (hl2 : lx ≤ 30) (hl3 : -30 ≤ ly) (hl4 : ly ≤ 30) (hl5 : 1 ≤ lz) (hl6 : lz ≤ 30) :
    Calls Try.prog 44 #[.agg #[.int .i64 tx, .int .i64 ty], .int .i64 p, .agg #[.int .i64 lx, .int .i64 ly, .int .i64 lz]] w fun e w' =>
      e = .returned (.agg #[.int .i64 (shadeN tx ty p lx ly lz), .int .i64 (shadeD tx ty p lx ly lz)]) ∧ Ext w w' := by
  obtain ⟨ha1, ha2⟩ := abs_mul_bd (a := -tx) (A := 400) (by omega) (by omega) hl1 hl2
  obtain ⟨hb1, hb2⟩ := abs_mul_bd (a := -ty) (A := 400) (by omega) (by omega) hl3 hl4
  obtain ⟨hc1, hc2⟩ := mul_bd (a := 2 * p) (A := 200) (by omega) (by omega) (by omega : 0 ≤ lz) hl6
  obtain ⟨hd1, hd2⟩ := sq_bd (a := -tx) (A := 400) (by omega) (by omega)
  obtain ⟨he1, he2⟩ := sq_bd (a := -ty) (A := 400) (by omega) (by omega)
  obtain ⟨hf1, hf2⟩ := sq_bd (a := 2 * p) (A := 200) (by omega) (by omega)
  obtain ⟨hg1, hg2⟩ := sq_bd hl1 hl2
  obtain ⟨hh1, hh2⟩ := sq_bd hl3 hl4
  obtain ⟨hi1, hi2⟩ := sq_bd (a := lz) (A := 30) (by omega) hl6
  have hal := sq_bd (a := -tx * lx + -ty * ly + 2 * p * lz) (A := 30000) (by omega) (by omega)
  have hn0 : 4 ≤ 2 * p * (2 * p) := by
    have := Int.mul_le_mul (show (2 : Int) ≤ 2 * p by omega) (show (2 : Int) ≤ 2 * p by omega) (by decide) (by omega)
    omega
  have hm0 : 1 ≤ lz * lz := by
    have := Int.mul_le_mul hl5 hl5 (by decide) (by omega)
    omega
  have hnm := mul_bd (a := -tx * -tx + -ty * -ty + 2 * p * (2 * p)) (b := lx * lx + ly * ly + lz * lz) (A := 360000) (B := 2700) (by omega) (by omega) (by omega) (by omega)
  have hnm1 : 1 ≤ (-tx * -tx + -ty * -ty + 2 * p * (2 * p)) * (lx * lx + ly * ly + lz * lz) := by
    have := Int.mul_le_mul (show (1 : Int) ≤ -tx * -tx + -ty * -ty + 2 * p * (2 * p) by omega) (show (1 : Int) ≤ lx * lx + ly * ly + lz * lz by omega) (by decide) (by omega)
    omega
  have hAl := Lib.hid (show -tx * lx + -ty * ly + 2 * p * lz = alongOf tx ty p lx ly lz by
    unfold alongOf; rw [Int.neg_mul, Int.neg_mul, Int.mul_comm tx, Int.mul_comm ty]; omega)
  have hDe := Lib.hid (show (-tx * -tx + -ty * -ty + 2 * p * (2 * p)) * (lx * lx + ly * ly + lz * lz) = denOf tx ty p lx ly lz by
    unfold denOf; rw [Int.neg_mul_neg, Int.neg_mul_neg, show 2 * p * (2 * p) = 4 * p * p by rw [Int.mul_assoc, Int.mul_left_comm p 2 p, ← Int.mul_assoc 2 2, Int.mul_assoc 4]; rfl])
  have i0 : ∀ w, (Instr.index 135 (.agg #[.int .i64 (-tx), .int .i64 (-ty), .int .i64 (2 * p)]) (.int .i64 0)).run Try.prog w = .ok (.int .i64 (-tx)) w := fun _ => by kernel_rfl
  have i1 : ∀ w, (Instr.index 135 (.agg #[.int .i64 (-tx), .int .i64 (-ty), .int .i64 (2 * p)]) (.int .i64 1)).run Try.prog w = .ok (.int .i64 (-ty)) w := fun _ => by kernel_rfl
  have i2 : ∀ w, (Instr.index 135 (.agg #[.int .i64 (-tx), .int .i64 (-ty), .int .i64 (2 * p)]) (.int .i64 2)).run Try.prog w = .ok (.int .i64 (2 * p)) w := fun _ => by kernel_rfl
  go_enter Try.func44, Try.ntmps44
  go_wp2
  refine wp_loop_rounds 4 ?_
  rw [rounds_succ]
  go_wp2_with fail
  try (have hs0 := δ.lt (w.heap.size) (by first | (simp; done) | (simp; omega)))
  try (have hs1 := δ.lt (w.heap.size + 1) (by first | (simp; done) | (simp; omega)))
  try (have hs2 := δ.lt (w.heap.size + 1 + 1) (by first | (simp; done) | (simp; omega)))
  try (have hs3 := δ.lt (w.heap.size + 1 + 1 + 1) (by first | (simp; done) | (simp; omega)))
  try (have hs4 := δ.lt (w.heap.size + 1 + 1 + 1 + 1) (by first | (simp; done) | (simp; omega)))
  refine wp_region_bext (by kernel_rfl) (by kernel_rfl) ?_
  repeat (any_goals (go_big_quiet_step (fail)))
  all_goals refine wpQuiet_nil ?_
  all_goals rintro w' hw'
  all_goals obtain ⟨δ, rfl⟩ : Ext (((((w.alloc (.cells #[.int .i64 tx, .int .i64 ty] 41)).alloc (.cells #[.int .i64 lx, .int .i64 ly, .int .i64 lz] 43)).alloc (.cells #[.int .i64 0, .int .i64 0] 49)).alloc (.cells #[.int .i64 (-tx), .int .i64 (-ty), .int .i64 (2 * p)] 135)).alloc (.cells #[.int .i64 lx, .int .i64 ly, .int .i64 lz] 135)) w' := Ext.trans (by (repeat' (first | with_reducible exact Ext.refl _ | with_reducible apply Ext.alloc | with_reducible apply Ext.drew | with_reducible apply Ext.drewN | with_reducible refine Ext.setCell ?_ ?_ _ | with_reducible apply Ext.step | with_reducible assumption | with_reducible exact Nat.le_refl _ | (simp; done) | (simp; omega)))) hw'
  all_goals clear hw'
  go_wp2_with fail
  rw [rounds_succ]
  go_wp2_with fail
  try (have hs0 := δ.lt (w.heap.size) (by first | (simp; done) | (simp; omega)))
  try (have hs1 := δ.lt (w.heap.size + 1) (by first | (simp; done) | (simp; omega)))
  try (have hs2 := δ.lt (w.heap.size + 1 + 1) (by first | (simp; done) | (simp; omega)))
  try (have hs3 := δ.lt (w.heap.size + 1 + 1 + 1) (by first | (simp; done) | (simp; omega)))
  try (have hs4 := δ.lt (w.heap.size + 1 + 1 + 1 + 1) (by first | (simp; done) | (simp; omega)))
  refine wp_region_bext (by kernel_rfl) (by kernel_rfl) ?_
  repeat (any_goals (go_big_quiet_step (fail)))
  all_goals refine wpQuiet_nil ?_
  all_goals rintro w' hw'
  all_goals obtain ⟨δ, rfl⟩ : Ext (((((w.alloc (.cells #[.int .i64 tx, .int .i64 ty] 41)).alloc (.cells #[.int .i64 lx, .int .i64 ly, .int .i64 lz] 43)).alloc (.cells #[.int .i64 0, .int .i64 0] 49)).alloc (.cells #[.int .i64 (-tx), .int .i64 (-ty), .int .i64 (2 * p)] 135)).alloc (.cells #[.int .i64 lx, .int .i64 ly, .int .i64 lz] 135)) w' := Ext.trans (by (repeat' (first | with_reducible exact Ext.refl _ | with_reducible apply Ext.alloc | with_reducible apply Ext.drew | with_reducible apply Ext.drewN | with_reducible refine Ext.setCell ?_ ?_ _ | with_reducible apply Ext.step | with_reducible assumption | with_reducible exact Nat.le_refl _ | (simp; done) | (simp; omega)))) hw'
  all_goals clear hw'
  go_wp2_with fail
  rw [rounds_succ]
  go_wp2_with fail
  try (have hs0 := δ.lt (w.heap.size) (by first | (simp; done) | (simp; omega)))
  try (have hs1 := δ.lt (w.heap.size + 1) (by first | (simp; done) | (simp; omega)))
  try (have hs2 := δ.lt (w.heap.size + 1 + 1) (by first | (simp; done) | (simp; omega)))
  try (have hs3 := δ.lt (w.heap.size + 1 + 1 + 1) (by first | (simp; done) | (simp; omega)))
  try (have hs4 := δ.lt (w.heap.size + 1 + 1 + 1 + 1) (by first | (simp; done) | (simp; omega)))
  refine wp_region_bext (by kernel_rfl) (by kernel_rfl) ?_
  repeat (any_goals (go_big_quiet_step (fail)))
  all_goals refine wpQuiet_nil ?_
  all_goals rintro w' hw'
  all_goals obtain ⟨δ, rfl⟩ : Ext (((((w.alloc (.cells #[.int .i64 tx, .int .i64 ty] 41)).alloc (.cells #[.int .i64 lx, .int .i64 ly, .int .i64 lz] 43)).alloc (.cells #[.int .i64 0, .int .i64 0] 49)).alloc (.cells #[.int .i64 (-tx), .int .i64 (-ty), .int .i64 (2 * p)] 135)).alloc (.cells #[.int .i64 lx, .int .i64 ly, .int .i64 lz] 135)) w' := Ext.trans (by (repeat' (first | with_reducible exact Ext.refl _ | with_reducible apply Ext.alloc | with_reducible apply Ext.drew | with_reducible apply Ext.drewN | with_reducible refine Ext.setCell ?_ ?_ _ | with_reducible apply Ext.step | with_reducible assumption | with_reducible exact Nat.le_refl _ | (simp; done) | (simp; omega)))) hw'
  all_goals clear hw'
  go_wp2_with fail
  rw [rounds_succ]
  go_wp2_with fail
  · refine (dark_any _).mono ?_
    rintro e _ ⟨rfl, hx⟩
    obtain ⟨δ, rfl⟩ : Ext (((((w.alloc (.cells #[.int .i64 tx, .int .i64 ty] 41)).alloc (.cells #[.int .i64 lx, .int .i64 ly, .int .i64 lz] 43)).alloc (.cells #[.int .i64 0, .int .i64 0] 49)).alloc (.cells #[.int .i64 (-tx), .int .i64 (-ty), .int .i64 (2 * p)] 135)).alloc (.cells #[.int .i64 lx, .int .i64 ly, .int .i64 lz] 135)) _ := Ext.trans (by (repeat' (first | with_reducible exact Ext.refl _ | with_reducible apply Ext.alloc | with_reducible apply Ext.drew | with_reducible apply Ext.drewN | with_reducible refine Ext.setCell ?_ ?_ _ | with_reducible apply Ext.step | with_reducible assumption | with_reducible exact Nat.le_refl _ | (simp; done) | (simp; omega)))) hx
    clear hx
    try (have hs0 := δ.lt (w.heap.size) (by first | (simp; done) | (simp; omega)))
    try (have hs1 := δ.lt (w.heap.size + 1) (by first | (simp; done) | (simp; omega)))
    try (have hs2 := δ.lt (w.heap.size + 1 + 1) (by first | (simp; done) | (simp; omega)))
    try (have hs3 := δ.lt (w.heap.size + 1 + 1 + 1) (by first | (simp; done) | (simp; omega)))
    try (have hs4 := δ.lt (w.heap.size + 1 + 1 + 1 + 1) (by first | (simp; done) | (simp; omega)))
    go_wp2_with fail
    go_returns
    have hle : alongOf tx ty p lx ly lz ≤ 0 := by rw [← hAl.out]; assumption
    refine ⟨?_, by (repeat' (first | with_reducible exact Ext.refl _ | with_reducible apply Ext.alloc | with_reducible apply Ext.drew | with_reducible apply Ext.drewN | with_reducible refine Ext.setCell ?_ ?_ _ | with_reducible apply Ext.step | with_reducible assumption | with_reducible exact Nat.le_refl _ | (simp; done) | (simp; omega)))⟩
    rw [shadeN, shadeD, if_pos hle, if_pos hle]
  · have hlt : ¬ alongOf tx ty p lx ly lz ≤ 0 := by rw [← hAl.out]; omega
    have HLT := Lib.hid hlt
    clear hlt
    obtain ⟨g, hg⟩ : ∃ g : Int, g = (Int.gcd ((-tx * lx + -ty * ly + 2 * p * lz) * (-tx * lx + -ty * ly + 2 * p * lz)) ((-tx * -tx + -ty * -ty + 2 * p * (2 * p)) * (lx * lx + ly * ly + lz * lz)) : Int) := ⟨_, rfl⟩
    have hg1 : 1 ≤ g := by
      rw [hg]
      have := Int.gcd_pos_of_ne_zero_right ((-tx * lx + -ty * ly + 2 * p * lz) * (-tx * lx + -ty * ly + 2 * p * lz)) (show (-tx * -tx + -ty * -ty + 2 * p * (2 * p)) * (lx * lx + ly * ly + lz * lz) ≠ 0 by omega)
      omega
    have hg0 : ¬ g = 0 := by omega
    obtain ⟨hal1, hal2⟩ := hal
    obtain ⟨hnm0, hnm2⟩ := hnm
    have hq1 := Int.ediv_nonneg hal1 (show 0 ≤ g by omega)
    have hq2 := Int.ediv_le_self g hal1
    have hq3 := Int.ediv_nonneg hnm0 (show 0 ≤ g by omega)
    have hq4 := Int.ediv_le_self g hnm0
    have HC := Lib.hid fun W => divisor_any ((-tx * lx + -ty * ly + 2 * p * lz) * (-tx * lx + -ty * ly + 2 * p * lz)) ((-tx * -tx + -ty * -ty + 2 * p * (2 * p)) * (lx * lx + ly * ly + lz * lz)) W (by omega) (by omega) (by omega) (by omega)
    rw [← hg] at HC
    have HG := Lib.hid hg
    clear hg
    refine (HC.out _).mono ?_
    rintro e _ ⟨rfl, hx⟩
    obtain ⟨δ, rfl⟩ : Ext (((((w.alloc (.cells #[.int .i64 tx, .int .i64 ty] 41)).alloc (.cells #[.int .i64 lx, .int .i64 ly, .int .i64 lz] 43)).alloc (.cells #[.int .i64 0, .int .i64 0] 49)).alloc (.cells #[.int .i64 (-tx), .int .i64 (-ty), .int .i64 (2 * p)] 135)).alloc (.cells #[.int .i64 lx, .int .i64 ly, .int .i64 lz] 135)) _ := Ext.trans (by (repeat' (first | with_reducible exact Ext.refl _ | with_reducible apply Ext.alloc | with_reducible apply Ext.drew | with_reducible apply Ext.drewN | with_reducible refine Ext.setCell ?_ ?_ _ | with_reducible apply Ext.step | with_reducible assumption | with_reducible exact Nat.le_refl _ | (simp; done) | (simp; omega)))) hx
    clear hx
    try (have hs0 := δ.lt (w.heap.size) (by first | (simp; done) | (simp; omega)))
    try (have hs1 := δ.lt (w.heap.size + 1) (by first | (simp; done) | (simp; omega)))
    try (have hs2 := δ.lt (w.heap.size + 1 + 1) (by first | (simp; done) | (simp; omega)))
    try (have hs3 := δ.lt (w.heap.size + 1 + 1 + 1) (by first | (simp; done) | (simp; omega)))
    try (have hs4 := δ.lt (w.heap.size + 1 + 1 + 1 + 1) (by first | (simp; done) | (simp; omega)))
    go_wp2_with fail
    refine wp_region_still_tail 11 (by kernel_rfl) (by kernel_rfl) ?_
    simp only [List.take_succ_cons, List.take_zero, List.drop_succ_cons, List.drop_zero]
    repeat (refine wpStill_step (fun K hK => ?_); go_simp; (try go_bits); refine hK _ ?_; clear hK K)
    refine wpStill_nil ?_
    change wpList _ _ _ _ _ δ.wd.drew
    go_wp2_with fail
    go_returns
    refine ⟨?_, by (repeat' (first | with_reducible exact Ext.refl _ | with_reducible apply Ext.alloc | with_reducible apply Ext.drew | with_reducible apply Ext.drewN | with_reducible refine Ext.setCell ?_ ?_ _ | with_reducible apply Ext.step | with_reducible assumption | with_reducible exact Nat.le_refl _ | (simp; done) | (simp; omega)))⟩
    have hG := HG.out
    rw [hAl.out, hDe.out] at hG
    have hN : shadeN tx ty p lx ly lz = alongOf tx ty p lx ly lz * alongOf tx ty p lx ly lz / g := by rw [shadeN, if_neg (Int.not_le.2 HLT.out), ← hG]
    have hD : shadeD tx ty p lx ly lz = denOf tx ty p lx ly lz / g := by rw [shadeD, if_neg (Int.not_le.2 HLT.out), ← hG]
    rw [hN, hD, hAl.out, hDe.out]
end
open Go.RowKit

abbrev tiltV (tx ty : Int) : Value := .agg #[.int .i64 tx, .int .i64 ty]
abbrev lightV (lx ly lz : Int) : Value := .agg #[.int .i64 lx, .int .i64 ly, .int .i64 lz]
abbrev shadeV (n d : Int) : Value := .agg #[.int .i64 n, .int .i64 d]
def lightB (lx ly lz : Int) : Bool := (inB (-30) 30 lx && inB (-30) 30 ly) && inB 1 30 lz
def lightE (lx ly lz : Int) : Int := if lightB lx ly lz then 0 else 61
def tiltB (tx ty : Int) : Bool := inB (-400) 400 tx && inB (-400) 400 ty
def brightE (tx ty p lx ly lz : Int) : Int := if tiltB tx ty && inB 1 100 p then (if lightB lx ly lz then 0 else 61) else 2
def brightN (tx ty p lx ly lz : Int) : Int := if tiltB tx ty && inB 1 100 p && lightB lx ly lz then shadeN tx ty p lx ly lz else 0
def brightD (tx ty p lx ly lz : Int) : Int := if tiltB tx ty && inB 1 100 p && lightB lx ly lz then shadeD tx ty p lx ly lz else 0
abbrev brightV (tx ty p lx ly lz : Int) : Value := .tuple #[shadeV (brightN tx ty p lx ly lz) (brightD tx ty p lx ly lz), .int .i64 (brightE tx ty p lx ly lz)]
def shapedB (n d : Int) : Bool := inB 1 1000000000 d && inB 0 d n
def compareOf (an ad bn bd : Int) : Int := if shapedB an ad && shapedB bn bd then (if an * bd < bn * ad then -1 else if bn * ad < an * bd then 1 else 0) else 0

theorem lightB_iff {lx ly lz : Int} : lightB lx ly lz = true ↔ (-30 ≤ lx ∧ lx ≤ 30) ∧ (-30 ≤ ly ∧ ly ≤ 30) ∧ 1 ≤ lz ∧ lz ≤ 30 := by
  simp [lightB, inB, and_assoc]
theorem tiltB_iff {tx ty : Int} : tiltB tx ty = true ↔ (-400 ≤ tx ∧ tx ≤ 400) ∧ (-400 ≤ ty ∧ ty ≤ 400) := by
  simp [tiltB, inB]
theorem shapedB_iff {n d : Int} : shapedB n d = true ↔ (1 ≤ d ∧ d ≤ 1000000000) ∧ 0 ≤ n ∧ n ≤ d := by
  simp [shapedB, inB]

set_option maxHeartbeats 1000000 in
theorem checkLight_any (lx ly lz : Int) (w : World) :
    Calls Try.prog 43 #[lightV lx ly lz] w fun e w' => e = .returned (.int .i64 (lightE lx ly lz)) ∧ Ext w w' := by
  cases h1 : (inB (-30) 30 lx && inB (-30) 30 ly)
  · have HT := Lib.hid (show lightE lx ly lz = 61 by simp [lightE, lightB, h1])
    go_enter Try.func43, Try.ntmps43
    go_wp2_with fail
    refine (lfrom_two _ lx ly _ _ _ _ (by go_cell) (by go_cell)).mono ?_
    rintro e _ ⟨rfl, hx⟩
    obtain ⟨δ, rfl⟩ : Ext (w.alloc (.cells #[.int .i64 lx, .int .i64 ly, .int .i64 lz] 43)) _ := Ext.trans (by (repeat' (first | with_reducible exact Ext.refl _ | with_reducible apply Ext.alloc | with_reducible apply Ext.drew | with_reducible apply Ext.drewN | with_reducible refine Ext.setCell ?_ ?_ _ | with_reducible apply Ext.step | with_reducible assumption | with_reducible exact Nat.le_refl _ | (simp; done) | (simp; omega)))) hx
    clear hx
    try (have hs0 := δ.lt (w.heap.size) (by first | (simp; done) | (simp; omega)))
    go_wp2_with fail
    go_ret
    exact ⟨by rw [HT.out]; rfl, by (repeat' (first | with_reducible exact Ext.refl _ | with_reducible apply Ext.alloc | with_reducible apply Ext.drew | with_reducible apply Ext.drewN | with_reducible refine Ext.setCell ?_ ?_ _ | with_reducible apply Ext.step | with_reducible assumption | with_reducible exact Nat.le_refl _ | (simp; done) | (simp; omega)))⟩
  cases h2 : inB 1 30 lz
  all_goals
    have HT := Lib.hid (show lightE lx ly lz = _ by rw [lightE, lightB, h1, h2])
    go_enter Try.func43, Try.ntmps43
    go_wp2_with fail
    refine (lfrom_two _ lx ly _ _ _ _ (by go_cell) (by go_cell)).mono ?_
    rintro e _ ⟨rfl, hx⟩
    obtain ⟨δ, rfl⟩ : Ext (w.alloc (.cells #[.int .i64 lx, .int .i64 ly, .int .i64 lz] 43)) _ := Ext.trans (by (repeat' (first | with_reducible exact Ext.refl _ | with_reducible apply Ext.alloc | with_reducible apply Ext.drew | with_reducible apply Ext.drewN | with_reducible refine Ext.setCell ?_ ?_ _ | with_reducible apply Ext.step | with_reducible assumption | with_reducible exact Nat.le_refl _ | (simp; done) | (simp; omega)))) hx
    clear hx
    try (have hs0 := δ.lt (w.heap.size) (by first | (simp; done) | (simp; omega)))
    go_wp2_with fail
    refine (lfrom_one _ lz _ _ _ _ (by go_cell)).mono ?_
    rintro e _ ⟨rfl, hx⟩
    obtain ⟨δ, rfl⟩ : Ext (w.alloc (.cells #[.int .i64 lx, .int .i64 ly, .int .i64 lz] 43)) _ := Ext.trans (by (repeat' (first | with_reducible exact Ext.refl _ | with_reducible apply Ext.alloc | with_reducible apply Ext.drew | with_reducible apply Ext.drewN | with_reducible refine Ext.setCell ?_ ?_ _ | with_reducible apply Ext.step | with_reducible assumption | with_reducible exact Nat.le_refl _ | (simp; done) | (simp; omega)))) hx
    clear hx
    try (have hs0 := δ.lt (w.heap.size) (by first | (simp; done) | (simp; omega)))
    go_wp2_with fail
    go_ret
    exact ⟨by rw [HT.out]; rfl, by (repeat' (first | with_reducible exact Ext.refl _ | with_reducible apply Ext.alloc | with_reducible apply Ext.drew | with_reducible apply Ext.drewN | with_reducible refine Ext.setCell ?_ ?_ _ | with_reducible apply Ext.step | with_reducible assumption | with_reducible exact Nat.le_refl _ | (simp; done) | (simp; omega)))⟩

set_option maxHeartbeats 1000000 in
theorem shaped_any (n d : Int) (w : World) :
    Calls Try.prog 45 #[shadeV n d] w fun e w' => e = .returned (.bool (shapedB n d)) ∧ Ext w w' := by
  cases h1 : inB 1 1000000000 d
  · go_enter Try.func45, Try.ntmps45
    go_wp2_with fail
    refine (lfrom_one _ d _ _ _ _ (by go_cell)).mono ?_
    rintro e _ ⟨rfl, hx⟩
    obtain ⟨δ, rfl⟩ : Ext (w.alloc (.cells #[.int .i64 n, .int .i64 d] 49)) _ := Ext.trans (by (repeat' (first | with_reducible exact Ext.refl _ | with_reducible apply Ext.alloc | with_reducible apply Ext.drew | with_reducible apply Ext.drewN | with_reducible refine Ext.setCell ?_ ?_ _ | with_reducible apply Ext.step | with_reducible assumption | with_reducible exact Nat.le_refl _ | (simp; done) | (simp; omega)))) hx
    clear hx
    try (have hs0 := δ.lt (w.heap.size) (by first | (simp; done) | (simp; omega)))
    go_wp2_with fail
    go_ret
    exact ⟨ret_b (by simp [shapedB, h1]), by (repeat' (first | with_reducible exact Ext.refl _ | with_reducible apply Ext.alloc | with_reducible apply Ext.drew | with_reducible apply Ext.drewN | with_reducible refine Ext.setCell ?_ ?_ _ | with_reducible apply Ext.step | with_reducible assumption | with_reducible exact Nat.le_refl _ | (simp; done) | (simp; omega)))⟩
  · go_enter Try.func45, Try.ntmps45
    go_wp2_with fail
    refine (lfrom_one _ d _ _ _ _ (by go_cell)).mono ?_
    rintro e _ ⟨rfl, hx⟩
    obtain ⟨δ, rfl⟩ : Ext (w.alloc (.cells #[.int .i64 n, .int .i64 d] 49)) _ := Ext.trans (by (repeat' (first | with_reducible exact Ext.refl _ | with_reducible apply Ext.alloc | with_reducible apply Ext.drew | with_reducible apply Ext.drewN | with_reducible refine Ext.setCell ?_ ?_ _ | with_reducible apply Ext.step | with_reducible assumption | with_reducible exact Nat.le_refl _ | (simp; done) | (simp; omega)))) hx
    clear hx
    try (have hs0 := δ.lt (w.heap.size) (by first | (simp; done) | (simp; omega)))
    go_wp2_with fail
    refine (lfrom_one _ n _ _ _ _ (by go_cell)).mono ?_
    rintro e _ ⟨rfl, hx⟩
    obtain ⟨δ, rfl⟩ : Ext (w.alloc (.cells #[.int .i64 n, .int .i64 d] 49)) _ := Ext.trans (by (repeat' (first | with_reducible exact Ext.refl _ | with_reducible apply Ext.alloc | with_reducible apply Ext.drew | with_reducible apply Ext.drewN | with_reducible refine Ext.setCell ?_ ?_ _ | with_reducible apply Ext.step | with_reducible assumption | with_reducible exact Nat.le_refl _ | (simp; done) | (simp; omega)))) hx
    clear hx
    try (have hs0 := δ.lt (w.heap.size) (by first | (simp; done) | (simp; omega)))
    go_wp2_with fail
    go_ret
    exact ⟨ret_b (by simp [shapedB, h1]), by (repeat' (first | with_reducible exact Ext.refl _ | with_reducible apply Ext.alloc | with_reducible apply Ext.drew | with_reducible apply Ext.drewN | with_reducible refine Ext.setCell ?_ ?_ _ | with_reducible apply Ext.step | with_reducible assumption | with_reducible exact Nat.le_refl _ | (simp; done) | (simp; omega)))⟩

set_option maxHeartbeats 1000000 in
theorem compare_any (an ad bn bd : Int) (w : World) :
    Calls Try.prog 16 #[shadeV an ad, shadeV bn bd] w fun e w' => e = .returned (.int .i64 (compareOf an ad bn bd)) ∧ Ext w w' := by
  cases h1 : shapedB an ad
  · have HT := Lib.hid (show compareOf an ad bn bd = 0 by simp [compareOf, h1])
    go_enter Try.func16, Try.ntmps16
    go_wp2_with fail
    refine (shaped_any _ _ _).mono ?_
    rintro e _ ⟨rfl, hx⟩
    obtain ⟨δ, rfl⟩ : Ext ((w.alloc (.cells #[.int .i64 an, .int .i64 ad] 49)).alloc (.cells #[.int .i64 bn, .int .i64 bd] 49)) _ := Ext.trans (by (repeat' (first | with_reducible exact Ext.refl _ | with_reducible apply Ext.alloc | with_reducible apply Ext.drew | with_reducible apply Ext.drewN | with_reducible refine Ext.setCell ?_ ?_ _ | with_reducible apply Ext.step | with_reducible assumption | with_reducible exact Nat.le_refl _ | (simp; done) | (simp; omega)))) hx
    clear hx
    try (have hs0 := δ.lt (w.heap.size) (by first | (simp; done) | (simp; omega)))
    try (have hs1 := δ.lt (w.heap.size + 1) (by first | (simp; done) | (simp; omega)))
    go_wp2_with fail
    go_ret
    exact ⟨by rw [HT.out]; rfl, by (repeat' (first | with_reducible exact Ext.refl _ | with_reducible apply Ext.alloc | with_reducible apply Ext.drew | with_reducible apply Ext.drewN | with_reducible refine Ext.setCell ?_ ?_ _ | with_reducible apply Ext.step | with_reducible assumption | with_reducible exact Nat.le_refl _ | (simp; done) | (simp; omega)))⟩
  cases h2 : shapedB bn bd
  · have HT := Lib.hid (show compareOf an ad bn bd = 0 by simp [compareOf, h2])
    go_enter Try.func16, Try.ntmps16
    go_wp2_with fail
    refine (shaped_any _ _ _).mono ?_
    rintro e _ ⟨rfl, hx⟩
    obtain ⟨δ, rfl⟩ : Ext ((w.alloc (.cells #[.int .i64 an, .int .i64 ad] 49)).alloc (.cells #[.int .i64 bn, .int .i64 bd] 49)) _ := Ext.trans (by (repeat' (first | with_reducible exact Ext.refl _ | with_reducible apply Ext.alloc | with_reducible apply Ext.drew | with_reducible apply Ext.drewN | with_reducible refine Ext.setCell ?_ ?_ _ | with_reducible apply Ext.step | with_reducible assumption | with_reducible exact Nat.le_refl _ | (simp; done) | (simp; omega)))) hx
    clear hx
    try (have hs0 := δ.lt (w.heap.size) (by first | (simp; done) | (simp; omega)))
    try (have hs1 := δ.lt (w.heap.size + 1) (by first | (simp; done) | (simp; omega)))
    go_wp2_with fail
    refine (shaped_any _ _ _).mono ?_
    rintro e _ ⟨rfl, hx⟩
    obtain ⟨δ, rfl⟩ : Ext ((w.alloc (.cells #[.int .i64 an, .int .i64 ad] 49)).alloc (.cells #[.int .i64 bn, .int .i64 bd] 49)) _ := Ext.trans (by (repeat' (first | with_reducible exact Ext.refl _ | with_reducible apply Ext.alloc | with_reducible apply Ext.drew | with_reducible apply Ext.drewN | with_reducible refine Ext.setCell ?_ ?_ _ | with_reducible apply Ext.step | with_reducible assumption | with_reducible exact Nat.le_refl _ | (simp; done) | (simp; omega)))) hx
    clear hx
    try (have hs0 := δ.lt (w.heap.size) (by first | (simp; done) | (simp; omega)))
    try (have hs1 := δ.lt (w.heap.size + 1) (by first | (simp; done) | (simp; omega)))
    go_wp2_with fail
    go_ret
    exact ⟨by rw [HT.out]; rfl, by (repeat' (first | with_reducible exact Ext.refl _ | with_reducible apply Ext.alloc | with_reducible apply Ext.drew | with_reducible apply Ext.drewN | with_reducible refine Ext.setCell ?_ ?_ _ | with_reducible apply Ext.step | with_reducible assumption | with_reducible exact Nat.le_refl _ | (simp; done) | (simp; omega)))⟩
  have HT := Lib.hid (show compareOf an ad bn bd = _ by rw [compareOf, h1, h2, Bool.and_true, if_pos rfl])
  obtain ⟨⟨ha1, ha2⟩, ha3, ha4⟩ := shapedB_iff.1 h1
  obtain ⟨⟨hb1, hb2⟩, hb3, hb4⟩ := shapedB_iff.1 h2
  obtain ⟨hm1, hm2⟩ := mul_bd ha3 (Int.le_trans ha4 ha2) (by omega : 0 ≤ bd) hb2
  obtain ⟨hm3, hm4⟩ := mul_bd hb3 (Int.le_trans hb4 hb2) (by omega : 0 ≤ ad) ha2
  go_enter Try.func16, Try.ntmps16
  go_wp2_with fail
  refine (shaped_any _ _ _).mono ?_
  rintro e _ ⟨rfl, hx⟩
  obtain ⟨δ, rfl⟩ : Ext ((w.alloc (.cells #[.int .i64 an, .int .i64 ad] 49)).alloc (.cells #[.int .i64 bn, .int .i64 bd] 49)) _ := Ext.trans (by (repeat' (first | with_reducible exact Ext.refl _ | with_reducible apply Ext.alloc | with_reducible apply Ext.drew | with_reducible apply Ext.drewN | with_reducible refine Ext.setCell ?_ ?_ _ | with_reducible apply Ext.step | with_reducible assumption | with_reducible exact Nat.le_refl _ | (simp; done) | (simp; omega)))) hx
  clear hx
  try (have hs0 := δ.lt (w.heap.size) (by first | (simp; done) | (simp; omega)))
  try (have hs1 := δ.lt (w.heap.size + 1) (by first | (simp; done) | (simp; omega)))
  go_wp2_with fail
  refine (shaped_any _ _ _).mono ?_
  rintro e _ ⟨rfl, hx⟩
  obtain ⟨δ, rfl⟩ : Ext ((w.alloc (.cells #[.int .i64 an, .int .i64 ad] 49)).alloc (.cells #[.int .i64 bn, .int .i64 bd] 49)) _ := Ext.trans (by (repeat' (first | with_reducible exact Ext.refl _ | with_reducible apply Ext.alloc | with_reducible apply Ext.drew | with_reducible apply Ext.drewN | with_reducible refine Ext.setCell ?_ ?_ _ | with_reducible apply Ext.step | with_reducible assumption | with_reducible exact Nat.le_refl _ | (simp; done) | (simp; omega)))) hx
  clear hx
  try (have hs0 := δ.lt (w.heap.size) (by first | (simp; done) | (simp; omega)))
  try (have hs1 := δ.lt (w.heap.size + 1) (by first | (simp; done) | (simp; omega)))
  go_wp2_with fail
  all_goals go_ret
  all_goals refine ⟨ret_i ?_, by (repeat' (first | with_reducible exact Ext.refl _ | with_reducible apply Ext.alloc | with_reducible apply Ext.drew | with_reducible apply Ext.drewN | with_reducible refine Ext.setCell ?_ ?_ _ | with_reducible apply Ext.step | with_reducible assumption | with_reducible exact Nat.le_refl _ | (simp; done) | (simp; omega)))⟩
  all_goals
    rw [HT.out]
    generalize an * bd = x at *
    generalize bn * ad = y at *
    (repeat' split) <;> omega

set_option maxHeartbeats 1000000 in
theorem Bright_any (tx ty p lx ly lz : Int) (w : World) :
    Calls Try.prog 14 #[tiltV tx ty, .int .i64 p, lightV lx ly lz] w fun e w' => e = .returned (brightV tx ty p lx ly lz) ∧ Ext w w' := by
  cases h1 : tiltB tx ty
  · have HE := Lib.hid (show brightE tx ty p lx ly lz = 2 by simp [brightE, h1])
    have HN := Lib.hid (show brightN tx ty p lx ly lz = 0 by simp [brightN, h1])
    have HD := Lib.hid (show brightD tx ty p lx ly lz = 0 by simp [brightD, h1])
    rw [tiltB] at h1
    go_enter Try.func14, Try.ntmps14
    go_wp2_with fail
    refine (lfrom_two _ tx ty _ _ _ _ (by go_cell) (by go_cell)).mono ?_
    rintro e _ ⟨rfl, hx⟩
    obtain ⟨δ, rfl⟩ : Ext (((w.alloc (.cells #[.int .i64 tx, .int .i64 ty] 41)).alloc (.cells #[.int .i64 lx, .int .i64 ly, .int .i64 lz] 43)).alloc (.cells #[.int .i64 0, .int .i64 0] 49)) _ := Ext.trans (by (repeat' (first | with_reducible exact Ext.refl _ | with_reducible apply Ext.alloc | with_reducible apply Ext.drew | with_reducible apply Ext.drewN | with_reducible refine Ext.setCell ?_ ?_ _ | with_reducible apply Ext.step | with_reducible assumption | with_reducible exact Nat.le_refl _ | (simp; done) | (simp; omega)))) hx
    clear hx
    try (have hs0 := δ.lt (w.heap.size) (by first | (simp; done) | (simp; omega)))
    try (have hs1 := δ.lt (w.heap.size + 1) (by first | (simp; done) | (simp; omega)))
    try (have hs2 := δ.lt (w.heap.size + 1 + 1) (by first | (simp; done) | (simp; omega)))
    go_wp2_with fail
    go_returns
    exact ⟨by rw [brightV, HE.out, HN.out, HD.out] <;> rfl, by (repeat' (first | with_reducible exact Ext.refl _ | with_reducible apply Ext.alloc | with_reducible apply Ext.drew | with_reducible apply Ext.drewN | with_reducible refine Ext.setCell ?_ ?_ _ | with_reducible apply Ext.step | with_reducible assumption | with_reducible exact Nat.le_refl _ | (simp; done) | (simp; omega)))⟩
  cases h2 : inB 1 100 p
  · have HE := Lib.hid (show brightE tx ty p lx ly lz = 2 by simp [brightE, h2])
    have HN := Lib.hid (show brightN tx ty p lx ly lz = 0 by simp [brightN, h2])
    have HD := Lib.hid (show brightD tx ty p lx ly lz = 0 by simp [brightD, h2])
    rw [tiltB] at h1
    go_enter Try.func14, Try.ntmps14
    go_wp2_with fail
    refine (lfrom_two _ tx ty _ _ _ _ (by go_cell) (by go_cell)).mono ?_
    rintro e _ ⟨rfl, hx⟩
    obtain ⟨δ, rfl⟩ : Ext (((w.alloc (.cells #[.int .i64 tx, .int .i64 ty] 41)).alloc (.cells #[.int .i64 lx, .int .i64 ly, .int .i64 lz] 43)).alloc (.cells #[.int .i64 0, .int .i64 0] 49)) _ := Ext.trans (by (repeat' (first | with_reducible exact Ext.refl _ | with_reducible apply Ext.alloc | with_reducible apply Ext.drew | with_reducible apply Ext.drewN | with_reducible refine Ext.setCell ?_ ?_ _ | with_reducible apply Ext.step | with_reducible assumption | with_reducible exact Nat.le_refl _ | (simp; done) | (simp; omega)))) hx
    clear hx
    try (have hs0 := δ.lt (w.heap.size) (by first | (simp; done) | (simp; omega)))
    try (have hs1 := δ.lt (w.heap.size + 1) (by first | (simp; done) | (simp; omega)))
    try (have hs2 := δ.lt (w.heap.size + 1 + 1) (by first | (simp; done) | (simp; omega)))
    go_wp2_with fail
    refine (lfrom_one _ p _ _ _ _ (by go_cell)).mono ?_
    rintro e _ ⟨rfl, hx⟩
    obtain ⟨δ, rfl⟩ : Ext (((w.alloc (.cells #[.int .i64 tx, .int .i64 ty] 41)).alloc (.cells #[.int .i64 lx, .int .i64 ly, .int .i64 lz] 43)).alloc (.cells #[.int .i64 0, .int .i64 0] 49)) _ := Ext.trans (by (repeat' (first | with_reducible exact Ext.refl _ | with_reducible apply Ext.alloc | with_reducible apply Ext.drew | with_reducible apply Ext.drewN | with_reducible refine Ext.setCell ?_ ?_ _ | with_reducible apply Ext.step | with_reducible assumption | with_reducible exact Nat.le_refl _ | (simp; done) | (simp; omega)))) hx
    clear hx
    try (have hs0 := δ.lt (w.heap.size) (by first | (simp; done) | (simp; omega)))
    try (have hs1 := δ.lt (w.heap.size + 1) (by first | (simp; done) | (simp; omega)))
    try (have hs2 := δ.lt (w.heap.size + 1 + 1) (by first | (simp; done) | (simp; omega)))
    go_wp2_with fail
    go_returns
    exact ⟨by rw [brightV, HE.out, HN.out, HD.out] <;> rfl, by (repeat' (first | with_reducible exact Ext.refl _ | with_reducible apply Ext.alloc | with_reducible apply Ext.drew | with_reducible apply Ext.drewN | with_reducible refine Ext.setCell ?_ ?_ _ | with_reducible apply Ext.step | with_reducible assumption | with_reducible exact Nat.le_refl _ | (simp; done) | (simp; omega)))⟩
  cases h3 : lightB lx ly lz
  · have HE := Lib.hid (show brightE tx ty p lx ly lz = 61 by simp [brightE, h1, h2, h3])
    have HN := Lib.hid (show brightN tx ty p lx ly lz = 0 by simp [brightN, h3])
    have HD := Lib.hid (show brightD tx ty p lx ly lz = 0 by simp [brightD, h3])
    have HC := checkLight_any lx ly lz
    rw [lightE, h3, if_neg (by decide)] at HC
    have HL := Lib.hid HC
    clear HC
    rw [tiltB] at h1
    go_enter Try.func14, Try.ntmps14
    go_wp2_with fail
    refine (lfrom_two _ tx ty _ _ _ _ (by go_cell) (by go_cell)).mono ?_
    rintro e _ ⟨rfl, hx⟩
    obtain ⟨δ, rfl⟩ : Ext (((w.alloc (.cells #[.int .i64 tx, .int .i64 ty] 41)).alloc (.cells #[.int .i64 lx, .int .i64 ly, .int .i64 lz] 43)).alloc (.cells #[.int .i64 0, .int .i64 0] 49)) _ := Ext.trans (by (repeat' (first | with_reducible exact Ext.refl _ | with_reducible apply Ext.alloc | with_reducible apply Ext.drew | with_reducible apply Ext.drewN | with_reducible refine Ext.setCell ?_ ?_ _ | with_reducible apply Ext.step | with_reducible assumption | with_reducible exact Nat.le_refl _ | (simp; done) | (simp; omega)))) hx
    clear hx
    try (have hs0 := δ.lt (w.heap.size) (by first | (simp; done) | (simp; omega)))
    try (have hs1 := δ.lt (w.heap.size + 1) (by first | (simp; done) | (simp; omega)))
    try (have hs2 := δ.lt (w.heap.size + 1 + 1) (by first | (simp; done) | (simp; omega)))
    go_wp2_with fail
    refine (lfrom_one _ p _ _ _ _ (by go_cell)).mono ?_
    rintro e _ ⟨rfl, hx⟩
    obtain ⟨δ, rfl⟩ : Ext (((w.alloc (.cells #[.int .i64 tx, .int .i64 ty] 41)).alloc (.cells #[.int .i64 lx, .int .i64 ly, .int .i64 lz] 43)).alloc (.cells #[.int .i64 0, .int .i64 0] 49)) _ := Ext.trans (by (repeat' (first | with_reducible exact Ext.refl _ | with_reducible apply Ext.alloc | with_reducible apply Ext.drew | with_reducible apply Ext.drewN | with_reducible refine Ext.setCell ?_ ?_ _ | with_reducible apply Ext.step | with_reducible assumption | with_reducible exact Nat.le_refl _ | (simp; done) | (simp; omega)))) hx
    clear hx
    try (have hs0 := δ.lt (w.heap.size) (by first | (simp; done) | (simp; omega)))
    try (have hs1 := δ.lt (w.heap.size + 1) (by first | (simp; done) | (simp; omega)))
    try (have hs2 := δ.lt (w.heap.size + 1 + 1) (by first | (simp; done) | (simp; omega)))
    go_wp2_with fail
    refine (HL.out _).mono ?_
    rintro e _ ⟨rfl, hx⟩
    obtain ⟨δ, rfl⟩ : Ext (((w.alloc (.cells #[.int .i64 tx, .int .i64 ty] 41)).alloc (.cells #[.int .i64 lx, .int .i64 ly, .int .i64 lz] 43)).alloc (.cells #[.int .i64 0, .int .i64 0] 49)) _ := Ext.trans (by (repeat' (first | with_reducible exact Ext.refl _ | with_reducible apply Ext.alloc | with_reducible apply Ext.drew | with_reducible apply Ext.drewN | with_reducible refine Ext.setCell ?_ ?_ _ | with_reducible apply Ext.step | with_reducible assumption | with_reducible exact Nat.le_refl _ | (simp; done) | (simp; omega)))) hx
    clear hx
    try (have hs0 := δ.lt (w.heap.size) (by first | (simp; done) | (simp; omega)))
    try (have hs1 := δ.lt (w.heap.size + 1) (by first | (simp; done) | (simp; omega)))
    try (have hs2 := δ.lt (w.heap.size + 1 + 1) (by first | (simp; done) | (simp; omega)))
    go_wp2_with fail
    go_returns
    exact ⟨by rw [brightV, HE.out, HN.out, HD.out] <;> rfl, by (repeat' (first | with_reducible exact Ext.refl _ | with_reducible apply Ext.alloc | with_reducible apply Ext.drew | with_reducible apply Ext.drewN | with_reducible refine Ext.setCell ?_ ?_ _ | with_reducible apply Ext.step | with_reducible assumption | with_reducible exact Nat.le_refl _ | (simp; done) | (simp; omega)))⟩
  have HE := Lib.hid (show brightE tx ty p lx ly lz = 0 by simp [brightE, h1, h2, h3])
  have HN := Lib.hid (show brightN tx ty p lx ly lz = shadeN tx ty p lx ly lz by simp [brightN, h1, h2, h3])
  have HD := Lib.hid (show brightD tx ty p lx ly lz = shadeD tx ty p lx ly lz by simp [brightD, h1, h2, h3])
  have HC := checkLight_any lx ly lz
  rw [lightE, h3, if_pos rfl] at HC
  have HL := Lib.hid HC
  clear HC
  obtain ⟨⟨ht1, ht2⟩, ht3, ht4⟩ := tiltB_iff.1 h1
  obtain ⟨⟨hl1, hl2⟩, ⟨hl3, hl4⟩, hl5, hl6⟩ := lightB_iff.1 h3
  obtain ⟨hp1, hp2⟩ := inB_iff.1 h2
  have HB := Lib.hid fun W => bright_any tx ty p lx ly lz W ht1 ht2 ht3 ht4 hp1 hp2 hl1 hl2 hl3 hl4 hl5 hl6
  rw [tiltB] at h1
  go_enter Try.func14, Try.ntmps14
  go_wp2_with fail
  refine (lfrom_two _ tx ty _ _ _ _ (by go_cell) (by go_cell)).mono ?_
  rintro e _ ⟨rfl, hx⟩
  obtain ⟨δ, rfl⟩ : Ext (((w.alloc (.cells #[.int .i64 tx, .int .i64 ty] 41)).alloc (.cells #[.int .i64 lx, .int .i64 ly, .int .i64 lz] 43)).alloc (.cells #[.int .i64 0, .int .i64 0] 49)) _ := Ext.trans (by (repeat' (first | with_reducible exact Ext.refl _ | with_reducible apply Ext.alloc | with_reducible apply Ext.drew | with_reducible apply Ext.drewN | with_reducible refine Ext.setCell ?_ ?_ _ | with_reducible apply Ext.step | with_reducible assumption | with_reducible exact Nat.le_refl _ | (simp; done) | (simp; omega)))) hx
  clear hx
  try (have hs0 := δ.lt (w.heap.size) (by first | (simp; done) | (simp; omega)))
  try (have hs1 := δ.lt (w.heap.size + 1) (by first | (simp; done) | (simp; omega)))
  try (have hs2 := δ.lt (w.heap.size + 1 + 1) (by first | (simp; done) | (simp; omega)))
  go_wp2_with fail
  refine (lfrom_one _ p _ _ _ _ (by go_cell)).mono ?_
  rintro e _ ⟨rfl, hx⟩
  obtain ⟨δ, rfl⟩ : Ext (((w.alloc (.cells #[.int .i64 tx, .int .i64 ty] 41)).alloc (.cells #[.int .i64 lx, .int .i64 ly, .int .i64 lz] 43)).alloc (.cells #[.int .i64 0, .int .i64 0] 49)) _ := Ext.trans (by (repeat' (first | with_reducible exact Ext.refl _ | with_reducible apply Ext.alloc | with_reducible apply Ext.drew | with_reducible apply Ext.drewN | with_reducible refine Ext.setCell ?_ ?_ _ | with_reducible apply Ext.step | with_reducible assumption | with_reducible exact Nat.le_refl _ | (simp; done) | (simp; omega)))) hx
  clear hx
  try (have hs0 := δ.lt (w.heap.size) (by first | (simp; done) | (simp; omega)))
  try (have hs1 := δ.lt (w.heap.size + 1) (by first | (simp; done) | (simp; omega)))
  try (have hs2 := δ.lt (w.heap.size + 1 + 1) (by first | (simp; done) | (simp; omega)))
  go_wp2_with fail
  refine (HL.out _).mono ?_
  rintro e _ ⟨rfl, hx⟩
  obtain ⟨δ, rfl⟩ : Ext (((w.alloc (.cells #[.int .i64 tx, .int .i64 ty] 41)).alloc (.cells #[.int .i64 lx, .int .i64 ly, .int .i64 lz] 43)).alloc (.cells #[.int .i64 0, .int .i64 0] 49)) _ := Ext.trans (by (repeat' (first | with_reducible exact Ext.refl _ | with_reducible apply Ext.alloc | with_reducible apply Ext.drew | with_reducible apply Ext.drewN | with_reducible refine Ext.setCell ?_ ?_ _ | with_reducible apply Ext.step | with_reducible assumption | with_reducible exact Nat.le_refl _ | (simp; done) | (simp; omega)))) hx
  clear hx
  try (have hs0 := δ.lt (w.heap.size) (by first | (simp; done) | (simp; omega)))
  try (have hs1 := δ.lt (w.heap.size + 1) (by first | (simp; done) | (simp; omega)))
  try (have hs2 := δ.lt (w.heap.size + 1 + 1) (by first | (simp; done) | (simp; omega)))
  go_wp2_with fail
  refine (HB.out _).mono ?_
  rintro e _ ⟨rfl, hx⟩
  obtain ⟨δ, rfl⟩ : Ext (((w.alloc (.cells #[.int .i64 tx, .int .i64 ty] 41)).alloc (.cells #[.int .i64 lx, .int .i64 ly, .int .i64 lz] 43)).alloc (.cells #[.int .i64 0, .int .i64 0] 49)) _ := Ext.trans (by (repeat' (first | with_reducible exact Ext.refl _ | with_reducible apply Ext.alloc | with_reducible apply Ext.drew | with_reducible apply Ext.drewN | with_reducible refine Ext.setCell ?_ ?_ _ | with_reducible apply Ext.step | with_reducible assumption | with_reducible exact Nat.le_refl _ | (simp; done) | (simp; omega)))) hx
  clear hx
  try (have hs0 := δ.lt (w.heap.size) (by first | (simp; done) | (simp; omega)))
  try (have hs1 := δ.lt (w.heap.size + 1) (by first | (simp; done) | (simp; omega)))
  try (have hs2 := δ.lt (w.heap.size + 1 + 1) (by first | (simp; done) | (simp; omega)))
  go_wp2_with fail
  go_returns
  exact ⟨by rw [brightV, HE.out, HN.out, HD.out], by (repeat' (first | with_reducible exact Ext.refl _ | with_reducible apply Ext.alloc | with_reducible apply Ext.drew | with_reducible apply Ext.drewN | with_reducible refine Ext.setCell ?_ ?_ _ | with_reducible apply Ext.step | with_reducible assumption | with_reducible exact Nat.le_refl _ | (simp; done) | (simp; omega)))⟩
end Go.Proofs.Ytkjgcmdabelohaa
