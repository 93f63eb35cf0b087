/- The reference's distance of a spot from a segment, and whether segments meet. Conditions: bounds. -/
import Derived.Test.YtlljhimaopnbfaaGDist
import Derived.Test.YtlljhimaopnbfaaRefTool0
import Derived.StillTailTactics
import Derived.LoopN
namespace Go.Proofs.Ytlljhimaopnbfaa
section
/- GRef: The reference's steps, fractions and segments. Conditions: bounds. -/
open Go.RowKit

theorem minus_any (ax ay bx by' : Int) (w : World) (h1 : Co ax) (h2 : Co ay) (h3 : Co bx) (h4 : Co by') :
    Calls Try.prog 149 #[V2 ax ay, V2 bx by'] w fun e w' => e = .returned (V2 (ax - bx) (ay - by')) ∧ Ext w w' := by
  obtain ⟨a1, a2⟩ := h1
  obtain ⟨b1, b2⟩ := h2
  obtain ⟨c1, c2⟩ := h3
  obtain ⟨d1, d2⟩ := h4
  go_enter Try.func149, Try.ntmps149
  go_wp2
  go_returns
  exact ⟨rfl, by (repeat' (first | with_reducible exact Ext.refl _ | with_reducible apply Ext.alloc | with_reducible apply Ext.drew | with_reducible apply Ext.drewN | with_reducible refine Ext.setCell ?_ ?_ _ | with_reducible apply Ext.step | with_reducible assumption | with_reducible exact Nat.le_refl _ | (simp; done) | (simp; omega)))⟩
theorem refDot_any (x y z u : Int) (w : World) (h1 : Df x) (h2 : Df y) (h3 : Df z) (h4 : Df u) :
    Calls Try.prog 152 #[V2 x y, V2 z u] w fun e w' => e = .returned (.int .i64 (x * z + y * u)) ∧ Ext w w' := by
  obtain ⟨a1, a2⟩ := pr_bd h1 h3
  obtain ⟨b1, b2⟩ := pr_bd h2 h4
  go_enter Try.func152, Try.ntmps152
  go_wp2
  go_ret
  exact ⟨rfl, by (repeat' (first | with_reducible exact Ext.refl _ | with_reducible apply Ext.alloc | with_reducible apply Ext.drew | with_reducible apply Ext.drewN | with_reducible refine Ext.setCell ?_ ?_ _ | with_reducible apply Ext.step | with_reducible assumption | with_reducible exact Nat.le_refl _ | (simp; done) | (simp; omega)))⟩
theorem refCross_any (x y z u : Int) (w : World) (h1 : Df x) (h2 : Df y) (h3 : Df z) (h4 : Df u) :
    Calls Try.prog 151 #[V2 x y, V2 z u] w fun e w' => e = .returned (.int .i64 (x * u - y * z)) ∧ Ext w w' := by
  obtain ⟨a1, a2⟩ := pr_bd h1 h4
  obtain ⟨b1, b2⟩ := pr_bd h2 h3
  go_enter Try.func151, Try.ntmps151
  go_wp2
  go_ret
  exact ⟨rfl, by (repeat' (first | with_reducible exact Ext.refl _ | with_reducible apply Ext.alloc | with_reducible apply Ext.drew | with_reducible apply Ext.drewN | with_reducible refine Ext.setCell ?_ ?_ _ | with_reducible apply Ext.step | with_reducible assumption | with_reducible exact Nat.le_refl _ | (simp; done) | (simp; omega)))⟩

set_option maxHeartbeats 1000000 in
theorem commonG_any (a b : Int) (w : World) (ha1 : 0 ≤ a) (ha2 : a ≤ 4611686018427387904) (hb1 : 0 ≤ b) (hb2 : b ≤ 4611686018427387904) :
    Calls Try.prog 159 #[.int .i64 a, .int .i64 b] w fun e w' => e = .returned (.int .i64 (Int.gcd a b : Int)) ∧ Ext w w' := by
  go_enter Try.func159, Try.ntmps159
  go_wp2
  go_loopw [0, 1] (fun u v wr => ∃ x y : Int, u = .int .i64 x ∧ v = .int .i64 y ∧ 0 ≤ x ∧ x ≤ 4611686018427387904 ∧ 0 ≤ y ∧ y ≤ 4611686018427387904 ∧ GcdG a b x y ∧ Ext w wr) (fun _ v _ => (intOf v).natAbs)
  case atStart => exact ⟨a, b, rfl, rfl, by omega, ha2, by omega, hb2, rfl, Ext.refl _⟩
  case round =>
    obtain ⟨x, y, rfl, rfl, hx1, hx2, hy1, hy2, hg, hw⟩ := hrel
    by_cases hy : y = 0
    · subst hy
      go_wp2
      all_goals go_ret
      all_goals refine ⟨ret_i ?_, hw⟩
      all_goals
        unfold GcdG at hg
        rw [← hg]
        simp
        omega
    · have hyb : (y != 0) = true := by simpa using hy
      have hm := Int.natAbs_tmod x y
      have hm2 := Nat.mod_lt x.natAbs (show 0 < y.natAbs by omega)
      have hm3 : (x.tmod y).natAbs < y.natAbs := by omega
      have Hm := Lib.hid hm3
      have hm4 : 0 ≤ x.tmod y := Int.tmod_nonneg _ hx1
      have hm5 : x.tmod y ≤ 4611686018427387904 := by omega
      have Hg := Lib.hid (show GcdG a b y (x.tmod y) from (gcdG_step x y).trans hg)
      have HM4 := Lib.hid hm4
      have HM5 := Lib.hid hm5
      have HMM := Lib.hid (Int.tmod_eq_emod_of_nonneg hx1 (b := y))
      clear hm hm2 hm3 hg hm4 hm5
      go_wp2_with fail
      refine wp_region_bext (by kernel_rfl) (by kernel_rfl) ?_
      repeat (any_goals (go_big_quiet_step (fail)))
      all_goals refine wpQuiet_nil ?_
      all_goals rintro _ ⟨δ, rfl⟩
      go_wp2_with fail
      go_roundw
      case rel => first | exact ⟨y, x.tmod y, rfl, rfl, hy1, hy2, HM4.out, HM5.out, Hg.out, by (repeat' (first | with_reducible exact Ext.refl _ | with_reducible apply Ext.alloc | with_reducible apply Ext.drew | with_reducible apply Ext.drewN | with_reducible refine Ext.setCell ?_ ?_ _ | with_reducible apply Ext.step | with_reducible assumption | with_reducible exact Nat.le_refl _ | (simp; done) | (simp; omega)))⟩ | exact ⟨y, x % y, rfl, rfl, hy1, hy2, HMM.out ▸ HM4.out, HMM.out ▸ HM5.out, HMM.out ▸ Hg.out, by (repeat' (first | with_reducible exact Ext.refl _ | with_reducible apply Ext.alloc | with_reducible apply Ext.drew | with_reducible apply Ext.drewN | with_reducible refine Ext.setCell ?_ ?_ _ | with_reducible apply Ext.step | with_reducible assumption | with_reducible exact Nat.le_refl _ | (simp; done) | (simp; omega)))⟩
      case measure => first | simpa [intOf] using Hm.out | simpa [intOf, HMM.out] using Hm.out

set_option maxRecDepth 100000 in
set_option maxHeartbeats 1000000 in
theorem lowest_any (n d : Int) (w : World) (hn : 0 ≤ n) (hn2 : n ≤ 4611686018427387904) (hd : 1 ≤ d) (hd2 : d ≤ 4611686018427387904) :
    Calls Try.prog 153 #[.int .i64 n, .int .i64 d] w fun e w' => e = .returned (V2 (lowF n d).1 (lowF n d).2) ∧ Ext w w' := by
  have HC := Lib.hid fun W : World => commonG_any n d W hn hn2 (by omega) hd2
  obtain ⟨g, hgq, g1, gp, gq, gg⟩ := gcd_parts (n := n) hd
  have HLO := Lib.hid (show lowF n d = (n / g, d / g) by rw [lowF, ← hgq])
  rw [← hgq] at HC
  have hx0 : ¬ g = 0 := by omega
  have i1 := Int.ediv_nonneg hn (show 0 ≤ g by omega)
  have i2 := Int.ediv_le_self g hn
  have i3 := Int.ediv_nonneg (show 0 ≤ d by omega) (show 0 ≤ g by omega)
  have i4 := Int.ediv_le_self g (show 0 ≤ d by omega)
  clear hgq gp gq gg
  go_enter Try.func153, Try.ntmps153
  go_wp2_with fail
  refine (HC.out _).mono ?_
  rintro e _ ⟨rfl, hx⟩
  obtain ⟨δ, rfl⟩ : Ext (w.alloc (.cells #[.int .i64 0, .int .i64 0] 144)) _ := Ext.trans (by (repeat' (first | with_reducible exact Ext.refl _ | with_reducible apply Ext.alloc | with_reducible apply Ext.drew | with_reducible apply Ext.drewN | with_reducible refine Ext.setCell ?_ ?_ _ | with_reducible apply Ext.step | with_reducible assumption | with_reducible exact Nat.le_refl _ | (simp; done) | (simp; omega)))) hx
  clear hx
  try (have hs0 := δ.lt (w.heap.size) (by first | (simp; done) | (simp; omega)))
  go_wp2_with fail
  have y1 : Ext (w.alloc (.cells #[.int .i64 0, .int .i64 0] 144)) δ.wd := ⟨δ, rfl⟩
  have c0 := y1.cell_some (show (w.alloc (.cells #[.int .i64 0, .int .i64 0] 144)).cell? ⟨w.heap.size, 0, none⟩ = some (.int .i64 0) by go_cell)
  have c1 := y1.cell_some (show (w.alloc (.cells #[.int .i64 0, .int .i64 0] 144)).cell? ⟨w.heap.size, 1, none⟩ = some (.int .i64 0) by go_cell)
  have f0 := y1.frozen (b := w.heap.size) (o := 0) (v := .int .i64 0) (c := false) (by go_cell) (by go_simp)
  have f1 := y1.frozen (b := w.heap.size) (o := 1) (v := .int .i64 0) (c := false) (by go_cell) (by go_simp)
  have HW1 := Lib.hid (show Ext w δ.wd from Ext.trans (by (repeat' (first | with_reducible exact Ext.refl _ | with_reducible apply Ext.alloc | with_reducible apply Ext.drew | with_reducible apply Ext.drewN | with_reducible refine Ext.setCell ?_ ?_ _ | with_reducible apply Ext.step | with_reducible assumption | with_reducible exact Nat.le_refl _ | (simp; done) | (simp; omega)))) y1)
  generalize δ.wd = W1 at *
  have lw := cell_lt c0
  clear y1
  refine wp_region_still_tail 7 (by kernel_rfl) (by kernel_rfl) ?_
  simp only [List.take_succ_cons, List.take_zero, List.drop_succ_cons, List.drop_zero]
  repeat (refine wpStill_step (fun K hK => ?_); go_simp; (try go_bits); refine hK _ ?_; clear hK K)
  refine wpStill_nil ?_
  change wpList _ _ _ _ _ W1.drew
  go_wp2_with fail
  have z0 := cell_set_same (u := .int .i64 (n / g)) c0
  have z1 := (set2 c0 c1 (.int .i64 (n / g)) (.int .i64 (d / g))).2
  exact bodyPost_ret (v := V2 (n / g) (d / g)) (by simp [results, Try.results153, go_sem, z0, z1]) rfl ⟨by rw [HLO.out], ((HW1.out.setCell (by simp) _).setCell (by simp) _).drew⟩

def signI (n : Int) : Int := min (max n (-1)) 1
theorem sign_any (n : Int) (w : World) : Calls Try.prog 150 #[.int .i64 n] w fun e w' => e = .returned (.int .i64 (signI n)) ∧ w = w' := by
  go_enter Try.func150, Try.ntmps150
  go_wp2
  all_goals go_ret
  all_goals exact ⟨ret_i (by unfold signI; omega), rfl⟩

theorem sign_neg (m n : Int) : (signI m * signI n < 0) ↔ (((decide (0 < m) != decide (0 < n)) && m != 0) && n != 0) = true := by
  simp only [Bool.and_eq_true, bne_iff_ne, ne_eq, decide_eq_decide]
  unfold signI
  rcases (by omega : m < 0 ∨ m = 0 ∨ 0 < m) with h | h | h <;> rcases (by omega : n < 0 ∨ n = 0 ∨ 0 < n) with k | k | k
  · rw [show min (max m (-1)) 1 = -1 by omega, show min (max n (-1)) 1 = -1 by omega]; omega
  · rw [show min (max m (-1)) 1 = -1 by omega, show min (max n (-1)) 1 = 0 by omega]; omega
  · rw [show min (max m (-1)) 1 = -1 by omega, show min (max n (-1)) 1 = 1 by omega]; omega
  · rw [show min (max m (-1)) 1 = 0 by omega, show min (max n (-1)) 1 = -1 by omega]; omega
  · rw [show min (max m (-1)) 1 = 0 by omega, show min (max n (-1)) 1 = 0 by omega]; omega
  · rw [show min (max m (-1)) 1 = 0 by omega, show min (max n (-1)) 1 = 1 by omega]; omega
  · rw [show min (max m (-1)) 1 = 1 by omega, show min (max n (-1)) 1 = -1 by omega]; omega
  · rw [show min (max m (-1)) 1 = 1 by omega, show min (max n (-1)) 1 = 0 by omega]; omega
  · rw [show min (max m (-1)) 1 = 1 by omega, show min (max n (-1)) 1 = 1 by omega]; omega
theorem sign_bd (n : Int) : -1 ≤ signI n ∧ signI n ≤ 1 := by unfold signI; omega

theorem less_plain {a b c d : Int} (hb : 1 ≤ b) (hd : 1 ≤ d) : (a * d < c * b) ↔ (if a / b ≠ c / d then a / b < c / d else a % b * d < c % d * b) := by
  have h1 := Int.mul_ediv_add_emod a b
  have h2 := Int.mul_ediv_add_emod c d
  have h3 := Int.emod_nonneg a (show b ≠ 0 by omega)
  have h4 := Int.emod_nonneg c (show d ≠ 0 by omega)
  have h5 := Int.emod_lt_of_pos a (show 0 < b by omega)
  have h6 := Int.emod_lt_of_pos c (show 0 < d by omega)
  generalize a / b = p at *
  generalize c / d = q at *
  generalize a % b = r at *
  generalize c % d = s at *
  subst h1 h2
  have e1 : (b * p + r) * d = (b * d) * p + r * d := by rw [Int.add_mul]; congr 1; simp only [Int.mul_left_comm, Int.mul_comm]
  have e2 : (d * q + s) * b = (b * d) * q + s * b := by rw [Int.add_mul]; congr 1; simp only [Int.mul_left_comm, Int.mul_comm]
  rw [e1, e2]
  have r1 : 0 ≤ r * d := Int.mul_nonneg h3 (by omega)
  have r2 : r * d < b * d := Int.mul_lt_mul_of_pos_right h5 (by omega)
  have r3 : 0 ≤ s * b := Int.mul_nonneg h4 (by omega)
  have r4 : s * b < b * d := by rw [Int.mul_comm b d]; exact Int.mul_lt_mul_of_pos_right h6 (by omega)
  generalize r * d = x at *
  generalize s * b = y at *
  generalize hm : b * d = m at *
  by_cases hpq : p = q
  · subst hpq
    simp
  · rw [if_pos hpq]
    rcases (by omega : p + 1 ≤ q ∨ q + 1 ≤ p) with h | h
    · have := Int.mul_le_mul_of_nonneg_left h (show 0 ≤ m by omega)
      rw [Int.mul_add, Int.mul_one] at this
      omega
    · have := Int.mul_le_mul_of_nonneg_left h (show 0 ≤ m by omega)
      rw [Int.mul_add, Int.mul_one] at this
      omega

set_option maxRecDepth 100000 in
set_option maxHeartbeats 1000000 in
theorem refLess_any (a b c d : Int) (w : World) (ha : 0 ≤ a) (ha2 : a ≤ 4611686018427387904) (hb : 1 ≤ b) (hb2 : b ≤ 1000000000) (hc : 0 ≤ c) (hc2 : c ≤ 4611686018427387904) (hd : 1 ≤ d) (hd2 : d ≤ 1000000000) :
    Calls Try.prog 133 #[V2 a b, V2 c d] w fun e w' => e = .returned (.bool (decide (a * d < c * b))) ∧ Ext w w' := by
  have HP := Lib.hid (less_plain (a := a) (c := c) hb hd)
  have b0 : ¬ b = 0 := by omega
  have d0 : ¬ d = 0 := by omega
  have i1 := Int.ediv_nonneg ha (show 0 ≤ b by omega)
  have i2 := Int.ediv_le_self b ha
  have i3 := Int.ediv_nonneg hc (show 0 ≤ d by omega)
  have i4 := Int.ediv_le_self d hc
  have i5 := Int.emod_nonneg a b0
  have i6 := Int.emod_nonneg c d0
  have i7 := Int.emod_lt_of_pos a (show 0 < b by omega)
  have i8 := Int.emod_lt_of_pos c (show 0 < d by omega)
  obtain ⟨m1, m2⟩ := mul_bd i5 (show a % b ≤ 1000000000 by omega) (show 0 ≤ d by omega) hd2
  obtain ⟨m3, m4⟩ := mul_bd i6 (show c % d ≤ 1000000000 by omega) (show 0 ≤ b by omega) hb2
  by_cases hq : a / b = c / d
  · have hqb : (a / b != c / d) = false := by simpa using hq
    have HQ := Lib.hid (show (a * d < c * b) ↔ a % b * d < c % d * b from HP.out.trans (by rw [if_neg (by simpa using hq)]))
    clear hq HP
    go_enter Try.func133, Try.ntmps133
    go_wp2_with fail
    try (have hs0 := δ.lt (w.heap.size) (by first | (simp; done) | (simp; omega)))
    try (have hs1 := δ.lt (w.heap.size + 1) (by first | (simp; done) | (simp; omega)))
    refine wp_region_bext (by kernel_rfl) (by kernel_rfl) ?_
    repeat (any_goals (go_big_quiet_step (fail)))
    all_goals refine wpQuiet_nil ?_
    all_goals rintro w' hw'
    all_goals obtain ⟨δ, rfl⟩ : Ext ((w.alloc (.cells #[.int .i64 a, .int .i64 b] 144)).alloc (.cells #[.int .i64 c, .int .i64 d] 144)) w' := Ext.trans (by (repeat' (first | with_reducible exact Ext.refl _ | with_reducible apply Ext.alloc | with_reducible apply Ext.drew | with_reducible apply Ext.drewN | with_reducible refine Ext.setCell ?_ ?_ _ | with_reducible apply Ext.step | with_reducible assumption | with_reducible exact Nat.le_refl _ | (simp; done) | (simp; omega)))) hw'
    all_goals clear hw'
    go_wp2_with fail
    have X1 : Ext ((w.alloc (.cells #[.int .i64 a, .int .i64 b] 144)).alloc (.cells #[.int .i64 c, .int .i64 d] 144)) δ.wd := ⟨δ, rfl⟩
    have c0 := X1.cell_some (b := w.heap.size) (o := 0) (v := .int .i64 a) (by go_cell)
    have c1 := X1.cell_some (b := w.heap.size) (o := 1) (v := .int .i64 b) (by go_cell)
    have c2 := X1.cell_some (b := w.heap.size + 1) (o := 0) (v := .int .i64 c) (by go_cell)
    have c3 := X1.cell_some (b := w.heap.size + 1) (o := 1) (v := .int .i64 d) (by go_cell)
    have HW := Lib.hid (show Ext w δ.wd from Ext.trans (by (repeat' (first | with_reducible exact Ext.refl _ | with_reducible apply Ext.alloc | with_reducible apply Ext.drew | with_reducible apply Ext.drewN | with_reducible refine Ext.setCell ?_ ?_ _ | with_reducible apply Ext.step | with_reducible assumption | with_reducible exact Nat.le_refl _ | (simp; done) | (simp; omega)))) X1)
    generalize δ.wd = W1 at *
    have l0 := cell_lt c0
    have l1 := cell_lt c2
    have M1 := Lib.hid (show wrap64 (a % b * d) = a % b * d from IntWalk.wrap64_in _ (by omega))
    have M2 := Lib.hid (show wrap64 (c % d * b) = c % d * b from IntWalk.wrap64_in _ (by omega))
    clear X1 m1 m3
    refine wp_region_bext (by kernel_rfl) (by kernel_rfl) ?_
    repeat (any_goals (go_big_quiet_step (fail)))
    all_goals refine wpQuiet_nil ?_
    all_goals rintro _ ⟨δ, rfl⟩
    go_wp2_with fail
    go_ret
    exact ⟨ret_b (decide_eq_decide.2 (by rw [M1.out, M2.out]; exact HQ.out.symm)), HW.out.trans (by (repeat' (first | with_reducible exact Ext.refl _ | with_reducible apply Ext.alloc | with_reducible apply Ext.drew | with_reducible apply Ext.drewN | with_reducible refine Ext.setCell ?_ ?_ _ | with_reducible apply Ext.step | with_reducible assumption | with_reducible exact Nat.le_refl _ | (simp; done) | (simp; omega))))⟩
  · have hqb : (a / b != c / d) = true := by simpa using hq
    have HQ := Lib.hid (show (a * d < c * b) ↔ a / b < c / d from HP.out.trans (by rw [if_pos hq]))
    clear hq HP
    go_enter Try.func133, Try.ntmps133
    go_wp2_with fail
    try (have hs0 := δ.lt (w.heap.size) (by first | (simp; done) | (simp; omega)))
    try (have hs1 := δ.lt (w.heap.size + 1) (by first | (simp; done) | (simp; omega)))
    refine wp_region_bext (by kernel_rfl) (by kernel_rfl) ?_
    repeat (any_goals (go_big_quiet_step (fail)))
    all_goals refine wpQuiet_nil ?_
    all_goals rintro w' hw'
    all_goals obtain ⟨δ, rfl⟩ : Ext ((w.alloc (.cells #[.int .i64 a, .int .i64 b] 144)).alloc (.cells #[.int .i64 c, .int .i64 d] 144)) w' := Ext.trans (by (repeat' (first | with_reducible exact Ext.refl _ | with_reducible apply Ext.alloc | with_reducible apply Ext.drew | with_reducible apply Ext.drewN | with_reducible refine Ext.setCell ?_ ?_ _ | with_reducible apply Ext.step | with_reducible assumption | with_reducible exact Nat.le_refl _ | (simp; done) | (simp; omega)))) hw'
    all_goals clear hw'
    go_wp2_with fail
    go_ret
    exact ⟨ret_b (decide_eq_decide.2 HQ.out.symm), by (repeat' (first | with_reducible exact Ext.refl _ | with_reducible apply Ext.alloc | with_reducible apply Ext.drew | with_reducible apply Ext.drewN | with_reducible refine Ext.setCell ?_ ?_ _ | with_reducible apply Ext.step | with_reducible assumption | with_reducible exact Nat.le_refl _ | (simp; done) | (simp; omega)))⟩
end
open Go.RowKit

set_option maxRecDepth 100000 in
set_option maxHeartbeats 8000000 in
theorem fromSegment_any (px py ax ay bx by' : Int) (w : World) (h1 : Co px) (h2 : Co py) (h3 : Co ax) (h4 : Co ay) (h5 : Co bx) (h6 : Co by') :
    Calls Try.prog 132 #[V2 px py, V2 ax ay, V2 bx by'] w fun e w' => e = .returned (V2 (lowF (spotN px py ax ay bx by') (spotD px py ax ay bx by')).1 (lowF (spotN px py ax ay bx by') (spotD px py ax ay bx by')).2) ∧ Ext w w' := by
  have hsq := spotP_bd (p := (px, py)) (a := (ax, ay)) (b := (bx, by')) ⟨h1, h2⟩ ⟨h3, h4⟩ ⟨h5, h6⟩
  obtain ⟨hsn0, hsn1, hsd0, hsd1⟩ := hsq
  simp only [spotP] at hsn0 hsn1 hsd0 hsd1
  have HLOW := fun W : World => lowest_any (spotN px py ax ay bx by') (spotD px py ax ay bx by') W hsn0 (by omega) hsd0 (by omega)
  clear hsn0 hsn1 hsd0 hsd1
  have HN := Lib.hid (show spotN px py ax ay bx by' = if alongP px py ax ay bx by' ≤ 0 then sizeP ax ay px py else if sizeP ax ay bx by' ≤ alongP px py ax ay bx by' then sizeP bx by' px py else crossP px py ax ay bx by' * crossP px py ax ay bx by' from rfl)
  have HDN := Lib.hid (show spotD px py ax ay bx by' = if alongP px py ax ay bx by' ≤ 0 then 1 else if sizeP ax ay bx by' ≤ alongP px py ax ay bx by' then 1 else sizeP ax ay bx by' from rfl)
  generalize spotN px py ax ay bx by' = sn at *
  generalize spotD px py ax ay bx by' = sd at *
  have HLW := Lib.hid HLOW
  clear HLOW
  go_enter Try.func132, Try.ntmps132
  go_wp2_with fail
  refine wp_region_mk ([⟨6, 8, 7, 76, #[.int .i64 0, .int .i64 0], 15⟩, ⟨7, 9, 8, 76, #[.int .i64 0, .int .i64 0], 18⟩]) (by kernel_rfl) (by kernel_rfl) ?_ ?_
  · intro m hm o ho ρ W
    simp only [List.mem_cons, List.not_mem_nil, or_false] at hm
    rcases hm with rfl | rfl <;> (cases ho; go_simp)
  repeat (any_goals (first | (refine wpX_skip (by rfl) ?_) | (refine wpX_pass (by rfl) (by rfl) ?_) | (refine wpX_stepK (by rfl) (by rfl) (fun K hK => ?_); go_simp; first | (refine hK _ ?_; clear hK K) | (apply Exists.intro; refine ⟨fun δ => ?_, hK _ ?_⟩; (focus (go_at_call 149; exact minus_any _ _ _ _ _ (by assumption) (by assumption) (by assumption) (by assumption))); clear hK K))))
  all_goals refine wpX_nil ⟨?_, ?_⟩
  any_goals (intro m hm; simp only [List.mem_cons, List.not_mem_nil, or_false] at hm; rcases hm with rfl | rfl <;> exact ⟨by kernel_rfl, rfl, by simp [Value.cells, Value.oneCell']⟩)
  all_goals refine mk_two (by decide) ?_
  rintro b7 b8 δ hb7 hb8 hne m7 m8
  have X1 : Ext w δ.wd := Ext.trans (by (repeat' (first | with_reducible exact Ext.refl _ | with_reducible apply Ext.alloc | with_reducible apply Ext.drew | with_reducible apply Ext.drewN | with_reducible refine Ext.setCell ?_ ?_ _ | with_reducible apply Ext.step | with_reducible assumption | with_reducible exact Nat.le_refl _ | (simp; done) | (simp; omega)))) ⟨δ, rfl⟩
  have k0 : δ.wd.cell? ⟨b7, 0, none⟩ = some (.int .i64 (bx - ax)) := (m7.cell 0).trans (by simp [Value.cells])
  have k1 : δ.wd.cell? ⟨b7, 1, none⟩ = some (.int .i64 (by' - ay)) := (m7.cell 1).trans (by simp [Value.cells])
  have k2 : δ.wd.cell? ⟨b8, 0, none⟩ = some (.int .i64 (px - ax)) := (m8.cell 0).trans (by simp [Value.cells])
  have k3 : δ.wd.cell? ⟨b8, 1, none⟩ = some (.int .i64 (py - ay)) := (m8.cell 1).trans (by simp [Value.cells])
  have hr : δ.wd.cell? ⟨w.heap.size + 1 + 1 + 1, 0, none⟩ = some (.int .i64 0) := Ext.cell_some ⟨δ, rfl⟩ (by go_cell)
  have hr1 : δ.wd.cell? ⟨w.heap.size + 1 + 1 + 1, 1, none⟩ = some (.int .i64 0) := Ext.cell_some ⟨δ, rfl⟩ (by go_cell)
  have hf : δ.wd.frozen? ⟨w.heap.size + 1 + 1 + 1, 0, none⟩ = false := Ext.frozen ⟨δ, rfl⟩ (v := .int .i64 0) (by go_cell) (by go_simp)
  have hf1 : δ.wd.frozen? ⟨w.heap.size + 1 + 1 + 1, 1, none⟩ = false := Ext.frozen ⟨δ, rfl⟩ (v := .int .i64 0) (by go_cell) (by go_simp)
  have HX1 := Lib.hid X1
  have k4 : δ.wd.cell? ⟨w.heap.size, 0, none⟩ = some (.int .i64 px) := Ext.cell_some ⟨δ, rfl⟩ (by go_cell)
  have k5 : δ.wd.cell? ⟨w.heap.size, 1, none⟩ = some (.int .i64 py) := Ext.cell_some ⟨δ, rfl⟩ (by go_cell)
  have k6 : δ.wd.cell? ⟨w.heap.size + 1 + 1, 0, none⟩ = some (.int .i64 bx) := Ext.cell_some ⟨δ, rfl⟩ (by go_cell)
  have k7 : δ.wd.cell? ⟨w.heap.size + 1 + 1, 1, none⟩ = some (.int .i64 by') := Ext.cell_some ⟨δ, rfl⟩ (by go_cell)
  replace m7 := cell_lt k0
  replace m8 := cell_lt k2
  have mr := cell_lt hr
  have mp := cell_lt k4
  have mb := cell_lt k6
  have HA := Lib.hid fun W : World => (show Calls Try.prog 152 #[V2 (bx - ax) (by' - ay), V2 (px - ax) (py - ay)] W fun e w' => e = .returned (.int .i64 (alongP px py ax ay bx by')) ∧ Ext W w' from refDot_any _ _ _ _ W (h5.sub h3) (h6.sub h4) (h1.sub h3) (h2.sub h4))
  have HS := Lib.hid fun W : World => (show Calls Try.prog 152 #[V2 (bx - ax) (by' - ay), V2 (bx - ax) (by' - ay)] W fun e w' => e = .returned (.int .i64 (sizeP ax ay bx by')) ∧ Ext W w' from refDot_any _ _ _ _ W (h5.sub h3) (h6.sub h4) (h5.sub h3) (h6.sub h4))
  have HV := Lib.hid fun W : World => (show Calls Try.prog 152 #[V2 (px - ax) (py - ay), V2 (px - ax) (py - ay)] W fun e w' => e = .returned (.int .i64 (sizeP ax ay px py)) ∧ Ext W w' from refDot_any _ _ _ _ W (h1.sub h3) (h2.sub h4) (h1.sub h3) (h2.sub h4))
  have HW := Lib.hid fun W : World => (show Calls Try.prog 152 #[V2 (px - bx) (py - by'), V2 (px - bx) (py - by')] W fun e w' => e = .returned (.int .i64 (sizeP bx by' px py)) ∧ Ext W w' from refDot_any _ _ _ _ W (h1.sub h5) (h2.sub h6) (h1.sub h5) (h2.sub h6))
  have HC := Lib.hid fun W : World => (show Calls Try.prog 151 #[V2 (bx - ax) (by' - ay), V2 (px - ax) (py - ay)] W fun e w' => e = .returned (.int .i64 (crossP px py ax ay bx by')) ∧ Ext W w' from refCross_any _ _ _ _ W (h5.sub h3) (h6.sub h4) (h1.sub h3) (h2.sub h4))
  have HWY := Lib.hid fun W : World => minus_any px py bx by' W h1 h2 h5 h6
  obtain ⟨c1, c2⟩ : -968000000 ≤ crossP px py ax ay bx by' ∧ crossP px py ax ay bx by' ≤ 968000000 := by
    have a1 := pr_bd (h5.sub h3) (h2.sub h4)
    have a2 := pr_bd (h6.sub h4) (h1.sub h3)
    unfold crossP
    omega
  obtain ⟨c3, c4⟩ : 0 ≤ crossP px py ax ay bx by' * crossP px py ax ay bx by' ∧ crossP px py ax ay bx by' * crossP px py ax ay bx by' ≤ 937024000000000000 := by
    generalize crossP px py ax ay bx by' = c at *
    have h : (c * c).natAbs ≤ 968000000 * 968000000 := by
      rw [Int.natAbs_mul]
      exact Nat.mul_le_mul (by omega) (by omega)
    have h0 := sq_nn c
    omega
  generalize alongP px py ax ay bx by' = al at *
  generalize crossP px py ax ay bx by' = cr at *
  generalize sizeP ax ay bx by' = sz at *
  generalize sizeP ax ay px py = sv at *
  generalize sizeP bx by' px py = sw at *
  generalize bx - ax = ux at *
  generalize by' - ay = uy at *
  generalize px - ax = vx at *
  generalize py - ay = vy at *
  generalize px - bx = wx at *
  generalize py - by' = wy at *
  generalize δ.wd = W1 at *
  clear hb7 hb8 hne h1 h2 h3 h4 h5 h6 c1 c2 X1
  by_cases q1 : al ≤ 0
  · obtain ⟨rfl, rfl⟩ : sn = sv ∧ sd = 1 := by rw [HN.out, HDN.out, if_pos q1, if_pos q1]; exact ⟨rfl, rfl⟩
    clear HN HDN
    go_wp2_with fail
    try go_frame
    refine wp_region_bext (by kernel_rfl) (by kernel_rfl) ?_
    repeat (any_goals (go_big_quiet_step ((first | (go_at_call 152; with_reducible exact bext_call (HA.out _)) | (go_at_call 152; with_reducible exact bext_call (HS.out _))))))
    all_goals refine wpQuiet_nil ?_
    all_goals rintro _ ⟨δ, rfl⟩
    have X2 : Ext W1 δ.wd := ⟨δ, rfl⟩
    replace hf := X2.frozen hr hf
    replace hf1 := X2.frozen hr1 hf1
    replace k0 := X2.cell_some k0
    replace k1 := X2.cell_some k1
    replace k2 := X2.cell_some k2
    replace k3 := X2.cell_some k3
    replace k4 := X2.cell_some k4
    replace k5 := X2.cell_some k5
    replace k6 := X2.cell_some k6
    replace k7 := X2.cell_some k7
    replace hr := X2.cell_some hr
    replace hr1 := X2.cell_some hr1
    replace m7 := cell_lt k0
    replace m8 := cell_lt k2
    replace mr := cell_lt hr
    replace mp := cell_lt k4
    replace mb := cell_lt k6
    have HX2 := Lib.hid (HX1.out.trans X2)
    generalize δ.wd = W2 at *
    clear X2
    go_wp2_with fail
    refine (HV.out _).mono ?_
    rintro e W3 ⟨rfl, x3⟩
    have X3 : Ext W2 W3 := Ext.trans (by (repeat' (first | with_reducible exact Ext.refl _ | with_reducible apply Ext.alloc | with_reducible apply Ext.drew | with_reducible apply Ext.drewN | with_reducible refine Ext.setCell ?_ ?_ _ | with_reducible apply Ext.step | with_reducible assumption | with_reducible exact Nat.le_refl _ | (simp; done) | (simp; omega)))) x3
    have HX3 := Lib.hid (HX2.out.trans X3)
    replace hf := X3.frozen hr hf
    replace hf1 := X3.frozen hr1 hf1
    replace k0 := X3.cell_some k0
    replace k1 := X3.cell_some k1
    replace k2 := X3.cell_some k2
    replace k3 := X3.cell_some k3
    replace k4 := X3.cell_some k4
    replace k5 := X3.cell_some k5
    replace k6 := X3.cell_some k6
    replace k7 := X3.cell_some k7
    replace hr := X3.cell_some hr
    replace hr1 := X3.cell_some hr1
    replace m7 := cell_lt k0
    replace m8 := cell_lt k2
    replace mr := cell_lt hr
    replace mp := cell_lt k4
    replace mb := cell_lt k6
    clear X3 x3
    go_wp2_with fail
    refine (HLW.out _).mono ?_
    rintro e W4 ⟨rfl, x3⟩
    have X3 : Ext W3 W4 := Ext.trans (by (repeat' (first | with_reducible exact Ext.refl _ | with_reducible apply Ext.alloc | with_reducible apply Ext.drew | with_reducible apply Ext.drewN | with_reducible refine Ext.setCell ?_ ?_ _ | with_reducible apply Ext.step | with_reducible assumption | with_reducible exact Nat.le_refl _ | (simp; done) | (simp; omega)))) x3
    have HX4 := Lib.hid (HX3.out.trans X3)
    replace hf := X3.frozen hr hf
    replace hf1 := X3.frozen hr1 hf1
    replace k0 := X3.cell_some k0
    replace k1 := X3.cell_some k1
    replace k2 := X3.cell_some k2
    replace k3 := X3.cell_some k3
    replace k4 := X3.cell_some k4
    replace k5 := X3.cell_some k5
    replace k6 := X3.cell_some k6
    replace k7 := X3.cell_some k7
    replace hr := X3.cell_some hr
    replace hr1 := X3.cell_some hr1
    replace m7 := cell_lt k0
    replace m8 := cell_lt k2
    replace mr := cell_lt hr
    replace mp := cell_lt k4
    replace mb := cell_lt k6
    clear X3 x3
    go_wp2_with fail
    have z0 := cell_set_same (u := .int .i64 (lowF sn 1).1) hr
    have z1 := (set2 hr hr1 (.int .i64 (lowF sn 1).1) (.int .i64 (lowF sn 1).2)).2
    exact bodyPost_ret (v := V2 (lowF sn 1).1 (lowF sn 1).2) (by simp [results, Try.results132, go_sem, z0, z1]) rfl ⟨rfl, (HX4.out.setCell (by simp <;> omega) _).setCell (by simp <;> omega) _⟩
  by_cases q2 : sz ≤ al
  · obtain ⟨rfl, rfl⟩ : sn = sw ∧ sd = 1 := by rw [HN.out, HDN.out, if_neg q1, if_neg q1, if_pos q2, if_pos q2]; exact ⟨rfl, rfl⟩
    clear HN HDN
    go_wp2_with fail
    try go_frame
    refine wp_region_bext (by kernel_rfl) (by kernel_rfl) ?_
    repeat (any_goals (go_big_quiet_step ((first | (go_at_call 152; with_reducible exact bext_call (HA.out _)) | (go_at_call 152; with_reducible exact bext_call (HS.out _))))))
    all_goals refine wpQuiet_nil ?_
    all_goals rintro _ ⟨δ, rfl⟩
    have X2 : Ext W1 δ.wd := ⟨δ, rfl⟩
    replace hf := X2.frozen hr hf
    replace hf1 := X2.frozen hr1 hf1
    replace k0 := X2.cell_some k0
    replace k1 := X2.cell_some k1
    replace k2 := X2.cell_some k2
    replace k3 := X2.cell_some k3
    replace k4 := X2.cell_some k4
    replace k5 := X2.cell_some k5
    replace k6 := X2.cell_some k6
    replace k7 := X2.cell_some k7
    replace hr := X2.cell_some hr
    replace hr1 := X2.cell_some hr1
    replace m7 := cell_lt k0
    replace m8 := cell_lt k2
    replace mr := cell_lt hr
    replace mp := cell_lt k4
    replace mb := cell_lt k6
    have HX2 := Lib.hid (HX1.out.trans X2)
    generalize δ.wd = W2 at *
    clear X2
    go_wp2_with fail
    refine (HWY.out _).mono ?_
    rintro e W3 ⟨rfl, x3⟩
    have X3 : Ext W2 W3 := Ext.trans (by (repeat' (first | with_reducible exact Ext.refl _ | with_reducible apply Ext.alloc | with_reducible apply Ext.drew | with_reducible apply Ext.drewN | with_reducible refine Ext.setCell ?_ ?_ _ | with_reducible apply Ext.step | with_reducible assumption | with_reducible exact Nat.le_refl _ | (simp; done) | (simp; omega)))) x3
    have HX3 := Lib.hid (HX2.out.trans X3)
    replace hf := X3.frozen hr hf
    replace hf1 := X3.frozen hr1 hf1
    replace k0 := X3.cell_some k0
    replace k1 := X3.cell_some k1
    replace k2 := X3.cell_some k2
    replace k3 := X3.cell_some k3
    replace k4 := X3.cell_some k4
    replace k5 := X3.cell_some k5
    replace k6 := X3.cell_some k6
    replace k7 := X3.cell_some k7
    replace hr := X3.cell_some hr
    replace hr1 := X3.cell_some hr1
    replace m7 := cell_lt k0
    replace m8 := cell_lt k2
    replace mr := cell_lt hr
    replace mp := cell_lt k4
    replace mb := cell_lt k6
    clear X3 x3
    go_wp2_with fail
    refine (HW.out _).mono ?_
    rintro e W4 ⟨rfl, x3⟩
    have X3 : Ext W3 W4 := Ext.trans (by (repeat' (first | with_reducible exact Ext.refl _ | with_reducible apply Ext.alloc | with_reducible apply Ext.drew | with_reducible apply Ext.drewN | with_reducible refine Ext.setCell ?_ ?_ _ | with_reducible apply Ext.step | with_reducible assumption | with_reducible exact Nat.le_refl _ | (simp; done) | (simp; omega)))) x3
    have HX4 := Lib.hid (HX3.out.trans X3)
    replace hf := X3.frozen hr hf
    replace hf1 := X3.frozen hr1 hf1
    replace k0 := X3.cell_some k0
    replace k1 := X3.cell_some k1
    replace k2 := X3.cell_some k2
    replace k3 := X3.cell_some k3
    replace k4 := X3.cell_some k4
    replace k5 := X3.cell_some k5
    replace k6 := X3.cell_some k6
    replace k7 := X3.cell_some k7
    replace hr := X3.cell_some hr
    replace hr1 := X3.cell_some hr1
    replace m7 := cell_lt k0
    replace m8 := cell_lt k2
    replace mr := cell_lt hr
    replace mp := cell_lt k4
    replace mb := cell_lt k6
    clear X3 x3
    go_wp2_with fail
    refine (HLW.out _).mono ?_
    rintro e W5 ⟨rfl, x3⟩
    have X3 : Ext W4 W5 := Ext.trans (by (repeat' (first | with_reducible exact Ext.refl _ | with_reducible apply Ext.alloc | with_reducible apply Ext.drew | with_reducible apply Ext.drewN | with_reducible refine Ext.setCell ?_ ?_ _ | with_reducible apply Ext.step | with_reducible assumption | with_reducible exact Nat.le_refl _ | (simp; done) | (simp; omega)))) x3
    have HX5 := Lib.hid (HX4.out.trans X3)
    replace hf := X3.frozen hr hf
    replace hf1 := X3.frozen hr1 hf1
    replace k0 := X3.cell_some k0
    replace k1 := X3.cell_some k1
    replace k2 := X3.cell_some k2
    replace k3 := X3.cell_some k3
    replace k4 := X3.cell_some k4
    replace k5 := X3.cell_some k5
    replace k6 := X3.cell_some k6
    replace k7 := X3.cell_some k7
    replace hr := X3.cell_some hr
    replace hr1 := X3.cell_some hr1
    replace m7 := cell_lt k0
    replace m8 := cell_lt k2
    replace mr := cell_lt hr
    replace mp := cell_lt k4
    replace mb := cell_lt k6
    clear X3 x3
    go_wp2_with fail
    have z0 := cell_set_same (u := .int .i64 (lowF sn 1).1) hr
    have z1 := (set2 hr hr1 (.int .i64 (lowF sn 1).1) (.int .i64 (lowF sn 1).2)).2
    exact bodyPost_ret (v := V2 (lowF sn 1).1 (lowF sn 1).2) (by simp [results, Try.results132, go_sem, z0, z1]) rfl ⟨rfl, (HX5.out.setCell (by simp <;> omega) _).setCell (by simp <;> omega) _⟩
  · obtain ⟨rfl, rfl⟩ : sn = cr * cr ∧ sd = sz := by rw [HN.out, HDN.out, if_neg q1, if_neg q1, if_neg q2, if_neg q2]; exact ⟨rfl, rfl⟩
    clear HN HDN
    go_wp2_with fail
    try go_frame
    refine wp_region_bext (by kernel_rfl) (by kernel_rfl) ?_
    repeat (any_goals (go_big_quiet_step ((first | (go_at_call 152; with_reducible exact bext_call (HA.out _)) | (go_at_call 152; with_reducible exact bext_call (HS.out _))))))
    all_goals refine wpQuiet_nil ?_
    all_goals rintro _ ⟨δ, rfl⟩
    have X2 : Ext W1 δ.wd := ⟨δ, rfl⟩
    replace hf := X2.frozen hr hf
    replace hf1 := X2.frozen hr1 hf1
    replace k0 := X2.cell_some k0
    replace k1 := X2.cell_some k1
    replace k2 := X2.cell_some k2
    replace k3 := X2.cell_some k3
    replace k4 := X2.cell_some k4
    replace k5 := X2.cell_some k5
    replace k6 := X2.cell_some k6
    replace k7 := X2.cell_some k7
    replace hr := X2.cell_some hr
    replace hr1 := X2.cell_some hr1
    replace m7 := cell_lt k0
    replace m8 := cell_lt k2
    replace mr := cell_lt hr
    replace mp := cell_lt k4
    replace mb := cell_lt k6
    have HX2 := Lib.hid (HX1.out.trans X2)
    generalize δ.wd = W2 at *
    clear X2
    go_wp2_with fail
    refine (HC.out _).mono ?_
    rintro e W3 ⟨rfl, x3⟩
    have X3 : Ext W2 W3 := Ext.trans (by (repeat' (first | with_reducible exact Ext.refl _ | with_reducible apply Ext.alloc | with_reducible apply Ext.drew | with_reducible apply Ext.drewN | with_reducible refine Ext.setCell ?_ ?_ _ | with_reducible apply Ext.step | with_reducible assumption | with_reducible exact Nat.le_refl _ | (simp; done) | (simp; omega)))) x3
    have HX3 := Lib.hid (HX2.out.trans X3)
    replace hf := X3.frozen hr hf
    replace hf1 := X3.frozen hr1 hf1
    replace k0 := X3.cell_some k0
    replace k1 := X3.cell_some k1
    replace k2 := X3.cell_some k2
    replace k3 := X3.cell_some k3
    replace k4 := X3.cell_some k4
    replace k5 := X3.cell_some k5
    replace k6 := X3.cell_some k6
    replace k7 := X3.cell_some k7
    replace hr := X3.cell_some hr
    replace hr1 := X3.cell_some hr1
    replace m7 := cell_lt k0
    replace m8 := cell_lt k2
    replace mr := cell_lt hr
    replace mp := cell_lt k4
    replace mb := cell_lt k6
    clear X3 x3
    go_wp2_with fail
    refine (HLW.out _).mono ?_
    rintro e W4 ⟨rfl, x3⟩
    have X3 : Ext W3 W4 := Ext.trans (by (repeat' (first | with_reducible exact Ext.refl _ | with_reducible apply Ext.alloc | with_reducible apply Ext.drew | with_reducible apply Ext.drewN | with_reducible refine Ext.setCell ?_ ?_ _ | with_reducible apply Ext.step | with_reducible assumption | with_reducible exact Nat.le_refl _ | (simp; done) | (simp; omega)))) x3
    have HX4 := Lib.hid (HX3.out.trans X3)
    replace hf := X3.frozen hr hf
    replace hf1 := X3.frozen hr1 hf1
    replace k0 := X3.cell_some k0
    replace k1 := X3.cell_some k1
    replace k2 := X3.cell_some k2
    replace k3 := X3.cell_some k3
    replace k4 := X3.cell_some k4
    replace k5 := X3.cell_some k5
    replace k6 := X3.cell_some k6
    replace k7 := X3.cell_some k7
    replace hr := X3.cell_some hr
    replace hr1 := X3.cell_some hr1
    replace m7 := cell_lt k0
    replace m8 := cell_lt k2
    replace mr := cell_lt hr
    replace mp := cell_lt k4
    replace mb := cell_lt k6
    clear X3 x3
    go_wp2_with fail
    have z0 := cell_set_same (u := .int .i64 (lowF (cr * cr) sd).1) hr
    have z1 := (set2 hr hr1 (.int .i64 (lowF (cr * cr) sd).1) (.int .i64 (lowF (cr * cr) sd).2)).2
    exact bodyPost_ret (v := V2 (lowF (cr * cr) sd).1 (lowF (cr * cr) sd).2) (by simp [results, Try.results132, go_sem, z0, z1]) rfl ⟨rfl, (HX4.out.setCell (by simp <;> omega) _).setCell (by simp <;> omega) _⟩

/-- Two segments cross each other. -/
def meetB (ax ay bx by' cx cy dx dy : Int) : Bool := apartB ax ay bx by' cx cy dx dy && apartB cx cy dx dy ax ay bx by'

set_option maxRecDepth 100000 in
set_option maxHeartbeats 8000000 in
theorem meet_any (ax ay bx by' cx cy dx dy : Int) (w : World) (h1 : Co ax) (h2 : Co ay) (h3 : Co bx) (h4 : Co by') (h5 : Co cx) (h6 : Co cy) (h7 : Co dx) (h8 : Co dy) :
    Calls Try.prog 131 #[V2 ax ay, V2 bx by', V2 cx cy, V2 dx dy] w fun e w' => e = .returned (.bool (meetB ax ay bx by' cx cy dx dy)) ∧ Ext w w' := by
  have HM := Lib.hid (show meetB ax ay bx by' cx cy dx dy = (decide (signI (crossP cx cy ax ay bx by') * signI (crossP dx dy ax ay bx by') < 0) && decide (signI (crossP ax ay cx cy dx dy) * signI (crossP bx by' cx cy dx dy) < 0)) by
    have e1 : apartB ax ay bx by' cx cy dx dy = decide (signI (crossP cx cy ax ay bx by') * signI (crossP dx dy ax ay bx by') < 0) := by
      rw [Bool.eq_iff_iff, decide_eq_true_eq, sign_neg]; rfl
    have e2 : apartB cx cy dx dy ax ay bx by' = decide (signI (crossP ax ay cx cy dx dy) * signI (crossP bx by' cx cy dx dy) < 0) := by
      rw [Bool.eq_iff_iff, decide_eq_true_eq, sign_neg]; rfl
    rw [meetB, e1, e2])
  have HC1 := Lib.hid fun W : World => (show Calls Try.prog 151 #[V2 (bx - ax) (by' - ay), V2 (cx - ax) (cy - ay)] W fun e w' => e = .returned (.int .i64 (crossP cx cy ax ay bx by')) ∧ Ext W w' from refCross_any _ _ _ _ W (h3.sub h1) (h4.sub h2) (h5.sub h1) (h6.sub h2))
  have HC2 := Lib.hid fun W : World => (show Calls Try.prog 151 #[V2 (bx - ax) (by' - ay), V2 (dx - ax) (dy - ay)] W fun e w' => e = .returned (.int .i64 (crossP dx dy ax ay bx by')) ∧ Ext W w' from refCross_any _ _ _ _ W (h3.sub h1) (h4.sub h2) (h7.sub h1) (h8.sub h2))
  have HC3 := Lib.hid fun W : World => (show Calls Try.prog 151 #[V2 (dx - cx) (dy - cy), V2 (ax - cx) (ay - cy)] W fun e w' => e = .returned (.int .i64 (crossP ax ay cx cy dx dy)) ∧ Ext W w' from refCross_any _ _ _ _ W (h7.sub h5) (h8.sub h6) (h1.sub h5) (h2.sub h6))
  have HC4 := Lib.hid fun W : World => (show Calls Try.prog 151 #[V2 (dx - cx) (dy - cy), V2 (bx - cx) (by' - cy)] W fun e w' => e = .returned (.int .i64 (crossP bx by' cx cy dx dy)) ∧ Ext W w' from refCross_any _ _ _ _ W (h7.sub h5) (h8.sub h6) (h3.sub h5) (h4.sub h6))
  have HM1 := Lib.hid fun W : World => minus_any cx cy ax ay W h5 h6 h1 h2
  have HM2 := Lib.hid fun W : World => minus_any dx dy ax ay W h7 h8 h1 h2
  have HM3 := Lib.hid fun W : World => minus_any ax ay cx cy W h1 h2 h5 h6
  have HM4 := Lib.hid fun W : World => minus_any bx by' cx cy W h3 h4 h5 h6
  generalize crossP cx cy ax ay bx by' = m1 at *
  generalize crossP dx dy ax ay bx by' = m2 at *
  generalize crossP ax ay cx cy dx dy = m3 at *
  generalize crossP bx by' cx cy dx dy = m4 at *
  have HS1 := Lib.hid fun W : World => sign_any m1 W
  have HS2 := Lib.hid fun W : World => sign_any m2 W
  have HS3 := Lib.hid fun W : World => sign_any m3 W
  have HS4 := Lib.hid fun W : World => sign_any m4 W
  have b1 := sign_bd m1
  have b2 := sign_bd m2
  have b3 := sign_bd m3
  have b4 := sign_bd m4
  go_enter Try.func131, Try.ntmps131
  go_wp2_with fail
  refine wp_region_mk ([⟨6, 8, 9, 76, #[.int .i64 0, .int .i64 0], 13⟩, ⟨7, 9, 10, 76, #[.int .i64 0, .int .i64 0], 16⟩]) (by kernel_rfl) (by kernel_rfl) ?_ ?_
  · intro m hm o ho ρ W
    simp only [List.mem_cons, List.not_mem_nil, or_false] at hm
    rcases hm with rfl | rfl <;> (cases ho; go_simp)
  repeat (any_goals (first | (refine wpX_skip (by rfl) ?_) | (refine wpX_pass (by rfl) (by rfl) ?_) | (refine wpX_stepK (by rfl) (by rfl) (fun K hK => ?_); go_simp; first | (refine hK _ ?_; clear hK K) | (apply Exists.intro; refine ⟨fun δ => ?_, hK _ ?_⟩; (focus (go_at_call 149; exact minus_any _ _ _ _ _ (by assumption) (by assumption) (by assumption) (by assumption))); clear hK K))))
  all_goals refine wpX_nil ⟨?_, ?_⟩
  any_goals (intro m hm; simp only [List.mem_cons, List.not_mem_nil, or_false] at hm; rcases hm with rfl | rfl <;> exact ⟨by kernel_rfl, rfl, by simp [Value.cells, Value.oneCell']⟩)
  all_goals refine mk_two (by decide) ?_
  rintro b7 b8 δ hb7 hb8 hne m7 m8
  have X1 : Ext w δ.wd := Ext.trans (by (repeat' (first | with_reducible exact Ext.refl _ | with_reducible apply Ext.alloc | with_reducible apply Ext.drew | with_reducible apply Ext.drewN | with_reducible refine Ext.setCell ?_ ?_ _ | with_reducible apply Ext.step | with_reducible assumption | with_reducible exact Nat.le_refl _ | (simp; done) | (simp; omega)))) ⟨δ, rfl⟩
  have k0 : δ.wd.cell? ⟨b7, 0, none⟩ = some (.int .i64 (bx - ax)) := (m7.cell 0).trans (by simp [Value.cells])
  have k1 : δ.wd.cell? ⟨b7, 1, none⟩ = some (.int .i64 (by' - ay)) := (m7.cell 1).trans (by simp [Value.cells])
  have k2 : δ.wd.cell? ⟨b8, 0, none⟩ = some (.int .i64 (dx - cx)) := (m8.cell 0).trans (by simp [Value.cells])
  have k3 : δ.wd.cell? ⟨b8, 1, none⟩ = some (.int .i64 (dy - cy)) := (m8.cell 1).trans (by simp [Value.cells])
  have a0 : δ.wd.cell? ⟨w.heap.size, 0, none⟩ = some (.int .i64 ax) := Ext.cell_some ⟨δ, rfl⟩ (by go_cell)
  have a1 : δ.wd.cell? ⟨w.heap.size, 1, none⟩ = some (.int .i64 ay) := Ext.cell_some ⟨δ, rfl⟩ (by go_cell)
  have a2 : δ.wd.cell? ⟨w.heap.size + 1, 0, none⟩ = some (.int .i64 bx) := Ext.cell_some ⟨δ, rfl⟩ (by go_cell)
  have a3 : δ.wd.cell? ⟨w.heap.size + 1, 1, none⟩ = some (.int .i64 by') := Ext.cell_some ⟨δ, rfl⟩ (by go_cell)
  have a4 : δ.wd.cell? ⟨w.heap.size + 1 + 1, 0, none⟩ = some (.int .i64 cx) := Ext.cell_some ⟨δ, rfl⟩ (by go_cell)
  have a5 : δ.wd.cell? ⟨w.heap.size + 1 + 1, 1, none⟩ = some (.int .i64 cy) := Ext.cell_some ⟨δ, rfl⟩ (by go_cell)
  have a6 : δ.wd.cell? ⟨w.heap.size + 1 + 1 + 1, 0, none⟩ = some (.int .i64 dx) := Ext.cell_some ⟨δ, rfl⟩ (by go_cell)
  have a7 : δ.wd.cell? ⟨w.heap.size + 1 + 1 + 1, 1, none⟩ = some (.int .i64 dy) := Ext.cell_some ⟨δ, rfl⟩ (by go_cell)
  have HX1 := Lib.hid X1
  replace m7 := cell_lt k0
  replace m8 := cell_lt k2
  have l0 := cell_lt a0
  have l1 := cell_lt a2
  have l2 := cell_lt a4
  have l3 := cell_lt a6
  generalize bx - ax = ux at *
  generalize by' - ay = uy at *
  generalize dx - cx = vx at *
  generalize dy - cy = vy at *
  generalize cx - ax = q1 at *
  generalize cy - ay = q2 at *
  generalize dx - ax = q3 at *
  generalize dy - ay = q4 at *
  generalize ax - cx = q5 at *
  generalize ay - cy = q6 at *
  generalize bx - cx = q7 at *
  generalize by' - cy = q8 at *
  generalize δ.wd = W1 at *
  clear hb7 hb8 hne h1 h2 h3 h4 h5 h6 h7 h8 X1
  have p1 : -1 ≤ signI m1 * signI m2 ∧ signI m1 * signI m2 ≤ 1 := by
    rcases (by omega : signI m1 = -1 ∨ signI m1 = 0 ∨ signI m1 = 1) with h | h | h <;> rw [h] <;> omega
  have p2 : -1 ≤ signI m3 * signI m4 ∧ signI m3 * signI m4 ≤ 1 := by
    rcases (by omega : signI m3 = -1 ∨ signI m3 = 0 ∨ signI m3 = 1) with h | h | h <;> rw [h] <;> omega
  have e1 : IntKind.i64.wrap (signI m1 * signI m2) = signI m1 * signI m2 := IntWalk.i64_in _ (by omega)
  have e2 : IntKind.i64.wrap (signI m3 * signI m4) = signI m3 * signI m4 := IntWalk.i64_in _ (by omega)
  cases hv : decide (signI m1 * signI m2 < 0)
  · rw [hv] at HM
    go_wp2_with fail
    try go_frame
    refine wp_region_bext (by kernel_rfl) (by kernel_rfl) ?_
    repeat (any_goals (go_big_quiet_step ((first | (go_at_call 149; with_reducible exact bext_call (HM1.out _)) | (go_at_call 149; with_reducible exact bext_call (HM2.out _)) | (go_at_call 151; with_reducible exact bext_call (HC1.out _)) | (go_at_call 151; with_reducible exact bext_call (HC2.out _)) | (go_at_call 150; with_reducible exact bext_same (HS1.out _)) | (go_at_call 150; with_reducible exact bext_same (HS2.out _))))))
    all_goals refine wpQuiet_nil ?_
    all_goals rintro _ ⟨δ, rfl⟩
    go_wp2_with fail
    go_ret
    exact ⟨ret_b HM.out.symm, HX1.out.trans (by (repeat' (first | with_reducible exact Ext.refl _ | with_reducible apply Ext.alloc | with_reducible apply Ext.drew | with_reducible apply Ext.drewN | with_reducible refine Ext.setCell ?_ ?_ _ | with_reducible apply Ext.step | with_reducible assumption | with_reducible exact Nat.le_refl _ | (simp; done) | (simp; omega))))⟩
  · rw [hv] at HM
    cases hv2 : decide (signI m3 * signI m4 < 0)
    all_goals
      rw [hv2] at HM
      go_wp2_with fail
      try go_frame
      refine wp_region_bext (by kernel_rfl) (by kernel_rfl) ?_
      repeat (any_goals (go_big_quiet_step ((first | (go_at_call 149; with_reducible exact bext_call (HM1.out _)) | (go_at_call 149; with_reducible exact bext_call (HM2.out _)) | (go_at_call 149; with_reducible exact bext_call (HM3.out _)) | (go_at_call 149; with_reducible exact bext_call (HM4.out _)) | (go_at_call 151; with_reducible exact bext_call (HC1.out _)) | (go_at_call 151; with_reducible exact bext_call (HC2.out _)) | (go_at_call 151; with_reducible exact bext_call (HC3.out _)) | (go_at_call 151; with_reducible exact bext_call (HC4.out _)) | (go_at_call 150; with_reducible exact bext_same (HS1.out _)) | (go_at_call 150; with_reducible exact bext_same (HS2.out _)) | (go_at_call 150; with_reducible exact bext_same (HS3.out _)) | (go_at_call 150; with_reducible exact bext_same (HS4.out _))))))
      all_goals refine wpQuiet_nil ?_
      all_goals rintro _ ⟨δ, rfl⟩
      go_wp2_with fail
      go_ret
      exact ⟨ret_b HM.out.symm, HX1.out.trans (by (repeat' (first | with_reducible exact Ext.refl _ | with_reducible apply Ext.alloc | with_reducible apply Ext.drew | with_reducible apply Ext.drewN | with_reducible refine Ext.setCell ?_ ?_ _ | with_reducible apply Ext.step | with_reducible assumption | with_reducible exact Nat.le_refl _ | (simp; done) | (simp; omega))))⟩
end Go.Proofs.Ytlljhimaopnbfaa
