/- The reference's steps, fractions and segments. Conditions: bounds. -/
import Derived.Test.YtgeapenglcohfaaGDist
import Derived.Test.YtgeapenglcohfaaRefTools
import Derived.StillTailTactics
import Derived.LoopN
namespace Go.Proofs.Ytgeapenglcohfaa
open Go.RowKit

theorem minus_any (ax ay bx by' : Int) (w : World) (h1 : Co ax) (h2 : Co ay) (h3 : Co bx) (h4 : Co by') :
    Calls Try.prog 112 #[V2 ax ay, V2 bx by'] w fun e w' => e = .returned (V2 (ax - bx) (ay - by')) ∧ Ext w w' := by
  obtain ⟨a1, a2⟩ := h1
  obtain ⟨b1, b2⟩ := h2
  obtain ⟨c1, c2⟩ := h3
  obtain ⟨d1, d2⟩ := h4
  go_enter Try.func112, Try.ntmps112
  go_wp2
  go_returns
  exact ⟨rfl, by (repeat' (first | with_reducible exact Ext.refl _ | with_reducible apply Ext.alloc | with_reducible apply Ext.drew | with_reducible apply Ext.drewN | with_reducible refine Ext.setCell ?_ ?_ _ | with_reducible apply Ext.step | with_reducible assumption | with_reducible exact Nat.le_refl _ | (simp; done) | (simp; omega)))⟩
theorem refDot_any (x y z u : Int) (w : World) (h1 : Df x) (h2 : Df y) (h3 : Df z) (h4 : Df u) :
    Calls Try.prog 115 #[V2 x y, V2 z u] w fun e w' => e = .returned (.int .i64 (x * z + y * u)) ∧ Ext w w' := by
  obtain ⟨a1, a2⟩ := pr_bd h1 h3
  obtain ⟨b1, b2⟩ := pr_bd h2 h4
  go_enter Try.func115, Try.ntmps115
  go_wp2
  go_ret
  exact ⟨rfl, by (repeat' (first | with_reducible exact Ext.refl _ | with_reducible apply Ext.alloc | with_reducible apply Ext.drew | with_reducible apply Ext.drewN | with_reducible refine Ext.setCell ?_ ?_ _ | with_reducible apply Ext.step | with_reducible assumption | with_reducible exact Nat.le_refl _ | (simp; done) | (simp; omega)))⟩
theorem refCross_any (x y z u : Int) (w : World) (h1 : Df x) (h2 : Df y) (h3 : Df z) (h4 : Df u) :
    Calls Try.prog 114 #[V2 x y, V2 z u] w fun e w' => e = .returned (.int .i64 (x * u - y * z)) ∧ Ext w w' := by
  obtain ⟨a1, a2⟩ := pr_bd h1 h4
  obtain ⟨b1, b2⟩ := pr_bd h2 h3
  go_enter Try.func114, Try.ntmps114
  go_wp2
  go_ret
  exact ⟨rfl, by (repeat' (first | with_reducible exact Ext.refl _ | with_reducible apply Ext.alloc | with_reducible apply Ext.drew | with_reducible apply Ext.drewN | with_reducible refine Ext.setCell ?_ ?_ _ | with_reducible apply Ext.step | with_reducible assumption | with_reducible exact Nat.le_refl _ | (simp; done) | (simp; omega)))⟩

set_option maxHeartbeats 1000000 in
theorem commonG_any (a b : Int) (w : World) (ha1 : 0 ≤ a) (ha2 : a ≤ 4611686018427387904) (hb1 : 0 ≤ b) (hb2 : b ≤ 4611686018427387904) :
    Calls Try.prog 117 #[.int .i64 a, .int .i64 b] w fun e w' => e = .returned (.int .i64 (Int.gcd a b : Int)) ∧ Ext w w' := by
  go_enter Try.func117, Try.ntmps117
  go_wp2
  go_loopw [0, 1] (fun u v wr => ∃ x y : Int, u = .int .i64 x ∧ v = .int .i64 y ∧ 0 ≤ x ∧ x ≤ 4611686018427387904 ∧ 0 ≤ y ∧ y ≤ 4611686018427387904 ∧ GcdG a b x y ∧ Ext w wr) (fun _ v _ => (intOf v).natAbs)
  case atStart => exact ⟨a, b, rfl, rfl, by omega, ha2, by omega, hb2, rfl, Ext.refl _⟩
  case round =>
    obtain ⟨x, y, rfl, rfl, hx1, hx2, hy1, hy2, hg, hw⟩ := hrel
    by_cases hy : y = 0
    · subst hy
      go_wp2
      all_goals go_ret
      all_goals refine ⟨ret_i ?_, hw⟩
      all_goals
        unfold GcdG at hg
        rw [← hg]
        simp
        omega
    · have hyb : (y != 0) = true := by simpa using hy
      have hm := Int.natAbs_tmod x y
      have hm2 := Nat.mod_lt x.natAbs (show 0 < y.natAbs by omega)
      have hm3 : (x.tmod y).natAbs < y.natAbs := by omega
      have Hm := Lib.hid hm3
      have hm4 : 0 ≤ x.tmod y := Int.tmod_nonneg _ hx1
      have hm5 : x.tmod y ≤ 4611686018427387904 := by omega
      have Hg := Lib.hid (show GcdG a b y (x.tmod y) from (gcdG_step x y).trans hg)
      have HM4 := Lib.hid hm4
      have HM5 := Lib.hid hm5
      have HMM := Lib.hid (Int.tmod_eq_emod_of_nonneg hx1 (b := y))
      clear hm hm2 hm3 hg hm4 hm5
      go_wp2_with fail
      refine wp_region_bext (by kernel_rfl) (by kernel_rfl) ?_
      repeat (any_goals (go_big_quiet_step (fail)))
      all_goals refine wpQuiet_nil ?_
      all_goals rintro _ ⟨δ, rfl⟩
      go_wp2_with fail
      go_roundw
      case rel => first | exact ⟨y, x.tmod y, rfl, rfl, hy1, hy2, HM4.out, HM5.out, Hg.out, by (repeat' (first | with_reducible exact Ext.refl _ | with_reducible apply Ext.alloc | with_reducible apply Ext.drew | with_reducible apply Ext.drewN | with_reducible refine Ext.setCell ?_ ?_ _ | with_reducible apply Ext.step | with_reducible assumption | with_reducible exact Nat.le_refl _ | (simp; done) | (simp; omega)))⟩ | exact ⟨y, x % y, rfl, rfl, hy1, hy2, HMM.out ▸ HM4.out, HMM.out ▸ HM5.out, HMM.out ▸ Hg.out, by (repeat' (first | with_reducible exact Ext.refl _ | with_reducible apply Ext.alloc | with_reducible apply Ext.drew | with_reducible apply Ext.drewN | with_reducible refine Ext.setCell ?_ ?_ _ | with_reducible apply Ext.step | with_reducible assumption | with_reducible exact Nat.le_refl _ | (simp; done) | (simp; omega)))⟩
      case measure => first | simpa [intOf] using Hm.out | simpa [intOf, HMM.out] using Hm.out

set_option maxRecDepth 100000 in
set_option maxHeartbeats 1000000 in
theorem lowest_any (n d : Int) (w : World) (hn : 0 ≤ n) (hn2 : n ≤ 4611686018427387904) (hd : 1 ≤ d) (hd2 : d ≤ 4611686018427387904) :
    Calls Try.prog 116 #[.int .i64 n, .int .i64 d] w fun e w' => e = .returned (V2 (lowF n d).1 (lowF n d).2) ∧ Ext w w' := by
  have HC := Lib.hid fun W : World => commonG_any n d W hn hn2 (by omega) hd2
  obtain ⟨g, hgq, g1, gp, gq, gg⟩ := gcd_parts (n := n) hd
  have HLO := Lib.hid (show lowF n d = (n / g, d / g) by rw [lowF, ← hgq])
  rw [← hgq] at HC
  have hx0 : ¬ g = 0 := by omega
  have i1 := Int.ediv_nonneg hn (show 0 ≤ g by omega)
  have i2 := Int.ediv_le_self g hn
  have i3 := Int.ediv_nonneg (show 0 ≤ d by omega) (show 0 ≤ g by omega)
  have i4 := Int.ediv_le_self g (show 0 ≤ d by omega)
  clear hgq gp gq gg
  go_enter Try.func116, Try.ntmps116
  go_wp2_with fail
  refine (HC.out _).mono ?_
  rintro e _ ⟨rfl, hx⟩
  obtain ⟨δ, rfl⟩ : Ext (w.alloc (.cells #[.int .i64 0, .int .i64 0] 45)) _ := Ext.trans (by (repeat' (first | with_reducible exact Ext.refl _ | with_reducible apply Ext.alloc | with_reducible apply Ext.drew | with_reducible apply Ext.drewN | with_reducible refine Ext.setCell ?_ ?_ _ | with_reducible apply Ext.step | with_reducible assumption | with_reducible exact Nat.le_refl _ | (simp; done) | (simp; omega)))) hx
  clear hx
  try (have hs0 := δ.lt (w.heap.size) (by first | (simp; done) | (simp; omega)))
  go_wp2_with fail
  have y1 : Ext (w.alloc (.cells #[.int .i64 0, .int .i64 0] 45)) δ.wd := ⟨δ, rfl⟩
  have c0 := y1.cell_some (show (w.alloc (.cells #[.int .i64 0, .int .i64 0] 45)).cell? ⟨w.heap.size, 0, none⟩ = some (.int .i64 0) by go_cell)
  have c1 := y1.cell_some (show (w.alloc (.cells #[.int .i64 0, .int .i64 0] 45)).cell? ⟨w.heap.size, 1, none⟩ = some (.int .i64 0) by go_cell)
  have f0 := y1.frozen (b := w.heap.size) (o := 0) (v := .int .i64 0) (c := false) (by go_cell) (by go_simp)
  have f1 := y1.frozen (b := w.heap.size) (o := 1) (v := .int .i64 0) (c := false) (by go_cell) (by go_simp)
  have HW1 := Lib.hid (show Ext w δ.wd from Ext.trans (by (repeat' (first | with_reducible exact Ext.refl _ | with_reducible apply Ext.alloc | with_reducible apply Ext.drew | with_reducible apply Ext.drewN | with_reducible refine Ext.setCell ?_ ?_ _ | with_reducible apply Ext.step | with_reducible assumption | with_reducible exact Nat.le_refl _ | (simp; done) | (simp; omega)))) y1)
  generalize δ.wd = W1 at *
  have lw := cell_lt c0
  clear y1
  refine wp_region_still_tail 7 (by kernel_rfl) (by kernel_rfl) ?_
  simp only [List.take_succ_cons, List.take_zero, List.drop_succ_cons, List.drop_zero]
  repeat (refine wpStill_step (fun K hK => ?_); go_simp; (try go_bits); refine hK _ ?_; clear hK K)
  refine wpStill_nil ?_
  change wpList _ _ _ _ _ W1.drew
  go_wp2_with fail
  have z0 := cell_set_same (u := .int .i64 (n / g)) c0
  have z1 := (set2 c0 c1 (.int .i64 (n / g)) (.int .i64 (d / g))).2
  exact bodyPost_ret (v := V2 (n / g) (d / g)) (by simp [results, Try.results116, go_sem, z0, z1]) rfl ⟨by rw [HLO.out], ((HW1.out.setCell (by simp) _).setCell (by simp) _).drew⟩

def signI (n : Int) : Int := min (max n (-1)) 1
theorem sign_any (n : Int) (w : World) : Calls Try.prog 113 #[.int .i64 n] w fun e w' => e = .returned (.int .i64 (signI n)) ∧ w = w' := by
  go_enter Try.func113, Try.ntmps113
  go_wp2
  all_goals go_ret
  all_goals exact ⟨ret_i (by unfold signI; omega), rfl⟩

theorem sign_neg (m n : Int) : (signI m * signI n < 0) ↔ (((decide (0 < m) != decide (0 < n)) && m != 0) && n != 0) = true := by
  simp only [Bool.and_eq_true, bne_iff_ne, ne_eq, decide_eq_decide]
  unfold signI
  rcases (by omega : m < 0 ∨ m = 0 ∨ 0 < m) with h | h | h <;> rcases (by omega : n < 0 ∨ n = 0 ∨ 0 < n) with k | k | k
  · rw [show min (max m (-1)) 1 = -1 by omega, show min (max n (-1)) 1 = -1 by omega]; omega
  · rw [show min (max m (-1)) 1 = -1 by omega, show min (max n (-1)) 1 = 0 by omega]; omega
  · rw [show min (max m (-1)) 1 = -1 by omega, show min (max n (-1)) 1 = 1 by omega]; omega
  · rw [show min (max m (-1)) 1 = 0 by omega, show min (max n (-1)) 1 = -1 by omega]; omega
  · rw [show min (max m (-1)) 1 = 0 by omega, show min (max n (-1)) 1 = 0 by omega]; omega
  · rw [show min (max m (-1)) 1 = 0 by omega, show min (max n (-1)) 1 = 1 by omega]; omega
  · rw [show min (max m (-1)) 1 = 1 by omega, show min (max n (-1)) 1 = -1 by omega]; omega
  · rw [show min (max m (-1)) 1 = 1 by omega, show min (max n (-1)) 1 = 0 by omega]; omega
  · rw [show min (max m (-1)) 1 = 1 by omega, show min (max n (-1)) 1 = 1 by omega]; omega
theorem sign_bd (n : Int) : -1 ≤ signI n ∧ signI n ≤ 1 := by unfold signI; omega

theorem less_plain {a b c d : Int} (hb : 1 ≤ b) (hd : 1 ≤ d) : (a * d < c * b) ↔ (if a / b ≠ c / d then a / b < c / d else a % b * d < c % d * b) := by
  have h1 := Int.mul_ediv_add_emod a b
  have h2 := Int.mul_ediv_add_emod c d
  have h3 := Int.emod_nonneg a (show b ≠ 0 by omega)
  have h4 := Int.emod_nonneg c (show d ≠ 0 by omega)
  have h5 := Int.emod_lt_of_pos a (show 0 < b by omega)
  have h6 := Int.emod_lt_of_pos c (show 0 < d by omega)
  generalize a / b = p at *
  generalize c / d = q at *
  generalize a % b = r at *
  generalize c % d = s at *
  subst h1 h2
  have e1 : (b * p + r) * d = (b * d) * p + r * d := by rw [Int.add_mul]; congr 1; simp only [Int.mul_left_comm, Int.mul_comm]
  have e2 : (d * q + s) * b = (b * d) * q + s * b := by rw [Int.add_mul]; congr 1; simp only [Int.mul_left_comm, Int.mul_comm]
  rw [e1, e2]
  have r1 : 0 ≤ r * d := Int.mul_nonneg h3 (by omega)
  have r2 : r * d < b * d := Int.mul_lt_mul_of_pos_right h5 (by omega)
  have r3 : 0 ≤ s * b := Int.mul_nonneg h4 (by omega)
  have r4 : s * b < b * d := by rw [Int.mul_comm b d]; exact Int.mul_lt_mul_of_pos_right h6 (by omega)
  generalize r * d = x at *
  generalize s * b = y at *
  generalize hm : b * d = m at *
  by_cases hpq : p = q
  · subst hpq
    simp
  · rw [if_pos hpq]
    rcases (by omega : p + 1 ≤ q ∨ q + 1 ≤ p) with h | h
    · have := Int.mul_le_mul_of_nonneg_left h (show 0 ≤ m by omega)
      rw [Int.mul_add, Int.mul_one] at this
      omega
    · have := Int.mul_le_mul_of_nonneg_left h (show 0 ≤ m by omega)
      rw [Int.mul_add, Int.mul_one] at this
      omega

set_option maxRecDepth 100000 in
set_option maxHeartbeats 1000000 in
theorem refLess_any (a b c d : Int) (w : World) (ha : 0 ≤ a) (ha2 : a ≤ 4611686018427387904) (hb : 1 ≤ b) (hb2 : b ≤ 1000000000) (hc : 0 ≤ c) (hc2 : c ≤ 4611686018427387904) (hd : 1 ≤ d) (hd2 : d ≤ 1000000000) :
    Calls Try.prog 57 #[V2 a b, V2 c d] w fun e w' => e = .returned (.bool (decide (a * d < c * b))) ∧ Ext w w' := by
  have HP := Lib.hid (less_plain (a := a) (c := c) hb hd)
  have b0 : ¬ b = 0 := by omega
  have d0 : ¬ d = 0 := by omega
  have i1 := Int.ediv_nonneg ha (show 0 ≤ b by omega)
  have i2 := Int.ediv_le_self b ha
  have i3 := Int.ediv_nonneg hc (show 0 ≤ d by omega)
  have i4 := Int.ediv_le_self d hc
  have i5 := Int.emod_nonneg a b0
  have i6 := Int.emod_nonneg c d0
  have i7 := Int.emod_lt_of_pos a (show 0 < b by omega)
  have i8 := Int.emod_lt_of_pos c (show 0 < d by omega)
  obtain ⟨m1, m2⟩ := mul_bd i5 (show a % b ≤ 1000000000 by omega) (show 0 ≤ d by omega) hd2
  obtain ⟨m3, m4⟩ := mul_bd i6 (show c % d ≤ 1000000000 by omega) (show 0 ≤ b by omega) hb2
  by_cases hq : a / b = c / d
  · have hqb : (a / b != c / d) = false := by simpa using hq
    have HQ := Lib.hid (show (a * d < c * b) ↔ a % b * d < c % d * b from HP.out.trans (by rw [if_neg (by simpa using hq)]))
    clear hq HP
    go_enter Try.func57, Try.ntmps57
    go_wp2_with fail
    try (have hs0 := δ.lt (w.heap.size) (by first | (simp; done) | (simp; omega)))
    try (have hs1 := δ.lt (w.heap.size + 1) (by first | (simp; done) | (simp; omega)))
    refine wp_region_bext (by kernel_rfl) (by kernel_rfl) ?_
    repeat (any_goals (go_big_quiet_step (fail)))
    all_goals refine wpQuiet_nil ?_
    all_goals rintro w' hw'
    all_goals obtain ⟨δ, rfl⟩ : Ext ((w.alloc (.cells #[.int .i64 a, .int .i64 b] 45)).alloc (.cells #[.int .i64 c, .int .i64 d] 45)) w' := Ext.trans (by (repeat' (first | with_reducible exact Ext.refl _ | with_reducible apply Ext.alloc | with_reducible apply Ext.drew | with_reducible apply Ext.drewN | with_reducible refine Ext.setCell ?_ ?_ _ | with_reducible apply Ext.step | with_reducible assumption | with_reducible exact Nat.le_refl _ | (simp; done) | (simp; omega)))) hw'
    all_goals clear hw'
    go_wp2_with fail
    have X1 : Ext ((w.alloc (.cells #[.int .i64 a, .int .i64 b] 45)).alloc (.cells #[.int .i64 c, .int .i64 d] 45)) δ.wd := ⟨δ, rfl⟩
    have c0 := X1.cell_some (b := w.heap.size) (o := 0) (v := .int .i64 a) (by go_cell)
    have c1 := X1.cell_some (b := w.heap.size) (o := 1) (v := .int .i64 b) (by go_cell)
    have c2 := X1.cell_some (b := w.heap.size + 1) (o := 0) (v := .int .i64 c) (by go_cell)
    have c3 := X1.cell_some (b := w.heap.size + 1) (o := 1) (v := .int .i64 d) (by go_cell)
    have HW := Lib.hid (show Ext w δ.wd from Ext.trans (by (repeat' (first | with_reducible exact Ext.refl _ | with_reducible apply Ext.alloc | with_reducible apply Ext.drew | with_reducible apply Ext.drewN | with_reducible refine Ext.setCell ?_ ?_ _ | with_reducible apply Ext.step | with_reducible assumption | with_reducible exact Nat.le_refl _ | (simp; done) | (simp; omega)))) X1)
    generalize δ.wd = W1 at *
    have l0 := cell_lt c0
    have l1 := cell_lt c2
    have M1 := Lib.hid (show wrap64 (a % b * d) = a % b * d from IntWalk.wrap64_in _ (by omega))
    have M2 := Lib.hid (show wrap64 (c % d * b) = c % d * b from IntWalk.wrap64_in _ (by omega))
    clear X1 m1 m3
    refine wp_region_bext (by kernel_rfl) (by kernel_rfl) ?_
    repeat (any_goals (go_big_quiet_step (fail)))
    all_goals refine wpQuiet_nil ?_
    all_goals rintro _ ⟨δ, rfl⟩
    go_wp2_with fail
    go_ret
    exact ⟨ret_b (decide_eq_decide.2 (by rw [M1.out, M2.out]; exact HQ.out.symm)), HW.out.trans (by (repeat' (first | with_reducible exact Ext.refl _ | with_reducible apply Ext.alloc | with_reducible apply Ext.drew | with_reducible apply Ext.drewN | with_reducible refine Ext.setCell ?_ ?_ _ | with_reducible apply Ext.step | with_reducible assumption | with_reducible exact Nat.le_refl _ | (simp; done) | (simp; omega))))⟩
  · have hqb : (a / b != c / d) = true := by simpa using hq
    have HQ := Lib.hid (show (a * d < c * b) ↔ a / b < c / d from HP.out.trans (by rw [if_pos hq]))
    clear hq HP
    go_enter Try.func57, Try.ntmps57
    go_wp2_with fail
    try (have hs0 := δ.lt (w.heap.size) (by first | (simp; done) | (simp; omega)))
    try (have hs1 := δ.lt (w.heap.size + 1) (by first | (simp; done) | (simp; omega)))
    refine wp_region_bext (by kernel_rfl) (by kernel_rfl) ?_
    repeat (any_goals (go_big_quiet_step (fail)))
    all_goals refine wpQuiet_nil ?_
    all_goals rintro w' hw'
    all_goals obtain ⟨δ, rfl⟩ : Ext ((w.alloc (.cells #[.int .i64 a, .int .i64 b] 45)).alloc (.cells #[.int .i64 c, .int .i64 d] 45)) w' := Ext.trans (by (repeat' (first | with_reducible exact Ext.refl _ | with_reducible apply Ext.alloc | with_reducible apply Ext.drew | with_reducible apply Ext.drewN | with_reducible refine Ext.setCell ?_ ?_ _ | with_reducible apply Ext.step | with_reducible assumption | with_reducible exact Nat.le_refl _ | (simp; done) | (simp; omega)))) hw'
    all_goals clear hw'
    go_wp2_with fail
    go_ret
    exact ⟨ret_b (decide_eq_decide.2 HQ.out.symm), by (repeat' (first | with_reducible exact Ext.refl _ | with_reducible apply Ext.alloc | with_reducible apply Ext.drew | with_reducible apply Ext.drewN | with_reducible refine Ext.setCell ?_ ?_ _ | with_reducible apply Ext.step | with_reducible assumption | with_reducible exact Nat.le_refl _ | (simp; done) | (simp; omega)))⟩
end Go.Proofs.Ytgeapenglcohfaa
