/- GrooveGrows: the law's walk. No condition. -/
import Derived.Test.YtgeapenglcohfaaGAlive
namespace Go.Proofs.Ytgeapenglcohfaa
open Go.RowKit

theorem grow_depth (tip num den bite slack press more : Int) : depthE tip num den bite slack press ≠ 0 ∨ ((depthE tip num den bite slack press = 0 ∧ 0 ≤ depthLo tip num den bite slack press ∧ depthLo tip num den bite slack press ≤ depthHi tip num den bite slack press) ∧
    (depthE tip num den bite slack more ≠ 0 ∨ (depthE tip num den bite slack more = 0 ∧ (more < press ∨ (press ≤ more ∧ depthLo tip num den bite slack press ≤ depthLo tip num den bite slack more ∧ depthHi tip num den bite slack press ≤ depthHi tip num den bite slack more))))) := by
  unfold depthE depthLo depthHi highOf
  cases ht : toolB tip num den bite slack
  · left; simp
  obtain ⟨_, _, _, _, ⟨t1, t2⟩, t3, t4⟩ := toolB_iff.1 ht
  cases h1 : inB 0 1000 press
  · left; simp
  obtain ⟨p1, p2⟩ := inB_iff.1 h1
  right
  have e1 : 0 ≤ press * bite / 100 := Int.ediv_nonneg (Int.mul_nonneg p1 (by omega)) (by decide)
  refine ⟨⟨rfl, ?_, ?_⟩, ?_⟩
  · simp only [Bool.and_self, if_true]; omega
  · simp only [Bool.and_self, if_true]; omega
  cases h2 : inB 0 1000 more
  · left; simp
  right
  refine ⟨rfl, ?_⟩
  rcases Int.lt_or_le more press with h | h
  · exact .inl h
  · right
    have e2 : press * bite / 100 ≤ more * bite / 100 := Int.ediv_le_ediv (by decide) (Int.mul_le_mul_of_nonneg_right h (by omega))
    refine ⟨h, ?_, ?_⟩
    · simp only [Bool.and_self, if_true]; omega
    · simp only [Bool.and_self, if_true]; omega
theorem grow_half (tip num den bite slack depth deeper : Int) : halfE tip num den bite slack depth ≠ 0 ∨ (halfE tip num den bite slack depth = 0 ∧
    (halfE tip num den bite slack deeper ≠ 0 ∨ (halfE tip num den bite slack deeper = 0 ∧ (deeper < depth ∨ (depth ≤ deeper ∧ halfN tip num den bite slack depth ≤ halfN tip num den bite slack deeper ∧ tip ≤ halfN tip num den bite slack depth))))) := by
  unfold halfE halfN halfOf
  cases ht : toolB tip num den bite slack
  · left; simp
  obtain ⟨_, ⟨n1, n2⟩, ⟨d1, d2⟩, _⟩ := toolB_iff.1 ht
  cases h1 : inB 0 20000 depth
  · left; simp
  obtain ⟨p1, p2⟩ := inB_iff.1 h1
  right
  refine ⟨rfl, ?_⟩
  cases h2 : inB 0 20000 deeper
  · left; simp
  right
  refine ⟨rfl, ?_⟩
  rcases Int.lt_or_le deeper depth with h | h
  · exact .inl h
  · right
    have e0 : 0 ≤ depth * num := Int.mul_nonneg p1 (by omega)
    have e1 : 0 ≤ (depth * num + den - 1) / den := Int.ediv_nonneg (by omega) (by omega)
    have e2 : (depth * num + den - 1) / den ≤ (deeper * num + den - 1) / den := Int.ediv_le_ediv (by omega) (by have := Int.mul_le_mul_of_nonneg_right h (show 0 ≤ num by omega); omega)
    refine ⟨h, ?_, ?_⟩
    · simp only [Bool.and_self, if_true]; omega
    · simp only [Bool.and_self, if_true]; omega

set_option maxRecDepth 100000 in
set_option maxHeartbeats 8000000 in
theorem lawGrows_any (tip num den bite slack press more depth deeper : Int) (w : World) :
    Calls Try.prog 9 #[toolV tip num den bite slack, .int .i64 press, .int .i64 more, .int .i64 depth, .int .i64 deeper] w fun e w' => e = .returned (.bool true) ∧ Ext w w' := by
  have HAL := Lib.hid fun W : World => alive_any W
  have HD1 := Lib.hid fun W : World => depth_any tip num den bite slack press W
  have HD2 := Lib.hid fun W : World => depth_any tip num den bite slack more W
  have HH1 := Lib.hid fun W : World => half_any tip num den bite slack depth W
  have HH2 := Lib.hid fun W : World => half_any tip num den bite slack deeper W
  have hd := grow_depth tip num den bite slack press more
  have hh := grow_half tip num den bite slack depth deeper
  simp only [depthV, halfV] at HD1 HD2 HH1 HH2
  generalize depthE tip num den bite slack press = e at *
  generalize depthE tip num den bite slack more = f at *
  generalize depthLo tip num den bite slack press = a at *
  generalize depthLo tip num den bite slack more = c at *
  generalize depthHi tip num den bite slack press = b at *
  generalize depthHi tip num den bite slack more = d at *
  generalize halfE tip num den bite slack depth = g at *
  generalize halfE tip num den bite slack deeper = h at *
  generalize halfN tip num den bite slack depth = n at *
  generalize halfN tip num den bite slack deeper = m at *
  rcases hd with he | ⟨⟨rfl, ha, hab⟩, hf | ⟨rfl, hpm | ⟨hpm, hac, hbd⟩⟩⟩
  case' inl => have q1 : (e == (0 : Int)) = false := by simpa using he
  case' inr.inl => have q1 : (f == (0 : Int)) = false := by simpa using hf
  all_goals rcases hh with hg | ⟨rfl, hk | ⟨rfl, hde | ⟨hde, hnm, htn⟩⟩⟩
  all_goals
    try have r1 : (g != (0 : Int)) = true := by simpa using hg
    try have r2 : (h != (0 : Int)) = true := by simpa using hk
    try have d1 : decide (a < 0) = false := decide_eq_false (by omega)
    try have d2 : decide (b < a) = false := decide_eq_false (by omega)
    try have d3 : decide (press ≤ more) = true := decide_eq_true (by omega)
    try have d4 : decide (press ≤ more) = false := decide_eq_false (by omega)
    try have d5 : decide (c < a) = false := decide_eq_false (by omega)
    try have d6 : decide (d < b) = false := decide_eq_false (by omega)
    try have d7 : decide (deeper < depth) = true := decide_eq_true (by omega)
    try have d8 : decide (deeper < depth) = false := decide_eq_false (by omega)
    try have d9 : decide (n ≤ m) = true := decide_eq_true (by omega)
    try have d10 : decide (tip ≤ n) = true := decide_eq_true (by omega)
    try have q3 : (f == (0 : Int)) = false := by simpa using hf
    go_enter Try.func9, Try.ntmps9
    go_wp2_with fail
    refine (HAL.out _).mono ?_
    rintro e0 W1 ⟨rfl, x1⟩
    have X1 := Lib.hid (show Ext w W1 from Ext.trans (by (repeat' (first | with_reducible exact Ext.refl _ | with_reducible apply Ext.alloc | with_reducible apply Ext.drew | with_reducible apply Ext.drewN | with_reducible refine Ext.setCell ?_ ?_ _ | with_reducible apply Ext.step | with_reducible assumption | with_reducible exact Nat.le_refl _ | (simp; done) | (simp; omega)))) x1)
    have b0 : W1.cell? ⟨w.heap.size, 0, none⟩ = some (.int .i64 tip) := x1.cell_some (by go_cell)
    have b1 : W1.cell? ⟨w.heap.size, 1, none⟩ = some (.int .i64 num) := x1.cell_some (by go_cell)
    have b2 : W1.cell? ⟨w.heap.size, 2, none⟩ = some (.int .i64 den) := x1.cell_some (by go_cell)
    have b3 : W1.cell? ⟨w.heap.size, 3, none⟩ = some (.int .i64 bite) := x1.cell_some (by go_cell)
    have b4 : W1.cell? ⟨w.heap.size, 4, none⟩ = some (.int .i64 slack) := x1.cell_some (by go_cell)
    have lb := cell_lt b0
    clear x1
    go_wp2_with fail
    refine (HD1.out _).mono ?_
    rintro e1 W2 ⟨rfl, x2⟩
    replace b0 := x2.cell_some b0
    replace b1 := x2.cell_some b1
    replace b2 := x2.cell_some b2
    replace b3 := x2.cell_some b3
    replace b4 := x2.cell_some b4
    have X2 := Lib.hid (X1.out.trans x2)
    clear x2
    go_wp2_with fail
    refine (HD2.out _).mono ?_
    rintro e2 W3 ⟨rfl, x3⟩
    replace b0 := x3.cell_some b0
    replace b1 := x3.cell_some b1
    replace b2 := x3.cell_some b2
    replace b3 := x3.cell_some b3
    replace b4 := x3.cell_some b4
    have X3 := Lib.hid (X2.out.trans x3)
    clear x3
    go_wp2_with fail
    refine (HH1.out _).mono ?_
    rintro e3 W4 ⟨rfl, x4⟩
    replace b0 := x4.cell_some b0
    replace b1 := x4.cell_some b1
    replace b2 := x4.cell_some b2
    replace b3 := x4.cell_some b3
    replace b4 := x4.cell_some b4
    have X4 := Lib.hid (X3.out.trans x4)
    clear x4
    go_wp2_with fail
    refine (HH2.out _).mono ?_
    rintro e4 W5 ⟨rfl, x5⟩
    replace b0 := x5.cell_some b0
    have X5 := Lib.hid (X4.out.trans x5)
    clear x5 b1 b2 b3 b4
    go_wp2_with fail
    go_ret
    exact ⟨rfl, X5.out⟩
end Go.Proofs.Ytgeapenglcohfaa
