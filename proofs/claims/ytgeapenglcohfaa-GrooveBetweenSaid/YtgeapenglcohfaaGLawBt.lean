/- GrooveBetween: the law's walk. Condition: the slices read as lists. -/
import Derived.Test.YtgeapenglcohfaaGBetP
import Derived.Test.YtgeapenglcohfaaGAlive
import Derived.Test.YtgeapenglcohfaaGAppD
import Derived.Test.YtgeapenglcohfaaGRWal
namespace Go.Proofs.Ytgeapenglcohfaa
open Go.RowKit

set_option maxRecDepth 100000 in
set_option maxHeartbeats 4000000 in
theorem lawBetween_any (v : Value) (xs : List (Int × Int)) (u : Value) (ys : List (Int × Int)) (at' : Int) (w : World) (hx : spotK.Is w v xs) (hy : spotK.Is w u ys) :
    Calls Try.prog 11 #[v, u, .int .i64 at'] w fun e w' => e = .returned (.bool true) ∧ Ext w w' := by
  have HAL := Lib.hid fun W : World => alive_any W
  have HX := Lib.hid hx
  have HY := Lib.hid hy
  have HD := Lib.hid fun (W : World) (x : Ext w W) => distance_any v u xs ys W (hx.ext x) (hy.ext x)
  obtain ⟨A, n, c, rfl, hn, _, hr, hm⟩ := hx.open_
  have hcap : n ≤ c := by obtain ⟨_, _, he, _, hc, _⟩ := hx; cases he; rw [← hn]; exact hc.1
  obtain ⟨A', n', c', rfl, hn', _, hr', hm'⟩ := hy.open_
  have HN := Lib.hid hn
  have HR := Lib.hid hr
  clear hx hy hr hr' hn hn'
  by_cases hbad : 11 < n ∨ 20 < n' ∨ at' < 1 ∨ (n : Int) ≤ at'
  · have hp : (11 < n) ∨ (¬ 11 < n ∧ 20 < n') ∨ (¬ 11 < n ∧ ¬ 20 < n' ∧ at' < 1) ∨ (¬ 11 < n ∧ ¬ 20 < n' ∧ ¬ at' < 1 ∧ (n : Int) ≤ at') := by omega
    clear hbad
    rcases hp with h1 | ⟨h1, h2⟩ | ⟨h1, h2, h3⟩ | ⟨h1, h2, h3, h4⟩
    case' inl => have d1 : decide ((11 : Int) < (n : Int)) = true := by simp; omega
    case' inr.inl => have d1 : decide ((11 : Int) < (n : Int)) = false := by simp; omega
    case' inr.inl => have d2 : decide ((20 : Int) < (n' : Int)) = true := by simp; omega
    case' inr.inr.inl => have d1 : decide ((11 : Int) < (n : Int)) = false := by simp; omega
    case' inr.inr.inl => have d2 : decide ((20 : Int) < (n' : Int)) = false := by simp; omega
    case' inr.inr.inl => have d3 : decide (at' < 1) = true := decide_eq_true h3
    case' inr.inr.inr => have d1 : decide ((11 : Int) < (n : Int)) = false := by simp; omega
    case' inr.inr.inr => have d2 : decide ((20 : Int) < (n' : Int)) = false := by simp; omega
    case' inr.inr.inr => have d3 : decide (at' < 1) = false := decide_eq_false h3
    case' inr.inr.inr => have d4 : decide ((n : Int) ≤ at') = true := decide_eq_true h4
    all_goals
      (try clear h1)
      (try clear h2)
      (try clear h3)
      (try clear h4)
      go_enter Try.func11, Try.ntmps11
      go_wp2_with fail
      refine (HAL.out _).mono ?_
      rintro e1 W1 ⟨rfl, x1⟩
      have X1 := Lib.hid (show Ext w W1 from Ext.trans (by (repeat' (first | with_reducible exact Ext.refl _ | with_reducible apply Ext.alloc | with_reducible apply Ext.drew | with_reducible apply Ext.drewN | with_reducible refine Ext.setCell ?_ ?_ _ | with_reducible apply Ext.step | with_reducible assumption | with_reducible exact Nat.le_refl _ | (simp; done) | (simp; omega)))) x1)
      clear x1
      go_wp2_with fail
      go_ret
      exact ⟨rfl, X1.out⟩
  have d1 : decide ((11 : Int) < (n : Int)) = false := by simp; omega
  have d2 : decide ((20 : Int) < (n' : Int)) = false := by simp; omega
  obtain ⟨j, rfl⟩ : ∃ j : Nat, at' = (j : Int) + 1 := ⟨(at' - 1).toNat, by omega⟩
  have d3 : decide ((j : Int) + 1 < 1) = false := decide_eq_false (by omega)
  have d4 : decide ((n : Int) ≤ (j : Int) + 1) = false := decide_eq_false (by omega)
  by_cases he : distE xs ys = 0
  case neg =>
    have hed : (distE xs ys != (0 : Int)) = true := by simpa using he
    generalize distE xs ys = e at *
    generalize distP xs ys = D at *
    obtain ⟨dn, dd⟩ := D
    clear he hbad
    go_enter Try.func11, Try.ntmps11
    go_wp2_with fail
    refine (HAL.out _).mono ?_
    rintro e1 W1 ⟨rfl, x1⟩
    have X1 := Lib.hid (show Ext w W1 from Ext.trans (by (repeat' (first | with_reducible exact Ext.refl _ | with_reducible apply Ext.alloc | with_reducible apply Ext.drew | with_reducible apply Ext.drewN | with_reducible refine Ext.setCell ?_ ?_ _ | with_reducible apply Ext.step | with_reducible assumption | with_reducible exact Nat.le_refl _ | (simp; done) | (simp; omega)))) x1)
    clear x1
    go_wp2_with fail
    refine (HD.out _ X1.out).mono ?_
    rintro e2 W2 ⟨rfl, x2⟩
    have X2 := Lib.hid (X1.out.trans x2)
    clear x2
    go_wp2_with fail
    go_ret
    exact ⟨rfl, (X2.out.alloc _)⟩
  obtain ⟨hlx, hly⟩ := distE_iff.1 he
  have hj0 : j < xs.length := by rw [HN.out]; omega
  have hj1 : j + 1 < xs.length := by rw [HN.out]; omega
  obtain ⟨b, o, rfl, hb, c0, c1⟩ := spotK_at HR.out hj0
  obtain ⟨b', o', hbo, hb', c2, c3⟩ := spotK_at HR.out hj1
  cases hbo
  obtain ⟨bd1, -⟩ := (lineB_iff.1 hlx).1 _ (List.getElem_mem hj0)
  obtain ⟨-, bd2⟩ := (lineB_iff.1 hlx).1 _ (List.getElem_mem hj0)
  obtain ⟨bd3, -⟩ := (lineB_iff.1 hlx).1 _ (List.getElem_mem hj1)
  obtain ⟨-, bd4⟩ := (lineB_iff.1 hlx).1 _ (List.getElem_mem hj1)
  rw [he] at HD
  obtain ⟨D, hD⟩ : ∃ D, D = distP xs ys := ⟨_, rfl⟩
  rw [← hD] at HD
  obtain ⟨dn, dd⟩ := D
  obtain ⟨x0, hx0⟩ : ∃ x, x = xs[j].1 := ⟨_, rfl⟩
  obtain ⟨y0, hy0⟩ : ∃ x, x = xs[j].2 := ⟨_, rfl⟩
  obtain ⟨x1, hx1⟩ : ∃ x, x = xs[j + 1].1 := ⟨_, rfl⟩
  obtain ⟨y1, hy1⟩ : ∃ x, x = xs[j + 1].2 := ⟨_, rfl⟩
  rw [← hx0] at c0 bd1
  rw [← hy0] at c1 bd2
  rw [← hx1] at c2 bd3
  rw [← hy1] at c3 bd4
  have HM := Lib.hid (show ∀ m : Int × Int, 2 * m.1 = x0 + x1 → 2 * m.2 = y0 + y1 → distE (insMid xs (j + 1) m) ys = 0 ∧ distP (insMid xs (j + 1) m) ys = (dn, dd) from fun m h1 h2 => by
    rw [hD]
    exact dist_mid he (by rw [HN.out]; omega) (by omega) hj1 (by rw [h1, hx0, hx1]; rfl) (by rw [h2, hy0, hy1]; rfl))
  have hw1 : IntKind.i64.wrap (x0 + x1) = x0 + x1 := by apply IntWalk.i64_in <;> omega
  have hw2 : IntKind.i64.wrap (y0 + y1) = y0 + y1 := by apply IntWalk.i64_in <;> omega
  have hn11 : n ≤ 11 := by omega
  have hj63 : (0 : Int) ≤ (j : Int) + 1 := by omega
  have hjn : (j : Int) + 1 < (n : Int) := by omega
  have hw3 : IntKind.i64.wrap (j : Int) = (j : Int) := by apply IntWalk.i64_in <;> omega
  have hjn0 : (j : Int) < (n : Int) := by omega
  clear hx0 hy0 hx1 hy1 hD hlx hly he hb' hbad hj0 hj1
  go_enter Try.func11, Try.ntmps11
  go_wp2_with fail
  refine (HAL.out _).mono ?_
  rintro e1 W1 ⟨rfl, x1⟩
  have X1 := Lib.hid (show Ext w W1 from Ext.trans (by (repeat' (first | with_reducible exact Ext.refl _ | with_reducible apply Ext.alloc | with_reducible apply Ext.drew | with_reducible apply Ext.drewN | with_reducible refine Ext.setCell ?_ ?_ _ | with_reducible apply Ext.step | with_reducible assumption | with_reducible exact Nat.le_refl _ | (simp; done) | (simp; omega)))) x1)
  clear x1
  go_wp2_with fail
  refine (HD.out _ X1.out).mono ?_
  rintro e2 W2 ⟨rfl, x2⟩
  have X2 := Lib.hid (X1.out.trans x2)
  clear x2
  go_wp2_with fail
  refine lay_wp (fun W => Ext w W ∧ W.cell? ⟨W2.heap.size, 0, none⟩ = some (.int .i64 dn) ∧ W.cell? ⟨W2.heap.size, 1, none⟩ = some (.int .i64 dd)) ⟨X2.out.alloc _, by go_cell, by go_cell⟩ ?_
  rintro W3 ⟨x3, g0, g1⟩
  have X3 := Lib.hid x3
  replace c0 := x3.cell_some c0
  replace c1 := x3.cell_some c1
  replace c2 := x3.cell_some c2
  replace c3 := x3.cell_some c3
  have lg := cell_lt g0
  have lc := cell_lt c0
  clear x3 hb
  refine wp_region_mk ([⟨9, 11, 10, 56, #[.int .i64 0, .int .i64 0], 52⟩, ⟨10, 12, 11, 56, #[.int .i64 0, .int .i64 0], 56⟩]) (by kernel_rfl) (by kernel_rfl) ?_ ?_
  · intro m hm o ho ρ W
    simp only [List.mem_cons, List.not_mem_nil, or_false] at hm
    rcases hm with rfl | rfl <;> (cases ho; go_simp)
  repeat (any_goals (first | (refine wpX_skip (by rfl) ?_) | (refine wpX_pass (by rfl) (by rfl) ?_) | (refine wpX_stepK (by rfl) (by rfl) (fun K hK => ?_); go_simp; first | (refine hK _ ?_; clear hK K) | (apply Exists.intro; refine ⟨fun δ => ?_, hK _ ?_⟩; (focus fail); clear hK K))))
  all_goals refine wpX_nil ⟨?_, ?_⟩
  any_goals (intro m hm; simp only [List.mem_cons, List.not_mem_nil, or_false] at hm; rcases hm with rfl | rfl <;> exact ⟨by kernel_rfl, rfl, by simp [Value.cells, Value.oneCell']⟩)
  all_goals refine mk_two (by decide) ?_
  rintro b7 b8 δ hb7 hb8 hne m7 m8
  have p0 : δ.wd.cell? ⟨b7, 0, none⟩ = some (.int .i64 x0) := (m7.cell 0).trans (by simp [Value.cells])
  have p1 : δ.wd.cell? ⟨b7, 1, none⟩ = some (.int .i64 y0) := (m7.cell 1).trans (by simp [Value.cells])
  have q0 : δ.wd.cell? ⟨b8, 0, none⟩ = some (.int .i64 x1) := (m8.cell 0).trans (by simp [Value.cells])
  have q1 : δ.wd.cell? ⟨b8, 1, none⟩ = some (.int .i64 y1) := (m8.cell 1).trans (by simp [Value.cells])
  replace g0 := Ext.cell_some ⟨δ, rfl⟩ g0
  replace g1 := Ext.cell_some ⟨δ, rfl⟩ g1
  have X4 := Lib.hid (X3.out.trans (ext_of δ))
  have l7 := cell_lt p0
  have l8 := cell_lt q0
  replace lg := cell_lt g0
  clear c0 c1 c2 c3 m7 m8 hb7 hb8 hne lc
  generalize δ.wd = W4 at *
  go_frame
  by_cases e1 : (x0 + x1).tmod 2 = 0
  case neg =>
    have f1 : ((x0 + x1).tmod 2 != 0) = true := by simpa using e1
    clear e1
    go_wp2_with fail
    go_ret
    exact ⟨rfl, X4.out⟩
  by_cases e2 : (y0 + y1).tmod 2 = 0
  case neg =>
    have f2 : ((y0 + y1).tmod 2 != 0) = true := by simpa using e2
    clear e2
    go_wp2_with fail
    go_ret
    exact ⟨rfl, X4.out⟩
  go_wp2_with fail
  have hjc : (j : Int) + 1 ≤ (c : Int) := by omega
  have hcj : ¬ c = j + 1 := by omega
  obtain ⟨mx, hmx⟩ : ∃ m, IntKind.i64.wrap ((x0 + x1).tdiv 2) = m := ⟨_, rfl⟩
  obtain ⟨my, hmy⟩ : ∃ m, IntKind.i64.wrap ((y0 + y1).tdiv 2) = m := ⟨_, rfl⟩
  have hM := Lib.hid (show distE (insMid xs (j + 1) (mx, my)) ys = 0 ∧ distP (insMid xs (j + 1) (mx, my)) ys = (dn, dd) from by
    have t1 := Int.mul_tdiv_add_tmod (x0 + x1) 2
    have t2 := Int.mul_tdiv_add_tmod (y0 + y1) 2
    rw [e1] at t1
    rw [e2] at t2
    refine HM.out _ ?_ ?_
    · have : IntKind.i64.wrap ((x0 + x1).tdiv 2) = (x0 + x1).tdiv 2 := by apply IntWalk.i64_in <;> omega
      simp only
      rw [← hmx, this]
      omega
    · have : IntKind.i64.wrap ((y0 + y1).tdiv 2) = (y0 + y1).tdiv 2 := by apply IntWalk.i64_in <;> omega
      simp only
      rw [← hmy, this]
      omega)
  clear HM
  have hjt : ((j : Int) + 1).toNat = j + 1 := by omega
  have hjn' : (j : Int) + 1 ≤ (n : Int) := by omega
  have hn1 := HN.out
  refine (wpIn_wide (n := 3)).1 ?_
  refine wpIn_region_tree (B := W4.heap.size) 24 [1, 2, 3, 5, 6, 7, 8, 9, 10, 11, 12, 13, 14, 15, 16, 17, 20, 21, 22] (Nat.le_refl _) (by kernel_rfl) (by kernel_rfl) ?_
  repeat (refine wpQ_step (by rfl) (fun _ _ _ => trivial) (fun K hK => ?_); go_simp; refine hK _ ?_; clear hK K)
  refine wpQ_nil ?_
  refine wpAnyT_net [⟨0, some 74, [], []⟩, ⟨4, some 78, [0], [0]⟩, ⟨18, some 92, [], []⟩, ⟨19, some 93, [4, 18], [4]⟩, ⟨23, some 97, [19], [19]⟩] [] [0, 4, 18, 19, 23]
    (fun i u W => match i with
      | 0 => spotK.Own W4.heap.size W (u 0) []
      | 4 => spotK.Own W4.heap.size W (u 4) (xs.take (j + 1))
      | 18 => spotK.Own W4.heap.size W (u 18) [(mx, my)]
      | 19 => spotK.Own W4.heap.size W (u 19) (xs.take (j + 1) ++ [(mx, my)])
      | 23 => spotK.Own W4.heap.size W (u 23) (insMid xs (j + 1) (mx, my))
      | _ => False) (fun _ => undef) (Nat.le_refl _) (by decide +kernel) ?loc ?ext (.inr ?keep) (fun _ h => by cases h) ?step ?end_
  case loc =>
    intro i hi u u' W e _ h
    simp only [List.map_cons, List.map_nil, List.append_nil, List.mem_cons, List.not_mem_nil, or_false] at hi
    rcases hi with rfl | rfl | rfl | rfl | rfl <;> (simp only at h ⊢; rw [e]; exact h)
  case ext =>
    intro i hi u W W' h x
    simp only [List.map_cons, List.map_nil, List.append_nil, List.mem_cons, List.not_mem_nil, or_false] at hi
    rcases hi with rfl | rfl | rfl | rfl | rfl <;> exact h.ext x
  case keep =>
    intro i hi _ u W W' row h hg hne
    simp only [List.map_cons, List.map_nil, List.append_nil, List.mem_cons, List.not_mem_nil, or_false] at hi
    rcases hi with rfl | rfl | rfl | rfl | rfl <;> exact own_keep h hg (fun b hb => (hne b hb).2 (by simp))
  case step =>
    intro r hr u w1 hb hon
    simp only [List.mem_cons, List.not_mem_nil, or_false] at hr
    have x1 := Ext.of hb
    rcases hr with rfl | rfl | rfl | rfl | rfl
    · refine ⟨_, by rfl, by rfl, fun _ _ => trivial, ?_⟩
      simp only [putL]
      go_simp
      refine ⟨(Below.refl _ _).alloc hb.size _, ?_⟩
      exact step_ext (EK.Own.lit (K := spotK) (B := W4.heap.size) w1 #[] [] rfl hb.size (Nat.zero_le _)) ((Ext.refl _).alloc _) (own_fresh (EK.Own.lit (K := spotK) (B := w1.heap.size) w1 #[] [] rfl (Nat.le_refl _) (Nat.zero_le _)))
    · refine ⟨_, by rfl, by rfl, fun _ _ => trivial, ?_⟩
      have o0 : spotK.Own W4.heap.size w1 (u 0) [] := hon 0 (by simp)
      simp only [putL]
      refine EK.appAll_D (K := spotK) (B' := W4.heap.size) (.tmp 74) (.tmp 77) (by rfl) (v := u 0) (by rfl) (by rfl) (is_take (HX.out.ext (X4.out.trans x1)) (by omega)) o0 (Nat.le_refl _) hb.size (by rw [List.length_take]; simp only [List.length_nil]; omega) ?_
      intro v' w2 h1 h2 h3 h4
      exact step_app 0 (by simp) (by simp) o0 h1 h2 h4 h1
    · refine ⟨_, by rfl, by rfl, fun _ _ => trivial, ?_⟩
      simp only [putL]
      go_simp
      refine ⟨(Below.refl _ _).alloc hb.size _, ?_⟩
      exact step_ext (EK.Own.lit (K := spotK) (B := W4.heap.size) w1 #[.int .i64 mx, .int .i64 my] [(mx, my)] rfl hb.size (by simp [maxLen])) ((Ext.refl _).alloc _) (own_fresh (EK.Own.lit (K := spotK) (B := w1.heap.size) w1 #[.int .i64 mx, .int .i64 my] [(mx, my)] rfl (Nat.le_refl _) (by simp [maxLen])))
    · refine ⟨_, by rfl, by rfl, fun _ _ => trivial, ?_⟩
      have o4 : spotK.Own W4.heap.size w1 (u 4) (xs.take (j + 1)) := hon 4 (by simp)
      have o18 : spotK.Own W4.heap.size w1 (u 18) [(mx, my)] := hon 18 (by simp)
      simp only [putL]
      refine EK.appAll_D (K := spotK) (B' := W4.heap.size) (.tmp 78) (.tmp 92) (by rfl) (v := u 4) (by rfl) (by rfl) o18.is o4 (Nat.le_refl _) hb.size (by rw [List.length_take]; simp only [List.length_cons, List.length_nil]; omega) ?_
      intro v' w2 h1 h2 h3 h4
      exact step_app 4 (by simp) (by simp) o4 h1 h2 h4 h1
    · refine ⟨_, by rfl, by rfl, fun _ _ => trivial, ?_⟩
      have o19 : spotK.Own W4.heap.size w1 (u 19) (xs.take (j + 1) ++ [(mx, my)]) := hon 19 (by simp)
      simp only [putL]
      refine EK.appAll_D (K := spotK) (B' := W4.heap.size) (.tmp 93) (.tmp 96) (by rfl) (v := u 19) (by rfl) (by rfl) (is_drop (HX.out.ext (X4.out.trans x1)) (by omega)) o19 (Nat.le_refl _) hb.size (by rw [List.length_append, List.length_take, List.length_drop]; simp only [List.length_cons, List.length_nil]; omega) ?_
      intro v' w2 h1 h2 h3 h4
      rw [List.append_assoc] at h1
      exact step_app 19 (by simp) (by simp) o19 h1 h2 h4 h1
  case end_ =>
    intro u w9 hb hf
    refine ⟨by decide +kernel, fun w10 x10 => ?_⟩
    have o23 : spotK.Own W4.heap.size w9 (u 23) (insMid xs (j + 1) (mx, my)) := hf 23 (by simp) (by decide)
    have x9 := (Ext.of hb).trans x10
    replace o23 := o23.ext x10
    have X5 := Lib.hid (X4.out.trans x9)
    have HD5 := Lib.hid (distance_any (u 23) (.slice A' n' c') _ ys w10 o23.is (HY.out.ext X5.out))
    rw [hM.out.1, hM.out.2] at HD5
    obtain ⟨A9, n9, c9, h9⟩ := own_shapeW o23
    replace g0 := x9.cell_some g0
    replace g1 := x9.cell_some g1
    rw [h9] at HD5
    simp only [putL, h9]
    clear o23 hb hf p0 p1 q0 q1
    simp only [List.drop_succ_cons, List.drop_zero]
    gi_wp2
    go_wp2_with fail
    refine HD5.out.mono ?_
    rintro e6 W6 ⟨rfl, x6⟩
    have X6 := Lib.hid (X5.out.trans x6)
    replace g0 := x6.cell_some g0
    replace g1 := x6.cell_some g1
    have lg6 := cell_lt g0
    clear x6
    go_wp2_with fail
    go_ret
    exact ⟨rfl, X6.out.alloc _⟩
end Go.Proofs.Ytgeapenglcohfaa
