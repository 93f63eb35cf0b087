/- GrooveMoved: the law's walk. Condition: the slices read as lists. -/
import Derived.Test.YtgeapenglcohfaaGMovP
import Derived.Test.YtgeapenglcohfaaGAlive
import Derived.Test.YtgeapenglcohfaaGAppD
namespace Go.Proofs.Ytgeapenglcohfaa
open Go.RowKit

set_option maxRecDepth 100000 in
set_option maxHeartbeats 20000000 in
theorem lawMoved_any (v : Value) (xs : List (Int × Int)) (u : Value) (ys : List (Int × Int)) (mi : Bool) (qu : Int) (bx by' : Int) (w : World) (hx : spotK.Is w v xs) (hy : spotK.Is w u ys) (hqu : 0 ≤ qu ∧ qu ≤ 255) :
    Calls Try.prog 10 #[v, u, .bool mi, .int .u8 qu, .agg #[.int .i64 bx, .int .i64 by']] w fun e w' => e = .returned (.bool true) ∧ Ext w w' := by
  have HAL := Lib.hid fun W : World => alive_any W
  have HX := Lib.hid hx
  have HY := Lib.hid hy
  have HXS := Lib.hid hx
  have HD := Lib.hid fun (W : World) (x : Ext w W) => distance_any v u xs ys W (hx.ext x) (hy.ext x)
  obtain ⟨A, n, c, rfl, hn, _, hr, hm⟩ := hx.open_
  obtain ⟨A', n', c', rfl, hn', _, hr', hm'⟩ := hy.open_
  have HN := Lib.hid hn
  have HN' := Lib.hid hn'
  have HR := Lib.hid hr
  clear hx hy hr hr' hn hn'
  by_cases h1 : 20 < n
  · have h1d : decide ((20 : Int) < (n : Int)) = true := by simp; omega
    clear h1
    go_enter Try.func10, Try.ntmps10
    go_wp2_with fail
    refine (HAL.out _).mono ?_
    rintro e _ ⟨rfl, hx⟩
    obtain ⟨δ, rfl⟩ : Ext ((w.alloc (.cells #[.int .i64 bx, .int .i64 by'] 56))) _ := Ext.trans (by (repeat' (first | with_reducible exact Ext.refl _ | with_reducible apply Ext.alloc | with_reducible apply Ext.drew | with_reducible apply Ext.drewN | with_reducible refine Ext.setCell ?_ ?_ _ | with_reducible apply Ext.step | with_reducible assumption | with_reducible exact Nat.le_refl _ | (simp; done) | (simp; omega)))) hx
    clear hx
    try (have hs0 := δ.lt (w.heap.size) (by first | (simp; done) | (simp; omega)))
    go_wp2_with fail
    go_ret
    exact ⟨rfl, by (repeat' (first | with_reducible exact Ext.refl _ | with_reducible apply Ext.alloc | with_reducible apply Ext.drew | with_reducible apply Ext.drewN | with_reducible refine Ext.setCell ?_ ?_ _ | with_reducible apply Ext.step | with_reducible assumption | with_reducible exact Nat.le_refl _ | (simp; done) | (simp; omega)))⟩
  have h1d : decide ((20 : Int) < (n : Int)) = false := by simp; omega
  by_cases h2 : 20 < n'
  · have h2d : decide ((20 : Int) < (n' : Int)) = true := by simp; omega
    clear h1 h2
    go_enter Try.func10, Try.ntmps10
    go_wp2_with fail
    refine (HAL.out _).mono ?_
    rintro e _ ⟨rfl, hx⟩
    obtain ⟨δ, rfl⟩ : Ext ((w.alloc (.cells #[.int .i64 bx, .int .i64 by'] 56))) _ := Ext.trans (by (repeat' (first | with_reducible exact Ext.refl _ | with_reducible apply Ext.alloc | with_reducible apply Ext.drew | with_reducible apply Ext.drewN | with_reducible refine Ext.setCell ?_ ?_ _ | with_reducible apply Ext.step | with_reducible assumption | with_reducible exact Nat.le_refl _ | (simp; done) | (simp; omega)))) hx
    clear hx
    try (have hs0 := δ.lt (w.heap.size) (by first | (simp; done) | (simp; omega)))
    go_wp2_with fail
    go_ret
    exact ⟨rfl, by (repeat' (first | with_reducible exact Ext.refl _ | with_reducible apply Ext.alloc | with_reducible apply Ext.drew | with_reducible apply Ext.drewN | with_reducible refine Ext.setCell ?_ ?_ _ | with_reducible apply Ext.step | with_reducible assumption | with_reducible exact Nat.le_refl _ | (simp; done) | (simp; omega)))⟩
  have h2d : decide ((20 : Int) < (n' : Int)) = false := by simp; omega
  by_cases he : distE xs ys = 0
  case neg =>
    have HZ := Lib.hid (dist_bad he)
    have hed : (distE xs ys != (0 : Int)) = true := by simpa using he
    rw [HZ.out] at HD
    generalize distE xs ys = e at *
    clear h1 h2 he
    go_enter Try.func10, Try.ntmps10
    go_wp2_with fail
    refine (HAL.out _).mono ?_
    rintro e1 W1 ⟨rfl, x1⟩
    have X1 := Lib.hid (show Ext w W1 from Ext.trans (by (repeat' (first | with_reducible exact Ext.refl _ | with_reducible apply Ext.alloc | with_reducible apply Ext.drew | with_reducible apply Ext.drewN | with_reducible refine Ext.setCell ?_ ?_ _ | with_reducible apply Ext.step | with_reducible assumption | with_reducible exact Nat.le_refl _ | (simp; done) | (simp; omega)))) x1)
    clear x1
    go_wp2_with fail
    refine (HD.out _ X1.out).mono ?_
    rintro e2 W2 ⟨rfl, x2⟩
    have X2 := Lib.hid (X1.out.trans x2)
    clear x2
    go_wp2_with fail
    go_ret
    exact ⟨rfl, X2.out.alloc _⟩
  obtain ⟨hlx, hly⟩ := distE_iff.1 he
  have HLX := Lib.hid hlx
  have HLY := Lib.hid hly
  have hpos := dist_pos he
  have HBK := Lib.hid (dist_back xs ys)
  rw [he] at HD HBK
  obtain ⟨D, hD⟩ : ∃ D, D = distP xs ys := ⟨_, rfl⟩
  rw [← hD] at HD HBK hpos
  have HDD := Lib.hid hD
  obtain ⟨dn, dd⟩ := D
  simp only at hpos HD
  have hp1 : decide (0 < dd) = true := decide_eq_true hpos.1
  have hp2 : decide (0 ≤ dn) = true := decide_eq_true hpos.2
  have hn20 : n ≤ 20 := by omega
  have hn20' : n' ≤ 20 := by omega
  have HSX := Lib.hid (show ∀ s ∈ xs, Smol s from fun s hs => by
    obtain ⟨b1, b2⟩ := (lineB_iff.1 hlx).1 s hs
    unfold Smol; omega)
  have HSY := Lib.hid (show ∀ s ∈ ys, Smol s from fun s hs => by
    obtain ⟨b1, b2⟩ := (lineB_iff.1 hly).1 s hs
    unfold Smol; omega)
  clear hlx hly hD hpos he h1 h2
  go_enter Try.func10, Try.ntmps10
  go_wp2_with fail
  refine (HAL.out _).mono ?_
  rintro e1 W1 ⟨rfl, x1⟩
  have X1 := Lib.hid (show Ext w W1 from Ext.trans (by (repeat' (first | with_reducible exact Ext.refl _ | with_reducible apply Ext.alloc | with_reducible apply Ext.drew | with_reducible apply Ext.drewN | with_reducible refine Ext.setCell ?_ ?_ _ | with_reducible apply Ext.step | with_reducible assumption | with_reducible exact Nat.le_refl _ | (simp; done) | (simp; omega)))) x1)
  have b0 : W1.cell? ⟨w.heap.size, 0, none⟩ = some (.int .i64 bx) := x1.cell_some (by go_cell)
  have b1 : W1.cell? ⟨w.heap.size, 1, none⟩ = some (.int .i64 by') := x1.cell_some (by go_cell)
  clear x1
  go_wp2_with fail
  refine (HD.out _ X1.out).mono ?_
  rintro e2 W2 ⟨rfl, x2⟩
  have X2 := Lib.hid (X1.out.trans x2)
  replace b0 := x2.cell_some b0
  replace b1 := x2.cell_some b1
  clear x2
  go_wp2_with fail
  refine lay_wp (fun W => Ext w W ∧ (W.cell? ⟨w.heap.size, 0, none⟩ = some (.int .i64 bx) ∧ W.cell? ⟨w.heap.size, 1, none⟩ = some (.int .i64 by')) ∧ W.cell? ⟨W2.heap.size, 0, none⟩ = some (.int .i64 dn) ∧ W.cell? ⟨W2.heap.size, 1, none⟩ = some (.int .i64 dd)) ⟨X2.out.alloc _, ⟨((Ext.refl _).alloc _).cell_some b0, ((Ext.refl _).alloc _).cell_some b1⟩, by go_cell, by go_cell⟩ ?_
  clear b0 b1
  rintro W3 ⟨x3, ⟨b0, b1⟩, d0, d1⟩
  have X3 := Lib.hid x3
  have hs3 := x3.bel.size
  clear x3
  go_loopw [14, 50] (fun ov iv wr => ∃ j : Nat, j ≤ n ∧ iv = .int .i64 j ∧ spotK.Own W3.heap.size wr ov (xs.reverse.take j) ∧ Ext W3 wr) (fun _ iv _ => n - (intOf iv).toNat)
  case atStart => exact ⟨0, by omega, rfl, EK.Own.nil _ _, Ext.refl _⟩
  case round =>
    obtain ⟨j, hj, rfl, hown, hx⟩ := hrel
    have HXR := Lib.hid hx
    have HO := Lib.hid hown
    obtain ⟨Ao, no, co, rfl⟩ := own_shapeW hown
    by_cases hlt : j < n
    · have hjl : j < xs.reverse.length := by rw [List.length_reverse, HN.out]; exact hlt
      have hil : n - 1 - j < xs.length := by rw [HN.out]; omega
      have HTK := Lib.hid (show xs.reverse.take (j + 1) = xs.reverse.take j ++ [xs[n - 1 - j]] by
        rw [List.take_succ_eq_append_getElem hjl]
        congr 2
        rw [List.getElem_reverse]
        congr 1
        rw [HN.out])
      obtain ⟨b, o, rfl, hb, f0, f1⟩ := spotK_at HR.out hil
      replace f0 := hx.cell_some (X3.out.cell_some f0)
      replace f1 := hx.cell_some (X3.out.cell_some f1)
      generalize xs[n - 1 - j] = s at *
      obtain ⟨sx, sy⟩ := s
      simp only at f0 f1
      have lb := cell_lt f0
      have hwr := hx.bel.size
      have hlen : (xs.reverse.take j).length ≤ 1000000000 := by rw [List.length_take]; omega
      have HLN := Lib.hid hlen
      have hi1 : (0 : Int) ≤ (n : Int) - 1 - (j : Int) := by omega
      have hi2 : (n : Int) - 1 - (j : Int) < (n : Int) := by omega
      have hcast : ((n - 1 - j : Nat) : Int) = (n : Int) - 1 - (j : Int) := by omega
      clear hx hown hlen
      go_wp2_with (at_builtin; refine EK.app (K := spotK) (B := W3.heap.size) rfl (.tmp 53) (.tmp 62) rfl wr.heap.size 1 (sx, sy) rfl rfl (fun ii u hu => cell_new hu) (HO.out.ext ((Ext.refl _).alloc _)) (by simp; omega) HLN.out ?_; intro v' w3 o3 b3 _; obtain ⟨Av, kv, cv, rfl⟩ := own_shapeW o3; have HO3 := Lib.hid o3; have HB3 := Lib.hid b3; clear o3 b3)
      go_roundw
      case rel => exact ⟨j + 1, by omega, by go_num, by rw [HTK.out]; exact HO3.out, (HXR.out.alloc _).below HB3.out (Nat.le_refl _)⟩
      case measure => simp [intOf]; omega
    · obtain rfl : j = n := by omega
      have HRV := Lib.hid (show spotK.Is wr (.slice Ao no co) xs.reverse by
        have := hown.is
        rwa [List.take_of_length_le (by rw [List.length_reverse, HN.out]; exact Nat.le_refl _)] at this)
      have HXX := Lib.hid (X3.out.trans hx)
      have HD2 := Lib.hid (show Calls Try.prog 29 #[.slice A' n' c', .slice Ao no co] wr fun e w' => e = .returned (.tuple #[V2 dn dd, .int .i64 0]) ∧ Ext wr w' from by
        have := distance_any (.slice A' n' c') (.slice Ao no co) ys xs.reverse wr (HY.out.ext HXX.out) HRV.out
        rwa [HBK.out.1, HBK.out.2] at this)
      replace b0 := hx.cell_some b0
      replace b1 := hx.cell_some b1
      replace d0 := hx.cell_some d0
      replace d1 := hx.cell_some d1
      clear hown hx
      go_wp2_with fail
      refine HD2.out.mono ?_
      rintro e4 W4 ⟨rfl, x4⟩
      have X4 := Lib.hid (HXX.out.trans x4)
      replace b0 := x4.cell_some b0
      replace b1 := x4.cell_some b1
      replace d0 := x4.cell_some d0
      replace d1 := x4.cell_some d1
      clear x4
      go_wp2_with fail
      refine lay_wp (fun W => Ext w W ∧ (W.cell? ⟨w.heap.size, 0, none⟩ = some (.int .i64 bx) ∧ W.cell? ⟨w.heap.size, 1, none⟩ = some (.int .i64 by')) ∧ (W.cell? ⟨W2.heap.size, 0, none⟩ = some (.int .i64 dn) ∧ W.cell? ⟨W2.heap.size, 1, none⟩ = some (.int .i64 dd)) ∧ W.cell? ⟨W4.heap.size, 0, none⟩ = some (.int .i64 dn) ∧ W.cell? ⟨W4.heap.size, 1, none⟩ = some (.int .i64 dd)) ⟨X4.out.alloc _, ⟨((Ext.refl _).alloc _).cell_some b0, ((Ext.refl _).alloc _).cell_some b1⟩, ⟨((Ext.refl _).alloc _).cell_some d0, ((Ext.refl _).alloc _).cell_some d1⟩, by go_cell, by go_cell⟩ ?_
      clear b0 b1 d0 d1
      rintro W5 ⟨x5, ⟨b0, b1⟩, ⟨d0, d1⟩, g0, g1⟩
      have X5 := Lib.hid x5
      have q0 := But.cells (D := []) b0 (by simp)
      have q1 := But.cells (D := []) b1 (by simp)
      have e0 : ∀ δ : BExt W5, δ.wd.cell? ⟨w.heap.size, 0, none⟩ = some (.int .i64 bx) := fun δ => Ext.cell_some ⟨δ, rfl⟩ b0
      have e1 : ∀ δ : BExt W5, δ.wd.cell? ⟨w.heap.size, 1, none⟩ = some (.int .i64 by') := fun δ => Ext.cell_some ⟨δ, rfl⟩ b1
      have l0 := cell_lt b0
      clear x5
      obtain ⟨q, hq⟩ : ∃ q : Nat, qu % 4 = (q : Int) := ⟨(qu % 4).toNat, by omega⟩
      have hq3 : q ≤ 3 := by omega
      have hqt : qu.tmod 4 = (q : Int) := by rw [Int.tmod_eq_emod_of_nonneg hqu.1, hq]
      have hqw : IntKind.i64.wrap (qu.tmod 4) = (q : Int) := by
        rw [hqt]
        exact IntWalk.i64_in _ (by omega)
      clear hq hqt
      have HT1 := Lib.hid fun (W : World) (x : Ext W5 W) => turned_any (.slice A j c) xs mi q bx by' W (HXS.out.ext (X5.out.trans x)) (by omega) HSX.out (by rw [HN.out]; omega)
      have HT2 := Lib.hid fun (W : World) (x : Ext W5 W) => turned_any (.slice A' n' c') ys mi q bx by' W (HY.out.ext (X5.out.trans x)) (by omega) HSY.out (by rw [HN'.out]; omega)
      rw [← hqw] at HT1 HT2
      have HMV := Lib.hid (show distE (xs.map (moveP mi q bx by')) (ys.map (moveP mi q bx by')) = 0 → distP (xs.map (moveP mi q bx by')) (ys.map (moveP mi q bx by')) = (dn, dd) from fun h => by
        obtain ⟨h1, h2⟩ := distE_iff.1 h
        rw [dist_moved HLX.out HLY.out mi _ bx by' h1 h2, ← HDD.out])
      generalize xs.map (moveP mi q bx by') = xm at *
      generalize ys.map (moveP mi q bx by') = ym at *
      have HD3 := Lib.hid fun (W : World) (v1 v2 : Value) (h1 : spotK.Is W v1 xm) (h2 : spotK.Is W v2 ym) => distance_any v1 v2 xm ym W h1 h2
      generalize distE xm ym = e3 at *
      generalize distP xm ym = z3 at *
      obtain ⟨zn, zd⟩ := z3
      simp only at HD3
      clear hqw
      have HX := Lib.hid (Ext.refl W5)
      refine (wpIn_wide (n := 3)).1 ?_
      refine wpIn_region_tree (B := W5.heap.size) 20 [0, 1, 2, 3, 4, 5, 7, 8, 9, 10, 11, 12] (Nat.le_refl _) (by kernel_rfl) (by decide +kernel) ?_
      repeat (refine wpQ_step (by rfl) (fun _ _ _ => trivial) (fun K hK => ?_); go_simp; refine hK _ ?_; clear hK K)
      refine wpQ_nil ?_
      refine wpAnyT_net [⟨6, some 78, [], []⟩, ⟨13, some 85, [], []⟩, ⟨14, some 86, [6, 13], []⟩, ⟨15, some 71, [14], []⟩, ⟨16, some 87, [15], []⟩, ⟨17, some 88, [15], []⟩, ⟨18, some 18, [], []⟩, ⟨19, none, [18, 16], [18]⟩] [] [6, 13, 18]
        (fun i u W => match i with
          | 6 => spotK.Own W5.heap.size W (u 6) xm
          | 13 => spotK.Own W5.heap.size W (u 13) ym
          | 14 => u 14 = .tuple #[V2 zn zd, .int .i64 e3]
          | 15 => u 15 = .tuple #[V2 zn zd, .int .i64 e3]
          | 16 => u 16 = V2 zn zd
          | 17 => u 17 = .int .i64 e3
          | 18 => ∃ b, u 18 = .pointer (some ⟨b, 0, none⟩) ∧ W5.heap.size ≤ b ∧ BoxAt b #[.int .i64 0, .int .i64 0] 45 W
          | 19 => ∃ b, u 18 = .pointer (some ⟨b, 0, none⟩) ∧ W5.heap.size ≤ b ∧ BoxAt b #[.int .i64 zn, .int .i64 zd] 45 W
          | _ => False) (fun _ => undef) (Nat.le_refl _) (by decide +kernel) ?loc ?ext (.inr ?keep) (fun _ h => by cases h) ?step ?end_
      case loc =>
        intro i hi u u' W e e' h
        simp only [List.map_cons, List.map_nil, List.append_nil, List.mem_cons, List.not_mem_nil, or_false] at hi
        rcases hi with rfl | rfl | rfl | rfl | rfl | rfl | rfl | rfl
        case inr.inr.inr.inr.inr.inr.inr => simp only at h ⊢; rw [e' ⟨19, none, [18, 16], [18]⟩ (by simp) rfl 18 (by simp)]; exact h
        all_goals (simp only at h ⊢; rw [e]; exact h)
      case ext =>
        intro i hi u W W' h x
        simp only [List.map_cons, List.map_nil, List.append_nil, List.mem_cons, List.not_mem_nil, or_false] at hi
        rcases hi with rfl | rfl | rfl | rfl | rfl | rfl | rfl | rfl
        · exact EK.Own.ext h x
        · exact EK.Own.ext h x
        · exact h
        · exact h
        · exact h
        · exact h
        · obtain ⟨b, h1, h2, h3⟩ := h; exact ⟨b, h1, h2, h3.ext x⟩
        · obtain ⟨b, h1, h2, h3⟩ := h; exact ⟨b, h1, h2, h3.ext x⟩
      case keep =>
        intro i hi hany u W W' row h hg hne
        simp only [List.map_cons, List.map_nil, List.append_nil, List.mem_cons, List.not_mem_nil, or_false] at hi
        rcases hi with rfl | rfl | rfl | rfl | rfl | rfl | rfl | rfl
        · exact own_keep h hg (fun b hb => (hne b hb).2 (by simp))
        · exact own_keep h hg (fun b hb => (hne b hb).2 (by simp))
        · exact h
        · exact h
        · exact h
        · exact h
        · exact absurd hany (by decide)
        · exact absurd hany (by decide)
      case step =>
        intro r hr u w1 hb hon
        simp only [List.mem_cons, List.not_mem_nil, or_false] at hr
        have x1 := Ext.of hb
        have E1 := Lib.hid x1
        rcases hr with rfl | rfl | rfl | rfl | rfl | rfl | rfl | rfl
        · refine ⟨_, by rfl, by rfl, fun _ _ => trivial, ?_⟩
          simp only [putL]
          go_simp
          refine (callsIn_wide.2 (HT1.out w1 x1)).mono ?_
          rintro e w3 ⟨v3, rfl, o3, x3⟩
          exact ⟨_, rfl, x3.belB hb.size, step_ext (o3.mono hb.size) x3 (own_fresh o3)⟩
        · refine ⟨_, by rfl, by rfl, fun _ _ => trivial, ?_⟩
          simp only [putL]
          go_simp
          refine (callsIn_wide.2 (HT2.out w1 x1)).mono ?_
          rintro e w3 ⟨v3, rfl, o3, x3⟩
          exact ⟨_, rfl, x3.belB hb.size, step_ext (o3.mono hb.size) x3 (own_fresh o3)⟩
        · refine ⟨_, by rfl, by rfl, fun _ _ => trivial, ?_⟩
          have o6 : spotK.Own W5.heap.size w1 (u 6) xm := hon 6 (by simp)
          have o13 : spotK.Own W5.heap.size w1 (u 13) ym := hon 13 (by simp)
          simp only [putL]
          go_simp
          refine (callsIn_wide.2 (HD3.out w1 _ _ o6.is o13.is)).mono ?_
          rintro e w3 ⟨rfl, x3⟩
          exact ⟨_, rfl, x3.belB hb.size, step_none (updV_same _ _ _) x3 (.inr (by simp))⟩
        · refine ⟨_, by rfl, by rfl, fun _ _ => trivial, ?_⟩
          have f14 : u 14 = .tuple #[V2 zn zd, .int .i64 e3] := hon 14 (by simp)
          simp only [putL]
          go_simp
          exact ⟨Below.refl _ _, step_none (updV_same _ _ _) (Ext.refl _) (.inr (by simp))⟩
        · refine ⟨_, by rfl, by rfl, fun _ _ => trivial, ?_⟩
          have f15 : u 15 = .tuple #[V2 zn zd, .int .i64 e3] := hon 15 (by simp)
          simp only [putL, f15]
          go_simp
          exact ⟨Below.refl _ _, step_none (updV_same _ _ _) (Ext.refl _) (.inr (by simp))⟩
        · refine ⟨_, by rfl, by rfl, fun _ _ => trivial, ?_⟩
          have f15 : u 15 = .tuple #[V2 zn zd, .int .i64 e3] := hon 15 (by simp)
          simp only [putL, f15]
          go_simp
          exact ⟨Below.refl _ _, step_none (updV_same _ _ _) (Ext.refl _) (.inr (by simp))⟩
        · refine ⟨_, by rfl, by rfl, fun _ _ => trivial, ?_⟩
          simp only [putL]
          go_simp
          refine ⟨(Below.refl _ _).alloc hb.size _, step_ext ⟨w1.heap.size, updV_same _ _ _, hb.size, BoxAt.new w1 _ _⟩ ((Ext.refl _).alloc _) ?_⟩
          intro b hbk
          simp only [blkOf, Option.some.injEq] at hbk
          subst hbk
          exact ⟨by simp, Nat.le_refl _⟩
        · have h18 := hon 18 (by simp)
          simp only at h18
          obtain ⟨b, f18, hbb, hbx⟩ := h18
          have f16 : u 16 = V2 zn zd := hon 16 (by simp)
          refine ⟨_, by rfl, by rfl, fun _ _ => trivial, ?_⟩
          simp only [putL, f18, f16]
          apply store_D (t := 45) (d := .tmp 18) (x := .tmp 87) (g := b) (v := V2 zn zd) (cs := #[.int .i64 zn, .int .i64 zd])
          case ho => rfl
          case hd => go_simp
          case hx => go_simp
          case hg => exact hbx
          case hB => exact hbb
          case hc => simp [Value.cells]
          case hi => kernel_rfl
          case hz => rfl
          case h1 => simp [Value.oneCell']
          case h =>
            intro v' w2 h1 h2 h3
            exact ⟨⟨b, f18, hbb, h1⟩, fun h => by simp at h, .inr ⟨18, by simp, by simp, by rw [f18]; exact h2⟩⟩
      case end_ =>
        intro u w8 hb hf
        refine ⟨by decide +kernel, fun w9 x9 => ?_⟩
        have f17 : u 17 = .int .i64 e3 := hf 17 (by simp) (by decide)
        have h19 := hf 19 (by simp) (by decide)
        simp only at h19
        obtain ⟨b, f18, hbb, hbx⟩ := h19
        have hbx9 := hbx.ext x9
        have Y9 := Lib.hid ((Ext.of hb).trans x9)
        obtain ⟨y0, y1⟩ := BoxAt.two hbx9
        replace b0 := Y9.out.cell_some d0
        replace b1 := Y9.out.cell_some d1
        replace g0 := Y9.out.cell_some g0
        replace g1 := Y9.out.cell_some g1
        have XF := Lib.hid (X5.out.trans Y9.out)
        have ly := cell_lt y0
        have lb0 := cell_lt b0
        have lg0 := cell_lt g0
        simp only [putL, f17, f18]
        clear x9 q0 q1 e0 e1 d0 d1 HT1 HT2 HD3 hf hb hbx hbx9 hbb f17 f18
        simp only [List.drop_succ_cons, List.drop_zero]
        gi_wp2
        by_cases he3 : e3 = 0
        · obtain ⟨rfl, rfl⟩ : zn = dn ∧ zd = dd := by have := HMV.out he3; simpa using this
          subst he3
          go_wp2_with fail
          go_ret
          exact ⟨rfl, XF.out⟩
        · have hz3 : (e3 != (0 : Int)) = true := by simpa using he3
          clear he3
          go_wp2_with fail
          go_ret
          exact ⟨rfl, XF.out⟩
end Go.Proofs.Ytgeapenglcohfaa
