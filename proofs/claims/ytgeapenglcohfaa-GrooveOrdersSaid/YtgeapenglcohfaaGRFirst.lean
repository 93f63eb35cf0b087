/- The reference's First. Condition: the work is valid, its cuts read as a list.. -/
import Derived.Test.YtgeapenglcohfaaGRulP
import Derived.Test.YtgeapenglcohfaaGRWal
import Derived.Deep.Cut
namespace Go.Proofs.Ytgeapenglcohfaa
section
/- GRFoot: The reference's foot. Condition: the work is valid, its cuts read as a list. -/
open Go.RowKit

theorem footL_at (k : WkT) (xs : List (Int × Int)) {j : Nat} (h : j < xs.length) : (footL k xs).take (j + 1) = (footL k xs).take j ++ [(xs[j].1 + k.fx, xs[j].2 + k.fy)] := by
  rw [List.take_succ_eq_append_getElem (by rw [footL_len]; exact h)]
  unfold footL
  simp

set_option maxRecDepth 100000 in
set_option maxHeartbeats 4000000 in
theorem refFoot_any (k : WkT) (v : Value) (i : Nat) (w : World) (hI : CutsIs w v k.cuts) (hb : workB k = true) (hi : i < k.cuts.length) :
    Calls Try.prog 105 #[k.val v, .int .i64 (i : Int)] w fun e w' => ∃ u, e = .returned u ∧ spotK.Own w.heap.size w' u (footL k k.cuts[i].1) ∧ Ext w w' := by
  obtain ⟨A, c, rfl, -, -, hat⟩ := cutsIs_at hI
  obtain ⟨b, o, T, rfl, hbl, c0, -, -, hsp⟩ := hat i hi
  have hcb := (workB_iff.1 hb).2.2.2 _ (List.getElem_mem hi)
  obtain ⟨hco, hl12⟩ := lineB_iff.1 (cutB_line hcb)
  have hfb := fields_bd (workB_iff.1 hb).2.1
  have h16 := (workB_iff.1 hb).2.2.1
  obtain ⟨xs, hxs⟩ : ∃ xs, xs = k.cuts[i].1 := ⟨_, rfl⟩
  rw [← hxs] at hsp hco hl12 ⊢
  obtain ⟨n, hn⟩ : ∃ n, n = k.cuts.length := ⟨_, rfl⟩
  rw [← hn] at hi h16 ⊢
  obtain ⟨t1, t2, t3⟩ := T
  simp only at hsp c0
  obtain ⟨A2, N, c2, hT, hlen, -, hrow, -⟩ := hsp.open_
  cases hT
  have hlen : xs.length = t2 := hlen
  have HC0 := Lib.hid c0
  have HROW := Lib.hid hrow
  have HCO := Lib.hid hco
  have HLEN := Lib.hid hlen
  have hN : 1 ≤ t2 ∧ t2 ≤ 12 := by omega
  obtain ⟨_, _, ⟨fx1, fx2⟩, ⟨fy1, fy2⟩, _⟩ := hfb
  have hii : (i : Int) < (n : Int) := by omega
  clear hI hat hcb hxs hn hsp c0 hrow hco hlen hl12 hb
  go_enter Try.func105, Try.ntmps105
  go_wp2_with fail
  refine lay_wp (fun W => WkAt k (.slice (some ⟨b, o, none⟩) n c) w.heap.size W ∧ Ext w W) ⟨WkAt.new k _ w, (Ext.refl _).alloc _⟩ ?_
  rintro W1 ⟨ha1, x1⟩
  have HA1 := Lib.hid ha1
  have HX1 := Lib.hid x1
  clear ha1 x1
  go_loopw [5, 6] (fun ov kv wr => ∃ j : Nat, j ≤ t2 ∧ kv = .int .i64 (j : Int) ∧ spotK.Own W1.heap.size wr ov ((footL k xs).take j) ∧ Ext W1 wr) (fun _ kv _ => t2 - (intOf kv).toNat)
  case atStart => exact ⟨0, by omega, rfl, by rw [List.take_zero]; exact EK.Own.nil _ _, Ext.refl _⟩
  case round =>
    obtain ⟨j, hj, rfl, ho, hx⟩ := hrel
    obtain ⟨Ao, no, co, rfl⟩ := own_shapeW ho
    have HO := Lib.hid ho
    have HX := Lib.hid hx
    obtain ⟨h0, h1, h2, h3, h4, h5, h6, h7, h8, h9, h10, h11, h12⟩ := HA1.out.ext hx
    have lh0 := cell_lt h0
    have c0 := (HX1.out.trans hx).cell_some HC0.out
    have lc0 := cell_lt c0
    by_cases hlt : j < t2
    · have hjl : j < xs.length := by rw [HLEN.out]; exact hlt
      obtain ⟨b2, o2, rfl, _, hc⟩ := HROW.out j hjl
      have p0 := (HX1.out.trans hx).cell_some (hc 0 _ rfl)
      have p1 := (HX1.out.trans hx).cell_some (hc 1 _ rfl)
      simp only [spotK, Nat.add_zero] at p0 p1
      obtain ⟨⟨a1, a2⟩, a3, a4⟩ := HCO.out xs[j] (List.getElem_mem hjl)
      have HTK := Lib.hid (footL_at k xs hjl)
      have HLL := Lib.hid (show ((footL k xs).take j).length ≤ 1000000000 by rw [List.length_take, footL_len, HLEN.out]; omega)
      generalize xs[j].1 = sx at *
      generalize xs[j].2 = sy at *
      have hw1 : IntKind.i64.wrap (sx + k.fx) = sx + k.fx := by apply IntWalk.i64_in <;> omega
      have hw2 : IntKind.i64.wrap (sy + k.fy) = sy + k.fy := by apply IntWalk.i64_in <;> omega
      have lp0 := cell_lt p0
      have hji : (j : Int) < (t2 : Int) := by omega
      have hwsz : W1.heap.size ≤ wr.heap.size := hx.bel.size
      clear hc hx ho
      go_wp2_with (at_builtin; refine EK.app (K := spotK) (B := W1.heap.size) (xs := (footL k xs).take j) rfl (.tmp 28) (.tmp 42) rfl (wr.heap.size + 1) 1 (sx + k.fx, sy + k.fy) rfl rfl (fun i u hu => by have := cell_new (w := wr.alloc (.cells #[.int .i64 sx, .int .i64 sy] 56)) (T := 56) (cs := #[.int .i64 (sx + k.fx), .int .i64 (sy + k.fy)]) hu; simpa using this) (HO.out.ext (((Ext.refl _).alloc _).alloc _)) (by simp; omega) HLL.out ?_; intro v' w3 o3 b3 g3; have HO3 := Lib.hid o3; have HX3 := Lib.hid ((HX.out.alloc (.cells #[.int .i64 sx, .int .i64 sy] 56)).alloc (.cells #[.int .i64 (sx + k.fx), .int .i64 (sy + k.fy)] 56) |>.below b3 (Nat.le_refl _)); clear o3 b3 g3)
      go_roundw
      case rel => exact ⟨j + 1, by omega, by go_num, by rw [HTK.out]; exact HO3.out, HX3.out⟩
      case measure => simp [intOf]; omega
    · obtain rfl : j = t2 := by omega
      have HF := Lib.hid (show (footL k xs).take j = footL k xs from List.take_of_length_le (by rw [footL_len, HLEN.out]; exact Nat.le_refl _))
      clear hx ho
      go_wp2_with fail
      go_ret
      exact ⟨_, rfl, by rw [← HF.out]; exact HO.out.mono HX1.out.bel.size, HX1.out.trans HX.out⟩
end
open Go.RowKit

set_option maxRecDepth 100000 in
set_option maxHeartbeats 4000000 in
theorem refFirst_any (k : WkT) (v : Value) (i j : Nat) (w : World) (hI : CutsIs w v k.cuts) (hb : workB k = true) (hi : i < k.cuts.length) (hj : j < k.cuts.length) :
    Calls Try.prog 88 #[k.val v, .int .i64 i, .int .i64 j] w fun e w' => e = .returned (.bool (ruleM k i j)) ∧ Ext w w' := by
  have HR1 := Lib.hid fun (W : World) (x : Ext w W) => refReach_any k v i W (hI.ext x) hb hi
  have HR2 := Lib.hid fun (W : World) (x : Ext w W) => refReach_any k v j W (hI.ext x) hb hj
  have HFT := Lib.hid fun (W : World) (x : Ext w W) => refFoot_any k v i W (hI.ext x) hb hi
  have HRM := Lib.hid fun (h : i ≠ j) => show ruleM k i j = firstB k k.cuts[i] k.cuts[j] from by rw [ruleM_at hi hj h, cutAt_eq hi, cutAt_eq hj]
  have HRS := Lib.hid (ruleM_same k)
  obtain ⟨A, c, rfl, -, ⟨hcl, hcm⟩, hat⟩ := cutsIs_at hI
  unfold maxLen at hcm
  obtain ⟨ht, hf, h16, hcut⟩ := workB_iff.1 hb
  have hc1 := hcut _ (List.getElem_mem hi)
  have hc2 := hcut _ (List.getElem_mem hj)
  obtain ⟨r1, r2⟩ := reach_bd ht hc1
  obtain ⟨r3, r4⟩ := reach_bd ht hc2
  obtain ⟨⟨wa1, wa2⟩, ⟨pl1, pl2⟩, -, -, fh1, fh2⟩ := fields_bd hf
  obtain ⟨b, o, T, rfl, hb', d0, d1, d2, hT⟩ := hat i hi
  obtain ⟨b', o', T', he, hb'', e0, e1, e2, hT'⟩ := hat j hj
  cases he
  have hl1 := lineB_len (cutB_line hc1)
  have hl2 := lineB_len (cutB_line hc2)
  obtain ⟨T1, T2, T3⟩ := T
  obtain ⟨T1', T2', T3'⟩ := T'
  have HNR := Lib.hid fun (W : World) (x : Ext w W) => refNear_any (.slice T1 T2 T3) (.slice T1' T2' T3') k.cuts[i].1 k.cuts[j].1 (reachK k k.cuts[i] + reachK k k.cuts[j]) W (hT.ext x) (hT'.ext x) hl1 hl2 (lineB_co (cutB_line hc1)) (lineB_co (cutB_line hc2)) (by omega) (by omega)
  have HNF := Lib.hid fun (u : Value) (W : World) (x : Ext w W) (h : spotK.Is W u (footL k k.cuts[i].1)) => refNear_any u (.slice T1' T2' T3') (footL k k.cuts[i].1) k.cuts[j].1 (k.fh + reachK k k.cuts[j]) W h (hT'.ext x) (by rw [footL_len]; exact hl1) hl2 (footL_co hf (cutB_line hc1)) (lineB_co (cutB_line hc2)) (by omega) (by omega)
  have hpr := (inB_iff.1 (by unfold cutB at hc2; rw [Bool.and_eq_true] at hc2; exact hc2.2) : (0 : Int) ≤ k.cuts[j].2.1 ∧ k.cuts[j].2.1 ≤ 1000)
  obtain ⟨_, _, _, _, ⟨tb1, tb2⟩, ts1, ts2⟩ := toolB_iff.1 ht
  have HHI := Lib.hid fun W : World => refHigh_any k.tip k.num k.den k.bite k.slack k.cuts[j].2.1 W tb1 tb2 ts1 ts2 hpr.1 hpr.2
  have HFB := Lib.hid (show firstB k k.cuts[i] k.cuts[j] = ((decide (k.fd < highOf k.bite k.slack k.cuts[j].2.1) && nearB (footL k k.cuts[i].1) k.cuts[j].1 (k.fh + reachK k k.cuts[j])) || (decide (k.cuts[j].2.1 < k.cuts[i].2.1) && nearB k.cuts[i].1 k.cuts[j].1 (reachK k k.cuts[i] + reachK k k.cuts[j]))) from rfl)
  simp only at d0 e0
  obtain ⟨n, hn⟩ : ∃ n, n = k.cuts.length := ⟨_, rfl⟩
  rw [← hn] at hi hj h16 HR1 HR2 ⊢
  rw [← hn] at HFT
  generalize nearB k.cuts[i].1 k.cuts[j].1 (reachK k k.cuts[i] + reachK k k.cuts[j]) = nb at *
  generalize nearB (footL k k.cuts[i].1) k.cuts[j].1 (k.fh + reachK k k.cuts[j]) = nf at *
  generalize firstB k k.cuts[i] k.cuts[j] = bb at *
  generalize reachK k k.cuts[i] = re at *
  generalize reachK k k.cuts[j] = re' at *
  generalize highOf k.bite k.slack k.cuts[j].2.1 = hij at *
  generalize footL k k.cuts[i].1 = fl at *
  generalize k.cuts[i].2.1 = pr at *
  generalize k.cuts[j].2.1 = pr' at *
  generalize k.cuts[i].2.2 = cr at *
  generalize k.cuts[j].2.2 = cr' at *
  have hii : (i : Int) < (n : Int) := by omega
  have hji : (j : Int) < (n : Int) := by omega
  have lb := cell_lt d0
  clear hI hat hc1 hc2 hcut ht hf hb hn hcl hcm hT hT' hl1 hl2
  by_cases hij2 : i = j
  · subst hij2
    have hijb : ((i : Int) == (i : Int)) = true := by simp
    go_enter Try.func88, Try.ntmps88
    go_wp2_with fail
    go_ret
    exact ⟨by rw [HRS.out]; rfl, (Ext.refl _).alloc _⟩
  have hijb : ((i : Int) == (j : Int)) = false := by simp; omega
  replace HRM := Lib.hid (HRM.out hij2)
  clear hij2
  go_enter Try.func88, Try.ntmps88
  go_wp2_with fail
  refine lay_wp (fun W => Ext w W ∧ WkAt k (.slice (some ⟨b, o, none⟩) n c) w.heap.size W) ⟨by (repeat' (first | with_reducible exact Ext.refl _ | with_reducible apply Ext.alloc | with_reducible apply Ext.drew | with_reducible apply Ext.drewN | with_reducible refine Ext.setCell ?_ ?_ _ | with_reducible apply Ext.step | with_reducible assumption | with_reducible exact Nat.le_refl _ | (simp; done) | (simp; omega))), WkAt.new _ _ _⟩ ?_
  rintro W1 ⟨x1, ⟨h0, h1, h2, h3, h4, h5, h6, h7, h8, h9, h10, h11, h12⟩⟩
  have X1 := Lib.hid x1
  replace d0 := x1.cell_some d0
  replace d1 := x1.cell_some d1
  replace d2 := x1.cell_some d2
  replace e0 := x1.cell_some e0
  replace e1 := x1.cell_some e1
  replace e2 := x1.cell_some e2
  have lh := cell_lt h0
  have ld := cell_lt d0
  clear x1 lb
  refine wp_region_mk ([⟨10, 12, 7, 86, #[.slice none 0 0, .int .i64 0, .bool false], 16⟩, ⟨11, 13, 8, 86, #[.slice none 0 0, .int .i64 0, .bool false], 21⟩]) (by kernel_rfl) (by kernel_rfl) ?_ ?_
  · intro m hm o ho ρ W
    simp only [List.mem_cons, List.not_mem_nil, or_false] at hm
    rcases hm with rfl | rfl <;> (cases ho; go_simp)
  repeat (any_goals (first | (refine wpX_skip (by rfl) ?_) | (refine wpX_pass (by rfl) (by rfl) ?_) | (refine wpX_stepK (by rfl) (by rfl) (fun K hK => ?_); go_simp; first | (refine hK _ ?_; clear hK K) | (apply Exists.intro; refine ⟨fun δ => ?_, hK _ ?_⟩; (focus fail); clear hK K))))
  all_goals refine wpX_nil ⟨?_, ?_⟩
  any_goals (intro m hm; simp only [List.mem_cons, List.not_mem_nil, or_false] at hm; rcases hm with rfl | rfl <;> exact ⟨by kernel_rfl, rfl, by simp [Value.cells, Value.oneCell']⟩)
  all_goals refine mk_two (by decide) ?_
  rintro b7 b8 δ hb7 hb8 hne m7 m8
  have k0 : δ.wd.cell? ⟨b7, 0, none⟩ = some (.slice T1 T2 T3) := (m7.cell 0).trans (by simp [Value.cells])
  have k2 : δ.wd.cell? ⟨b7, 2, none⟩ = some (.bool cr) := (m7.cell 2).trans (by simp [Value.cells])
  have g0 : δ.wd.cell? ⟨b8, 0, none⟩ = some (.slice T1' T2' T3') := (m8.cell 0).trans (by simp [Value.cells])
  have g2 : δ.wd.cell? ⟨b8, 2, none⟩ = some (.bool cr') := (m8.cell 2).trans (by simp [Value.cells])
  replace h0 := Ext.cell_some ⟨δ, rfl⟩ h0
  replace h1 := Ext.cell_some ⟨δ, rfl⟩ h1
  replace h2 := Ext.cell_some ⟨δ, rfl⟩ h2
  replace h3 := Ext.cell_some ⟨δ, rfl⟩ h3
  replace h4 := Ext.cell_some ⟨δ, rfl⟩ h4
  replace h5 := Ext.cell_some ⟨δ, rfl⟩ h5
  replace h6 := Ext.cell_some ⟨δ, rfl⟩ h6
  replace h7 := Ext.cell_some ⟨δ, rfl⟩ h7
  replace h8 := Ext.cell_some ⟨δ, rfl⟩ h8
  replace h9 := Ext.cell_some ⟨δ, rfl⟩ h9
  replace h10 := Ext.cell_some ⟨δ, rfl⟩ h10
  replace h11 := Ext.cell_some ⟨δ, rfl⟩ h11
  replace h12 := Ext.cell_some ⟨δ, rfl⟩ h12
  have X2 := Lib.hid (show Ext w δ.wd from X1.out.trans ⟨δ, rfl⟩)
  replace lh := cell_lt h0
  have K1 := Lib.hid (show δ.wd.cell? ⟨b7, 1, none⟩ = some (.int .i64 pr) from (m7.cell 1).trans (by simp [Value.cells]))
  have G1 := Lib.hid (show δ.wd.cell? ⟨b8, 1, none⟩ = some (.int .i64 pr') from (m8.cell 1).trans (by simp [Value.cells]))
  have l7 := cell_lt k0
  have l8 := cell_lt g0
  clear d0 d1 d2 e0 e1 e2 ld m7 m8 hb7 hb8 hne
  generalize δ.wd = W2 at *
  have HRa := Lib.hid fun (W : World) (x : Ext W2 W) => HR1.out W (X2.out.trans x)
  have HRb := Lib.hid fun (W : World) (x : Ext W2 W) => HR2.out W (X2.out.trans x)
  have HNb := Lib.hid fun (W : World) (x : Ext W2 W) => HNR.out W (X2.out.trans x)
  have HNf := Lib.hid fun (u : Value) (W : World) (x : Ext W2 W) h => HNF.out u W (X2.out.trans x) h
  have HFa := Lib.hid fun (W : World) (x : Ext W2 W) => HFT.out W (X2.out.trans x)
  have k1 := K1.out
  have g1 := G1.out
  clear HR1 HR2 HNR HNF HFT
  by_cases hfd : k.fd < hij
  · have hfdb : decide (k.fd < hij) = true := decide_eq_true hfd
    have y0 := But.cells (D := []) h0 (by simp)
    have y1 := But.cells (D := []) h1 (by simp)
    have y2 := But.cells (D := []) h2 (by simp)
    have y3 := But.cells (D := []) h3 (by simp)
    have y4 := But.cells (D := []) h4 (by simp)
    have y5 := But.cells (D := []) h5 (by simp)
    have y6 := But.cells (D := []) h6 (by simp)
    have y7 := But.cells (D := []) h7 (by simp)
    have y8 := But.cells (D := []) h8 (by simp)
    have y9 := But.cells (D := []) h9 (by simp)
    have y10 := But.cells (D := []) h10 (by simp)
    have y11 := But.cells (D := []) h11 (by simp)
    have y12 := But.cells (D := []) h12 (by simp)
    have z0 := But.cells (D := []) g0 (by simp)
    have z1 := But.cells (D := []) g1 (by simp)
    have hwr : IntKind.i64.wrap (k.fh + re') = k.fh + re' := by apply IntWalk.i64_in <;> omega
    go_wp2_with fail
    try go_frame
    refine (wpIn_wide (n := 3)).1 ?_
    refine wpIn_region_steps [] 21 [(0, true), (1, true), (2, true), (3, true), (4, true), (5, true), (6, true), (7, true), (8, true), (9, true), (10, true), (12, true), (13, true), (14, true), (15, true), (16, true), (17, true), (11, false), (18, true), (19, true), (20, true)] (by kernel_rfl) (by kernel_rfl) ?_
    iterate 4 (refine wpSD_q (by rfl) (fun _ _ _ => trivial) (fun K hK => ?_); go_simp; refine hK _ ?_; clear hK K)
    refine wpSD_q (by rfl) (fun _ _ _ => trivial) (fun K hK => ?_)
    go_simp
    refine ⟨.int .i64 hij, fun δ => callsIn_wide.2 (HHI.out δ.wd), hK _ ?_⟩
    clear hK K
    iterate 6 (refine wpSD_q (by rfl) (fun _ _ _ => trivial) (fun K hK => ?_); go_simp; refine hK _ ?_; clear hK K)
    iterate 6 (refine wpSD_q (by rfl) (fun _ _ _ => trivial) (fun K hK => ?_); go_simp; refine hK _ ?_; clear hK K)
    refine wpSD_m (by rfl) (fun _ _ _ => trivial) (fun δ K hK => ?_)
    go_simp
    refine (callsIn_wide.2 (HFa.out δ.wd ⟨δ, rfl⟩)).mono ?_
    rintro e Wb ⟨fu, rfl, fo, xb⟩
    refine ⟨_, rfl, xb.but, hK _ _ ?_⟩
    clear hK K
    have XB := Lib.hid (show Ext W2 Wb from Ext.trans ⟨δ, rfl⟩ xb)
    have HFI := Lib.hid fo.is
    refine wpSD_q (by rfl) (fun _ _ _ => trivial) (fun K hK => ?_)
    go_simp
    refine ⟨.int .i64 re', fun δ => callsIn_wide.2 (HRb.out δ.wd (XB.out.trans (δ.but.below (Ext.refl _) (by simp)))), hK _ ?_⟩
    clear hK K
    iterate 1 (refine wpSD_q (by rfl) (fun _ _ _ => trivial) (fun K hK => ?_); go_simp; refine hK _ ?_; clear hK K)
    refine wpSD_q (by rfl) (fun _ _ _ => trivial) (fun K hK => ?_)
    go_simp
    refine ⟨.bool nf, fun δ => callsIn_wide.2 (HNf.out fu δ.wd (XB.out.trans (δ.but.below (Ext.refl _) (by simp))) (HFI.out.ext (δ.but.below (Ext.refl _) (by simp)))), hK _ ?_⟩
    clear hK K
    refine wpSD_nil ?_
    intro W3 x3
    have X3 := Lib.hid (XB.out.trans x3)
    replace k0 := X3.out.cell_some k0
    replace k1 := X3.out.cell_some k1
    replace g0 := X3.out.cell_some g0
    replace g1 := X3.out.cell_some g1
    replace l7 := cell_lt k0
    replace l8 := cell_lt g0
    obtain ⟨h0, h1, h2, h3, h4, h5, h6, h7, h8, h9, h10, h11, h12⟩ := (show WkAt k (.slice (some ⟨b, o, none⟩) n c) w.heap.size W2 from ⟨h0, h1, h2, h3, h4, h5, h6, h7, h8, h9, h10, h11, h12⟩).ext X3.out
    replace lh := cell_lt h0
    clear y0 y1 y2 y3 y4 y5 y6 y7 y8 y9 y10 y11 y12 z0 z1 x3 fo xb
    simp only [List.drop_succ_cons, List.drop_zero]
    gi_wp2
    cases nf
    · skip
      by_cases hpp : pr' < pr
      · have hppb : decide (pr' < pr) = true := decide_eq_true hpp
        have HFF := Lib.hid (show ruleM k i j = nb by rw [HRM.out, HFB.out, hfdb, Bool.true_and, Bool.false_or, hppb]; cases nb <;> rfl)
        go_wp2_with fail
        try go_frame
        refine wp_region_bext (by kernel_rfl) (by kernel_rfl) ?_
        repeat (any_goals (go_big_quiet_step ((first | (go_at_call 102; with_reducible exact bext_call (HRa.out _ (X3.out.trans (ext_of _)))) | (go_at_call 102; with_reducible exact bext_call (HRb.out _ (X3.out.trans (ext_of _)))) | (go_at_call 78; with_reducible exact bext_call (HNb.out _ (X3.out.trans (ext_of _))))))))
        all_goals refine wpQuiet_nil ?_
        all_goals rintro w' hw'
        all_goals obtain ⟨δ, rfl⟩ : Ext (W3) w' := Ext.trans (by (repeat' (first | with_reducible exact Ext.refl _ | with_reducible apply Ext.alloc | with_reducible apply Ext.drew | with_reducible apply Ext.drewN | with_reducible refine Ext.setCell ?_ ?_ _ | with_reducible apply Ext.step | with_reducible assumption | with_reducible exact Nat.le_refl _ | (simp; done) | (simp; omega)))) hw'
        all_goals clear hw'
        go_wp2_with fail
        go_ret
        exact ⟨ret_b HFF.out.symm, X2.out.trans (X3.out.trans ⟨δ, rfl⟩)⟩
      · have hppb : decide (pr' < pr) = false := decide_eq_false hpp
        have HFF := Lib.hid (show ruleM k i j = false by rw [HRM.out, HFB.out, hfdb, Bool.true_and, Bool.false_or, hppb]; cases nb <;> rfl)
        go_wp2_with fail
        try go_frame
        refine wp_region_bext (by kernel_rfl) (by kernel_rfl) ?_
        repeat (any_goals (go_big_quiet_step (fail)))
        all_goals refine wpQuiet_nil ?_
        all_goals rintro w' hw'
        all_goals obtain ⟨δ, rfl⟩ : Ext (W3) w' := Ext.trans (by (repeat' (first | with_reducible exact Ext.refl _ | with_reducible apply Ext.alloc | with_reducible apply Ext.drew | with_reducible apply Ext.drewN | with_reducible refine Ext.setCell ?_ ?_ _ | with_reducible apply Ext.step | with_reducible assumption | with_reducible exact Nat.le_refl _ | (simp; done) | (simp; omega)))) hw'
        all_goals clear hw'
        go_wp2_with fail
        go_ret
        exact ⟨ret_b HFF.out.symm, X2.out.trans (X3.out.trans ⟨δ, rfl⟩)⟩
    · have HFF := Lib.hid (show ruleM k i j = true by rw [HRM.out, HFB.out, hfdb]; rfl)
      go_wp2_with fail
      go_ret
      exact ⟨ret_b HFF.out.symm, X2.out.trans X3.out⟩
  · have hfdb : decide (k.fd < hij) = false := decide_eq_false hfd
    go_wp2_with fail
    try go_frame
    refine wp_region_bext (by kernel_rfl) (by kernel_rfl) ?_
    repeat (any_goals (go_big_quiet_step ((go_at_call 64; with_reducible exact bext_call (HHI.out _)))))
    all_goals refine wpQuiet_nil ?_
    all_goals rintro w' hw'
    all_goals obtain ⟨δ, rfl⟩ : Ext (W2) w' := Ext.trans (by (repeat' (first | with_reducible exact Ext.refl _ | with_reducible apply Ext.alloc | with_reducible apply Ext.drew | with_reducible apply Ext.drewN | with_reducible refine Ext.setCell ?_ ?_ _ | with_reducible apply Ext.step | with_reducible assumption | with_reducible exact Nat.le_refl _ | (simp; done) | (simp; omega)))) hw'
    all_goals clear hw'
    have X3 := Lib.hid (show Ext W2 δ.wd from ⟨δ, rfl⟩)
    replace k0 := X3.out.cell_some k0
    replace k1 := X3.out.cell_some k1
    replace g0 := X3.out.cell_some g0
    replace g1 := X3.out.cell_some g1
    replace l7 := cell_lt k0
    replace l8 := cell_lt g0
    obtain ⟨h0, h1, h2, h3, h4, h5, h6, h7, h8, h9, h10, h11, h12⟩ := (show WkAt k (.slice (some ⟨b, o, none⟩) n c) w.heap.size δ.wd from (show WkAt k (.slice (some ⟨b, o, none⟩) n c) w.heap.size W2 from ⟨h0, h1, h2, h3, h4, h5, h6, h7, h8, h9, h10, h11, h12⟩).ext X3.out)
    replace lh := cell_lt h0
    generalize δ.wd = W3 at *
    by_cases hpp : pr' < pr
    · have hppb : decide (pr' < pr) = true := decide_eq_true hpp
      have HFF := Lib.hid (show ruleM k i j = nb by rw [HRM.out, HFB.out, hfdb, Bool.false_and, Bool.false_or, hppb]; cases nb <;> rfl)
      go_wp2_with fail
      try go_frame
      refine wp_region_bext (by kernel_rfl) (by kernel_rfl) ?_
      repeat (any_goals (go_big_quiet_step ((first | (go_at_call 102; with_reducible exact bext_call (HRa.out _ (X3.out.trans (ext_of _)))) | (go_at_call 102; with_reducible exact bext_call (HRb.out _ (X3.out.trans (ext_of _)))) | (go_at_call 78; with_reducible exact bext_call (HNb.out _ (X3.out.trans (ext_of _))))))))
      all_goals refine wpQuiet_nil ?_
      all_goals rintro w' hw'
      all_goals obtain ⟨δ, rfl⟩ : Ext (W3) w' := Ext.trans (by (repeat' (first | with_reducible exact Ext.refl _ | with_reducible apply Ext.alloc | with_reducible apply Ext.drew | with_reducible apply Ext.drewN | with_reducible refine Ext.setCell ?_ ?_ _ | with_reducible apply Ext.step | with_reducible assumption | with_reducible exact Nat.le_refl _ | (simp; done) | (simp; omega)))) hw'
      all_goals clear hw'
      go_wp2_with fail
      go_ret
      exact ⟨ret_b HFF.out.symm, X2.out.trans (X3.out.trans ⟨δ, rfl⟩)⟩
    · have hppb : decide (pr' < pr) = false := decide_eq_false hpp
      have HFF := Lib.hid (show ruleM k i j = false by rw [HRM.out, HFB.out, hfdb, Bool.false_and, Bool.false_or, hppb]; cases nb <;> rfl)
      go_wp2_with fail
      try go_frame
      refine wp_region_bext (by kernel_rfl) (by kernel_rfl) ?_
      repeat (any_goals (go_big_quiet_step (fail)))
      all_goals refine wpQuiet_nil ?_
      all_goals rintro w' hw'
      all_goals obtain ⟨δ, rfl⟩ : Ext (W3) w' := Ext.trans (by (repeat' (first | with_reducible exact Ext.refl _ | with_reducible apply Ext.alloc | with_reducible apply Ext.drew | with_reducible apply Ext.drewN | with_reducible refine Ext.setCell ?_ ?_ _ | with_reducible apply Ext.step | with_reducible assumption | with_reducible exact Nat.le_refl _ | (simp; done) | (simp; omega)))) hw'
      all_goals clear hw'
      go_wp2_with fail
      go_ret
      exact ⟨ret_b HFF.out.symm, X2.out.trans (X3.out.trans ⟨δ, rfl⟩)⟩
end Go.Proofs.Ytgeapenglcohfaa
