/- The reference's Reach, breaks, Walls. Conditions: the cuts read as a list; the work is valid. -/
import Derived.Test.YtgeapenglcohfaaGRWk
import Derived.Test.YtgeapenglcohfaaGRDist
import Derived.Test.YtgeapenglcohfaaGWalls
namespace Go.Proofs.Ytgeapenglcohfaa
open Go.RowKit

theorem ext_of {w : World} (δ : BExt w) : Ext w δ.wd := ⟨δ, rfl⟩

set_option maxRecDepth 100000 in
set_option maxHeartbeats 2000000 in
theorem refReach_any (k : WkT) (v : Value) (j : Nat) (w : World) (hI : CutsIs w v k.cuts) (hb : workB k = true) (hj : j < k.cuts.length) :
    Calls Try.prog 102 #[k.val v, .int .i64 j] w fun e w' => e = .returned (.int .i64 (reachK k k.cuts[j])) ∧ Ext w w' := by
  obtain ⟨A, c, rfl, -, ⟨hcl, hcm⟩, hat⟩ := cutsIs_at hI
  unfold maxLen at hcm
  obtain ⟨ht, hf, h16, hcut⟩ := workB_iff.1 hb
  have hcb := hcut _ (List.getElem_mem hj)
  obtain ⟨⟨a1, a2⟩, ⟨a3, a4⟩, ⟨a5, a6⟩, a7, ⟨t1, t2⟩, t3, t4⟩ := toolB_iff.1 ht
  obtain ⟨r1, r2⟩ := hi_bd ht hcb
  have hpr : 0 ≤ k.cuts[j].2.1 ∧ k.cuts[j].2.1 ≤ 1000 := by
    unfold cutB at hcb
    simp only [Bool.and_eq_true] at hcb
    exact inB_iff.1 hcb.2
  obtain ⟨b, o, T, rfl, hb', d0, d1, d2, -⟩ := hat j hj
  have HH := Lib.hid fun W : World => refHigh_any k.tip k.num k.den k.bite k.slack k.cuts[j].2.1 W t1 t2 t3 t4 hpr.1 hpr.2
  have HS := Lib.hid fun W : World => refSide_any k.tip k.num k.den k.bite k.slack (hiK k k.cuts[j]) W a1 a2 a3 a4 a5 a6 r1 (by omega)
  have HE := Lib.hid (show highOf k.bite k.slack k.cuts[j].2.1 = hiK k k.cuts[j] from rfl)
  have HR := Lib.hid (show halfOf k.tip k.num k.den (hiK k k.cuts[j]) = reachK k k.cuts[j] from rfl)
  rw [HE.out] at HH
  rw [HR.out] at HS
  obtain ⟨n, hn⟩ : ∃ n, n = k.cuts.length := ⟨_, rfl⟩
  rw [← hn] at hj h16 ⊢
  generalize hiK k k.cuts[j] = hi at *
  generalize reachK k k.cuts[j] = re at *
  generalize k.cuts[j].2.1 = pr at *
  have hji : (j : Int) < (n : Int) := by omega
  have lb := cell_lt d1
  clear hI hat hcb hcut ht hf hb hpr d0 d2 hn HE HR hcl hcm
  go_enter Try.func102, Try.ntmps102
  go_wp2_with fail
  refine lay_wp (fun W => Ext w W ∧ WkAt k (.slice (some ⟨b, o, none⟩) n c) w.heap.size W) ⟨by (repeat' (first | with_reducible exact Ext.refl _ | with_reducible apply Ext.alloc | with_reducible apply Ext.drew | with_reducible apply Ext.drewN | with_reducible refine Ext.setCell ?_ ?_ _ | with_reducible apply Ext.step | with_reducible assumption | with_reducible exact Nat.le_refl _ | (simp; done) | (simp; omega))), WkAt.new _ _ _⟩ ?_
  rintro W1 ⟨x1, ⟨h0, h1, h2, h3, h4, h5, h6, h7, h8, h9, h10, h11, h12⟩⟩
  have X1 := Lib.hid x1
  replace d1 := x1.cell_some d1
  have lh := cell_lt h0
  have ld := cell_lt d1
  clear x1 lb h5 h6 h7 h8 h9 h10 h11
  refine wp_region_bext (by kernel_rfl) (by kernel_rfl) ?_
  repeat (any_goals (go_big_quiet_step ((first | (go_at_call 64; with_reducible exact bext_call (HH.out _)) | (go_at_call 65; with_reducible exact bext_call (HS.out _))))))
  all_goals refine wpQuiet_nil ?_
  all_goals rintro _ ⟨δ, rfl⟩
  go_wp2_with fail
  go_ret
  exact ⟨rfl, X1.out.trans ⟨δ, rfl⟩⟩

set_option maxRecDepth 100000 in
set_option maxHeartbeats 4000000 in
theorem refBreaks_any (k : WkT) (v : Value) (i j : Nat) (w : World) (hI : CutsIs w v k.cuts) (hb : workB k = true) (hi : i < k.cuts.length) (hj : j < k.cuts.length) :
    Calls Try.prog 81 #[k.val v, .int .i64 i, .int .i64 j] w fun e w' => e = .returned (.bool (breaksB k k.cuts[i] k.cuts[j])) ∧ Ext w w' := by
  have HR1 := Lib.hid fun (W : World) (x : Ext w W) => refReach_any k v i W (hI.ext x) hb hi
  have HR2 := Lib.hid fun (W : World) (x : Ext w W) => refReach_any k v j W (hI.ext x) hb hj
  obtain ⟨A, c, rfl, -, ⟨hcl, hcm⟩, hat⟩ := cutsIs_at hI
  unfold maxLen at hcm
  obtain ⟨ht, hf, h16, hcut⟩ := workB_iff.1 hb
  have hc1 := hcut _ (List.getElem_mem hi)
  have hc2 := hcut _ (List.getElem_mem hj)
  obtain ⟨r1, r2⟩ := reach_bd ht hc1
  obtain ⟨r3, r4⟩ := reach_bd ht hc2
  obtain ⟨⟨wa1, wa2⟩, ⟨pl1, pl2⟩, -⟩ := fields_bd hf
  obtain ⟨b, o, T, rfl, hb', d0, d1, d2, hT⟩ := hat i hi
  obtain ⟨b', o', T', he, hb'', e0, e1, e2, hT'⟩ := hat j hj
  cases he
  have hl1 := lineB_len (cutB_line hc1)
  have hl2 := lineB_len (cutB_line hc2)
  obtain ⟨T1, T2, T3⟩ := T
  obtain ⟨T1', T2', T3'⟩ := T'
  have HNR := Lib.hid fun (W : World) (x : Ext w W) => refNear_any (.slice T1 T2 T3) (.slice T1' T2' T3') k.cuts[i].1 k.cuts[j].1 (reachK k k.cuts[i] + reachK k k.cuts[j] + k.wall + 3 * k.play) W (hT.ext x) (hT'.ext x) hl1 hl2 (lineB_co (cutB_line hc1)) (lineB_co (cutB_line hc2)) (by omega) (by omega)
  have HBK := Lib.hid (show breaksB k k.cuts[i] k.cuts[j] = (!(k.cuts[i].2.2 && k.cuts[j].2.2) && nearB k.cuts[i].1 k.cuts[j].1 (reachK k k.cuts[i] + reachK k k.cuts[j] + k.wall + 3 * k.play)) from rfl)
  simp only at d0 e0
  obtain ⟨n, hn⟩ : ∃ n, n = k.cuts.length := ⟨_, rfl⟩
  rw [← hn] at hi hj h16 HR1 HR2 ⊢
  generalize nearB k.cuts[i].1 k.cuts[j].1 (reachK k k.cuts[i] + reachK k k.cuts[j] + k.wall + 3 * k.play) = nb at *
  generalize breaksB k k.cuts[i] k.cuts[j] = bb at *
  generalize reachK k k.cuts[i] = re at *
  generalize reachK k k.cuts[j] = re' at *
  generalize k.cuts[i].2.1 = pr at *
  generalize k.cuts[j].2.1 = pr' at *
  generalize k.cuts[i].2.2 = cr at *
  generalize k.cuts[j].2.2 = cr' at *
  have hii : (i : Int) < (n : Int) := by omega
  have hji : (j : Int) < (n : Int) := by omega
  have lb := cell_lt d0
  clear hI hat hc1 hc2 hcut ht hf hb hn hcl hcm hT hT' hl1 hl2
  go_enter Try.func81, Try.ntmps81
  go_wp2_with fail
  refine lay_wp (fun W => Ext w W ∧ WkAt k (.slice (some ⟨b, o, none⟩) n c) w.heap.size W) ⟨by (repeat' (first | with_reducible exact Ext.refl _ | with_reducible apply Ext.alloc | with_reducible apply Ext.drew | with_reducible apply Ext.drewN | with_reducible refine Ext.setCell ?_ ?_ _ | with_reducible apply Ext.step | with_reducible assumption | with_reducible exact Nat.le_refl _ | (simp; done) | (simp; omega))), WkAt.new _ _ _⟩ ?_
  rintro W1 ⟨x1, ⟨h0, h1, h2, h3, h4, h5, h6, h7, h8, h9, h10, h11, h12⟩⟩
  have X1 := Lib.hid x1
  replace d0 := x1.cell_some d0
  replace d1 := x1.cell_some d1
  replace d2 := x1.cell_some d2
  replace e0 := x1.cell_some e0
  replace e1 := x1.cell_some e1
  replace e2 := x1.cell_some e2
  have lh := cell_lt h0
  have ld := cell_lt d0
  clear x1 lb
  refine wp_region_mk ([⟨10, 12, 7, 86, #[.slice none 0 0, .int .i64 0, .bool false], 13⟩, ⟨11, 13, 8, 86, #[.slice none 0 0, .int .i64 0, .bool false], 18⟩]) (by kernel_rfl) (by kernel_rfl) ?_ ?_
  · intro m hm o ho ρ W
    simp only [List.mem_cons, List.not_mem_nil, or_false] at hm
    rcases hm with rfl | rfl <;> (cases ho; go_simp)
  repeat (any_goals (first | (refine wpX_skip (by rfl) ?_) | (refine wpX_pass (by rfl) (by rfl) ?_) | (refine wpX_stepK (by rfl) (by rfl) (fun K hK => ?_); go_simp; first | (refine hK _ ?_; clear hK K) | (apply Exists.intro; refine ⟨fun δ => ?_, hK _ ?_⟩; (focus fail); clear hK K))))
  all_goals refine wpX_nil ⟨?_, ?_⟩
  any_goals (intro m hm; simp only [List.mem_cons, List.not_mem_nil, or_false] at hm; rcases hm with rfl | rfl <;> exact ⟨by kernel_rfl, rfl, by simp [Value.cells, Value.oneCell']⟩)
  all_goals refine mk_two (by decide) ?_
  rintro b7 b8 δ hb7 hb8 hne m7 m8
  have k0 : δ.wd.cell? ⟨b7, 0, none⟩ = some (.slice T1 T2 T3) := (m7.cell 0).trans (by simp [Value.cells])
  have k2 : δ.wd.cell? ⟨b7, 2, none⟩ = some (.bool cr) := (m7.cell 2).trans (by simp [Value.cells])
  have g0 : δ.wd.cell? ⟨b8, 0, none⟩ = some (.slice T1' T2' T3') := (m8.cell 0).trans (by simp [Value.cells])
  have g2 : δ.wd.cell? ⟨b8, 2, none⟩ = some (.bool cr') := (m8.cell 2).trans (by simp [Value.cells])
  replace h0 := Ext.cell_some ⟨δ, rfl⟩ h0
  replace h1 := Ext.cell_some ⟨δ, rfl⟩ h1
  replace h2 := Ext.cell_some ⟨δ, rfl⟩ h2
  replace h3 := Ext.cell_some ⟨δ, rfl⟩ h3
  replace h4 := Ext.cell_some ⟨δ, rfl⟩ h4
  replace h5 := Ext.cell_some ⟨δ, rfl⟩ h5
  replace h6 := Ext.cell_some ⟨δ, rfl⟩ h6
  replace h7 := Ext.cell_some ⟨δ, rfl⟩ h7
  replace h8 := Ext.cell_some ⟨δ, rfl⟩ h8
  replace h9 := Ext.cell_some ⟨δ, rfl⟩ h9
  replace h10 := Ext.cell_some ⟨δ, rfl⟩ h10
  replace h11 := Ext.cell_some ⟨δ, rfl⟩ h11
  replace h12 := Ext.cell_some ⟨δ, rfl⟩ h12
  have X2 := Lib.hid (show Ext w δ.wd from X1.out.trans ⟨δ, rfl⟩)
  replace lh := cell_lt h0
  have l7 := cell_lt k0
  have l8 := cell_lt g0
  clear d0 d1 d2 e0 e1 e2 ld m7 m8 hb7 hb8 hne
  generalize δ.wd = W2 at *
  have HRa := Lib.hid fun (W : World) (x : Ext W2 W) => HR1.out W (X2.out.trans x)
  have HRb := Lib.hid fun (W : World) (x : Ext W2 W) => HR2.out W (X2.out.trans x)
  have HNb := Lib.hid fun (W : World) (x : Ext W2 W) => HNR.out W (X2.out.trans x)
  clear HR1 HR2 HNR
  cases cr
  · replace HBK := Lib.hid (show bb = nb by rw [HBK.out]; rfl)
    go_wp2_with fail
    go_frame
    refine wp_region_bext (by kernel_rfl) (by kernel_rfl) ?_
    repeat (any_goals (go_big_quiet_step ((first | (go_at_call 102; with_reducible exact bext_call (HRa.out _ (ext_of _))) | (go_at_call 102; with_reducible exact bext_call (HRb.out _ (ext_of _))) | (go_at_call 78; with_reducible exact bext_call (HNb.out _ (ext_of _)))))))
    all_goals refine wpQuiet_nil ?_
    all_goals rintro _ ⟨δ, rfl⟩
    go_wp2_with fail
    go_ret
    exact ⟨ret_b HBK.out.symm, X2.out.trans ⟨δ, rfl⟩⟩
  cases cr'
  · replace HBK := Lib.hid (show bb = nb by rw [HBK.out]; rfl)
    go_wp2_with fail
    go_frame
    refine wp_region_bext (by kernel_rfl) (by kernel_rfl) ?_
    repeat (any_goals (go_big_quiet_step ((first | (go_at_call 102; with_reducible exact bext_call (HRa.out _ (ext_of _))) | (go_at_call 102; with_reducible exact bext_call (HRb.out _ (ext_of _))) | (go_at_call 78; with_reducible exact bext_call (HNb.out _ (ext_of _)))))))
    all_goals refine wpQuiet_nil ?_
    all_goals rintro _ ⟨δ, rfl⟩
    go_wp2_with fail
    go_ret
    exact ⟨ret_b HBK.out.symm, X2.out.trans ⟨δ, rfl⟩⟩
  replace HBK := Lib.hid (show bb = false by rw [HBK.out]; rfl)
  go_wp2_with fail
  go_frame
  refine wp_region_bext (by kernel_rfl) (by kernel_rfl) ?_
  repeat (any_goals (go_big_quiet_step (fail)))
  all_goals refine wpQuiet_nil ?_
  all_goals rintro _ ⟨δ, rfl⟩
  go_wp2_with fail
  go_ret
  exact ⟨ret_b HBK.out.symm, X2.out.trans ⟨δ, rfl⟩⟩

set_option maxRecDepth 100000 in
set_option maxHeartbeats 4000000 in
theorem refWalls_any (k : WkT) (v : Value) (w : World) (hI : CutsIs w v k.cuts) :
    Calls Try.prog 36 #[k.val v] w (RetEW pairK w (wallsL k) (workE k)) := by
  have HW := Lib.hid fun (W : World) (x : Ext w W) => refWork_any k v W (hI.ext x)
  have HIX := Lib.hid fun (W : World) (x : Ext w W) => hI.ext x
  obtain ⟨A, c, rfl, -, ⟨hcl, hcm⟩, -⟩ := cutsIs_at hI
  unfold maxLen at hcm
  cases hb : workB k
  · have HR := Lib.hid (workE_no hb)
    have HL := Lib.hid (wallsL_no hb)
    rw [hb] at HW
    clear hb hI hcl hcm
    go_enter Try.func36, Try.ntmps36
    go_wp2_with fail
    refine (HW.out _ (by (repeat' (first | with_reducible exact Ext.refl _ | with_reducible apply Ext.alloc | with_reducible apply Ext.drew | with_reducible apply Ext.drewN | with_reducible refine Ext.setCell ?_ ?_ _ | with_reducible apply Ext.step | with_reducible assumption | with_reducible exact Nat.le_refl _ | (simp; done) | (simp; omega))))).mono ?_
    rintro e W1 ⟨rfl, x1⟩
    have HX1 := Lib.hid (show Ext w W1 from Ext.trans (by (repeat' (first | with_reducible exact Ext.refl _ | with_reducible apply Ext.alloc | with_reducible apply Ext.drew | with_reducible apply Ext.drewN | with_reducible refine Ext.setCell ?_ ?_ _ | with_reducible apply Ext.step | with_reducible assumption | with_reducible exact Nat.le_refl _ | (simp; done) | (simp; omega)))) x1)
    clear x1
    go_wp2_with fail
    go_ret2
    exact retEW_mk (EK.Own.nil _ _) HL.out HR.out HX1.out
  have HBK := Lib.hid fun (W : World) (x : Ext w W) (i j : Nat) (hi : i < k.cuts.length) (hj : j < k.cuts.length) => (show Calls Try.prog 81 #[k.val (.slice A k.cuts.length c), .int .i64 i, .int .i64 j] W fun e w' => e = .returned (.bool (breaksB k (cutAt k i) (cutAt k j))) ∧ Ext W w' by
    have := refBreaks_any k _ i j W (hI.ext x) hb hi hj
    rwa [← cutAt_eq hi, ← cutAt_eq hj] at this)
  have HR := Lib.hid (workE_ok hb)
  have HL := Lib.hid (wallsL_ok hb)
  rw [hb] at HW
  obtain ⟨_, _, h16, _⟩ := workB_iff.1 hb
  obtain ⟨n, hn⟩ : ∃ n, n = k.cuts.length := ⟨_, rfl⟩
  rw [← hn] at HW HL h16 hcl HBK ⊢
  have HN := Lib.hid hn
  clear hb hn hI hcl hcm
  go_enter Try.func36, Try.ntmps36
  go_wp2_with fail
  refine (HW.out _ (by (repeat' (first | with_reducible exact Ext.refl _ | with_reducible apply Ext.alloc | with_reducible apply Ext.drew | with_reducible apply Ext.drewN | with_reducible refine Ext.setCell ?_ ?_ _ | with_reducible apply Ext.step | with_reducible assumption | with_reducible exact Nat.le_refl _ | (simp; done) | (simp; omega))))).mono ?_
  rintro e W1 ⟨rfl, x1⟩
  have X1 := Lib.hid (show Ext w W1 from Ext.trans (by (repeat' (first | with_reducible exact Ext.refl _ | with_reducible apply Ext.alloc | with_reducible apply Ext.drew | with_reducible apply Ext.drewN | with_reducible refine Ext.setCell ?_ ?_ _ | with_reducible apply Ext.step | with_reducible assumption | with_reducible exact Nat.le_refl _ | (simp; done) | (simp; omega)))) x1)
  have HWK := Lib.hid ((WkAt.new k (.slice A n c) w).ext x1)
  have hsz := X1.out.bel.size
  clear x1
  go_wp2_with fail
  go_loopw [4, 5] (fun ov iv wr => ∃ i : Nat, i ≤ n ∧ iv = .int .i64 i ∧ pairK.Own W1.heap.size wr ov (wallsTo k i) ∧ Ext W1 wr) (fun _ iv _ => n - (intOf iv).toNat)
  case atStart => exact ⟨0, by omega, rfl, EK.Own.nil _ _, Ext.refl _⟩
  case round =>
    obtain ⟨i, hi, rfl, hown, hx⟩ := hrel
    obtain ⟨wo, rfl⟩ : ∃ wo, wo = wr := ⟨wr, rfl⟩
    have HX := Lib.hid hx
    have HO := Lib.hid hown
    obtain ⟨h0, h1, h2, h3, h4, h5, h6, h7, h8, h9, h10, h11, h12⟩ := HWK.out.ext hx
    have lh := cell_lt h0
    by_cases hlt : i < n
    · obtain ⟨q, hq⟩ : ∃ q, q = n - (i + 1) := ⟨_, rfl⟩
      have HQ := Lib.hid hq
      have hjq : i + 1 + q = n := by omega
      clear hown hx hq h0 h1 h2 h3 h4 h5 h6 h7 h8 h9 h10 h11
      go_wp2_with fail
      go_loopw [4, 6] (fun ov iv wr => ∃ m : Nat, m ≤ q ∧ iv = .int .i64 ((i : Int) + 1 + (m : Int)) ∧ pairK.Own W1.heap.size wr ov (wallsTo k i ++ rowW k i m) ∧ Ext W1 wr) (fun _ iv _ => n - (intOf iv).toNat)
      case atStart => exact ⟨0, by omega, by simp, by rw [show wallsTo k i ++ rowW k i 0 = wallsTo k i from List.append_nil _]; exact HO.out, HX.out⟩
      case round =>
        obtain ⟨m, hm, rfl, hown, hx⟩ := hrel
        have HXI := Lib.hid hx
        have HOI := Lib.hid hown
        obtain ⟨h0, h1, h2, h3, h4, h5, h6, h7, h8, h9, h10, h11, h12'⟩ := HWK.out.ext hx
        have lh := cell_lt h0
        by_cases hmq : m < q
        · have hjm : i + 1 + m < n := by omega
          have HBR := Lib.hid fun (W : World) (x : Ext wr W) => HBK.out W ((X1.out.trans HXI.out).trans x) i (i + 1 + m) hlt hjm
          have HRW := Lib.hid (show rowW k i (m + 1) = if breaksB k (cutAt k i) (cutAt k (i + 1 + m)) then rowW k i m ++ [((i : Int), (i : Int) + 1 + (m : Int))] else rowW k i m from rfl)
          have hcst : ((i + 1 + m : Nat) : Int) = (i : Int) + 1 + (m : Int) := by omega
          rw [hcst] at HBR
          have hlen : (wallsTo k i ++ rowW k i m).length ≤ 1000000000 := by
            have h1 := wallsTo_len (k := k) (by rw [← HN.out]; exact h16) i
            have h2 := rowW_len k i m
            rw [List.length_append]; omega
          have HLN := Lib.hid hlen
          have hii : (i : Int) + 1 + (m : Int) < (n : Int) := by omega
          generalize breaksB k _ _ = bb at *
          clear hown hx hlen hcst
          cases bb
          · have HV := Lib.hid (show rowW k i (m + 1) = rowW k i m by rw [HRW.out]; rfl)
            go_wp2_with fail
            refine (HBR.out _ (Ext.refl _)).mono ?_
            rintro e W5 ⟨rfl, x5⟩
            have HX5 := Lib.hid x5
            clear x5
            go_wp2_with fail
            go_roundw
            case rel => exact ⟨m + 1, by omega, by simp; omega, by rw [HV.out]; exact HOI.out.ext HX5.out, HXI.out.trans HX5.out⟩
            case measure => simp [intOf]; omega
          · have HV := Lib.hid (show wallsTo k i ++ rowW k i (m + 1) = (wallsTo k i ++ rowW k i m) ++ [((i : Int), (i : Int) + 1 + (m : Int))] by rw [HRW.out, List.append_assoc]; rfl)
            go_wp2_with fail
            refine (HBR.out _ (Ext.refl _)).mono ?_
            rintro e W5 ⟨rfl, x5⟩
            have HX5 := Lib.hid x5
            have hsz5 := (HXI.out.trans x5).bel.size
            clear x5
            go_wp2_with (at_builtin; refine EK.app (K := pairK) (B := W1.heap.size) (xs := wallsTo k i ++ rowW k i m) rfl (.tmp 30) (.tmp 34) rfl W5.heap.size 1 ((i : Int), (i : Int) + 1 + (m : Int)) rfl rfl (fun ii u hu => cell_new hu) ((HOI.out.ext HX5.out).ext ((Ext.refl _).alloc _)) (by simp; omega) HLN.out ?_; intro v' w3 o3 b3 _; obtain ⟨Av3, kv3, cv3, rfl⟩ := own_shapeW o3; have HO3 := Lib.hid o3; have HB3 := Lib.hid b3; clear o3 b3)
            go_roundw
            case rel => exact ⟨m + 1, by omega, by simp; omega, by rw [HV.out]; exact HO3.out, ((HXI.out.trans HX5.out).alloc _).below HB3.out (Nat.le_refl _)⟩
            case measure => simp [intOf]; omega
        · obtain rfl : m = q := by omega
          have HV := Lib.hid (show wallsTo k (i + 1) = wallsTo k i ++ rowW k i m by rw [HQ.out, HN.out]; rfl)
          have hii : ¬ (i : Int) + 1 + (m : Int) < (n : Int) := by omega
          clear hx hown
          go_wp2_with fail
          go_roundw
          case rel => exact ⟨i + 1, by omega, by go_num, by rw [HV.out]; exact HOI.out, HXI.out⟩
          case measure => simp [intOf]; omega
    · obtain rfl : i = n := by omega
      clear hown hx
      go_wp2_with fail
      go_ret2
      exact retEW_mk (HO.out.mono hsz) HL.out HR.out (X1.out.trans HX.out)
end Go.Proofs.Ytgeapenglcohfaa
