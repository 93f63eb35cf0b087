/- groove.Deep, groove.Walls. Condition: the cuts read as a list. -/
import Derived.Test.YtgeapenglcohfaaGSides
import Derived.Test.YtgeapenglcohfaaGPairs
import Derived.Test.YtgeapenglcohfaaGRulP
namespace Go.Proofs.Ytgeapenglcohfaa
open Go.RowKit

theorem sidesIs_open {k : WkT} {w : World} {v : Value} {n : Nat} (hn : n = k.cuts.length) (h : SidesIs k w v) : ∃ A c, v = .slice A n c ∧ (A = none → c = 0) ∧ (n ≤ c ∧ c ≤ maxLen) ∧ ∀ j (hj : j < k.cuts.length), ∃ b o T F, A = some ⟨b, o, none⟩ ∧ b < w.heap.size ∧
    (w.cell? ⟨b, o + j * 6, none⟩ = some (rowV T) ∧ w.cell? ⟨b, o + j * 6 + 1, none⟩ = some (rowV F) ∧ w.cell? ⟨b, o + j * 6 + 2, none⟩ = some (.int .i64 (hiK k k.cuts[j])) ∧ w.cell? ⟨b, o + j * 6 + 3, none⟩ = some (.int .i64 (reachK k k.cuts[j])) ∧
      w.cell? ⟨b, o + j * 6 + 4, none⟩ = some (.int .i64 k.cuts[j].2.1) ∧ w.cell? ⟨b, o + j * 6 + 5, none⟩ = some (.bool k.cuts[j].2.2)) ∧ spotK.Is w (rowV T) k.cuts[j].1 ∧ spotK.Is w (rowV F) (footL k k.cuts[j].1) := by
  obtain ⟨Ss, ⟨A, c, hv, h0, hc, hr⟩, hl, hq⟩ := h
  refine ⟨A, c, by rw [hv, hl, hn], h0, by rw [hn, ← hl]; exact hc, fun j hj => ?_⟩
  have hj' : j < Ss.length := by omega
  obtain ⟨b, o, hA, hb, hcell⟩ := hr j hj'
  have hs := hq j hj' hj
  refine ⟨b, o, Ss[j].1, Ss[j].2.1, hA, hb, ⟨hcell 0 _ rfl, hcell 1 _ rfl, ?_, ?_, ?_, ?_⟩, hs.line, hs.foot⟩
  · rw [← hs.high]; exact hcell 2 _ rfl
  · rw [← hs.reach]; exact hcell 3 _ rfl
  · rw [← hs.press]; exact hcell 4 _ rfl
  · rw [← hs.cross]; exact hcell 5 _ rfl

/-- Check at a valid work, at another one. -/
theorem check_ok {k : WkT} {v : Value} {w : World} (hI : CutsIs w v k.cuts) (hb : workB k = true) : Calls Try.prog 39 #[k.val v] w fun e w' => e = .returned (.int .i64 0) ∧ Ext w w' := by
  have h := check_any k v w hI
  rwa [workE_ok hb] at h
theorem check_no {k : WkT} {v : Value} {w : World} (hI : CutsIs w v k.cuts) (hb : workB k = false) : Calls Try.prog 39 #[k.val v] w fun e w' => e = .returned (.int .i64 51) ∧ Ext w w' := by
  have h := check_any k v w hI
  rwa [workE_no hb] at h

set_option maxRecDepth 100000 in
set_option maxHeartbeats 4000000 in
theorem walls_any (k : WkT) (v : Value) (w : World) (hI : CutsIs w v k.cuts) :
    Calls Try.prog 35 #[k.val v] w (RetEW pairK w (wallsL k) (workE k)) := by
  obtain ⟨A, c, rfl, -⟩ := cutsIs_at hI
  cases hb : workB k
  · have HW := Lib.hid fun (W : World) (x : Ext w W) => check_no (k := k) (hI.ext x) hb
    have HR := Lib.hid (workE_no hb)
    have HL := Lib.hid (wallsL_no hb)
    clear hb hI
    go_enter Try.func35, Try.ntmps35
    go_wp2_with fail
    refine (HW.out _ (by (repeat' (first | with_reducible exact Ext.refl _ | with_reducible apply Ext.alloc | with_reducible apply Ext.drew | with_reducible apply Ext.drewN | with_reducible refine Ext.setCell ?_ ?_ _ | with_reducible apply Ext.step | with_reducible assumption | with_reducible exact Nat.le_refl _ | (simp; done) | (simp; omega))))).mono ?_
    rintro e W1 ⟨rfl, x1⟩
    have HX1 := Lib.hid (show Ext w W1 from Ext.trans (by (repeat' (first | with_reducible exact Ext.refl _ | with_reducible apply Ext.alloc | with_reducible apply Ext.drew | with_reducible apply Ext.drewN | with_reducible refine Ext.setCell ?_ ?_ _ | with_reducible apply Ext.step | with_reducible assumption | with_reducible exact Nat.le_refl _ | (simp; done) | (simp; omega)))) x1)
    clear x1
    go_wp2_with fail
    go_ret2
    exact retEW_mk (EK.Own.nil _ _) HL.out HR.out HX1.out
  have HW := Lib.hid fun (W : World) (x : Ext w W) => check_ok (k := k) (hI.ext x) hb
  have HS := Lib.hid fun (W : World) (x : Ext w W) => sides_any k _ W (hI.ext x) hb
  have HR := Lib.hid (workE_ok hb)
  have HL := Lib.hid (wallsL_ok hb)
  obtain ⟨hto, hfi, h16, hcu⟩ := workB_iff.1 hb
  have HTO := Lib.hid hto
  have HCU := Lib.hid hcu
  have hfb := fields_bd hfi
  obtain ⟨⟨wa1, wa2⟩, ⟨pl1, pl2⟩, -⟩ := hfb
  obtain ⟨n, hn⟩ : ∃ n, n = k.cuts.length := ⟨_, rfl⟩
  rw [← hn] at HW HS HL h16 ⊢
  have HN := Lib.hid hn
  clear hb hn hI
  go_enter Try.func35, Try.ntmps35
  go_wp2_with fail
  refine (HW.out _ (by (repeat' (first | with_reducible exact Ext.refl _ | with_reducible apply Ext.alloc | with_reducible apply Ext.drew | with_reducible apply Ext.drewN | with_reducible refine Ext.setCell ?_ ?_ _ | with_reducible apply Ext.step | with_reducible assumption | with_reducible exact Nat.le_refl _ | (simp; done) | (simp; omega))))).mono ?_
  rintro e W0 ⟨rfl, x0⟩
  have xw0 : Ext w W0 := Ext.trans (by (repeat' (first | with_reducible exact Ext.refl _ | with_reducible apply Ext.alloc | with_reducible apply Ext.drew | with_reducible apply Ext.drewN | with_reducible refine Ext.setCell ?_ ?_ _ | with_reducible apply Ext.step | with_reducible assumption | with_reducible exact Nat.le_refl _ | (simp; done) | (simp; omega)))) x0
  have HX0 := Lib.hid xw0
  obtain ⟨h0, h1, h2, h3, h4, h5, h6, h7, h8, h9, h10, h11, h12⟩ := (WkAt.new k (.slice A n c) w).ext x0
  have lh0 := cell_lt h0
  clear x0 xw0
  go_wp2_with fail
  refine (HS.out _ HX0.out).mono ?_
  rintro e W1 ⟨sv, rfl, hs, x1⟩
  obtain ⟨A1, c1, rfl, -, ⟨hc1, hc2⟩, hat⟩ := sidesIs_open HN.out hs
  have X1 := Lib.hid (HX0.out.trans x1)
  have HAT := Lib.hid hat
  replace h5 := x1.cell_some h5
  replace h7 := x1.cell_some h7
  have lh5 := cell_lt h5
  have hsz := X1.out.bel.size
  clear hs hat x1 h0 h1 h2 h3 h4 h6 h8 h9 h10 h11 h12 lh0
  go_wp2_with fail
  go_loopw [5, 20] (fun ov iv wr => ∃ j : Nat, j ≤ n ∧ iv = .int .i64 j ∧ pairK.Own W1.heap.size wr ov (wallsTo k j) ∧ Ext W1 wr) (fun _ iv _ => n - (intOf iv).toNat)
  case atStart => exact ⟨0, by omega, rfl, EK.Own.nil _ _, Ext.refl _⟩
  case round =>
    obtain ⟨j, hj, rfl, hown, hx⟩ := hrel
    obtain ⟨wo, rfl⟩ : ∃ wo, wo = wr := ⟨wr, rfl⟩
    have HX := Lib.hid hx
    have HO := Lib.hid hown
    by_cases hlt : j < n
    · have hjl : j < k.cuts.length := by rw [← HN.out]; exact hlt
      obtain ⟨b, o, T, F, rfl, hb, ⟨d0, d1, d2, d3, d4, d5⟩, hT, -⟩ := HAT.out j hjl
      have HT := Lib.hid hT
      obtain ⟨T1, T2, T3⟩ := T
      obtain ⟨F1, F2, F3⟩ := F
      simp only [rowV] at d0 d1
      replace d0 := hx.cell_some d0
      replace d1 := hx.cell_some d1
      replace d2 := hx.cell_some d2
      replace d3 := hx.cell_some d3
      replace d4 := hx.cell_some d4
      replace d5 := hx.cell_some d5
      have e5 := hx.cell_some h5
      have e7 := hx.cell_some h7
      have HC := Lib.hid (show cutAt k j = k.cuts[j] from cutAt_eq hjl)
      obtain ⟨hi, hhi⟩ : ∃ x, x = hiK k k.cuts[j] := ⟨_, rfl⟩
      obtain ⟨re, hre⟩ : ∃ x, x = reachK k k.cuts[j] := ⟨_, rfl⟩
      obtain ⟨pr, hpr⟩ : ∃ x, x = k.cuts[j].2.1 := ⟨_, rfl⟩
      obtain ⟨cr, hcr⟩ : ∃ x, x = k.cuts[j].2.2 := ⟨_, rfl⟩
      rw [← hhi] at d2
      rw [← hre] at d3
      rw [← hpr] at d4
      rw [← hcr] at d5
      have HRE := Lib.hid hre
      have HCR := Lib.hid hcr
      have lb := cell_lt d0
      have le5 := cell_lt e5
      have hwsz := hx.bel.size
      clear hown hx hT hhi hre hpr hcr
      obtain ⟨q, hq⟩ : ∃ q, q = n - (j + 1) := ⟨_, rfl⟩
      have HQ := Lib.hid hq
      have hjq : j + 1 + q = n := by omega
      have HBB : Hid (0 ≤ re ∧ re ≤ 11101) := Lib.hid (by rw [HRE.out]; exact reach_bd HTO.out (HCU.out _ (List.getElem_mem hjl)))
      by_cases hcj : j + 1 < c1
      · go_wp2_with fail
        rw [← hq]
        refine lay_wp (fun W => Ext W1 W ∧ pairK.Own W1.heap.size W _ (wallsTo k j) ∧ BoxAt wo.heap.size #[.slice T1 T2 T3, .slice F1 F2 F3, .int .i64 hi, .int .i64 re, .int .i64 pr, .bool cr] 130 W) ⟨HX.out.alloc _, HO.out.ext ((Ext.refl _).alloc _), BoxAt.new _ _ _⟩ ?_
        rintro W2 ⟨x2, o2, b2⟩
        have HX2 := Lib.hid x2
        have HO2 := Lib.hid o2
        have HB2 := Lib.hid b2
        have hsz2 := x2.bel.size
        clear x2 o2 b2 d0 d1 d2 d3 d4 d5 e5 e7 le5 hq hcj
        go_loopw [5, 30] (fun ov iv wr => ∃ m : Nat, m ≤ q ∧ iv = .int .i64 m ∧ pairK.Own W1.heap.size wr ov (wallsTo k j ++ rowW k j m) ∧ Ext W1 wr ∧ BoxAt wo.heap.size #[.slice T1 T2 T3, .slice F1 F2 F3, .int .i64 hi, .int .i64 re, .int .i64 pr, .bool cr] 130 wr) (fun _ iv _ => q - (intOf iv).toNat)
        case atStart => exact ⟨0, by omega, rfl, by rw [show wallsTo k j ++ rowW k j 0 = wallsTo k j from List.append_nil _]; exact HO2.out, HX2.out, HB2.out⟩
        case round =>
          obtain ⟨m, hm, rfl, hown, hx, hbx⟩ := hrel
          have HXI := Lib.hid hx
          have HOI := Lib.hid hown
          have HBX := Lib.hid hbx
          by_cases hmq : m < q
          · have hjm : j + 1 + m < k.cuts.length := by rw [← HN.out]; omega
            obtain ⟨b', o', T', F', hA', hb', ⟨d0, d1, d2, d3, d4, d5⟩, hT', -⟩ := HAT.out (j + 1 + m) hjm
            cases hA'
            have HT' := Lib.hid hT'
            obtain ⟨T1', T2', T3'⟩ := T'
            obtain ⟨F1', F2', F3'⟩ := F'
            have hoff : o + (j + 1 + m) * 6 = o + (j + 1) * 6 + m * 6 := by omega
            simp only [rowV, hoff] at d0 d1 d2 d3 d4 d5
            clear hoff
            replace d0 := hx.cell_some d0
            replace d1 := hx.cell_some d1
            replace d2 := hx.cell_some d2
            replace d3 := hx.cell_some d3
            replace d4 := hx.cell_some d4
            replace d5 := hx.cell_some d5
            have s0 : wr.cell? ⟨wo.heap.size, 0, none⟩ = some (.slice T1 T2 T3) := hbx.cell rfl
            have s3 : wr.cell? ⟨wo.heap.size, 3, none⟩ = some (.int .i64 re) := hbx.cell rfl
            have s5 : wr.cell? ⟨wo.heap.size, 5, none⟩ = some (.bool cr) := hbx.cell rfl
            have e5 := hx.cell_some h5
            have e7 := hx.cell_some h7
            have lb2 := cell_lt d0
            have ls2 := cell_lt s0
            have le2 := cell_lt e5
            have hszi := hx.bel.size
            have HC2 := Lib.hid (show cutAt k (j + 1 + m) = k.cuts[j + 1 + m] from cutAt_eq hjm)
            have HBC : Hid (0 ≤ reachK k k.cuts[j + 1 + m] ∧ reachK k k.cuts[j + 1 + m] ≤ 11101) := Lib.hid (reach_bd HTO.out (HCU.out _ (List.getElem_mem hjm)))
            obtain ⟨re', hre'⟩ : ∃ x, x = reachK k k.cuts[j + 1 + m] := ⟨_, rfl⟩
            obtain ⟨cr', hcr'⟩ : ∃ x, x = k.cuts[j + 1 + m].2.2 := ⟨_, rfl⟩
            rw [← hre'] at d3 HBC
            rw [← hcr'] at d5
            generalize hiK k k.cuts[j + 1 + m] = hi' at *
            generalize k.cuts[j + 1 + m].2.1 = pr' at *
            have HBK := Lib.hid (show breaksB k (cutAt k j) (cutAt k (j + 1 + m)) = (!(cr && cr') && nearB k.cuts[j].1 k.cuts[j + 1 + m].1 (re + re' + k.wall + 3 * k.play)) by
              unfold breaksB
              rw [HC.out, HC2.out, HCR.out, HRE.out, hcr', hre'])
            have HRW := Lib.hid (show rowW k j (m + 1) = if breaksB k (cutAt k j) (cutAt k (j + 1 + m)) then rowW k j m ++ [((j : Int), (j : Int) + 1 + (m : Int))] else rowW k j m from rfl)
            have HLN := Lib.hid (show (wallsTo k j ++ rowW k j m).length ≤ 1000000000 by
              have h1 := wallsTo_len (k := k) (by rw [← HN.out]; exact h16) j
              have h2 := rowW_len k j m
              rw [List.length_append]; omega)
            obtain ⟨h1, h2⟩ := HBB.out
            obtain ⟨h3, h4⟩ := HBC.out
            have hl1 := lineB_len (cutB_line (HCU.out _ (List.getElem_mem hjl)))
            have hl2 := lineB_len (cutB_line (HCU.out _ (List.getElem_mem hjm)))
            have HNR := Lib.hid fun (W : World) (x : Ext wr W) => near_any (.slice T1 T2 T3) (.slice T1' T2' T3') k.cuts[j].1 k.cuts[j + 1 + m].1 (re + re' + k.wall + 3 * k.play) W ((HT.out.ext HXI.out).ext x) ((HT'.out.ext HXI.out).ext x) hl1 hl2 (lineB_co (cutB_line (HCU.out _ (List.getElem_mem hjl)))) (lineB_co (cutB_line (HCU.out _ (List.getElem_mem hjm)))) (by omega) (by omega)
            clear hown hx hbx hT' hre' hcr' hl1 hl2
            cases cr
            · replace HBK := Lib.hid (show breaksB k (cutAt k j) (cutAt k (j + 1 + m)) = nearB k.cuts[j].1 k.cuts[j + 1 + m].1 (re + re' + k.wall + 3 * k.play) by rw [HBK.out]; rfl)
              cases hnb : nearB k.cuts[j].1 k.cuts[j + 1 + m].1 (re + re' + k.wall + 3 * k.play)
              · rw [hnb] at HNR HBK
                have HV := Lib.hid (show rowW k j (m + 1) = rowW k j m by rw [HRW.out, HBK.out]; rfl)
                clear hnb
                go_wp2_with fail
                refine (HNR.out _ (by (repeat' (first | with_reducible exact Ext.refl _ | with_reducible apply Ext.alloc | with_reducible apply Ext.drew | with_reducible apply Ext.drewN | with_reducible refine Ext.setCell ?_ ?_ _ | with_reducible apply Ext.step | with_reducible assumption | with_reducible exact Nat.le_refl _ | (simp; done) | (simp; omega))))).mono ?_
                rintro e W5 ⟨rfl, x5⟩
                have HX5 := Lib.hid (show Ext wr W5 from Ext.trans (by (repeat' (first | with_reducible exact Ext.refl _ | with_reducible apply Ext.alloc | with_reducible apply Ext.drew | with_reducible apply Ext.drewN | with_reducible refine Ext.setCell ?_ ?_ _ | with_reducible apply Ext.step | with_reducible assumption | with_reducible exact Nat.le_refl _ | (simp; done) | (simp; omega)))) x5)
                clear x5
                go_wp2_with fail
                go_roundw
                case rel => exact ⟨m + 1, by omega, by go_num, by rw [HV.out]; exact HOI.out.ext HX5.out, HXI.out.trans HX5.out, HBX.out.ext HX5.out⟩
                case measure => simp [intOf]; omega
              · rw [hnb] at HNR HBK
                have HV := Lib.hid (show wallsTo k j ++ rowW k j (m + 1) = (wallsTo k j ++ rowW k j m) ++ [((j : Int), (j : Int) + 1 + (m : Int))] by rw [HRW.out, HBK.out, List.append_assoc]; rfl)
                clear hnb
                go_wp2_with fail
                refine (HNR.out _ (by (repeat' (first | with_reducible exact Ext.refl _ | with_reducible apply Ext.alloc | with_reducible apply Ext.drew | with_reducible apply Ext.drewN | with_reducible refine Ext.setCell ?_ ?_ _ | with_reducible apply Ext.step | with_reducible assumption | with_reducible exact Nat.le_refl _ | (simp; done) | (simp; omega))))).mono ?_
                rintro e W5 ⟨rfl, x5⟩
                have HX5 := Lib.hid (show Ext wr W5 from Ext.trans (by (repeat' (first | with_reducible exact Ext.refl _ | with_reducible apply Ext.alloc | with_reducible apply Ext.drew | with_reducible apply Ext.drewN | with_reducible refine Ext.setCell ?_ ?_ _ | with_reducible apply Ext.step | with_reducible assumption | with_reducible exact Nat.le_refl _ | (simp; done) | (simp; omega)))) x5)
                have hsz5 := HX5.out.bel.size
                clear x5
                go_wp2_with (at_builtin; refine EK.app (K := pairK) (B := W1.heap.size) (xs := wallsTo k j ++ rowW k j m) rfl (.tmp 61) (.tmp 68) rfl W5.heap.size 1 ((j : Int), (j : Int) + 1 + (m : Int)) rfl rfl (fun i u hu => cell_new hu) ((HOI.out.ext HX5.out).ext ((Ext.refl _).alloc _)) (by simp; omega) HLN.out ?_; intro v' w3 o3 b3 g3; obtain ⟨Av3, kv3, cv3, rfl⟩ := own_shapeW o3; have HO3 := Lib.hid o3; have HB3 := Lib.hid b3; have HG3 := Lib.hid g3; clear o3 b3 g3)
                go_roundw
                case rel => exact ⟨m + 1, by omega, by go_num, by rw [HV.out]; exact HO3.out, ((HXI.out.trans HX5.out).alloc _).below HB3.out (Nat.le_refl _), BoxAt.grown ((HBX.out.ext HX5.out).ext ((Ext.refl _).alloc _)) ((HOI.out.ext HX5.out).ext ((Ext.refl _).alloc _)) (by decide) HG3.out⟩
                case measure => simp [intOf]; omega
            cases cr'
            · replace HBK := Lib.hid (show breaksB k (cutAt k j) (cutAt k (j + 1 + m)) = nearB k.cuts[j].1 k.cuts[j + 1 + m].1 (re + re' + k.wall + 3 * k.play) by rw [HBK.out]; rfl)
              cases hnb : nearB k.cuts[j].1 k.cuts[j + 1 + m].1 (re + re' + k.wall + 3 * k.play)
              · rw [hnb] at HNR HBK
                have HV := Lib.hid (show rowW k j (m + 1) = rowW k j m by rw [HRW.out, HBK.out]; rfl)
                clear hnb
                go_wp2_with fail
                refine (HNR.out _ (by (repeat' (first | with_reducible exact Ext.refl _ | with_reducible apply Ext.alloc | with_reducible apply Ext.drew | with_reducible apply Ext.drewN | with_reducible refine Ext.setCell ?_ ?_ _ | with_reducible apply Ext.step | with_reducible assumption | with_reducible exact Nat.le_refl _ | (simp; done) | (simp; omega))))).mono ?_
                rintro e W5 ⟨rfl, x5⟩
                have HX5 := Lib.hid (show Ext wr W5 from Ext.trans (by (repeat' (first | with_reducible exact Ext.refl _ | with_reducible apply Ext.alloc | with_reducible apply Ext.drew | with_reducible apply Ext.drewN | with_reducible refine Ext.setCell ?_ ?_ _ | with_reducible apply Ext.step | with_reducible assumption | with_reducible exact Nat.le_refl _ | (simp; done) | (simp; omega)))) x5)
                clear x5
                go_wp2_with fail
                go_roundw
                case rel => exact ⟨m + 1, by omega, by go_num, by rw [HV.out]; exact HOI.out.ext HX5.out, HXI.out.trans HX5.out, HBX.out.ext HX5.out⟩
                case measure => simp [intOf]; omega
              · rw [hnb] at HNR HBK
                have HV := Lib.hid (show wallsTo k j ++ rowW k j (m + 1) = (wallsTo k j ++ rowW k j m) ++ [((j : Int), (j : Int) + 1 + (m : Int))] by rw [HRW.out, HBK.out, List.append_assoc]; rfl)
                clear hnb
                go_wp2_with fail
                refine (HNR.out _ (by (repeat' (first | with_reducible exact Ext.refl _ | with_reducible apply Ext.alloc | with_reducible apply Ext.drew | with_reducible apply Ext.drewN | with_reducible refine Ext.setCell ?_ ?_ _ | with_reducible apply Ext.step | with_reducible assumption | with_reducible exact Nat.le_refl _ | (simp; done) | (simp; omega))))).mono ?_
                rintro e W5 ⟨rfl, x5⟩
                have HX5 := Lib.hid (show Ext wr W5 from Ext.trans (by (repeat' (first | with_reducible exact Ext.refl _ | with_reducible apply Ext.alloc | with_reducible apply Ext.drew | with_reducible apply Ext.drewN | with_reducible refine Ext.setCell ?_ ?_ _ | with_reducible apply Ext.step | with_reducible assumption | with_reducible exact Nat.le_refl _ | (simp; done) | (simp; omega)))) x5)
                have hsz5 := HX5.out.bel.size
                clear x5
                go_wp2_with (at_builtin; refine EK.app (K := pairK) (B := W1.heap.size) (xs := wallsTo k j ++ rowW k j m) rfl (.tmp 61) (.tmp 68) rfl W5.heap.size 1 ((j : Int), (j : Int) + 1 + (m : Int)) rfl rfl (fun i u hu => cell_new hu) ((HOI.out.ext HX5.out).ext ((Ext.refl _).alloc _)) (by simp; omega) HLN.out ?_; intro v' w3 o3 b3 g3; obtain ⟨Av3, kv3, cv3, rfl⟩ := own_shapeW o3; have HO3 := Lib.hid o3; have HB3 := Lib.hid b3; have HG3 := Lib.hid g3; clear o3 b3 g3)
                go_roundw
                case rel => exact ⟨m + 1, by omega, by go_num, by rw [HV.out]; exact HO3.out, ((HXI.out.trans HX5.out).alloc _).below HB3.out (Nat.le_refl _), BoxAt.grown ((HBX.out.ext HX5.out).ext ((Ext.refl _).alloc _)) ((HOI.out.ext HX5.out).ext ((Ext.refl _).alloc _)) (by decide) HG3.out⟩
                case measure => simp [intOf]; omega
            have HV := Lib.hid (show rowW k j (m + 1) = rowW k j m by rw [HRW.out, HBK.out]; rfl)
            go_wp2_with fail
            go_roundw
            case rel => exact ⟨m + 1, by omega, by go_num, by rw [HV.out]; exact HOI.out.ext ((Ext.refl _).alloc _), HXI.out.alloc _, HBX.out.ext ((Ext.refl _).alloc _)⟩
            case measure => simp [intOf]; omega
          · obtain rfl : m = q := by omega
            have HV := Lib.hid (show wallsTo k (j + 1) = wallsTo k j ++ rowW k j m by rw [HQ.out, HN.out]; rfl)
            clear hx hown hbx
            go_wp2_with fail
            go_roundw
            case rel => exact ⟨j + 1, by omega, by go_num, by rw [HV.out]; exact HOI.out, HXI.out⟩
            case measure => simp [intOf]; omega
      · have hq0 : q = 0 := by omega
        have HV := Lib.hid (show wallsTo k (j + 1) = wallsTo k j by
          show wallsTo k j ++ rowW k j (k.cuts.length - (j + 1)) = _
          rw [← HN.out, ← HQ.out, hq0]
          exact List.append_nil _)
        have hc1j : c1 = j + 1 := by omega
        have hnj : n = j + 1 := by omega
        clear hq
        subst hc1j
        go_wp2_with fail
        refine lay_wp (fun W => Ext W1 W ∧ pairK.Own W1.heap.size W _ (wallsTo k j)) ⟨HX.out.alloc _, HO.out.ext ((Ext.refl _).alloc _)⟩ ?_
        rintro W2 ⟨x2, o2⟩
        have HX2 := Lib.hid x2
        have HO2 := Lib.hid o2
        clear x2 o2 d0 d1 d2 d3 d4 d5 e5 e7 le5 hcj
        go_loopw [5, 30] (fun ov iv wr => iv = .int .i64 (0 : Int) ∧ pairK.Own W1.heap.size wr ov (wallsTo k j) ∧ Ext W1 wr) (fun _ _ _ => 0)
        case atStart => exact ⟨rfl, HO2.out, HX2.out⟩
        case round =>
          obtain ⟨rfl, hown, hx⟩ := hrel
          have HXI := Lib.hid hx
          have HOI := Lib.hid hown
          clear hx hown
          go_wp2_with fail
          go_roundw
          case rel => exact ⟨j + 1, by omega, by go_num, by rw [HV.out]; exact HOI.out, HXI.out⟩
          case measure => simp [intOf]; omega
    · obtain rfl : j = n := by omega
      clear hown hx
      go_wp2_with fail
      go_ret2
      exact retEW_mk (HO.out.mono hsz) HL.out HR.out (X1.out.trans HX.out)
end Go.Proofs.Ytgeapenglcohfaa
