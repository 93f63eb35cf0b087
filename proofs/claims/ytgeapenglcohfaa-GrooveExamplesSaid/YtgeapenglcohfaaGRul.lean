/- groove.rulesOf: the rules of a work. Conditions: the cuts read as a list; the work is valid. Printed by rulgen.py. -/
import Derived.Test.YtgeapenglcohfaaGWalls
import Derived.Test.YtgeapenglcohfaaGRulP
import Derived.Test.YtgeapenglcohfaaQS
namespace Go.Proofs.Ytgeapenglcohfaa
open Go.RowKit

set_option maxRecDepth 100000 in
set_option maxHeartbeats 8000000 in
theorem rulesOf_any (k : WkT) (v : Value) (w : World) (hI : CutsIs w v k.cuts) (hb : workB k = true) :
    Calls Try.prog 85 #[k.val v] w fun e w' => ∃ g, e = .returned (.pointer (some ⟨g, 0, none⟩)) ∧ MatIs g (ruleM k) w' ∧ w.heap.size ≤ g ∧ Ext w w' := by
  obtain ⟨A, c, rfl, -⟩ := cutsIs_at hI
  have HS := Lib.hid fun (W : World) (x : Ext w W) => sides_any k _ W (hI.ext x) hb
  obtain ⟨hto, hfi, h16, hcu⟩ := workB_iff.1 hb
  have HTO := Lib.hid hto
  have HCU := Lib.hid hcu
  have HFI := Lib.hid hfi
  obtain ⟨n, hn⟩ : ∃ n, n = k.cuts.length := ⟨_, rfl⟩
  rw [← hn] at HS h16 ⊢
  have HN := Lib.hid hn
  clear hto hfi hcu hn hI hb
  go_enter Try.func85, Try.ntmps85
  go_wp2_with fail
  refine (HS.out _ (by (repeat' (first | with_reducible exact Ext.refl _ | with_reducible apply Ext.alloc | with_reducible apply Ext.drew | with_reducible apply Ext.drewN | with_reducible refine Ext.setCell ?_ ?_ _ | with_reducible apply Ext.step | with_reducible assumption | with_reducible exact Nat.le_refl _ | (simp; done) | (simp; omega))))).mono ?_
  rintro e W1 ⟨sv, rfl, hs, x1⟩
  obtain ⟨A1, c1, rfl, -⟩ := sidesIs_open HN.out hs
  obtain ⟨-, -, -, -, -, -, -, -, -, -, h10, h11, -⟩ := ((WkAt.new k (.slice A n c) w).ext ((Ext.refl _).alloc (.cells Try.zeroCells165 165))).ext x1
  have HG := Lib.hid (show BoxAt (w.heap.size + 1) Try.zeroCells165 165 W1 from BoxAt.ext (by simpa using BoxAt.new (w.alloc _) Try.zeroCells165 165) x1)
  have HM0 := Lib.hid (MatIs.new HG.out)
  have HSI := Lib.hid fun (W : World) (x : But [w.heap.size + 1] W1 W) => hs.off HM0.out.blk x
  have HX1 := Lib.hid (show Ext w W1 from Ext.trans (by (repeat' (first | with_reducible exact Ext.refl _ | with_reducible apply Ext.alloc | with_reducible apply Ext.drew | with_reducible apply Ext.drewN | with_reducible refine Ext.setCell ?_ ?_ _ | with_reducible apply Ext.step | with_reducible assumption | with_reducible exact Nat.le_refl _ | (simp; done) | (simp; omega)))) x1)
  have lh10 := cell_lt h10
  have lg1 := HG.out.lt
  clear hs x1
  go_wp2_with fail
  go_loopw [14] (fun iv wr => ∃ i : Nat, i ≤ n ∧ iv = .int .i64 i ∧ But [w.heap.size + 1] W1 wr ∧ MatIs (w.heap.size + 1) (ruleTo k i 0) wr) (fun iv _ => n - (intOf iv).toNat)
  case atStart => exact ⟨0, by omega, rfl, But.refl _ _, HM0.out.congr fun p q _ _ => (ruleTo_zero k p q).symm⟩
  case round =>
    obtain ⟨i, hi, rfl, hbut, hmat⟩ := hrel
    obtain ⟨wo, rfl⟩ : ∃ wo, wo = wr := ⟨wr, rfl⟩
    have HBO := Lib.hid hbut
    have HMO := Lib.hid hmat
    by_cases hlt : i < n
    · have hil : i < k.cuts.length := by rw [← HN.out]; exact hlt
      obtain ⟨A1', c1', he, -, -, hat⟩ := sidesIs_open HN.out (HSI.out wo hbut)
      cases he
      obtain ⟨b, o, T, F, rfl, hb, ⟨d0, d1, d2, d3, d4, d5⟩, hT, hF⟩ := hat i hil
      have HT := Lib.hid hT
      have HF := Lib.hid hF
      obtain ⟨T1, T2, T3⟩ := T
      obtain ⟨F1, F2, F3⟩ := F
      simp only [rowV] at d0 d1
      have HC := Lib.hid (show cutAt k i = k.cuts[i] from cutAt_eq hil)
      have HBA := Lib.hid (reach_bd HTO.out (HCU.out _ (List.getElem_mem hil)))
      obtain ⟨ha, hha⟩ : ∃ x, x = hiK k k.cuts[i] := ⟨_, rfl⟩
      obtain ⟨ra, hra⟩ : ∃ x, x = reachK k k.cuts[i] := ⟨_, rfl⟩
      obtain ⟨pa, hpa⟩ : ∃ x, x = k.cuts[i].2.1 := ⟨_, rfl⟩
      obtain ⟨ca, hca⟩ : ∃ x, x = k.cuts[i].2.2 := ⟨_, rfl⟩
      rw [← hha] at d2
      rw [← hra] at d3 HBA
      rw [← hpa] at d4
      rw [← hca] at d5
      have HRA := Lib.hid hra
      have HPA := Lib.hid hpa
      have lb := cell_lt d0
      clear hbut hmat hat hT hF hha hra hpa hca
      go_wp2_with fail
      refine lay_wp (fun W => But [w.heap.size + 1] wo W ∧ But [w.heap.size + 1] W1 W ∧ MatIs (w.heap.size + 1) (ruleTo k i 0) W ∧ BoxAt wo.heap.size #[.slice T1 T2 T3, .slice F1 F2 F3, .int .i64 ha, .int .i64 ra, .int .i64 pa, .bool ca] 130 W) ⟨((Ext.refl _).alloc _).but, HBO.out.ext ((Ext.refl _).alloc _), HMO.out.ext ((Ext.refl _).alloc _), BoxAt.new _ _ _⟩ ?_
      rintro W2 ⟨b20, b2, m2, bx2⟩
      have HB20 := Lib.hid b20
      have HB2 := Lib.hid b2
      have HM2 := Lib.hid m2
      have HBX := Lib.hid bx2
      have hwo := HBO.out.size
      have hw2 := b20.size
      clear b20 b2 m2 bx2 d0 d1 d2 d3 d4 d5 lb
      go_loopw [21] (fun iv wr => ∃ m : Nat, m ≤ n ∧ iv = .int .i64 m ∧ But [w.heap.size + 1] W2 wr ∧ MatIs (w.heap.size + 1) (ruleTo k i m) wr) (fun iv _ => n - (intOf iv).toNat)
      case atStart => exact ⟨0, by omega, rfl, But.refl _ _, HM2.out⟩
      case round =>
        obtain ⟨m, hm, rfl, hbut, hmat⟩ := hrel
        have HBI := Lib.hid hbut
        have HMI := Lib.hid hmat
        by_cases hmn : m < n
        · have hml : m < k.cuts.length := by rw [← HN.out]; exact hmn
          have HB1 := Lib.hid (HB2.out.trans hbut)
          have HBW := Lib.hid (HB20.out.trans hbut)
          obtain ⟨A2', c2', he, -, -, hat⟩ := sidesIs_open HN.out (HSI.out wr HB1.out)
          cases he
          obtain ⟨b', o', T', F', he, hb', ⟨d0, d1, d2, d3, d4, d5⟩, hT', -⟩ := hat m hml
          cases he
          have HT2 := Lib.hid (spot_off HMO.out.blk HBW.out HT.out)
          have HF2 := Lib.hid (spot_off HMO.out.blk HBW.out HF.out)
          have HT' := Lib.hid hT'
          obtain ⟨T1', T2', T3'⟩ := T'
          obtain ⟨F1', F2', F3'⟩ := F'
          simp only [rowV] at d0 d1
          have HC2 := Lib.hid (show cutAt k m = k.cuts[m] from cutAt_eq hml)
          have HBB := Lib.hid (reach_bd HTO.out (HCU.out _ (List.getElem_mem hml)))
          obtain ⟨hb2, hhb⟩ : ∃ x, x = hiK k k.cuts[m] := ⟨_, rfl⟩
          obtain ⟨rb, hrb⟩ : ∃ x, x = reachK k k.cuts[m] := ⟨_, rfl⟩
          obtain ⟨pb, hpb⟩ : ∃ x, x = k.cuts[m].2.1 := ⟨_, rfl⟩
          generalize k.cuts[m].2.2 = cb at *
          rw [← hhb] at d2
          rw [← hrb] at d3 HBB
          rw [← hpb] at d4
          have sa0 : wr.cell? ⟨wo.heap.size, 0, none⟩ = some (.slice T1 T2 T3) := hbut.cell (HBX.out.cell rfl) (by simp; omega)
          have sa1 : wr.cell? ⟨wo.heap.size, 1, none⟩ = some (.slice F1 F2 F3) := hbut.cell (HBX.out.cell rfl) (by simp; omega)
          have sa3 : wr.cell? ⟨wo.heap.size, 3, none⟩ = some (.int .i64 ra) := hbut.cell (HBX.out.cell rfl) (by simp; omega)
          have sa4 : wr.cell? ⟨wo.heap.size, 4, none⟩ = some (.int .i64 pa) := hbut.cell (HBX.out.cell rfl) (by simp; omega)
          have e10 := HB1.out.cell h10 (by simp)
          have e11 := HB1.out.cell h11 (by simp)
          have lsa := cell_lt sa0
          have le10 := cell_lt e10
          have lb' := cell_lt d0
          have hwr := HBI.out.size
          obtain ⟨r1, r2⟩ := HBA.out
          obtain ⟨r3, r4⟩ := HBB.out
          have hl1 := lineB_len (cutB_line (HCU.out _ (List.getElem_mem hil)))
          have hl2 := lineB_len (cutB_line (HCU.out _ (List.getElem_mem hml)))
          obtain ⟨-, -, -, -, fh1, fh2⟩ := fields_bd HFI.out
          have HNF := Lib.hid fun (W : World) (x : Ext wr W) => near_any (.slice F1 F2 F3) (.slice T1' T2' T3') (footL k k.cuts[i].1) k.cuts[m].1 (k.fh + rb) W (HF2.out.ext x) (HT'.out.ext x) (by rw [footL_len]; exact hl1) hl2 (footL_co HFI.out (cutB_line (HCU.out _ (List.getElem_mem hil)))) (lineB_co (cutB_line (HCU.out _ (List.getElem_mem hml)))) (by omega) (by omega)
          have HNO := Lib.hid fun (W : World) (x : Ext wr W) => near_any (.slice T1 T2 T3) (.slice T1' T2' T3') k.cuts[i].1 k.cuts[m].1 (ra + rb) W (HT2.out.ext x) (HT'.out.ext x) hl1 hl2 (lineB_co (cutB_line (HCU.out _ (List.getElem_mem hil)))) (lineB_co (cutB_line (HCU.out _ (List.getElem_mem hml)))) (by omega) (by omega)
          have HFA := Lib.hid (show fallsB k (cutAt k i) (cutAt k m) = (decide (k.fd < hb2) && nearB (footL k k.cuts[i].1) k.cuts[m].1 (k.fh + rb)) by unfold fallsB; rw [HC.out, HC2.out, hhb, hrb])
          have HOV := Lib.hid (show overB k (cutAt k i) (cutAt k m) = (decide (pb < pa) && nearB k.cuts[i].1 k.cuts[m].1 (ra + rb)) by unfold overB; rw [HC.out, HC2.out, hpb, hrb, HRA.out, HPA.out])
          clear hbut hmat hat hT' hhb hrb hpb hl1 hl2
          by_cases him : i = m
          · subst him
            have HRM := Lib.hid (ruleM_same k i)
            have HMX := Lib.hid ((HMI.out.ext ((Ext.refl _).alloc (.cells #[.slice T1' T2' T3', .slice F1' F2' F3', .int .i64 hb2, .int .i64 rb, .int .i64 pb, .bool cb] 130))).congr fun p q _ _ => ruleTo_skip HRM.out p q)
            go_wp2_with fail
            go_roundw
            case rel => exact ⟨i + 1, by omega, by go_num, HBI.out.ext ((Ext.refl _).alloc _), HMX.out⟩
            case measure => simp [intOf]; omega
          · have himd : ((i : Int) == (m : Int)) = false := by simp; omega
            have hi16 : (i : Int) < 16 := by omega
            have hm16 : (m : Int) < 16 := by omega
            have hwr1 : IntKind.i64.wrap (ra + rb) = ra + rb := IntWalk.i64_in _ (by omega)
            have HRU := Lib.hid (show ruleM k i m = (fallsB k (cutAt k i) (cutAt k m) || overB k (cutAt k i) (cutAt k m)) from ruleM_at hil hml him)
            by_cases hfd : k.fd < hb2
            · have hfdd : decide (k.fd < hb2) = true := decide_eq_true hfd
              cases hnf : nearB (footL k k.cuts[i].1) k.cuts[m].1 (k.fh + rb)
              · have HF0 := Lib.hid (show fallsB k (cutAt k i) (cutAt k m) = false by rw [HFA.out, hnf, Bool.and_false])
                rw [hnf] at HNF
                clear hnf
                go_wp2_with fail
                refine (HNF.out _ (by (repeat' (first | with_reducible exact Ext.refl _ | with_reducible apply Ext.alloc | with_reducible apply Ext.drew | with_reducible apply Ext.drewN | with_reducible refine Ext.setCell ?_ ?_ _ | with_reducible apply Ext.step | with_reducible assumption | with_reducible exact Nat.le_refl _ | (simp; done) | (simp; omega))))).mono ?_
                rintro e W4 ⟨rfl, x4⟩
                have HX4 := Lib.hid (show Ext wr W4 from Ext.trans (by (repeat' (first | with_reducible exact Ext.refl _ | with_reducible apply Ext.alloc | with_reducible apply Ext.drew | with_reducible apply Ext.drewN | with_reducible refine Ext.setCell ?_ ?_ _ | with_reducible apply Ext.step | with_reducible assumption | with_reducible exact Nat.le_refl _ | (simp; done) | (simp; omega)))) x4)
                have sa0 : W4.cell? ⟨wo.heap.size, 0, none⟩ = some (.slice T1 T2 T3) := x4.cell_some (by go_cell)
                have sa3 : W4.cell? ⟨wo.heap.size, 3, none⟩ = some (.int .i64 ra) := x4.cell_some (by go_cell)
                have sa4 : W4.cell? ⟨wo.heap.size, 4, none⟩ = some (.int .i64 pa) := x4.cell_some (by go_cell)
                have sb0 : W4.cell? ⟨wr.heap.size, 0, none⟩ = some (.slice T1' T2' T3') := x4.cell_some (by go_cell)
                have sb3 : W4.cell? ⟨wr.heap.size, 3, none⟩ = some (.int .i64 rb) := x4.cell_some (by go_cell)
                have sb4 : W4.cell? ⟨wr.heap.size, 4, none⟩ = some (.int .i64 pb) := x4.cell_some (by go_cell)
                have lsa := cell_lt sa0
                have lsb := cell_lt sb0
                clear x4 sa1 d0 d1 d2 d3 d4 d5 e10 e11 le10 lb'
                go_wp2_with fail
                have q0 := But.cells (D := []) sa0 (by simp)
                have q1 := But.cells (D := []) sa3 (by simp)
                have q2 := But.cells (D := []) sa4 (by simp)
                have q3 := But.cells (D := []) sb0 (by simp)
                have q4 := But.cells (D := []) sb3 (by simp)
                have q5 := But.cells (D := []) sb4 (by simp)
                by_cases hov : pb < pa
                · have hovd : decide (pb < pa) = true := decide_eq_true hov
                  cases hn2 : nearB k.cuts[i].1 k.cuts[m].1 (ra + rb)
                  all_goals
                    have HRM := Lib.hid (show ruleM k i m = _ by rw [HRU.out, HF0.out, Bool.false_or, HOV.out, hovd, Bool.true_and, hn2])
                    have HN2 := Lib.hid fun (W : World) (x : Ext W4 W) => HNO.out W (HX4.out.trans x)
                    rw [hn2] at HN2
                    clear hn2
                    refine (wpIn_wide (n := 3)).1 ?_
                    refine wpIn_region_steps [] 24 [(0, true), (1, true), (2, true), (3, true), (4, true), (5, true), (6, true), (7, true), (8, true), (9, true), (10, true), (11, true), (12, true), (13, true), (14, true), (15, true), (16, true), (17, true), (18, true), (19, true), (20, true), (21, true), (22, true), (23, true)] (by kernel_rfl) (by kernel_rfl) ?_
                    iterate 19 (refine wpSD_q (by rfl) (fun _ _ _ => trivial) (fun K hK => ?_); go_simp; refine hK _ ?_; clear hK K)
                    refine wpSD_q (by rfl) (fun _ _ _ => trivial) (fun K hK => ?_)
                    go_simp
                    refine ⟨_, fun δ => callsIn_wide.2 (HN2.out δ.wd (δ.but.below (Ext.refl _) (by simp))), hK _ ?_⟩
                    clear hK K
                    iterate 4 (refine wpSD_q (by rfl) (fun _ _ _ => trivial) (fun K hK => ?_); go_simp; refine hK _ ?_; clear hK K)
                    refine wpSD_nil ?_
                    intro W5 x5
                    simp only [List.drop_succ_cons, List.drop_zero]
                    have HB5 := Lib.hid (show But [w.heap.size + 1] W2 W5 from (HBI.out.ext HX4.out).ext x5)
                    have HM5 := Lib.hid ((HMI.out.ext HX4.out).ext x5)
                    obtain ⟨z1, z2⟩ := HM5.out.at_ i m (by omega) (by omega)
                    have lm := cell_lt z1
                    clear x5 q0 q1 q2 q3 q4 q5 sa0 sa3 sa4 sb0 sb3 sb4
                    gi_wp2
                    go_wp2_with fail
                    go_roundw
                    case rel => exact ⟨m + 1, by omega, by go_num, HB5.out.setCell (by simp) _, (HM5.out.put (by omega) (by omega) _).congr fun p q _ _ => ruleTo_put HRM.out p q⟩
                    case measure => simp [intOf]; omega
                · have hovd : decide (pb < pa) = false := decide_eq_false hov
                  have HRM := Lib.hid (show ruleM k i m = false by rw [HRU.out, HF0.out, Bool.false_or, HOV.out, hovd, Bool.false_and])
                  refine (wpIn_wide (n := 3)).1 ?_
                  refine wpIn_region_steps [] 24 [(0, true), (1, true), (2, true), (3, true), (4, true), (5, true), (6, true), (7, true), (8, true), (9, true), (10, true), (11, true), (12, true), (13, true), (14, true), (15, true), (16, true), (17, true), (18, true), (19, true), (20, true), (21, true), (22, true), (23, true)] (by kernel_rfl) (by kernel_rfl) ?_
                  iterate 24 (refine wpSD_q (by rfl) (fun _ _ _ => trivial) (fun K hK => ?_); go_simp; refine hK _ ?_; clear hK K)
                  refine wpSD_nil ?_
                  intro W5 x5
                  simp only [List.drop_succ_cons, List.drop_zero]
                  have HB5 := Lib.hid (show But [w.heap.size + 1] W2 W5 from (HBI.out.ext HX4.out).ext x5)
                  have HM5 := Lib.hid ((HMI.out.ext HX4.out).ext x5)
                  obtain ⟨z1, z2⟩ := HM5.out.at_ i m (by omega) (by omega)
                  have lm := cell_lt z1
                  clear x5 q0 q1 q2 q3 q4 q5 sa0 sa3 sa4 sb0 sb3 sb4
                  gi_wp2
                  go_wp2_with fail
                  go_roundw
                  case rel => exact ⟨m + 1, by omega, by go_num, HB5.out.setCell (by simp) _, (HM5.out.put (by omega) (by omega) _).congr fun p q _ _ => ruleTo_put HRM.out p q⟩
                  case measure => simp [intOf]; omega
              · have HRM := Lib.hid (show ruleM k i m = true by rw [HRU.out, HFA.out, hfdd, hnf]; rfl)
                rw [hnf] at HNF
                clear hnf
                go_wp2_with fail
                refine (HNF.out _ (by (repeat' (first | with_reducible exact Ext.refl _ | with_reducible apply Ext.alloc | with_reducible apply Ext.drew | with_reducible apply Ext.drewN | with_reducible refine Ext.setCell ?_ ?_ _ | with_reducible apply Ext.step | with_reducible assumption | with_reducible exact Nat.le_refl _ | (simp; done) | (simp; omega))))).mono ?_
                rintro e W4 ⟨rfl, x4⟩
                have HX4 := Lib.hid (show Ext wr W4 from Ext.trans (by (repeat' (first | with_reducible exact Ext.refl _ | with_reducible apply Ext.alloc | with_reducible apply Ext.drew | with_reducible apply Ext.drewN | with_reducible refine Ext.setCell ?_ ?_ _ | with_reducible apply Ext.step | with_reducible assumption | with_reducible exact Nat.le_refl _ | (simp; done) | (simp; omega)))) x4)
                have sa0 : W4.cell? ⟨wo.heap.size, 0, none⟩ = some (.slice T1 T2 T3) := x4.cell_some (by go_cell)
                have sa3 : W4.cell? ⟨wo.heap.size, 3, none⟩ = some (.int .i64 ra) := x4.cell_some (by go_cell)
                have sa4 : W4.cell? ⟨wo.heap.size, 4, none⟩ = some (.int .i64 pa) := x4.cell_some (by go_cell)
                have sb0 : W4.cell? ⟨wr.heap.size, 0, none⟩ = some (.slice T1' T2' T3') := x4.cell_some (by go_cell)
                have sb3 : W4.cell? ⟨wr.heap.size, 3, none⟩ = some (.int .i64 rb) := x4.cell_some (by go_cell)
                have sb4 : W4.cell? ⟨wr.heap.size, 4, none⟩ = some (.int .i64 pb) := x4.cell_some (by go_cell)
                have lsa := cell_lt sa0
                have lsb := cell_lt sb0
                clear x4 sa1 d0 d1 d2 d3 d4 d5 e10 e11 le10 lb'
                go_wp2_with fail
                have q0 := But.cells (D := []) sa0 (by simp)
                have q1 := But.cells (D := []) sa3 (by simp)
                have q2 := But.cells (D := []) sa4 (by simp)
                have q3 := But.cells (D := []) sb0 (by simp)
                have q4 := But.cells (D := []) sb3 (by simp)
                have q5 := But.cells (D := []) sb4 (by simp)
                refine (wpIn_wide (n := 3)).1 ?_
                refine wpIn_region_steps [] 24 [(0, true), (1, true), (2, true), (3, true), (4, true), (5, true), (6, true), (7, true), (8, true), (9, true), (10, true), (11, true), (12, true), (13, true), (14, true), (15, true), (16, true), (17, true), (18, true), (19, true), (20, true), (21, true), (22, true), (23, true)] (by kernel_rfl) (by kernel_rfl) ?_
                iterate 24 (refine wpSD_q (by rfl) (fun _ _ _ => trivial) (fun K hK => ?_); go_simp; refine hK _ ?_; clear hK K)
                refine wpSD_nil ?_
                intro W5 x5
                simp only [List.drop_succ_cons, List.drop_zero]
                have HB5 := Lib.hid (show But [w.heap.size + 1] W2 W5 from (HBI.out.ext HX4.out).ext x5)
                have HM5 := Lib.hid ((HMI.out.ext HX4.out).ext x5)
                obtain ⟨z1, z2⟩ := HM5.out.at_ i m (by omega) (by omega)
                have lm := cell_lt z1
                clear x5 q0 q1 q2 q3 q4 q5 sa0 sa3 sa4 sb0 sb3 sb4
                gi_wp2
                go_wp2_with fail
                go_roundw
                case rel => exact ⟨m + 1, by omega, by go_num, HB5.out.setCell (by simp) _, (HM5.out.put (by omega) (by omega) _).congr fun p q _ _ => ruleTo_put HRM.out p q⟩
                case measure => simp [intOf]; omega
            · have hfdd : decide (k.fd < hb2) = false := decide_eq_false hfd
              have HF0 := Lib.hid (show fallsB k (cutAt k i) (cutAt k m) = false by rw [HFA.out, hfdd, Bool.false_and])
              go_wp2_with fail
              refine lay_wp (fun W => Ext (wr.alloc (.cells #[.slice T1' T2' T3', .slice F1' F2' F3', .int .i64 hb2, .int .i64 rb, .int .i64 pb, .bool cb] 130)) W) (Ext.refl _) ?_
              rintro W4 x4
              have HX4 := Lib.hid (show Ext wr W4 from Ext.trans (by (repeat' (first | with_reducible exact Ext.refl _ | with_reducible apply Ext.alloc | with_reducible apply Ext.drew | with_reducible apply Ext.drewN | with_reducible refine Ext.setCell ?_ ?_ _ | with_reducible apply Ext.step | with_reducible assumption | with_reducible exact Nat.le_refl _ | (simp; done) | (simp; omega)))) x4)
              have sa0 : W4.cell? ⟨wo.heap.size, 0, none⟩ = some (.slice T1 T2 T3) := x4.cell_some (by go_cell)
              have sa3 : W4.cell? ⟨wo.heap.size, 3, none⟩ = some (.int .i64 ra) := x4.cell_some (by go_cell)
              have sa4 : W4.cell? ⟨wo.heap.size, 4, none⟩ = some (.int .i64 pa) := x4.cell_some (by go_cell)
              have sb0 : W4.cell? ⟨wr.heap.size, 0, none⟩ = some (.slice T1' T2' T3') := x4.cell_some (by go_cell)
              have sb3 : W4.cell? ⟨wr.heap.size, 3, none⟩ = some (.int .i64 rb) := x4.cell_some (by go_cell)
              have sb4 : W4.cell? ⟨wr.heap.size, 4, none⟩ = some (.int .i64 pb) := x4.cell_some (by go_cell)
              have lsa := cell_lt sa0
              have lsb := cell_lt sb0
              clear x4 sa1 d0 d1 d2 d3 d4 d5 e10 e11 le10 lb'
              have q0 := But.cells (D := []) sa0 (by simp)
              have q1 := But.cells (D := []) sa3 (by simp)
              have q2 := But.cells (D := []) sa4 (by simp)
              have q3 := But.cells (D := []) sb0 (by simp)
              have q4 := But.cells (D := []) sb3 (by simp)
              have q5 := But.cells (D := []) sb4 (by simp)
              by_cases hov : pb < pa
              · have hovd : decide (pb < pa) = true := decide_eq_true hov
                cases hn2 : nearB k.cuts[i].1 k.cuts[m].1 (ra + rb)
                all_goals
                  have HRM := Lib.hid (show ruleM k i m = _ by rw [HRU.out, HF0.out, Bool.false_or, HOV.out, hovd, Bool.true_and, hn2])
                  have HN2 := Lib.hid fun (W : World) (x : Ext W4 W) => HNO.out W (HX4.out.trans x)
                  rw [hn2] at HN2
                  clear hn2
                  refine (wpIn_wide (n := 3)).1 ?_
                  refine wpIn_region_steps [] 24 [(0, true), (1, true), (2, true), (3, true), (4, true), (5, true), (6, true), (7, true), (8, true), (9, true), (10, true), (11, true), (12, true), (13, true), (14, true), (15, true), (16, true), (17, true), (18, true), (19, true), (20, true), (21, true), (22, true), (23, true)] (by kernel_rfl) (by kernel_rfl) ?_
                  iterate 19 (refine wpSD_q (by rfl) (fun _ _ _ => trivial) (fun K hK => ?_); go_simp; refine hK _ ?_; clear hK K)
                  refine wpSD_q (by rfl) (fun _ _ _ => trivial) (fun K hK => ?_)
                  go_simp
                  refine ⟨_, fun δ => callsIn_wide.2 (HN2.out δ.wd (δ.but.below (Ext.refl _) (by simp))), hK _ ?_⟩
                  clear hK K
                  iterate 4 (refine wpSD_q (by rfl) (fun _ _ _ => trivial) (fun K hK => ?_); go_simp; refine hK _ ?_; clear hK K)
                  refine wpSD_nil ?_
                  intro W5 x5
                  simp only [List.drop_succ_cons, List.drop_zero]
                  have HB5 := Lib.hid (show But [w.heap.size + 1] W2 W5 from (HBI.out.ext HX4.out).ext x5)
                  have HM5 := Lib.hid ((HMI.out.ext HX4.out).ext x5)
                  obtain ⟨z1, z2⟩ := HM5.out.at_ i m (by omega) (by omega)
                  have lm := cell_lt z1
                  clear x5 q0 q1 q2 q3 q4 q5 sa0 sa3 sa4 sb0 sb3 sb4
                  gi_wp2
                  go_wp2_with fail
                  go_roundw
                  case rel => exact ⟨m + 1, by omega, by go_num, HB5.out.setCell (by simp) _, (HM5.out.put (by omega) (by omega) _).congr fun p q _ _ => ruleTo_put HRM.out p q⟩
                  case measure => simp [intOf]; omega
              · have hovd : decide (pb < pa) = false := decide_eq_false hov
                have HRM := Lib.hid (show ruleM k i m = false by rw [HRU.out, HF0.out, Bool.false_or, HOV.out, hovd, Bool.false_and])
                refine (wpIn_wide (n := 3)).1 ?_
                refine wpIn_region_steps [] 24 [(0, true), (1, true), (2, true), (3, true), (4, true), (5, true), (6, true), (7, true), (8, true), (9, true), (10, true), (11, true), (12, true), (13, true), (14, true), (15, true), (16, true), (17, true), (18, true), (19, true), (20, true), (21, true), (22, true), (23, true)] (by kernel_rfl) (by kernel_rfl) ?_
                iterate 24 (refine wpSD_q (by rfl) (fun _ _ _ => trivial) (fun K hK => ?_); go_simp; refine hK _ ?_; clear hK K)
                refine wpSD_nil ?_
                intro W5 x5
                simp only [List.drop_succ_cons, List.drop_zero]
                have HB5 := Lib.hid (show But [w.heap.size + 1] W2 W5 from (HBI.out.ext HX4.out).ext x5)
                have HM5 := Lib.hid ((HMI.out.ext HX4.out).ext x5)
                obtain ⟨z1, z2⟩ := HM5.out.at_ i m (by omega) (by omega)
                have lm := cell_lt z1
                clear x5 q0 q1 q2 q3 q4 q5 sa0 sa3 sa4 sb0 sb3 sb4
                gi_wp2
                go_wp2_with fail
                go_roundw
                case rel => exact ⟨m + 1, by omega, by go_num, HB5.out.setCell (by simp) _, (HM5.out.put (by omega) (by omega) _).congr fun p q _ _ => ruleTo_put HRM.out p q⟩
                case measure => simp [intOf]; omega
        · obtain rfl : m = n := by omega
          have HV := Lib.hid (HMI.out.congr fun p q _ _ => show ruleTo k i m p q = ruleTo k (i + 1) 0 p q by rw [HN.out]; exact ruleTo_row p q)
          have HBV := Lib.hid (HB2.out.trans HBI.out)
          clear hbut hmat
          go_wp2_with fail
          go_roundw
          case rel => exact ⟨i + 1, by omega, by go_num, HBV.out, HV.out⟩
          case measure => simp [intOf]; omega
    · obtain rfl : i = n := by omega
      have HV := Lib.hid (HMO.out.congr fun p q _ _ => show ruleTo k i 0 p q = ruleM k p q by rw [HN.out]; exact ruleTo_all p q)
      clear hbut hmat
      go_wp2_with fail
      go_ret
      exact ⟨_, rfl, HV.out, by omega, HBO.out.below HX1.out (by simp)⟩
end Go.Proofs.Ytgeapenglcohfaa
