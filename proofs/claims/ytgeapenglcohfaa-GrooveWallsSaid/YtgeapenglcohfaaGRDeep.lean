/- The reference's Deep. Condition: the cuts read as a list. -/
import Derived.Test.YtgeapenglcohfaaGRWk
import Derived.Test.YtgeapenglcohfaaGWkP
namespace Go.Proofs.Ytgeapenglcohfaa
open Go.RowKit

set_option maxRecDepth 100000 in
set_option maxHeartbeats 4000000 in
theorem refDeep_any (k : WkT) (v : Value) (w : World) (hI : CutsIs w v k.cuts) :
    Calls Try.prog 38 #[k.val v] w (RetEW intK w (deepL k) (workE k)) := by
  have HW := Lib.hid fun (W : World) (x : Ext w W) => refWork_any k v W (hI.ext x)
  obtain ⟨A, c, rfl, -, ⟨hcl, hcm⟩, hat⟩ := cutsIs_at hI
  have HAT := Lib.hid hat
  unfold maxLen at hcm
  clear hI hat
  cases hb : workB k
  · have HR := Lib.hid (workE_no hb)
    have HL := Lib.hid (deepL_no hb)
    rw [hb] at HW
    clear hb
    go_enter Try.func38, Try.ntmps38
    go_wp2_with fail
    refine (HW.out _ (by (repeat' (first | with_reducible exact Ext.refl _ | with_reducible apply Ext.alloc | with_reducible apply Ext.drew | with_reducible apply Ext.drewN | with_reducible refine Ext.setCell ?_ ?_ _ | with_reducible apply Ext.step | with_reducible assumption | with_reducible exact Nat.le_refl _ | (simp; done) | (simp; omega))))).mono ?_
    rintro e W1 ⟨rfl, x1⟩
    have HX1 := Lib.hid (show Ext w W1 from Ext.trans (by (repeat' (first | with_reducible exact Ext.refl _ | with_reducible apply Ext.alloc | with_reducible apply Ext.drew | with_reducible apply Ext.drewN | with_reducible refine Ext.setCell ?_ ?_ _ | with_reducible apply Ext.step | with_reducible assumption | with_reducible exact Nat.le_refl _ | (simp; done) | (simp; omega)))) x1)
    clear x1
    go_wp2_with fail
    go_ret2
    exact retEW_mk (EK.Own.nil _ _) HL.out HR.out HX1.out
  have HR := Lib.hid (workE_ok hb)
  have HL := Lib.hid (deepL_ok hb)
  obtain ⟨ht, _, h16, hcut⟩ := workB_iff.1 hb
  obtain ⟨_, _, _, _, ⟨t1, t2⟩, t3, t4⟩ := toolB_iff.1 ht
  rw [hb] at HW
  obtain ⟨n, hn⟩ : ∃ n, n = k.cuts.length := ⟨_, rfl⟩
  rw [← hn] at HW hcl HL ⊢
  rw [← hn] at h16
  have HN := Lib.hid hn
  have HCU := Lib.hid hcut
  clear hb ht hcut hn hcm hcl
  go_enter Try.func38, Try.ntmps38
  go_wp2_with fail
  refine (HW.out _ (by (repeat' (first | with_reducible exact Ext.refl _ | with_reducible apply Ext.alloc | with_reducible apply Ext.drew | with_reducible apply Ext.drewN | with_reducible refine Ext.setCell ?_ ?_ _ | with_reducible apply Ext.step | with_reducible assumption | with_reducible exact Nat.le_refl _ | (simp; done) | (simp; omega))))).mono ?_
  rintro e W1 ⟨rfl, x1⟩
  have HX1 := Lib.hid (show Ext w W1 from Ext.trans (by (repeat' (first | with_reducible exact Ext.refl _ | with_reducible apply Ext.alloc | with_reducible apply Ext.drew | with_reducible apply Ext.drewN | with_reducible refine Ext.setCell ?_ ?_ _ | with_reducible apply Ext.step | with_reducible assumption | with_reducible exact Nat.le_refl _ | (simp; done) | (simp; omega)))) x1)
  obtain ⟨c0, c1, c2, c3, c4, -, c6, -, -, -, -, -, c12⟩ := (WkAt.new k (.slice A n c) w).ext x1
  have hsz := HX1.out.bel.size
  have lc0 := cell_lt c0
  clear x1
  go_wp2_with fail
  go_loopw [4, 5] (fun ov iv wr => ∃ j : Nat, j ≤ n ∧ iv = .int .i64 j ∧ intK.Own W1.heap.size wr ov (deepTo k j) ∧ Ext W1 wr) (fun _ iv _ => n - (intOf iv).toNat)
  case atStart => exact ⟨0, by omega, rfl, EK.Own.nil _ _, Ext.refl _⟩
  case round =>
    obtain ⟨j, hj, rfl, hown, hx⟩ := hrel
    have HX := Lib.hid hx
    have HO := Lib.hid hown
    by_cases hlt : j < n
    · have hjl : j < k.cuts.length := by rw [← HN.out]; exact hlt
      obtain ⟨b, o, T, rfl, hb, d0, d1, d2, hsp⟩ := HAT.out j hjl
      replace d1 := hx.cell_some (HX1.out.cell_some d1)
      have hcb := HCU.out _ (List.getElem_mem hjl)
      have hpr : 0 ≤ k.cuts[j].2.1 ∧ k.cuts[j].2.1 ≤ 1000 := by
        unfold cutB at hcb
        simp only [Bool.and_eq_true] at hcb
        exact inB_iff.1 hcb.2
      have HDE := Lib.hid (show deepTo k (j + 1) = if k.deepest < highOf k.bite k.slack k.cuts[j].2.1 then deepTo k j ++ [(j : Int)] else deepTo k j by
        show (if k.deepest < hiK k (k.cuts[j]?.getD ([], 0, false)) then _ else _) = _
        rw [List.getElem?_eq_getElem hjl]
        rfl)
      have HDL := Lib.hid (deepTo_len k j)
      generalize k.cuts[j].2.1 = p at *
      have HH := Lib.hid fun W : World => refHigh_any k.tip k.num k.den k.bite k.slack p W t1 t2 t3 t4 hpr.1 hpr.2
      generalize highOf k.bite k.slack p = hp at *
      have e0 := hx.cell_some c0
      have e1 := hx.cell_some c1
      have e2 := hx.cell_some c2
      have e3 := hx.cell_some c3
      have e4 := hx.cell_some c4
      have e6 := hx.cell_some c6
      have e12 := hx.cell_some c12
      have l0 := cell_lt e0
      have lb := cell_lt d1
      clear d0 d2 hsp hcb hpr hown hx
      by_cases hg : k.deepest < hp
      · have HV := Lib.hid (show deepTo k (j + 1) = deepTo k j ++ [(j : Int)] by rw [HDE.out, if_pos hg])
        go_wp2_with fail
        refine wp_region_bext (by kernel_rfl) (by kernel_rfl) ?_
        repeat (any_goals (go_big_quiet_step ((go_at_call 64; with_reducible exact bext_call (HH.out _)))))
        all_goals refine wpQuiet_nil ?_
        all_goals rintro _ ⟨δ, rfl⟩
        have HX5 := Lib.hid (HX.out.trans (show Ext wr δ.wd from ⟨δ, rfl⟩))
        have HO5 := Lib.hid (HO.out.ext (show Ext wr δ.wd from ⟨δ, rfl⟩))
        generalize δ.wd = W5 at *
        obtain ⟨Av, kv, cv, rfl⟩ := own_shapeW HO5.out
        have hsz5 := HX5.out.bel.size
        go_wp2_with (at_builtin; refine EK.app (K := intK) (B := W1.heap.size) rfl (.tmp 28) (.tmp 30) rfl W5.heap.size 1 (j : Int) rfl rfl (fun i u hu => cell_new hu) (HO5.out.ext ((Ext.refl W5).alloc _)) (Nat.le_trans hsz5 ((Ext.refl W5).alloc _).bel.size) (by have := HDL.out; omega) ?_; intro v' w3 o3 b3 _; obtain ⟨Av3, kv3, cv3, rfl⟩ := own_shapeW o3; have HO3 := Lib.hid o3; have HB3 := Lib.hid b3; clear o3 b3)
        go_roundw
        case rel => exact ⟨j + 1, by omega, by go_num, by rw [HV.out]; exact HO3.out, (HX5.out.alloc _).below HB3.out (Nat.le_refl _)⟩
        case measure => simp [intOf]; omega
      · have HV := Lib.hid (show deepTo k (j + 1) = deepTo k j by rw [HDE.out, if_neg hg])
        go_wp2_with fail
        refine wp_region_bext (by kernel_rfl) (by kernel_rfl) ?_
        repeat (any_goals (go_big_quiet_step ((go_at_call 64; with_reducible exact bext_call (HH.out _)))))
        all_goals refine wpQuiet_nil ?_
        all_goals rintro _ ⟨δ, rfl⟩
        have HX5 := Lib.hid (HX.out.trans (show Ext wr δ.wd from ⟨δ, rfl⟩))
        have HO5 := Lib.hid (HO.out.ext (show Ext wr δ.wd from ⟨δ, rfl⟩))
        generalize δ.wd = W5 at *
        go_wp2_with fail
        go_roundw
        case rel => exact ⟨j + 1, by omega, by go_num, by rw [HV.out]; exact HO5.out, HX5.out⟩
        case measure => simp [intOf]; omega
    · obtain rfl : j = n := by omega
      have e12 := hx.cell_some c12
      have l12 := cell_lt e12
      clear hown hx
      go_wp2_with fail
      go_ret2
      exact retEW_mk (HO.out.mono hsz) HL.out HR.out (HX1.out.trans HX.out)
end Go.Proofs.Ytgeapenglcohfaa
