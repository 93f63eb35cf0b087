/- groove.Deep. Condition: the cuts read as a list. -/
import Derived.Test.YtgeapenglcohfaaGWalls
import Derived.Deep.Cut
namespace Go.Proofs.Ytgeapenglcohfaa
open Go.RowKit

set_option maxRecDepth 100000 in
set_option maxHeartbeats 4000000 in
theorem deep_any (k : WkT) (v : Value) (w : World) (hI : CutsIs w v k.cuts) :
    Calls Try.prog 37 #[k.val v] w (RetEW intK w (deepL k) (workE k)) := by
  obtain ⟨A, c, rfl, -⟩ := cutsIs_at hI
  cases hb : workB k
  · have HW := Lib.hid fun (W : World) (x : Ext w W) => check_no (k := k) (hI.ext x) hb
    have HR := Lib.hid (workE_no hb)
    have HL := Lib.hid (deepL_no hb)
    clear hb hI
    go_enter Try.func37, Try.ntmps37
    go_wp2_with fail
    refine (HW.out _ (by (repeat' (first | with_reducible exact Ext.refl _ | with_reducible apply Ext.alloc | with_reducible apply Ext.drew | with_reducible apply Ext.drewN | with_reducible refine Ext.setCell ?_ ?_ _ | with_reducible apply Ext.step | with_reducible assumption | with_reducible exact Nat.le_refl _ | (simp; done) | (simp; omega))))).mono ?_
    rintro e W1 ⟨rfl, x1⟩
    have HX1 := Lib.hid (show Ext w W1 from Ext.trans (by (repeat' (first | with_reducible exact Ext.refl _ | with_reducible apply Ext.alloc | with_reducible apply Ext.drew | with_reducible apply Ext.drewN | with_reducible refine Ext.setCell ?_ ?_ _ | with_reducible apply Ext.step | with_reducible assumption | with_reducible exact Nat.le_refl _ | (simp; done) | (simp; omega)))) x1)
    clear x1
    go_wp2_with fail
    go_ret2
    exact retEW_mk (EK.Own.nil _ _) HL.out HR.out HX1.out
  have HW := Lib.hid fun (W : World) (x : Ext w W) => check_ok (k := k) (hI.ext x) hb
  have HS := Lib.hid fun (W : World) (x : Ext w W) => sides_any k _ W (hI.ext x) hb
  have HR := Lib.hid (workE_ok hb)
  have HL := Lib.hid (deepL_ok hb)
  obtain ⟨hto, hfi, h16, hcu⟩ := workB_iff.1 hb
  obtain ⟨n, hn⟩ : ∃ n, n = k.cuts.length := ⟨_, rfl⟩
  rw [← hn] at HW HS HL h16 ⊢
  have HN := Lib.hid hn
  clear hb hn hI hto hfi hcu
  go_enter Try.func37, Try.ntmps37
  go_wp2_with fail
  refine (HW.out _ (by (repeat' (first | with_reducible exact Ext.refl _ | with_reducible apply Ext.alloc | with_reducible apply Ext.drew | with_reducible apply Ext.drewN | with_reducible refine Ext.setCell ?_ ?_ _ | with_reducible apply Ext.step | with_reducible assumption | with_reducible exact Nat.le_refl _ | (simp; done) | (simp; omega))))).mono ?_
  rintro e W0 ⟨rfl, x0⟩
  have xw0 : Ext w W0 := Ext.trans (by (repeat' (first | with_reducible exact Ext.refl _ | with_reducible apply Ext.alloc | with_reducible apply Ext.drew | with_reducible apply Ext.drewN | with_reducible refine Ext.setCell ?_ ?_ _ | with_reducible apply Ext.step | with_reducible assumption | with_reducible exact Nat.le_refl _ | (simp; done) | (simp; omega)))) x0
  have HX0 := Lib.hid xw0
  obtain ⟨h0, h1, h2, h3, h4, h5, h6, h7, h8, h9, h10, h11, h12⟩ := (WkAt.new k (.slice A n c) w).ext x0
  have lh0 := cell_lt h0
  clear x0 xw0
  go_wp2_with fail
  refine (HS.out _ HX0.out).mono ?_
  rintro e W1 ⟨sv, rfl, hs, x1⟩
  obtain ⟨A1, c1, rfl, -, ⟨hc1, hc2⟩, hat⟩ := sidesIs_open HN.out hs
  have X1 := Lib.hid (HX0.out.trans x1)
  have HAT := Lib.hid hat
  replace h6 := x1.cell_some h6
  have lh6 := cell_lt h6
  have hsz := X1.out.bel.size
  clear hs hat x1 h0 h1 h2 h3 h4 h5 h7 h8 h9 h10 h11 h12 lh0
  go_wp2_with fail
  go_loopw [5, 16] (fun ov iv wr => ∃ j : Nat, j ≤ n ∧ iv = .int .i64 j ∧ intK.Own W1.heap.size wr ov (deepTo k j) ∧ Ext W1 wr) (fun _ iv _ => n - (intOf iv).toNat)
  case atStart => exact ⟨0, by omega, rfl, EK.Own.nil _ _, Ext.refl _⟩
  case round =>
    obtain ⟨j, hj, rfl, hown, hx⟩ := hrel
    have HX := Lib.hid hx
    have HO := Lib.hid hown
    by_cases hlt : j < n
    · have hjl : j < k.cuts.length := by rw [← HN.out]; exact hlt
      obtain ⟨b, o, T, F, rfl, hb, ⟨d0, d1, d2, d3, d4, d5⟩, -, -⟩ := HAT.out j hjl
      obtain ⟨T1, T2, T3⟩ := T
      obtain ⟨F1, F2, F3⟩ := F
      simp only [rowV] at d0 d1
      replace d0 := hx.cell_some d0
      replace d1 := hx.cell_some d1
      replace d2 := hx.cell_some d2
      replace d3 := hx.cell_some d3
      replace d4 := hx.cell_some d4
      replace d5 := hx.cell_some d5
      have e6 := hx.cell_some h6
      have HDE := Lib.hid (show deepTo k (j + 1) = if k.deepest < hiK k k.cuts[j] then deepTo k j ++ [(j : Int)] else deepTo k j by
        show (if k.deepest < hiK k (k.cuts[j]?.getD ([], 0, false)) then _ else _) = _
        rw [List.getElem?_eq_getElem hjl]
        rfl)
      have HDL := Lib.hid (deepTo_len k j)
      generalize hiK k k.cuts[j] = hi at *
      generalize reachK k k.cuts[j] = re at *
      generalize k.cuts[j].2.1 = pr at *
      generalize k.cuts[j].2.2 = cr at *
      have lb := cell_lt d0
      have le6 := cell_lt e6
      have hin : (j : Int) < (n : Int) := by omega
      clear hown hx
      go_upto_region 8 with fail
      refine lay_wp (fun W => Ext W1 W ∧ intK.Own W1.heap.size W _ (deepTo k j) ∧ W.cell? ⟨wr.heap.size, 2, none⟩ = some (.int .i64 hi) ∧ W.cell? ⟨w.heap.size, 6, none⟩ = some (.int .i64 k.deepest)) ⟨HX.out.alloc _, HO.out.ext ((Ext.refl _).alloc _), by go_cell, ((Ext.refl wr).alloc _).cell_some e6⟩ ?_
      rintro W5 ⟨x5, o5, c2, c6⟩
      have HX5 := Lib.hid x5
      have HO5 := Lib.hid o5
      have lc2 := cell_lt c2
      have lc6 := cell_lt c6
      have hsz5 := x5.bel.size
      clear x5 o5 d0 d1 d2 d3 d4 d5 e6 le6 lb hin
      by_cases hg : k.deepest < hi
      · have HV := Lib.hid (show deepTo k (j + 1) = deepTo k j ++ [(j : Int)] by rw [HDE.out, if_pos hg])
        obtain ⟨Av, kv, cv, rfl⟩ := own_shapeW HO5.out
        go_wp2_with (at_builtin; refine EK.app (K := intK) (B := W1.heap.size) rfl (.tmp 26) (.tmp 28) rfl W5.heap.size 1 (j : Int) rfl rfl (fun i u hu => cell_new hu) (HO5.out.ext ((Ext.refl W5).alloc _)) (Nat.le_trans hsz5 ((Ext.refl W5).alloc _).bel.size) (by have := HDL.out; omega) ?_; intro v' w3 o3 b3 _; obtain ⟨Av3, kv3, cv3, rfl⟩ := own_shapeW o3; have HO3 := Lib.hid o3; have HB3 := Lib.hid b3; clear o3 b3)
        go_roundw
        case rel => exact ⟨j + 1, by omega, by go_num, by rw [HV.out]; exact HO3.out, (HX5.out.alloc _).below HB3.out (Nat.le_refl _)⟩
        case measure => simp [intOf]; omega
      · have HV := Lib.hid (show deepTo k (j + 1) = deepTo k j by rw [HDE.out, if_neg hg])
        go_wp2_with fail
        go_roundw
        case rel => exact ⟨j + 1, by omega, by go_num, by rw [HV.out]; exact HO5.out, HX5.out⟩
        case measure => simp [intOf]; omega
    · obtain rfl : j = n := by omega
      clear hown hx
      go_wp2_with fail
      go_ret2
      exact retEW_mk (HO.out.mono hsz) HL.out HR.out (X1.out.trans HX.out)
end Go.Proofs.Ytgeapenglcohfaa
