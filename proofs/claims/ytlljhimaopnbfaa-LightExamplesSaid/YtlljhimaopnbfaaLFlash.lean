/- light.Flash. Conditions: the slices read as lists. -/
import Derived.Test.YtlljhimaopnbfaaLBest
import Derived.Laws.OwnMore
import Derived.Deep.OwnRows
namespace Go.Proofs.Ytlljhimaopnbfaa
open Go.RowKit Go.Shelf

attribute [local go_sem] Oper.semAt_some

set_option maxRecDepth 100000 in
set_option maxHeartbeats 8000000 in
theorem Flash_any (W H P : Int) (hv : Value) (hs : List Int) (lv : Value) (ls : List (Int × Int × Int)) (w : World) (hI : intK.Is w hv hs) (hL : lightK.Is w lv ls) :
    Calls Try.prog 44 #[surfV W H P hv, lv] w (RetEE intK w (flashL W H P hs ls) (flashE W H P hs ls)) := by
  have HI := Lib.hid fun (W0 : World) (x : Ext w W0) => hI.ext x
  have HLI := Lib.hid fun (W0 : World) (x : Ext w W0) => hL.ext x
  have hI' := hI
  obtain ⟨A, L, c, rfl, _⟩ := hI'.open_
  have hL' := hL
  obtain ⟨A', k, c', rfl, hk, _⟩ := hL'.open_
  clear hI' hI hL' hL
  cases hb : surfB W H P hs
  · have HE := Lib.hid (show flashE W H P hs ls = 60 by simp [flashE, hb])
    have HR := Lib.hid (show flashL W H P hs ls = [] by simp [flashL, hb])
    have HB := Lib.hid hb
    clear hb
    go_enter Try.func44, Try.ntmps44
    go_wp2_with fail
    refine (open_bad W H P _ hs _ (HI.out _ (by (repeat' (first | with_reducible exact Ext.refl _ | with_reducible apply Ext.alloc | with_reducible apply Ext.drew | with_reducible apply Ext.drewN | with_reducible refine Ext.setCell ?_ ?_ _ | with_reducible apply Ext.step | with_reducible assumption | with_reducible exact Nat.le_refl _ | (simp; done) | (simp; omega))))) HB.out).mono ?_
    rintro e W1 ⟨rfl, x1⟩
    have HX1 := Lib.hid (show Ext w W1 from Ext.trans (by (repeat' (first | with_reducible exact Ext.refl _ | with_reducible apply Ext.alloc | with_reducible apply Ext.drew | with_reducible apply Ext.drewN | with_reducible refine Ext.setCell ?_ ?_ _ | with_reducible apply Ext.step | with_reducible assumption | with_reducible exact Nat.le_refl _ | (simp; done) | (simp; omega)))) x1)
    clear x1
    go_wp2_with fail
    go_ret2
    exact ⟨_, by rw [HE.out]; rfl, by rw [HR.out]; exact EK.Own.nil _ _, HX1.out⟩
  obtain ⟨n, m, rfl, rfl, hn1, hn2, hm1, hm2⟩ := surf_nm hb
  cases hi : inB 1 8 (ls.length : Int)
  · have HE := Lib.hid (show flashE ((n : Int) + 1) ((m : Int) + 1) P hs ls = 4 by simp [flashE, hb, hi])
    have HR := Lib.hid (show flashL ((n : Int) + 1) ((m : Int) + 1) P hs ls = [] by simp [flashL, hi])
    have HB := Lib.hid hb
    have HF1 := Lib.hid fun (b : Nat) (W0 : World) (c0 : W0.cell? ⟨b, 0, none⟩ = some (.int .i64 (k : Int))) => (show Calls Try.prog 64 #[.int .i64 1, .int .i64 8, .slice (some ⟨b, 0, none⟩) 1 1] W0 fun e w' => e = .returned (.bool false) ∧ Ext W0 w' by
      have := lfrom_one b _ 1 8 1 W0 c0
      rwa [← hk, hi] at this)
    clear hb hi hk
    go_enter Try.func44, Try.ntmps44
    go_wp2_with fail
    refine (open_good n m P _ hs _ (HI.out _ (by (repeat' (first | with_reducible exact Ext.refl _ | with_reducible apply Ext.alloc | with_reducible apply Ext.drew | with_reducible apply Ext.drewN | with_reducible refine Ext.setCell ?_ ?_ _ | with_reducible apply Ext.step | with_reducible assumption | with_reducible exact Nat.le_refl _ | (simp; done) | (simp; omega))))) HB.out).mono ?_
    rintro e W1 ⟨B, rfl, hF, hB, x1⟩
    have HX1 := Lib.hid (show Ext w W1 from Ext.trans (by (repeat' (first | with_reducible exact Ext.refl _ | with_reducible apply Ext.alloc | with_reducible apply Ext.drew | with_reducible apply Ext.drewN | with_reducible refine Ext.setCell ?_ ?_ _ | with_reducible apply Ext.step | with_reducible assumption | with_reducible exact Nat.le_refl _ | (simp; done) | (simp; omega)))) x1)
    clear x1 hF hB
    go_wp2_with fail
    refine (HF1.out _ _ (by go_cell)).mono ?_
    rintro e W2 ⟨rfl, x2⟩
    have HX2 := Lib.hid (show Ext w W2 from HX1.out.trans (Ext.trans (by (repeat' (first | with_reducible exact Ext.refl _ | with_reducible apply Ext.alloc | with_reducible apply Ext.drew | with_reducible apply Ext.drewN | with_reducible refine Ext.setCell ?_ ?_ _ | with_reducible apply Ext.step | with_reducible assumption | with_reducible exact Nat.le_refl _ | (simp; done) | (simp; omega)))) x2))
    clear x2
    go_wp2_with fail
    go_ret2
    exact ⟨_, by rw [HE.out]; rfl, by rw [HR.out]; exact EK.Own.nil _ _, HX2.out⟩
  cases hl : ls.all lightB'
  · have HE := Lib.hid (show flashE ((n : Int) + 1) ((m : Int) + 1) P hs ls = 61 by simp [flashE, hb, hi, hl])
    have HR := Lib.hid (show flashL ((n : Int) + 1) ((m : Int) + 1) P hs ls = [] by simp [flashL, hl])
    have HB := Lib.hid hb
    have HL := Lib.hid hl
    have HF1 := Lib.hid fun (b : Nat) (W0 : World) (c0 : W0.cell? ⟨b, 0, none⟩ = some (.int .i64 (k : Int))) => (show Calls Try.prog 64 #[.int .i64 1, .int .i64 8, .slice (some ⟨b, 0, none⟩) 1 1] W0 fun e w' => e = .returned (.bool true) ∧ Ext W0 w' by
      have := lfrom_one b _ 1 8 1 W0 c0
      rwa [← hk, hi] at this)
    clear hb hi hk hl
    go_enter Try.func44, Try.ntmps44
    go_wp2_with fail
    refine (open_good n m P _ hs _ (HI.out _ (by (repeat' (first | with_reducible exact Ext.refl _ | with_reducible apply Ext.alloc | with_reducible apply Ext.drew | with_reducible apply Ext.drewN | with_reducible refine Ext.setCell ?_ ?_ _ | with_reducible apply Ext.step | with_reducible assumption | with_reducible exact Nat.le_refl _ | (simp; done) | (simp; omega))))) HB.out).mono ?_
    rintro e W1 ⟨B, rfl, hF, hB, x1⟩
    have z0 : W1.cell? ⟨w.heap.size, 0, none⟩ = some (.int .i64 ((n : Int) + 1)) := x1.cell_some (by go_cell)
    have z1 : W1.cell? ⟨w.heap.size, 1, none⟩ = some (.int .i64 ((m : Int) + 1)) := x1.cell_some (by go_cell)
    have z2 : W1.cell? ⟨w.heap.size, 2, none⟩ = some (.int .i64 P) := x1.cell_some (by go_cell)
    have z3 : W1.cell? ⟨w.heap.size, 3, none⟩ = some (.slice A L c) := x1.cell_some (by go_cell)
    have hz := cell_lt z0
    have HX1 := Lib.hid (show Ext w W1 from Ext.trans (by (repeat' (first | with_reducible exact Ext.refl _ | with_reducible apply Ext.alloc | with_reducible apply Ext.drew | with_reducible apply Ext.drewN | with_reducible refine Ext.setCell ?_ ?_ _ | with_reducible apply Ext.step | with_reducible assumption | with_reducible exact Nat.le_refl _ | (simp; done) | (simp; omega)))) x1)
    clear x1 hF hB
    go_wp2_with fail
    refine (HF1.out _ _ (by go_cell)).mono ?_
    rintro e W2 ⟨rfl, x2⟩
    have X12 : Ext W1 W2 := Ext.trans (by (repeat' (first | with_reducible exact Ext.refl _ | with_reducible apply Ext.alloc | with_reducible apply Ext.drew | with_reducible apply Ext.drewN | with_reducible refine Ext.setCell ?_ ?_ _ | with_reducible apply Ext.step | with_reducible assumption | with_reducible exact Nat.le_refl _ | (simp; done) | (simp; omega)))) x2
    have HX2 := Lib.hid (show Ext w W2 from HX1.out.trans X12)
    have y0 := X12.cell_some z0
    have y1 := X12.cell_some z1
    have y2 := X12.cell_some z2
    have y3 := X12.cell_some z3
    have hy := cell_lt y0
    clear x2 X12 z0 z1 z2 z3 hz
    go_wp2_with fail
    refine (lit_dark n m P _ hs _ ls _ (HI.out _ (HX2.out.trans (by (repeat' (first | with_reducible exact Ext.refl _ | with_reducible apply Ext.alloc | with_reducible apply Ext.drew | with_reducible apply Ext.drewN | with_reducible refine Ext.setCell ?_ ?_ _ | with_reducible apply Ext.step | with_reducible assumption | with_reducible exact Nat.le_refl _ | (simp; done) | (simp; omega)))))) (HLI.out _ (HX2.out.trans (by (repeat' (first | with_reducible exact Ext.refl _ | with_reducible apply Ext.alloc | with_reducible apply Ext.drew | with_reducible apply Ext.drewN | with_reducible refine Ext.setCell ?_ ?_ _ | with_reducible apply Ext.step | with_reducible assumption | with_reducible exact Nat.le_refl _ | (simp; done) | (simp; omega)))))) HB.out HL.out).mono ?_
    rintro e W3 ⟨rfl, x3⟩
    have HX3 := Lib.hid (show Ext w W3 from HX2.out.trans (Ext.trans (by (repeat' (first | with_reducible exact Ext.refl _ | with_reducible apply Ext.alloc | with_reducible apply Ext.drew | with_reducible apply Ext.drewN | with_reducible refine Ext.setCell ?_ ?_ _ | with_reducible apply Ext.step | with_reducible assumption | with_reducible exact Nat.le_refl _ | (simp; done) | (simp; omega)))) x3))
    clear x3
    go_wp2_with fail
    go_ret2
    exact ⟨_, by rw [HE.out]; rfl, by rw [HR.out]; exact EK.Own.nil _ _, HX3.out⟩
  have HE := Lib.hid (show flashE ((n : Int) + 1) ((m : Int) + 1) P hs ls = 0 by simp [flashE, hb, hi, hl])
  have HR := Lib.hid (show flashL ((n : Int) + 1) ((m : Int) + 1) P hs ls = bestL (picsL n m P hs ls) (m * n) by simp [flashL, hb, hi, hl, nOf_add])
  have HB := Lib.hid hb
  have HL := Lib.hid hl
  obtain ⟨hi1, hi2⟩ := inB_iff.1 hi
  have hk1 : 1 ≤ k := by omega
  have hk8 : k ≤ 8 := by omega
  have hK : ls.length = k := hk
  have HKK := Lib.hid hK
  have HF1 := Lib.hid fun (b : Nat) (W0 : World) (c0 : W0.cell? ⟨b, 0, none⟩ = some (.int .i64 (k : Int))) => (show Calls Try.prog 64 #[.int .i64 1, .int .i64 8, .slice (some ⟨b, 0, none⟩) 1 1] W0 fun e w' => e = .returned (.bool true) ∧ Ext W0 w' by
    have := lfrom_one b _ 1 8 1 W0 c0
    rwa [← hk, hi] at this)
  obtain ⟨N, hN⟩ : ∃ N, N = m * n := ⟨_, rfl⟩
  have hN2 : N ≤ 529 := by rw [hN]; exact Nat.mul_le_mul hm2 hn2
  have HN := Lib.hid hN
  have hmk : ∀ w : World, (Instr.makeSlice 35 (.int .i64 (N : Int)) (.int .i64 (N : Int))).run Try.prog w = .ok (.slice (some ⟨w.heap.size, 0, none⟩) N N) (w.alloc (.cells (madeCells #[.int .i64 0] N) 3)) := fun w =>
    run_make_row' (P := Try.prog) 35 3 (.int .i64 0) 8 Try.underlying35 intInfo rfl .i64 .i64 N (by omega) (by omega) w
  clear hb hi hk hl hi1 hi2 hK hN
  go_enter Try.func44, Try.ntmps44
  go_wp2_with fail
  refine (open_good n m P _ hs _ (HI.out _ (by (repeat' (first | with_reducible exact Ext.refl _ | with_reducible apply Ext.alloc | with_reducible apply Ext.drew | with_reducible apply Ext.drewN | with_reducible refine Ext.setCell ?_ ?_ _ | with_reducible apply Ext.step | with_reducible assumption | with_reducible exact Nat.le_refl _ | (simp; done) | (simp; omega))))) HB.out).mono ?_
  rintro e W1 ⟨B, rfl, hF, hB, x1⟩
  have z0 : W1.cell? ⟨w.heap.size, 0, none⟩ = some (.int .i64 ((n : Int) + 1)) := x1.cell_some (by go_cell)
  have z1 : W1.cell? ⟨w.heap.size, 1, none⟩ = some (.int .i64 ((m : Int) + 1)) := x1.cell_some (by go_cell)
  have z2 : W1.cell? ⟨w.heap.size, 2, none⟩ = some (.int .i64 P) := x1.cell_some (by go_cell)
  have z3 : W1.cell? ⟨w.heap.size, 3, none⟩ = some (.slice A L c) := x1.cell_some (by go_cell)
  have hz := cell_lt z0
  have HX1 := Lib.hid (show Ext w W1 from Ext.trans (by (repeat' (first | with_reducible exact Ext.refl _ | with_reducible apply Ext.alloc | with_reducible apply Ext.drew | with_reducible apply Ext.drewN | with_reducible refine Ext.setCell ?_ ?_ _ | with_reducible apply Ext.step | with_reducible assumption | with_reducible exact Nat.le_refl _ | (simp; done) | (simp; omega)))) x1)
  have HF := Lib.hid hF
  clear x1 hF hB
  go_wp2_with fail
  refine (HF1.out _ _ (by go_cell)).mono ?_
  rintro e W2 ⟨rfl, x2⟩
  have X12 : Ext W1 W2 := Ext.trans (by (repeat' (first | with_reducible exact Ext.refl _ | with_reducible apply Ext.alloc | with_reducible apply Ext.drew | with_reducible apply Ext.drewN | with_reducible refine Ext.setCell ?_ ?_ _ | with_reducible apply Ext.step | with_reducible assumption | with_reducible exact Nat.le_refl _ | (simp; done) | (simp; omega)))) x2
  have HX2 := Lib.hid (show Ext w W2 from HX1.out.trans X12)
  have HF2 := Lib.hid (HF.out.ext X12)
  have y0 := X12.cell_some z0
  have y1 := X12.cell_some z1
  have y2 := X12.cell_some z2
  have y3 := X12.cell_some z3
  have hy := cell_lt y0
  clear x2 X12 z0 z1 z2 z3 hz HF
  go_wp2_with fail
  refine (lit_good n m P _ hs _ ls _ (HI.out _ (HX2.out.trans (by (repeat' (first | with_reducible exact Ext.refl _ | with_reducible apply Ext.alloc | with_reducible apply Ext.drew | with_reducible apply Ext.drewN | with_reducible refine Ext.setCell ?_ ?_ _ | with_reducible apply Ext.step | with_reducible assumption | with_reducible exact Nat.le_refl _ | (simp; done) | (simp; omega)))))) (HLI.out _ (HX2.out.trans (by (repeat' (first | with_reducible exact Ext.refl _ | with_reducible apply Ext.alloc | with_reducible apply Ext.drew | with_reducible apply Ext.drewN | with_reducible refine Ext.setCell ?_ ?_ _ | with_reducible apply Ext.step | with_reducible assumption | with_reducible exact Nat.le_refl _ | (simp; done) | (simp; omega)))))) HB.out HL.out).mono ?_
  rintro e W3 ⟨B', rfl, _, _, x3⟩
  have X23 : Ext W2 W3 := Ext.trans (by (repeat' (first | with_reducible exact Ext.refl _ | with_reducible apply Ext.alloc | with_reducible apply Ext.drew | with_reducible apply Ext.drewN | with_reducible refine Ext.setCell ?_ ?_ _ | with_reducible apply Ext.step | with_reducible assumption | with_reducible exact Nat.le_refl _ | (simp; done) | (simp; omega)))) x3
  have HX3 := Lib.hid (HX2.out.trans X23)
  have HF3 := Lib.hid (HF2.out.ext X23)
  clear x3 X23 y0 y1 y2 y3 hy HF2
  go_wp2_with fail
  refine (pictures_any B n m P hs _ ls W3 HF3.out (HLI.out _ HX3.out) HL.out (by rw [HKK.out]; omega)).mono ?_
  rintro e W4 ⟨pv, rfl, hp, x4⟩
  have HX4 := Lib.hid (HX3.out.trans x4)
  have hF4 := HF3.out.ext x4
  obtain ⟨mv, hm4, hmI⟩ := hF4.mm
  have hml : (midsL n m hs).length = N := by rw [HN.out]; simp [midsL]
  obtain ⟨Am, cm, rfl, _⟩ := hmI
  rw [hml] at hm4
  obtain ⟨Ap, kp, cp, rfl, hkp⟩ : ∃ Ap kp cp, pv = .slice Ap kp cp ∧ kp = k := by
    obtain ⟨Ts, ⟨A, c, rfl, _⟩, h, _⟩ := hp
    exact ⟨A, _, c, rfl, by rw [h, picsL_len, HKK.out]⟩
  subst hkp
  have HP := Lib.hid hp
  have HPL := Lib.hid (show (picsL n m P hs ls).length = kp by rw [picsL_len, HKK.out])
  have HPN := Lib.hid (show ∀ q (h : q < (picsL n m P hs ls).length), (picsL n m P hs ls)[q].length = N from fun q h => by rw [picsL_each, HN.out])
  rw [← HN.out] at HR
  generalize picsL n m P hs ls = pp at *
  have hBl := cell_lt hm4
  clear x4 hp hml hF4 HF3
  go_wp2_with fail
  refine lay_wp (fun Wa => Ext W4 Wa ∧ intK.Own W4.heap.size Wa (.slice (some ⟨W4.heap.size, 0, none⟩) N N) (outL pp N kp 0 0)) ⟨by (repeat' (first | with_reducible exact Ext.refl _ | with_reducible apply Ext.alloc | with_reducible apply Ext.drew | with_reducible apply Ext.drewN | with_reducible refine Ext.setCell ?_ ?_ _ | with_reducible apply Ext.step | with_reducible assumption | with_reducible exact Nat.le_refl _ | (simp; done) | (simp; omega))), ?_⟩ ?_
  · rw [outL_zero]
    have := EK.Own.lit (K := intK) (B := W4.heap.size) W4 (madeCells #[.int .i64 0] N) (List.replicate N 0) (by rw [toList_madeCells_one, flat_ints, List.map_replicate]) (Nat.le_refl _) (by simp [maxLen]; omega)
    rw [List.length_replicate] at this
    exact this
  rintro Wa ⟨Xa, hoa⟩
  have HOA := Lib.hid hoa
  have HXa := Lib.hid Xa
  clear Xa hoa hm4
  go_loopw [49] (fun iv wr => ∃ i : Nat, i ≤ N ∧ iv = .int .i64 i ∧ intK.Own W4.heap.size wr (.slice (some ⟨W4.heap.size, 0, none⟩) N N) (outL pp N kp i 0) ∧ Ext W4 wr) (fun iv _ => N - (intOf iv).toNat)
  case atStart => exact ⟨0, by omega, rfl, HOA.out, HXa.out⟩
  case round =>
    obtain ⟨i, hi, rfl, ho, hx⟩ := hrel
    have HO := Lib.hid ho
    have HX := Lib.hid hx
    clear ho hx
    by_cases hlt : i < N
    · go_wp2_with fail
      obtain ⟨wo, rfl⟩ : ∃ wo : World, wo = wr := ⟨_, rfl⟩
      go_loopw [54] (fun qv wr => ∃ q : Nat, q ≤ kp ∧ qv = .int .i64 q ∧ intK.Own W4.heap.size wr (.slice (some ⟨W4.heap.size, 0, none⟩) N N) (outL pp N kp i q) ∧ Ext W4 wr) (fun qv _ => kp - (intOf qv).toNat)
      case atStart => exact ⟨0, by omega, rfl, HO.out, HX.out⟩
      case round =>
        obtain ⟨q, hq, rfl, ho, hx⟩ := hrel
        have HOQ := Lib.hid ho
        have HXQ := Lib.hid hx
        by_cases hql : q < kp
        · obtain ⟨bt, hbt⟩ : ∃ bt, bt = bestTo (shOf pp i) q := ⟨_, rfl⟩
          have hbk : bt < kp := by
            have := (bestTo_lt (sh := shOf pp i) (n := q))
            omega
          have hpq : q < pp.length := by rw [HPL.out]; exact hql
          have hpb : bt < pp.length := by rw [HPL.out]; exact hbk
          have hiq : i < pp[q].length := by rw [HPN.out]; exact hlt
          have hib : i < pp[bt].length := by rw [HPN.out]; exact hlt
          obtain ⟨b, o, B1, O1, C1, rfl, _, _, e0, e1, e2⟩ := (HP.out.ext hx).at_ hpq hiq
          obtain ⟨b', o', B2, O2, C2, he, _, _, f0, f1, f2⟩ := (HP.out.ext hx).at_ hpb hib
          cases he
          rw [HPN.out] at e0 f0
          have HOL : (outL pp N kp i q).length = N := outL_len
          obtain ⟨g, cg, hge, _, hgl, hgc, hgf⟩ := ho.slot (j := i) (by rw [HOL]; exact hlt)
          simp only [Value.slice.injEq, Option.some.injEq, Addr.mk.injEq] at hge
          obtain ⟨⟨rfl, -⟩, -, -⟩ := hge
          have g0 := hgc 0 _ rfl
          simp only [intK, Nat.mul_one, Nat.add_zero, outL_at, ← hbt] at g0
          have gf := hgf i
          have hs1 := shOf_at hpq hiq
          have hs2 := shOf_at hpb hib
          rw [← hs1] at e1 e2
          rw [← hs2] at f1 f2
          have HYES := Lib.hid fun h => best_yes (sh := shOf pp i) (n := q) h
          have HNO := Lib.hid fun h => best_no (sh := shOf pp i) (n := q) h
          rw [← hbt] at HYES HNO
          obtain ⟨cv, hcv⟩ : ∃ cv, cv = compareOf (shOf pp i q).1 (shOf pp i q).2 (shOf pp i bt).1 (shOf pp i bt).2 := ⟨_, rfl⟩
          have HCM := Lib.hid fun Wd : World => compare_any (shOf pp i q).1 (shOf pp i q).2 (shOf pp i bt).1 (shOf pp i bt).2 Wd
          rw [← hcv] at HYES HNO HCM
          generalize (shOf pp i q).1 = a1 at *
          generalize (shOf pp i q).2 = a2 at *
          generalize (shOf pp i bt).1 = b1 at *
          generalize (shOf pp i bt).2 = b2 at *
          have HBT := Lib.hid hbt
          clear hgc hgf hs1 hs2 hiq hib hpq hpb hcv ho hx hbt HOL
          by_cases hc : 0 < cv
          · have hd : decide (0 < cv) = true := decide_eq_true hc
            have HST := Lib.hid (outL_set (N := N) (k := kp) (HYES.out hc))
            clear hc
            go_wp2_with fail
            refine wp_region_bext (by kernel_rfl) (by kernel_rfl) ?_
            repeat (any_goals (go_big_quiet_step ((go_at_call 23; exact bext_call (HCM.out _)))))
            all_goals refine wpQuiet_nil ?_
            all_goals rintro _ ⟨δ, rfl⟩
            have g1 := (Ext.cell_some ⟨δ, rfl⟩ g0 : δ.wd.cell? _ = _)
            have gf1 := (Ext.frozen ⟨δ, rfl⟩ g0 gf : δ.wd.frozen? _ = _)
            have gl1 := cell_lt g1
            go_wp2_with fail
            go_roundw
            case rel =>
              have h1 := (HOQ.out.ext ⟨δ, rfl⟩)
              have h2 : N = (outL pp N kp i q).length := outL_len.symm
              have h3 := EK.Own.put1 (K := intK) (xs := outL pp N kp i q) (by rw [← h2]; exact h1) (j := i) (by rw [← h2]; exact hlt) rfl (q : Int) (.int .i64 q) rfl
              rw [HST.out, ← h2] at h3
              exact ⟨q + 1, by omega, by go_num, h3, (HXQ.out.trans ⟨δ, rfl⟩).below ((Below.refl _ _).setCell (Nat.le_refl _) _) (Nat.le_refl _)⟩
            case measure => simp [intOf]; omega
          · have hd : decide (0 < cv) = false := decide_eq_false hc
            have HST := Lib.hid (outL_stay (N := N) (k := kp) ((HNO.out hc).trans HBT.out))
            clear hc
            go_wp2_with fail
            refine wp_region_bext (by kernel_rfl) (by kernel_rfl) ?_
            repeat (any_goals (go_big_quiet_step ((go_at_call 23; exact bext_call (HCM.out _)))))
            all_goals refine wpQuiet_nil ?_
            all_goals rintro _ ⟨δ, rfl⟩
            go_wp2_with fail
            go_roundw
            case rel => exact ⟨q + 1, by omega, by go_num, by rw [← HST.out]; exact HOQ.out.ext ⟨δ, rfl⟩, HXQ.out.trans ⟨δ, rfl⟩⟩
            case measure => simp [intOf]; omega
        · obtain rfl : q = kp := by omega
          clear ho hx
          go_wp2_with fail
          go_roundw
          case rel => exact ⟨i + 1, by omega, by go_num, by rw [← outL_next]; exact HOQ.out, HXQ.out⟩
          case measure => simp [intOf]; omega
    · obtain rfl : i = N := by omega
      go_wp2_with fail
      go_ret2
      exact ⟨_, by rw [HE.out]; rfl, by rw [HR.out, ← outL_end HPL.out]; exact HO.out.mono HX4.out.bel.size, HX4.out.trans HX.out⟩
end Go.Proofs.Ytlljhimaopnbfaa
