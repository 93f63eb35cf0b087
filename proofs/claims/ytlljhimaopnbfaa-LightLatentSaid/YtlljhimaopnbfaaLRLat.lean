/- The reference's Latent and Shows. Condition: the slices read as lists. -/
import Derived.Test.YtlljhimaopnbfaaLLat
import Derived.Test.YtlljhimaopnbfaaLShs
import Derived.Test.YtlljhimaopnbfaaLRef
import Derived.Test.YtlljhimaopnbfaaDraw
namespace Go.Proofs.Ytlljhimaopnbfaa
open Go.RowKit

set_option maxRecDepth 100000 in
set_option maxHeartbeats 4000000 in
theorem refLatent_any (mv : Value) (ms : List Bool) (ya yb na nb : Int) (w : World) (hM : boolK.Is w mv ms) :
    Calls Try.prog 50 #[mv, tiltV ya yb, tiltV na nb] w (RetEE tiltK w (latL ms ya yb na nb) (latE ms ya yb na nb)) := by
  obtain ⟨A, n, c, rfl, hn, _, hr, hm⟩ := hM.open_
  have HN := Lib.hid hn
  have HR := Lib.hid hr
  clear hM hr
  by_cases hb : 576 < n
  · have g1 : decide ((576 : Int) < (n : Int)) = true := decide_eq_true (by omega)
    have HE := Lib.hid (show latE ms ya yb na nb = 4 from if_pos (by rw [hn]; exact hb))
    have HL := Lib.hid (show latL ms ya yb na nb = [] from if_neg (by rw [HE.out]; decide))
    clear hn hb
    go_enter Try.func50, Try.ntmps50
    go_wp2_with fail
    go_ret2
    exact retEE_mkL (EK.Own.nil _ _) HL.out HE.out (by (repeat' (first | with_reducible exact Ext.refl _ | with_reducible apply Ext.alloc | with_reducible apply Ext.drew | with_reducible apply Ext.drewN | with_reducible refine Ext.setCell ?_ ?_ _ | with_reducible apply Ext.step | with_reducible assumption | with_reducible exact Nat.le_refl _ | (simp; done) | (simp; omega))))
  have g1 : decide ((576 : Int) < (n : Int)) = false := decide_eq_false (by omega)
  have HY := Lib.hid fun W : World => refTilt_any ya yb W
  have HO := Lib.hid fun W : World => refTilt_any na nb W
  cases hy : tiltB ya yb
  · have HE := Lib.hid (show latE ms ya yb na nb = 2 from (if_neg (by omega)).trans (if_neg (by rw [hy]; simp)))
    have HL := Lib.hid (show latL ms ya yb na nb = [] from if_neg (by rw [HE.out]; decide))
    rw [hy] at HY
    clear hn hb hy
    go_enter Try.func50, Try.ntmps50
    go_wp2_with fail
    refine (HY.out _).mono ?_
    rintro e w1 ⟨rfl, x1⟩
    have HX1 := Lib.hid (show Ext w w1 from Ext.trans (by (repeat' (first | with_reducible exact Ext.refl _ | with_reducible apply Ext.alloc | with_reducible apply Ext.drew | with_reducible apply Ext.drewN | with_reducible refine Ext.setCell ?_ ?_ _ | with_reducible apply Ext.step | with_reducible assumption | with_reducible exact Nat.le_refl _ | (simp; done) | (simp; omega)))) x1)
    clear x1
    go_wp2_with fail
    go_ret2
    exact retEE_mkL (EK.Own.nil _ _) HL.out HE.out HX1.out
  cases ho : tiltB na nb
  · have HE := Lib.hid (show latE ms ya yb na nb = 2 from (if_neg (by omega)).trans (if_neg (by rw [ho]; simp)))
    have HL := Lib.hid (show latL ms ya yb na nb = [] from if_neg (by rw [HE.out]; decide))
    rw [hy] at HY
    rw [ho] at HO
    clear hn hb hy ho
    go_enter Try.func50, Try.ntmps50
    go_wp2_with fail
    refine (HY.out _).mono ?_
    rintro e w1 ⟨rfl, x1⟩
    have HX1 := Lib.hid (show Ext w w1 from Ext.trans (by (repeat' (first | with_reducible exact Ext.refl _ | with_reducible apply Ext.alloc | with_reducible apply Ext.drew | with_reducible apply Ext.drewN | with_reducible refine Ext.setCell ?_ ?_ _ | with_reducible apply Ext.step | with_reducible assumption | with_reducible exact Nat.le_refl _ | (simp; done) | (simp; omega)))) x1)
    have b0 : w1.cell? ⟨w.heap.size + 1, 0, none⟩ = some (.int .i64 na) := x1.cell_some (by go_cell)
    have b1 : w1.cell? ⟨w.heap.size + 1, 1, none⟩ = some (.int .i64 nb) := x1.cell_some (by go_cell)
    have lb := cell_lt b0
    clear x1
    go_wp2_with fail
    refine (HO.out _).mono ?_
    rintro e w2 ⟨rfl, x2⟩
    have HX2 := Lib.hid (HX1.out.trans x2)
    clear x2 b0 b1 lb
    go_wp2_with fail
    go_ret2
    exact retEE_mkL (EK.Own.nil _ _) HL.out HE.out HX2.out
  have HE := Lib.hid (show latE ms ya yb na nb = 0 from (if_neg (by omega)).trans (if_pos (by rw [hy, ho]; rfl)))
  have HL := Lib.hid (show latL ms ya yb na nb = ms.map (latX ya yb na nb) from if_pos HE.out)
  rw [hy] at HY
  rw [ho] at HO
  have hn5 : n ≤ 576 := by omega
  clear hn hb hy ho
  go_enter Try.func50, Try.ntmps50
  go_wp2_with fail
  refine (HY.out _).mono ?_
  rintro e w1 ⟨rfl, x1⟩
  have HX1 := Lib.hid (show Ext w w1 from Ext.trans (by (repeat' (first | with_reducible exact Ext.refl _ | with_reducible apply Ext.alloc | with_reducible apply Ext.drew | with_reducible apply Ext.drewN | with_reducible refine Ext.setCell ?_ ?_ _ | with_reducible apply Ext.step | with_reducible assumption | with_reducible exact Nat.le_refl _ | (simp; done) | (simp; omega)))) x1)
  have a0 : w1.cell? ⟨w.heap.size, 0, none⟩ = some (.int .i64 ya) := x1.cell_some (by go_cell)
  have a1 : w1.cell? ⟨w.heap.size, 1, none⟩ = some (.int .i64 yb) := x1.cell_some (by go_cell)
  have b0 : w1.cell? ⟨w.heap.size + 1, 0, none⟩ = some (.int .i64 na) := x1.cell_some (by go_cell)
  have b1 : w1.cell? ⟨w.heap.size + 1, 1, none⟩ = some (.int .i64 nb) := x1.cell_some (by go_cell)
  have la := cell_lt a0
  have lb := cell_lt b0
  clear x1
  go_wp2_with fail
  refine (HO.out _).mono ?_
  rintro e w2 ⟨rfl, x2⟩
  have HX2 := Lib.hid (HX1.out.trans x2)
  replace a0 := x2.cell_some a0
  replace a1 := x2.cell_some a1
  replace b0 := x2.cell_some b0
  replace b1 := x2.cell_some b1
  replace la := cell_lt a0
  replace lb := cell_lt b0
  have HA := Lib.hid (And.intro a0 (And.intro a1 (And.intro b0 b1)))
  clear x2 a0 a1 b0 b1 la lb
  go_wp2_with fail
  go_loopw [9, 8] (fun iv ov wr => ∃ j : Nat, j ≤ n ∧ iv = .int .i64 (j : Int) ∧ tiltK.Own w2.heap.size wr ov ((ms.map (latX ya yb na nb)).take j) ∧ Ext w2 wr) (fun iv _ _ => n - (intOf iv).toNat)
  case atStart => exact ⟨0, by omega, rfl, EK.Own.nil _ _, Ext.refl _⟩
  case round =>
    obtain ⟨j, hj, rfl, ho, hx⟩ := hrel
    obtain ⟨Ao, ko, co, rfl⟩ := ho.shape
    have HX := Lib.hid hx
    have HOO := Lib.hid ho
    by_cases hlt : j < n
    · have hjl : j < ms.length := by rw [HN.out]; exact hlt
      have hji : (j : Int) < (n : Int) := by omega
      obtain ⟨b, o, rfl, _, d0⟩ := bools_at HR.out j hjl
      replace d0 := (HX2.out.trans hx).cell_some d0
      have ld := cell_lt d0
      have HST := Lib.hid (show (ms.map (latX ya yb na nb)).take (j + 1) = (ms.map (latX ya yb na nb)).take j ++ [latX ya yb na nb ms[j]] by
        rw [List.take_add_one, List.getElem?_eq_getElem (by simpa using hjl), List.getElem_map]
        rfl)
      have HLN := Lib.hid (show ((ms.map (latX ya yb na nb)).take j).length ≤ 1000000000 by rw [List.length_take]; omega)
      have HBZ := Lib.hid hx.bel.size
      cases hbj : ms[j]
      · rw [hbj] at d0 HST
        have b0 := hx.cell_some HA.out.2.2.1
        have b1 := hx.cell_some HA.out.2.2.2
        have lb := cell_lt b0
        clear hx ho hbj
        go_wp2_with (at_builtin; refine EK.app (K := tiltK) (B := w2.heap.size) (xs := (ms.map (latX ya yb na nb)).take j) rfl (.tmp 35) (.tmp 37) rfl wr.heap.size 1 (na, nb) rfl rfl (fun i u hu => cell_new hu) (HOO.out.ext ((Ext.refl _).alloc _)) (by have := HBZ.out; simp; omega) HLN.out ?_; intro v' w7 o7 b7 _; obtain ⟨Av, kv, cv, rfl⟩ := o7.shape; have HO7 := Lib.hid o7; have HB7 := Lib.hid b7; clear o7 b7)
        go_roundw
        case rel => exact ⟨j + 1, by omega, by go_num, by rw [HST.out]; exact HO7.out, (HX.out.alloc _).below HB7.out (Nat.le_refl _)⟩
        case measure => simp [intOf]; omega
      · rw [hbj] at d0 HST
        have a0 := hx.cell_some HA.out.1
        have a1 := hx.cell_some HA.out.2.1
        have la := cell_lt a0
        clear hx ho hbj
        go_wp2_with (at_builtin; refine EK.app (K := tiltK) (B := w2.heap.size) (xs := (ms.map (latX ya yb na nb)).take j) rfl (.tmp 31) (.tmp 33) rfl wr.heap.size 1 (ya, yb) rfl rfl (fun i u hu => cell_new hu) (HOO.out.ext ((Ext.refl _).alloc _)) (by have := HBZ.out; simp; omega) HLN.out ?_; intro v' w7 o7 b7 _; obtain ⟨Av, kv, cv, rfl⟩ := o7.shape; have HO7 := Lib.hid o7; have HB7 := Lib.hid b7; clear o7 b7)
        go_roundw
        case rel => exact ⟨j + 1, by omega, by go_num, by rw [HST.out]; exact HO7.out, (HX.out.alloc _).below HB7.out (Nat.le_refl _)⟩
        case measure => simp [intOf]; omega
    · obtain rfl : j = n := by omega
      have HEN := Lib.hid (show (ms.map (latX ya yb na nb)).take j = ms.map (latX ya yb na nb) from List.take_of_length_le (by rw [List.length_map, HN.out]; omega))
      clear hx ho
      go_wp2_with fail
      go_ret2
      exact retEE_mkL (HOO.out.mono HX2.out.bel.size) (HL.out.trans HEN.out.symm) HE.out (HX2.out.trans HX.out)

set_option maxRecDepth 100000 in
set_option maxHeartbeats 8000000 in
theorem refShows_any (ya yb na nb p : Int) (lv : Value) (ls : List (Int × Int × Int)) (w : World) (hL : lightK.Is w lv ls) :
    Calls Try.prog 52 #[tiltV ya yb, tiltV na nb, .int .i64 p, lv] w (RetEE intK w (showsL ya yb na nb p ls) (showsE ya yb na nb p ls)) := by
  obtain ⟨A, n, c, rfl, hn, _, hr, hm⟩ := hL.open_
  have HN := Lib.hid hn
  have HR := Lib.hid hr
  have HWI := Lib.hid fun W : World => within_any (n : Int) 1 8 W
  clear hL hr
  cases hb : inB 1 8 (n : Int)
  · have HE := Lib.hid (show showsE ya yb na nb p ls = 4 from if_neg (by rw [hn, hb]; exact Bool.false_ne_true))
    have HL := Lib.hid (show showsL ya yb na nb p ls = [] from if_neg (by rw [HE.out]; decide))
    rw [hb] at HWI
    clear hn hb
    go_enter Try.func52, Try.ntmps52
    go_wp2_with fail
    refine (HWI.out _).mono ?_
    rintro e _ ⟨rfl, rfl⟩
    go_wp2_with fail
    go_ret2
    exact retEE_mkS (EK.Own.nil _ _) HL.out HE.out (by (repeat' (first | with_reducible exact Ext.refl _ | with_reducible apply Ext.alloc | with_reducible apply Ext.drew | with_reducible apply Ext.drewN | with_reducible refine Ext.setCell ?_ ?_ _ | with_reducible apply Ext.step | with_reducible assumption | with_reducible exact Nat.le_refl _ | (simp; done) | (simp; omega))))
  have HE := Lib.hid (show showsE ya yb na nb p ls = shErr ya yb na nb p ls n by unfold showsE; rw [hn, hb, if_pos rfl])
  have HLD := Lib.hid (show showsL ya yb na nb p ls = if showsE ya yb na nb p ls = 0 then shTo ya yb na nb p ls ls.length else [] from rfl)
  obtain ⟨hn1, hn8⟩ := inB_iff.1 hb
  rw [hb] at HWI
  have HX1 := Lib.hid (show Ext w ((w.alloc (.cells #[.int .i64 ya, .int .i64 yb] 23)).alloc (.cells #[.int .i64 na, .int .i64 nb] 23)) by (repeat' (first | with_reducible exact Ext.refl _ | with_reducible apply Ext.alloc | with_reducible apply Ext.drew | with_reducible apply Ext.drewN | with_reducible refine Ext.setCell ?_ ?_ _ | with_reducible apply Ext.step | with_reducible assumption | with_reducible exact Nat.le_refl _ | (simp; done) | (simp; omega))))
  clear hn hb
  go_enter Try.func52, Try.ntmps52
  go_wp2_with fail
  refine (HWI.out _).mono ?_
  rintro e _ ⟨rfl, rfl⟩
  go_wp2_with fail
  refine lay_wp (fun W => Ext w W ∧ W.cell? ⟨w.heap.size, 0, none⟩ = some (.int .i64 ya) ∧ W.cell? ⟨w.heap.size, 1, none⟩ = some (.int .i64 yb) ∧ W.cell? ⟨w.heap.size + 1, 0, none⟩ = some (.int .i64 na) ∧ W.cell? ⟨w.heap.size + 1, 1, none⟩ = some (.int .i64 nb)) ⟨by (repeat' (first | with_reducible exact Ext.refl _ | with_reducible apply Ext.alloc | with_reducible apply Ext.drew | with_reducible apply Ext.drewN | with_reducible refine Ext.setCell ?_ ?_ _ | with_reducible apply Ext.step | with_reducible assumption | with_reducible exact Nat.le_refl _ | (simp; done) | (simp; omega))), by go_cell, by go_cell, by go_cell, by go_cell⟩ ?_
  rintro w1 ⟨x1, a0, a1, b0, b1⟩
  replace HX1 := Lib.hid x1
  have hsz := HX1.out.bel.size
  have HA := Lib.hid (And.intro a0 (And.intro a1 (And.intro b0 b1)))
  clear x1 a0 a1 b0 b1
  go_loopw [11, 10] (fun iv ov wr => ∃ j : Nat, j ≤ n ∧ iv = .int .i64 (j : Int) ∧ Hid (shErr ya yb na nb p ls j = 0) ∧ intK.Own w1.heap.size wr ov (shTo ya yb na nb p ls j) ∧ Ext w1 wr) (fun iv _ _ => n - (intOf iv).toNat)
  case atStart => exact ⟨0, by omega, rfl, Lib.hid rfl, EK.Own.nil _ _, Ext.refl _⟩
  case round =>
    obtain ⟨j, hj, rfl, HZ, ho, hx⟩ := hrel
    obtain ⟨Ao, ko, co, rfl⟩ := ho.shape
    have HX := Lib.hid hx
    have HO := Lib.hid ho
    by_cases hlt : j < n
    · have hjl : j < ls.length := by rw [HN.out]; exact hlt
      have hji : (j : Int) < (n : Int) := by omega
      obtain ⟨b, o, rfl, _, l0, l1, l2⟩ := lightK_at HR.out j hjl
      replace l0 := (HX1.out.trans hx).cell_some l0
      replace l1 := (HX1.out.trans hx).cell_some l1
      replace l2 := (HX1.out.trans hx).cell_some l2
      have a0 := hx.cell_some HA.out.1
      have a1 := hx.cell_some HA.out.2.1
      have b0 := hx.cell_some HA.out.2.2.1
      have b1 := hx.cell_some HA.out.2.2.2
      have la := cell_lt a0
      have lb := cell_lt b0
      have ll := cell_lt l0
      have HSE := Lib.hid (show shErr ya yb na nb p ls (j + 1) = shE ya yb na nb p ls[j] by
        show (if shErr ya yb na nb p ls j ≠ 0 then _ else _) = _
        rw [HZ.out, if_neg (by decide), List.getElem?_eq_getElem hjl]
        rfl)
      have HST := Lib.hid (show shTo ya yb na nb p ls (j + 1) = if shB ya yb na nb p ls[j] then shTo ya yb na nb p ls j ++ [(j : Int)] else shTo ya yb na nb p ls j by
        show (if shB ya yb na nb p (ls[j]?.getD (0, 0, 0)) then _ else _) = _
        rw [List.getElem?_eq_getElem hjl]
        rfl)
      have HER := Lib.hid fun (e : Int) (h : shE ya yb na nb p ls[j] = e) (he : e ≠ 0) => (show showsE ya yb na nb p ls = e from by
        rw [HE.out]
        have := shErr_stay (HSE.out.trans h) he (n - (j + 1))
        rwa [show j + 1 + (n - (j + 1)) = n by omega] at this)
      have hsd : shE ya yb na nb p ls[j] = if brightE ya yb p ls[j].1 ls[j].2.1 ls[j].2.2 ≠ 0 then brightE ya yb p ls[j].1 ls[j].2.1 ls[j].2.2 else brightE na nb p ls[j].1 ls[j].2.1 ls[j].2.2 := rfl
      have hsb : shB ya yb na nb p ls[j] = !decide (brightN ya yb p ls[j].1 ls[j].2.1 ls[j].2.2 = brightN na nb p ls[j].1 ls[j].2.1 ls[j].2.2 ∧ brightD ya yb p ls[j].1 ls[j].2.1 ls[j].2.2 = brightD na nb p ls[j].1 ls[j].2.1 ls[j].2.2) := rfl
      have HB1 := Lib.hid fun W : World => refBright_any ya yb p ls[j].1 ls[j].2.1 ls[j].2.2 W
      have HB2 := Lib.hid fun W : World => refBright_any na nb p ls[j].1 ls[j].2.1 ls[j].2.2 W
      simp only [brightV] at HB1 HB2
      generalize shE ya yb na nb p ls[j] = se at *
      generalize shB ya yb na nb p ls[j] = sb at *
      generalize ls[j].1 = lx at *
      generalize ls[j].2.1 = ly at *
      generalize ls[j].2.2 = lz at *
      generalize brightN ya yb p lx ly lz = n1 at *
      generalize brightD ya yb p lx ly lz = d1 at *
      generalize brightE ya yb p lx ly lz = e1 at *
      generalize brightN na nb p lx ly lz = n2 at *
      generalize brightD na nb p lx ly lz = d2 at *
      generalize brightE na nb p lx ly lz = e2 at *
      have HSD := Lib.hid hsd
      have HSB := Lib.hid hsb
      have HLN := Lib.hid (show (shTo ya yb na nb p ls j).length ≤ 1000000000 by have := shTo_len ya yb na nb p ls j; omega)
      clear hx ho hsd hsb
      go_wp2_with fail
      refine wp_region_mk ([⟨10, 11, 12, 27, #[.int .i64 0, .int .i64 0], 34⟩]) (by kernel_rfl) (by kernel_rfl) ?_ ?_
      · intro m hm o ho ρ W
        simp only [List.mem_cons, List.not_mem_nil, or_false] at hm
        rcases hm with rfl <;> (cases ho; go_simp)
      repeat (any_goals (first | (refine wpX_skip (by rfl) ?_) | (refine wpX_pass (by rfl) (by rfl) ?_) | (refine wpX_stepK (by rfl) (by rfl) (fun K hK => ?_); go_simp; first | (refine hK _ ?_; clear hK K) | (apply Exists.intro; refine ⟨fun δ => ?_, hK _ ?_⟩; (focus (go_at_call 22; exact HB1.out _)); clear hK K))))
      all_goals refine wpX_nil ⟨?_, ?_⟩
      any_goals (intro m hm; simp only [List.mem_cons, List.not_mem_nil, or_false] at hm; rcases hm with rfl <;> exact ⟨by kernel_rfl, rfl, by simp [Value.cells, Value.oneCell']⟩)
      all_goals refine mk_one ?_
      rintro b7 δ hb7 m7
      have c0 : δ.wd.cell? ⟨b7, 0, none⟩ = some (.int .i64 n1) := (m7.cell 0).trans (by simp [Value.cells])
      have c1 : δ.wd.cell? ⟨b7, 1, none⟩ = some (.int .i64 d1) := (m7.cell 1).trans (by simp [Value.cells])
      have lc := cell_lt c0
      have x5 : Ext wr δ.wd := ⟨δ, rfl⟩
      have HX5 := Lib.hid (HX.out.trans x5)
      have HX5r := Lib.hid x5
      replace b0 := x5.cell_some b0
      replace b1 := x5.cell_some b1
      replace l0 := x5.cell_some l0
      replace l1 := x5.cell_some l1
      replace l2 := x5.cell_some l2
      replace lb := cell_lt b0
      replace ll := cell_lt l0
      generalize δ.wd = w5 at *
      clear x5 hb7 m7 a0 a1 la
      by_cases he1 : e1 = 0
      case neg =>
        have g1 : (e1 != 0) = true := by simpa using he1
        have HF := Lib.hid (HER.out e1 (by rw [HSD.out, if_pos he1]) he1)
        have HF2 := Lib.hid (show showsL ya yb na nb p ls = [] by rw [HLD.out, HF.out, if_neg he1])
        clear he1
        go_wp2_with fail
        go_ret2
        exact retEE_mkS (EK.Own.nil _ _) HF2.out HF.out (HX1.out.trans HX5.out)
      have g1 : (e1 != 0) = false := by simpa using he1
      have HE1 := Lib.hid he1
      clear he1
      go_wp2_with fail
      refine wp_region_mk ([⟨10, 11, 14, 27, #[.int .i64 0, .int .i64 0], 47⟩]) (by kernel_rfl) (by kernel_rfl) ?_ ?_
      · intro m hm o ho ρ W
        simp only [List.mem_cons, List.not_mem_nil, or_false] at hm
        rcases hm with rfl <;> (cases ho; go_simp)
      repeat (any_goals (first | (refine wpX_skip (by rfl) ?_) | (refine wpX_pass (by rfl) (by rfl) ?_) | (refine wpX_stepK (by rfl) (by rfl) (fun K hK => ?_); go_simp; first | (refine hK _ ?_; clear hK K) | (apply Exists.intro; refine ⟨fun δ => ?_, hK _ ?_⟩; (focus (go_at_call 22; exact HB2.out _)); clear hK K))))
      all_goals refine wpX_nil ⟨?_, ?_⟩
      any_goals (intro m hm; simp only [List.mem_cons, List.not_mem_nil, or_false] at hm; rcases hm with rfl <;> exact ⟨by kernel_rfl, rfl, by simp [Value.cells, Value.oneCell']⟩)
      all_goals refine mk_one ?_
      rintro b8 δ hb8 m8
      have q0 : δ.wd.cell? ⟨b8, 0, none⟩ = some (.int .i64 n2) := (m8.cell 0).trans (by simp [Value.cells])
      have q1 : δ.wd.cell? ⟨b8, 1, none⟩ = some (.int .i64 d2) := (m8.cell 1).trans (by simp [Value.cells])
      have lq := cell_lt q0
      have x6 : Ext w5 δ.wd := ⟨δ, rfl⟩
      have HX6 := Lib.hid (HX5.out.trans x6)
      have HX6r := Lib.hid (HX5r.out.trans x6)
      replace c0 := x6.cell_some c0
      replace c1 := x6.cell_some c1
      replace lc := cell_lt c0
      generalize δ.wd = w6 at *
      clear x6 hb8 m8 b0 b1 lb l0 l1 l2 ll
      by_cases he2 : e2 = 0
      case neg =>
        have g2 : (e2 != 0) = true := by simpa using he2
        have HF := Lib.hid (HER.out e2 (by rw [HSD.out, if_neg (fun h => h HE1.out)]) he2)
        have HF2 := Lib.hid (show showsL ya yb na nb p ls = [] by rw [HLD.out, HF.out, if_neg he2])
        clear he2
        go_wp2_with fail
        go_ret2
        exact retEE_mkS (EK.Own.nil _ _) HF2.out HF.out (HX1.out.trans HX6.out)
      have g2 : (e2 != 0) = false := by simpa using he2
      have HZ2 := Lib.hid (show shErr ya yb na nb p ls (j + 1) = 0 by rw [HSE.out, HSD.out, if_neg (fun h => h HE1.out)]; exact he2)
      clear he2
      by_cases ha : n1 = n2
      · by_cases hd : d1 = d2
        · have HV := Lib.hid (show shTo ya yb na nb p ls (j + 1) = shTo ya yb na nb p ls j by rw [HST.out, HSB.out, decide_eq_true ⟨ha, hd⟩]; rfl)
          subst ha hd
          go_wp2_with fail
          go_roundw
          case rel => exact ⟨j + 1, by omega, by go_num, HZ2, by rw [HV.out]; exact HO.out.ext HX6r.out, HX6.out⟩
          case measure => simp [intOf]; omega
        · have HV := Lib.hid (show shTo ya yb na nb p ls (j + 1) = shTo ya yb na nb p ls j ++ [(j : Int)] by rw [HST.out, HSB.out, decide_eq_false (fun h => hd h.2)]; rfl)
          have gd : (d1 != d2) = true := by simpa using hd
          have gd' : (d1 == d2) = false := by simpa using hd
          subst ha
          clear hd
          go_wp2_with (at_builtin; refine EK.app (K := intK) (B := w1.heap.size) (xs := shTo ya yb na nb p ls j) rfl (.tmp 55) (.tmp 57) rfl w6.heap.size 1 (j : Int) rfl rfl (fun i u hu => cell_new hu) ((HO.out.ext HX6r.out).ext ((Ext.refl _).alloc _)) (by have := HX6.out.bel.size; simp; omega) HLN.out ?_; intro v' w7 o7 b7 _; obtain ⟨Av, kv, cv, rfl⟩ := o7.shape; have HO7 := Lib.hid o7; have HB7 := Lib.hid b7; clear o7 b7)
          go_roundw
          case rel => exact ⟨j + 1, by omega, by go_num, HZ2, by rw [HV.out]; exact HO7.out, (HX6.out.alloc _).below HB7.out (Nat.le_refl _)⟩
          case measure => simp [intOf]; omega
      · have HV := Lib.hid (show shTo ya yb na nb p ls (j + 1) = shTo ya yb na nb p ls j ++ [(j : Int)] by rw [HST.out, HSB.out, decide_eq_false (fun h => ha h.1)]; rfl)
        have gd : (n1 != n2) = true := by simpa using ha
        have gd' : (n1 == n2) = false := by simpa using ha
        clear ha
        go_wp2_with (at_builtin; refine EK.app (K := intK) (B := w1.heap.size) (xs := shTo ya yb na nb p ls j) rfl (.tmp 55) (.tmp 57) rfl w6.heap.size 1 (j : Int) rfl rfl (fun i u hu => cell_new hu) ((HO.out.ext HX6r.out).ext ((Ext.refl _).alloc _)) (by have := HX6.out.bel.size; simp; omega) HLN.out ?_; intro v' w7 o7 b7 _; obtain ⟨Av, kv, cv, rfl⟩ := o7.shape; have HO7 := Lib.hid o7; have HB7 := Lib.hid b7; clear o7 b7)
        go_roundw
        case rel => exact ⟨j + 1, by omega, by go_num, HZ2, by rw [HV.out]; exact HO7.out, (HX6.out.alloc _).below HB7.out (Nat.le_refl _)⟩
        case measure => simp [intOf]; omega
    · obtain rfl : j = n := by omega
      have HF := Lib.hid (show showsE ya yb na nb p ls = 0 by rw [HE.out, HZ.out])
      have HF2 := Lib.hid (show showsL ya yb na nb p ls = shTo ya yb na nb p ls j by rw [HLD.out, if_pos HF.out, HN.out])
      clear hx ho
      go_wp2_with fail
      go_ret2
      exact retEE_mkS (HO.out.mono hsz) HF2.out HF.out (HX1.out.trans HX.out)
end Go.Proofs.Ytlljhimaopnbfaa
