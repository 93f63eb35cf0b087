/- light.Shows. Condition: the lights read as a list. -/
import Derived.Test.YtkjgcmdabelohaaLTools
import Derived.Test.YtkjgcmdabelohaaLXK
import Derived.Test.YtkjgcmdabelohaaESlot
namespace Go.Proofs.Ytkjgcmdabelohaa
open Go.RowKit

/-- The error at a light; whether the image shows in it. -/
def shE (ya yb na nb p : Int) (l : Int × Int × Int) : Int := if brightE ya yb p l.1 l.2.1 l.2.2 ≠ 0 then brightE ya yb p l.1 l.2.1 l.2.2 else brightE na nb p l.1 l.2.1 l.2.2
def shB (ya yb na nb p : Int) (l : Int × Int × Int) : Bool := !decide (brightN ya yb p l.1 l.2.1 l.2.2 = brightN na nb p l.1 l.2.1 l.2.2 ∧ brightD ya yb p l.1 l.2.1 l.2.2 = brightD na nb p l.1 l.2.1 l.2.2)
def shErr (ya yb na nb p : Int) (ls : List (Int × Int × Int)) : Nat → Int
  | 0 => 0
  | j + 1 => if shErr ya yb na nb p ls j ≠ 0 then shErr ya yb na nb p ls j else shE ya yb na nb p (ls[j]?.getD (0, 0, 0))
def shTo (ya yb na nb p : Int) (ls : List (Int × Int × Int)) : Nat → List Int
  | 0 => []
  | j + 1 => if shB ya yb na nb p (ls[j]?.getD (0, 0, 0)) then shTo ya yb na nb p ls j ++ [(j : Int)] else shTo ya yb na nb p ls j
theorem shErr_stay {ya yb na nb p : Int} {ls : List (Int × Int × Int)} {j : Nat} {e : Int} (h : shErr ya yb na nb p ls j = e) (he : e ≠ 0) : ∀ d, shErr ya yb na nb p ls (j + d) = e
  | 0 => h
  | d + 1 => by
    rw [← Nat.add_assoc]
    show (if shErr ya yb na nb p ls (j + d) ≠ 0 then shErr ya yb na nb p ls (j + d) else _) = e
    rw [shErr_stay h he d, if_pos he]
theorem shTo_len (ya yb na nb p : Int) (ls : List (Int × Int × Int)) : ∀ j, (shTo ya yb na nb p ls j).length ≤ j
  | 0 => Nat.le_refl _
  | j + 1 => by
    have := shTo_len ya yb na nb p ls j
    unfold shTo
    split
    · simp; omega
    · omega
def showsE (ya yb na nb p : Int) (ls : List (Int × Int × Int)) : Int := if inB 1 8 ls.length then shErr ya yb na nb p ls ls.length else 4
def showsL (ya yb na nb p : Int) (ls : List (Int × Int × Int)) : List Int := if showsE ya yb na nb p ls = 0 then shTo ya yb na nb p ls ls.length else []
theorem retEE_mkS {α : Type} {K : EK α} {w W : World} {zs zs' : List α} {v : Value} {er er' : Int} (ho : K.Own w.heap.size W v zs) (hz : zs' = zs) (he : er' = er) (x : Ext w W) : RetEE K w zs' er' (.returned (.tuple #[v, .int .i64 er])) W := by
  subst hz he
  exact ⟨v, rfl, ho, x⟩

set_option maxRecDepth 100000 in
set_option maxHeartbeats 4000000 in
theorem Shows_any (ya yb na nb p : Int) (lv : Value) (ls : List (Int × Int × Int)) (w : World) (hL : lightK.Is w lv ls) :
    Calls Try.prog 15 #[tiltV ya yb, tiltV na nb, .int .i64 p, lv] w (RetEE intK w (showsL ya yb na nb p ls) (showsE ya yb na nb p ls)) := by
  obtain ⟨A, n, c, rfl, hn, _, hr, hm⟩ := hL.open_
  have HN := Lib.hid hn
  have HR := Lib.hid hr
  clear hL hr
  cases hb : inB 1 8 (n : Int)
  · have HE := Lib.hid (show showsE ya yb na nb p ls = 4 from if_neg (by rw [hn, hb]; exact Bool.false_ne_true))
    have HL := Lib.hid (show showsL ya yb na nb p ls = [] from if_neg (by rw [HE.out]; decide))
    clear hn
    go_enter Try.func15, Try.ntmps15
    go_wp2_with fail
    refine (lfrom_one _ (n : Int) 1 8 _ _ (by go_cell)).mono ?_
    rintro e w1 ⟨rfl, x1⟩
    rw [hb]
    have HX1 := Lib.hid (show Ext w w1 from Ext.trans (by (repeat' (first | with_reducible exact Ext.refl _ | with_reducible apply Ext.alloc | with_reducible apply Ext.drew | with_reducible apply Ext.drewN | with_reducible refine Ext.setCell ?_ ?_ _ | with_reducible apply Ext.step | with_reducible assumption | with_reducible exact Nat.le_refl _ | (simp; done) | (simp; omega)))) x1)
    clear x1
    go_wp2_with fail
    go_ret2
    exact retEE_mkS (EK.Own.nil _ _) HL.out HE.out HX1.out
  have HE := Lib.hid (show showsE ya yb na nb p ls = shErr ya yb na nb p ls n by unfold showsE; rw [hn, hb, if_pos rfl])
  have HLD := Lib.hid (show showsL ya yb na nb p ls = if showsE ya yb na nb p ls = 0 then shTo ya yb na nb p ls ls.length else [] from rfl)
  obtain ⟨hn1, hn8⟩ := inB_iff.1 hb
  clear hn
  go_enter Try.func15, Try.ntmps15
  go_wp2_with fail
  refine (lfrom_one _ (n : Int) 1 8 _ _ (by go_cell)).mono ?_
  rintro e w1 ⟨rfl, x1⟩
  rw [hb]
  have HX1 := Lib.hid (show Ext w w1 from Ext.trans (by (repeat' (first | with_reducible exact Ext.refl _ | with_reducible apply Ext.alloc | with_reducible apply Ext.drew | with_reducible apply Ext.drewN | with_reducible refine Ext.setCell ?_ ?_ _ | with_reducible apply Ext.step | with_reducible assumption | with_reducible exact Nat.le_refl _ | (simp; done) | (simp; omega)))) x1)
  have a0 : w1.cell? ⟨w.heap.size, 0, none⟩ = some (.int .i64 ya) := x1.cell_some (by go_cell)
  have a1 : w1.cell? ⟨w.heap.size, 1, none⟩ = some (.int .i64 yb) := x1.cell_some (by go_cell)
  have b0 : w1.cell? ⟨w.heap.size + 1, 0, none⟩ = some (.int .i64 na) := x1.cell_some (by go_cell)
  have b1 : w1.cell? ⟨w.heap.size + 1, 1, none⟩ = some (.int .i64 nb) := x1.cell_some (by go_cell)
  have la := cell_lt a0
  have lb := cell_lt b0
  have hsz := HX1.out.bel.size
  clear x1 hb
  go_wp2_with fail
  go_loopw [24, 10] (fun iv ov wr => ∃ j : Nat, j ≤ n ∧ iv = .int .i64 (j : Int) ∧ Hid (shErr ya yb na nb p ls j = 0) ∧ intK.Own w1.heap.size wr ov (shTo ya yb na nb p ls j) ∧ Ext w1 wr) (fun iv _ _ => n - (intOf iv).toNat)
  case atStart => exact ⟨0, by omega, rfl, Lib.hid rfl, EK.Own.nil _ _, Ext.refl _⟩
  case round =>
    obtain ⟨j, hj, rfl, HZ, ho, hx⟩ := hrel
    obtain ⟨Ao, ko, co, rfl⟩ := ho.shape
    have HX := Lib.hid hx
    have HO := Lib.hid ho
    by_cases hlt : j < n
    · have hjl : j < ls.length := by rw [HN.out]; exact hlt
      obtain ⟨b, o, rfl, _, l0, l1, l2⟩ := lightK_at HR.out j hjl
      replace l0 := (HX1.out.trans hx).cell_some l0
      replace l1 := (HX1.out.trans hx).cell_some l1
      replace l2 := (HX1.out.trans hx).cell_some l2
      replace a0 := hx.cell_some a0
      replace a1 := hx.cell_some a1
      replace b0 := hx.cell_some b0
      replace b1 := hx.cell_some b1
      replace la := cell_lt a0
      replace lb := cell_lt b0
      have ll := cell_lt l0
      have HSE := Lib.hid (show shErr ya yb na nb p ls (j + 1) = shE ya yb na nb p ls[j] by
        show (if shErr ya yb na nb p ls j ≠ 0 then _ else _) = _
        rw [HZ.out, if_neg (by decide), List.getElem?_eq_getElem hjl]
        rfl)
      have HST := Lib.hid (show shTo ya yb na nb p ls (j + 1) = if shB ya yb na nb p ls[j] then shTo ya yb na nb p ls j ++ [(j : Int)] else shTo ya yb na nb p ls j by
        show (if shB ya yb na nb p (ls[j]?.getD (0, 0, 0)) then _ else _) = _
        rw [List.getElem?_eq_getElem hjl]
        rfl)
      have HER := Lib.hid fun (e : Int) (h : shE ya yb na nb p ls[j] = e) (he : e ≠ 0) => (show showsE ya yb na nb p ls = e from by
        rw [HE.out]
        have := shErr_stay (HSE.out.trans h) he (n - (j + 1))
        rwa [show j + 1 + (n - (j + 1)) = n by omega] at this)
      have hsd : shE ya yb na nb p ls[j] = if brightE ya yb p ls[j].1 ls[j].2.1 ls[j].2.2 ≠ 0 then brightE ya yb p ls[j].1 ls[j].2.1 ls[j].2.2 else brightE na nb p ls[j].1 ls[j].2.1 ls[j].2.2 := rfl
      have hsb : shB ya yb na nb p ls[j] = !decide (brightN ya yb p ls[j].1 ls[j].2.1 ls[j].2.2 = brightN na nb p ls[j].1 ls[j].2.1 ls[j].2.2 ∧ brightD ya yb p ls[j].1 ls[j].2.1 ls[j].2.2 = brightD na nb p ls[j].1 ls[j].2.1 ls[j].2.2) := rfl
      have HB1 := Lib.hid fun W : World => Bright_any ya yb p ls[j].1 ls[j].2.1 ls[j].2.2 W
      have HB2 := Lib.hid fun W : World => Bright_any na nb p ls[j].1 ls[j].2.1 ls[j].2.2 W
      simp only [brightV] at HB1 HB2
      generalize shE ya yb na nb p ls[j] = se at *
      generalize shB ya yb na nb p ls[j] = sb at *
      generalize ls[j].1 = lx at *
      generalize ls[j].2.1 = ly at *
      generalize ls[j].2.2 = lz at *
      generalize brightN ya yb p lx ly lz = n1 at *
      generalize brightD ya yb p lx ly lz = d1 at *
      generalize brightE ya yb p lx ly lz = e1 at *
      generalize brightN na nb p lx ly lz = n2 at *
      generalize brightD na nb p lx ly lz = d2 at *
      generalize brightE na nb p lx ly lz = e2 at *
      have HSD := Lib.hid hsd
      have HSB := Lib.hid hsb
      have HLN := Lib.hid (show (shTo ya yb na nb p ls j).length ≤ 1000000000 by have := shTo_len ya yb na nb p ls j; omega)
      clear hx ho hsd hsb
      go_wp2_with fail
      refine (HB1.out _).mono ?_
      rintro e w5 ⟨rfl, x5'⟩
      have x5 : Ext wr w5 := Ext.trans ((Ext.refl _).alloc _) x5'
      have HX5 := Lib.hid (HX.out.trans x5)
      have HX5r := Lib.hid x5
      have c0 : w5.cell? ⟨wr.heap.size, 0, none⟩ = some (.int .i64 lx) := x5'.cell_some (by go_cell)
      have c1 : w5.cell? ⟨wr.heap.size, 1, none⟩ = some (.int .i64 ly) := x5'.cell_some (by go_cell)
      have c2 : w5.cell? ⟨wr.heap.size, 2, none⟩ = some (.int .i64 lz) := x5'.cell_some (by go_cell)
      have lc := cell_lt c0
      replace b0 := x5.cell_some b0
      replace b1 := x5.cell_some b1
      replace lb := cell_lt b0
      clear x5 x5' a0 a1 la l0 l1 l2 ll
      go_wp2_with fail
      refine (HB2.out _).mono ?_
      rintro e w6 ⟨rfl, x6'⟩
      have x6 : Ext w5 w6 := Ext.trans ((Ext.refl _).alloc _) x6'
      have HX6 := Lib.hid (HX5.out.trans x6)
      have HX6r := Lib.hid (HX5r.out.trans x6)
      have q0 : w6.cell? ⟨w5.heap.size, 0, none⟩ = some (.int .i64 n1) := x6'.cell_some (by go_cell)
      have q1 : w6.cell? ⟨w5.heap.size, 1, none⟩ = some (.int .i64 d1) := x6'.cell_some (by go_cell)
      have lq := cell_lt q0
      clear x6 x6' b0 b1 lb c0 c1 c2 lc
      by_cases he1 : e1 = 0
      case neg =>
        have g1 : (e1 != 0) = true := by simpa using he1
        have HF := Lib.hid (HER.out e1 (by rw [HSD.out, if_pos he1]) he1)
        have HF2 := Lib.hid (show showsL ya yb na nb p ls = [] by rw [HLD.out, HF.out, if_neg he1])
        clear he1
        go_wp2_with fail
        go_ret2
        exact retEE_mkS (EK.Own.nil _ _) HF2.out HF.out (HX1.out.trans (HX6.out.alloc _))
      have g1 : (e1 != 0) = false := by simpa using he1
      by_cases he2 : e2 = 0
      case neg =>
        have g2 : (e2 != 0) = true := by simpa using he2
        have HF := Lib.hid (HER.out e2 (by rw [HSD.out, if_neg (fun h => h he1)]) he2)
        have HF2 := Lib.hid (show showsL ya yb na nb p ls = [] by rw [HLD.out, HF.out, if_neg he2])
        clear he1 he2
        go_wp2_with fail
        go_ret2
        exact retEE_mkS (EK.Own.nil _ _) HF2.out HF.out (HX1.out.trans (HX6.out.alloc _))
      have g2 : (e2 != 0) = false := by simpa using he2
      have HZ2 := Lib.hid (show shErr ya yb na nb p ls (j + 1) = 0 by rw [HSE.out, HSD.out, if_neg (fun h => h he1)]; exact he2)
      clear he1 he2
      by_cases ha : n1 = n2
      · by_cases hd : d1 = d2
        · have HV := Lib.hid (show shTo ya yb na nb p ls (j + 1) = shTo ya yb na nb p ls j by rw [HST.out, HSB.out, decide_eq_true ⟨ha, hd⟩]; rfl)
          subst ha hd
          go_wp2_with fail
          go_roundw
          case rel => exact ⟨j + 1, by omega, by go_num, HZ2, by rw [HV.out]; exact (HO.out.ext HX6r.out).ext ((Ext.refl _).alloc _), HX6.out.alloc _⟩
          case measure => simp [intOf]; omega
        · have HV := Lib.hid (show shTo ya yb na nb p ls (j + 1) = shTo ya yb na nb p ls j ++ [(j : Int)] by rw [HST.out, HSB.out, decide_eq_false (fun h => hd h.2)]; rfl)
          have gd : (d1 != d2) = true := by simpa using hd
          have gd' : (d1 == d2) = false := by simpa using hd
          subst ha
          clear hd
          go_wp2_with (at_builtin; refine EK.app (K := intK) (B := w1.heap.size) (xs := shTo ya yb na nb p ls j) rfl (.tmp 55) (.tmp 57) rfl (w6.heap.size + 1) 1 (j : Int) rfl rfl (fun i u hu => cell_new1 hu) ((HO.out.ext HX6r.out).ext (((Ext.refl _).alloc _).alloc _)) (by have := HX6.out.bel.size; simp; omega) HLN.out ?_; intro v' w7 o7 b7 _; obtain ⟨Av, kv, cv, rfl⟩ := o7.shape; have HO7 := Lib.hid o7; have HB7 := Lib.hid b7; clear o7 b7)
          go_roundw
          case rel => exact ⟨j + 1, by omega, by go_num, HZ2, by rw [HV.out]; exact HO7.out, ((HX6.out.alloc _).alloc _).below HB7.out (Nat.le_refl _)⟩
          case measure => simp [intOf]; omega
      · have HV := Lib.hid (show shTo ya yb na nb p ls (j + 1) = shTo ya yb na nb p ls j ++ [(j : Int)] by rw [HST.out, HSB.out, decide_eq_false (fun h => ha h.1)]; rfl)
        have gd : (n1 != n2) = true := by simpa using ha
        have gd' : (n1 == n2) = false := by simpa using ha
        clear ha
        go_wp2_with (at_builtin; refine EK.app (K := intK) (B := w1.heap.size) (xs := shTo ya yb na nb p ls j) rfl (.tmp 55) (.tmp 57) rfl (w6.heap.size + 1) 1 (j : Int) rfl rfl (fun i u hu => cell_new1 hu) ((HO.out.ext HX6r.out).ext (((Ext.refl _).alloc _).alloc _)) (by have := HX6.out.bel.size; simp; omega) HLN.out ?_; intro v' w7 o7 b7 _; obtain ⟨Av, kv, cv, rfl⟩ := o7.shape; have HO7 := Lib.hid o7; have HB7 := Lib.hid b7; clear o7 b7)
        go_roundw
        case rel => exact ⟨j + 1, by omega, by go_num, HZ2, by rw [HV.out]; exact HO7.out, ((HX6.out.alloc _).alloc _).below HB7.out (Nat.le_refl _)⟩
        case measure => simp [intOf]; omega
    · obtain rfl : j = n := by omega
      have HF := Lib.hid (show showsE ya yb na nb p ls = 0 by rw [HE.out, HZ.out])
      have HF2 := Lib.hid (show showsL ya yb na nb p ls = shTo ya yb na nb p ls j by rw [HLD.out, if_pos HF.out, HN.out])
      clear hx ho
      go_wp2_with fail
      go_ret2
      exact retEE_mkS (HO.out.mono hsz) HF2.out HF.out (HX1.out.trans HX.out)
end Go.Proofs.Ytkjgcmdabelohaa
