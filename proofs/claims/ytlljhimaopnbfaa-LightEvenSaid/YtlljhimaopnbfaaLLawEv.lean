/- LightEven: the law's walk. No condition. -/
import Derived.Test.YtlljhimaopnbfaaLLawOn
import Derived.Test.YtlljhimaopnbfaaLShs
namespace Go.Proofs.Ytlljhimaopnbfaa
open Go.RowKit

theorem shE_zero {ya yb na nb p : Int} {l : Int × Int × Int} : shE ya yb na nb p l = 0 ↔ brightE ya yb p l.1 l.2.1 l.2.2 = 0 ∧ brightE na nb p l.1 l.2.1 l.2.2 = 0 := by
  unfold shE
  split
  · rename_i h
    exact ⟨fun e => absurd e h, fun e => absurd e.1 h⟩
  · rename_i h
    have h' : brightE ya yb p l.1 l.2.1 l.2.2 = 0 := Decidable.byContradiction h
    exact ⟨fun e => ⟨h', e⟩, fun e => e.2⟩
theorem shErr_zero {ya yb na nb p : Int} {ls : List (Int × Int × Int)} : ∀ {j : Nat}, shErr ya yb na nb p ls j = 0 ↔ ∀ i, i < j → shE ya yb na nb p (ls[i]?.getD (0, 0, 0)) = 0
  | 0 => ⟨fun _ i h => by omega, fun _ => rfl⟩
  | j + 1 => by
    have ih := shErr_zero (ya := ya) (yb := yb) (na := na) (nb := nb) (p := p) (ls := ls) (j := j)
    unfold shErr
    split
    · rename_i h
      exact ⟨fun e => absurd e h, fun e => absurd (ih.2 fun i hi => e i (by omega)) h⟩
    · rename_i h
      have h' : shErr ya yb na nb p ls j = 0 := Decidable.byContradiction h
      refine ⟨fun e i hi => ?_, fun e => e j (by omega)⟩
      rcases (by omega : i < j ∨ i = j) with h1 | rfl
      · exact ih.1 h' i h1
      · exact e
theorem shE_comm {ya yb na nb p : Int} {l : Int × Int × Int} : shE ya yb na nb p l = 0 ↔ shE na nb ya yb p l = 0 := by rw [shE_zero, shE_zero, and_comm]
theorem shB_comm (ya yb na nb p : Int) (l : Int × Int × Int) : shB ya yb na nb p l = shB na nb ya yb p l := by
  unfold shB
  congr 1
  exact decide_eq_decide.2 ⟨fun h => ⟨h.1.symm, h.2.symm⟩, fun h => ⟨h.1.symm, h.2.symm⟩⟩
theorem shTo_comm (ya yb na nb p : Int) (ls : List (Int × Int × Int)) : ∀ j, shTo ya yb na nb p ls j = shTo na nb ya yb p ls j
  | 0 => rfl
  | j + 1 => by
    unfold shTo
    rw [shTo_comm ya yb na nb p ls j, shB_comm]
theorem shows_comm (ya yb na nb p : Int) (ls : List (Int × Int × Int)) : (showsE ya yb na nb p ls = 0 ↔ showsE na nb ya yb p ls = 0) ∧ showsL ya yb na nb p ls = showsL na nb ya yb p ls := by
  have h1 : showsE ya yb na nb p ls = 0 ↔ showsE na nb ya yb p ls = 0 := by
    unfold showsE
    split
    · rw [shErr_zero, shErr_zero]
      exact ⟨fun h i hi => shE_comm.1 (h i hi), fun h i hi => shE_comm.1 (h i hi)⟩
    · exact Iff.rfl
  refine ⟨h1, ?_⟩
  unfold showsL
  by_cases h : showsE ya yb na nb p ls = 0
  · rw [if_pos h, if_pos (h1.1 h), shTo_comm]
  · rw [if_neg h, if_neg (fun e => h (h1.2 e))]
theorem even_none {t p x z : Int} (h : showsE t 0 0 t p [(x, x, z), (x, x, z)] = 0) : showsL t 0 0 t p [(x, x, z), (x, x, z)] = [] := by
  have h1 : shErr t 0 0 t p [(x, x, z), (x, x, z)] 2 = 0 := h
  have h2 := shE_zero.1 (shErr_zero.1 h1 0 (by decide))
  obtain ⟨_, _, _, a, b⟩ := bright_ok h2.1
  obtain ⟨_, _, _, c, d⟩ := bright_ok h2.2
  obtain ⟨e1, e2⟩ := shade_even t p x z
  have hb : shB t 0 0 t p (x, x, z) = false := by
    unfold shB
    simp only [List.getElem?_cons_zero, Option.getD_some] at a b c d
    simp only
    rw [a, b, c, d, e1, e2]
    simp
  unfold showsL
  rw [if_pos h]
  show (if shB t 0 0 t p (x, x, z) then _ else (if shB t 0 0 t p (x, x, z) then _ else [])) = []
  rw [hb]
  rfl
theorem two_lights {w : World} {B : Nat} (hB : w.heap.size = B) (a b c d e f : Int) : lightK.Is (w.alloc (.cells #[.int .i64 a, .int .i64 b, .int .i64 c, .int .i64 d, .int .i64 e, .int .i64 f] 25)) (.slice (some ⟨B, 0, none⟩) 2 2) [(a, b, c), (d, e, f)] := by
  subst hB
  exact (EK.Own.lit (K := lightK) (B := 0) w #[.int .i64 a, .int .i64 b, .int .i64 c, .int .i64 d, .int .i64 e, .int .i64 f] [(a, b, c), (d, e, f)] rfl (Nat.zero_le _) (by simp [maxLen])).is

set_option maxRecDepth 100000 in
set_option maxHeartbeats 8000000 in
theorem lawEven_any (t p lx ly lz mx my mz ya yb na nb : Int) (w : World) :
    Calls Try.prog 14 #[.int .i64 t, .int .i64 p, lightV lx ly lz, lightV mx my mz, tiltV ya yb, tiltV na nb] w fun e w' => e = .returned (.bool true) ∧ Ext w w' := by
  have HAL := Lib.hid fun W : World => light_alive W
  have X0 := Lib.hid (show Ext w ((((w.alloc (.cells #[.int .i64 lx, .int .i64 ly, .int .i64 lz] 25)).alloc (.cells #[.int .i64 mx, .int .i64 my, .int .i64 mz] 25)).alloc (.cells #[.int .i64 ya, .int .i64 yb] 23)).alloc (.cells #[.int .i64 na, .int .i64 nb] 23)) from by (repeat' (first | with_reducible exact Ext.refl _ | with_reducible apply Ext.alloc | with_reducible apply Ext.drew | with_reducible apply Ext.drewN | with_reducible refine Ext.setCell ?_ ?_ _ | with_reducible apply Ext.step | with_reducible assumption | with_reducible exact Nat.le_refl _ | (simp; done) | (simp; omega))))
  have HC1 := Lib.hid fun (W : World) (v : Value) (h : lightK.Is W v [(lx, lx, lz), (lx, lx, lz)]) => Shows_any t 0 0 t p v _ W h
  have HC2 := Lib.hid fun (W : World) (v : Value) (h : lightK.Is W v [(lx, ly, lz), (mx, my, mz)]) => Shows_any ya yb na nb p v _ W h
  have HC3 := Lib.hid fun (W : World) (v : Value) (h : lightK.Is W v [(lx, ly, lz), (mx, my, mz)]) => Shows_any na nb ya yb p v _ W h
  have HEV := Lib.hid (even_none (t := t) (p := p) (x := lx) (z := lz))
  obtain ⟨hcm, hcl⟩ := shows_comm ya yb na nb p [(lx, ly, lz), (mx, my, mz)]
  rw [← hcl] at HC3
  generalize showsL t 0 0 t p [(lx, lx, lz), (lx, lx, lz)] = zs1 at *
  generalize showsE t 0 0 t p [(lx, lx, lz), (lx, lx, lz)] = e1 at *
  generalize showsL ya yb na nb p [(lx, ly, lz), (mx, my, mz)] = zs2 at *
  generalize showsE ya yb na nb p [(lx, ly, lz), (mx, my, mz)] = e2 at *
  generalize showsE na nb ya yb p [(lx, ly, lz), (mx, my, mz)] = e3 at *
  have he23 : ((e2 == 0) == (e3 == 0)) = true := by
    by_cases h : e2 = 0
    · rw [h, hcm.1 h]; rfl
    · have h3 : ¬ e3 = 0 := fun e => h (hcm.2 e)
      rw [beq_eq_false_iff_ne.2 h, beq_eq_false_iff_ne.2 h3]; rfl
  clear hcm hcl
  go_enter Try.func14, Try.ntmps14
  go_wp2_with fail
  refine (HAL.out _).mono ?_
  rintro e w1 ⟨rfl, x1⟩
  have HX1 := Lib.hid (X0.out.trans x1)
  have a0 : w1.cell? ⟨w.heap.size, 0, none⟩ = some (.int .i64 lx) := x1.cell_some (by go_cell)
  have a1 : w1.cell? ⟨w.heap.size, 1, none⟩ = some (.int .i64 ly) := x1.cell_some (by go_cell)
  have a2 : w1.cell? ⟨w.heap.size, 2, none⟩ = some (.int .i64 lz) := x1.cell_some (by go_cell)
  have b0 : w1.cell? ⟨w.heap.size + 1, 0, none⟩ = some (.int .i64 mx) := x1.cell_some (by go_cell)
  have b1 : w1.cell? ⟨w.heap.size + 1, 1, none⟩ = some (.int .i64 my) := x1.cell_some (by go_cell)
  have b2 : w1.cell? ⟨w.heap.size + 1, 2, none⟩ = some (.int .i64 mz) := x1.cell_some (by go_cell)
  have c0 : w1.cell? ⟨w.heap.size + 2, 0, none⟩ = some (.int .i64 ya) := x1.cell_some (by go_cell)
  have c1 : w1.cell? ⟨w.heap.size + 2, 1, none⟩ = some (.int .i64 yb) := x1.cell_some (by go_cell)
  have d0 : w1.cell? ⟨w.heap.size + 3, 0, none⟩ = some (.int .i64 na) := x1.cell_some (by go_cell)
  have d1 : w1.cell? ⟨w.heap.size + 3, 1, none⟩ = some (.int .i64 nb) := x1.cell_some (by go_cell)
  have la := cell_lt a0
  have lb := cell_lt b0
  have lc := cell_lt c0
  have ld := cell_lt d0
  clear x1
  go_wp2_with fail
  refine (HC1.out _ _ (two_lights (by simp) lx lx lz lx lx lz)).mono ?_
  rintro e w2 ⟨v1, rfl, o1, x2'⟩
  have x2 : Ext w1 w2 := Ext.trans (((Ext.refl _).alloc _).alloc _) x2'
  have HX2 := Lib.hid (HX1.out.trans x2)
  replace a0 := x2.cell_some a0
  replace a1 := x2.cell_some a1
  replace a2 := x2.cell_some a2
  replace b0 := x2.cell_some b0
  replace b1 := x2.cell_some b1
  replace b2 := x2.cell_some b2
  replace c0 := x2.cell_some c0
  replace c1 := x2.cell_some c1
  replace d0 := x2.cell_some d0
  replace d1 := x2.cell_some d1
  replace la := cell_lt a0
  replace lb := cell_lt b0
  replace lc := cell_lt c0
  replace ld := cell_lt d0
  obtain ⟨A1, k1, q1, rfl, hk1, -⟩ := o1.is.open_
  clear x2 x2' o1
  by_cases he1 : e1 = 0
  · have hz := HEV.out he1
    rw [hz] at hk1
    obtain rfl : k1 = 0 := hk1.symm
    subst he1
    clear hz
    go_wp2_with fail
    refine (HC2.out _ _ (two_lights rfl lx ly lz mx my mz)).mono ?_
    rintro e w3 ⟨v2, rfl, o2, x3'⟩
    have x3 : Ext w2 w3 := Ext.trans ((Ext.refl _).alloc _) x3'
    have HX3 := Lib.hid (HX2.out.trans x3)
    replace a0 := x3.cell_some a0
    replace a1 := x3.cell_some a1
    replace a2 := x3.cell_some a2
    replace b0 := x3.cell_some b0
    replace b1 := x3.cell_some b1
    replace b2 := x3.cell_some b2
    replace c0 := x3.cell_some c0
    replace c1 := x3.cell_some c1
    replace d0 := x3.cell_some d0
    replace d1 := x3.cell_some d1
    replace la := cell_lt a0
    replace lb := cell_lt b0
    replace lc := cell_lt c0
    replace ld := cell_lt d0
    obtain ⟨A2, k2, q2, rfl⟩ := o2.shape
    have HO2 := Lib.hid o2.is
    clear x3 x3' o2
    go_wp2_with fail
    refine (HC3.out _ _ (two_lights rfl lx ly lz mx my mz)).mono ?_
    rintro e w4 ⟨v3, rfl, o3, x4'⟩
    have x4 : Ext w3 w4 := Ext.trans ((Ext.refl _).alloc _) x4'
    have HX4 := Lib.hid (HX3.out.trans x4)
    obtain ⟨A3, k3, q3, rfl⟩ := o3.shape
    have C := sameInts_any _ _ _ _ w4 (HO2.out.ext x4) o3.is
    rw [decide_eq_true rfl] at C
    have HSA := Lib.hid C
    clear x4 x4' o3 C a0 a1 a2 b0 b1 b2 c0 c1 d0 d1 la lb lc ld
    go_wp2_with fail
    refine HSA.out.mono ?_
    rintro e w5 ⟨rfl, x5⟩
    have HX5 := Lib.hid (HX4.out.trans x5)
    clear x5
    go_wp2_with fail
    go_ret
    exact ⟨rfl, HX5.out⟩
  · have g1 : (e1 == 0) = false := by simpa using he1
    clear he1
    go_wp2_with fail
    refine (HC2.out _ _ (two_lights rfl lx ly lz mx my mz)).mono ?_
    rintro e w3 ⟨v2, rfl, o2, x3'⟩
    have x3 : Ext w2 w3 := Ext.trans ((Ext.refl _).alloc _) x3'
    have HX3 := Lib.hid (HX2.out.trans x3)
    replace a0 := x3.cell_some a0
    replace a1 := x3.cell_some a1
    replace a2 := x3.cell_some a2
    replace b0 := x3.cell_some b0
    replace b1 := x3.cell_some b1
    replace b2 := x3.cell_some b2
    replace c0 := x3.cell_some c0
    replace c1 := x3.cell_some c1
    replace d0 := x3.cell_some d0
    replace d1 := x3.cell_some d1
    replace la := cell_lt a0
    replace lb := cell_lt b0
    replace lc := cell_lt c0
    replace ld := cell_lt d0
    obtain ⟨A2, k2, q2, rfl⟩ := o2.shape
    have HO2 := Lib.hid o2.is
    clear x3 x3' o2
    go_wp2_with fail
    refine (HC3.out _ _ (two_lights rfl lx ly lz mx my mz)).mono ?_
    rintro e w4 ⟨v3, rfl, o3, x4'⟩
    have x4 : Ext w3 w4 := Ext.trans ((Ext.refl _).alloc _) x4'
    have HX4 := Lib.hid (HX3.out.trans x4)
    obtain ⟨A3, k3, q3, rfl⟩ := o3.shape
    have C := sameInts_any _ _ _ _ w4 (HO2.out.ext x4) o3.is
    rw [decide_eq_true rfl] at C
    have HSA := Lib.hid C
    clear x4 x4' o3 C a0 a1 a2 b0 b1 b2 c0 c1 d0 d1 la lb lc ld
    go_wp2_with fail
    refine HSA.out.mono ?_
    rintro e w5 ⟨rfl, x5⟩
    have HX5 := Lib.hid (HX4.out.trans x5)
    clear x5
    go_wp2_with fail
    go_ret
    exact ⟨rfl, HX5.out⟩
end Go.Proofs.Ytlljhimaopnbfaa
