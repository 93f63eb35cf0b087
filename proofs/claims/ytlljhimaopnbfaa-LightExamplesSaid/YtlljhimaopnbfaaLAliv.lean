/- The layer's examples hold: alive. No condition. -/
import Derived.Test.YtlljhimaopnbfaaLRead
import Derived.Test.YtlljhimaopnbfaaLShw
import Derived.Test.YtlljhimaopnbfaaLLw
import Derived.Test.YtlljhimaopnbfaaLFac
import Derived.Test.YtlljhimaopnbfaaLSame
namespace Go.Proofs.Ytlljhimaopnbfaa
open Go.RowKit

def rampH : List Int := [0, 0, 4, 0, 0, 4]
def RampR (w : World) (e : Ending) (w' : World) : Prop := ∃ hv, e = .returned (surfV 3 2 1 hv) ∧ intK.Is w' hv rampH ∧ Ext w w'
set_option maxHeartbeats 1000000 in
theorem ramp_any (w : World) : Calls Try.prog 62 #[] w (RampR w) := by
  go_enter Try.func62, Try.ntmps62
  go_wp2_with fail
  have HL := EK.Own.lit (K := intK) (B := 0) (w.alloc (.cells #[.int .i64 3, .int .i64 2, .int .i64 1, .slice (some ⟨w.heap.size + 1, 0, none⟩) 6 6] 37)) #[.int .i64 0, .int .i64 0, .int .i64 4, .int .i64 0, .int .i64 0, .int .i64 4] rampH rfl (Nat.zero_le _) (by decide)
  refine bodyPost_ret (v := surfV 3 2 1 (.slice (some ⟨w.heap.size + 1, 0, none⟩) 6 6)) (by simp [results, Try.results62, go_sem]) rfl ?_
  refine ⟨_, rfl, ?_, by (repeat' (first | with_reducible exact Ext.refl _ | with_reducible apply Ext.alloc | with_reducible apply Ext.drew | with_reducible apply Ext.drewN | with_reducible refine Ext.setCell ?_ ?_ _ | with_reducible apply Ext.step | with_reducible assumption | with_reducible exact Nat.le_refl _ | (simp; done) | (simp; omega)))⟩
  have := HL.is
  rw [show (w.alloc (.cells #[.int .i64 3, .int .i64 2, .int .i64 1, .slice (some ⟨w.heap.size + 1, 0, none⟩) 6 6] 37)).heap.size = w.heap.size + 1 by simp] at this
  exact this

set_option maxRecDepth 100000 in
set_option maxHeartbeats 4000000 in
theorem light_alive (w : World) : Calls Try.prog 55 #[] w fun e w' => e = .returned (.bool true) ∧ Ext w w' := by
  have HRA := Lib.hid fun W : World => ramp_any W
  have HFA := Lib.hid fun (hv : Value) (W : World) (h : intK.Is W hv rampH) => (show Calls Try.prog 27 #[surfV 3 2 1 hv] W (RetEE tiltK W [(0, 0), (8, 0)] 0) from by
    have := facets_any 3 2 1 hv rampH W h
    rwa [show facetsL 3 2 1 rampH = [(0, 0), (8, 0)] by decide +kernel, show surfE 3 2 1 rampH = 0 by decide +kernel] at this)
  have HB1 := Lib.hid fun (W : World) => (show Calls Try.prog 21 #[tiltV 8 0, .int .i64 1, lightV 0 0 1] W fun e w' => e = .returned (.tuple #[shadeV 1 17, .int .i64 0]) ∧ Ext W w' from by
    have := Bright_any 8 0 1 0 0 1 W
    rwa [brightV, show brightN 8 0 1 0 0 1 = 1 by decide +kernel, show brightD 8 0 1 0 0 1 = 17 by decide +kernel, show brightE 8 0 1 0 0 1 = 0 by decide +kernel] at this)
  have HB2 := Lib.hid fun (W : World) => (show Calls Try.prog 21 #[tiltV 8 0, .int .i64 1, lightV (-4) 0 1] W fun e w' => e = .returned (.tuple #[shadeV 1 1, .int .i64 0]) ∧ Ext W w' from by
    have := Bright_any 8 0 1 (-4) 0 1 W
    rwa [brightV, show brightN 8 0 1 (-4) 0 1 = 1 by decide +kernel, show brightD 8 0 1 (-4) 0 1 = 1 by decide +kernel, show brightE 8 0 1 (-4) 0 1 = 0 by decide +kernel] at this)
  have HSH := Lib.hid fun (hv : Value) (W : World) (h : intK.Is W hv rampH) => (show Calls Try.prog 35 #[surfV 3 2 1 hv, lightV 1 0 1] W (RetEE boolK W [true, false] 0) from by
    have := shadows_any 3 2 1 hv rampH 1 0 1 W h
    rwa [show shadowsL 3 2 1 rampH 1 0 1 = [true, false] by decide +kernel, show shadE 3 2 1 rampH 1 0 1 = 0 by decide +kernel] at this)
  have HLE := Lib.hid fun (hv : Value) (W : World) (h : intK.Is W hv rampH) => (show Calls Try.prog 39 #[surfV 3 2 1 hv, lightV 0 0 1, .int .i64 16] W (RetEE intK W [15, 0] 0) from by
    have := Levels_any 3 2 1 hv rampH 0 0 1 16 W h
    rwa [show levelsL 3 2 1 rampH 0 0 1 16 = [15, 0] by decide +kernel, show levE 3 2 1 rampH 0 0 1 16 = 0 by decide +kernel] at this)
  have HRD := Lib.hid fun (v : Value) (W : World) (h : shadeK.Is W v [(1, 2), (1, 3), (1, 2)]) => (show Calls Try.prog 53 #[v] W (RetEE boolK W [true, false, true] 0) from by
    have := Read_any v [(1, 2), (1, 3), (1, 2)] W h
    rwa [show readL [(1, 2), (1, 3), (1, 2)] = [true, false, true] by decide +kernel, show readE [(1, 2), (1, 3), (1, 2)] = 0 by decide +kernel] at this)
  go_enter Try.func55, Try.ntmps55
  go_wp2_with fail
  refine (HRA.out _).mono ?_
  rintro e w1 ⟨hv1, rfl, hi1, x1⟩
  have HX1 := Lib.hid x1
  clear x1
  go_wp2_with fail
  refine (HFA.out _ _ hi1).mono ?_
  rintro e w2 ⟨tv, rfl, ot, x2⟩
  obtain ⟨At, kt, ct, rfl⟩ := ot.shape
  have HT2 := Lib.hid ot.is
  have HX2 := Lib.hid (HX1.out.trans x2)
  clear ot x2 hi1
  go_wp2_with fail
  refine (HB1.out _).mono ?_
  rintro e w3 ⟨rfl, x3⟩
  have HT3 := Lib.hid (HT2.out.ext x3)
  have HX3 := Lib.hid (HX2.out.trans x3)
  clear x3
  go_wp2_with fail
  have c3 : (w3.alloc (.cells #[.int .i64 1, .int .i64 17] 27)).cell? ⟨w3.heap.size, 0, none⟩ = some (.int .i64 1) := cell_new rfl
  have d3 : (w3.alloc (.cells #[.int .i64 1, .int .i64 17] 27)).cell? ⟨w3.heap.size, 1, none⟩ = some (.int .i64 17) := cell_new rfl
  refine (HB2.out _).mono ?_
  rintro e w4 ⟨rfl, x4⟩
  have HX4 := Lib.hid (show Ext w3 w4 from Ext.trans ((Ext.refl _).alloc _) x4)
  replace c3 := x4.cell_some c3
  replace d3 := x4.cell_some d3
  clear x4
  go_wp2_with fail
  have c4 : (w4.alloc (.cells #[.int .i64 1, .int .i64 1] 27)).cell? ⟨w4.heap.size, 0, none⟩ = some (.int .i64 1) := cell_new rfl
  have d4 : (w4.alloc (.cells #[.int .i64 1, .int .i64 1] 27)).cell? ⟨w4.heap.size, 1, none⟩ = some (.int .i64 1) := cell_new rfl
  refine (HRA.out _).mono ?_
  rintro e w5 ⟨hv5, rfl, hi5, x5⟩
  have HX5 := Lib.hid (HX4.out.trans (show Ext w4 w5 from Ext.trans ((Ext.refl _).alloc _) x5))
  replace c3 := (show Ext w4 w5 from Ext.trans ((Ext.refl _).alloc _) x5).cell_some c3
  replace d3 := (show Ext w4 w5 from Ext.trans ((Ext.refl _).alloc _) x5).cell_some d3
  replace c4 := x5.cell_some c4
  replace d4 := x5.cell_some d4
  clear x5
  have l3 := cell_lt c3
  have l4 := cell_lt c4
  go_wp2_with fail
  refine (HSH.out _ _ hi5).mono ?_
  rintro e w6 ⟨bv, rfl, ob, x6⟩
  obtain ⟨Ab, kb, cb, rfl⟩ := ob.shape
  have HB6 := Lib.hid ob.is
  have HX6 := Lib.hid (HX5.out.trans x6)
  replace c3 := x6.cell_some c3
  replace d3 := x6.cell_some d3
  replace c4 := x6.cell_some c4
  replace d4 := x6.cell_some d4
  replace l3 := cell_lt c3
  replace l4 := cell_lt c4
  clear ob x6 hi5
  go_wp2_with fail
  refine (HRA.out _).mono ?_
  rintro e w7 ⟨hv7, rfl, hi7, x7⟩
  have HB7 := Lib.hid (HB6.out.ext x7)
  have HX7 := Lib.hid (HX6.out.trans x7)
  replace c3 := x7.cell_some c3
  replace d3 := x7.cell_some d3
  replace c4 := x7.cell_some c4
  replace d4 := x7.cell_some d4
  replace l3 := cell_lt c3
  replace l4 := cell_lt c4
  clear x7
  go_wp2_with fail
  refine (HLE.out _ _ hi7).mono ?_
  rintro e w8 ⟨nv, rfl, on, x8⟩
  obtain ⟨An, kn, cn, rfl⟩ := on.shape
  have HN8 := Lib.hid on.is
  have HB8 := Lib.hid (HB7.out.ext x8)
  have HX8 := Lib.hid (HX7.out.trans x8)
  replace c3 := x8.cell_some c3
  replace d3 := x8.cell_some d3
  replace c4 := x8.cell_some c4
  replace d4 := x8.cell_some d4
  replace l3 := cell_lt c3
  replace l4 := cell_lt c4
  have HSL := Lib.hid (EK.Own.lit (K := shadeK) (B := w8.heap.size) w8 #[.int .i64 1, .int .i64 2, .int .i64 1, .int .i64 3, .int .i64 1, .int .i64 2] [(1, 2), (1, 3), (1, 2)] rfl (Nat.le_refl _) (by decide)).is
  clear on x8 hi7
  go_wp2_with fail
  refine (HRD.out _ _ HSL.out).mono ?_
  rintro e w9 ⟨rv, rfl, or, x9'⟩
  obtain ⟨Ar, kr, cr, rfl⟩ := or.shape
  have x9 : Ext w8 w9 := Ext.trans ((Ext.refl _).alloc _) x9'
  have HR9 := Lib.hid or.is
  have HN9 := Lib.hid (HN8.out.ext x9)
  have HB9 := Lib.hid (HB8.out.ext x9)
  have HX9 := Lib.hid (HX8.out.trans x9)
  replace c3 := x9.cell_some c3
  replace d3 := x9.cell_some d3
  replace c4 := x9.cell_some c4
  replace d4 := x9.cell_some d4
  replace l3 := cell_lt c3
  replace l4 := cell_lt c4
  have HT9 := Lib.hid (HT3.out.ext HX9.out)
  have HTL := Lib.hid (EK.Own.lit (K := tiltK) (B := w9.heap.size) w9 #[.int .i64 0, .int .i64 0, .int .i64 8, .int .i64 0] [(0, 0), (8, 0)] rfl (Nat.le_refl _) (by decide)).is
  clear or x9 x9'
  go_wp2_with fail
  have C1 := sameTilts_any _ _ _ _ _ (HT9.out.ext ((Ext.refl _).alloc _)) HTL.out
  rw [decide_eq_true rfl] at C1
  refine C1.mono ?_
  rintro e wa ⟨rfl, xa'⟩
  have xa : Ext w9 wa := Ext.trans ((Ext.refl _).alloc _) xa'
  have HXa := Lib.hid (HX9.out.trans xa)
  replace c3 := xa.cell_some c3
  replace d3 := xa.cell_some d3
  replace c4 := xa.cell_some c4
  replace d4 := xa.cell_some d4
  replace l3 := cell_lt c3
  replace l4 := cell_lt c4
  have HRa := Lib.hid (HR9.out.ext xa)
  have HNa := Lib.hid (HN9.out.ext xa)
  have HBa := Lib.hid (HB9.out.ext xa)
  have HBL := Lib.hid (EK.Own.lit (K := boolK) (B := wa.heap.size) wa #[.bool true, .bool false] [true, false] rfl (Nat.le_refl _) (by decide)).is
  clear C1 xa xa'
  go_wp2_with fail
  have C2 := sameBools_any _ _ _ _ _ (HBa.out.ext ((Ext.refl _).alloc _)) HBL.out
  rw [decide_eq_true rfl] at C2
  refine C2.mono ?_
  rintro e wb ⟨rfl, xb'⟩
  have xb : Ext wa wb := Ext.trans ((Ext.refl _).alloc _) xb'
  have HXb := Lib.hid (HXa.out.trans xb)
  have HRb := Lib.hid (HRa.out.ext xb)
  have HNb := Lib.hid (HNa.out.ext xb)
  have HNL := Lib.hid (EK.Own.lit (K := intK) (B := wb.heap.size) wb #[.int .i64 15, .int .i64 0] [15, 0] rfl (Nat.le_refl _) (by decide)).is
  clear C2 xb xb' c3 d3 c4 d4 l3 l4
  go_wp2_with fail
  have C3 := sameInts_any _ _ _ _ _ (HNb.out.ext ((Ext.refl _).alloc _)) HNL.out
  rw [decide_eq_true rfl] at C3
  refine C3.mono ?_
  rintro e wc ⟨rfl, xc'⟩
  have xc : Ext wb wc := Ext.trans ((Ext.refl _).alloc _) xc'
  have HXc := Lib.hid (HXb.out.trans xc)
  have HRc := Lib.hid (HRb.out.ext xc)
  have HRL := Lib.hid (EK.Own.lit (K := boolK) (B := wc.heap.size) wc #[.bool true, .bool false, .bool true] [true, false, true] rfl (Nat.le_refl _) (by decide)).is
  clear C3 xc xc'
  go_wp2_with fail
  have C4 := sameBools_any _ _ _ _ _ (HRc.out.ext ((Ext.refl _).alloc _)) HRL.out
  rw [decide_eq_true rfl] at C4
  refine C4.mono ?_
  rintro e wd ⟨rfl, xd'⟩
  have HXd := Lib.hid (HXc.out.trans (show Ext wc wd from Ext.trans ((Ext.refl _).alloc _) xd'))
  clear C4 xd'
  go_wp2_with fail
  go_ret
  exact ⟨rfl, HX3.out.trans HXd.out⟩
end Go.Proofs.Ytlljhimaopnbfaa
