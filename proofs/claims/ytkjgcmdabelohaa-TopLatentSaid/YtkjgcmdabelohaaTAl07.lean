/- barleycorntop.alive07. No condition. -/
import Derived.Test.YtkjgcmdabelohaaTLawP
import Derived.Test.YtkjgcmdabelohaaLSameB
namespace Go.Proofs.Ytkjgcmdabelohaa
open Go.RowKit

def aMsg : List Bool := msgL [31599] 1 4
def aTil : List (Int × Int) := latL aMsg 5 0 (-5) 0
theorem aMsg_is : hidB [31599] 1 4 5 0 (-5) 0 = true := by decide +kernel
theorem aTil_len : aTil.length ≤ 1000 := by decide +kernel
theorem aTil_one : ∀ t ∈ aTil, brightE t.1 t.2 10 (-1) 0 2 = 0 := by decide +kernel
theorem aTil_two : ∀ t ∈ aTil, brightE t.1 t.2 10 0 1 2 = 0 := by decide +kernel
theorem aOne_e : readE (aTil.map (shOf 10 (-1) 0 2)) = 0 := by decide +kernel
theorem aOne_l : readL (aTil.map (shOf 10 (-1) 0 2)) = aMsg := by decide +kernel
theorem aTwo_e : readE (aTil.map (shOf 10 0 1 2)) = 6 := by decide +kernel

set_option maxRecDepth 100000 in
set_option maxHeartbeats 4000000 in
theorem alive07_any (w : World) : Calls Try.prog 12 #[] w fun e w' => e = .returned (.bool true) ∧ Ext w w' := by
  have HH := Lib.hid fun (u : Value) (W : World) (h : intK.Is W u [31599]) => (show Calls Try.prog 13 #[u, .int .i64 1, .int .i64 4, tiltV 5 0, tiltV (-5) 0] W (HidRet W aTil aMsg true) from by
    have := hidden_any u [31599] 1 4 5 0 (-5) 0 W h
    rwa [aMsg_is] at this)
  have HS1 := Lib.hid fun (v : Value) (W : World) (h : tiltK.Is W v aTil) => (show Calls Try.prog 17 #[v, .int .i64 10, lightV (-1) 0 2] W (RetEE boolK W aMsg 0) from by
    have := seen_any v aTil 10 (-1) 0 2 W h aTil_len aTil_one
    rwa [aOne_e, aOne_l] at this)
  have HS2 := Lib.hid fun (v : Value) (W : World) (h : tiltK.Is W v aTil) => (show Calls Try.prog 17 #[v, .int .i64 10, lightV 0 1 2] W (RetEE boolK W (readL (aTil.map (shOf 10 0 1 2))) 6) from by
    have := seen_any v aTil 10 0 1 2 W h aTil_len aTil_two
    rwa [aTwo_e] at this)
  have HSB := Lib.hid fun (u v : Value) (W : World) (h : boolK.Is W u aMsg) (h' : boolK.Is W v aMsg) => (show Calls Try.prog 39 #[u, v] W fun e w' => e = .returned (.bool true) ∧ Ext W w' from by
    have := sameBools_any u v aMsg aMsg W h h'
    rwa [decide_eq_true rfl] at this)
  generalize aMsg = ms at *
  generalize aTil = ts at *
  generalize readL _ = rl at *
  go_enter Try.func12, Try.ntmps12
  have HSL := Lib.hid (EK.Own.lit (K := intK) (B := w.heap.size) w #[.int .i64 31599] [31599] rfl (Nat.le_refl _) (by decide)).is
  go_wp2_with fail
  refine (HH.out _ _ HSL.out).mono ?_
  rintro e w1 ⟨tv, mv, rfl, ot, om, x1⟩
  have HX1 := Lib.hid (show Ext w w1 from ((Ext.refl w).alloc _).trans x1)
  have HT := Lib.hid ot.is
  have HM := Lib.hid om.is
  obtain ⟨A1, k1, c1, rfl⟩ := ot.shape
  obtain ⟨A2, k2, c2, rfl⟩ := om.shape
  clear x1 ot om HSL
  go_wp2_with fail
  refine (HS1.out _ _ HT.out).mono ?_
  rintro e w2 ⟨lv, rfl, ol, x2⟩
  have HX2 := Lib.hid (HX1.out.trans x2)
  have HT2 := Lib.hid (HT.out.ext x2)
  have HM2 := Lib.hid (HM.out.ext x2)
  have HL := Lib.hid ol.is
  obtain ⟨A3, k3, c3, rfl⟩ := ol.shape
  clear x2 ol
  go_wp2_with fail
  refine (HS2.out _ _ HT2.out).mono ?_
  rintro e w3 ⟨qv, rfl, oq, x3⟩
  have HX3 := Lib.hid (HX2.out.trans x3)
  have HM3 := Lib.hid (HM2.out.ext x3)
  have HL3 := Lib.hid (HL.out.ext x3)
  obtain ⟨A4, k4, c4, rfl⟩ := oq.shape
  clear x3 oq
  go_wp2_with fail
  refine (HSB.out _ _ _ HL3.out HM3.out).mono ?_
  rintro e w4 ⟨rfl, x4⟩
  have HX4 := Lib.hid (HX3.out.trans x4)
  clear x4
  go_wp2_with fail
  go_ret
  exact ⟨rfl, HX4.out⟩
end Go.Proofs.Ytkjgcmdabelohaa
