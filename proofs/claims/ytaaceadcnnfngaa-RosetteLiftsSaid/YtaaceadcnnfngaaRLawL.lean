/- RosetteLifts: the law's walk. Condition: slices read as lists. -/
import Derived.Test.YtaaceadcnnfngaaRRefB
import Derived.Test.YtaaceadcnnfngaaRLawBase
namespace Go.Proofs.Ytaaceadcnnfngaa
open Go.RowKit

set_option maxRecDepth 100000 in
set_option maxHeartbeats 4000000 in
theorem lawLifts_any (u v : Value) (xs ys : List Int) (x : Int) (w : World) (hu : IsI w u xs) (hv : IsI w v ys) :
    Calls Try.prog 3 #[u, v, .int .i64 x] w fun e w' => e = .returned (.bool true) ∧ Ext w w' := by
  have HU := Lib.hid hu
  have HV := Lib.hid hv
  obtain ⟨A, n, c, rfl, _⟩ := hu.open_
  obtain ⟨A', m, c', rfl, _⟩ := hv.open_
  clear hu hv
  go_enter Try.func3, Try.ntmps3
  go_wp2_with fail
  refine lay_calls (fun W => Ext w W ∧ W.cell? ⟨w.heap.size, 0, none⟩ = some (.slice A n c) ∧ W.cell? ⟨w.heap.size, 1, none⟩ = some (.slice A' m c')) ⟨by (repeat' (first | with_reducible exact Ext.refl _ | with_reducible apply Ext.alloc | with_reducible apply Ext.drew | with_reducible apply Ext.drewN | with_reducible refine Ext.setCell ?_ ?_ _ | with_reducible apply Ext.step | with_reducible assumption | with_reducible exact Nat.le_refl _ | (simp; done) | (simp; omega))), by go_cell, by go_cell⟩ ?_
  rintro w0 ⟨X0, h0, h1⟩
  have HX0 := Lib.hid X0
  refine (great2_any _ _ _ _ xs ys w0 h0 h1 (HU.out.ext X0) (HV.out.ext X0)).mono ?_
  rintro e _ ⟨rfl, rfl⟩
  clear h0 h1 X0
  cases hg : greatB xs ys
  rotate_left
  · go_wp2_with fail
    go_ret
    exact ⟨rfl, HX0.out⟩
  have hgl : xs.length ≤ 120 ∧ ys.length ≤ 120 := by simp [greatB] at hg; omega
  have HGL := Lib.hid hgl
  clear hgl hg
  have HMM := Lib.hid fun W : World => OwnI.made W.heap.size W 0 (Nat.le_refl _) #[] (by decide) rfl
  have HBB := Lib.hid fun W : World => show W.heap.size ≤ (W.alloc (.cells #[] 3)).heap.size by simp
  have HU0 := Lib.hid (HU.out.ext (HX0.out.alloc (.cells #[] 3)))
  have HX7 := Lib.hid fun (w7 : World) (b7 : Below w0.heap.size (w0.alloc (.cells #[] 3)) w7) => show Ext w w7 from (HX0.out.alloc _).below b7 HX0.out.bel.size
  have HV7 := Lib.hid fun (w7 : World) (b7 : Below w0.heap.size (w0.alloc (.cells #[] 3)) w7) => HV.out.ext ((HX7.out w7 b7).alloc (.cells #[] 3))
  have HZ0 := Lib.hid (show ([] : List Int).length + xs.length ≤ 10000000000 by have := HGL.out; rw [List.length_nil]; omega)
  have HZ1 := Lib.hid (show ([] : List Int).length + ys.length ≤ 10000000000 by have := HGL.out; rw [List.length_nil]; omega)
  go_wp2_with (first
    | (at_builtin; refine app_all rfl _ _ rfl rfl rfl HU0.out (HMM.out w0) (HBB.out w0) HZ0.out ?_; intro v7 w7 o7 b7)
    | (at_builtin; refine app_all rfl _ _ rfl rfl rfl (HV7.out w7 b7) (HMM.out w7) (HBB.out w7) HZ1.out ?_; intro v8 w8 o8 b8))
  have X7 := Lib.hid (HX7.out w7 b7)
  have O7 := Lib.hid (show OwnI w0.heap.size w7 v7 xs by simpa using o7)
  clear o7 b7 HMM HBB HU0 HX7 HV7 HZ0 HZ1
  have X8 := Lib.hid (show Ext w w8 from (X7.out.alloc _).below b8 X7.out.bel.size)
  have E78 := Lib.hid (show Ext w7 w8 from ((Ext.refl w7).alloc _).below b8 (Nat.le_refl _))
  have S8 := Lib.hid ((((Has.nil w8).snoc (O7.out.isI.ext E78.out)).snoc (show IsI w8 v8 ys from (show OwnI w7.heap.size w8 v8 ys by simpa using o8).isI)).snoc (HU.out.ext X8.out) |>.snoc (HV.out.ext X8.out))
  have M8 := Lib.hid (Mine.nil w8.heap.size w8)
  have E8 := Lib.hid (Ext.refl w8)
  clear o8 b8
  refine (Lift_any v7 v8 xs ys w8 (S8.out.get 0 rfl) (S8.out.get 1 rfl)).mono ?_
  rintro e w9 ⟨v9, rfl, o9, x9⟩
  have S9 := Lib.hid ((S8.out.ext x9).snoc o9.isI)
  have M9 := Lib.hid (M8.out.snoc E8.out.bel.size x9 o9)
  have E9 := Lib.hid (E8.out.trans x9)
  clear x9 o9 M8 E8
  go_wp2_with fail
  refine (refLift_any _ _ xs ys w9 (S9.out.get 2 rfl) (S9.out.get 3 rfl)).mono ?_
  rintro e w10 ⟨v10, rfl, o10, x10⟩
  have S10 := Lib.hid ((S9.out.ext x10).snoc o10.isI)
  have M10 := Lib.hid (M9.out.ext x10)
  have E10 := Lib.hid (E9.out.trans x10)
  clear x10 o10 S9 M9 E9
  go_wp2_with fail
  refine (Under_any v7 v8 xs ys w10 (S10.out.get 0 rfl) (S10.out.get 1 rfl)).mono ?_
  rintro e w11 ⟨v11, rfl, o11, x11⟩
  have S11 := Lib.hid ((S10.out.ext x11).snoc o11.isI)
  have M11 := Lib.hid (M10.out.snoc E10.out.bel.size x11 o11)
  have E11 := Lib.hid (E10.out.trans x11)
  clear x11 o11 S10 M10 E10
  go_wp2_with fail
  refine (refUnder_any _ _ xs ys w11 (S11.out.get 2 rfl) (S11.out.get 3 rfl)).mono ?_
  rintro e w12 ⟨v12, rfl, o12, x12⟩
  have S12 := Lib.hid ((S11.out.ext x12).snoc o12.isI)
  have M12 := Lib.hid (M11.out.ext x12)
  have E12 := Lib.hid (E11.out.trans x12)
  clear x12 o12 S11 M11 E11
  go_wp2_with fail
  refine (Close_any v7 v8 xs ys w12 (S12.out.get 0 rfl) (S12.out.get 1 rfl)).mono ?_
  rintro e w13 ⟨v13, rfl, o13, x13⟩
  have S13 := Lib.hid ((S12.out.ext x13).snoc o13.isI)
  have M13 := Lib.hid (M12.out.snoc E12.out.bel.size x13 o13)
  have E13 := Lib.hid (E12.out.trans x13)
  clear x13 o13 S12 M12 E12
  go_wp2_with fail
  refine (refClose_any _ _ xs ys w13 (S13.out.get 2 rfl) (S13.out.get 3 rfl)).mono ?_
  rintro e w14 ⟨v14, rfl, o14, x14⟩
  have S14 := Lib.hid ((S13.out.ext x14).snoc o14.isI)
  have M14 := Lib.hid (M13.out.ext x14)
  have E14 := Lib.hid (E13.out.trans x14)
  clear x14 o14 S13 M13 E13
  go_wp2_with fail
  refine (Grind_any v7 v8 xs ys w14 (S14.out.get 0 rfl) (S14.out.get 1 rfl)).mono ?_
  rintro e w15 ⟨v15, rfl, o15, x15⟩
  have S15 := Lib.hid ((S14.out.ext x15).snoc o15.isI)
  have M15 := Lib.hid (M14.out.snoc E14.out.bel.size x15 o15)
  have E15 := Lib.hid (E14.out.trans x15)
  clear x15 o15 S14 M14 E14
  go_wp2_with fail
  refine (refGrind_any _ _ xs ys w15 (S15.out.get 2 rfl) (S15.out.get 3 rfl)).mono ?_
  rintro e w16 ⟨v16, rfl, o16, x16⟩
  have S16 := Lib.hid ((S15.out.ext x16).snoc o16.isI)
  have M16 := Lib.hid (M15.out.ext x16)
  have E16 := Lib.hid (E15.out.trans x16)
  clear x16 o16 S15 M15 E15
  go_wp2_with fail
  refine (check_any v7 xs w16 (S16.out.get 0 rfl)).mono ?_
  rintro e _ ⟨rfl, rfl⟩
  go_wp2_with fail
  refine (refCheck_any _ xs w16 (S16.out.get 2 rfl)).mono ?_
  rintro e _ ⟨rfl, rfl⟩
  go_wp2_with fail
  refine (checkRubber_any v8 ys _ w16 (S16.out.get 1 rfl)).mono ?_
  rintro e _ ⟨rfl, rfl⟩
  go_wp2_with fail
  refine (refCheckRubber_any _ ys _ w16 (S16.out.get 3 rfl)).mono ?_
  rintro e _ ⟨rfl, rfl⟩
  go_wp2_with fail
  refine (same_true (S16.out.get 4 rfl) (S16.out.get 5 rfl)).mono ?_
  rintro e w17 ⟨rfl, x17⟩
  have S17 := Lib.hid (S16.out.ext x17)
  have M17 := Lib.hid (M16.out.ext x17)
  have E17 := Lib.hid (E16.out.trans x17)
  clear x17 S16 M16 E16
  go_wp2_with fail
  refine (same_true (S17.out.get 6 rfl) (S17.out.get 7 rfl)).mono ?_
  rintro e w18 ⟨rfl, x18⟩
  have S18 := Lib.hid (S17.out.ext x18)
  have M18 := Lib.hid (M17.out.ext x18)
  have E18 := Lib.hid (E17.out.trans x18)
  clear x18 S17 M17 E17
  go_wp2_with fail
  refine (same_true (S18.out.get 8 rfl) (S18.out.get 9 rfl)).mono ?_
  rintro e w19 ⟨rfl, x19⟩
  have S19 := Lib.hid (S18.out.ext x19)
  have M19 := Lib.hid (M18.out.ext x19)
  have E19 := Lib.hid (E18.out.trans x19)
  clear x19 S18 M18 E18
  go_wp2_with fail
  refine (same_true (S19.out.get 10 rfl) (S19.out.get 11 rfl)).mono ?_
  rintro e w20 ⟨rfl, x20⟩
  have S20 := Lib.hid (S19.out.ext x20)
  have M20 := Lib.hid (M19.out.ext x20)
  have E20 := Lib.hid (E19.out.trans x20)
  clear x20 S19 M19 E19
  go_wp2_with fail
  refine (Mine.erase E20.out M20.out).mono ?_
  rintro e w21 ⟨rfl, e21, m21⟩
  have M21 := Lib.hid m21
  have E21 := Lib.hid e21
  clear e21 m21 M20 E20
  go_wp2_with fail
  refine (Mine.erase E21.out M21.out).mono ?_
  rintro e w22 ⟨rfl, e22, m22⟩
  have M22 := Lib.hid m22
  have E22 := Lib.hid e22
  clear e22 m22 M21 E21
  go_wp2_with fail
  refine (Mine.erase E22.out M22.out).mono ?_
  rintro e w23 ⟨rfl, e23, m23⟩
  have M23 := Lib.hid m23
  have E23 := Lib.hid e23
  clear e23 m23 M22 E22
  go_wp2_with fail
  refine (Mine.erase E23.out M23.out).mono ?_
  rintro e w24 ⟨rfl, e24, m24⟩
  have M24 := Lib.hid m24
  have E24 := Lib.hid e24
  clear e24 m24 M23 E23
  go_wp2_with fail
  refine (same_true ((S8.out.ext E24.out).get 0 rfl) ((S8.out.ext E24.out).get 2 rfl)).mono ?_
  rintro e w25 ⟨rfl, x25⟩
  have E25 := Lib.hid (E24.out.trans x25)
  clear x25 E24
  go_wp2_with fail
  refine (same_true ((S8.out.ext E25.out).get 1 rfl) ((S8.out.ext E25.out).get 3 rfl)).mono ?_
  rintro e w26 ⟨rfl, x26⟩
  have E26 := Lib.hid (E25.out.trans x26)
  clear x26 E25
  go_wp2_with fail
  go_ret
  exact ⟨rfl, X8.out.trans E26.out⟩
theorem lawLifts_row (u : Value) (xs : List Int) (v : Value) (ys : List Int) (x : Int) (w : World) (hu : IsI w u xs) (hv : IsI w v ys) :
    Calls Try.prog 3 #[u, v, .int .i64 x] w fun e w' => e = .returned (.bool true) ∧ Ext w w' := lawLifts_any u v xs ys x w hu hv
end Go.Proofs.Ytaaceadcnnfngaa
