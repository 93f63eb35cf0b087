/- RosetteFinds: the law's walk. Condition: slices read as lists. -/
import Derived.Test.YtaaceadcnnfngaaRCntR
import Derived.Test.YtaaceadcnnfngaaRLawBase
namespace Go.Proofs.Ytaaceadcnnfngaa
open Go.RowKit

set_option maxRecDepth 100000 in
set_option maxHeartbeats 4000000 in
theorem lawFinds_any (u v : Value) (xs ys : List Int) (w : World) (hu : IsI w u xs) (hv : IsI w v ys) :
    Calls Try.prog 5 #[u, v] w fun e w' => e = .returned (.bool true) ∧ Ext w w' := by
  have HU := Lib.hid hu
  have HV := Lib.hid hv
  obtain ⟨A, n, c, rfl, _⟩ := hu.open_
  obtain ⟨A', m, c', rfl, _⟩ := hv.open_
  clear hu hv
  go_enter Try.func5, Try.ntmps5
  go_wp2_with fail
  refine lay_calls (fun W => Ext w W ∧ W.cell? ⟨w.heap.size, 0, none⟩ = some (.slice A n c) ∧ W.cell? ⟨w.heap.size, 1, none⟩ = some (.slice A' m c')) ⟨by (repeat' (first | with_reducible exact Ext.refl _ | with_reducible apply Ext.alloc | with_reducible apply Ext.drew | with_reducible apply Ext.drewN | with_reducible refine Ext.setCell ?_ ?_ _ | with_reducible apply Ext.step | with_reducible assumption | with_reducible exact Nat.le_refl _ | (simp; done) | (simp; omega))), by go_cell, by go_cell⟩ ?_
  rintro w0 ⟨X0, h0, h1⟩
  have HX0 := Lib.hid X0
  refine (great2_any _ _ _ _ xs ys w0 h0 h1 (HU.out.ext X0) (HV.out.ext X0)).mono ?_
  rintro e _ ⟨rfl, rfl⟩
  clear h0 h1 X0
  cases hg : greatB xs ys
  rotate_left
  · go_wp2_with fail
    go_ret
    exact ⟨rfl, HX0.out⟩
  have hgl : xs.length ≤ 120 ∧ ys.length ≤ 120 := by simp [greatB] at hg; omega
  have HGL := Lib.hid hgl
  clear hgl hg
  have HMM := Lib.hid fun W : World => OwnI.made W.heap.size W 0 (Nat.le_refl _) #[] (by decide) rfl
  have HBB := Lib.hid fun W : World => show W.heap.size ≤ (W.alloc (.cells #[] 3)).heap.size by simp
  have HU0 := Lib.hid (HU.out.ext (HX0.out.alloc (.cells #[] 3)))
  have HX7 := Lib.hid fun (w7 : World) (b7 : Below w0.heap.size (w0.alloc (.cells #[] 3)) w7) => show Ext w w7 from (HX0.out.alloc _).below b7 HX0.out.bel.size
  have HZ0 := Lib.hid (show ([] : List Int).length + xs.length ≤ 10000000000 by have := HGL.out; rw [List.length_nil]; omega)
  go_wp2_with (at_builtin; refine app_all rfl _ _ rfl rfl rfl HU0.out (HMM.out w0) (HBB.out w0) HZ0.out ?_; intro v7 w7 o7 b7)
  have X7 := Lib.hid (HX7.out w7 b7)
  have O7 := Lib.hid (show OwnI w0.heap.size w7 v7 xs by simpa using o7)
  clear o7 b7 HMM HBB HU0 HX7 HZ0
  have S8 := Lib.hid (((Has.nil w7).snoc O7.out.isI).snoc (HU.out.ext X7.out) |>.snoc (HV.out.ext X7.out))
  have M8 := Lib.hid (Mine.nil w7.heap.size w7)
  have E8 := Lib.hid (Ext.refl w7)
  refine (Find_any v7 _ xs ys w7 (S8.out.get 0 rfl) (S8.out.get 2 rfl)).mono ?_
  rintro e w9 ⟨v9, rfl, o9, x9⟩
  have S9 := Lib.hid ((S8.out.ext x9).snoc o9.isI)
  have M9 := Lib.hid (M8.out.snoc E8.out.bel.size x9 o9)
  have E9 := Lib.hid (E8.out.trans x9)
  clear x9 o9 M8 E8
  go_wp2_with fail
  refine (refFind_any _ _ xs ys w9 (S9.out.get 1 rfl) (S9.out.get 2 rfl)).mono ?_
  rintro e w10 ⟨v10, rfl, o10, x10⟩
  have S10 := Lib.hid ((S9.out.ext x10).snoc o10.isI)
  have M10 := Lib.hid (M9.out.ext x10)
  have E10 := Lib.hid (E9.out.trans x10)
  clear x10 o10 S9 M9 E9
  go_wp2_with fail
  refine (count_any v7 _ xs ys w10 (S10.out.get 0 rfl) (S10.out.get 2 rfl)).mono ?_
  rintro e w11 ⟨rfl, x11⟩
  have S11 := Lib.hid (S10.out.ext x11)
  have M11 := Lib.hid (M10.out.ext x11)
  have E11 := Lib.hid (E10.out.trans x11)
  clear x11 S10 M10 E10
  go_wp2_with fail
  refine (refCount_any _ _ xs ys w11 (S11.out.get 1 rfl) (S11.out.get 2 rfl)).mono ?_
  rintro e w12 ⟨rfl, x12⟩
  have S12 := Lib.hid (S11.out.ext x12)
  have M12 := Lib.hid (M11.out.ext x12)
  have E12 := Lib.hid (E11.out.trans x12)
  clear x12 S11 M11 E11
  generalize countN xs ys = cn
  generalize countEr xs ys = ce
  generalize findEr xs ys = fe
  go_wp2_with fail
  refine (same_true (S12.out.get 3 rfl) (S12.out.get 4 rfl)).mono ?_
  rintro e w13 ⟨rfl, x13⟩
  have M13 := Lib.hid (M12.out.ext x13)
  have E13 := Lib.hid (E12.out.trans x13)
  clear x13 S12 M12 E12
  go_wp2_with fail
  refine (Mine.erase E13.out M13.out).mono ?_
  rintro e w14 ⟨rfl, e14, m14⟩
  have E14 := Lib.hid e14
  clear e14 m14 M13 E13
  go_wp2_with fail
  refine (same_true ((S8.out.ext E14.out).get 0 rfl) ((S8.out.ext E14.out).get 1 rfl)).mono ?_
  rintro e w15 ⟨rfl, x15⟩
  have E15 := Lib.hid (E14.out.trans x15)
  clear x15 E14
  go_wp2_with fail
  go_ret
  exact ⟨rfl, X7.out.trans E15.out⟩
theorem lawFinds_row (u : Value) (xs : List Int) (v : Value) (ys : List Int) (w : World) (hu : IsI w u xs) (hv : IsI w v ys) :
    Calls Try.prog 5 #[u, v] w fun e w' => e = .returned (.bool true) ∧ Ext w w' := lawFinds_any u v xs ys w hu hv
end Go.Proofs.Ytaaceadcnnfngaa
