/- RosetteFound: the law's walk. Condition: slices read as lists. -/
import Derived.Test.YtaaceadcnnfngaaRLawC
import Derived.Test.YtaaceadcnnfngaaRGal2
namespace Go.Proofs.Ytaaceadcnnfngaa
open Go.RowKit

set_option maxRecDepth 100000 in
set_option maxHeartbeats 4000000 in
theorem lawFound_any (u : Value) (f : List Int) (x : Value) (b : List Int) (w : World) (hu : IsI w u f) (hx : IsI w x b) :
    Calls Try.prog 8 #[u, x] w fun e w' => e = .returned (.bool true) ∧ Ext w w' := by
  have S0 := Lib.hid (((Has.nil w).snoc hu).snoc hx)
  have X0 := Lib.hid (Ext.refl w)
  obtain ⟨Au, nu, cu, rfl, _⟩ := hu.open_
  clear hu
  obtain ⟨Ax, nx, cx, rfl, _⟩ := hx.open_
  clear hx
  go_enter Try.func8, Try.ntmps8
  go_wp2_with fail
  refine (alive_any w).mono ?_
  rintro e w1 ⟨rfl, x1⟩
  have S1 := Lib.hid (S0.out.ext x1)
  have X1 := Lib.hid (X0.out.trans x1)
  clear x1 S0 X0
  go_wp2_with fail
  refine lay_calls (fun W => Ext w1 W ∧ W.cell? ⟨w1.heap.size, 0, none⟩ = some (.slice Au nu cu) ∧ W.cell? ⟨w1.heap.size, 1, none⟩ = some (.slice Ax nx cx)) ⟨by (repeat' (first | with_reducible exact Ext.refl _ | with_reducible apply Ext.alloc | with_reducible apply Ext.drew | with_reducible apply Ext.drewN | with_reducible refine Ext.setCell ?_ ?_ _ | with_reducible apply Ext.step | with_reducible assumption | with_reducible exact Nat.le_refl _ | (simp; done) | (simp; omega))), by go_cell, by go_cell⟩ ?_
  rintro w2 ⟨x2, h2_0, h2_1⟩
  have S2 := Lib.hid (S1.out.ext x2)
  have X2 := Lib.hid (X1.out.trans x2)
  clear x2 S1 X1
  refine (great2_any _ _ _ _ f b w2 h2_0 h2_1 (S2.out.get 0 rfl) (S2.out.get 1 rfl)).mono ?_
  rintro e _ ⟨rfl, rfl⟩
  clear h2_0 h2_1
  cases hgr : greatB f b
  rotate_left
  · go_wp2_with fail
    go_ret
    exact ⟨rfl, X2.out⟩
  have hgl : f.length ≤ 120 ∧ b.length ≤ 120 := by simp [greatB] at hgr; omega
  have HGL := Lib.hid hgl
  clear hgl hgr
  go_wp2_with fail
  refine (valid_any _ _ f b w2 (S2.out.get 0 rfl) (S2.out.get 1 rfl)).mono ?_
  rintro e _ ⟨rfl, rfl⟩
  cases vf : validB f b
  · go_wp2_with fail
    go_ret
    exact ⟨rfl, X2.out⟩
  have Hvf := Lib.hid vf
  clear vf
  have Fvf := Lib.hid (fine_iff.1 (of_decide_eq_true Hvf.out))
  have HB := Lib.hid (of_decide_eq_true Hvf.out)
  have HBC := Lib.hid (fine_iff.2 Fvf.out.close)
  have HBL := Lib.hid (fine_iff.2 Fvf.out.lift)
  go_wp2_with fail
  refine (Lift_val (zs := liftL f b) HB.out rfl (S2.out.get 0 rfl) (S2.out.get 1 rfl)).mono ?_
  rintro e w3 ⟨v3, rfl, o3, x3⟩
  have S3 := Lib.hid ((S2.out.ext x3).snoc o3.isI)
  have X3 := Lib.hid (X2.out.trans x3)
  clear x3 S2 X2 o3
  go_wp2_with fail
  refine (Find_val (er := 0) (zs := closeL f b) (by rw [findEr, if_pos HBL.out, if_pos (found_lift Fvf.out)]) (by rw [findL, if_pos ⟨HBL.out, found_lift Fvf.out⟩]; rfl) (S3.out.get 2 rfl) (S3.out.get 1 rfl)).mono ?_
  rintro e w4 ⟨v4, rfl, o4, x4⟩
  have S4 := Lib.hid ((S3.out.ext x4).snoc o4.isI)
  have X4 := Lib.hid (X3.out.trans x4)
  clear x4 S3 X3 o4
  go_wp2_with fail
  refine (Lift_val (zs := liftL f b) HBC.out (lift_close' Fvf.out) (S4.out.get 3 rfl) (S4.out.get 1 rfl)).mono ?_
  rintro e w5 ⟨v5, rfl, o5, x5⟩
  have S5 := Lib.hid ((S4.out.ext x5).snoc o5.isI)
  have X5 := Lib.hid (X4.out.trans x5)
  clear x5 S4 X4 o5
  go_wp2_with fail
  refine (Close_val (zs := closeL f b) HB.out rfl (S5.out.get 0 rfl) (S5.out.get 1 rfl)).mono ?_
  rintro e w6 ⟨v6, rfl, o6, x6⟩
  have S6 := Lib.hid ((S5.out.ext x6).snoc o6.isI)
  have X6 := Lib.hid (X5.out.trans x6)
  clear x6 S5 X5 o6
  go_wp2_with fail
  refine (same_true (S6.out.get 4 rfl) (S6.out.get 2 rfl)).mono ?_
  rintro e w7 ⟨rfl, x7⟩
  have S7 := Lib.hid (S6.out.ext x7)
  have X7 := Lib.hid (X6.out.trans x7)
  clear x7 S6 X6
  have H1 := Lib.hid (belowB_of (show LeL f (closeL f b) from le_close Fvf.out))
  go_wp2_with fail
  refine (below_any _ _ f (closeL f b) w7 (S7.out.get 0 rfl) (S7.out.get 3 rfl)).mono ?_
  rintro e w8 ⟨rfl, x8⟩
  have S8 := Lib.hid (S7.out.ext x8)
  have X8 := Lib.hid (X7.out.trans x8)
  clear x8 S7 X7
  rw [H1.out]
  go_wp2_with fail
  refine (same_true (S8.out.get 3 rfl) (S8.out.get 5 rfl)).mono ?_
  rintro e w9 ⟨rfl, x9⟩
  have S9 := Lib.hid (S8.out.ext x9)
  have X9 := Lib.hid (X8.out.trans x9)
  clear x9 S8 X8
  have HNu := Lib.hid (show nu = f.length by have := S9.out.get 0 rfl; obtain ⟨_, _, he, _, _, _⟩ := this; cases he; rfl)
  have HNx := Lib.hid (show nx = b.length by have := S9.out.get 1 rfl; obtain ⟨_, _, he, _, _, _⟩ := this; cases he; rfl)
  by_cases h7 : nx ≤ 7
  · have hd : decide (7 < (nx : Int)) = false := by simp; omega
    obtain ⟨hc0, hc1, hc2⟩ := count_lift Fvf.out (by rw [← HNx.out]; exact h7)
    have HC := Lib.hid (Count_val (er := 0) (n := countN (liftL f b) b) (by rw [countEr, if_pos HBL.out, if_neg (by rw [← HNx.out]; omega)]) rfl (S9.out.get 2 rfl) (S9.out.get 1 rfl))
    rw [← HNx.out] at hc2
    generalize countN (liftL f b) b = cn at *
    have HC2 := Lib.hid hc2
    clear hc2
    go_wp2_with fail
    refine (HC.out).mono ?_
    rintro e w10 ⟨rfl, x10⟩
    have S10 := Lib.hid (S9.out.ext x10)
    have X10 := Lib.hid (X9.out.trans x10)
    clear x10 S9 X9
    by_cases h1 : nx = 1
    · have hn1 := HC2.out h1
      subst hn1
      have hd1 : decide (1 < (nx : Int)) = false := by simp; omega
      clear h1
      go_wp2_with fail
      go_ret
      exact ⟨rfl, X10.out⟩
    · have HO := Lib.hid Fvf.out.odd
      have hd1 : decide (1 < (nx : Int)) = true := by
        have := HO.out
        rw [← HNx.out] at this
        simp
        omega
      clear h1
      have hd2 : decide ((0 : Int) ≤ cn) = true := by simpa using hc0
      have hd3 : decide (cn < (1000000007 : Int)) = true := by simpa using hc1
      go_wp2_with fail
      go_ret
      exact ⟨rfl, X10.out⟩
  · have hd : decide (7 < (nx : Int)) = true := by simp; omega
    have HC := Lib.hid (Count_val (er := 4) (n := countN (liftL f b) b) (by rw [countEr, if_pos HBL.out, if_pos (by rw [← HNx.out]; omega)]) rfl (S9.out.get 2 rfl) (S9.out.get 1 rfl))
    generalize countN (liftL f b) b = cn at *
    go_wp2_with fail
    refine (HC.out).mono ?_
    rintro e w10 ⟨rfl, x10⟩
    have S10 := Lib.hid (S9.out.ext x10)
    have X10 := Lib.hid (X9.out.trans x10)
    clear x10 S9 X9
    go_wp2_with fail
    go_ret
    exact ⟨rfl, X10.out⟩
theorem lawFound_row (u : Value) (f : List Int) (x : Value) (b : List Int) (w : World) (hu : IsI w u f) (hx : IsI w x b) :
    Calls Try.prog 8 #[u, x] w fun e w' => e = .returned (.bool true) ∧ Ext w w' := lawFound_any u f x b w hu hx
end Go.Proofs.Ytaaceadcnnfngaa
