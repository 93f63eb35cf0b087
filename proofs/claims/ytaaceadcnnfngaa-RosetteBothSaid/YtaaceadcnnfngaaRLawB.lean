/- RosetteBoth: the law's walk. Condition: slices read as lists. -/
import Derived.Test.YtaaceadcnnfngaaRLawC
import Derived.Test.YtaaceadcnnfngaaRBoth
namespace Go.Proofs.Ytaaceadcnnfngaa
open Go.RowKit

set_option maxRecDepth 100000 in
set_option maxHeartbeats 4000000 in
theorem lawBoth_any (u : Value) (f : List Int) (x : Value) (b : List Int) (y : Value) (c : List Int) (w : World) (hu : IsI w u f) (hx : IsI w x b) (hy : IsI w y c) :
    Calls Try.prog 14 #[u, x, y] w fun e w' => e = .returned (.bool true) ∧ Ext w w' := by
  have S0 := Lib.hid ((((Has.nil w).snoc hu).snoc hx).snoc hy)
  have X0 := Lib.hid (Ext.refl w)
  obtain ⟨Au, nu, cu, rfl, _⟩ := hu.open_
  clear hu
  obtain ⟨Ax, nx, cx, rfl, _⟩ := hx.open_
  clear hx
  obtain ⟨Ay, ny, cy, rfl, _⟩ := hy.open_
  clear hy
  go_enter Try.func14, Try.ntmps14
  go_wp2_with fail
  refine (alive_any w).mono ?_
  rintro e w1 ⟨rfl, x1⟩
  have S1 := Lib.hid (S0.out.ext x1)
  have X1 := Lib.hid (X0.out.trans x1)
  clear x1 S0 X0
  go_wp2_with fail
  refine lay_calls (fun W => Ext w1 W ∧ W.cell? ⟨w1.heap.size, 0, none⟩ = some (.slice Au nu cu) ∧ W.cell? ⟨w1.heap.size, 1, none⟩ = some (.slice Ax nx cx) ∧ W.cell? ⟨w1.heap.size, 2, none⟩ = some (.slice Ay ny cy)) ⟨by (repeat' (first | with_reducible exact Ext.refl _ | with_reducible apply Ext.alloc | with_reducible apply Ext.drew | with_reducible apply Ext.drewN | with_reducible refine Ext.setCell ?_ ?_ _ | with_reducible apply Ext.step | with_reducible assumption | with_reducible exact Nat.le_refl _ | (simp; done) | (simp; omega))), by go_cell, by go_cell, by go_cell⟩ ?_
  rintro w2 ⟨x2, h2_0, h2_1, h2_2⟩
  have S2 := Lib.hid (S1.out.ext x2)
  have X2 := Lib.hid (X1.out.trans x2)
  clear x2 S1 X1
  refine (great3_any _ _ _ _ _ f b c w2 h2_0 h2_1 h2_2 (S2.out.get 0 rfl) (S2.out.get 1 rfl) (S2.out.get 2 rfl)).mono ?_
  rintro e _ ⟨rfl, rfl⟩
  clear h2_0 h2_1 h2_2
  cases hgr : greatB3 f b c
  rotate_left
  · go_wp2_with fail
    go_ret
    exact ⟨rfl, X2.out⟩
  have hgl : f.length ≤ 120 ∧ b.length ≤ 120 ∧ c.length ≤ 120 := by simp [greatB3] at hgr; omega
  have HGL := Lib.hid hgl
  clear hgl hgr
  go_wp2_with fail
  refine (valid_any _ _ f b w2 (S2.out.get 0 rfl) (S2.out.get 1 rfl)).mono ?_
  rintro e _ ⟨rfl, rfl⟩
  cases vb : validB f b
  · go_wp2_with fail
    go_ret
    exact ⟨rfl, X2.out⟩
  have Hvb := Lib.hid vb
  clear vb
  have Fvb := Lib.hid (fine_iff.1 (of_decide_eq_true Hvb.out))
  go_wp2_with fail
  refine (valid_any _ _ f c w2 (S2.out.get 0 rfl) (S2.out.get 2 rfl)).mono ?_
  rintro e _ ⟨rfl, rfl⟩
  cases vc : validB f c
  · go_wp2_with fail
    go_ret
    exact ⟨rfl, X2.out⟩
  have Hvc := Lib.hid vc
  clear vc
  have Fvc := Lib.hid (fine_iff.1 (of_decide_eq_true Hvc.out))
  have HNu := Lib.hid (show nu = f.length by have := S2.out.get 0 rfl; obtain ⟨_, _, he, _, _, _⟩ := this; cases he; rfl)
  have HNx := Lib.hid (show nx = b.length by have := S2.out.get 1 rfl; obtain ⟨_, _, he, _, _, _⟩ := this; cases he; rfl)
  have HNy := Lib.hid (show ny = c.length by have := S2.out.get 2 rfl; obtain ⟨_, _, he, _, _, _⟩ := this; cases he; rfl)
  have HRB := Lib.hid (rubber_of Fvb.out)
  have HRC := Lib.hid (rubber_of Fvc.out)
  by_cases hle : b.length + c.length ≤ 32
  rotate_left
  · have HE1 := Lib.hid (show bothEr b c = 4 by rw [bothEr, HRB.out, HRC.out, if_pos (show (true && true) = true from rfl), if_neg hle])
    have HE2 := Lib.hid (show bothEr c b = 4 by rw [bothEr, HRB.out, HRC.out, if_pos (show (true && true) = true from rfl), if_neg (by omega)])
    have HL1 := Lib.hid (show bothR b c = [] by rw [bothR, HE1.out]; rfl)
    have HL2 := Lib.hid (show bothR c b = [] by rw [bothR, HE2.out]; rfl)
    clear hle
    go_wp2_with fail
    have HA := Lib.hid (Both_any _ _ b c w2 (S2.out.get 1 rfl) (S2.out.get 2 rfl))
    rw [HL1.out, HE1.out] at HA
    refine (HA.out).mono ?_
    rintro e w3 ⟨v3, rfl, o3, x3⟩
    have S3 := Lib.hid ((S2.out.ext x3).snoc o3.isI)
    have X3 := Lib.hid (X2.out.trans x3)
    clear x3 S2 X2 o3
    clear HA
    go_wp2_with fail
    have HA := Lib.hid (Both_any _ _ c b w3 (S3.out.get 2 rfl) (S3.out.get 1 rfl))
    rw [HL2.out, HE2.out] at HA
    refine (HA.out).mono ?_
    rintro e w4 ⟨v4, rfl, o4, x4⟩
    have S4 := Lib.hid ((S3.out.ext x4).snoc o4.isI)
    have X4 := Lib.hid (X3.out.trans x4)
    clear x4 S3 X3 o4
    clear HA
    go_wp2_with fail
    refine (same_true (S4.out.get 3 rfl) (S4.out.get 4 rfl)).mono ?_
    rintro e w5 ⟨rfl, x5⟩
    have S5 := Lib.hid (S4.out.ext x5)
    have X5 := Lib.hid (X4.out.trans x5)
    clear x5 S4 X4
    go_wp2_with fail
    go_ret
    exact ⟨rfl, X5.out⟩
  have HE1 := Lib.hid (show bothEr b c = 0 by rw [bothEr, HRB.out, HRC.out, if_pos (show (true && true) = true from rfl), if_pos hle])
  have HE2 := Lib.hid (show bothEr c b = 0 by rw [bothEr, HRB.out, HRC.out, if_pos (show (true && true) = true from rfl), if_pos (by omega)])
  have HL1 := Lib.hid (show bothR b c = bothL b c by rw [bothR, HE1.out]; rfl)
  have HL2 := Lib.hid (show bothR c b = bothL b c by rw [bothR, HE2.out, both_comm b c]; rfl)
  have HLE := Lib.hid hle
  clear hle
  go_wp2_with fail
  have HA := Lib.hid (Both_any _ _ b c w2 (S2.out.get 1 rfl) (S2.out.get 2 rfl))
  rw [HL1.out, HE1.out] at HA
  refine (HA.out).mono ?_
  rintro e w3 ⟨v3, rfl, o3, x3⟩
  have S3 := Lib.hid ((S2.out.ext x3).snoc o3.isI)
  have X3 := Lib.hid (X2.out.trans x3)
  clear x3 S2 X2 o3
  clear HA
  obtain ⟨Ad, nd, cd, hvd, _, hrd, hnd⟩ := (S3.out.get 3 rfl).open_
  subst hvd
  have HND := Lib.hid hrd.len
  clear hrd
  go_wp2_with fail
  have HA := Lib.hid (Both_any _ _ c b w3 (S3.out.get 2 rfl) (S3.out.get 1 rfl))
  rw [HL2.out, HE2.out] at HA
  refine (HA.out).mono ?_
  rintro e w4 ⟨v4, rfl, o4, x4⟩
  have S4 := Lib.hid ((S3.out.ext x4).snoc o4.isI)
  have X4 := Lib.hid (X3.out.trans x4)
  clear x4 S3 X3 o4
  clear HA
  go_wp2_with fail
  refine (same_true (S4.out.get 3 rfl) (S4.out.get 4 rfl)).mono ?_
  rintro e w5 ⟨rfl, x5⟩
  have S5 := Lib.hid (S4.out.ext x5)
  have X5 := Lib.hid (X4.out.trans x5)
  clear x5 S4 X4
  by_cases hfit : nd ≤ nu
  rotate_left
  · have hdf : decide ((nu : Int) < (nd : Int)) = true := by simp; omega
    go_wp2_with fail
    go_ret
    exact ⟨rfl, X5.out⟩
  have hdf : decide ((nu : Int) < (nd : Int)) = false := by simp; omega
  have HFD := Lib.hid (Fvb.out.both Fvc.out HLE.out (by rw [HND.out, ← HNu.out]; exact hfit))
  have HFM := Lib.hid (Fvb.out.mixL Fvc.out)
  have HFN := Lib.hid (Fvb.out.mixU Fvc.out)
  go_wp2_with fail
  refine (Lift_val (zs := liftL f b) (of_decide_eq_true Hvb.out) rfl (S5.out.get 0 rfl) (S5.out.get 1 rfl)).mono ?_
  rintro e w6 ⟨v6, rfl, o6, x6⟩
  have S6 := Lib.hid ((S5.out.ext x6).snoc o6.isI)
  have X6 := Lib.hid (X5.out.trans x6)
  clear x6 S5 X5 o6
  go_wp2_with fail
  refine (Lift_val (zs := liftL (liftL f b) c) (fine_iff.2 HFM.out) rfl (S6.out.get 5 rfl) (S6.out.get 2 rfl)).mono ?_
  rintro e w7 ⟨v7, rfl, o7, x7⟩
  have S7 := Lib.hid ((S6.out.ext x7).snoc o7.isI)
  have X7 := Lib.hid (X6.out.trans x7)
  clear x7 S6 X6 o7
  go_wp2_with fail
  refine (Lift_val (zs := liftL (liftL f b) c) (fine_iff.2 HFD.out) (lift_both Fvb.out Fvc.out HFD.out).symm (S7.out.get 0 rfl) (S7.out.get 3 rfl)).mono ?_
  rintro e w8 ⟨v8, rfl, o8, x8⟩
  have S8 := Lib.hid ((S7.out.ext x8).snoc o8.isI)
  have X8 := Lib.hid (X7.out.trans x8)
  clear x8 S7 X7 o8
  go_wp2_with fail
  refine (Under_val (zs := underL f b) (of_decide_eq_true Hvb.out) rfl (S8.out.get 0 rfl) (S8.out.get 1 rfl)).mono ?_
  rintro e w9 ⟨v9, rfl, o9, x9⟩
  have S9 := Lib.hid ((S8.out.ext x9).snoc o9.isI)
  have X9 := Lib.hid (X8.out.trans x9)
  clear x9 S8 X8 o9
  go_wp2_with fail
  refine (Under_val (zs := underL (underL f b) c) (fine_iff.2 HFN.out) rfl (S9.out.get 8 rfl) (S9.out.get 2 rfl)).mono ?_
  rintro e w10 ⟨v10, rfl, o10, x10⟩
  have S10 := Lib.hid ((S9.out.ext x10).snoc o10.isI)
  have X10 := Lib.hid (X9.out.trans x10)
  clear x10 S9 X9 o10
  go_wp2_with fail
  refine (Under_val (zs := underL (underL f b) c) (fine_iff.2 HFD.out) (under_both Fvb.out Fvc.out HFD.out).symm (S10.out.get 0 rfl) (S10.out.get 3 rfl)).mono ?_
  rintro e w11 ⟨v11, rfl, o11, x11⟩
  have S11 := Lib.hid ((S10.out.ext x11).snoc o11.isI)
  have X11 := Lib.hid (X10.out.trans x11)
  clear x11 S10 X10 o11
  go_wp2_with fail
  refine (same_true (S11.out.get 6 rfl) (S11.out.get 7 rfl)).mono ?_
  rintro e w12 ⟨rfl, x12⟩
  have S12 := Lib.hid (S11.out.ext x12)
  have X12 := Lib.hid (X11.out.trans x12)
  clear x12 S11 X11
  go_wp2_with fail
  refine (same_true (S12.out.get 9 rfl) (S12.out.get 10 rfl)).mono ?_
  rintro e w13 ⟨rfl, x13⟩
  have S13 := Lib.hid (S12.out.ext x13)
  have X13 := Lib.hid (X12.out.trans x13)
  clear x13 S12 X12
  go_wp2_with fail
  go_ret
  exact ⟨rfl, X13.out⟩
theorem lawBoth_row (u : Value) (f : List Int) (x : Value) (b : List Int) (y : Value) (c : List Int) (w : World) (hu : IsI w u f) (hx : IsI w x b) (hy : IsI w y c) :
    Calls Try.prog 14 #[u, x, y] w fun e w' => e = .returned (.bool true) ∧ Ext w w' := lawBoth_any u f x b y c w hu hx hy
end Go.Proofs.Ytaaceadcnnfngaa
