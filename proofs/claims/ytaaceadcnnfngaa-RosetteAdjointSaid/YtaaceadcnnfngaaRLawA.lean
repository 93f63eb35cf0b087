/- RosetteAdjoint: the law's walk. Condition: slices read as lists. -/
import Derived.Test.YtaaceadcnnfngaaRLawC
namespace Go.Proofs.Ytaaceadcnnfngaa
open Go.RowKit

set_option maxRecDepth 100000 in
set_option maxHeartbeats 4000000 in
theorem lawAdjoint_any (u : Value) (f : List Int) (v : Value) (h : List Int) (x : Value) (b : List Int) (w : World) (hu : IsI w u f) (hv : IsI w v h) (hx : IsI w x b) :
    Calls Try.prog 6 #[u, v, x] w fun e w' => e = .returned (.bool true) ∧ Ext w w' := by
  have S0 := Lib.hid ((((Has.nil w).snoc hu).snoc hv).snoc hx)
  have X0 := Lib.hid (Ext.refl w)
  obtain ⟨Au, nu, cu, rfl, _⟩ := hu.open_
  clear hu
  obtain ⟨Av, nv, cv, rfl, _⟩ := hv.open_
  clear hv
  obtain ⟨Ax, nx, cx, rfl, _⟩ := hx.open_
  clear hx
  go_enter Try.func6, Try.ntmps6
  go_wp2_with fail
  refine (alive_any w).mono ?_
  rintro e w1 ⟨rfl, x1⟩
  have S1 := Lib.hid (S0.out.ext x1)
  have X1 := Lib.hid (X0.out.trans x1)
  clear x1 S0 X0
  go_wp2_with fail
  refine lay_calls (fun W => Ext w1 W ∧ W.cell? ⟨w1.heap.size, 0, none⟩ = some (.slice Au nu cu) ∧ W.cell? ⟨w1.heap.size, 1, none⟩ = some (.slice Av nv cv) ∧ W.cell? ⟨w1.heap.size, 2, none⟩ = some (.slice Ax nx cx)) ⟨by (repeat' (first | with_reducible exact Ext.refl _ | with_reducible apply Ext.alloc | with_reducible apply Ext.drew | with_reducible apply Ext.drewN | with_reducible refine Ext.setCell ?_ ?_ _ | with_reducible apply Ext.step | with_reducible assumption | with_reducible exact Nat.le_refl _ | (simp; done) | (simp; omega))), by go_cell, by go_cell, by go_cell⟩ ?_
  rintro w2 ⟨x2, h2_0, h2_1, h2_2⟩
  have S2 := Lib.hid (S1.out.ext x2)
  have X2 := Lib.hid (X1.out.trans x2)
  clear x2 S1 X1
  refine (great3_any _ _ _ _ _ f h b w2 h2_0 h2_1 h2_2 (S2.out.get 0 rfl) (S2.out.get 1 rfl) (S2.out.get 2 rfl)).mono ?_
  rintro e _ ⟨rfl, rfl⟩
  clear h2_0 h2_1 h2_2
  cases hgr : greatB3 f h b
  rotate_left
  · go_wp2_with fail
    go_ret
    exact ⟨rfl, X2.out⟩
  have hgl : f.length ≤ 120 ∧ h.length ≤ 120 ∧ b.length ≤ 120 := by simp [greatB3] at hgr; omega
  have HGL := Lib.hid hgl
  clear hgl hgr
  go_wp2_with fail
  refine (valid_any _ _ f b w2 (S2.out.get 0 rfl) (S2.out.get 2 rfl)).mono ?_
  rintro e _ ⟨rfl, rfl⟩
  cases vf : validB f b
  · go_wp2_with fail
    go_ret
    exact ⟨rfl, X2.out⟩
  have Hvf := Lib.hid vf
  clear vf
  have Fvf := Lib.hid (fine_iff.1 (of_decide_eq_true Hvf.out))
  go_wp2_with fail
  refine (valid_any _ _ h b w2 (S2.out.get 1 rfl) (S2.out.get 2 rfl)).mono ?_
  rintro e _ ⟨rfl, rfl⟩
  cases vh : validB h b
  · go_wp2_with fail
    go_ret
    exact ⟨rfl, X2.out⟩
  have Hvh := Lib.hid vh
  clear vh
  have Fvh := Lib.hid (fine_iff.1 (of_decide_eq_true Hvh.out))
  have hnu : nu = f.length := by have := S2.out.get 0 rfl; obtain ⟨_, _, he, _, _, _⟩ := this; cases he; rfl
  have hnv : nv = h.length := by have := S2.out.get 1 rfl; obtain ⟨_, _, he, _, _, _⟩ := this; cases he; rfl
  have HNU := Lib.hid hnu
  have HNV := Lib.hid hnv
  clear hnu hnv
  by_cases hl : nu = nv
  rotate_left
  · have hd : ((nu : Int) != (nv : Int)) = true := by simp; omega
    go_wp2_with fail
    go_ret
    exact ⟨rfl, X2.out⟩
  have HL := Lib.hid (show f.length = h.length by rw [← HNU.out, ← HNV.out, hl])
  subst hl
  go_wp2_with fail
  refine (Lift_val (zs := liftL f b) (of_decide_eq_true Hvf.out) rfl (S2.out.get 0 rfl) (S2.out.get 2 rfl)).mono ?_
  rintro e w3 ⟨v3, rfl, o3, x3⟩
  have S3 := Lib.hid ((S2.out.ext x3).snoc o3.isI)
  have X3 := Lib.hid (X2.out.trans x3)
  clear x3 S2 X2 o3
  go_wp2_with fail
  refine (Under_val (zs := underL h b) (of_decide_eq_true Hvh.out) rfl (S3.out.get 1 rfl) (S3.out.get 2 rfl)).mono ?_
  rintro e w4 ⟨v4, rfl, o4, x4⟩
  have S4 := Lib.hid ((S3.out.ext x4).snoc o4.isI)
  have X4 := Lib.hid (X3.out.trans x4)
  clear x4 S3 X3 o4
  go_wp2_with fail
  refine (below_any _ _ (liftL f b) h w4 (S4.out.get 3 rfl) (S4.out.get 1 rfl)).mono ?_
  rintro e w5 ⟨rfl, x5⟩
  have S5 := Lib.hid (S4.out.ext x5)
  have X5 := Lib.hid (X4.out.trans x5)
  clear x5 S4 X4
  go_wp2_with fail
  refine (below_any _ _ f (underL h b) w5 (S5.out.get 0 rfl) (S5.out.get 4 rfl)).mono ?_
  rintro e w6 ⟨rfl, x6⟩
  have S6 := Lib.hid (S5.out.ext x6)
  have X6 := Lib.hid (X5.out.trans x6)
  clear x6 S5 X5
  have HA := Lib.hid (show belowB (liftL f b) h = belowB f (underL h b) by
    rw [Bool.eq_iff_iff, belowB_iff, belowB_iff]
    exact adjoint Fvf.out.b1 Fvf.out.n1 HL.out)
  rw [HA.out]
  have H1 := Lib.hid (belowB_of (le_lift Fvf.out))
  have H2 := Lib.hid (belowB_of (under_le Fvh.out))
  go_wp2_with fail
  refine (below_any _ _ f (liftL f b) w6 (S6.out.get 0 rfl) (S6.out.get 3 rfl)).mono ?_
  rintro e w7 ⟨rfl, x7⟩
  have S7 := Lib.hid (S6.out.ext x7)
  have X7 := Lib.hid (X6.out.trans x7)
  clear x7 S6 X6
  rw [H1.out]
  go_wp2_with fail
  refine (below_any _ _ (underL h b) h w7 (S7.out.get 4 rfl) (S7.out.get 1 rfl)).mono ?_
  rintro e w8 ⟨rfl, x8⟩
  have S8 := Lib.hid (S7.out.ext x8)
  have X8 := Lib.hid (X7.out.trans x8)
  clear x8 S7 X7
  rw [H2.out]
  go_wp2_with fail
  refine (check_good (fine_check Fvf.out.lift) w8 (S8.out.get 3 rfl)).mono ?_
  rintro e _ ⟨rfl, rfl⟩
  go_wp2_with fail
  refine (check_good (fine_check Fvh.out.under) w8 (S8.out.get 4 rfl)).mono ?_
  rintro e _ ⟨rfl, rfl⟩
  go_wp2_with fail
  go_ret
  exact ⟨rfl, X8.out⟩
theorem lawAdjoint_row (u : Value) (f : List Int) (v : Value) (h : List Int) (x : Value) (b : List Int) (w : World) (hu : IsI w u f) (hv : IsI w v h) (hx : IsI w x b) :
    Calls Try.prog 6 #[u, v, x] w fun e w' => e = .returned (.bool true) ∧ Ext w w' := lawAdjoint_any u f v h x b w hu hv hx
end Go.Proofs.Ytaaceadcnnfngaa
