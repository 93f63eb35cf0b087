/- RosetteGround: the law's walk. Condition: slices read as lists. -/
import Derived.Test.YtaaceadcnnfngaaRLawC
import Derived.Test.YtaaceadcnnfngaaRGal2
namespace Go.Proofs.Ytaaceadcnnfngaa
open Go.RowKit

set_option maxRecDepth 100000 in
set_option maxHeartbeats 4000000 in
theorem lawGround_any (u : Value) (f : List Int) (v : Value) (g : List Int) (x : Value) (b : List Int) (w : World) (hu : IsI w u f) (hv : IsI w v g) (hx : IsI w x b) :
    Calls Try.prog 10 #[u, v, x] w fun e w' => e = .returned (.bool true) ∧ Ext w w' := by
  have S0 := Lib.hid ((((Has.nil w).snoc hu).snoc hv).snoc hx)
  have X0 := Lib.hid (Ext.refl w)
  obtain ⟨Au, nu, cu, rfl, _⟩ := hu.open_
  clear hu
  obtain ⟨Av, nv, cv, rfl, _⟩ := hv.open_
  clear hv
  obtain ⟨Ax, nx, cx, rfl, _⟩ := hx.open_
  clear hx
  go_enter Try.func10, Try.ntmps10
  go_wp2_with fail
  refine (alive_any w).mono ?_
  rintro e w1 ⟨rfl, x1⟩
  have S1 := Lib.hid (S0.out.ext x1)
  have X1 := Lib.hid (X0.out.trans x1)
  clear x1 S0 X0
  go_wp2_with fail
  refine lay_calls (fun W => Ext w1 W ∧ W.cell? ⟨w1.heap.size, 0, none⟩ = some (.slice Au nu cu) ∧ W.cell? ⟨w1.heap.size, 1, none⟩ = some (.slice Av nv cv) ∧ W.cell? ⟨w1.heap.size, 2, none⟩ = some (.slice Ax nx cx)) ⟨by (repeat' (first | with_reducible exact Ext.refl _ | with_reducible apply Ext.alloc | with_reducible apply Ext.drew | with_reducible apply Ext.drewN | with_reducible refine Ext.setCell ?_ ?_ _ | with_reducible apply Ext.step | with_reducible assumption | with_reducible exact Nat.le_refl _ | (simp; done) | (simp; omega))), by go_cell, by go_cell, by go_cell⟩ ?_
  rintro w2 ⟨x2, h2_0, h2_1, h2_2⟩
  have S2 := Lib.hid (S1.out.ext x2)
  have X2 := Lib.hid (X1.out.trans x2)
  clear x2 S1 X1
  refine (great3_any _ _ _ _ _ f g b w2 h2_0 h2_1 h2_2 (S2.out.get 0 rfl) (S2.out.get 1 rfl) (S2.out.get 2 rfl)).mono ?_
  rintro e _ ⟨rfl, rfl⟩
  clear h2_0 h2_1 h2_2
  cases hgr : greatB3 f g b
  rotate_left
  · go_wp2_with fail
    go_ret
    exact ⟨rfl, X2.out⟩
  have hgl : f.length ≤ 120 ∧ g.length ≤ 120 ∧ b.length ≤ 120 := by simp [greatB3] at hgr; omega
  have HGL := Lib.hid hgl
  clear hgl hgr
  go_wp2_with fail
  refine (valid_any _ _ f b w2 (S2.out.get 0 rfl) (S2.out.get 2 rfl)).mono ?_
  rintro e _ ⟨rfl, rfl⟩
  cases vf : validB f b
  · go_wp2_with fail
    go_ret
    exact ⟨rfl, X2.out⟩
  have Hvf := Lib.hid vf
  clear vf
  have Fvf := Lib.hid (fine_iff.1 (of_decide_eq_true Hvf.out))
  have HB := Lib.hid (of_decide_eq_true Hvf.out)
  have HBC := Lib.hid (fine_iff.2 Fvf.out.grind)
  go_wp2_with fail
  refine (Grind_val (zs := grindL f b) HB.out rfl (S2.out.get 0 rfl) (S2.out.get 2 rfl)).mono ?_
  rintro e w3 ⟨v3, rfl, o3, x3⟩
  have S3 := Lib.hid ((S2.out.ext x3).snoc o3.isI)
  have X3 := Lib.hid (X2.out.trans x3)
  clear x3 S2 X2 o3
  go_wp2_with fail
  refine (Grind_val (zs := grindL f b) HBC.out (grind_grind Fvf.out) (S3.out.get 3 rfl) (S3.out.get 2 rfl)).mono ?_
  rintro e w4 ⟨v4, rfl, o4, x4⟩
  have S4 := Lib.hid ((S3.out.ext x4).snoc o4.isI)
  have X4 := Lib.hid (X3.out.trans x4)
  clear x4 S3 X3 o4
  go_wp2_with fail
  refine (Find_val (er := 0) (zs := findL (grindL f b) b) (by rw [findEr, if_pos HBC.out, if_pos (by rw [found_iff, grind_grind Fvf.out]; exact beq_self_eq_true _)]) rfl (S4.out.get 3 rfl) (S4.out.get 2 rfl)).mono ?_
  rintro e w5 ⟨v5, rfl, o5, x5⟩
  have S5 := Lib.hid ((S4.out.ext x5).snoc o5.isI)
  have X5 := Lib.hid (X4.out.trans x5)
  clear x5 S4 X4 o5
  cases hq : (grindL f b == f)
  · have HQ := Lib.hid hq
    clear hq
    go_wp2_with fail
    refine (Find_val (er := 6) (zs := findL f b) (by rw [findEr, if_pos HB.out, found_iff, HQ.out]; rfl) rfl (S5.out.get 0 rfl) (S5.out.get 2 rfl)).mono ?_
    rintro e w6 ⟨v6, rfl, o6, x6⟩
    have S6 := Lib.hid ((S5.out.ext x6).snoc o6.isI)
    have X6 := Lib.hid (X5.out.trans x6)
    clear x6 S5 X5 o6
    go_wp2_with fail
    refine (same_true (S6.out.get 3 rfl) (S6.out.get 4 rfl)).mono ?_
    rintro e w7 ⟨rfl, x7⟩
    have S7 := Lib.hid (S6.out.ext x7)
    have X7 := Lib.hid (X6.out.trans x7)
    clear x7 S6 X6
    have H1 := Lib.hid (belowB_of (show LeL (grindL f b) f from grind_le Fvf.out))
    go_wp2_with fail
    refine (below_any _ _ (grindL f b) f w7 (S7.out.get 3 rfl) (S7.out.get 0 rfl)).mono ?_
    rintro e w8 ⟨rfl, x8⟩
    have S8 := Lib.hid (S7.out.ext x8)
    have X8 := Lib.hid (X7.out.trans x8)
    clear x8 S7 X7
    rw [H1.out]
    go_wp2_with fail
    refine (lawSame_any _ _ (grindL f b) f w8 (S8.out.get 3 rfl) (S8.out.get 0 rfl)).mono ?_
    rintro e w9 ⟨rfl, x9⟩
    have S9 := Lib.hid (S8.out.ext x9)
    have X9 := Lib.hid (X8.out.trans x9)
    clear x9 S8 X8
    rw [HQ.out]
    go_wp2_with fail
    by_cases hg : bothE g b = 0
    · have HBG := Lib.hid hg
      have HFG := Lib.hid (fine_iff.1 hg)
      clear hg
      refine (Lift_val (zs := liftL g b) HBG.out rfl (S9.out.get 1 rfl) (S9.out.get 2 rfl)).mono ?_
      rintro e w10 ⟨v10, rfl, o10, x10⟩
      have S10 := Lib.hid ((S9.out.ext x10).snoc o10.isI)
      have X10 := Lib.hid (X9.out.trans x10)
      clear x10 S9 X9 o10
      go_wp2_with fail
      refine (below_any _ _ (liftL g b) f w10 (S10.out.get 7 rfl) (S10.out.get 0 rfl)).mono ?_
      rintro e w11 ⟨rfl, x11⟩
      have S11 := Lib.hid (S10.out.ext x11)
      have X11 := Lib.hid (X10.out.trans x11)
      clear x11 S10 X10
      cases hz : belowB (liftL g b) f
      · clear hz
        go_wp2_with fail
        go_ret
        exact ⟨rfl, X11.out⟩
      · have H2 := Lib.hid (belowB_of (below_grind Fvf.out HFG.out (belowB_iff.1 hz)))
        clear hz
        go_wp2_with fail
        refine (below_any _ _ (liftL g b) (grindL f b) w11 (S11.out.get 7 rfl) (S11.out.get 3 rfl)).mono ?_
        rintro e w12 ⟨rfl, x12⟩
        have S12 := Lib.hid (S11.out.ext x12)
        have X12 := Lib.hid (X11.out.trans x12)
        clear x12 S11 X11
        rw [H2.out]
        go_wp2_with fail
        go_ret
        exact ⟨rfl, X12.out⟩
    · have hne : (bothE g b != 0) = true := by simpa using hg
      have HL := Lib.hid (Lift_any _ _ g b w9 (S9.out.get 1 rfl) (S9.out.get 2 rfl))
      generalize bothE g b = er at *
      clear hg
      refine (HL.out).mono ?_
      rintro e w10 ⟨v10, rfl, o10, x10⟩
      have S10 := Lib.hid ((S9.out.ext x10).snoc o10.isI)
      have X10 := Lib.hid (X9.out.trans x10)
      clear x10 S9 X9 o10
      go_wp2_with fail
      go_ret
      exact ⟨rfl, X10.out⟩
  · have HQ := Lib.hid hq
    clear hq
    go_wp2_with fail
    refine (Find_val (er := 0) (zs := findL f b) (by rw [findEr, if_pos HB.out, found_iff, HQ.out]; rfl) rfl (S5.out.get 0 rfl) (S5.out.get 2 rfl)).mono ?_
    rintro e w6 ⟨v6, rfl, o6, x6⟩
    have S6 := Lib.hid ((S5.out.ext x6).snoc o6.isI)
    have X6 := Lib.hid (X5.out.trans x6)
    clear x6 S5 X5 o6
    go_wp2_with fail
    refine (same_true (S6.out.get 3 rfl) (S6.out.get 4 rfl)).mono ?_
    rintro e w7 ⟨rfl, x7⟩
    have S7 := Lib.hid (S6.out.ext x7)
    have X7 := Lib.hid (X6.out.trans x7)
    clear x7 S6 X6
    have H1 := Lib.hid (belowB_of (show LeL (grindL f b) f from grind_le Fvf.out))
    go_wp2_with fail
    refine (below_any _ _ (grindL f b) f w7 (S7.out.get 3 rfl) (S7.out.get 0 rfl)).mono ?_
    rintro e w8 ⟨rfl, x8⟩
    have S8 := Lib.hid (S7.out.ext x8)
    have X8 := Lib.hid (X7.out.trans x8)
    clear x8 S7 X7
    rw [H1.out]
    go_wp2_with fail
    refine (lawSame_any _ _ (grindL f b) f w8 (S8.out.get 3 rfl) (S8.out.get 0 rfl)).mono ?_
    rintro e w9 ⟨rfl, x9⟩
    have S9 := Lib.hid (S8.out.ext x9)
    have X9 := Lib.hid (X8.out.trans x9)
    clear x9 S8 X8
    rw [HQ.out]
    go_wp2_with fail
    by_cases hg : bothE g b = 0
    · have HBG := Lib.hid hg
      have HFG := Lib.hid (fine_iff.1 hg)
      clear hg
      refine (Lift_val (zs := liftL g b) HBG.out rfl (S9.out.get 1 rfl) (S9.out.get 2 rfl)).mono ?_
      rintro e w10 ⟨v10, rfl, o10, x10⟩
      have S10 := Lib.hid ((S9.out.ext x10).snoc o10.isI)
      have X10 := Lib.hid (X9.out.trans x10)
      clear x10 S9 X9 o10
      go_wp2_with fail
      refine (below_any _ _ (liftL g b) f w10 (S10.out.get 7 rfl) (S10.out.get 0 rfl)).mono ?_
      rintro e w11 ⟨rfl, x11⟩
      have S11 := Lib.hid (S10.out.ext x11)
      have X11 := Lib.hid (X10.out.trans x11)
      clear x11 S10 X10
      cases hz : belowB (liftL g b) f
      · clear hz
        go_wp2_with fail
        go_ret
        exact ⟨rfl, X11.out⟩
      · have H2 := Lib.hid (belowB_of (below_grind Fvf.out HFG.out (belowB_iff.1 hz)))
        clear hz
        go_wp2_with fail
        refine (below_any _ _ (liftL g b) (grindL f b) w11 (S11.out.get 7 rfl) (S11.out.get 3 rfl)).mono ?_
        rintro e w12 ⟨rfl, x12⟩
        have S12 := Lib.hid (S11.out.ext x12)
        have X12 := Lib.hid (X11.out.trans x12)
        clear x12 S11 X11
        rw [H2.out]
        go_wp2_with fail
        go_ret
        exact ⟨rfl, X12.out⟩
    · have hne : (bothE g b != 0) = true := by simpa using hg
      have HL := Lib.hid (Lift_any _ _ g b w9 (S9.out.get 1 rfl) (S9.out.get 2 rfl))
      generalize bothE g b = er at *
      clear hg
      refine (HL.out).mono ?_
      rintro e w10 ⟨v10, rfl, o10, x10⟩
      have S10 := Lib.hid ((S9.out.ext x10).snoc o10.isI)
      have X10 := Lib.hid (X9.out.trans x10)
      clear x10 S9 X9 o10
      go_wp2_with fail
      go_ret
      exact ⟨rfl, X10.out⟩
theorem lawGround_row (u : Value) (f : List Int) (v : Value) (g : List Int) (x : Value) (b : List Int) (w : World) (hu : IsI w u f) (hv : IsI w v g) (hx : IsI w x b) :
    Calls Try.prog 10 #[u, v, x] w fun e w' => e = .returned (.bool true) ∧ Ext w w' := lawGround_any u f v g x b w hu hv hx
end Go.Proofs.Ytaaceadcnnfngaa
