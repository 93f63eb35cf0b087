/- RosetteAround: the law's walk. Condition: slices read as lists. -/
import Derived.Test.YtaaceadcnnfngaaRLawC
import Derived.Test.YtaaceadcnnfngaaRTurnF
import Derived.Test.YtaaceadcnnfngaaRAro
namespace Go.Proofs.Ytaaceadcnnfngaa
open Go.RowKit

theorem turn_int (v : Value) (zs : List Int) (k : Int) (w : World) (hv : IsI w v zs) (h0 : 0 ≤ k) (hk : k ≤ zs.length) (hz1 : 1 ≤ zs.length) (hz : zs.length ≤ 1000) :
    Calls Try.prog 50 #[v, .int .i64 k] w (RetO w (mvL zs k)) := by
  obtain ⟨m, rfl⟩ := Int.eq_ofNat_of_zero_le h0
  exact turn_any v zs m w hv (by omega) hz1 hz

theorem turn_eq (v : Value) (zs : List Int) {k' k : Int} (e : k' = k) (w : World) (hv : IsI w v zs) (h0 : 0 ≤ k) (hk : k ≤ zs.length) (hz1 : 1 ≤ zs.length) (hz : zs.length ≤ 1000) :
    Calls Try.prog 50 #[v, .int .i64 k'] w (RetO w (mvL zs k)) := by
  subst e
  exact turn_int v zs _ w hv h0 hk hz1 hz

set_option maxRecDepth 100000 in
set_option maxHeartbeats 8000000 in
theorem lawAround_any (u : Value) (f : List Int) (x : Value) (b : List Int) (s : Int) (w : World) (hu : IsI w u f) (hx : IsI w x b) :
    Calls Try.prog 12 #[u, x, .int .i64 s] w fun e w' => e = .returned (.bool true) ∧ Ext w w' := by
  have S0 := Lib.hid (((Has.nil w).snoc hu).snoc hx)
  have X0 := Lib.hid (Ext.refl w)
  obtain ⟨Au, nu, cu, rfl, _⟩ := hu.open_
  clear hu
  obtain ⟨Ax, nx, cx, rfl, _⟩ := hx.open_
  clear hx
  go_enter Try.func12, Try.ntmps12
  go_wp2_with fail
  refine (alive_any w).mono ?_
  rintro e w1 ⟨rfl, x1⟩
  have S1 := Lib.hid (S0.out.ext x1)
  have X1 := Lib.hid (X0.out.trans x1)
  clear x1 S0 X0
  go_wp2_with fail
  refine lay_calls (fun W => Ext w1 W ∧ W.cell? ⟨w1.heap.size, 0, none⟩ = some (.slice Au nu cu) ∧ W.cell? ⟨w1.heap.size, 1, none⟩ = some (.slice Ax nx cx)) ⟨by (repeat' (first | with_reducible exact Ext.refl _ | with_reducible apply Ext.alloc | with_reducible apply Ext.drew | with_reducible apply Ext.drewN | with_reducible refine Ext.setCell ?_ ?_ _ | with_reducible apply Ext.step | with_reducible assumption | with_reducible exact Nat.le_refl _ | (simp; done) | (simp; omega))), by go_cell, by go_cell⟩ ?_
  rintro w2 ⟨x2, h2_0, h2_1⟩
  have S2 := Lib.hid (S1.out.ext x2)
  have X2 := Lib.hid (X1.out.trans x2)
  clear x2 S1 X1
  refine (great2_any _ _ _ _ f b w2 h2_0 h2_1 (S2.out.get 0 rfl) (S2.out.get 1 rfl)).mono ?_
  rintro e _ ⟨rfl, rfl⟩
  clear h2_0 h2_1
  cases hgr : greatB f b
  rotate_left
  · go_wp2_with fail
    go_ret
    exact ⟨rfl, X2.out⟩
  have hgl : f.length ≤ 120 ∧ b.length ≤ 120 := by simp [greatB] at hgr; omega
  have HGL := Lib.hid hgl
  clear hgl hgr
  go_wp2_with fail
  refine (valid_any _ _ f b w2 (S2.out.get 0 rfl) (S2.out.get 1 rfl)).mono ?_
  rintro e _ ⟨rfl, rfl⟩
  cases vf : validB f b
  · go_wp2_with fail
    go_ret
    exact ⟨rfl, X2.out⟩
  have Hvf := Lib.hid vf
  clear vf
  have Fvf := Lib.hid (fine_iff.1 (of_decide_eq_true Hvf.out))
  have HNu := Lib.hid (show nu = f.length by have := S2.out.get 0 rfl; obtain ⟨_, _, he, _, _, _⟩ := this; cases he; rfl)
  have HNx := Lib.hid (show nx = b.length by have := S2.out.get 1 rfl; obtain ⟨_, _, he, _, _, _⟩ := this; cases he; rfl)
  have HB := Lib.hid (of_decide_eq_true Hvf.out)
  have HCK := Lib.hid (fine_check Fvf.out)
  have HCE := Lib.hid (show checkE f = 0 by rw [checkE, HCK.out]; rfl)
  have f1 := Fvf.out.lo
  have f2 := Fvf.out.hi
  rw [← HNu.out] at f1 f2
  have HLF := Lib.hid (And.intro Fvf.out.n1 Fvf.out.hi)
  have HLB := Lib.hid (show b.length ≤ 1000 by have := Fvf.out.le31; omega)
  have hn0 : ¬ (nu : Int) = 0 := by omega
  have e0 := Int.emod_nonneg s (show (nu : Int) ≠ 0 by omega)
  have e1 := Int.emod_lt_of_pos s (show (0 : Int) < nu by omega)
  obtain ⟨q1, q2, q3, q4⟩ := emod_of_tmod (x := s) (n := (nu : Int)) (by omega)
  have HR2 : s.tmod nu % (nu : Int) = s % (nu : Int) := by
    rcases Int.lt_or_le (s.tmod nu) 0 with h | h
    · rw [q4 h, ← Int.add_emod_right, Int.emod_eq_of_lt (by omega) (by omega)]
    · rw [q3 h, Int.emod_eq_of_lt (by omega) (by omega)]
  have HTD0 : mvL f s = mvL f (s % (nu : Int)) := by rw [HNu.out, mvL_emod]
  obtain ⟨a, ha⟩ : ∃ a, s % (nu : Int) = a := ⟨_, rfl⟩
  rw [ha] at HR2 e0 e1 HTD0
  have HTD := Lib.hid (show turnedL f s = mvL f a by rw [turnedL, HCK.out, if_pos rfl, HTD0])
  have HMI := Lib.hid (show mirroredL f = imgL f by rw [mirroredL, HCK.out]; rfl)
  have HQ := Lib.hid HR2
  have HFT := Lib.hid (Fvf.out.turn a)
  have HFI := Lib.hid Fvf.out.img
  have HE := Lib.hid (And.intro e0 e1)
  clear q3 q4 ha HR2 HTD0
  go_wp2_with fail
  have HA := Lib.hid (Turned_any _ f s w2 (S2.out.get 0 rfl))
  rw [HTD.out, HCE.out] at HA
  refine (HA.out).mono ?_
  rintro e w3 ⟨v3, rfl, o3, x3⟩
  have S3 := Lib.hid ((S2.out.ext x3).snoc o3.isI)
  have X3 := Lib.hid (X2.out.trans x3)
  clear x3 S2 X2 o3 HA
  go_wp2_with fail
  have HA := Lib.hid (Mirrored_any _ f w3 (S3.out.get 0 rfl))
  rw [HMI.out, HCE.out] at HA
  refine (HA.out).mono ?_
  rintro e w4 ⟨v4, rfl, o4, x4⟩
  have S4 := Lib.hid ((S3.out.ext x4).snoc o4.isI)
  have X4 := Lib.hid (X3.out.trans x4)
  clear x4 S3 X3 o4 HA
  go_wp2_with fail
  refine (turn_eq _ f HQ.out w4 (S4.out.get 0 rfl) HE.out.1 (by rw [← HNu.out]; omega) HLF.out.1 (by have := HLF.out.2; omega)).mono ?_
  rintro e w5 ⟨v5, rfl, o5, x5⟩
  have S5 := Lib.hid ((S4.out.ext x5).snoc o5.isI)
  have X5 := Lib.hid (X4.out.trans x5)
  clear x5 S4 X4 o5
  go_wp2_with fail
  refine (same_true (S5.out.get 2 rfl) (S5.out.get 4 rfl)).mono ?_
  rintro e w6 ⟨rfl, x6⟩
  have S6 := Lib.hid (S5.out.ext x6)
  have X6 := Lib.hid (X5.out.trans x6)
  clear x6 S5 X5
  go_wp2_with fail
  refine (turn_int _ f ((nu : Int) - 1) w6 (S6.out.get 0 rfl) (by omega) (by rw [← HNu.out]; omega) HLF.out.1 (by have := HLF.out.2; omega)).mono ?_
  rintro e w7 ⟨v7, rfl, o7, x7⟩
  have S7 := Lib.hid ((S6.out.ext x7).snoc o7.isI)
  have X7 := Lib.hid (X6.out.trans x7)
  clear x7 S6 X6 o7
  go_wp2_with fail
  have HA := Lib.hid (reversed_any _ _ w7 (S7.out.get 5 rfl) (by rw [mvL_len]; have := HLF.out.2; omega))
  rw [HNu.out, rev_turn] at HA
  refine HA.out.mono ?_
  rintro e w8 ⟨v8, rfl, o8, x8⟩
  have S8 := Lib.hid ((S7.out.ext x8).snoc o8.isI)
  have X8 := Lib.hid (X7.out.trans x8)
  clear x8 S7 X7 o8 HA
  go_wp2_with fail
  refine (same_true (S8.out.get 3 rfl) (S8.out.get 6 rfl)).mono ?_
  rintro e w9 ⟨rfl, x9⟩
  have S9 := Lib.hid (S8.out.ext x9)
  have X9 := Lib.hid (X8.out.trans x9)
  clear x9 S8 X8
  go_wp2_with fail
  refine lay_wp (fun W => Ext w9 W ∧ W.cell? ⟨w9.heap.size, 0, none⟩ = some (.func (.func 19) #[] #[]) ∧ W.cell? ⟨w9.heap.size, 1, none⟩ = some (.func (.func 21) #[] #[]) ∧ W.cell? ⟨w9.heap.size, 2, none⟩ = some (.func (.func 23) #[] #[]) ∧ W.cell? ⟨w9.heap.size, 3, none⟩ = some (.func (.func 25) #[] #[])) ⟨by (repeat' (first | with_reducible exact Ext.refl _ | with_reducible apply Ext.alloc | with_reducible apply Ext.drew | with_reducible apply Ext.drewN | with_reducible refine Ext.setCell ?_ ?_ _ | with_reducible apply Ext.step | with_reducible assumption | with_reducible exact Nat.le_refl _ | (simp; done) | (simp; omega))), by go_cell, by go_cell, by go_cell, by go_cell⟩ ?_
  rintro w10 ⟨x10, h0, h1, h2, h3⟩
  have S10 := Lib.hid (S9.out.ext x10)
  have X10 := Lib.hid (X9.out.trans x10)
  clear x10 S9 X9
  go_loopw [86, 14, 15, 16, 17, 18, 19, 20] (fun i _ _ _ _ _ _ _ wr => ∃ k : Nat, k ≤ 4 ∧ i = .int .i64 k ∧ Ext w10 wr) (fun i _ _ _ _ _ _ _ _ => 4 - (intOf i).toNat)
  case atStart => exact ⟨0, by omega, rfl, Ext.refl _⟩
  case round =>
    obtain ⟨k, hk, rfl, hxk⟩ := hrel
    have S11 := Lib.hid (S10.out.ext hxk)
    have X11 := Lib.hid hxk
    have c0 := hxk.cell_some h0
    have c1 := hxk.cell_some h1
    have c2 := hxk.cell_some h2
    have c3 := hxk.cell_some h3
    generalize wr = w11 at *
    clear hxk
    by_cases hlt : k < 4
    · rcases (by omega : k = 0 ∨ k = 1 ∨ k = 2 ∨ k = 3) with rfl | rfl | rfl | rfl
      · have HTL := Lib.hid (show (liftL f b).length = f.length from liftL_len f b)
        have HT1 := Lib.hid (show liftL (mvL f a) b = mvL (liftL f b) a from lift_turn f b Fvf.out.b1 a)
        have HT2 := Lib.hid (show liftL (imgL f) b.reverse = imgL (liftL f b) from lift_img f b Fvf.out.odd)
        generalize hz : liftL f b = zz at *
        have HZZ := Lib.hid hz
        clear hz
        have HZ1 := Lib.hid (And.intro (show 1 ≤ zz.length by rw [HTL.out]; exact HLF.out.1) (show zz.length ≤ 1000 by rw [HTL.out]; have := HLF.out.2; omega))
        go_wp2_with fail
        refine (Lift_val (zs := zz) HB.out HZZ.out (S11.out.get 0 rfl) (S11.out.get 1 rfl)).mono ?_
        rintro e w12 ⟨v12, rfl, o12, x12⟩
        have S12 := Lib.hid ((S11.out.ext x12).snoc o12.isI)
        have X12 := Lib.hid (X11.out.trans x12)
        clear x12 S11 X11 o12
        go_wp2_with fail
        refine (Lift_val (zs := mvL zz a) (fine_iff.2 HFT.out) HT1.out (S12.out.get 2 rfl) (S12.out.get 1 rfl)).mono ?_
        rintro e w13 ⟨v13, rfl, o13, x13⟩
        have S13 := Lib.hid ((S12.out.ext x13).snoc o13.isI)
        have X13 := Lib.hid (X12.out.trans x13)
        clear x13 S12 X12 o13
        go_wp2_with fail
        refine (reversed_any _ b w13 (S13.out.get 1 rfl) HLB.out).mono ?_
        rintro e w14 ⟨v14, rfl, o14, x14⟩
        have S14 := Lib.hid ((S13.out.ext x14).snoc o14.isI)
        have X14 := Lib.hid (X13.out.trans x14)
        clear x14 S13 X13 o14
        go_wp2_with fail
        refine (Lift_val (zs := imgL zz) (fine_iff.2 HFI.out) HT2.out (S14.out.get 3 rfl) (S14.out.get 9 rfl)).mono ?_
        rintro e w15 ⟨v15, rfl, o15, x15⟩
        have S15 := Lib.hid ((S14.out.ext x15).snoc o15.isI)
        have X15 := Lib.hid (X14.out.trans x15)
        clear x15 S14 X14 o15
        go_wp2_with fail
        refine (turn_eq _ zz HQ.out w15 (S15.out.get 7 rfl) HE.out.1 (by rw [HTL.out, ← HNu.out]; omega) HZ1.out.1 HZ1.out.2).mono ?_
        rintro e w16 ⟨v16, rfl, o16, x16⟩
        have S16 := Lib.hid ((S15.out.ext x16).snoc o16.isI)
        have X16 := Lib.hid (X15.out.trans x16)
        clear x16 S15 X15 o16
        go_wp2_with fail
        refine (same_true (S16.out.get 8 rfl) (S16.out.get 11 rfl)).mono ?_
        rintro e w17 ⟨rfl, x17⟩
        have S17 := Lib.hid (S16.out.ext x17)
        have X17 := Lib.hid (X16.out.trans x17)
        clear x17 S16 X16
        go_wp2_with fail
        refine (turn_int _ zz ((nu : Int) - 1) w17 (S17.out.get 7 rfl) (by omega) (by rw [HTL.out, ← HNu.out]; omega) HZ1.out.1 HZ1.out.2).mono ?_
        rintro e w18 ⟨v18, rfl, o18, x18⟩
        have S18 := Lib.hid ((S17.out.ext x18).snoc o18.isI)
        have X18 := Lib.hid (X17.out.trans x18)
        clear x18 S17 X17 o18
        go_wp2_with fail
        have HA := Lib.hid (reversed_any _ _ w18 (S18.out.get 12 rfl) (by rw [mvL_len]; exact HZ1.out.2))
        rw [HNu.out, ← HTL.out, rev_turn] at HA
        refine (HA.out).mono ?_
        rintro e w19 ⟨v19, rfl, o19, x19⟩
        have S19 := Lib.hid ((S18.out.ext x19).snoc o19.isI)
        have X19 := Lib.hid (X18.out.trans x19)
        clear x19 S18 X18 o19
        go_wp2_with fail
        clear HA
        refine (same_true (S19.out.get 10 rfl) (S19.out.get 13 rfl)).mono ?_
        rintro e w20 ⟨rfl, x20⟩
        have S20 := Lib.hid (S19.out.ext x20)
        have X20 := Lib.hid (X19.out.trans x20)
        clear x20 S19 X19
        go_wp2_with fail
        go_roundw
        case rel => exact ⟨1, by omega, by go_num, X20.out⟩
        case measure => simp [intOf]
      · have HTL := Lib.hid (show (underL f b).length = f.length from underL_len f b)
        have HT1 := Lib.hid (show underL (mvL f a) b = mvL (underL f b) a from under_turn f b Fvf.out.b1 a)
        have HT2 := Lib.hid (show underL (imgL f) b.reverse = imgL (underL f b) from under_img f b Fvf.out.odd)
        generalize hz : underL f b = zz at *
        have HZZ := Lib.hid hz
        clear hz
        have HZ1 := Lib.hid (And.intro (show 1 ≤ zz.length by rw [HTL.out]; exact HLF.out.1) (show zz.length ≤ 1000 by rw [HTL.out]; have := HLF.out.2; omega))
        go_wp2_with fail
        refine (Under_val (zs := zz) HB.out HZZ.out (S11.out.get 0 rfl) (S11.out.get 1 rfl)).mono ?_
        rintro e w12 ⟨v12, rfl, o12, x12⟩
        have S12 := Lib.hid ((S11.out.ext x12).snoc o12.isI)
        have X12 := Lib.hid (X11.out.trans x12)
        clear x12 S11 X11 o12
        go_wp2_with fail
        refine (Under_val (zs := mvL zz a) (fine_iff.2 HFT.out) HT1.out (S12.out.get 2 rfl) (S12.out.get 1 rfl)).mono ?_
        rintro e w13 ⟨v13, rfl, o13, x13⟩
        have S13 := Lib.hid ((S12.out.ext x13).snoc o13.isI)
        have X13 := Lib.hid (X12.out.trans x13)
        clear x13 S12 X12 o13
        go_wp2_with fail
        refine (reversed_any _ b w13 (S13.out.get 1 rfl) HLB.out).mono ?_
        rintro e w14 ⟨v14, rfl, o14, x14⟩
        have S14 := Lib.hid ((S13.out.ext x14).snoc o14.isI)
        have X14 := Lib.hid (X13.out.trans x14)
        clear x14 S13 X13 o14
        go_wp2_with fail
        refine (Under_val (zs := imgL zz) (fine_iff.2 HFI.out) HT2.out (S14.out.get 3 rfl) (S14.out.get 9 rfl)).mono ?_
        rintro e w15 ⟨v15, rfl, o15, x15⟩
        have S15 := Lib.hid ((S14.out.ext x15).snoc o15.isI)
        have X15 := Lib.hid (X14.out.trans x15)
        clear x15 S14 X14 o15
        go_wp2_with fail
        refine (turn_eq _ zz HQ.out w15 (S15.out.get 7 rfl) HE.out.1 (by rw [HTL.out, ← HNu.out]; omega) HZ1.out.1 HZ1.out.2).mono ?_
        rintro e w16 ⟨v16, rfl, o16, x16⟩
        have S16 := Lib.hid ((S15.out.ext x16).snoc o16.isI)
        have X16 := Lib.hid (X15.out.trans x16)
        clear x16 S15 X15 o16
        go_wp2_with fail
        refine (same_true (S16.out.get 8 rfl) (S16.out.get 11 rfl)).mono ?_
        rintro e w17 ⟨rfl, x17⟩
        have S17 := Lib.hid (S16.out.ext x17)
        have X17 := Lib.hid (X16.out.trans x17)
        clear x17 S16 X16
        go_wp2_with fail
        refine (turn_int _ zz ((nu : Int) - 1) w17 (S17.out.get 7 rfl) (by omega) (by rw [HTL.out, ← HNu.out]; omega) HZ1.out.1 HZ1.out.2).mono ?_
        rintro e w18 ⟨v18, rfl, o18, x18⟩
        have S18 := Lib.hid ((S17.out.ext x18).snoc o18.isI)
        have X18 := Lib.hid (X17.out.trans x18)
        clear x18 S17 X17 o18
        go_wp2_with fail
        have HA := Lib.hid (reversed_any _ _ w18 (S18.out.get 12 rfl) (by rw [mvL_len]; exact HZ1.out.2))
        rw [HNu.out, ← HTL.out, rev_turn] at HA
        refine (HA.out).mono ?_
        rintro e w19 ⟨v19, rfl, o19, x19⟩
        have S19 := Lib.hid ((S18.out.ext x19).snoc o19.isI)
        have X19 := Lib.hid (X18.out.trans x19)
        clear x19 S18 X18 o19
        go_wp2_with fail
        clear HA
        refine (same_true (S19.out.get 10 rfl) (S19.out.get 13 rfl)).mono ?_
        rintro e w20 ⟨rfl, x20⟩
        have S20 := Lib.hid (S19.out.ext x20)
        have X20 := Lib.hid (X19.out.trans x20)
        clear x20 S19 X19
        go_wp2_with fail
        go_roundw
        case rel => exact ⟨2, by omega, by go_num, X20.out⟩
        case measure => simp [intOf]
      · have HTL := Lib.hid (show (closeL f b).length = f.length from (show (underL (liftL f b) b).length = f.length by rw [underL_len, liftL_len]))
        have HT1 := Lib.hid (show closeL (mvL f a) b = mvL (closeL f b) a from close_turn Fvf.out.b1 a)
        have HT2 := Lib.hid (show closeL (imgL f) b.reverse = imgL (closeL f b) from close_img Fvf.out.odd)
        generalize hz : closeL f b = zz at *
        have HZZ := Lib.hid hz
        clear hz
        have HZ1 := Lib.hid (And.intro (show 1 ≤ zz.length by rw [HTL.out]; exact HLF.out.1) (show zz.length ≤ 1000 by rw [HTL.out]; have := HLF.out.2; omega))
        go_wp2_with fail
        refine (Close_val (zs := zz) HB.out HZZ.out (S11.out.get 0 rfl) (S11.out.get 1 rfl)).mono ?_
        rintro e w12 ⟨v12, rfl, o12, x12⟩
        have S12 := Lib.hid ((S11.out.ext x12).snoc o12.isI)
        have X12 := Lib.hid (X11.out.trans x12)
        clear x12 S11 X11 o12
        go_wp2_with fail
        refine (Close_val (zs := mvL zz a) (fine_iff.2 HFT.out) HT1.out (S12.out.get 2 rfl) (S12.out.get 1 rfl)).mono ?_
        rintro e w13 ⟨v13, rfl, o13, x13⟩
        have S13 := Lib.hid ((S12.out.ext x13).snoc o13.isI)
        have X13 := Lib.hid (X12.out.trans x13)
        clear x13 S12 X12 o13
        go_wp2_with fail
        refine (reversed_any _ b w13 (S13.out.get 1 rfl) HLB.out).mono ?_
        rintro e w14 ⟨v14, rfl, o14, x14⟩
        have S14 := Lib.hid ((S13.out.ext x14).snoc o14.isI)
        have X14 := Lib.hid (X13.out.trans x14)
        clear x14 S13 X13 o14
        go_wp2_with fail
        refine (Close_val (zs := imgL zz) (fine_iff.2 HFI.out) HT2.out (S14.out.get 3 rfl) (S14.out.get 9 rfl)).mono ?_
        rintro e w15 ⟨v15, rfl, o15, x15⟩
        have S15 := Lib.hid ((S14.out.ext x15).snoc o15.isI)
        have X15 := Lib.hid (X14.out.trans x15)
        clear x15 S14 X14 o15
        go_wp2_with fail
        refine (turn_eq _ zz HQ.out w15 (S15.out.get 7 rfl) HE.out.1 (by rw [HTL.out, ← HNu.out]; omega) HZ1.out.1 HZ1.out.2).mono ?_
        rintro e w16 ⟨v16, rfl, o16, x16⟩
        have S16 := Lib.hid ((S15.out.ext x16).snoc o16.isI)
        have X16 := Lib.hid (X15.out.trans x16)
        clear x16 S15 X15 o16
        go_wp2_with fail
        refine (same_true (S16.out.get 8 rfl) (S16.out.get 11 rfl)).mono ?_
        rintro e w17 ⟨rfl, x17⟩
        have S17 := Lib.hid (S16.out.ext x17)
        have X17 := Lib.hid (X16.out.trans x17)
        clear x17 S16 X16
        go_wp2_with fail
        refine (turn_int _ zz ((nu : Int) - 1) w17 (S17.out.get 7 rfl) (by omega) (by rw [HTL.out, ← HNu.out]; omega) HZ1.out.1 HZ1.out.2).mono ?_
        rintro e w18 ⟨v18, rfl, o18, x18⟩
        have S18 := Lib.hid ((S17.out.ext x18).snoc o18.isI)
        have X18 := Lib.hid (X17.out.trans x18)
        clear x18 S17 X17 o18
        go_wp2_with fail
        have HA := Lib.hid (reversed_any _ _ w18 (S18.out.get 12 rfl) (by rw [mvL_len]; exact HZ1.out.2))
        rw [HNu.out, ← HTL.out, rev_turn] at HA
        refine (HA.out).mono ?_
        rintro e w19 ⟨v19, rfl, o19, x19⟩
        have S19 := Lib.hid ((S18.out.ext x19).snoc o19.isI)
        have X19 := Lib.hid (X18.out.trans x19)
        clear x19 S18 X18 o19
        go_wp2_with fail
        clear HA
        refine (same_true (S19.out.get 10 rfl) (S19.out.get 13 rfl)).mono ?_
        rintro e w20 ⟨rfl, x20⟩
        have S20 := Lib.hid (S19.out.ext x20)
        have X20 := Lib.hid (X19.out.trans x20)
        clear x20 S19 X19
        go_wp2_with fail
        go_roundw
        case rel => exact ⟨3, by omega, by go_num, X20.out⟩
        case measure => simp [intOf]
      · have HTL := Lib.hid (show (grindL f b).length = f.length from (show (liftL (underL f b) b).length = f.length by rw [liftL_len, underL_len]))
        have HT1 := Lib.hid (show grindL (mvL f a) b = mvL (grindL f b) a from grind_turn Fvf.out.b1 a)
        have HT2 := Lib.hid (show grindL (imgL f) b.reverse = imgL (grindL f b) from grind_img Fvf.out.odd)
        generalize hz : grindL f b = zz at *
        have HZZ := Lib.hid hz
        clear hz
        have HZ1 := Lib.hid (And.intro (show 1 ≤ zz.length by rw [HTL.out]; exact HLF.out.1) (show zz.length ≤ 1000 by rw [HTL.out]; have := HLF.out.2; omega))
        go_wp2_with fail
        refine (Grind_val (zs := zz) HB.out HZZ.out (S11.out.get 0 rfl) (S11.out.get 1 rfl)).mono ?_
        rintro e w12 ⟨v12, rfl, o12, x12⟩
        have S12 := Lib.hid ((S11.out.ext x12).snoc o12.isI)
        have X12 := Lib.hid (X11.out.trans x12)
        clear x12 S11 X11 o12
        go_wp2_with fail
        refine (Grind_val (zs := mvL zz a) (fine_iff.2 HFT.out) HT1.out (S12.out.get 2 rfl) (S12.out.get 1 rfl)).mono ?_
        rintro e w13 ⟨v13, rfl, o13, x13⟩
        have S13 := Lib.hid ((S12.out.ext x13).snoc o13.isI)
        have X13 := Lib.hid (X12.out.trans x13)
        clear x13 S12 X12 o13
        go_wp2_with fail
        refine (reversed_any _ b w13 (S13.out.get 1 rfl) HLB.out).mono ?_
        rintro e w14 ⟨v14, rfl, o14, x14⟩
        have S14 := Lib.hid ((S13.out.ext x14).snoc o14.isI)
        have X14 := Lib.hid (X13.out.trans x14)
        clear x14 S13 X13 o14
        go_wp2_with fail
        refine (Grind_val (zs := imgL zz) (fine_iff.2 HFI.out) HT2.out (S14.out.get 3 rfl) (S14.out.get 9 rfl)).mono ?_
        rintro e w15 ⟨v15, rfl, o15, x15⟩
        have S15 := Lib.hid ((S14.out.ext x15).snoc o15.isI)
        have X15 := Lib.hid (X14.out.trans x15)
        clear x15 S14 X14 o15
        go_wp2_with fail
        refine (turn_eq _ zz HQ.out w15 (S15.out.get 7 rfl) HE.out.1 (by rw [HTL.out, ← HNu.out]; omega) HZ1.out.1 HZ1.out.2).mono ?_
        rintro e w16 ⟨v16, rfl, o16, x16⟩
        have S16 := Lib.hid ((S15.out.ext x16).snoc o16.isI)
        have X16 := Lib.hid (X15.out.trans x16)
        clear x16 S15 X15 o16
        go_wp2_with fail
        refine (same_true (S16.out.get 8 rfl) (S16.out.get 11 rfl)).mono ?_
        rintro e w17 ⟨rfl, x17⟩
        have S17 := Lib.hid (S16.out.ext x17)
        have X17 := Lib.hid (X16.out.trans x17)
        clear x17 S16 X16
        go_wp2_with fail
        refine (turn_int _ zz ((nu : Int) - 1) w17 (S17.out.get 7 rfl) (by omega) (by rw [HTL.out, ← HNu.out]; omega) HZ1.out.1 HZ1.out.2).mono ?_
        rintro e w18 ⟨v18, rfl, o18, x18⟩
        have S18 := Lib.hid ((S17.out.ext x18).snoc o18.isI)
        have X18 := Lib.hid (X17.out.trans x18)
        clear x18 S17 X17 o18
        go_wp2_with fail
        have HA := Lib.hid (reversed_any _ _ w18 (S18.out.get 12 rfl) (by rw [mvL_len]; exact HZ1.out.2))
        rw [HNu.out, ← HTL.out, rev_turn] at HA
        refine (HA.out).mono ?_
        rintro e w19 ⟨v19, rfl, o19, x19⟩
        have S19 := Lib.hid ((S18.out.ext x19).snoc o19.isI)
        have X19 := Lib.hid (X18.out.trans x19)
        clear x19 S18 X18 o19
        go_wp2_with fail
        clear HA
        refine (same_true (S19.out.get 10 rfl) (S19.out.get 13 rfl)).mono ?_
        rintro e w20 ⟨rfl, x20⟩
        have S20 := Lib.hid (S19.out.ext x20)
        have X20 := Lib.hid (X19.out.trans x20)
        clear x20 S19 X19
        go_wp2_with fail
        go_roundw
        case rel => exact ⟨4, by omega, by go_num, X20.out⟩
        case measure => simp [intOf]
    · obtain rfl : k = 4 := by omega
      go_wp2_with fail
      refine (count_any _ _ f b w11 (S11.out.get 0 rfl) (S11.out.get 1 rfl)).mono ?_
      rintro e w12 ⟨rfl, x12⟩
      have S12 := Lib.hid (S11.out.ext x12)
      have X12 := Lib.hid (X11.out.trans x12)
      clear x12 S11 X11
      go_wp2_with fail
      have HA := Lib.hid (count_any _ _ (mvL f a) b w12 (S12.out.get 2 rfl) (S12.out.get 1 rfl))
      rw [(count_turn Fvf.out a).1, (count_turn Fvf.out a).2] at HA
      refine HA.out.mono ?_
      rintro e w13 ⟨rfl, x13⟩
      have S13 := Lib.hid (S12.out.ext x13)
      have X13 := Lib.hid (X12.out.trans x13)
      clear x13 S12 X12 HA
      go_wp2_with fail
      refine (reversed_any _ b w13 (S13.out.get 1 rfl) HLB.out).mono ?_
      rintro e w14 ⟨v14, rfl, o14, x14⟩
      have S14 := Lib.hid ((S13.out.ext x14).snoc o14.isI)
      have X14 := Lib.hid (X13.out.trans x14)
      clear x14 S13 X13 o14
      go_wp2_with fail
      have HA := Lib.hid (count_any _ _ (imgL f) b.reverse w14 (S14.out.get 3 rfl) (S14.out.get 7 rfl))
      rw [(count_img Fvf.out).1, (count_img Fvf.out).2] at HA
      refine HA.out.mono ?_
      rintro e w15 ⟨rfl, x15⟩
      have X15 := Lib.hid (X14.out.trans x15)
      clear x15 X14 HA
      generalize countN f b = cn
      generalize countEr f b = ce
      go_wp2_with fail
      go_ret
      exact ⟨rfl, X10.out.trans X15.out⟩
theorem lawAround_row (u : Value) (f : List Int) (x : Value) (b : List Int) (s : Int) (w : World) (hu : IsI w u f) (hx : IsI w x b) :
    Calls Try.prog 12 #[u, x, .int .i64 s] w fun e w' => e = .returned (.bool true) ∧ Ext w w' := lawAround_any u f x b s w hu hx
end Go.Proofs.Ytaaceadcnnfngaa
