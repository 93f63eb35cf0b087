/- The chapter's examples: alive. No condition. -/
import Derived.Test.YtaaceadcnnfngaaCCount2
import Derived.Test.YtaaceadcnnfngaaRLawBase
namespace Go.Proofs.Ytaaceadcnnfngaa
open Go.RowKit

theorem lit_isI (w : World) (cs : Array Value) (zs : List Int) (n b : Nat) (hb : b = w.heap.size) (h : cs.toList = zs.map (Value.int .i64)) (hn : n = zs.length) (hm : n ≤ 1000) : IsI (w.alloc (.cells cs 3)) (.slice (some ⟨b, 0, none⟩) n n) zs := by
  subst hn
  subst hb
  refine ⟨_, _, rfl, by simp, ⟨Nat.le_refl _, by unfold maxLen; omega⟩, ⟨rfl, by unfold maxLen; omega, fun k hk => ⟨w.heap.size, 0, rfl, by simp, ?_⟩⟩⟩
  have hk2 : k < cs.size := by rw [← Array.length_toList, h]; simpa using hk
  have h1 : cs[k]? = some (.int .i64 (zs[k]?.getD 0)) := by
    rw [← Array.getElem?_toList, h]
    simp [hk]
  rw [Nat.zero_add]
  exact (cell_of_row (w.alloc (.cells cs 3)) w.heap.size k cs 3 (0, 0) (by show (w.heap.push _)[w.heap.size]? = _; simp)).trans h1

theorem l_any (v : Value) (w : World) : Calls Try.prog 58 #[v] w fun e w' => e = .returned v ∧ w = w' := by
  go_enter Try.func58, Try.ntmps58
  go_wp2
  go_ret
  exact ⟨rfl, rfl⟩
theorem flat_any (w : World) : Calls Try.prog 59 #[] w fun e w' => ∃ v, e = .returned v ∧ IsI w' v [0, 0, 0] ∧ Ext w w' := by
  go_enter Try.func59, Try.ntmps59
  go_wp2_with (go_at_call 58; refine (l_any _ _).mono ?_; rintro e w' ⟨rfl, rfl⟩)
  go_ret
  exact ⟨_, rfl, lit_isI w _ [0, 0, 0] 3 _ rfl rfl rfl (by decide), (Ext.refl w).alloc _⟩

theorem Lift_val {xs ys zs : List Int} (hb : bothE xs ys = 0) (hl : liftL xs ys = zs) {u v : Value} {w : World} (hu : IsI w u xs) (hv : IsI w v ys) : Calls Try.prog 19 #[u, v] w (RetOE w zs 0) := by
  have := Lift_any u v xs ys w hu hv
  rwa [fOr, if_pos hb, hb, hl] at this
theorem Under_val {xs ys zs : List Int} (hb : bothE xs ys = 0) (hl : underL xs ys = zs) {u v : Value} {w : World} (hu : IsI w u xs) (hv : IsI w v ys) : Calls Try.prog 21 #[u, v] w (RetOE w zs 0) := by
  have := Under_any u v xs ys w hu hv
  rwa [fOr, if_pos hb, hb, hl] at this
theorem Close_val {xs ys zs : List Int} (hb : bothE xs ys = 0) (hl : underL (liftL xs ys) ys = zs) {u v : Value} {w : World} (hu : IsI w u xs) (hv : IsI w v ys) : Calls Try.prog 23 #[u, v] w (RetOE w zs 0) := by
  have := Close_any u v xs ys w hu hv
  rwa [fOr, if_pos hb, hb, hl] at this
theorem Grind_val {xs ys zs : List Int} (hb : bothE xs ys = 0) (hl : liftL (underL xs ys) ys = zs) {u v : Value} {w : World} (hu : IsI w u xs) (hv : IsI w v ys) : Calls Try.prog 25 #[u, v] w (RetOE w zs 0) := by
  have := Grind_any u v xs ys w hu hv
  rwa [fOr, if_pos hb, hb, hl] at this
theorem Find_val {xs ys zs : List Int} {er : Int} (he : findEr xs ys = er) (hl : findL xs ys = zs) {u v : Value} {w : World} (hu : IsI w u xs) (hv : IsI w v ys) : Calls Try.prog 43 #[u, v] w (RetOE w zs er) := by
  have := Find_any u v xs ys w hu hv
  rwa [he, hl] at this
theorem Count_val {xs ys : List Int} {n er : Int} (he : countEr xs ys = er) (hl : countN xs ys = n) {u v : Value} {w : World} (hu : IsI w u xs) (hv : IsI w v ys) : Calls Try.prog 45 #[u, v] w fun e w' => e = .returned (.tuple #[.int .i64 n, .int .i64 er]) ∧ Ext w w' := by
  have := count_any u v xs ys w hu hv
  rwa [he, hl] at this
theorem Axes_val {xs zs : List Int} {er : Int} (he : checkE xs = er) (hl : axesL xs = zs) {v : Value} {w : World} (hv : IsI w v xs) : Calls Try.prog 39 #[v] w (RetOE w zs er) := by
  have := Axes_any v xs w hv
  rwa [he, hl] at this

set_option maxRecDepth 100000 in
set_option maxHeartbeats 4000000 in
theorem alive_any (w : World) : Calls Try.prog 47 #[] w fun e w' => e = .returned (.bool true) ∧ Ext w w' := by
  go_enter Try.func47, Try.ntmps47
  have X0 := Lib.hid (Ext.refl w)
  have S0 := Lib.hid (Has.nil w)
  go_wp2_with (go_at_call 58; refine (l_any _ _).mono ?_; rintro e w' ⟨rfl, rfl⟩)
  refine lay_calls (fun W => Ext w W ∧ IsI W (.slice (some ⟨w.heap.size, 0, none⟩) 6 6) [0, 5, 0, 0, 0, 0] ∧ IsI W (.slice (some ⟨w.heap.size + 1, 0, none⟩) 3 3) [1, 0, 1]) ⟨by (repeat' (first | with_reducible exact Ext.refl _ | with_reducible apply Ext.alloc | with_reducible apply Ext.drew | with_reducible apply Ext.drewN | with_reducible refine Ext.setCell ?_ ?_ _ | with_reducible apply Ext.step | with_reducible assumption | with_reducible exact Nat.le_refl _ | (simp; done) | (simp; omega))), ((lit_isI w #[.int .i64 0, .int .i64 5, .int .i64 0, .int .i64 0, .int .i64 0, .int .i64 0] [0, 5, 0, 0, 0, 0] 6 _ (by simp) rfl rfl (by decide)).ext ((Ext.refl _).alloc _)), (lit_isI (w.alloc (.cells #[.int .i64 0, .int .i64 5, .int .i64 0, .int .i64 0, .int .i64 0, .int .i64 0] 3)) #[.int .i64 1, .int .i64 0, .int .i64 1] [1, 0, 1] 3 _ (by simp) rfl rfl (by decide))⟩ ?_
  rintro w1 ⟨x1, i1_0, i1_1⟩
  have S1 := Lib.hid (((S0.out.ext x1).snoc i1_0).snoc i1_1)
  have X1 := Lib.hid (X0.out.trans x1)
  clear x1 i1_0 i1_1 S0 X0
  refine (Lift_val (zs := [4, 5, 4, 0, 0, 0]) (by decide +kernel) (by decide +kernel) (S1.out.get 0 rfl) (S1.out.get 1 rfl)).mono ?_
  rintro e w2 ⟨v2, rfl, o2, x2⟩
  have S2 := Lib.hid ((S1.out.ext x2).snoc o2.isI)
  have X2 := Lib.hid (X1.out.trans x2)
  clear x2 S1 X1 o2
  go_wp2_with (go_at_call 58; refine (l_any _ _).mono ?_; rintro e w' ⟨rfl, rfl⟩)
  refine lay_calls (fun W => Ext w2 W ∧ IsI W (.slice (some ⟨w2.heap.size, 0, none⟩) 6 6) [6, 0, 6, 0, 0, 0]) ⟨by (repeat' (first | with_reducible exact Ext.refl _ | with_reducible apply Ext.alloc | with_reducible apply Ext.drew | with_reducible apply Ext.drewN | with_reducible refine Ext.setCell ?_ ?_ _ | with_reducible apply Ext.step | with_reducible assumption | with_reducible exact Nat.le_refl _ | (simp; done) | (simp; omega))), (lit_isI w2 #[.int .i64 6, .int .i64 0, .int .i64 6, .int .i64 0, .int .i64 0, .int .i64 0] [6, 0, 6, 0, 0, 0] 6 _ (by simp) rfl rfl (by decide))⟩ ?_
  rintro w3 ⟨x3, i3_0⟩
  have S3 := Lib.hid ((S2.out.ext x3).snoc i3_0)
  have X3 := Lib.hid (X2.out.trans x3)
  clear x3 i3_0 S2 X2
  refine (flat_any w3).mono ?_
  rintro e w4 ⟨v4, rfl, o4, x4⟩
  have S4 := Lib.hid ((S3.out.ext x4).snoc o4)
  have X4 := Lib.hid (X3.out.trans x4)
  clear x4 S3 X3 o4
  go_wp2_with fail
  refine (Close_val (zs := [6, 6, 6, 0, 0, 0]) (by decide +kernel) (by decide +kernel) (S4.out.get 3 rfl) (S4.out.get 4 rfl)).mono ?_
  rintro e w5 ⟨v5, rfl, o5, x5⟩
  have S5 := Lib.hid ((S4.out.ext x5).snoc o5.isI)
  have X5 := Lib.hid (X4.out.trans x5)
  clear x5 S4 X4 o5
  go_wp2_with (go_at_call 58; refine (l_any _ _).mono ?_; rintro e w' ⟨rfl, rfl⟩)
  refine lay_calls (fun W => Ext w5 W ∧ IsI W (.slice (some ⟨w5.heap.size, 0, none⟩) 6 6) [5, 5, 5, 0, 0, 0]) ⟨by (repeat' (first | with_reducible exact Ext.refl _ | with_reducible apply Ext.alloc | with_reducible apply Ext.drew | with_reducible apply Ext.drewN | with_reducible refine Ext.setCell ?_ ?_ _ | with_reducible apply Ext.step | with_reducible assumption | with_reducible exact Nat.le_refl _ | (simp; done) | (simp; omega))), (lit_isI w5 #[.int .i64 5, .int .i64 5, .int .i64 5, .int .i64 0, .int .i64 0, .int .i64 0] [5, 5, 5, 0, 0, 0] 6 _ (by simp) rfl rfl (by decide))⟩ ?_
  rintro w6 ⟨x6, i6_0⟩
  have S6 := Lib.hid ((S5.out.ext x6).snoc i6_0)
  have X6 := Lib.hid (X5.out.trans x6)
  clear x6 i6_0 S5 X5
  refine (flat_any w6).mono ?_
  rintro e w7 ⟨v7, rfl, o7, x7⟩
  have S7 := Lib.hid ((S6.out.ext x7).snoc o7)
  have X7 := Lib.hid (X6.out.trans x7)
  clear x7 S6 X6 o7
  go_wp2_with fail
  refine (Find_val (er := 0) (zs := [0, 5, 0, 0, 0, 0]) (by decide +kernel) (by decide +kernel) (S7.out.get 6 rfl) (S7.out.get 7 rfl)).mono ?_
  rintro e w8 ⟨v8, rfl, o8, x8⟩
  have S8 := Lib.hid ((S7.out.ext x8).snoc o8.isI)
  have X8 := Lib.hid (X7.out.trans x8)
  clear x8 S7 X7 o8
  go_wp2_with (go_at_call 58; refine (l_any _ _).mono ?_; rintro e w' ⟨rfl, rfl⟩)
  refine lay_calls (fun W => Ext w8 W ∧ IsI W (.slice (some ⟨w8.heap.size, 0, none⟩) 4 4) [2, 2, 2, 2]) ⟨by (repeat' (first | with_reducible exact Ext.refl _ | with_reducible apply Ext.alloc | with_reducible apply Ext.drew | with_reducible apply Ext.drewN | with_reducible refine Ext.setCell ?_ ?_ _ | with_reducible apply Ext.step | with_reducible assumption | with_reducible exact Nat.le_refl _ | (simp; done) | (simp; omega))), (lit_isI w8 #[.int .i64 2, .int .i64 2, .int .i64 2, .int .i64 2] [2, 2, 2, 2] 4 _ (by simp) rfl rfl (by decide))⟩ ?_
  rintro w9 ⟨x9, i9_0⟩
  have S9 := Lib.hid ((S8.out.ext x9).snoc i9_0)
  have X9 := Lib.hid (X8.out.trans x9)
  clear x9 i9_0 S8 X8
  refine (flat_any w9).mono ?_
  rintro e w10 ⟨v10, rfl, o10, x10⟩
  have S10 := Lib.hid ((S9.out.ext x10).snoc o10)
  have X10 := Lib.hid (X9.out.trans x10)
  clear x10 S9 X9 o10
  go_wp2_with fail
  refine (Count_val (er := 0) (n := 33) (by decide +kernel) (by decide +kernel) (S10.out.get 9 rfl) (S10.out.get 10 rfl)).mono ?_
  rintro e w11 ⟨rfl, x11⟩
  have S11 := Lib.hid (S10.out.ext x11)
  have X11 := Lib.hid (X10.out.trans x11)
  clear x11 S10 X10
  go_wp2_with (go_at_call 58; refine (l_any _ _).mono ?_; rintro e w' ⟨rfl, rfl⟩)
  refine lay_calls (fun W => Ext w11 W ∧ IsI W (.slice (some ⟨w11.heap.size, 0, none⟩) 6 6) [1, 0, 1, 0, 1, 0]) ⟨by (repeat' (first | with_reducible exact Ext.refl _ | with_reducible apply Ext.alloc | with_reducible apply Ext.drew | with_reducible apply Ext.drewN | with_reducible refine Ext.setCell ?_ ?_ _ | with_reducible apply Ext.step | with_reducible assumption | with_reducible exact Nat.le_refl _ | (simp; done) | (simp; omega))), (lit_isI w11 #[.int .i64 1, .int .i64 0, .int .i64 1, .int .i64 0, .int .i64 1, .int .i64 0] [1, 0, 1, 0, 1, 0] 6 _ (by simp) rfl rfl (by decide))⟩ ?_
  rintro w12 ⟨x12, i12_0⟩
  have S12 := Lib.hid ((S11.out.ext x12).snoc i12_0)
  have X12 := Lib.hid (X11.out.trans x12)
  clear x12 i12_0 S11 X11
  refine (Axes_val (er := 0) (zs := [0, 2, 4]) (by decide +kernel) (by decide +kernel) (S12.out.get 11 rfl)).mono ?_
  rintro e w13 ⟨v13, rfl, o13, x13⟩
  have S13 := Lib.hid ((S12.out.ext x13).snoc o13.isI)
  have X13 := Lib.hid (X12.out.trans x13)
  clear x13 S12 X12 o13
  go_wp2_with (go_at_call 58; refine (l_any _ _).mono ?_; rintro e w' ⟨rfl, rfl⟩)
  refine lay_calls (fun W => Ext w13 W ∧ IsI W (.slice (some ⟨w13.heap.size, 0, none⟩) 6 6) [4, 5, 4, 0, 0, 0]) ⟨by (repeat' (first | with_reducible exact Ext.refl _ | with_reducible apply Ext.alloc | with_reducible apply Ext.drew | with_reducible apply Ext.drewN | with_reducible refine Ext.setCell ?_ ?_ _ | with_reducible apply Ext.step | with_reducible assumption | with_reducible exact Nat.le_refl _ | (simp; done) | (simp; omega))), (lit_isI w13 #[.int .i64 4, .int .i64 5, .int .i64 4, .int .i64 0, .int .i64 0, .int .i64 0] [4, 5, 4, 0, 0, 0] 6 _ (by simp) rfl rfl (by decide))⟩ ?_
  rintro w14 ⟨x14, i14_0⟩
  have S14 := Lib.hid ((S13.out.ext x14).snoc i14_0)
  have X14 := Lib.hid (X13.out.trans x14)
  clear x14 i14_0 S13 X13
  refine (same_true (S14.out.get 2 rfl) (S14.out.get 13 rfl)).mono ?_
  rintro e w15 ⟨rfl, x15⟩
  have S15 := Lib.hid (S14.out.ext x15)
  have X15 := Lib.hid (X14.out.trans x15)
  clear x15 S14 X14
  go_wp2_with (go_at_call 58; refine (l_any _ _).mono ?_; rintro e w' ⟨rfl, rfl⟩)
  refine lay_calls (fun W => Ext w15 W ∧ IsI W (.slice (some ⟨w15.heap.size, 0, none⟩) 6 6) [6, 6, 6, 0, 0, 0]) ⟨by (repeat' (first | with_reducible exact Ext.refl _ | with_reducible apply Ext.alloc | with_reducible apply Ext.drew | with_reducible apply Ext.drewN | with_reducible refine Ext.setCell ?_ ?_ _ | with_reducible apply Ext.step | with_reducible assumption | with_reducible exact Nat.le_refl _ | (simp; done) | (simp; omega))), (lit_isI w15 #[.int .i64 6, .int .i64 6, .int .i64 6, .int .i64 0, .int .i64 0, .int .i64 0] [6, 6, 6, 0, 0, 0] 6 _ (by simp) rfl rfl (by decide))⟩ ?_
  rintro w16 ⟨x16, i16_0⟩
  have S16 := Lib.hid ((S15.out.ext x16).snoc i16_0)
  have X16 := Lib.hid (X15.out.trans x16)
  clear x16 i16_0 S15 X15
  refine (same_true (S16.out.get 5 rfl) (S16.out.get 14 rfl)).mono ?_
  rintro e w17 ⟨rfl, x17⟩
  have S17 := Lib.hid (S16.out.ext x17)
  have X17 := Lib.hid (X16.out.trans x17)
  clear x17 S16 X16
  go_wp2_with (go_at_call 58; refine (l_any _ _).mono ?_; rintro e w' ⟨rfl, rfl⟩)
  refine lay_calls (fun W => Ext w17 W ∧ IsI W (.slice (some ⟨w17.heap.size, 0, none⟩) 6 6) [0, 5, 0, 0, 0, 0]) ⟨by (repeat' (first | with_reducible exact Ext.refl _ | with_reducible apply Ext.alloc | with_reducible apply Ext.drew | with_reducible apply Ext.drewN | with_reducible refine Ext.setCell ?_ ?_ _ | with_reducible apply Ext.step | with_reducible assumption | with_reducible exact Nat.le_refl _ | (simp; done) | (simp; omega))), (lit_isI w17 #[.int .i64 0, .int .i64 5, .int .i64 0, .int .i64 0, .int .i64 0, .int .i64 0] [0, 5, 0, 0, 0, 0] 6 _ (by simp) rfl rfl (by decide))⟩ ?_
  rintro w18 ⟨x18, i18_0⟩
  have S18 := Lib.hid ((S17.out.ext x18).snoc i18_0)
  have X18 := Lib.hid (X17.out.trans x18)
  clear x18 i18_0 S17 X17
  refine (same_true (S18.out.get 8 rfl) (S18.out.get 15 rfl)).mono ?_
  rintro e w19 ⟨rfl, x19⟩
  have S19 := Lib.hid (S18.out.ext x19)
  have X19 := Lib.hid (X18.out.trans x19)
  clear x19 S18 X18
  go_wp2_with (go_at_call 58; refine (l_any _ _).mono ?_; rintro e w' ⟨rfl, rfl⟩)
  refine lay_calls (fun W => Ext w19 W ∧ IsI W (.slice (some ⟨w19.heap.size, 0, none⟩) 3 3) [0, 2, 4]) ⟨by (repeat' (first | with_reducible exact Ext.refl _ | with_reducible apply Ext.alloc | with_reducible apply Ext.drew | with_reducible apply Ext.drewN | with_reducible refine Ext.setCell ?_ ?_ _ | with_reducible apply Ext.step | with_reducible assumption | with_reducible exact Nat.le_refl _ | (simp; done) | (simp; omega))), (lit_isI w19 #[.int .i64 0, .int .i64 2, .int .i64 4] [0, 2, 4] 3 _ (by simp) rfl rfl (by decide))⟩ ?_
  rintro w20 ⟨x20, i20_0⟩
  have S20 := Lib.hid ((S19.out.ext x20).snoc i20_0)
  have X20 := Lib.hid (X19.out.trans x20)
  clear x20 i20_0 S19 X19
  refine (same_true (S20.out.get 12 rfl) (S20.out.get 16 rfl)).mono ?_
  rintro e w21 ⟨rfl, x21⟩
  have S21 := Lib.hid (S20.out.ext x21)
  have X21 := Lib.hid (X20.out.trans x21)
  clear x21 S20 X20
  go_wp2_with fail
  go_ret
  exact ⟨rfl, X21.out⟩
end Go.Proofs.Ytaaceadcnnfngaa
