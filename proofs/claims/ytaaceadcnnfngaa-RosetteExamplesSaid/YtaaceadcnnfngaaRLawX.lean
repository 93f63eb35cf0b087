/- RosetteExamples: the law's walk. No condition. -/
import Derived.Test.YtaaceadcnnfngaaRLawC
import Derived.Test.YtaaceadcnnfngaaRNee
import Derived.Test.YtaaceadcnnfngaaRBoth
import Derived.Test.YtaaceadcnnfngaaQDag
namespace Go.Proofs.Ytaaceadcnnfngaa
open Go.RowKit Go.Lib

theorem Contacts_val {xs ys zs : List Int} {p er : Int} (he : conEr xs ys p = er) (hl : conL xs ys p = zs) {u v : Value} {w : World} (hu : IsI w u xs) (hv : IsI w v ys) : Calls Try.prog 53 #[u, v, .int .i64 p] w (RetOE w zs er) := by
  have := Contacts_any u v xs ys p w hu hv
  rwa [he, hl] at this
theorem Needed_val {xs ys zs : List Int} (he : bothE xs ys = 0) (hl : needL xs ys = zs) {u v : Value} {w : World} (hu : IsI w u xs) (hv : IsI w v ys) : Calls Try.prog 55 #[u, v] w (RetOE w zs 0) := by
  have := Needed_any u v xs ys w hu hv
  rwa [he, hl] at this
theorem Both_val {xs ys zs : List Int} {er : Int} (he : bothEr xs ys = er) (hl : bothR xs ys = zs) {u v : Value} {w : World} (hu : IsI w u xs) (hv : IsI w v ys) : Calls Try.prog 52 #[u, v] w (RetOE w zs er) := by
  have := Both_any u v xs ys w hu hv
  rwa [he, hl] at this
theorem Period_val {xs : List Int} {n er : Int} (he : checkE xs = er) (hl : periodV xs = n) {v : Value} {w : World} (hv : IsI w v xs) : Calls Try.prog 37 #[v] w fun e w' => e = .returned (.tuple #[.int .i64 n, .int .i64 er]) ∧ Ext w w' := by
  have := Period_any v xs w hv
  rwa [he, hl] at this
theorem Match_val {xs ys : List Int} {n er : Int} (he : matchE xs ys = er) (hl : matchN xs ys = n) {u v : Value} {w : World} (hu : IsI w u xs) (hv : IsI w v ys) : Calls Try.prog 41 #[u, v] w fun e w' => e = .returned (.tuple #[.int .i64 n, .int .i64 er]) ∧ Ext w w' := by
  have := Match_any u v xs ys w hu hv
  rwa [he, hl] at this
theorem Turned_val {xs zs : List Int} {x er : Int} (he : checkE xs = er) (hl : turnedL xs x = zs) {v : Value} {w : World} (hv : IsI w v xs) : Calls Try.prog 33 #[v, .int .i64 x] w (RetOE w zs er) := by
  have := Turned_any v xs x w hv
  rwa [he, hl] at this
theorem Check_val {xs : List Int} {er : Int} (he : checkE xs = er) {v : Value} {w : World} (hv : IsI w v xs) : Calls Try.prog 27 #[v] w fun e w' => e = .returned (.int .i64 er) ∧ w = w' := by
  have := check_any v xs w hv
  rwa [he] at this
theorem Rub_val {xs : List Int} {x er : Int} (he : rubberE xs x = er) {v : Value} {w : World} (hv : IsI w v xs) : Calls Try.prog 29 #[v, .int .i64 x] w fun e w' => e = .returned (.int .i64 er) ∧ w = w' := by
  have := checkRubber_any v xs x w hv
  rwa [he] at this

set_option maxRecDepth 100000 in
set_option maxHeartbeats 16000000 in
theorem lawExamples_any (w : World) : Calls Try.prog 17 #[] w fun e w' => e = .returned (.bool true) ∧ Ext w w' := by
  go_enter Try.func17, Try.ntmps17
  have HX := Lib.hid (Ext.refl w)
  go_wp2_with (go_at_call 58; refine (l_any _ _).mono ?_; rintro e w' ⟨rfl, rfl⟩)
  refine lay_calls (fun W => Ext w W ∧ IsI W (.slice (some ⟨w.heap.size, 0, none⟩) 6 6) [0, 5, 0, 0, 0, 0] ∧ IsI W (.slice (some ⟨w.heap.size + 1, 0, none⟩) 3 3) [1, 0, 1]) ⟨by (repeat' (first | with_reducible exact Ext.refl _ | with_reducible apply Ext.alloc | with_reducible apply Ext.drew | with_reducible apply Ext.drewN | with_reducible refine Ext.setCell ?_ ?_ _ | with_reducible apply Ext.step | with_reducible assumption | with_reducible exact Nat.le_refl _ | (simp; done) | (simp; omega))), ((lit_isI w #[.int .i64 0, .int .i64 5, .int .i64 0, .int .i64 0, .int .i64 0, .int .i64 0] [0, 5, 0, 0, 0, 0] 6 _ (by simp) rfl rfl (by decide)).ext ((Ext.refl _).alloc _)), (lit_isI (w.alloc (.cells #[.int .i64 0, .int .i64 5, .int .i64 0, .int .i64 0, .int .i64 0, .int .i64 0] 3)) #[.int .i64 1, .int .i64 0, .int .i64 1] [1, 0, 1] 3 _ (by simp) rfl rfl (by decide))⟩ ?_
  rintro w1 ⟨x, i0, i1⟩
  replace HX := Lib.hid (HX.out.trans x)
  have F1 := Lib.hid i0
  have F2 := Lib.hid i1
  clear x i0 i1
  refine (Close_val (zs := [1, 5, 1, 0, 0, 0]) (by decide +kernel) (by decide +kernel) F1.out F2.out).mono ?_
  rintro e w2 ⟨v2, rfl, o, x⟩
  clear F1
  clear F2
  replace HX := Lib.hid (HX.out.trans x)
  have F3 := Lib.hid o.isI
  clear x o
  go_wp2_with (go_at_call 58; refine (l_any _ _).mono ?_; rintro e w' ⟨rfl, rfl⟩)
  refine lay_calls (fun W => Ext w2 W ∧ IsI W (.slice (some ⟨w2.heap.size, 0, none⟩) 6 6) [0, 5, 0, 0, 0, 0]) ⟨by (repeat' (first | with_reducible exact Ext.refl _ | with_reducible apply Ext.alloc | with_reducible apply Ext.drew | with_reducible apply Ext.drewN | with_reducible refine Ext.setCell ?_ ?_ _ | with_reducible apply Ext.step | with_reducible assumption | with_reducible exact Nat.le_refl _ | (simp; done) | (simp; omega))), (lit_isI w2 #[.int .i64 0, .int .i64 5, .int .i64 0, .int .i64 0, .int .i64 0, .int .i64 0] [0, 5, 0, 0, 0, 0] 6 _ (by simp) rfl rfl (by decide))⟩ ?_
  rintro w3 ⟨x, i0⟩
  replace F3 := Lib.hid (F3.out.ext x)
  replace HX := Lib.hid (HX.out.trans x)
  have F4 := Lib.hid i0
  clear x i0
  refine (flat_any w3).mono ?_
  rintro e w4 ⟨v4, rfl, o, x⟩
  replace F3 := Lib.hid (F3.out.ext x)
  replace F4 := Lib.hid (F4.out.ext x)
  replace HX := Lib.hid (HX.out.trans x)
  have F5 := Lib.hid o
  clear x o
  go_wp2_with fail
  refine (Lift_val (zs := [5, 5, 5, 0, 0, 0]) (by decide +kernel) (by decide +kernel) F4.out F5.out).mono ?_
  rintro e w5 ⟨v5, rfl, o, x⟩
  clear F4
  clear F5
  replace F3 := Lib.hid (F3.out.ext x)
  replace HX := Lib.hid (HX.out.trans x)
  have F6 := Lib.hid o.isI
  clear x o
  go_wp2_with (go_at_call 58; refine (l_any _ _).mono ?_; rintro e w' ⟨rfl, rfl⟩)
  refine lay_calls (fun W => Ext w5 W ∧ IsI W (.slice (some ⟨w5.heap.size, 0, none⟩) 6 6) [0, 5, 0, 0, 0, 0]) ⟨by (repeat' (first | with_reducible exact Ext.refl _ | with_reducible apply Ext.alloc | with_reducible apply Ext.drew | with_reducible apply Ext.drewN | with_reducible refine Ext.setCell ?_ ?_ _ | with_reducible apply Ext.step | with_reducible assumption | with_reducible exact Nat.le_refl _ | (simp; done) | (simp; omega))), (lit_isI w5 #[.int .i64 0, .int .i64 5, .int .i64 0, .int .i64 0, .int .i64 0, .int .i64 0] [0, 5, 0, 0, 0, 0] 6 _ (by simp) rfl rfl (by decide))⟩ ?_
  rintro w6 ⟨x, i0⟩
  replace F3 := Lib.hid (F3.out.ext x)
  replace F6 := Lib.hid (F6.out.ext x)
  replace HX := Lib.hid (HX.out.trans x)
  have F7 := Lib.hid i0
  clear x i0
  refine (flat_any w6).mono ?_
  rintro e w7 ⟨v7, rfl, o, x⟩
  replace F3 := Lib.hid (F3.out.ext x)
  replace F6 := Lib.hid (F6.out.ext x)
  replace F7 := Lib.hid (F7.out.ext x)
  replace HX := Lib.hid (HX.out.trans x)
  have F8 := Lib.hid o
  clear x o
  go_wp2_with fail
  refine (Close_val (zs := [0, 5, 0, 0, 0, 0]) (by decide +kernel) (by decide +kernel) F7.out F8.out).mono ?_
  rintro e w8 ⟨v8, rfl, o, x⟩
  clear F7
  clear F8
  replace F3 := Lib.hid (F3.out.ext x)
  replace F6 := Lib.hid (F6.out.ext x)
  replace HX := Lib.hid (HX.out.trans x)
  have F9 := Lib.hid o.isI
  clear x o
  go_wp2_with (go_at_call 58; refine (l_any _ _).mono ?_; rintro e w' ⟨rfl, rfl⟩)
  refine lay_calls (fun W => Ext w8 W ∧ IsI W (.slice (some ⟨w8.heap.size, 0, none⟩) 6 6) [6, 0, 6, 0, 0, 0]) ⟨by (repeat' (first | with_reducible exact Ext.refl _ | with_reducible apply Ext.alloc | with_reducible apply Ext.drew | with_reducible apply Ext.drewN | with_reducible refine Ext.setCell ?_ ?_ _ | with_reducible apply Ext.step | with_reducible assumption | with_reducible exact Nat.le_refl _ | (simp; done) | (simp; omega))), (lit_isI w8 #[.int .i64 6, .int .i64 0, .int .i64 6, .int .i64 0, .int .i64 0, .int .i64 0] [6, 0, 6, 0, 0, 0] 6 _ (by simp) rfl rfl (by decide))⟩ ?_
  rintro w9 ⟨x, i0⟩
  replace F3 := Lib.hid (F3.out.ext x)
  replace F6 := Lib.hid (F6.out.ext x)
  replace F9 := Lib.hid (F9.out.ext x)
  replace HX := Lib.hid (HX.out.trans x)
  have F10 := Lib.hid i0
  clear x i0
  refine (flat_any w9).mono ?_
  rintro e w10 ⟨v10, rfl, o, x⟩
  replace F3 := Lib.hid (F3.out.ext x)
  replace F6 := Lib.hid (F6.out.ext x)
  replace F9 := Lib.hid (F9.out.ext x)
  replace F10 := Lib.hid (F10.out.ext x)
  replace HX := Lib.hid (HX.out.trans x)
  have F11 := Lib.hid o
  clear x o
  go_wp2_with fail
  refine (Lift_val (zs := [6, 6, 6, 6, 0, 6]) (by decide +kernel) (by decide +kernel) F10.out F11.out).mono ?_
  rintro e w11 ⟨v11, rfl, o, x⟩
  clear F10
  clear F11
  replace F3 := Lib.hid (F3.out.ext x)
  replace F6 := Lib.hid (F6.out.ext x)
  replace F9 := Lib.hid (F9.out.ext x)
  replace HX := Lib.hid (HX.out.trans x)
  have F12 := Lib.hid o.isI
  clear x o
  go_wp2_with (go_at_call 58; refine (l_any _ _).mono ?_; rintro e w' ⟨rfl, rfl⟩)
  refine lay_calls (fun W => Ext w11 W ∧ IsI W (.slice (some ⟨w11.heap.size, 0, none⟩) 6 6) [1, 5, 1, 0, 0, 0]) ⟨by (repeat' (first | with_reducible exact Ext.refl _ | with_reducible apply Ext.alloc | with_reducible apply Ext.drew | with_reducible apply Ext.drewN | with_reducible refine Ext.setCell ?_ ?_ _ | with_reducible apply Ext.step | with_reducible assumption | with_reducible exact Nat.le_refl _ | (simp; done) | (simp; omega))), (lit_isI w11 #[.int .i64 1, .int .i64 5, .int .i64 1, .int .i64 0, .int .i64 0, .int .i64 0] [1, 5, 1, 0, 0, 0] 6 _ (by simp) rfl rfl (by decide))⟩ ?_
  rintro w12 ⟨x, i0⟩
  replace F3 := Lib.hid (F3.out.ext x)
  replace F6 := Lib.hid (F6.out.ext x)
  replace F9 := Lib.hid (F9.out.ext x)
  replace F12 := Lib.hid (F12.out.ext x)
  replace HX := Lib.hid (HX.out.trans x)
  have F13 := Lib.hid i0
  clear x i0
  refine (same_true F3.out F13.out).mono ?_
  rintro e w13 ⟨rfl, x⟩
  clear F3
  clear F13
  replace F6 := Lib.hid (F6.out.ext x)
  replace F9 := Lib.hid (F9.out.ext x)
  replace F12 := Lib.hid (F12.out.ext x)
  replace HX := Lib.hid (HX.out.trans x)
  clear x
  go_wp2_with (go_at_call 58; refine (l_any _ _).mono ?_; rintro e w' ⟨rfl, rfl⟩)
  refine lay_calls (fun W => Ext w13 W ∧ IsI W (.slice (some ⟨w13.heap.size, 0, none⟩) 6 6) [5, 5, 5, 0, 0, 0]) ⟨by (repeat' (first | with_reducible exact Ext.refl _ | with_reducible apply Ext.alloc | with_reducible apply Ext.drew | with_reducible apply Ext.drewN | with_reducible refine Ext.setCell ?_ ?_ _ | with_reducible apply Ext.step | with_reducible assumption | with_reducible exact Nat.le_refl _ | (simp; done) | (simp; omega))), (lit_isI w13 #[.int .i64 5, .int .i64 5, .int .i64 5, .int .i64 0, .int .i64 0, .int .i64 0] [5, 5, 5, 0, 0, 0] 6 _ (by simp) rfl rfl (by decide))⟩ ?_
  rintro w14 ⟨x, i0⟩
  replace F6 := Lib.hid (F6.out.ext x)
  replace F9 := Lib.hid (F9.out.ext x)
  replace F12 := Lib.hid (F12.out.ext x)
  replace HX := Lib.hid (HX.out.trans x)
  have F14 := Lib.hid i0
  clear x i0
  refine (same_true F6.out F14.out).mono ?_
  rintro e w15 ⟨rfl, x⟩
  clear F6
  clear F14
  replace F9 := Lib.hid (F9.out.ext x)
  replace F12 := Lib.hid (F12.out.ext x)
  replace HX := Lib.hid (HX.out.trans x)
  clear x
  go_wp2_with (go_at_call 58; refine (l_any _ _).mono ?_; rintro e w' ⟨rfl, rfl⟩)
  refine lay_calls (fun W => Ext w15 W ∧ IsI W (.slice (some ⟨w15.heap.size, 0, none⟩) 6 6) [0, 5, 0, 0, 0, 0]) ⟨by (repeat' (first | with_reducible exact Ext.refl _ | with_reducible apply Ext.alloc | with_reducible apply Ext.drew | with_reducible apply Ext.drewN | with_reducible refine Ext.setCell ?_ ?_ _ | with_reducible apply Ext.step | with_reducible assumption | with_reducible exact Nat.le_refl _ | (simp; done) | (simp; omega))), (lit_isI w15 #[.int .i64 0, .int .i64 5, .int .i64 0, .int .i64 0, .int .i64 0, .int .i64 0] [0, 5, 0, 0, 0, 0] 6 _ (by simp) rfl rfl (by decide))⟩ ?_
  rintro w16 ⟨x, i0⟩
  replace F9 := Lib.hid (F9.out.ext x)
  replace F12 := Lib.hid (F12.out.ext x)
  replace HX := Lib.hid (HX.out.trans x)
  have F15 := Lib.hid i0
  clear x i0
  refine (same_true F9.out F15.out).mono ?_
  rintro e w17 ⟨rfl, x⟩
  clear F9
  clear F15
  replace F12 := Lib.hid (F12.out.ext x)
  replace HX := Lib.hid (HX.out.trans x)
  clear x
  go_wp2_with (go_at_call 58; refine (l_any _ _).mono ?_; rintro e w' ⟨rfl, rfl⟩)
  refine lay_calls (fun W => Ext w17 W ∧ IsI W (.slice (some ⟨w17.heap.size, 0, none⟩) 6 6) [6, 6, 6, 6, 0, 6]) ⟨by (repeat' (first | with_reducible exact Ext.refl _ | with_reducible apply Ext.alloc | with_reducible apply Ext.drew | with_reducible apply Ext.drewN | with_reducible refine Ext.setCell ?_ ?_ _ | with_reducible apply Ext.step | with_reducible assumption | with_reducible exact Nat.le_refl _ | (simp; done) | (simp; omega))), (lit_isI w17 #[.int .i64 6, .int .i64 6, .int .i64 6, .int .i64 6, .int .i64 0, .int .i64 6] [6, 6, 6, 6, 0, 6] 6 _ (by simp) rfl rfl (by decide))⟩ ?_
  rintro w18 ⟨x, i0⟩
  replace F12 := Lib.hid (F12.out.ext x)
  replace HX := Lib.hid (HX.out.trans x)
  have F16 := Lib.hid i0
  clear x i0
  refine (same_true F12.out F16.out).mono ?_
  rintro e w19 ⟨rfl, x⟩
  clear F12
  clear F16
  replace HX := Lib.hid (HX.out.trans x)
  clear x
  go_wp2_with (go_at_call 58; refine (l_any _ _).mono ?_; rintro e w' ⟨rfl, rfl⟩)
  refine lay_calls (fun W => Ext w19 W ∧ IsI W (.slice (some ⟨w19.heap.size, 0, none⟩) 6 6) [0, 5, 5, 5, 0, 0]) ⟨by (repeat' (first | with_reducible exact Ext.refl _ | with_reducible apply Ext.alloc | with_reducible apply Ext.drew | with_reducible apply Ext.drewN | with_reducible refine Ext.setCell ?_ ?_ _ | with_reducible apply Ext.step | with_reducible assumption | with_reducible exact Nat.le_refl _ | (simp; done) | (simp; omega))), (lit_isI w19 #[.int .i64 0, .int .i64 5, .int .i64 5, .int .i64 5, .int .i64 0, .int .i64 0] [0, 5, 5, 5, 0, 0] 6 _ (by simp) rfl rfl (by decide))⟩ ?_
  rintro w20 ⟨x, i0⟩
  replace HX := Lib.hid (HX.out.trans x)
  have F17 := Lib.hid i0
  clear x i0
  refine (flat_any w20).mono ?_
  rintro e w21 ⟨v21, rfl, o, x⟩
  replace F17 := Lib.hid (F17.out.ext x)
  replace HX := Lib.hid (HX.out.trans x)
  have F18 := Lib.hid o
  clear x o
  go_wp2_with fail
  refine (Grind_val (zs := [0, 5, 5, 5, 0, 0]) (by decide +kernel) (by decide +kernel) F17.out F18.out).mono ?_
  rintro e w22 ⟨v22, rfl, o, x⟩
  clear F17
  clear F18
  replace HX := Lib.hid (HX.out.trans x)
  have F19 := Lib.hid o.isI
  clear x o
  go_wp2_with (go_at_call 58; refine (l_any _ _).mono ?_; rintro e w' ⟨rfl, rfl⟩)
  refine lay_calls (fun W => Ext w22 W ∧ IsI W (.slice (some ⟨w22.heap.size, 0, none⟩) 6 6) [0, 5, 5, 0, 0, 0]) ⟨by (repeat' (first | with_reducible exact Ext.refl _ | with_reducible apply Ext.alloc | with_reducible apply Ext.drew | with_reducible apply Ext.drewN | with_reducible refine Ext.setCell ?_ ?_ _ | with_reducible apply Ext.step | with_reducible assumption | with_reducible exact Nat.le_refl _ | (simp; done) | (simp; omega))), (lit_isI w22 #[.int .i64 0, .int .i64 5, .int .i64 5, .int .i64 0, .int .i64 0, .int .i64 0] [0, 5, 5, 0, 0, 0] 6 _ (by simp) rfl rfl (by decide))⟩ ?_
  rintro w23 ⟨x, i0⟩
  replace F19 := Lib.hid (F19.out.ext x)
  replace HX := Lib.hid (HX.out.trans x)
  have F20 := Lib.hid i0
  clear x i0
  refine (flat_any w23).mono ?_
  rintro e w24 ⟨v24, rfl, o, x⟩
  replace F19 := Lib.hid (F19.out.ext x)
  replace F20 := Lib.hid (F20.out.ext x)
  replace HX := Lib.hid (HX.out.trans x)
  have F21 := Lib.hid o
  clear x o
  go_wp2_with fail
  refine (Grind_val (zs := [0, 0, 0, 0, 0, 0]) (by decide +kernel) (by decide +kernel) F20.out F21.out).mono ?_
  rintro e w25 ⟨v25, rfl, o, x⟩
  clear F20
  clear F21
  replace F19 := Lib.hid (F19.out.ext x)
  replace HX := Lib.hid (HX.out.trans x)
  have F22 := Lib.hid o.isI
  clear x o
  go_wp2_with (go_at_call 58; refine (l_any _ _).mono ?_; rintro e w' ⟨rfl, rfl⟩)
  refine lay_calls (fun W => Ext w25 W ∧ IsI W (.slice (some ⟨w25.heap.size, 0, none⟩) 6 6) [0, 5, 5, 0, 0, 0]) ⟨by (repeat' (first | with_reducible exact Ext.refl _ | with_reducible apply Ext.alloc | with_reducible apply Ext.drew | with_reducible apply Ext.drewN | with_reducible refine Ext.setCell ?_ ?_ _ | with_reducible apply Ext.step | with_reducible assumption | with_reducible exact Nat.le_refl _ | (simp; done) | (simp; omega))), (lit_isI w25 #[.int .i64 0, .int .i64 5, .int .i64 5, .int .i64 0, .int .i64 0, .int .i64 0] [0, 5, 5, 0, 0, 0] 6 _ (by simp) rfl rfl (by decide))⟩ ?_
  rintro w26 ⟨x, i0⟩
  replace F19 := Lib.hid (F19.out.ext x)
  replace F22 := Lib.hid (F22.out.ext x)
  replace HX := Lib.hid (HX.out.trans x)
  have F23 := Lib.hid i0
  clear x i0
  refine (flat_any w26).mono ?_
  rintro e w27 ⟨v27, rfl, o, x⟩
  replace F19 := Lib.hid (F19.out.ext x)
  replace F22 := Lib.hid (F22.out.ext x)
  replace F23 := Lib.hid (F23.out.ext x)
  replace HX := Lib.hid (HX.out.trans x)
  have F24 := Lib.hid o
  clear x o
  go_wp2_with fail
  refine (Find_val (zs := []) (er := 6) (by decide +kernel) (by decide +kernel) F23.out F24.out).mono ?_
  rintro e w28 ⟨v28, rfl, o, x⟩
  clear F23
  clear F24
  replace F19 := Lib.hid (F19.out.ext x)
  replace F22 := Lib.hid (F22.out.ext x)
  replace HX := Lib.hid (HX.out.trans x)
  have F25 := Lib.hid o.isI
  clear x o
  go_wp2_with (go_at_call 58; refine (l_any _ _).mono ?_; rintro e w' ⟨rfl, rfl⟩)
  refine lay_calls (fun W => Ext w28 W ∧ IsI W (.slice (some ⟨w28.heap.size, 0, none⟩) 6 6) [1, 1, 1, 0, 0, 0]) ⟨by (repeat' (first | with_reducible exact Ext.refl _ | with_reducible apply Ext.alloc | with_reducible apply Ext.drew | with_reducible apply Ext.drewN | with_reducible refine Ext.setCell ?_ ?_ _ | with_reducible apply Ext.step | with_reducible assumption | with_reducible exact Nat.le_refl _ | (simp; done) | (simp; omega))), (lit_isI w28 #[.int .i64 1, .int .i64 1, .int .i64 1, .int .i64 0, .int .i64 0, .int .i64 0] [1, 1, 1, 0, 0, 0] 6 _ (by simp) rfl rfl (by decide))⟩ ?_
  rintro w29 ⟨x, i0⟩
  replace F19 := Lib.hid (F19.out.ext x)
  replace F22 := Lib.hid (F22.out.ext x)
  replace F25 := Lib.hid (F25.out.ext x)
  replace HX := Lib.hid (HX.out.trans x)
  have F26 := Lib.hid i0
  clear x i0
  refine (flat_any w29).mono ?_
  rintro e w30 ⟨v30, rfl, o, x⟩
  replace F19 := Lib.hid (F19.out.ext x)
  replace F22 := Lib.hid (F22.out.ext x)
  replace F25 := Lib.hid (F25.out.ext x)
  replace F26 := Lib.hid (F26.out.ext x)
  replace HX := Lib.hid (HX.out.trans x)
  have F27 := Lib.hid o
  clear x o
  go_wp2_with fail
  refine (Count_val (n := 1) (er := 0) (by decide +kernel) (by decide +kernel) F26.out F27.out).mono ?_
  rintro e w31 ⟨rfl, x⟩
  clear F26
  clear F27
  replace F19 := Lib.hid (F19.out.ext x)
  replace F22 := Lib.hid (F22.out.ext x)
  replace F25 := Lib.hid (F25.out.ext x)
  replace HX := Lib.hid (HX.out.trans x)
  clear x
  go_wp2_with (go_at_call 58; refine (l_any _ _).mono ?_; rintro e w' ⟨rfl, rfl⟩)
  refine lay_calls (fun W => Ext w31 W ∧ IsI W (.slice (some ⟨w31.heap.size, 0, none⟩) 6 6) [0, 5, 5, 0, 0, 0]) ⟨by (repeat' (first | with_reducible exact Ext.refl _ | with_reducible apply Ext.alloc | with_reducible apply Ext.drew | with_reducible apply Ext.drewN | with_reducible refine Ext.setCell ?_ ?_ _ | with_reducible apply Ext.step | with_reducible assumption | with_reducible exact Nat.le_refl _ | (simp; done) | (simp; omega))), (lit_isI w31 #[.int .i64 0, .int .i64 5, .int .i64 5, .int .i64 0, .int .i64 0, .int .i64 0] [0, 5, 5, 0, 0, 0] 6 _ (by simp) rfl rfl (by decide))⟩ ?_
  rintro w32 ⟨x, i0⟩
  replace F19 := Lib.hid (F19.out.ext x)
  replace F22 := Lib.hid (F22.out.ext x)
  replace F25 := Lib.hid (F25.out.ext x)
  replace HX := Lib.hid (HX.out.trans x)
  have F28 := Lib.hid i0
  clear x i0
  refine (flat_any w32).mono ?_
  rintro e w33 ⟨v33, rfl, o, x⟩
  replace F19 := Lib.hid (F19.out.ext x)
  replace F22 := Lib.hid (F22.out.ext x)
  replace F25 := Lib.hid (F25.out.ext x)
  replace F28 := Lib.hid (F28.out.ext x)
  replace HX := Lib.hid (HX.out.trans x)
  have F29 := Lib.hid o
  clear x o
  go_wp2_with fail
  refine (Count_val (n := 0) (er := 0) (by decide +kernel) (by decide +kernel) F28.out F29.out).mono ?_
  rintro e w34 ⟨rfl, x⟩
  clear F28
  clear F29
  replace F19 := Lib.hid (F19.out.ext x)
  replace F22 := Lib.hid (F22.out.ext x)
  replace F25 := Lib.hid (F25.out.ext x)
  replace HX := Lib.hid (HX.out.trans x)
  clear x
  go_wp2_with (go_at_call 58; refine (l_any _ _).mono ?_; rintro e w' ⟨rfl, rfl⟩)
  refine lay_calls (fun W => Ext w34 W ∧ IsI W (.slice (some ⟨w34.heap.size, 0, none⟩) 6 6) [0, 5, 5, 5, 0, 0]) ⟨by (repeat' (first | with_reducible exact Ext.refl _ | with_reducible apply Ext.alloc | with_reducible apply Ext.drew | with_reducible apply Ext.drewN | with_reducible refine Ext.setCell ?_ ?_ _ | with_reducible apply Ext.step | with_reducible assumption | with_reducible exact Nat.le_refl _ | (simp; done) | (simp; omega))), (lit_isI w34 #[.int .i64 0, .int .i64 5, .int .i64 5, .int .i64 5, .int .i64 0, .int .i64 0] [0, 5, 5, 5, 0, 0] 6 _ (by simp) rfl rfl (by decide))⟩ ?_
  rintro w35 ⟨x, i0⟩
  replace F19 := Lib.hid (F19.out.ext x)
  replace F22 := Lib.hid (F22.out.ext x)
  replace F25 := Lib.hid (F25.out.ext x)
  replace HX := Lib.hid (HX.out.trans x)
  have F30 := Lib.hid i0
  clear x i0
  refine (same_true F19.out F30.out).mono ?_
  rintro e w36 ⟨rfl, x⟩
  clear F19
  clear F30
  replace F22 := Lib.hid (F22.out.ext x)
  replace F25 := Lib.hid (F25.out.ext x)
  replace HX := Lib.hid (HX.out.trans x)
  clear x
  go_wp2_with (go_at_call 58; refine (l_any _ _).mono ?_; rintro e w' ⟨rfl, rfl⟩)
  refine lay_calls (fun W => Ext w36 W ∧ IsI W (.slice (some ⟨w36.heap.size, 0, none⟩) 6 6) [0, 0, 0, 0, 0, 0]) ⟨by (repeat' (first | with_reducible exact Ext.refl _ | with_reducible apply Ext.alloc | with_reducible apply Ext.drew | with_reducible apply Ext.drewN | with_reducible refine Ext.setCell ?_ ?_ _ | with_reducible apply Ext.step | with_reducible assumption | with_reducible exact Nat.le_refl _ | (simp; done) | (simp; omega))), (lit_isI w36 #[.int .i64 0, .int .i64 0, .int .i64 0, .int .i64 0, .int .i64 0, .int .i64 0] [0, 0, 0, 0, 0, 0] 6 _ (by simp) rfl rfl (by decide))⟩ ?_
  rintro w37 ⟨x, i0⟩
  replace F22 := Lib.hid (F22.out.ext x)
  replace F25 := Lib.hid (F25.out.ext x)
  replace HX := Lib.hid (HX.out.trans x)
  have F31 := Lib.hid i0
  clear x i0
  refine (same_true F22.out F31.out).mono ?_
  rintro e w38 ⟨rfl, x⟩
  clear F22
  clear F31
  replace F25 := Lib.hid (F25.out.ext x)
  replace HX := Lib.hid (HX.out.trans x)
  clear x
  go_wp2_with (go_at_call 58; refine (l_any _ _).mono ?_; rintro e w' ⟨rfl, rfl⟩)
  refine lay_calls (fun W => Ext w38 W ∧ IsI W (.slice (some ⟨w38.heap.size, 0, none⟩) 6 6) [6, 0, 6, 0, 0, 0]) ⟨by (repeat' (first | with_reducible exact Ext.refl _ | with_reducible apply Ext.alloc | with_reducible apply Ext.drew | with_reducible apply Ext.drewN | with_reducible refine Ext.setCell ?_ ?_ _ | with_reducible apply Ext.step | with_reducible assumption | with_reducible exact Nat.le_refl _ | (simp; done) | (simp; omega))), (lit_isI w38 #[.int .i64 6, .int .i64 0, .int .i64 6, .int .i64 0, .int .i64 0, .int .i64 0] [6, 0, 6, 0, 0, 0] 6 _ (by simp) rfl rfl (by decide))⟩ ?_
  rintro w39 ⟨x, i0⟩
  replace F25 := Lib.hid (F25.out.ext x)
  replace HX := Lib.hid (HX.out.trans x)
  have F32 := Lib.hid i0
  clear x i0
  refine (flat_any w39).mono ?_
  rintro e w40 ⟨v40, rfl, o, x⟩
  replace F25 := Lib.hid (F25.out.ext x)
  replace F32 := Lib.hid (F32.out.ext x)
  replace HX := Lib.hid (HX.out.trans x)
  have F33 := Lib.hid o
  clear x o
  go_wp2_with fail
  refine (Contacts_val (p := 1) (er := 0) (zs := [0, 2]) (by decide +kernel) (by decide +kernel) F32.out F33.out).mono ?_
  rintro e w41 ⟨v41, rfl, o, x⟩
  clear F32
  clear F33
  replace F25 := Lib.hid (F25.out.ext x)
  replace HX := Lib.hid (HX.out.trans x)
  have F34 := Lib.hid o.isI
  clear x o
  go_wp2_with (go_at_call 58; refine (l_any _ _).mono ?_; rintro e w' ⟨rfl, rfl⟩)
  refine lay_calls (fun W => Ext w41 W ∧ IsI W (.slice (some ⟨w41.heap.size, 0, none⟩) 6 6) [6, 0, 6, 0, 0, 0]) ⟨by (repeat' (first | with_reducible exact Ext.refl _ | with_reducible apply Ext.alloc | with_reducible apply Ext.drew | with_reducible apply Ext.drewN | with_reducible refine Ext.setCell ?_ ?_ _ | with_reducible apply Ext.step | with_reducible assumption | with_reducible exact Nat.le_refl _ | (simp; done) | (simp; omega))), (lit_isI w41 #[.int .i64 6, .int .i64 0, .int .i64 6, .int .i64 0, .int .i64 0, .int .i64 0] [6, 0, 6, 0, 0, 0] 6 _ (by simp) rfl rfl (by decide))⟩ ?_
  rintro w42 ⟨x, i0⟩
  replace F25 := Lib.hid (F25.out.ext x)
  replace F34 := Lib.hid (F34.out.ext x)
  replace HX := Lib.hid (HX.out.trans x)
  have F35 := Lib.hid i0
  clear x i0
  refine (flat_any w42).mono ?_
  rintro e w43 ⟨v43, rfl, o, x⟩
  replace F25 := Lib.hid (F25.out.ext x)
  replace F34 := Lib.hid (F34.out.ext x)
  replace F35 := Lib.hid (F35.out.ext x)
  replace HX := Lib.hid (HX.out.trans x)
  have F36 := Lib.hid o
  clear x o
  go_wp2_with fail
  refine (Contacts_val (p := 4) (er := 0) (zs := [3, 4, 5]) (by decide +kernel) (by decide +kernel) F35.out F36.out).mono ?_
  rintro e w44 ⟨v44, rfl, o, x⟩
  clear F35
  clear F36
  replace F25 := Lib.hid (F25.out.ext x)
  replace F34 := Lib.hid (F34.out.ext x)
  replace HX := Lib.hid (HX.out.trans x)
  have F37 := Lib.hid o.isI
  clear x o
  go_wp2_with (go_at_call 58; refine (l_any _ _).mono ?_; rintro e w' ⟨rfl, rfl⟩)
  refine lay_calls (fun W => Ext w44 W ∧ IsI W (.slice (some ⟨w44.heap.size, 0, none⟩) 6 6) [6, 6, 2, 6, 6, 6]) ⟨by (repeat' (first | with_reducible exact Ext.refl _ | with_reducible apply Ext.alloc | with_reducible apply Ext.drew | with_reducible apply Ext.drewN | with_reducible refine Ext.setCell ?_ ?_ _ | with_reducible apply Ext.step | with_reducible assumption | with_reducible exact Nat.le_refl _ | (simp; done) | (simp; omega))), (lit_isI w44 #[.int .i64 6, .int .i64 6, .int .i64 2, .int .i64 6, .int .i64 6, .int .i64 6] [6, 6, 2, 6, 6, 6] 6 _ (by simp) rfl rfl (by decide))⟩ ?_
  rintro w45 ⟨x, i0⟩
  replace F25 := Lib.hid (F25.out.ext x)
  replace F34 := Lib.hid (F34.out.ext x)
  replace F37 := Lib.hid (F37.out.ext x)
  replace HX := Lib.hid (HX.out.trans x)
  have F38 := Lib.hid i0
  clear x i0
  refine (flat_any w45).mono ?_
  rintro e w46 ⟨v46, rfl, o, x⟩
  replace F25 := Lib.hid (F25.out.ext x)
  replace F34 := Lib.hid (F34.out.ext x)
  replace F37 := Lib.hid (F37.out.ext x)
  replace F38 := Lib.hid (F38.out.ext x)
  replace HX := Lib.hid (HX.out.trans x)
  have F39 := Lib.hid o
  clear x o
  go_wp2_with fail
  refine (Needed_val (zs := []) (by decide +kernel) (by decide +kernel) F38.out F39.out).mono ?_
  rintro e w47 ⟨v47, rfl, o, x⟩
  clear F38
  clear F39
  obtain ⟨A47, n47, c47, hv47, _, hr47, _⟩ := o.isI.open_
  obtain rfl : n47 = 0 := by have := hr47.len; simpa using this.symm
  subst hv47
  clear hr47
  replace F25 := Lib.hid (F25.out.ext x)
  replace F34 := Lib.hid (F34.out.ext x)
  replace F37 := Lib.hid (F37.out.ext x)
  replace HX := Lib.hid (HX.out.trans x)
  have F40 := Lib.hid o.isI
  clear x o
  go_wp2_with (go_at_call 58; refine (l_any _ _).mono ?_; rintro e w' ⟨rfl, rfl⟩)
  refine lay_calls (fun W => Ext w47 W ∧ IsI W (.slice (some ⟨w47.heap.size, 0, none⟩) 3 3) [1, 0, 1] ∧ IsI W (.slice (some ⟨w47.heap.size + 1, 0, none⟩) 3 3) [2, 0, 2]) ⟨by (repeat' (first | with_reducible exact Ext.refl _ | with_reducible apply Ext.alloc | with_reducible apply Ext.drew | with_reducible apply Ext.drewN | with_reducible refine Ext.setCell ?_ ?_ _ | with_reducible apply Ext.step | with_reducible assumption | with_reducible exact Nat.le_refl _ | (simp; done) | (simp; omega))), ((lit_isI w47 #[.int .i64 1, .int .i64 0, .int .i64 1] [1, 0, 1] 3 _ (by simp) rfl rfl (by decide)).ext ((Ext.refl _).alloc _)), (lit_isI (w47.alloc (.cells #[.int .i64 1, .int .i64 0, .int .i64 1] 3)) #[.int .i64 2, .int .i64 0, .int .i64 2] [2, 0, 2] 3 _ (by simp) rfl rfl (by decide))⟩ ?_
  rintro w48 ⟨x, i0, i1⟩
  replace F25 := Lib.hid (F25.out.ext x)
  replace F34 := Lib.hid (F34.out.ext x)
  replace F37 := Lib.hid (F37.out.ext x)
  replace F40 := Lib.hid (F40.out.ext x)
  replace HX := Lib.hid (HX.out.trans x)
  have F41 := Lib.hid i0
  have F42 := Lib.hid i1
  clear x i0 i1
  refine (Both_val (er := 0) (zs := [3, 1, 0, 1, 3]) (by decide +kernel) (by decide +kernel) F41.out F42.out).mono ?_
  rintro e w49 ⟨v49, rfl, o, x⟩
  clear F41
  clear F42
  replace F25 := Lib.hid (F25.out.ext x)
  replace F34 := Lib.hid (F34.out.ext x)
  replace F37 := Lib.hid (F37.out.ext x)
  replace F40 := Lib.hid (F40.out.ext x)
  replace HX := Lib.hid (HX.out.trans x)
  have F43 := Lib.hid o.isI
  clear x o
  go_wp2_with (go_at_call 58; refine (l_any _ _).mono ?_; rintro e w' ⟨rfl, rfl⟩)
  refine lay_calls (fun W => Ext w49 W ∧ IsI W (.slice (some ⟨w49.heap.size, 0, none⟩) 6 6) [0, 5, 0, 0, 0, 0]) ⟨by (repeat' (first | with_reducible exact Ext.refl _ | with_reducible apply Ext.alloc | with_reducible apply Ext.drew | with_reducible apply Ext.drewN | with_reducible refine Ext.setCell ?_ ?_ _ | with_reducible apply Ext.step | with_reducible assumption | with_reducible exact Nat.le_refl _ | (simp; done) | (simp; omega))), (lit_isI w49 #[.int .i64 0, .int .i64 5, .int .i64 0, .int .i64 0, .int .i64 0, .int .i64 0] [0, 5, 0, 0, 0, 0] 6 _ (by simp) rfl rfl (by decide))⟩ ?_
  rintro w50 ⟨x, i0⟩
  replace F25 := Lib.hid (F25.out.ext x)
  replace F34 := Lib.hid (F34.out.ext x)
  replace F37 := Lib.hid (F37.out.ext x)
  replace F40 := Lib.hid (F40.out.ext x)
  replace F43 := Lib.hid (F43.out.ext x)
  replace HX := Lib.hid (HX.out.trans x)
  have F44 := Lib.hid i0
  clear x i0
  refine (flat_any w50).mono ?_
  rintro e w51 ⟨v51, rfl, o, x⟩
  replace F25 := Lib.hid (F25.out.ext x)
  replace F34 := Lib.hid (F34.out.ext x)
  replace F37 := Lib.hid (F37.out.ext x)
  replace F40 := Lib.hid (F40.out.ext x)
  replace F43 := Lib.hid (F43.out.ext x)
  replace F44 := Lib.hid (F44.out.ext x)
  replace HX := Lib.hid (HX.out.trans x)
  have F45 := Lib.hid o
  clear x o
  go_wp2_with fail
  refine (Needed_val (zs := [1]) (by decide +kernel) (by decide +kernel) F44.out F45.out).mono ?_
  rintro e w52 ⟨v52, rfl, o, x⟩
  clear F44
  clear F45
  replace F25 := Lib.hid (F25.out.ext x)
  replace F34 := Lib.hid (F34.out.ext x)
  replace F37 := Lib.hid (F37.out.ext x)
  replace F40 := Lib.hid (F40.out.ext x)
  replace F43 := Lib.hid (F43.out.ext x)
  replace HX := Lib.hid (HX.out.trans x)
  have F46 := Lib.hid o.isI
  clear x o
  go_wp2_with (go_at_call 58; refine (l_any _ _).mono ?_; rintro e w' ⟨rfl, rfl⟩)
  refine lay_calls (fun W => Ext w52 W ∧ IsI W (.slice (some ⟨w52.heap.size, 0, none⟩) 2 2) [0, 2]) ⟨by (repeat' (first | with_reducible exact Ext.refl _ | with_reducible apply Ext.alloc | with_reducible apply Ext.drew | with_reducible apply Ext.drewN | with_reducible refine Ext.setCell ?_ ?_ _ | with_reducible apply Ext.step | with_reducible assumption | with_reducible exact Nat.le_refl _ | (simp; done) | (simp; omega))), (lit_isI w52 #[.int .i64 0, .int .i64 2] [0, 2] 2 _ (by simp) rfl rfl (by decide))⟩ ?_
  rintro w53 ⟨x, i0⟩
  replace F25 := Lib.hid (F25.out.ext x)
  replace F34 := Lib.hid (F34.out.ext x)
  replace F37 := Lib.hid (F37.out.ext x)
  replace F40 := Lib.hid (F40.out.ext x)
  replace F43 := Lib.hid (F43.out.ext x)
  replace F46 := Lib.hid (F46.out.ext x)
  replace HX := Lib.hid (HX.out.trans x)
  have F47 := Lib.hid i0
  clear x i0
  refine (same_true F34.out F47.out).mono ?_
  rintro e w54 ⟨rfl, x⟩
  clear F34
  clear F47
  replace F25 := Lib.hid (F25.out.ext x)
  replace F37 := Lib.hid (F37.out.ext x)
  replace F40 := Lib.hid (F40.out.ext x)
  replace F43 := Lib.hid (F43.out.ext x)
  replace F46 := Lib.hid (F46.out.ext x)
  replace HX := Lib.hid (HX.out.trans x)
  clear x
  go_wp2_with (go_at_call 58; refine (l_any _ _).mono ?_; rintro e w' ⟨rfl, rfl⟩)
  refine lay_calls (fun W => Ext w54 W ∧ IsI W (.slice (some ⟨w54.heap.size, 0, none⟩) 3 3) [3, 4, 5]) ⟨by (repeat' (first | with_reducible exact Ext.refl _ | with_reducible apply Ext.alloc | with_reducible apply Ext.drew | with_reducible apply Ext.drewN | with_reducible refine Ext.setCell ?_ ?_ _ | with_reducible apply Ext.step | with_reducible assumption | with_reducible exact Nat.le_refl _ | (simp; done) | (simp; omega))), (lit_isI w54 #[.int .i64 3, .int .i64 4, .int .i64 5] [3, 4, 5] 3 _ (by simp) rfl rfl (by decide))⟩ ?_
  rintro w55 ⟨x, i0⟩
  replace F25 := Lib.hid (F25.out.ext x)
  replace F37 := Lib.hid (F37.out.ext x)
  replace F40 := Lib.hid (F40.out.ext x)
  replace F43 := Lib.hid (F43.out.ext x)
  replace F46 := Lib.hid (F46.out.ext x)
  replace HX := Lib.hid (HX.out.trans x)
  have F48 := Lib.hid i0
  clear x i0
  refine (same_true F37.out F48.out).mono ?_
  rintro e w56 ⟨rfl, x⟩
  clear F37
  clear F48
  replace F25 := Lib.hid (F25.out.ext x)
  replace F40 := Lib.hid (F40.out.ext x)
  replace F43 := Lib.hid (F43.out.ext x)
  replace F46 := Lib.hid (F46.out.ext x)
  replace HX := Lib.hid (HX.out.trans x)
  clear x
  go_wp2_with (go_at_call 58; refine (l_any _ _).mono ?_; rintro e w' ⟨rfl, rfl⟩)
  refine lay_calls (fun W => Ext w56 W ∧ IsI W (.slice (some ⟨w56.heap.size, 0, none⟩) 5 5) [3, 1, 0, 1, 3]) ⟨by (repeat' (first | with_reducible exact Ext.refl _ | with_reducible apply Ext.alloc | with_reducible apply Ext.drew | with_reducible apply Ext.drewN | with_reducible refine Ext.setCell ?_ ?_ _ | with_reducible apply Ext.step | with_reducible assumption | with_reducible exact Nat.le_refl _ | (simp; done) | (simp; omega))), (lit_isI w56 #[.int .i64 3, .int .i64 1, .int .i64 0, .int .i64 1, .int .i64 3] [3, 1, 0, 1, 3] 5 _ (by simp) rfl rfl (by decide))⟩ ?_
  rintro w57 ⟨x, i0⟩
  replace F25 := Lib.hid (F25.out.ext x)
  replace F40 := Lib.hid (F40.out.ext x)
  replace F43 := Lib.hid (F43.out.ext x)
  replace F46 := Lib.hid (F46.out.ext x)
  replace HX := Lib.hid (HX.out.trans x)
  have F49 := Lib.hid i0
  clear x i0
  refine (same_true F43.out F49.out).mono ?_
  rintro e w58 ⟨rfl, x⟩
  clear F43
  clear F49
  replace F25 := Lib.hid (F25.out.ext x)
  replace F40 := Lib.hid (F40.out.ext x)
  replace F46 := Lib.hid (F46.out.ext x)
  replace HX := Lib.hid (HX.out.trans x)
  clear x
  go_wp2_with (go_at_call 58; refine (l_any _ _).mono ?_; rintro e w' ⟨rfl, rfl⟩)
  refine lay_calls (fun W => Ext w58 W ∧ IsI W (.slice (some ⟨w58.heap.size, 0, none⟩) 1 1) [1]) ⟨by (repeat' (first | with_reducible exact Ext.refl _ | with_reducible apply Ext.alloc | with_reducible apply Ext.drew | with_reducible apply Ext.drewN | with_reducible refine Ext.setCell ?_ ?_ _ | with_reducible apply Ext.step | with_reducible assumption | with_reducible exact Nat.le_refl _ | (simp; done) | (simp; omega))), (lit_isI w58 #[.int .i64 1] [1] 1 _ (by simp) rfl rfl (by decide))⟩ ?_
  rintro w59 ⟨x, i0⟩
  replace F25 := Lib.hid (F25.out.ext x)
  replace F40 := Lib.hid (F40.out.ext x)
  replace F46 := Lib.hid (F46.out.ext x)
  replace HX := Lib.hid (HX.out.trans x)
  have F50 := Lib.hid i0
  clear x i0
  refine (same_true F46.out F50.out).mono ?_
  rintro e w60 ⟨rfl, x⟩
  clear F46
  clear F50
  replace F25 := Lib.hid (F25.out.ext x)
  replace F40 := Lib.hid (F40.out.ext x)
  replace HX := Lib.hid (HX.out.trans x)
  clear x
  go_wp2_with (go_at_call 58; refine (l_any _ _).mono ?_; rintro e w' ⟨rfl, rfl⟩)
  refine lay_calls (fun W => Ext w60 W ∧ IsI W (.slice (some ⟨w60.heap.size, 0, none⟩) 6 6) [1, 0, 1, 0, 1, 0]) ⟨by (repeat' (first | with_reducible exact Ext.refl _ | with_reducible apply Ext.alloc | with_reducible apply Ext.drew | with_reducible apply Ext.drewN | with_reducible refine Ext.setCell ?_ ?_ _ | with_reducible apply Ext.step | with_reducible assumption | with_reducible exact Nat.le_refl _ | (simp; done) | (simp; omega))), (lit_isI w60 #[.int .i64 1, .int .i64 0, .int .i64 1, .int .i64 0, .int .i64 1, .int .i64 0] [1, 0, 1, 0, 1, 0] 6 _ (by simp) rfl rfl (by decide))⟩ ?_
  rintro w61 ⟨x, i0⟩
  replace F25 := Lib.hid (F25.out.ext x)
  replace F40 := Lib.hid (F40.out.ext x)
  replace HX := Lib.hid (HX.out.trans x)
  have F51 := Lib.hid i0
  clear x i0
  refine (Period_val (n := 2) (er := 0) (by decide +kernel) (by decide +kernel) F51.out).mono ?_
  rintro e w62 ⟨rfl, x⟩
  clear F51
  replace F25 := Lib.hid (F25.out.ext x)
  replace F40 := Lib.hid (F40.out.ext x)
  replace HX := Lib.hid (HX.out.trans x)
  clear x
  go_wp2_with (go_at_call 58; refine (l_any _ _).mono ?_; rintro e w' ⟨rfl, rfl⟩)
  refine lay_calls (fun W => Ext w62 W ∧ IsI W (.slice (some ⟨w62.heap.size, 0, none⟩) 3 3) [1, 2, 3]) ⟨by (repeat' (first | with_reducible exact Ext.refl _ | with_reducible apply Ext.alloc | with_reducible apply Ext.drew | with_reducible apply Ext.drewN | with_reducible refine Ext.setCell ?_ ?_ _ | with_reducible apply Ext.step | with_reducible assumption | with_reducible exact Nat.le_refl _ | (simp; done) | (simp; omega))), (lit_isI w62 #[.int .i64 1, .int .i64 2, .int .i64 3] [1, 2, 3] 3 _ (by simp) rfl rfl (by decide))⟩ ?_
  rintro w63 ⟨x, i0⟩
  replace F25 := Lib.hid (F25.out.ext x)
  replace F40 := Lib.hid (F40.out.ext x)
  replace HX := Lib.hid (HX.out.trans x)
  have F52 := Lib.hid i0
  clear x i0
  refine (Period_val (n := 3) (er := 0) (by decide +kernel) (by decide +kernel) F52.out).mono ?_
  rintro e w64 ⟨rfl, x⟩
  clear F52
  replace F25 := Lib.hid (F25.out.ext x)
  replace F40 := Lib.hid (F40.out.ext x)
  replace HX := Lib.hid (HX.out.trans x)
  clear x
  go_wp2_with (go_at_call 58; refine (l_any _ _).mono ?_; rintro e w' ⟨rfl, rfl⟩)
  refine lay_calls (fun W => Ext w64 W ∧ IsI W (.slice (some ⟨w64.heap.size, 0, none⟩) 3 3) [1, 2, 3]) ⟨by (repeat' (first | with_reducible exact Ext.refl _ | with_reducible apply Ext.alloc | with_reducible apply Ext.drew | with_reducible apply Ext.drewN | with_reducible refine Ext.setCell ?_ ?_ _ | with_reducible apply Ext.step | with_reducible assumption | with_reducible exact Nat.le_refl _ | (simp; done) | (simp; omega))), (lit_isI w64 #[.int .i64 1, .int .i64 2, .int .i64 3] [1, 2, 3] 3 _ (by simp) rfl rfl (by decide))⟩ ?_
  rintro w65 ⟨x, i0⟩
  replace F25 := Lib.hid (F25.out.ext x)
  replace F40 := Lib.hid (F40.out.ext x)
  replace HX := Lib.hid (HX.out.trans x)
  have F53 := Lib.hid i0
  clear x i0
  refine (Axes_val (er := 0) (zs := []) (by decide +kernel) (by decide +kernel) F53.out).mono ?_
  rintro e w66 ⟨v66, rfl, o, x⟩
  clear F53
  obtain ⟨A66, n66, c66, hv66, _, hr66, _⟩ := o.isI.open_
  obtain rfl : n66 = 0 := by have := hr66.len; simpa using this.symm
  subst hv66
  clear hr66
  replace F25 := Lib.hid (F25.out.ext x)
  replace F40 := Lib.hid (F40.out.ext x)
  replace HX := Lib.hid (HX.out.trans x)
  have F54 := Lib.hid o.isI
  clear x o
  go_wp2_with (go_at_call 58; refine (l_any _ _).mono ?_; rintro e w' ⟨rfl, rfl⟩)
  refine lay_calls (fun W => Ext w66 W ∧ IsI W (.slice (some ⟨w66.heap.size, 0, none⟩) 4 4) [1, 2, 3, 4]) ⟨by (repeat' (first | with_reducible exact Ext.refl _ | with_reducible apply Ext.alloc | with_reducible apply Ext.drew | with_reducible apply Ext.drewN | with_reducible refine Ext.setCell ?_ ?_ _ | with_reducible apply Ext.step | with_reducible assumption | with_reducible exact Nat.le_refl _ | (simp; done) | (simp; omega))), (lit_isI w66 #[.int .i64 1, .int .i64 2, .int .i64 3, .int .i64 4] [1, 2, 3, 4] 4 _ (by simp) rfl rfl (by decide))⟩ ?_
  rintro w67 ⟨x, i0⟩
  replace F25 := Lib.hid (F25.out.ext x)
  replace F40 := Lib.hid (F40.out.ext x)
  replace F54 := Lib.hid (F54.out.ext x)
  replace HX := Lib.hid (HX.out.trans x)
  have F55 := Lib.hid i0
  clear x i0
  refine (Turned_val (x := 1) (er := 0) (zs := [4, 1, 2, 3]) (by decide +kernel) (by decide +kernel) F55.out).mono ?_
  rintro e w68 ⟨v68, rfl, o, x⟩
  clear F55
  replace F25 := Lib.hid (F25.out.ext x)
  replace F40 := Lib.hid (F40.out.ext x)
  replace F54 := Lib.hid (F54.out.ext x)
  replace HX := Lib.hid (HX.out.trans x)
  have F56 := Lib.hid o.isI
  clear x o
  go_wp2_with (go_at_call 58; refine (l_any _ _).mono ?_; rintro e w' ⟨rfl, rfl⟩)
  refine lay_calls (fun W => Ext w68 W ∧ IsI W (.slice (some ⟨w68.heap.size, 0, none⟩) 4 4) [1, 2, 3, 4] ∧ IsI W (.slice (some ⟨w68.heap.size + 1, 0, none⟩) 4 4) [4, 1, 2, 3]) ⟨by (repeat' (first | with_reducible exact Ext.refl _ | with_reducible apply Ext.alloc | with_reducible apply Ext.drew | with_reducible apply Ext.drewN | with_reducible refine Ext.setCell ?_ ?_ _ | with_reducible apply Ext.step | with_reducible assumption | with_reducible exact Nat.le_refl _ | (simp; done) | (simp; omega))), ((lit_isI w68 #[.int .i64 1, .int .i64 2, .int .i64 3, .int .i64 4] [1, 2, 3, 4] 4 _ (by simp) rfl rfl (by decide)).ext ((Ext.refl _).alloc _)), (lit_isI (w68.alloc (.cells #[.int .i64 1, .int .i64 2, .int .i64 3, .int .i64 4] 3)) #[.int .i64 4, .int .i64 1, .int .i64 2, .int .i64 3] [4, 1, 2, 3] 4 _ (by simp) rfl rfl (by decide))⟩ ?_
  rintro w69 ⟨x, i0, i1⟩
  replace F25 := Lib.hid (F25.out.ext x)
  replace F40 := Lib.hid (F40.out.ext x)
  replace F54 := Lib.hid (F54.out.ext x)
  replace F56 := Lib.hid (F56.out.ext x)
  replace HX := Lib.hid (HX.out.trans x)
  have F57 := Lib.hid i0
  have F58 := Lib.hid i1
  clear x i0 i1
  refine (Match_val (n := 1) (er := 0) (by decide +kernel) (by decide +kernel) F57.out F58.out).mono ?_
  rintro e w70 ⟨rfl, x⟩
  clear F57
  clear F58
  replace F25 := Lib.hid (F25.out.ext x)
  replace F40 := Lib.hid (F40.out.ext x)
  replace F54 := Lib.hid (F54.out.ext x)
  replace F56 := Lib.hid (F56.out.ext x)
  replace HX := Lib.hid (HX.out.trans x)
  clear x
  go_wp2_with (go_at_call 58; refine (l_any _ _).mono ?_; rintro e w' ⟨rfl, rfl⟩)
  refine lay_calls (fun W => Ext w70 W ∧ IsI W (.slice (some ⟨w70.heap.size, 0, none⟩) 4 4) [4, 1, 2, 3]) ⟨by (repeat' (first | with_reducible exact Ext.refl _ | with_reducible apply Ext.alloc | with_reducible apply Ext.drew | with_reducible apply Ext.drewN | with_reducible refine Ext.setCell ?_ ?_ _ | with_reducible apply Ext.step | with_reducible assumption | with_reducible exact Nat.le_refl _ | (simp; done) | (simp; omega))), (lit_isI w70 #[.int .i64 4, .int .i64 1, .int .i64 2, .int .i64 3] [4, 1, 2, 3] 4 _ (by simp) rfl rfl (by decide))⟩ ?_
  rintro w71 ⟨x, i0⟩
  replace F25 := Lib.hid (F25.out.ext x)
  replace F40 := Lib.hid (F40.out.ext x)
  replace F54 := Lib.hid (F54.out.ext x)
  replace F56 := Lib.hid (F56.out.ext x)
  replace HX := Lib.hid (HX.out.trans x)
  have F59 := Lib.hid i0
  clear x i0
  refine (same_true F56.out F59.out).mono ?_
  rintro e w72 ⟨rfl, x⟩
  clear F56
  clear F59
  replace F25 := Lib.hid (F25.out.ext x)
  replace F40 := Lib.hid (F40.out.ext x)
  replace F54 := Lib.hid (F54.out.ext x)
  replace HX := Lib.hid (HX.out.trans x)
  clear x
  go_wp2_with (go_at_call 58; refine (l_any _ _).mono ?_; rintro e w' ⟨rfl, rfl⟩)
  refine lay_calls (fun W => Ext w72 W ∧ IsI W (.slice (some ⟨w72.heap.size, 0, none⟩) 3 3) [1, 2, 3]) ⟨by (repeat' (first | with_reducible exact Ext.refl _ | with_reducible apply Ext.alloc | with_reducible apply Ext.drew | with_reducible apply Ext.drewN | with_reducible refine Ext.setCell ?_ ?_ _ | with_reducible apply Ext.step | with_reducible assumption | with_reducible exact Nat.le_refl _ | (simp; done) | (simp; omega))), (lit_isI w72 #[.int .i64 1, .int .i64 2, .int .i64 3] [1, 2, 3] 3 _ (by simp) rfl rfl (by decide))⟩ ?_
  rintro w73 ⟨x, i0⟩
  replace F25 := Lib.hid (F25.out.ext x)
  replace F40 := Lib.hid (F40.out.ext x)
  replace F54 := Lib.hid (F54.out.ext x)
  replace HX := Lib.hid (HX.out.trans x)
  have F60 := Lib.hid i0
  clear x i0
  refine (flat_any w73).mono ?_
  rintro e w74 ⟨v74, rfl, o, x⟩
  replace F25 := Lib.hid (F25.out.ext x)
  replace F40 := Lib.hid (F40.out.ext x)
  replace F54 := Lib.hid (F54.out.ext x)
  replace F60 := Lib.hid (F60.out.ext x)
  replace HX := Lib.hid (HX.out.trans x)
  have F61 := Lib.hid o
  clear x o
  go_wp2_with fail
  refine (Contacts_val (p := 3) (er := 2) (zs := []) (by decide +kernel) (by decide +kernel) F60.out F61.out).mono ?_
  rintro e w75 ⟨v75, rfl, o, x⟩
  clear F60
  clear F61
  replace F25 := Lib.hid (F25.out.ext x)
  replace F40 := Lib.hid (F40.out.ext x)
  replace F54 := Lib.hid (F54.out.ext x)
  replace HX := Lib.hid (HX.out.trans x)
  have F62 := Lib.hid o.isI
  clear x o
  go_wp2_with (go_at_call 58; refine (l_any _ _).mono ?_; rintro e w' ⟨rfl, rfl⟩)
  refine lay_calls (fun W => Ext w75 W ∧ IsI W (.slice (some ⟨w75.heap.size, 0, none⟩) 9 9) [1, 1, 1, 1, 1, 1, 1, 1, 1] ∧ IsI W (.slice (some ⟨w75.heap.size + 1, 0, none⟩) 9 9) [0, 0, 0, 0, 0, 0, 0, 0, 0]) ⟨by (repeat' (first | with_reducible exact Ext.refl _ | with_reducible apply Ext.alloc | with_reducible apply Ext.drew | with_reducible apply Ext.drewN | with_reducible refine Ext.setCell ?_ ?_ _ | with_reducible apply Ext.step | with_reducible assumption | with_reducible exact Nat.le_refl _ | (simp; done) | (simp; omega))), ((lit_isI w75 #[.int .i64 1, .int .i64 1, .int .i64 1, .int .i64 1, .int .i64 1, .int .i64 1, .int .i64 1, .int .i64 1, .int .i64 1] [1, 1, 1, 1, 1, 1, 1, 1, 1] 9 _ (by simp) rfl rfl (by decide)).ext ((Ext.refl _).alloc _)), (lit_isI (w75.alloc (.cells #[.int .i64 1, .int .i64 1, .int .i64 1, .int .i64 1, .int .i64 1, .int .i64 1, .int .i64 1, .int .i64 1, .int .i64 1] 3)) #[.int .i64 0, .int .i64 0, .int .i64 0, .int .i64 0, .int .i64 0, .int .i64 0, .int .i64 0, .int .i64 0, .int .i64 0] [0, 0, 0, 0, 0, 0, 0, 0, 0] 9 _ (by simp) rfl rfl (by decide))⟩ ?_
  rintro w76 ⟨x, i0, i1⟩
  replace F25 := Lib.hid (F25.out.ext x)
  replace F40 := Lib.hid (F40.out.ext x)
  replace F54 := Lib.hid (F54.out.ext x)
  replace F62 := Lib.hid (F62.out.ext x)
  replace HX := Lib.hid (HX.out.trans x)
  have F63 := Lib.hid i0
  have F64 := Lib.hid i1
  clear x i0 i1
  refine (Count_val (n := 0) (er := 4) (by decide +kernel) (by decide +kernel) F63.out F64.out).mono ?_
  rintro e w77 ⟨rfl, x⟩
  clear F63
  clear F64
  replace F25 := Lib.hid (F25.out.ext x)
  replace F40 := Lib.hid (F40.out.ext x)
  replace F54 := Lib.hid (F54.out.ext x)
  replace F62 := Lib.hid (F62.out.ext x)
  replace HX := Lib.hid (HX.out.trans x)
  clear x
  have hmk : ∀ w : World, (Instr.makeSlice 22 (.int .i64 17) (.int .i64 17)).run Try.prog w = .ok (.slice (some ⟨w.heap.size, 0, none⟩) 17 17) (w.alloc (.cells (madeCells #[.int .i64 0] 17) 3)) := fun w =>
    run_make_row' (P := Try.prog) 22 3 (.int .i64 0) 8 Try.underlying22 intInfo rfl .i64 .i64 17 (by omega) (by omega) w
  have hzz := Lib.hid fun (W : World) => lit_isI W (madeCells #[.int .i64 0] 17) (List.replicate 17 0) 17 _ rfl (by rw [madeCells_one]; rfl) rfl (by decide)
  go_wp2_with fail
  refine (wpIn_wide (n := 3)).1 ?_
  refine wpIn_region_tree (B := w77.heap.size) 6 [] (Nat.le_refl _) (by kernel_rfl) (by decide +kernel) ?_
  refine wpQ_nil ?_
  change wpAnyT _ _ _ _ _ _ _ _ _ (5 + 1) _ _ _
  refine wpAnyT_step [0, 1] (by decide +kernel) (by decide) (by decide) ?_
  intro i hi
  simp only [List.mem_cons, List.not_mem_nil, or_false] at hi
  rcases hi with rfl | rfl
  all_goals (
    refine ⟨_, by rfl, midT_step (by rfl) (fun _ _ _ => trivial) (fun δ K' hK' => ?_)⟩
    have E1 := Lib.hid (show Ext w77 δ.wd from ⟨δ, rfl⟩)
    go_simp
    refine ⟨((Below.refl _ _).alloc E1.out.bel.size _), hK' _ _ ?_⟩
    clear hK' K'
    have Z1 := Lib.hid (hzz.out δ.wd)
    first
      | refine wpAnyT_step [1] (by decide +kernel) (by decide) (by decide) ?_
      | refine wpAnyT_step [0] (by decide +kernel) (by decide) (by decide) ?_
    intro i hi
    simp only [List.mem_cons, List.not_mem_nil, or_false] at hi
    subst hi
    refine ⟨_, by rfl, midT_step (by rfl) (fun _ _ _ => trivial) (fun δ2 K' hK' => ?_)⟩
    have E2 := Lib.hid (show Ext (δ.wd.alloc (.cells (madeCells #[.int .i64 0] 17) 3)) δ2.wd from ⟨δ2, rfl⟩)
    have E3 := Lib.hid ((E1.out.alloc _).trans E2.out)
    go_simp
    refine ⟨((Below.refl _ _).alloc E3.out.bel.size _), hK' _ _ ?_⟩
    clear hK' K'
    have Z2 := Lib.hid (hzz.out δ2.wd)
    refine wpAnyT_step [2] (by decide +kernel) (by decide) (by decide) ?_
    intro i hi
    simp only [List.mem_cons, List.not_mem_nil, or_false] at hi
    subst hi
    refine ⟨_, by rfl, midT_step (by rfl) (fun _ _ _ => trivial) (fun δ3 K' hK' => ?_)⟩
    have E4 := Lib.hid (show Ext (δ2.wd.alloc (.cells (madeCells #[.int .i64 0] 17) 3)) δ3.wd from ⟨δ3, rfl⟩)
    have E5 := Lib.hid ((E3.out.alloc _).trans E4.out)
    have h1 := (Z1.out.ext (E2.out.alloc _)).ext E4.out
    have h2 := Z2.out.ext E4.out
    go_simp
    refine (callsIn_wide.2 (Both_val (xs := List.replicate 17 0) (ys := List.replicate 17 0) (er := 4) (zs := []) (by decide +kernel) (by decide +kernel) (by first | exact h1 | exact h2) (by first | exact h2 | exact h1))).mono ?_
    rintro e w7 ⟨v7, rfl, o7, x7⟩
    refine ⟨_, rfl, x7.belB E5.out.bel.size, hK' _ _ ?_⟩
    have E6 := Lib.hid (E5.out.trans x7)
    clear hK' K' h1 h2 o7 x7 Z1 Z2 E1 E2 E3 E4 E5
    refine wpAnyT_step [3] (by decide +kernel) (by decide) (by decide) ?_
    intro i hi
    simp only [List.mem_cons, List.not_mem_nil, or_false] at hi
    subst hi
    refine ⟨_, by rfl, midT_step (by rfl) (fun _ _ _ => trivial) (fun δ4 K' hK' => ?_)⟩
    have E7 := Lib.hid (E6.out.trans (show Ext w7 δ4.wd from ⟨δ4, rfl⟩))
    go_simp
    refine ⟨Below.refl _ _, hK' _ _ ?_⟩
    clear hK' K' E6
    refine wpAnyT_step [4, 5] (by decide +kernel) (by decide) (by decide) ?_
    intro i hi
    simp only [List.mem_cons, List.not_mem_nil, or_false] at hi
    rcases hi with rfl | rfl)
  all_goals (
    refine ⟨_, by rfl, midT_step (by rfl) (fun _ _ _ => trivial) (fun δ5 K' hK' => ?_)⟩
    have E8 := Lib.hid (E7.out.trans (show Ext _ δ5.wd from ⟨δ5, rfl⟩))
    go_simp
    refine ⟨Below.refl _ _, hK' _ _ ?_⟩
    clear hK' K' E7
    first
      | refine wpAnyT_step [4] (by decide +kernel) (by decide) (by decide) ?_
      | refine wpAnyT_step [5] (by decide +kernel) (by decide) (by decide) ?_
    intro i hi
    simp only [List.mem_cons, List.not_mem_nil, or_false] at hi
    subst hi
    refine ⟨_, by rfl, midT_step (by rfl) (fun _ _ _ => trivial) (fun δ6 K' hK' => ?_)⟩
    have E9 := Lib.hid (E8.out.trans (show Ext _ δ6.wd from ⟨δ6, rfl⟩))
    go_simp
    refine ⟨Below.refl _ _, hK' _ _ ?_⟩
    clear hK' K' E8
    refine ⟨by decide +kernel, fun w7 x7 => ?_⟩
    have HX7 := Lib.hid (HX.out.trans (E9.out.trans x7))
    clear x7 E9
    simp only [List.drop_succ_cons, List.drop_zero]
    gi_wp2
    clear HX hzz hmk F25 F40 F54 F62
    obtain ⟨w1000, hw1000⟩ : ∃ z, z = w7 := ⟨_, rfl⟩
    subst hw1000
    have HX := HX7
    clear HX7
    go_wp2_with (go_at_call 58; refine (l_any _ _).mono ?_; rintro e w' ⟨rfl, rfl⟩)
    refine lay_calls (fun W => Ext w1000 W ∧ IsI W (.slice (some ⟨w1000.heap.size, 0, none⟩) 3 3) [1, 2, 3] ∧ IsI W (.slice (some ⟨w1000.heap.size + 1, 0, none⟩) 3 3) [1, 3, 2]) ⟨by (repeat' (first | with_reducible exact Ext.refl _ | with_reducible apply Ext.alloc | with_reducible apply Ext.drew | with_reducible apply Ext.drewN | with_reducible refine Ext.setCell ?_ ?_ _ | with_reducible apply Ext.step | with_reducible assumption | with_reducible exact Nat.le_refl _ | (simp; done) | (simp; omega))), ((lit_isI w1000 #[.int .i64 1, .int .i64 2, .int .i64 3] [1, 2, 3] 3 _ (by simp) rfl rfl (by decide)).ext ((Ext.refl _).alloc _)), (lit_isI (w1000.alloc (.cells #[.int .i64 1, .int .i64 2, .int .i64 3] 3)) #[.int .i64 1, .int .i64 3, .int .i64 2] [1, 3, 2] 3 _ (by simp) rfl rfl (by decide))⟩ ?_
    rintro w1001 ⟨x, i0, i1⟩
    replace HX := Lib.hid (HX.out.trans x)
    have F65 := Lib.hid i0
    have F66 := Lib.hid i1
    clear x i0 i1
    refine (Match_val (er := 6) (by decide +kernel) rfl F65.out F66.out).mono ?_
    rintro e w1002 ⟨rfl, x⟩
    clear F65
    clear F66
    replace HX := Lib.hid (HX.out.trans x)
    clear x
    go_wp2_with (go_at_call 58; refine (l_any _ _).mono ?_; rintro e w' ⟨rfl, rfl⟩)
    refine lay_calls (fun W => Ext w1002 W ∧ IsI W (.slice (some ⟨w1002.heap.size, 0, none⟩) 2 2) [1, 2]) ⟨by (repeat' (first | with_reducible exact Ext.refl _ | with_reducible apply Ext.alloc | with_reducible apply Ext.drew | with_reducible apply Ext.drewN | with_reducible refine Ext.setCell ?_ ?_ _ | with_reducible apply Ext.step | with_reducible assumption | with_reducible exact Nat.le_refl _ | (simp; done) | (simp; omega))), (lit_isI w1002 #[.int .i64 1, .int .i64 2] [1, 2] 2 _ (by simp) rfl rfl (by decide))⟩ ?_
    rintro w1003 ⟨x, i0⟩
    replace HX := Lib.hid (HX.out.trans x)
    have F67 := Lib.hid i0
    clear x i0
    refine (Check_val  (er := 30) (by decide +kernel) F67.out).mono ?_
    rintro e _ ⟨rfl, rfl⟩
    clear F67
    go_wp2_with (go_at_call 58; refine (l_any _ _).mono ?_; rintro e w' ⟨rfl, rfl⟩)
    refine lay_calls (fun W => Ext w1003 W ∧ IsI W (.slice (some ⟨w1003.heap.size, 0, none⟩) 3 3) [0, 1, 0]) ⟨by (repeat' (first | with_reducible exact Ext.refl _ | with_reducible apply Ext.alloc | with_reducible apply Ext.drew | with_reducible apply Ext.drewN | with_reducible refine Ext.setCell ?_ ?_ _ | with_reducible apply Ext.step | with_reducible assumption | with_reducible exact Nat.le_refl _ | (simp; done) | (simp; omega))), (lit_isI w1003 #[.int .i64 0, .int .i64 1, .int .i64 0] [0, 1, 0] 3 _ (by simp) rfl rfl (by decide))⟩ ?_
    rintro w1004 ⟨x, i0⟩
    replace HX := Lib.hid (HX.out.trans x)
    have F68 := Lib.hid i0
    clear x i0
    refine (Rub_val (x := 3) (er := 31) (by decide +kernel) F68.out).mono ?_
    rintro e _ ⟨rfl, rfl⟩
    clear F68
    go_wp2_with (go_at_call 58; refine (l_any _ _).mono ?_; rintro e w' ⟨rfl, rfl⟩)
    refine lay_calls (fun W => Ext w1004 W ∧ IsI W (.slice (some ⟨w1004.heap.size, 0, none⟩) 3 3) [0, 0, 0]) ⟨by (repeat' (first | with_reducible exact Ext.refl _ | with_reducible apply Ext.alloc | with_reducible apply Ext.drew | with_reducible apply Ext.drewN | with_reducible refine Ext.setCell ?_ ?_ _ | with_reducible apply Ext.step | with_reducible assumption | with_reducible exact Nat.le_refl _ | (simp; done) | (simp; omega))), (lit_isI w1004 #[.int .i64 0, .int .i64 0, .int .i64 0] [0, 0, 0] 3 _ (by simp) rfl rfl (by decide))⟩ ?_
    rintro w1005 ⟨x, i0⟩
    replace HX := Lib.hid (HX.out.trans x)
    have F69 := Lib.hid i0
    clear x i0
    refine (Rub_val (x := 2) (er := 31) (by decide +kernel) F69.out).mono ?_
    rintro e _ ⟨rfl, rfl⟩
    clear F69
    go_wp2_with (go_at_call 58; refine (l_any _ _).mono ?_; rintro e w' ⟨rfl, rfl⟩)
    refine lay_calls (fun W => Ext w1005 W ∧ IsI W (.slice (some ⟨w1005.heap.size, 0, none⟩) 2 2) [0, 0]) ⟨by (repeat' (first | with_reducible exact Ext.refl _ | with_reducible apply Ext.alloc | with_reducible apply Ext.drew | with_reducible apply Ext.drewN | with_reducible refine Ext.setCell ?_ ?_ _ | with_reducible apply Ext.step | with_reducible assumption | with_reducible exact Nat.le_refl _ | (simp; done) | (simp; omega))), (lit_isI w1005 #[.int .i64 0, .int .i64 0] [0, 0] 2 _ (by simp) rfl rfl (by decide))⟩ ?_
    rintro w1006 ⟨x, i0⟩
    replace HX := Lib.hid (HX.out.trans x)
    have F70 := Lib.hid i0
    clear x i0
    refine (Rub_val (x := 9) (er := 31) (by decide +kernel) F70.out).mono ?_
    rintro e _ ⟨rfl, rfl⟩
    clear F70
    go_wp2_with (go_at_call 58; refine (l_any _ _).mono ?_; rintro e w' ⟨rfl, rfl⟩)
    refine lay_calls (fun W => Ext w1006 W ∧ IsI W (.slice (some ⟨w1006.heap.size, 0, none⟩) 3 3) [0, 10001, 0]) ⟨by (repeat' (first | with_reducible exact Ext.refl _ | with_reducible apply Ext.alloc | with_reducible apply Ext.drew | with_reducible apply Ext.drewN | with_reducible refine Ext.setCell ?_ ?_ _ | with_reducible apply Ext.step | with_reducible assumption | with_reducible exact Nat.le_refl _ | (simp; done) | (simp; omega))), (lit_isI w1006 #[.int .i64 0, .int .i64 10001, .int .i64 0] [0, 10001, 0] 3 _ (by simp) rfl rfl (by decide))⟩ ?_
    rintro w1007 ⟨x, i0⟩
    replace HX := Lib.hid (HX.out.trans x)
    have F71 := Lib.hid i0
    clear x i0
    refine (Check_val  (er := 30) (by decide +kernel) F71.out).mono ?_
    rintro e _ ⟨rfl, rfl⟩
    clear F71
    go_wp2_with fail
    refine (alive_any _).mono ?_
    rintro e w8 ⟨rfl, x8⟩
    have X8 := Lib.hid (HX.out.trans x8)
    clear x8
    go_wp2_with fail
    go_ret
    exact ⟨rfl, X8.out⟩)
end Go.Proofs.Ytaaceadcnnfngaa
