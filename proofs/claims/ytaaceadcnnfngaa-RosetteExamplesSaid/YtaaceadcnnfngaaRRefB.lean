/- The reference's Lift, Under, Close, Grind. Condition: slices read as lists. -/
import Derived.Test.YtaaceadcnnfngaaRRefU
namespace Go.Proofs.Ytaaceadcnnfngaa
open Go.RowKit

set_option maxRecDepth 100000 in
set_option maxHeartbeats 400000 in
theorem refLift_any (u v : Value) (xs ys : List Int) (w : World) (hu : IsI w u xs) (hv : IsI w v ys) :
    Calls Try.prog 20 #[u, v] w (RetOE w (fOr xs ys (liftL xs ys)) (bothE xs ys)) := by
  by_cases hg : bothE xs ys = 0
  · have HB := Lib.hid (asked_zero hg hu hv)
    have HN := Lib.hid hg
    have HI := Lib.hid (fine_iff.1 hg)
    have HV := Lib.hid hv
    have HU := Lib.hid hu
    clear hu hv hg
    go_enter Try.func20, Try.ntmps20
    go_wp2_with (go_at_call 63; refine HB.out.mono ?_; rintro e w' ⟨rfl, rfl⟩)
    refine (refLifted_any u v xs ys w HU.out HV.out HI.out).mono ?_
    rintro e w1 ⟨v1, rfl, o1, x1⟩
    go_wp2_with fail
    go_ret2
    exact ⟨_, by rw [HN.out] <;> rfl, by rw [fOr, if_pos HN.out]; exact o1, x1⟩
  · have HF := Lib.hid (show fOr xs ys (liftL xs ys) = [] by rw [fOr, if_neg hg])
    have HB := Lib.hid (asked_any u v xs ys w hu hv)
    have hne : (bothE xs ys != 0) = true := by simpa using hg
    generalize bothE xs ys = er at *
    clear hu hv hg
    go_enter Try.func20, Try.ntmps20
    go_wp2_with (go_at_call 63; refine HB.out.mono ?_; rintro e w' ⟨rfl, rfl⟩)
    go_ret2
    exact ⟨_, rfl, by rw [HF.out]; exact OwnI.nil _ _, Ext.refl _⟩
set_option maxRecDepth 100000 in
set_option maxHeartbeats 400000 in
theorem refUnder_any (u v : Value) (xs ys : List Int) (w : World) (hu : IsI w u xs) (hv : IsI w v ys) :
    Calls Try.prog 22 #[u, v] w (RetOE w (fOr xs ys (underL xs ys)) (bothE xs ys)) := by
  by_cases hg : bothE xs ys = 0
  · have HB := Lib.hid (asked_zero hg hu hv)
    have HN := Lib.hid hg
    have HI := Lib.hid (fine_iff.1 hg)
    have HV := Lib.hid hv
    have HU := Lib.hid hu
    clear hu hv hg
    go_enter Try.func22, Try.ntmps22
    go_wp2_with (go_at_call 63; refine HB.out.mono ?_; rintro e w' ⟨rfl, rfl⟩)
    refine (refBelow_any u v xs ys w HU.out HV.out HI.out).mono ?_
    rintro e w1 ⟨v1, rfl, o1, x1⟩
    go_wp2_with fail
    go_ret2
    exact ⟨_, by rw [HN.out] <;> rfl, by rw [fOr, if_pos HN.out]; exact o1, x1⟩
  · have HF := Lib.hid (show fOr xs ys (underL xs ys) = [] by rw [fOr, if_neg hg])
    have HB := Lib.hid (asked_any u v xs ys w hu hv)
    have hne : (bothE xs ys != 0) = true := by simpa using hg
    generalize bothE xs ys = er at *
    clear hu hv hg
    go_enter Try.func22, Try.ntmps22
    go_wp2_with (go_at_call 63; refine HB.out.mono ?_; rintro e w' ⟨rfl, rfl⟩)
    go_ret2
    exact ⟨_, rfl, by rw [HF.out]; exact OwnI.nil _ _, Ext.refl _⟩
set_option maxRecDepth 100000 in
set_option maxHeartbeats 400000 in
theorem refClose_any (u v : Value) (xs ys : List Int) (w : World) (hu : IsI w u xs) (hv : IsI w v ys) :
    Calls Try.prog 24 #[u, v] w (RetOE w (fOr xs ys (underL (liftL xs ys) ys)) (bothE xs ys)) := by
  by_cases hg : bothE xs ys = 0
  · have HB := Lib.hid (asked_zero hg hu hv)
    have HN := Lib.hid hg
    have HI := Lib.hid (fine_iff.1 hg)
    have HV := Lib.hid hv
    have HU := Lib.hid hu
    clear hu hv hg
    go_enter Try.func24, Try.ntmps24
    go_wp2_with (go_at_call 63; refine HB.out.mono ?_; rintro e w' ⟨rfl, rfl⟩)
    refine (refLifted_any u v xs ys w HU.out HV.out HI.out).mono ?_
    rintro e w1 ⟨v1, rfl, o1, x1⟩
    have X1 := Lib.hid x1
    have O1 := Lib.hid o1
    clear o1 x1
    go_wp2_with fail
    refine (refBelow_any v1 v (liftL xs ys) ys w1 O1.out.isI (HV.out.ext X1.out) HI.out.lift).mono ?_
    rintro e w2 ⟨v2, rfl, o2, x2⟩
    go_wp2_with fail
    go_ret2
    exact ⟨_, by rw [HN.out] <;> rfl, by rw [fOr, if_pos HN.out]; exact o2.mono X1.out.bel.size, X1.out.trans x2⟩
  · have HF := Lib.hid (show fOr xs ys (underL (liftL xs ys) ys) = [] by rw [fOr, if_neg hg])
    have HB := Lib.hid (asked_any u v xs ys w hu hv)
    have hne : (bothE xs ys != 0) = true := by simpa using hg
    generalize bothE xs ys = er at *
    clear hu hv hg
    go_enter Try.func24, Try.ntmps24
    go_wp2_with (go_at_call 63; refine HB.out.mono ?_; rintro e w' ⟨rfl, rfl⟩)
    go_ret2
    exact ⟨_, rfl, by rw [HF.out]; exact OwnI.nil _ _, Ext.refl _⟩
set_option maxRecDepth 100000 in
set_option maxHeartbeats 400000 in
theorem refGrind_any (u v : Value) (xs ys : List Int) (w : World) (hu : IsI w u xs) (hv : IsI w v ys) :
    Calls Try.prog 26 #[u, v] w (RetOE w (fOr xs ys (liftL (underL xs ys) ys)) (bothE xs ys)) := by
  by_cases hg : bothE xs ys = 0
  · have HB := Lib.hid (asked_zero hg hu hv)
    have HN := Lib.hid hg
    have HI := Lib.hid (fine_iff.1 hg)
    have HV := Lib.hid hv
    have HU := Lib.hid hu
    clear hu hv hg
    go_enter Try.func26, Try.ntmps26
    go_wp2_with (go_at_call 63; refine HB.out.mono ?_; rintro e w' ⟨rfl, rfl⟩)
    refine (refBelow_any u v xs ys w HU.out HV.out HI.out).mono ?_
    rintro e w1 ⟨v1, rfl, o1, x1⟩
    have X1 := Lib.hid x1
    have O1 := Lib.hid o1
    clear o1 x1
    go_wp2_with fail
    refine (refLifted_any v1 v (underL xs ys) ys w1 O1.out.isI (HV.out.ext X1.out) HI.out.under).mono ?_
    rintro e w2 ⟨v2, rfl, o2, x2⟩
    go_wp2_with fail
    go_ret2
    exact ⟨_, by rw [HN.out] <;> rfl, by rw [fOr, if_pos HN.out]; exact o2.mono X1.out.bel.size, X1.out.trans x2⟩
  · have HF := Lib.hid (show fOr xs ys (liftL (underL xs ys) ys) = [] by rw [fOr, if_neg hg])
    have HB := Lib.hid (asked_any u v xs ys w hu hv)
    have hne : (bothE xs ys != 0) = true := by simpa using hg
    generalize bothE xs ys = er at *
    clear hu hv hg
    go_enter Try.func26, Try.ntmps26
    go_wp2_with (go_at_call 63; refine HB.out.mono ?_; rintro e w' ⟨rfl, rfl⟩)
    go_ret2
    exact ⟨_, rfl, by rw [HF.out]; exact OwnI.nil _ _, Ext.refl _⟩
end Go.Proofs.Ytaaceadcnnfngaa
