/- rosette.Find and the reference's. Condition: slices read as lists. -/
import Derived.Test.YtaaceadcnnfngaaRRefB
namespace Go.Proofs.Ytaaceadcnnfngaa
open Go.RowKit

def foundB (xs ys : List Int) : Bool := liftL (underL xs ys) ys == xs
def findL (xs ys : List Int) : List Int := if bothE xs ys = 0 ∧ foundB xs ys = true then underL xs ys else []
def findEr (xs ys : List Int) : Int := if bothE xs ys = 0 then (if foundB xs ys = true then 0 else 6) else bothE xs ys

set_option maxRecDepth 100000 in
set_option maxHeartbeats 400000 in
theorem Find_any (u v : Value) (xs ys : List Int) (w : World) (hu : IsI w u xs) (hv : IsI w v ys) :
    Calls Try.prog 43 #[u, v] w (RetOE w (findL xs ys) (findEr xs ys)) := by
  by_cases hg : bothE xs ys = 0
  · have HN := Lib.hid hg
    have HI := Lib.hid (fine_iff.1 hg)
    have HV := Lib.hid hv
    have HU := Lib.hid hu
    clear hu hv hg
    go_enter Try.func43, Try.ntmps43
    go_wp2_with fail
    have HN1 := Lib.hid (Under_any u v xs ys w HU.out HV.out)
    rw [fOr, if_pos HN.out, HN.out] at HN1
    refine HN1.out.mono ?_
    rintro e w1 ⟨v1, rfl, o1, x1⟩
    have X1 := Lib.hid x1
    have O1 := Lib.hid o1
    clear o1 x1
    go_wp2_with fail
    refine (lifted_makes v1 v (underL xs ys) ys w1 O1.out.isI (HV.out.ext X1.out) HI.out.under).mono ?_
    rintro e w2 ⟨v2, rfl, o2, x2⟩
    have X2 := Lib.hid (X1.out.trans x2)
    have O12 := Lib.hid (O1.out.ext x2)
    have HQ := Lib.hid (equal_any v2 u _ xs w2 o2.isI (HU.out.ext X2.out))
    clear o2 x2
    go_wp2_with fail
    cases hm : (liftL (underL xs ys) ys == xs)
    · rw [hm] at HQ
      have HM := Lib.hid hm
      clear hm
      refine HQ.out.mono ?_
      rintro e w3 ⟨rfl, x3⟩
      go_wp2_with fail
      go_ret2
      exact ⟨_, by rw [findEr, if_pos HN.out, foundB, HM.out] <;> rfl, by rw [findL, foundB, HM.out, if_neg (by simp)]; exact OwnI.nil _ _, X2.out.trans x3⟩
    · rw [hm] at HQ
      have HM := Lib.hid hm
      clear hm
      refine HQ.out.mono ?_
      rintro e w3 ⟨rfl, x3⟩
      go_wp2_with fail
      go_ret2
      exact ⟨_, by rw [findEr, if_pos HN.out, foundB, HM.out] <;> rfl, by rw [findL, foundB, HM.out, if_pos ⟨HN.out, rfl⟩]; exact O12.out.ext x3, X2.out.trans x3⟩
  · have HF := Lib.hid (show findL xs ys = [] by rw [findL, if_neg (fun h => hg h.1)])
    have HE := Lib.hid (show findEr xs ys = bothE xs ys by rw [findEr, if_neg hg])
    have HB := Lib.hid (Under_any u v xs ys w hu hv)
    have hne : (bothE xs ys != 0) = true := by simpa using hg
    generalize bothE xs ys = er at *
    clear hu hv hg
    go_enter Try.func43, Try.ntmps43
    go_wp2_with fail
    refine HB.out.mono ?_
    rintro e w1 ⟨v1, rfl, o1, x1⟩
    have X1 := Lib.hid x1
    clear o1 x1
    go_wp2_with fail
    go_ret2
    exact ⟨_, by rw [HE.out] <;> rfl, by rw [HF.out]; exact OwnI.nil _ _, X1.out⟩
set_option maxRecDepth 100000 in
set_option maxHeartbeats 400000 in
theorem refFind_any (u v : Value) (xs ys : List Int) (w : World) (hu : IsI w u xs) (hv : IsI w v ys) :
    Calls Try.prog 44 #[u, v] w (RetOE w (findL xs ys) (findEr xs ys)) := by
  by_cases hg : bothE xs ys = 0
  · have HN := Lib.hid hg
    have HI := Lib.hid (fine_iff.1 hg)
    have HB := Lib.hid (asked_zero hg hu hv)
    have HV := Lib.hid hv
    have HU := Lib.hid hu
    clear hu hv hg
    go_enter Try.func44, Try.ntmps44
    go_wp2_with (go_at_call 63; refine HB.out.mono ?_; rintro e w' ⟨rfl, rfl⟩)
    refine (refBelow_any u v xs ys w HU.out HV.out HI.out).mono ?_
    rintro e w1 ⟨v1, rfl, o1, x1⟩
    have X1 := Lib.hid x1
    have O1 := Lib.hid o1
    clear o1 x1
    go_wp2_with fail
    refine (refLifted_any v1 v (underL xs ys) ys w1 O1.out.isI (HV.out.ext X1.out) HI.out.under).mono ?_
    rintro e w2 ⟨v2, rfl, o2, x2⟩
    have X2 := Lib.hid (X1.out.trans x2)
    have O12 := Lib.hid (O1.out.ext x2)
    have HQ := Lib.hid (same_any v2 u _ xs w2 o2.isI (HU.out.ext X2.out))
    clear o2 x2
    go_wp2_with fail
    cases hm : (liftL (underL xs ys) ys == xs)
    · rw [hm] at HQ
      have HM := Lib.hid hm
      clear hm
      refine HQ.out.mono ?_
      rintro e w3 ⟨rfl, x3⟩
      go_wp2_with fail
      go_ret2
      exact ⟨_, by rw [findEr, if_pos HN.out, foundB, HM.out] <;> rfl, by rw [findL, foundB, HM.out, if_neg (by simp)]; exact OwnI.nil _ _, X2.out.trans x3⟩
    · rw [hm] at HQ
      have HM := Lib.hid hm
      clear hm
      refine HQ.out.mono ?_
      rintro e w3 ⟨rfl, x3⟩
      go_wp2_with fail
      go_ret2
      exact ⟨_, by rw [findEr, if_pos HN.out, foundB, HM.out] <;> rfl, by rw [findL, foundB, HM.out, if_pos ⟨HN.out, rfl⟩]; exact O12.out.ext x3, X2.out.trans x3⟩
  · have HF := Lib.hid (show findL xs ys = [] by rw [findL, if_neg (fun h => hg h.1)])
    have HE := Lib.hid (show findEr xs ys = bothE xs ys by rw [findEr, if_neg hg])
    have HB := Lib.hid (asked_any u v xs ys w hu hv)
    have hne : (bothE xs ys != 0) = true := by simpa using hg
    generalize bothE xs ys = er at *
    clear hu hv hg
    go_enter Try.func44, Try.ntmps44
    go_wp2_with (go_at_call 63; refine HB.out.mono ?_; rintro e w' ⟨rfl, rfl⟩)
    go_ret2
    exact ⟨_, by rw [HE.out] <;> rfl, by rw [HF.out]; exact OwnI.nil _ _, Ext.refl _⟩
end Go.Proofs.Ytaaceadcnnfngaa
