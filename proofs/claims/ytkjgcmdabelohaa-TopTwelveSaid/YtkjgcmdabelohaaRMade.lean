/- rosette.both, made, Lift, Under, Close, Grind. Condition: slices read as lists. -/
import Derived.Test.YtkjgcmdabelohaaRLift
import Derived.Test.YtkjgcmdabelohaaRRub
import Derived.Test.YtkjgcmdabelohaaRTurns
import Derived.LoopN
namespace Go.Proofs.Ytkjgcmdabelohaa
open Go.RowKit

def bothE (xs ys : List Int) : Int := if checkB xs then rubberE ys xs.length else 30

theorem both_any (u v : Value) (xs ys : List Int) (w : World) (hu : IsI w u xs) (hv : IsI w v ys) :
    Calls Try.prog 93 #[u, v] w fun e w' => e = .returned (.int .i64 (bothE xs ys)) ∧ w = w' := by
  cases hc : checkB xs
  · have HE := Lib.hid (show bothE xs ys = 30 by rw [bothE, hc]; rfl)
    have HC := Lib.hid (check_bad hc w hu)
    go_enter Try.func93, Try.ntmps93
    go_wp2_with (go_at_call 28; refine HC.out.mono ?_; rintro e w' ⟨rfl, rfl⟩)
    go_ret
    exact ⟨ret_i HE.out.symm, rfl⟩
  · have HE := Lib.hid (show bothE xs ys = rubberE ys xs.length by rw [bothE, hc]; rfl)
    have HC := Lib.hid (check_good hc w hu)
    have HR := Lib.hid (checkRubber_any v ys xs.length w hv)
    obtain ⟨A, n, c, rfl, hc0, hr, hn⟩ := hu.open_
    have HL := hr.len
    rw [HL] at HR HE
    clear hr
    go_enter Try.func93, Try.ntmps93
    go_wp2_with (first
      | (go_at_call 28; refine HC.out.mono ?_; rintro e w' ⟨rfl, rfl⟩)
      | (go_at_call 29; refine HR.out.mono ?_; rintro e w' ⟨rfl, rfl⟩))
    go_ret
    exact ⟨ret_i HE.out.symm, rfl⟩

end Go.Proofs.Ytkjgcmdabelohaa
