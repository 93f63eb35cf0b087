/- rosette.lifted, under. Condition: slices read as lists, heights from 0 to 10000. -/
import Derived.Test.YtkjgcmdabelohaaRPick
import Derived.Test.YtkjgcmdabelohaaRPickU
namespace Go.Proofs.Ytkjgcmdabelohaa
open Go.RowKit

def liftL (xs ys : List Int) : List Int := pickTo xs ys ys.length xs.length
def underL (xs ys : List Int) : List Int := pickU xs ys ys.length xs.length

theorem lifted_any (u v : Value) (xs ys : List Int) (w : World) (hu : IsI w u xs) (hv : IsI w v ys) (hn1 : 1 ≤ xs.length) (hz : xs.length ≤ 1000) (hy1 : 1 ≤ ys.length) (hy : ys.length ≤ 1000)
    (hxb : ∀ i : Nat, 0 ≤ xs[i]?.getD 0 ∧ xs[i]?.getD 0 ≤ 10000) (hyb : ∀ i : Nat, 0 ≤ ys[i]?.getD 0 ∧ ys[i]?.getD 0 ≤ 10000) :
    Calls Try.prog 65 #[u, v] w (RetO w (liftL xs ys)) := by
  have H := Lib.hid (picked_any u v xs ys w hu hv hn1 hz hy1 hy hxb hyb)
  clear hxb hyb
  go_enter Try.func65, Try.ntmps65
  go_wp2_with (go_at_call 94; refine H.out.mono ?_; rintro e w1 ⟨v1, rfl, hown, hx⟩)
  go_ret
  exact ⟨_, rfl, hown, hx⟩
theorem under_any (u v : Value) (xs ys : List Int) (w : World) (hu : IsI w u xs) (hv : IsI w v ys) (hn1 : 1 ≤ xs.length) (hz : xs.length ≤ 1000) (hy1 : 1 ≤ ys.length) (hy : ys.length ≤ 1000)
    (hxb : ∀ i : Nat, 0 ≤ xs[i]?.getD 0 ∧ xs[i]?.getD 0 ≤ 10000) (hyb : ∀ i : Nat, 0 ≤ ys[i]?.getD 0 ∧ ys[i]?.getD 0 ≤ 10000) :
    Calls Try.prog 64 #[u, v] w (RetO w (underL xs ys)) := by
  have H := Lib.hid (pickedU_any u v xs ys w hu hv hn1 hz hy1 hy hxb hyb)
  clear hxb hyb
  go_enter Try.func64, Try.ntmps64
  go_wp2_with (go_at_call 94; refine H.out.mono ?_; rintro e w1 ⟨v1, rfl, hown, hx⟩)
  go_ret
  exact ⟨_, rfl, hown, hx⟩
end Go.Proofs.Ytkjgcmdabelohaa
