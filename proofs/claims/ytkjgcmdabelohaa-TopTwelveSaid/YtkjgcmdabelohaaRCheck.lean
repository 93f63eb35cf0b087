/- rosette.Check, CheckRubber, and the reference's: what each call computes. Condition: the slice reads as a list. -/
import Derived.Test.YtkjgcmdabelohaaInts
import Derived.BigGuardPart
namespace Go.Proofs.Ytkjgcmdabelohaa
open Go.RowKit

theorem odd_any (n : Int) (w : World) : Calls Try.prog 61 #[.int .i64 n] w fun e w' => e = .returned (.bool (!inB 0 10000 n)) ∧ w = w' := by
  go_enter Try.func61, Try.ntmps61
  by_cases h1 : n < 0 <;> by_cases h2 : 10000 < n
  all_goals
  go_wp2
  go_ret
  simp [inB]
  omega

set_option maxHeartbeats 400000 in
theorem indexOdd_any (A : Option Addr) (n c : Nat) (zs : List Int) (w : World) (hz : RowI w A n zs) :
    Calls Try.prog 62 #[.slice A n c, .func (.func 61) #[] #[]] w (IxPost 0 10000 zs n w) := by
  have hn := hz.max
  unfold maxLen at hn
  go_enter Try.func62, Try.ntmps62
  go_wp2
  go_loop [8, 5] (fun i _ => ∃ k : Nat, k ≤ n ∧ i = .int .i64 k ∧ Hid (∀ j, j < k → inB 0 10000 (zs[j]?.getD 0) = true)) (fun i _ => n - (intOf i).toNat)
  case atStart => exact ⟨0, by omega, rfl, fun j hj => absurd hj (by omega)⟩
  case round =>
    obtain ⟨k, hk, rfl, Ha⟩ := hrel
    by_cases hlt : k < n
    · obtain ⟨b, o, rfl, _, hc⟩ := hz.at_ k hlt
      have H0 := Lib.hid (odd_any (zs[k]?.getD 0) w)
      cases hin : inB 0 10000 (zs[k]?.getD 0)
      · go_wp2_with (go_at_call 61; refine H0.out.mono ?_; rintro e w' ⟨rfl, rfl⟩)
        go_ret
        exact ⟨k, rfl, ⟨fun _ => ⟨k, hlt, hin⟩, fun _ => by omega⟩, rfl⟩
      · go_wp2_with (go_at_call 61; refine H0.out.mono ?_; rintro e w' ⟨rfl, rfl⟩)
        go_round
        case rel =>
          refine ⟨k + 1, by omega, by go_num, fun j hj => ?_⟩
          rcases (by omega : j < k ∨ j = k) with h | rfl
          · exact Ha.out j h
          · exact hin
        case measure => simp [intOf]; omega
    · go_wp2
      go_ret
      refine ⟨-1, rfl, ⟨fun h => absurd h (by omega), fun ⟨j, hj, h⟩ => ?_⟩, rfl⟩
      rw [Ha.out j (by omega)] at h
      cases h

theorem containsOdd_any (A : Option Addr) (n c : Nat) (zs : List Int) (w : World) (hz : RowI w A n zs) :
    Calls Try.prog 32 #[.slice A n c, .func (.func 61) #[] #[]] w fun e w' => e = .returned (.bool (!allB 0 10000 zs)) ∧ w = w' := by
  have H := Lib.hid (indexOdd_any A n c zs w hz)
  go_enter Try.func32, Try.ntmps32
  go_wp2_with (go_at_call 62; refine H.out.mono ?_; rintro e w' ⟨i, rfl, hi0, rfl⟩)
  go_ret
  rw [← firstOut_all hz.len hi0]
  exact ⟨rfl, rfl⟩

def checkB (zs : List Int) : Bool := decide (3 ≤ zs.length) && decide (zs.length ≤ 96) && allB 0 10000 zs
def checkE (zs : List Int) : Int := if checkB zs then 0 else 30

theorem check_any (v : Value) (zs : List Int) (w : World) (hv : IsI w v zs) :
    Calls Try.prog 28 #[v] w fun e w' => e = .returned (.int .i64 (checkE zs)) ∧ w = w' := by
  obtain ⟨A, c, rfl, hc0, _, hr⟩ := hv
  have hn := hr.max
  unfold maxLen at hn
  have H := Lib.hid (containsOdd_any A zs.length c zs w hr)
  have HE := Lib.hid (show checkE zs = if checkB zs then 0 else 30 from rfl)
  generalize hN : zs.length = n at *
  clear hr
  cases h1 : decide ((n : Int) < 3)
  rotate_left
  · go_enter Try.func28, Try.ntmps28
    go_wp2_with fail
    go_ret
    exact ⟨ret_i (by simp at h1; rw [HE.out, checkB, hN, if_neg]; simp; omega), rfl⟩
  cases h2 : decide (96 < (n : Int))
  rotate_left
  · go_enter Try.func28, Try.ntmps28
    go_wp2_with fail
    go_ret
    exact ⟨ret_i (by simp at h2; rw [HE.out, checkB, hN, if_neg]; simp; omega), rfl⟩
  cases h3 : allB 0 10000 zs
  all_goals
    go_enter Try.func28, Try.ntmps28
    go_wp2_with (go_at_call 32; refine H.out.mono ?_; rintro e w' ⟨rfl, rfl⟩)
    go_ret
    exact ⟨ret_i (by simp at h1 h2; rw [HE.out, checkB, hN, h3]; simp <;> omega), rfl⟩

end Go.Proofs.Ytkjgcmdabelohaa
