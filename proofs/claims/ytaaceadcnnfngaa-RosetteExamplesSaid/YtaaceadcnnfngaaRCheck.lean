/- rosette.Check, CheckRubber, and the reference's: what each call computes. Condition: the slice reads as a list. -/
import Derived.Test.YtaaceadcnnfngaaInts
import Derived.BigGuardPart
namespace Go.Proofs.Ytaaceadcnnfngaa
open Go.RowKit

theorem odd_any (n : Int) (w : World) : Calls Try.prog 68 #[.int .i64 n] w fun e w' => e = .returned (.bool (!inB 0 10000 n)) ∧ w = w' := by
  go_enter Try.func68, Try.ntmps68
  by_cases h1 : n < 0 <;> by_cases h2 : 10000 < n
  all_goals
  go_wp2
  go_ret
  simp [inB]
  omega

set_option maxHeartbeats 400000 in
theorem indexOdd_any (A : Option Addr) (n c : Nat) (zs : List Int) (w : World) (hz : RowI w A n zs) :
    Calls Try.prog 94 #[.slice A n c, .func (.func 68) #[] #[]] w (IxPost 0 10000 zs n w) := by
  have hn := hz.max
  unfold maxLen at hn
  go_enter Try.func94, Try.ntmps94
  go_wp2
  go_loop [8, 5] (fun i _ => ∃ k : Nat, k ≤ n ∧ i = .int .i64 k ∧ Hid (∀ j, j < k → inB 0 10000 (zs[j]?.getD 0) = true)) (fun i _ => n - (intOf i).toNat)
  case atStart => exact ⟨0, by omega, rfl, fun j hj => absurd hj (by omega)⟩
  case round =>
    obtain ⟨k, hk, rfl, Ha⟩ := hrel
    by_cases hlt : k < n
    · obtain ⟨b, o, rfl, _, hc⟩ := hz.at_ k hlt
      have H0 := Lib.hid (odd_any (zs[k]?.getD 0) w)
      cases hin : inB 0 10000 (zs[k]?.getD 0)
      · go_wp2_with (go_at_call 68; refine H0.out.mono ?_; rintro e w' ⟨rfl, rfl⟩)
        go_ret
        exact ⟨k, rfl, ⟨fun _ => ⟨k, hlt, hin⟩, fun _ => by omega⟩, rfl⟩
      · go_wp2_with (go_at_call 68; refine H0.out.mono ?_; rintro e w' ⟨rfl, rfl⟩)
        go_round
        case rel =>
          refine ⟨k + 1, by omega, by go_num, fun j hj => ?_⟩
          rcases (by omega : j < k ∨ j = k) with h | rfl
          · exact Ha.out j h
          · exact hin
        case measure => simp [intOf]; omega
    · go_wp2
      go_ret
      refine ⟨-1, rfl, ⟨fun h => absurd h (by omega), fun ⟨j, hj, h⟩ => ?_⟩, rfl⟩
      rw [Ha.out j (by omega)] at h
      cases h

theorem containsOdd_any (A : Option Addr) (n c : Nat) (zs : List Int) (w : World) (hz : RowI w A n zs) :
    Calls Try.prog 67 #[.slice A n c, .func (.func 68) #[] #[]] w fun e w' => e = .returned (.bool (!allB 0 10000 zs)) ∧ w = w' := by
  have H := Lib.hid (indexOdd_any A n c zs w hz)
  go_enter Try.func67, Try.ntmps67
  go_wp2_with (go_at_call 94; refine H.out.mono ?_; rintro e w' ⟨i, rfl, hi0, rfl⟩)
  go_ret
  rw [← firstOut_all hz.len hi0]
  exact ⟨rfl, rfl⟩

def checkB (zs : List Int) : Bool := decide (3 ≤ zs.length) && decide (zs.length ≤ 96) && allB 0 10000 zs
def checkE (zs : List Int) : Int := if checkB zs then 0 else 30

theorem check_any (v : Value) (zs : List Int) (w : World) (hv : IsI w v zs) :
    Calls Try.prog 27 #[v] w fun e w' => e = .returned (.int .i64 (checkE zs)) ∧ w = w' := by
  obtain ⟨A, c, rfl, hc0, _, hr⟩ := hv
  have hn := hr.max
  unfold maxLen at hn
  have H := Lib.hid (containsOdd_any A zs.length c zs w hr)
  have HE := Lib.hid (show checkE zs = if checkB zs then 0 else 30 from rfl)
  generalize hN : zs.length = n at *
  clear hr
  cases h1 : decide ((n : Int) < 3)
  rotate_left
  · go_enter Try.func27, Try.ntmps27
    go_wp2_with fail
    go_ret
    exact ⟨ret_i (by simp at h1; rw [HE.out, checkB, hN, if_neg]; simp; omega), rfl⟩
  cases h2 : decide (96 < (n : Int))
  rotate_left
  · go_enter Try.func27, Try.ntmps27
    go_wp2_with fail
    go_ret
    exact ⟨ret_i (by simp at h2; rw [HE.out, checkB, hN, if_neg]; simp; omega), rfl⟩
  cases h3 : allB 0 10000 zs
  all_goals
    go_enter Try.func27, Try.ntmps27
    go_wp2_with (go_at_call 67; refine H.out.mono ?_; rintro e w' ⟨rfl, rfl⟩)
    go_ret
    exact ⟨ret_i (by simp at h1 h2; rw [HE.out, checkB, hN, h3]; simp <;> omega), rfl⟩

theorem refWithin_any (n lo hi : Int) (w : World) :
    Calls Try.prog 69 #[.int .i64 n, .int .i64 lo, .int .i64 hi] w fun e w' => e = .returned (.bool (inB lo hi n)) ∧ w = w' := by
  by_cases h1 : lo ≤ n <;> by_cases h2 : n ≤ hi
  all_goals
    go_enter Try.func69, Try.ntmps69
    go_wp2
    go_ret
    exact ⟨ret_b (by simp [inB, h1, h2]), rfl⟩

set_option maxHeartbeats 400000 in
theorem heights_any (v : Value) (zs : List Int) (w : World) (hv : IsI w v zs) :
    Calls Try.prog 70 #[v] w fun e w' => e = .returned (.bool (allB 0 10000 zs)) ∧ w = w' := by
  obtain ⟨A, n, c, rfl, hc0, hr, hn⟩ := hv.open_
  go_enter Try.func70, Try.ntmps70
  go_wp2
  go_loop [3] (fun i => ∃ k : Nat, k ≤ n ∧ i = .int .i64 k ∧ Hid (∀ j, j < k → inB 0 10000 (zs[j]?.getD 0) = true)) (fun i => n - (intOf i).toNat)
  case atStart => exact ⟨0, by omega, rfl, fun j hj => absurd hj (by omega)⟩
  case round =>
    obtain ⟨k, hk, rfl, Ha⟩ := hrel
    by_cases hlt : k < n
    · obtain ⟨b, o, rfl, _, hc⟩ := hr.at_ k hlt
      have H0 := Lib.hid (refWithin_any (zs[k]?.getD 0) 0 10000 w)
      cases hin : inB 0 10000 (zs[k]?.getD 0)
      · go_wp2_with (go_at_call 69; (with_reducible refine H0.out.mono ?_); rintro e w' ⟨rfl, rfl⟩)
        go_ret
        refine ⟨ret_b ?_, rfl⟩
        symm
        simp only [allB, List.all_eq_false]
        have hlt' : k < zs.length := by rw [hr.len]; exact hlt
        exact ⟨zs[k], List.getElem_mem hlt', by simpa [hlt'] using hin⟩
      · go_wp2_with (go_at_call 69; (with_reducible refine H0.out.mono ?_); rintro e w' ⟨rfl, rfl⟩)
        go_round
        case rel =>
          refine ⟨k + 1, by omega, by go_num, fun j hj => ?_⟩
          rcases (by omega : j < k ∨ j = k) with h | rfl
          · exact Ha.out j h
          · exact hin
        case measure => simp [intOf]; omega
    · go_wp2
      go_ret
      refine ⟨ret_b ?_, rfl⟩
      symm
      simp only [allB, List.all_eq_true]
      intro x hx
      obtain ⟨j, hj, rfl⟩ := List.getElem_of_mem hx
      have := Ha.out j (by rw [← hr.len] at hk; have := hr.len; omega)
      simpa [hj] using this

theorem refCheck_any (v : Value) (zs : List Int) (w : World) (hv : IsI w v zs) :
    Calls Try.prog 28 #[v] w fun e w' => e = .returned (.int .i64 (checkE zs)) ∧ w = w' := by
  have H := Lib.hid (heights_any v zs w hv)
  obtain ⟨A, c, rfl, hc0, _, hr⟩ := hv
  have hn := hr.max
  unfold maxLen at hn
  have HE := Lib.hid (show checkE zs = if checkB zs then 0 else 30 from rfl)
  generalize hN : zs.length = n at *
  clear hr
  cases h1 : inB 3 96 (n : Int)
  · go_enter Try.func28, Try.ntmps28
    go_wp2_with (go_at_call 69; refine (refWithin_any _ _ _ _).mono ?_; rintro e w' ⟨rfl, rfl⟩)
    go_ret
    have h1' := inB_false.1 h1
    exact ⟨ret_i (by rw [HE.out, checkB, hN, if_neg]; simp; omega), rfl⟩
  have h1' := Lib.hid (inB_iff.1 h1)
  cases h3 : allB 0 10000 zs
  all_goals
    go_enter Try.func28, Try.ntmps28
    go_wp2_with (first | (go_at_call 69; refine (refWithin_any _ _ _ _).mono ?_; rintro e w' ⟨rfl, rfl⟩) | (go_at_call 70; refine H.out.mono ?_; rintro e w' ⟨rfl, rfl⟩))
    go_ret
    have h1 := h1'.out
    exact ⟨ret_i (by rw [HE.out, checkB, hN, h3]; simp <;> omega), rfl⟩
end Go.Proofs.Ytaaceadcnnfngaa
