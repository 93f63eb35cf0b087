/- light.from: whether all numbers are from lo to hi. Condition: the slice reads as a list. -/
import Derived.Test.YtkjgcmdabelohaaLay
import Derived.Test.YtkjgcmdabelohaaProg
namespace Go.Proofs.Ytkjgcmdabelohaa
open Go.RowKit

theorem lfrom1_any (n lo hi : Int) (A B : Addr) (w : World) (hA : w.cell? A = some (.int .i64 lo)) (hB : w.cell? B = some (.int .i64 hi)) :
    Calls Try.prog 73 #[.int .i64 n, .pointer (some A), .pointer (some B)] w fun e w' => e = .returned (.bool (!inB lo hi n)) ∧ w = w' := by
  go_enter Try.func73, Try.ntmps73
  by_cases h1 : n < lo <;> by_cases h2 : hi < n
  all_goals
  go_wp2
  go_ret
  simp [inB]
  omega

set_option maxHeartbeats 400000 in
theorem lindexFrom_any (A : Option Addr) (n c : Nat) (zs : List Int) (lo hi : Int) (P1 P2 : Addr) (w : World) (hA : w.cell? P1 = some (.int .i64 lo)) (hB : w.cell? P2 = some (.int .i64 hi)) (hz : RowI w A n zs) :
    Calls Try.prog 62 #[.slice A n c, .func (.func 73) #[] #[.pointer (some P1), .pointer (some P2)]] w (IxPost lo hi zs n w) := by
  have hn := hz.max
  unfold maxLen at hn
  go_enter Try.func62, Try.ntmps62
  go_wp2
  go_loop [8, 5] (fun i _ => ∃ k : Nat, k ≤ n ∧ i = .int .i64 k ∧ Hid (∀ j, j < k → inB lo hi (zs[j]?.getD 0) = true)) (fun i _ => n - (intOf i).toNat)
  case atStart => exact ⟨0, by omega, rfl, fun j hj => absurd hj (by omega)⟩
  case round =>
    obtain ⟨k, hk, rfl, Ha⟩ := hrel
    by_cases hlt : k < n
    · obtain ⟨b, o, rfl, _, hc⟩ := hz.at_ k hlt
      have H0 := Lib.hid (lfrom1_any (zs[k]?.getD 0) lo hi P1 P2 w hA hB)
      cases hin : inB lo hi (zs[k]?.getD 0)
      · go_wp2_with (go_at_call 73; refine H0.out.mono ?_; rintro e w' ⟨rfl, rfl⟩)
        go_ret
        exact ⟨k, rfl, ⟨fun _ => ⟨k, hlt, hin⟩, fun _ => by omega⟩, rfl⟩
      · go_wp2_with (go_at_call 73; refine H0.out.mono ?_; rintro e w' ⟨rfl, rfl⟩)
        go_round
        case rel =>
          refine ⟨k + 1, by omega, by go_num, fun j hj => ?_⟩
          rcases (by omega : j < k ∨ j = k) with h | rfl
          · exact Ha.out j h
          · exact hin
        case measure => simp [intOf]; omega
    · go_wp2
      go_ret
      refine ⟨-1, rfl, ⟨fun h => absurd h (by omega), fun ⟨j, hj, h⟩ => ?_⟩, rfl⟩
      rw [Ha.out j (by omega)] at h
      cases h

theorem lcontainsFrom_any (A : Option Addr) (n c : Nat) (zs : List Int) (lo hi : Int) (P1 P2 : Addr) (w : World) (hA : w.cell? P1 = some (.int .i64 lo)) (hB : w.cell? P2 = some (.int .i64 hi)) (hz : RowI w A n zs) :
    Calls Try.prog 32 #[.slice A n c, .func (.func 73) #[] #[.pointer (some P1), .pointer (some P2)]] w fun e w' => e = .returned (.bool (!allB lo hi zs)) ∧ w = w' := by
  have H := Lib.hid (lindexFrom_any A n c zs lo hi P1 P2 w hA hB hz)
  go_enter Try.func32, Try.ntmps32
  go_wp2_with (go_at_call 62; refine H.out.mono ?_; rintro e w' ⟨i, rfl, hi0, rfl⟩)
  go_ret
  rw [← firstOut_all hz.len hi0]
  exact ⟨rfl, rfl⟩

theorem lfrom_any (A : Option Addr) (n c : Nat) (zs : List Int) (lo hi : Int) (w : World) (hz : RowI w A n zs) :
    Calls Try.prog 42 #[.int .i64 lo, .int .i64 hi, .slice A n c] w fun e w' => e = .returned (.bool (allB lo hi zs)) ∧ Ext w w' := by
  have hz2 := hz.below (((Below.refl w.heap.size w).alloc (Nat.le_refl _) (.cells #[.int .i64 lo] 3)).alloc (by simp) (.cells #[.int .i64 hi] 3))
  have H := Lib.hid (fun p q => lcontainsFrom_any A n c zs lo hi ⟨w.heap.size, 0, none⟩ ⟨w.heap.size + 1, 0, none⟩ _ p q hz2)
  go_enter Try.func42, Try.ntmps42
  go_wp2_with (go_at_call 32; refine (H.out (by go_simp) (by go_simp)).mono ?_; rintro e w' ⟨rfl, rfl⟩)
  go_ret
  exact ⟨by simp, ((Ext.refl _).alloc _).alloc _⟩

theorem lfrom_one (b : Nat) (x lo hi : Int) (c : Nat) (w : World) (h : w.cell? ⟨b, 0, none⟩ = some (.int .i64 x)) :
    Calls Try.prog 42 #[.int .i64 lo, .int .i64 hi, .slice (some ⟨b, 0, none⟩) 1 c] w fun e w' => e = .returned (.bool (inB lo hi x)) ∧ Ext w w' := by
  have := lfrom_any _ 1 c [x] lo hi w (rowI_one h)
  simpa [allB] using this
theorem lfrom_two (b : Nat) (x y lo hi : Int) (c : Nat) (w : World) (h : w.cell? ⟨b, 0, none⟩ = some (.int .i64 x)) (h1 : w.cell? ⟨b, 1, none⟩ = some (.int .i64 y)) :
    Calls Try.prog 42 #[.int .i64 lo, .int .i64 hi, .slice (some ⟨b, 0, none⟩) 2 c] w fun e w' => e = .returned (.bool (inB lo hi x && inB lo hi y)) ∧ Ext w w' := by
  have := lfrom_any _ 2 c [x, y] lo hi w (rowI_two h h1)
  simpa [allB] using this
end Go.Proofs.Ytkjgcmdabelohaa
