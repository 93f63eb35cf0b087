/- rosette.turned, mirrored, and the reference's: what each call computes. Condition: slices read as lists. -/
import Derived.Test.YtkjgcmdabelohaaRCheck
import Derived.StillTailTactics
namespace Go.Proofs.Ytkjgcmdabelohaa
open Go.RowKit

/-- A call's answer: a new slice of ints. -/
def RetO (w : World) (zs : List Int) (e : Ending) (w' : World) : Prop := ∃ v, e = .returned v ∧ OwnI w.heap.size w' v zs ∧ Ext w w'

theorem cell_new0 (w : World) (v : Value) (t : TypeId) : (w.alloc (.cells #[v] t)).cell? ⟨w.heap.size, 0, none⟩ = some v := by go_simp

theorem emod_of_tmod {x n : Int} (hn : 1 ≤ n) : -n < x.tmod n ∧ x.tmod n < n ∧ (0 ≤ x.tmod n → x % n = x.tmod n) ∧ (x.tmod n < 0 → x % n = x.tmod n + n) := by
  have h1 := Int.mul_tdiv_add_tmod x n
  have h2 : (x.tmod n).natAbs < n.natAbs := by rw [Int.natAbs_tmod]; exact Nat.mod_lt _ (by omega)
  have h3 : x % n = (x.tmod n) % n := by rw [← h1, Int.add_comm, Int.add_mul_emod_self_left, Int.add_comm, h1]
  refine ⟨by omega, by omega, fun h => ?_, fun h => ?_⟩
  · rw [h3, Int.emod_eq_of_lt h (by omega)]
  · rw [h3, ← Int.add_emod_right, Int.emod_eq_of_lt (by omega) (by omega)]
theorem emod_sub_tmod (k x n : Int) : (k - x.tmod n) % n = (k - x) % n := by
  have h1 := Int.mul_tdiv_add_tmod x n
  have : k - x.tmod n = (k - x) + n * x.tdiv n := by omega
  rw [this, Int.add_mul_emod_self_left]
theorem emod_nat (x : Int) {n : Nat} (hn : 1 ≤ n) : ∃ j : Nat, x % (n : Int) = j ∧ j < n := by
  have h1 := Int.emod_nonneg x (show (n : Int) ≠ 0 by omega)
  have h2 := Int.emod_lt_of_pos x (show (0 : Int) < n by omega)
  exact ⟨(x % (n : Int)).toNat, by omega, by omega⟩

theorem around_any (x n : Int) (w : World) (hn : 1 ≤ n) (hn2 : n ≤ 1000000) :
    Calls Try.prog 86 #[.int .i64 x, .int .i64 n] w fun e w' => e = .returned (.int .i64 (x % n)) ∧ w = w' := by
  obtain ⟨h1, h2, h3, h4⟩ := emod_of_tmod (x := x) hn
  have H3 := Lib.hid h3
  have H4 := Lib.hid h4
  clear h3 h4
  have hn0 : ¬ n = 0 := by omega
  by_cases h : x.tmod n < 0
  · go_enter Try.func86, Try.ntmps86
    go_wp2
    go_ret
    exact ⟨ret_i (H4.out h).symm, rfl⟩
  · go_enter Try.func86, Try.ntmps86
    go_wp2
    go_ret
    exact ⟨ret_i (H3.out (by omega)).symm, rfl⟩

/-- The list that is turned, and its mirror image. -/
def mvTo (zs : List Int) (by' : Int) (m : Nat) : List Int := (List.range m).map fun k : Nat => zs[(((k : Int) - by') % (zs.length : Int)).toNat]?.getD 0
def mvL (zs : List Int) (by' : Int) : List Int := mvTo zs by' zs.length
def imgTo (zs : List Int) (m : Nat) : List Int := (List.range m).map fun k : Nat => zs[((-(k : Int)) % (zs.length : Int)).toNat]?.getD 0
def imgL (zs : List Int) : List Int := imgTo zs zs.length
theorem mvTo_succ (zs : List Int) (by' : Int) (m : Nat) : mvTo zs by' (m + 1) = mvTo zs by' m ++ [zs[(((m : Int) - by') % (zs.length : Int)).toNat]?.getD 0] := by
  simp [mvTo, List.range_succ]
theorem imgTo_succ (zs : List Int) (m : Nat) : imgTo zs (m + 1) = imgTo zs m ++ [zs[((-(m : Int)) % (zs.length : Int)).toNat]?.getD 0] := by
  simp [imgTo, List.range_succ]

end Go.Proofs.Ytkjgcmdabelohaa
