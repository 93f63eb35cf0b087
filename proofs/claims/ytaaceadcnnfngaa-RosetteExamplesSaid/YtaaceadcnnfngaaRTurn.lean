/- rosette.turned, mirrored, and the reference's: what each call computes. Condition: slices read as lists. -/
import Derived.Test.YtaaceadcnnfngaaRCheck
import Derived.StillTailTactics
namespace Go.Proofs.Ytaaceadcnnfngaa
open Go.RowKit

/-- A call's answer: a new slice of ints. -/
def RetO (w : World) (zs : List Int) (e : Ending) (w' : World) : Prop := ∃ v, e = .returned v ∧ OwnI w.heap.size w' v zs ∧ Ext w w'

theorem cell_new0 (w : World) (v : Value) (t : TypeId) : (w.alloc (.cells #[v] t)).cell? ⟨w.heap.size, 0, none⟩ = some v := by go_simp

theorem emod_of_tmod {x n : Int} (hn : 1 ≤ n) : -n < x.tmod n ∧ x.tmod n < n ∧ (0 ≤ x.tmod n → x % n = x.tmod n) ∧ (x.tmod n < 0 → x % n = x.tmod n + n) := by
  have h1 := Int.mul_tdiv_add_tmod x n
  have h2 : (x.tmod n).natAbs < n.natAbs := by rw [Int.natAbs_tmod]; exact Nat.mod_lt _ (by omega)
  have h3 : x % n = (x.tmod n) % n := by rw [← h1, Int.add_comm, Int.add_mul_emod_self_left, Int.add_comm, h1]
  refine ⟨by omega, by omega, fun h => ?_, fun h => ?_⟩
  · rw [h3, Int.emod_eq_of_lt h (by omega)]
  · rw [h3, ← Int.add_emod_right, Int.emod_eq_of_lt (by omega) (by omega)]
theorem emod_sub_tmod (k x n : Int) : (k - x.tmod n) % n = (k - x) % n := by
  have h1 := Int.mul_tdiv_add_tmod x n
  have : k - x.tmod n = (k - x) + n * x.tdiv n := by omega
  rw [this, Int.add_mul_emod_self_left]
theorem emod_nat (x : Int) {n : Nat} (hn : 1 ≤ n) : ∃ j : Nat, x % (n : Int) = j ∧ j < n := by
  have h1 := Int.emod_nonneg x (show (n : Int) ≠ 0 by omega)
  have h2 := Int.emod_lt_of_pos x (show (0 : Int) < n by omega)
  exact ⟨(x % (n : Int)).toNat, by omega, by omega⟩

theorem around_any (x n : Int) (w : World) (hn : 1 ≤ n) (hn2 : n ≤ 1000000) :
    Calls Try.prog 73 #[.int .i64 x, .int .i64 n] w fun e w' => e = .returned (.int .i64 (x % n)) ∧ w = w' := by
  obtain ⟨h1, h2, h3, h4⟩ := emod_of_tmod (x := x) hn
  have H3 := Lib.hid h3
  have H4 := Lib.hid h4
  clear h3 h4
  have hn0 : ¬ n = 0 := by omega
  by_cases h : x.tmod n < 0
  · go_enter Try.func73, Try.ntmps73
    go_wp2
    go_ret
    exact ⟨ret_i (H4.out h).symm, rfl⟩
  · go_enter Try.func73, Try.ntmps73
    go_wp2
    go_ret
    exact ⟨ret_i (H3.out (by omega)).symm, rfl⟩

theorem refAround_any (x n : Int) (w : World) (hn : 1 ≤ n) (hn2 : n ≤ 1000000) :
    Calls Try.prog 91 #[.int .i64 x, .int .i64 n] w fun e w' => e = .returned (.int .i64 (x % n)) ∧ w = w' := by
  obtain ⟨h1, h2, h3, h4⟩ := emod_of_tmod (x := x) hn
  have H3 := Lib.hid h3
  have H4 := Lib.hid h4
  clear h3 h4
  have hn0 : ¬ n = 0 := by omega
  go_enter Try.func91, Try.ntmps91
  go_wp2
  go_ret
  refine ⟨ret_i ?_, rfl⟩
  rw [Int.add_emod_right]
  rcases Int.lt_or_le (x.tmod n) 0 with h | h
  · rw [H4.out h, ← Int.add_emod_right, Int.emod_eq_of_lt (by omega) (by omega)]
  · rw [H3.out h, Int.emod_eq_of_lt h (by omega)]

/-- The list that is turned, and its mirror image. -/
def mvTo (zs : List Int) (by' : Int) (m : Nat) : List Int := (List.range m).map fun k : Nat => zs[(((k : Int) - by') % (zs.length : Int)).toNat]?.getD 0
def mvL (zs : List Int) (by' : Int) : List Int := mvTo zs by' zs.length
def imgTo (zs : List Int) (m : Nat) : List Int := (List.range m).map fun k : Nat => zs[((-(k : Int)) % (zs.length : Int)).toNat]?.getD 0
def imgL (zs : List Int) : List Int := imgTo zs zs.length
theorem mvTo_succ (zs : List Int) (by' : Int) (m : Nat) : mvTo zs by' (m + 1) = mvTo zs by' m ++ [zs[(((m : Int) - by') % (zs.length : Int)).toNat]?.getD 0] := by
  simp [mvTo, List.range_succ]
theorem imgTo_succ (zs : List Int) (m : Nat) : imgTo zs (m + 1) = imgTo zs m ++ [zs[((-(m : Int)) % (zs.length : Int)).toNat]?.getD 0] := by
  simp [imgTo, List.range_succ]

set_option maxHeartbeats 400000 in
theorem moved_any (v : Value) (zs : List Int) (by' : Int) (w : World) (hv : IsI w v zs) (h3 : 1 ≤ zs.length) (h96 : zs.length ≤ 1000000) :
    Calls Try.prog 74 #[v, .int .i64 by'] w (RetO w (mvL zs by')) := by
  obtain ⟨A, n, c, rfl, hc0, hr, hn⟩ := hv.open_
  have hl := hr.len
  have HL := Lib.hid hl
  rw [hl] at h3 h96
  have hX := Ext.refl w
  obtain ⟨ht1, ht2, _, _⟩ := emod_of_tmod (x := by') (n := (n : Int)) (by omega)
  have hn0 : ¬ (n : Int) = 0 := by omega
  clear hl
  go_enter Try.func74, Try.ntmps74
  go_wp2
  go_loopw [5, 7] (fun v i wr => ∃ k : Nat, k ≤ n ∧ i = .int .i64 k ∧ OwnI w.heap.size wr v (mvTo zs by' k) ∧ Ext w wr) (fun _ i _ => n - (intOf i).toNat)
  case atStart => exact ⟨0, by omega, rfl, OwnI.nil _ _, Ext.refl _⟩
  case round =>
    obtain ⟨k, hk, rfl, hown, hx⟩ := hrel
    by_cases hlt : k < n
    · obtain ⟨j, hj, hjn⟩ := emod_nat ((k : Int) - by'.tmod (n : Int)) h3
      obtain ⟨b, o, rfl, hb, hc⟩ := hr.at_ j hjn
      have hc' := hx.cell_some hc
      have HA := Lib.hid fun W => refAround_any ((k : Int) - by'.tmod (n : Int)) n W (by omega) (by omega)
      rw [hj] at HA
      have hJ := Lib.hid hj
      have HC := Lib.hid (cell_new0 wr (.int .i64 (zs[j]?.getD 0)) 3)
      have HO := Lib.hid (hown.ext ((Ext.refl wr).alloc (.cells #[.int .i64 (zs[j]?.getD 0)] 3)))
      have HB := Lib.hid (show w.heap.size ≤ (wr.alloc (.cells #[.int .i64 (zs[j]?.getD 0)] 3)).heap.size from (hx.alloc _).bel.size)
      have HZ := Lib.hid (show (mvTo zs by' k).length ≤ 1000000000 by simp [mvTo]; omega)
      clear hc hj hown
      go_wp2_with (first
        | (go_at_call 91; (with_reducible refine (HA.out _).mono ?_); rintro e w' ⟨rfl, rfl⟩)
        | (at_builtin; refine app_one rfl _ _ rfl _ _ _ rfl rfl HC.out HO.out HB.out HZ.out ?_; intro v' w1 hown1 hb1))
      go_roundw
      case rel =>
        refine ⟨k + 1, by omega, by go_num, ?_, (hx.alloc _).below hb1 (Nat.le_refl _)⟩
        rw [mvTo_succ, HL.out, ← emod_sub_tmod, hJ.out]
        exact hown1
      case measure => simp [intOf]; omega
    · obtain rfl : k = n := by omega
      go_wp2
      go_ret
      exact ⟨_, rfl, by rw [mvL, HL.out]; exact hown, hx⟩

set_option maxHeartbeats 400000 in
theorem image_any (v : Value) (zs : List Int) (w : World) (hv : IsI w v zs) (h3 : 1 ≤ zs.length) (h96 : zs.length ≤ 1000000) :
    Calls Try.prog 76 #[v] w (RetO w (imgL zs)) := by
  obtain ⟨A, n, c, rfl, hc0, hr, hn⟩ := hv.open_
  have hl := hr.len
  have HL := Lib.hid hl
  rw [hl] at h3 h96
  have hX := Ext.refl w
  clear hl
  go_enter Try.func76, Try.ntmps76
  go_wp2
  go_loopw [3, 4] (fun v i wr => ∃ k : Nat, k ≤ n ∧ i = .int .i64 k ∧ OwnI w.heap.size wr v (imgTo zs k) ∧ Ext w wr) (fun _ i _ => n - (intOf i).toNat)
  case atStart => exact ⟨0, by omega, rfl, OwnI.nil _ _, Ext.refl _⟩
  case round =>
    obtain ⟨k, hk, rfl, hown, hx⟩ := hrel
    by_cases hlt : k < n
    · obtain ⟨j, hj, hjn⟩ := emod_nat (-(k : Int)) h3
      obtain ⟨b, o, rfl, hb, hc⟩ := hr.at_ j hjn
      have hc' := hx.cell_some hc
      have HA := Lib.hid fun W => refAround_any (-(k : Int)) n W (by omega) (by omega)
      rw [hj] at HA
      have hJ := Lib.hid hj
      have HC := Lib.hid (cell_new0 wr (.int .i64 (zs[j]?.getD 0)) 3)
      have HO := Lib.hid (hown.ext ((Ext.refl wr).alloc (.cells #[.int .i64 (zs[j]?.getD 0)] 3)))
      have HB := Lib.hid (show w.heap.size ≤ (wr.alloc (.cells #[.int .i64 (zs[j]?.getD 0)] 3)).heap.size from (hx.alloc _).bel.size)
      have HZ := Lib.hid (show (imgTo zs k).length ≤ 1000000000 by simp [imgTo]; omega)
      clear hc hj hown
      go_wp2_with (first
        | (go_at_call 91; (with_reducible refine (HA.out _).mono ?_); rintro e w' ⟨rfl, rfl⟩)
        | (at_builtin; refine app_one rfl _ _ rfl _ _ _ rfl rfl HC.out HO.out HB.out HZ.out ?_; intro v' w1 hown1 hb1))
      go_roundw
      case rel =>
        refine ⟨k + 1, by omega, by go_num, ?_, (hx.alloc _).below hb1 (Nat.le_refl _)⟩
        rw [imgTo_succ, HL.out, hJ.out]
        exact hown1
      case measure => simp [intOf]; omega
    · obtain rfl : k = n := by omega
      go_wp2
      go_ret
      exact ⟨_, rfl, by rw [imgL, HL.out]; exact hown, hx⟩
end Go.Proofs.Ytaaceadcnnfngaa
