/- rosette.Check, CheckRubber, and the reference's: what each call computes. Condition: the slice reads as a list. -/
/- rosette.CheckRubber and the reference's. Condition: the slice reads as a list. -/
/- rosette.turned, mirrored, and the reference's: what each call computes. Condition: slices read as lists. -/
/- Whether two slices of ints are the same: the reference's, the law's, and slices.Equal. Condition: slices read as lists. -/
import Derived.Test.YtkjgcmdabelohaaGreatMBase
import Derived.BigGuardPart
import Derived.Laws.Bits64b
import Derived.StillTailTactics
namespace Go.Proofs.YtkjgcmdabelohaaGreat
open Go.RowKit

theorem odd_any (n : Int) (w : World) : Calls Tryz.prog 47 #[.int .i64 n] w fun e w' => e = .returned (.bool (!inB 0 10000 n)) ∧ w = w' := by
  go_enter Tryz.func47, Tryz.ntmps47
  by_cases h1 : n < 0 <;> by_cases h2 : 10000 < n
  all_goals
  go_wp2
  go_ret
  simp [inB]
  omega

set_option maxHeartbeats 400000 in
theorem indexOdd_any (A : Option Addr) (n c : Nat) (zs : List Int) (w : World) (hz : RowI w A n zs) :
    Calls Tryz.prog 48 #[.slice A n c, .func (.func 47) #[] #[]] w (IxPost 0 10000 zs n w) := by
  have hn := hz.max
  unfold maxLen at hn
  go_enter Tryz.func48, Tryz.ntmps48
  go_wp2
  go_loop [8, 5] (fun i _ => ∃ k : Nat, k ≤ n ∧ i = .int .i64 k ∧ Hid (∀ j, j < k → inB 0 10000 (zs[j]?.getD 0) = true)) (fun i _ => n - (intOf i).toNat)
  case atStart => exact ⟨0, by omega, rfl, fun j hj => absurd hj (by omega)⟩
  case round =>
    obtain ⟨k, hk, rfl, Ha⟩ := hrel
    by_cases hlt : k < n
    · obtain ⟨b, o, rfl, _, hc⟩ := hz.at_ k hlt
      have H0 := Lib.hid (odd_any (zs[k]?.getD 0) w)
      cases hin : inB 0 10000 (zs[k]?.getD 0)
      · go_wp2_with (go_at_call 47; refine H0.out.mono ?_; rintro e w' ⟨rfl, rfl⟩)
        go_ret
        exact ⟨k, rfl, ⟨fun _ => ⟨k, hlt, hin⟩, fun _ => by omega⟩, rfl⟩
      · go_wp2_with (go_at_call 47; refine H0.out.mono ?_; rintro e w' ⟨rfl, rfl⟩)
        go_round
        case rel =>
          refine ⟨k + 1, by omega, by go_num, fun j hj => ?_⟩
          rcases (by omega : j < k ∨ j = k) with h | rfl
          · exact Ha.out j h
          · exact hin
        case measure => simp [intOf]; omega
    · go_wp2
      go_ret
      refine ⟨-1, rfl, ⟨fun h => absurd h (by omega), fun ⟨j, hj, h⟩ => ?_⟩, rfl⟩
      rw [Ha.out j (by omega)] at h
      cases h

theorem containsOdd_any (A : Option Addr) (n c : Nat) (zs : List Int) (w : World) (hz : RowI w A n zs) :
    Calls Tryz.prog 26 #[.slice A n c, .func (.func 47) #[] #[]] w fun e w' => e = .returned (.bool (!allB 0 10000 zs)) ∧ w = w' := by
  have H := Lib.hid (indexOdd_any A n c zs w hz)
  go_enter Tryz.func26, Tryz.ntmps26
  go_wp2_with (go_at_call 48; refine H.out.mono ?_; rintro e w' ⟨i, rfl, hi0, rfl⟩)
  go_ret
  rw [← firstOut_all hz.len hi0]
  exact ⟨rfl, rfl⟩

def checkB (zs : List Int) : Bool := decide (3 ≤ zs.length) && decide (zs.length ≤ 96) && allB 0 10000 zs
def checkE (zs : List Int) : Int := if checkB zs then 0 else 30

theorem check_any (v : Value) (zs : List Int) (w : World) (hv : IsI w v zs) :
    Calls Tryz.prog 22 #[v] w fun e w' => e = .returned (.int .i64 (checkE zs)) ∧ w = w' := by
  obtain ⟨A, c, rfl, hc0, _, hr⟩ := hv
  have hn := hr.max
  unfold maxLen at hn
  have H := Lib.hid (containsOdd_any A zs.length c zs w hr)
  have HE := Lib.hid (show checkE zs = if checkB zs then 0 else 30 from rfl)
  generalize hN : zs.length = n at *
  clear hr
  cases h1 : decide ((n : Int) < 3)
  rotate_left
  · go_enter Tryz.func22, Tryz.ntmps22
    go_wp2_with fail
    go_ret
    exact ⟨ret_i (by simp at h1; rw [HE.out, checkB, hN, if_neg]; simp; omega), rfl⟩
  cases h2 : decide (96 < (n : Int))
  rotate_left
  · go_enter Tryz.func22, Tryz.ntmps22
    go_wp2_with fail
    go_ret
    exact ⟨ret_i (by simp at h2; rw [HE.out, checkB, hN, if_neg]; simp; omega), rfl⟩
  cases h3 : allB 0 10000 zs
  all_goals
    go_enter Tryz.func22, Tryz.ntmps22
    go_wp2_with (go_at_call 26; refine H.out.mono ?_; rintro e w' ⟨rfl, rfl⟩)
    go_ret
    exact ⟨ret_i (by simp at h1 h2; rw [HE.out, checkB, hN, h3]; simp <;> omega), rfl⟩

theorem refWithin_any (n lo hi : Int) (w : World) :
    Calls Tryz.prog 70 #[.int .i64 n, .int .i64 lo, .int .i64 hi] w fun e w' => e = .returned (.bool (inB lo hi n)) ∧ w = w' := by
  by_cases h1 : lo ≤ n <;> by_cases h2 : n ≤ hi
  all_goals
    go_enter Tryz.func70, Tryz.ntmps70
    go_wp2
    go_ret
    exact ⟨ret_b (by simp [inB, h1, h2]), rfl⟩

set_option maxHeartbeats 400000 in
theorem heights_any (v : Value) (zs : List Int) (w : World) (hv : IsI w v zs) :
    Calls Tryz.prog 71 #[v] w fun e w' => e = .returned (.bool (allB 0 10000 zs)) ∧ w = w' := by
  obtain ⟨A, n, c, rfl, hc0, hr, hn⟩ := hv.open_
  go_enter Tryz.func71, Tryz.ntmps71
  go_wp2
  go_loop [3] (fun i => ∃ k : Nat, k ≤ n ∧ i = .int .i64 k ∧ Hid (∀ j, j < k → inB 0 10000 (zs[j]?.getD 0) = true)) (fun i => n - (intOf i).toNat)
  case atStart => exact ⟨0, by omega, rfl, fun j hj => absurd hj (by omega)⟩
  case round =>
    obtain ⟨k, hk, rfl, Ha⟩ := hrel
    by_cases hlt : k < n
    · obtain ⟨b, o, rfl, _, hc⟩ := hr.at_ k hlt
      have H0 := Lib.hid (refWithin_any (zs[k]?.getD 0) 0 10000 w)
      cases hin : inB 0 10000 (zs[k]?.getD 0)
      · go_wp2_with (go_at_call 70; (with_reducible refine H0.out.mono ?_); rintro e w' ⟨rfl, rfl⟩)
        go_ret
        refine ⟨ret_b ?_, rfl⟩
        symm
        simp only [allB, List.all_eq_false]
        have hlt' : k < zs.length := by rw [hr.len]; exact hlt
        exact ⟨zs[k], List.getElem_mem hlt', by simpa [hlt'] using hin⟩
      · go_wp2_with (go_at_call 70; (with_reducible refine H0.out.mono ?_); rintro e w' ⟨rfl, rfl⟩)
        go_round
        case rel =>
          refine ⟨k + 1, by omega, by go_num, fun j hj => ?_⟩
          rcases (by omega : j < k ∨ j = k) with h | rfl
          · exact Ha.out j h
          · exact hin
        case measure => simp [intOf]; omega
    · go_wp2
      go_ret
      refine ⟨ret_b ?_, rfl⟩
      symm
      simp only [allB, List.all_eq_true]
      intro x hx
      obtain ⟨j, hj, rfl⟩ := List.getElem_of_mem hx
      have := Ha.out j (by rw [← hr.len] at hk; have := hr.len; omega)
      simpa [hj] using this

theorem refCheck_any (v : Value) (zs : List Int) (w : World) (hv : IsI w v zs) :
    Calls Tryz.prog 45 #[v] w fun e w' => e = .returned (.int .i64 (checkE zs)) ∧ w = w' := by
  have H := Lib.hid (heights_any v zs w hv)
  obtain ⟨A, c, rfl, hc0, _, hr⟩ := hv
  have hn := hr.max
  unfold maxLen at hn
  have HE := Lib.hid (show checkE zs = if checkB zs then 0 else 30 from rfl)
  generalize hN : zs.length = n at *
  clear hr
  cases h1 : inB 3 96 (n : Int)
  · go_enter Tryz.func45, Tryz.ntmps45
    go_wp2_with (go_at_call 70; refine (refWithin_any _ _ _ _).mono ?_; rintro e w' ⟨rfl, rfl⟩)
    go_ret
    have h1' := inB_false.1 h1
    exact ⟨ret_i (by rw [HE.out, checkB, hN, if_neg]; simp; omega), rfl⟩
  have h1' := Lib.hid (inB_iff.1 h1)
  cases h3 : allB 0 10000 zs
  all_goals
    go_enter Tryz.func45, Tryz.ntmps45
    go_wp2_with (first | (go_at_call 70; refine (refWithin_any _ _ _ _).mono ?_; rintro e w' ⟨rfl, rfl⟩) | (go_at_call 71; refine H.out.mono ?_; rintro e w' ⟨rfl, rfl⟩))
    go_ret
    have h1 := h1'.out
    exact ⟨ret_i (by rw [HE.out, checkB, hN, h3]; simp <;> omega), rfl⟩
end Go.Proofs.YtkjgcmdabelohaaGreat

namespace Go.Proofs.YtkjgcmdabelohaaGreat
open Go.RowKit

def rubberB (ys : List Int) (n : Int) : Bool := decide (ys.length % 2 = 1) && decide ((ys.length : Int) ≤ n) && decide (ys.length ≤ 31) && allB 0 10000 ys && decide (ys[ys.length / 2]?.getD 0 = 0)
def rubberE (ys : List Int) (n : Int) : Int := if rubberB ys n then 0 else 31

theorem bits_low (n : Nat) (h : n ≤ 9223372036854775807) : bits .and .i64 (n : Int) 1 = ((n % 2 : Nat) : Int) := by
  have h1 : (BitVec.ofInt 64 (n : Int)).toNat = n := by
    rw [BitVec.ofInt_natCast, BitVec.toNat_ofNat]; exact Nat.mod_eq_of_lt (by omega)
  have h2 : (BitVec.ofInt 64 (1 : Int)).toNat = 1 := by decide
  have h3 : n &&& 1 = n % 2 := Nat.and_two_pow_sub_one_eq_mod n 1
  show IntKind.i64.wrap ((BitVec.ofInt 64 (n : Int) &&& BitVec.ofInt 64 (1 : Int)).toNat : Int) = _
  rw [BitVec.toNat_and, h1, h2, h3]
  rcases (by omega : n % 2 = 0 ∨ n % 2 = 1) with e | e <;> rw [e] <;> decide

set_option maxRecDepth 100000 in
set_option maxHeartbeats 1000000 in
theorem checkRubber_any (v : Value) (ys : List Int) (x : Int) (w : World) (hv : IsI w v ys) :
    Calls Tryz.prog 23 #[v, .int .i64 x] w fun e w' => e = .returned (.int .i64 (rubberE ys x)) ∧ w = w' := by
  obtain ⟨A, n, c, rfl, hc0, hr, hn⟩ := hv.open_
  have HL := Lib.hid hr.len
  have H := Lib.hid (containsOdd_any A n c ys w hr)
  have hb := bits_low n hn
  cases h1 : decide (n % 2 = 1)
  · have e0 : n % 2 = 0 := by simp at h1; omega
    rw [e0] at hb
    go_enter Tryz.func23, Tryz.ntmps23
    go_wp2_with fail
    go_ret
    refine ⟨ret_i ?_, rfl⟩
    rw [rubberE, rubberB, HL.out, h1]
    rfl
  have e1 : n % 2 = 1 := by simpa using h1
  have hmid := hr.at_ (n / 2) (by omega)
  obtain ⟨b, o, rfl, _, hc⟩ := hmid
  rw [e1] at hb
  cases h2 : decide (x < (n : Int))
  rotate_left
  · go_enter Tryz.func23, Tryz.ntmps23
    go_wp2_with fail
    go_ret
    refine ⟨ret_i ?_, rfl⟩
    have h2' : ((n : Int) ≤ x) = False := by simp at h2 ⊢; omega
    rw [rubberE, rubberB, HL.out, h1]
    simp [h2']
  cases h3 : decide (31 < (n : Int))
  rotate_left
  · go_enter Tryz.func23, Tryz.ntmps23
    go_wp2_with fail
    go_ret
    refine ⟨ret_i ?_, rfl⟩
    have h3' : (n ≤ 31) = False := by simp at h3 ⊢; omega
    rw [rubberE, rubberB, HL.out, h1]
    simp [h3']
  have h2' : (n : Int) ≤ x := by simpa using h2
  have h3' : n ≤ 31 := by simp at h3; omega
  have HR := Lib.hid (show rubberE ys x = if (allB 0 10000 ys && decide (ys[n / 2]?.getD 0 = 0)) = true then 0 else 31 by
    rw [rubberE, rubberB, HL.out]
    simp [h2', h3', e1])
  cases h4 : allB 0 10000 ys
  · rw [h4] at H HR
    go_enter Tryz.func23, Tryz.ntmps23
    go_wp2_with (go_at_call 26; refine H.out.mono ?_; rintro e w' ⟨rfl, rfl⟩)
    go_ret
    exact ⟨ret_i HR.out.symm, rfl⟩
  · have hp : 0 ≤ ys[n / 2]?.getD 0 := by
      have hl : n / 2 < ys.length := by rw [HL.out]; omega
      have := List.all_eq_true.1 h4 ys[n / 2] (List.getElem_mem hl)
      rw [List.getElem?_eq_getElem hl]
      exact (inB_iff.1 this).1
    rw [h4] at H HR
    cases h5 : decide (0 < ys[n / 2]?.getD 0)
    all_goals
      go_enter Tryz.func23, Tryz.ntmps23
      go_wp2_with (go_at_call 26; refine H.out.mono ?_; rintro e w' ⟨rfl, rfl⟩)
      go_ret
      refine ⟨ret_i ?_, rfl⟩
      rw [HR.out]
      simp at h5 ⊢
      omega

set_option maxRecDepth 100000 in
set_option maxHeartbeats 1000000 in
theorem refCheckRubber_any (v : Value) (ys : List Int) (x : Int) (w : World) (hv : IsI w v ys) :
    Calls Tryz.prog 46 #[v, .int .i64 x] w fun e w' => e = .returned (.int .i64 (rubberE ys x)) ∧ w = w' := by
  have H := Lib.hid (heights_any v ys w hv)
  obtain ⟨A, n, c, rfl, hc0, hr, hn⟩ := hv.open_
  have HL := Lib.hid hr.len
  cases h1 : decide (n % 2 = 1)
  · have e0 : (n : Int) % 2 = 0 := by simp at h1; omega
    go_enter Tryz.func46, Tryz.ntmps46
    go_wp2_with fail
    go_ret
    refine ⟨ret_i ?_, rfl⟩
    rw [rubberE, rubberB, HL.out, h1]
    rfl
  have e1 : n % 2 = 1 := by simpa using h1
  have e1' : (n : Int) % 2 = 1 := by omega
  have hmid := hr.at_ (n / 2) (by omega)
  obtain ⟨b, o, rfl, _, hc⟩ := hmid
  clear hr
  cases h2 : decide (min 31 x < (n : Int))
  rotate_left
  · have h2i : min 31 x < (n : Int) := by simpa using h2
    by_cases hx : x ≤ 31
    all_goals
      go_enter Tryz.func46, Tryz.ntmps46
      go_wp2_with fail
      all_goals go_ret
      all_goals refine ⟨ret_i ?_, rfl⟩
      all_goals
        rw [rubberE, rubberB, HL.out, h1]
        have : ¬ ((n : Int) ≤ x ∧ n ≤ 31) := by omega
        simp
        omega
  have h2i : (n : Int) ≤ min 31 x := by simpa using h2
  have h2' : (n : Int) ≤ x := by omega
  have h3' : n ≤ 31 := by omega
  have HR := Lib.hid (show rubberE ys x = if (allB 0 10000 ys && decide (ys[n / 2]?.getD 0 = 0)) = true then 0 else 31 by
    rw [rubberE, rubberB, HL.out]
    simp [h2', h3', e1])
  by_cases hx : x ≤ 31
  all_goals
    cases h4 : allB 0 10000 ys
    · rw [h4] at H HR
      go_enter Tryz.func46, Tryz.ntmps46
      go_wp2_with (go_at_call 71; refine H.out.mono ?_; rintro e w' ⟨rfl, rfl⟩)
      all_goals go_ret
      all_goals exact ⟨ret_i HR.out.symm, rfl⟩
    · rw [h4] at H HR
      cases h5 : (ys[n / 2]?.getD 0 != 0)
      all_goals
        go_enter Tryz.func46, Tryz.ntmps46
        go_wp2_with (go_at_call 71; refine H.out.mono ?_; rintro e w' ⟨rfl, rfl⟩)
        all_goals go_ret
        all_goals refine ⟨ret_i ?_, rfl⟩
        all_goals
          rw [HR.out]
          simp at h5 ⊢
          omega
end Go.Proofs.YtkjgcmdabelohaaGreat

namespace Go.Proofs.YtkjgcmdabelohaaGreat
open Go.RowKit

/-- A call's answer: a new slice of ints. -/
def RetO (w : World) (zs : List Int) (e : Ending) (w' : World) : Prop := ∃ v, e = .returned v ∧ OwnI w.heap.size w' v zs ∧ Ext w w'

theorem cell_new0 (w : World) (v : Value) (t : TypeId) : (w.alloc (.cells #[v] t)).cell? ⟨w.heap.size, 0, none⟩ = some v := by go_simp

theorem emod_of_tmod {x n : Int} (hn : 1 ≤ n) : -n < x.tmod n ∧ x.tmod n < n ∧ (0 ≤ x.tmod n → x % n = x.tmod n) ∧ (x.tmod n < 0 → x % n = x.tmod n + n) := by
  have h1 := Int.mul_tdiv_add_tmod x n
  have h2 : (x.tmod n).natAbs < n.natAbs := by rw [Int.natAbs_tmod]; exact Nat.mod_lt _ (by omega)
  have h3 : x % n = (x.tmod n) % n := by rw [← h1, Int.add_comm, Int.add_mul_emod_self_left, Int.add_comm, h1]
  refine ⟨by omega, by omega, fun h => ?_, fun h => ?_⟩
  · rw [h3, Int.emod_eq_of_lt h (by omega)]
  · rw [h3, ← Int.add_emod_right, Int.emod_eq_of_lt (by omega) (by omega)]
theorem emod_sub_tmod (k x n : Int) : (k - x.tmod n) % n = (k - x) % n := by
  have h1 := Int.mul_tdiv_add_tmod x n
  have : k - x.tmod n = (k - x) + n * x.tdiv n := by omega
  rw [this, Int.add_mul_emod_self_left]
theorem emod_nat (x : Int) {n : Nat} (hn : 1 ≤ n) : ∃ j : Nat, x % (n : Int) = j ∧ j < n := by
  have h1 := Int.emod_nonneg x (show (n : Int) ≠ 0 by omega)
  have h2 := Int.emod_lt_of_pos x (show (0 : Int) < n by omega)
  exact ⟨(x % (n : Int)).toNat, by omega, by omega⟩

theorem around_any (x n : Int) (w : World) (hn : 1 ≤ n) (hn2 : n ≤ 1000000) :
    Calls Tryz.prog 69 #[.int .i64 x, .int .i64 n] w fun e w' => e = .returned (.int .i64 (x % n)) ∧ w = w' := by
  obtain ⟨h1, h2, h3, h4⟩ := emod_of_tmod (x := x) hn
  have H3 := Lib.hid h3
  have H4 := Lib.hid h4
  clear h3 h4
  have hn0 : ¬ n = 0 := by omega
  by_cases h : x.tmod n < 0
  · go_enter Tryz.func69, Tryz.ntmps69
    go_wp2
    go_ret
    exact ⟨ret_i (H4.out h).symm, rfl⟩
  · go_enter Tryz.func69, Tryz.ntmps69
    go_wp2
    go_ret
    exact ⟨ret_i (H3.out (by omega)).symm, rfl⟩

/-- The list that is turned, and its mirror image. -/
def mvTo (zs : List Int) (by' : Int) (m : Nat) : List Int := (List.range m).map fun k : Nat => zs[(((k : Int) - by') % (zs.length : Int)).toNat]?.getD 0
def mvL (zs : List Int) (by' : Int) : List Int := mvTo zs by' zs.length
def imgTo (zs : List Int) (m : Nat) : List Int := (List.range m).map fun k : Nat => zs[((-(k : Int)) % (zs.length : Int)).toNat]?.getD 0
def imgL (zs : List Int) : List Int := imgTo zs zs.length
theorem mvTo_succ (zs : List Int) (by' : Int) (m : Nat) : mvTo zs by' (m + 1) = mvTo zs by' m ++ [zs[(((m : Int) - by') % (zs.length : Int)).toNat]?.getD 0] := by
  simp [mvTo, List.range_succ]
theorem imgTo_succ (zs : List Int) (m : Nat) : imgTo zs (m + 1) = imgTo zs m ++ [zs[((-(m : Int)) % (zs.length : Int)).toNat]?.getD 0] := by
  simp [imgTo, List.range_succ]

end Go.Proofs.YtkjgcmdabelohaaGreat

namespace Go.Proofs.YtkjgcmdabelohaaGreat
open Go.RowKit

theorem beq_false_at {xs ys : List Int} {k : Nat} (hne : xs[k]?.getD 0 ≠ ys[k]?.getD 0) : (xs == ys) = false := by
  rw [beq_eq_false_iff_ne]
  rintro rfl
  exact hne rfl
theorem beq_true_of {xs ys : List Int} (h : xs.length = ys.length) (he : ∀ j, j < xs.length → xs[j]?.getD 0 = ys[j]?.getD 0) : (xs == ys) = true := by
  rw [beq_iff_eq]
  refine List.ext_getElem h fun j h1 h2 => ?_
  have := he j h1
  simpa [h1, h2] using this

set_option maxHeartbeats 400000 in
theorem same_any (u v : Value) (xs ys : List Int) (w : World) (hu : IsI w u xs) (hv : IsI w v ys) :
    Calls Tryz.prog 11 #[u, v] w fun e w' => e = .returned (.bool (xs == ys)) ∧ Ext w w' := by
  obtain ⟨A, n, c, rfl, hc0, hr, hn⟩ := hu.open_
  obtain ⟨B, m, d, rfl, hd0, hs, hm⟩ := hv.open_
  have HL1 := Lib.hid hr.len
  have HL2 := Lib.hid hs.len
  cases hnm : ((n : Int) != (m : Int))
  · have hnm' : n = m := by
      have := hnm
      simp at this
      omega
    subst hnm'
    go_enter Tryz.func11, Tryz.ntmps11
    go_wp2
    go_loopw [5] (fun i wr => ∃ k : Nat, k ≤ n ∧ i = .int .i64 k ∧ Hid (∀ j, j < k → xs[j]?.getD 0 = ys[j]?.getD 0) ∧ Ext w wr) (fun i _ => n - (intOf i).toNat)
    case atStart => exact ⟨0, by omega, rfl, fun j hj => absurd hj (by omega), Ext.refl _⟩
    case round =>
      obtain ⟨k, hk, rfl, Ha, hx⟩ := hrel
      by_cases hlt : k < n
      · obtain ⟨b, o, rfl, _, hc⟩ := hr.at_ k hlt
        obtain ⟨b', o', rfl, _, hc'⟩ := hs.at_ k hlt
        have hc1 := hx.cell_some hc
        have hc2 := hx.cell_some hc'
        clear hc hc'
        by_cases he : xs[k]?.getD 0 = ys[k]?.getD 0
        · have he' := Lib.hid he
          have hne : (xs[k]?.getD 0 != ys[k]?.getD 0) = false := by simp [he]
          clear he
          go_wp2_with fail
          go_quiet (fail)
          go_wp2_with fail
          go_roundw
          case rel =>
            refine ⟨k + 1, by omega, by go_num, fun j hj => ?_, hx.drewN _⟩
            rcases (by omega : j < k ∨ j = k) with h | rfl
            · exact Ha.out j h
            · exact he'.out
          case measure => simp [intOf]; omega
        · have he' := Lib.hid he
          have hne : (xs[k]?.getD 0 != ys[k]?.getD 0) = true := by simp [he]
          clear he
          go_wp2_with fail
          go_quiet (fail)
          go_wp2_with fail
          go_ret
          exact ⟨ret_b (beq_false_at he'.out).symm, hx.drewN _⟩
      · go_wp2
        go_ret
        exact ⟨ret_b (beq_true_of (HL1.out.trans HL2.out.symm) (by rw [HL1.out]; intro j hj; exact Ha.out j (by omega))).symm, hx⟩
  · go_enter Tryz.func11, Tryz.ntmps11
    go_wp2
    go_ret
    refine ⟨ret_b ?_, Ext.refl _⟩
    symm
    rw [beq_eq_false_iff_ne]
    rintro rfl
    have := HL1.out.symm.trans HL2.out
    subst this
    simp at hnm

set_option maxHeartbeats 400000 in
theorem equal_any (u v : Value) (xs ys : List Int) (w : World) (hu : IsI w u xs) (hv : IsI w v ys) :
    Calls Tryz.prog 76 #[u, v] w fun e w' => e = .returned (.bool (xs == ys)) ∧ Ext w w' := by
  obtain ⟨A, n, c, rfl, hc0, hr, hn⟩ := hu.open_
  obtain ⟨B, m, d, rfl, hd0, hs, hm⟩ := hv.open_
  have HL1 := Lib.hid hr.len
  have HL2 := Lib.hid hs.len
  cases hnm : ((n : Int) != (m : Int))
  · have hnm' : n = m := by
      have := hnm
      simp at this
      omega
    subst hnm'
    go_enter Tryz.func76, Tryz.ntmps76
    go_wp2
    go_loopw [13, 5] (fun i _ wr => ∃ k : Nat, k ≤ n ∧ i = .int .i64 k ∧ Hid (∀ j, j < k → xs[j]?.getD 0 = ys[j]?.getD 0) ∧ Ext w wr) (fun i _ _ => n - (intOf i).toNat)
    case atStart => exact ⟨0, by omega, rfl, fun j hj => absurd hj (by omega), Ext.refl _⟩
    case round =>
      obtain ⟨k, hk, rfl, Ha, hx⟩ := hrel
      by_cases hlt : k < n
      · obtain ⟨b, o, rfl, _, hc⟩ := hr.at_ k hlt
        obtain ⟨b', o', rfl, _, hc'⟩ := hs.at_ k hlt
        have hc1 := hx.cell_some hc
        have hc2 := hx.cell_some hc'
        clear hc hc'
        by_cases he : xs[k]?.getD 0 = ys[k]?.getD 0
        · have he' := Lib.hid he
          have hne : (xs[k]?.getD 0 != ys[k]?.getD 0) = false := by simp [he]
          clear he
          go_wp2_with fail
          go_quiet (fail)
          go_wp2_with fail
          go_roundw
          case rel =>
            refine ⟨k + 1, by omega, by go_num, fun j hj => ?_, hx.drewN _⟩
            rcases (by omega : j < k ∨ j = k) with h | rfl
            · exact Ha.out j h
            · exact he'.out
          case measure => simp [intOf]; omega
        · have he' := Lib.hid he
          have hne : (xs[k]?.getD 0 != ys[k]?.getD 0) = true := by simp [he]
          clear he
          go_wp2_with fail
          go_quiet (fail)
          go_wp2_with fail
          go_ret
          exact ⟨ret_b (beq_false_at he'.out).symm, hx.drewN _⟩
      · go_wp2
        go_ret
        exact ⟨ret_b (beq_true_of (HL1.out.trans HL2.out.symm) (by rw [HL1.out]; intro j hj; exact Ha.out j (by omega))).symm, hx⟩
  · go_enter Tryz.func76, Tryz.ntmps76
    go_wp2
    go_ret
    refine ⟨ret_b ?_, Ext.refl _⟩
    symm
    rw [beq_eq_false_iff_ne]
    rintro rfl
    have := HL1.out.symm.trans HL2.out
    subst this
    simp at hnm

theorem Great_any (v : Value) (zs : List Int) (w : World) (hv : IsI w v zs) :
    Calls Tryz.prog 20 #[v] w fun e w' => e = .returned (.bool (decide (120 < zs.length))) ∧ w = w' := by
  obtain ⟨A, n, c, rfl, hc0, hr, hn⟩ := hv.open_
  have HL1 := Lib.hid hr.len
  by_cases h : 120 < n
  all_goals
    go_enter Tryz.func20, Tryz.ntmps20
    go_wp2
    go_ret
    refine ⟨ret_b ?_, rfl⟩
    rw [HL1.out]
    simp [h]
    try omega
end Go.Proofs.YtkjgcmdabelohaaGreat
