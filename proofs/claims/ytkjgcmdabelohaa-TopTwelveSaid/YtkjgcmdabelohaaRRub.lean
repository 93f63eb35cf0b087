/- rosette.CheckRubber and the reference's. Condition: the slice reads as a list. -/
import Derived.Test.YtkjgcmdabelohaaRCheck
import Derived.Laws.Bits64b
namespace Go.Proofs.Ytkjgcmdabelohaa
open Go.RowKit

def rubberB (ys : List Int) (n : Int) : Bool := decide (ys.length % 2 = 1) && decide ((ys.length : Int) ≤ n) && decide (ys.length ≤ 31) && allB 0 10000 ys && decide (ys[ys.length / 2]?.getD 0 = 0)
def rubberE (ys : List Int) (n : Int) : Int := if rubberB ys n then 0 else 31

theorem bits_low (n : Nat) (h : n ≤ 9223372036854775807) : bits .and .i64 (n : Int) 1 = ((n % 2 : Nat) : Int) := by
  have h1 : (BitVec.ofInt 64 (n : Int)).toNat = n := by
    rw [BitVec.ofInt_natCast, BitVec.toNat_ofNat]; exact Nat.mod_eq_of_lt (by omega)
  have h2 : (BitVec.ofInt 64 (1 : Int)).toNat = 1 := by decide
  have h3 : n &&& 1 = n % 2 := Nat.and_two_pow_sub_one_eq_mod n 1
  show IntKind.i64.wrap ((BitVec.ofInt 64 (n : Int) &&& BitVec.ofInt 64 (1 : Int)).toNat : Int) = _
  rw [BitVec.toNat_and, h1, h2, h3]
  rcases (by omega : n % 2 = 0 ∨ n % 2 = 1) with e | e <;> rw [e] <;> decide

set_option maxRecDepth 100000 in
set_option maxHeartbeats 1000000 in
theorem checkRubber_any (v : Value) (ys : List Int) (x : Int) (w : World) (hv : IsI w v ys) :
    Calls Try.prog 29 #[v, .int .i64 x] w fun e w' => e = .returned (.int .i64 (rubberE ys x)) ∧ w = w' := by
  obtain ⟨A, n, c, rfl, hc0, hr, hn⟩ := hv.open_
  have HL := Lib.hid hr.len
  have H := Lib.hid (containsOdd_any A n c ys w hr)
  have hb := bits_low n hn
  cases h1 : decide (n % 2 = 1)
  · have e0 : n % 2 = 0 := by simp at h1; omega
    rw [e0] at hb
    go_enter Try.func29, Try.ntmps29
    go_wp2_with fail
    go_ret
    refine ⟨ret_i ?_, rfl⟩
    rw [rubberE, rubberB, HL.out, h1]
    rfl
  have e1 : n % 2 = 1 := by simpa using h1
  have hmid := hr.at_ (n / 2) (by omega)
  obtain ⟨b, o, rfl, _, hc⟩ := hmid
  rw [e1] at hb
  cases h2 : decide (x < (n : Int))
  rotate_left
  · go_enter Try.func29, Try.ntmps29
    go_wp2_with fail
    go_ret
    refine ⟨ret_i ?_, rfl⟩
    have h2' : ((n : Int) ≤ x) = False := by simp at h2 ⊢; omega
    rw [rubberE, rubberB, HL.out, h1]
    simp [h2']
  cases h3 : decide (31 < (n : Int))
  rotate_left
  · go_enter Try.func29, Try.ntmps29
    go_wp2_with fail
    go_ret
    refine ⟨ret_i ?_, rfl⟩
    have h3' : (n ≤ 31) = False := by simp at h3 ⊢; omega
    rw [rubberE, rubberB, HL.out, h1]
    simp [h3']
  have h2' : (n : Int) ≤ x := by simpa using h2
  have h3' : n ≤ 31 := by simp at h3; omega
  have HR := Lib.hid (show rubberE ys x = if (allB 0 10000 ys && decide (ys[n / 2]?.getD 0 = 0)) = true then 0 else 31 by
    rw [rubberE, rubberB, HL.out]
    simp [h2', h3', e1])
  cases h4 : allB 0 10000 ys
  · rw [h4] at H HR
    go_enter Try.func29, Try.ntmps29
    go_wp2_with (go_at_call 32; refine H.out.mono ?_; rintro e w' ⟨rfl, rfl⟩)
    go_ret
    exact ⟨ret_i HR.out.symm, rfl⟩
  · have hp : 0 ≤ ys[n / 2]?.getD 0 := by
      have hl : n / 2 < ys.length := by rw [HL.out]; omega
      have := List.all_eq_true.1 h4 ys[n / 2] (List.getElem_mem hl)
      rw [List.getElem?_eq_getElem hl]
      exact (inB_iff.1 this).1
    rw [h4] at H HR
    cases h5 : decide (0 < ys[n / 2]?.getD 0)
    all_goals
      go_enter Try.func29, Try.ntmps29
      go_wp2_with (go_at_call 32; refine H.out.mono ?_; rintro e w' ⟨rfl, rfl⟩)
      go_ret
      refine ⟨ret_i ?_, rfl⟩
      rw [HR.out]
      simp at h5 ⊢
      omega

end Go.Proofs.Ytkjgcmdabelohaa
