/- lathe.every with Spell's closure. Condition: the table reads. -/
import Derived.Test.YtkjgcmdabelohaaTEvery
import Derived.Test.YtkjgcmdabelohaaTMaskW
namespace Go.Proofs.Ytkjgcmdabelohaa
open Go.RowKit

set_option maxHeartbeats 1000000 in
theorem spell1_any (A : Option Addr) (k c : Nat) (size : Int) (m : Nat) (P1 P2 : Addr) (w : World) (h1 : w.cell? P1 = some (.int .i64 size)) (h2 : w.cell? P2 = some (.int .i64 (m : Int))) (s1 : 0 ≤ size) (s2 : size ≤ 1000) (s3 : m ≤ 1000) :
    Calls Try.prog 49 #[.slice A k c, .pointer (some P1), .pointer (some P2)] w fun e w' => e = .returned (.bool (decide (size * (4 * (m : Int) - 1) ≤ (k : Int)))) ∧ Ext w w' := by
  have HW := Lib.hid fun W : World => wide_any size m W s1 s2 s3
  obtain ⟨wd, hwd⟩ : ∃ z, z = size * (4 * (m : Int) - 1) := ⟨_, rfl⟩
  rw [← hwd] at HW ⊢
  clear hwd
  go_enter Try.func49, Try.ntmps49
  go_wp2_with fail
  refine (HW.out _).mono ?_
  rintro e W1 ⟨rfl, x1⟩
  go_wp2_with fail
  go_ret
  exact ⟨rfl, x1⟩
set_option maxHeartbeats 4000000 in
theorem everyB_any (v : Value) (xss : List (List Bool)) (size : Int) (m : Nat) (b1 b2 : Nat) (w : World) (ht : TabIs rowsK boolK w v xss) (h1 : w.cell? ⟨b1, 0, none⟩ = some (.int .i64 size)) (h2 : w.cell? ⟨b2, 0, none⟩ = some (.int .i64 (m : Int))) (s1 : 0 ≤ size) (s2 : size ≤ 1000) (s3 : m ≤ 1000) :
    Calls Try.prog 48 #[v, .func (.func 49) #[] #[.pointer (some ⟨b1, 0, none⟩), .pointer (some ⟨b2, 0, none⟩)]] w fun e w' => e = .returned (.bool (xss.all fun l => decide (size * (4 * (m : Int) - 1) ≤ (l.length : Int)))) ∧ Ext w w' := by
  obtain ⟨Ts, hT, hTl, hrow⟩ := ht
  obtain ⟨A, n, c, rfl, hn, -, hr, hm⟩ := hT.open_
  have HR := Lib.hid hr
  have HN := Lib.hid (hTl.symm.trans hn)
  have HTN := Lib.hid hn
  have HRO := Lib.hid hrow
  have HM := Lib.hid fun (A : Option Addr) (k c : Nat) (W : World) (x : Ext w W) => spell1_any A k c size m ⟨b1, 0, none⟩ ⟨b2, 0, none⟩ W (x.cell_some h1) (x.cell_some h2) s1 s2 s3
  clear hr hn hT hTl hrow h1 h2
  go_enter Try.func48, Try.ntmps48
  go_wp2_with fail
  go_loopw [9] (fun iv wr => ∃ i : Nat, i ≤ n ∧ iv = .int .i64 (i : Int) ∧ Hid (∀ j (hj : j < xss.length), j < i → decide (size * (4 * (m : Int) - 1) ≤ (xss[j].length : Int)) = true) ∧ Ext w wr) (fun iv _ => n - (intOf iv).toNat)
  case atStart => exact ⟨0, by omega, rfl, Lib.hid (fun j hj h => by omega), by (repeat' (first | with_reducible exact Ext.refl _ | with_reducible apply Ext.alloc | with_reducible apply Ext.drew | with_reducible apply Ext.drewN | with_reducible refine Ext.setCell ?_ ?_ _ | with_reducible apply Ext.step | with_reducible assumption | with_reducible exact Nat.le_refl _ | (simp; done) | (simp; omega)))⟩
  case round =>
    obtain ⟨i, hi, rfl, Ha, hx⟩ := hrel
    have HX := Lib.hid hx
    by_cases hlt : i < n
    · have hl : i < xss.length := by rw [HN.out]; exact hlt
      have hlT : i < Ts.length := by rw [HTN.out]; exact hlt
      obtain ⟨b, o, rfl, hb, hc⟩ := HR.out i hlT
      have r0 : w.cell? ⟨b, o + i, none⟩ = some (rowH Ts[i]) := by have h3 := hc 0 _ rfl; rw [show rowsK.k = 1 from rfl, Nat.mul_one, Nat.add_zero] at h3; exact h3
      replace r0 := hx.cell_some r0
      have lc := cell_lt r0
      have hlen : Ts[i].2.1 = xss[i].length := by
        obtain ⟨_, _, he, _⟩ := HRO.out i hlT hl
        simp only [rowH, Value.slice.injEq] at he
        exact he.2.1
      have HLN := Lib.hid hlen
      obtain ⟨T, hT⟩ : ∃ T, T = Ts[i] := ⟨_, rfl⟩
      rw [← hT] at r0 HLN
      obtain ⟨T1, T2, T3⟩ := T
      simp only [rowH] at r0 HLN
      clear hx hb hc hlen hT
      go_wp2_with fail
      refine (HM.out _ _ _ _ HX.out).mono ?_
      rintro e W1 ⟨rfl, x1⟩
      have HX1 := Lib.hid (HX.out.trans x1)
      obtain ⟨g, hg⟩ : ∃ g, g = decide (size * (4 * (m : Int) - 1) ≤ (T2 : Int)) := ⟨_, rfl⟩
      rw [← hg]
      have HG := Lib.hid (show decide (size * (4 * (m : Int) - 1) ≤ (xss[i].length : Int)) = g by rw [← HLN.out, hg])
      clear x1 hg r0 lc
      cases g
      · have HF := Lib.hid (show (xss.all fun l => decide (size * (4 * (m : Int) - 1) ≤ (l.length : Int))) = false by
          rw [List.all_eq_false]
          exact ⟨_, List.getElem_mem hl, by rw [HG.out]; simp⟩)
        go_wp2_with fail
        go_ret
        exact ⟨by rw [HF.out]; rfl, HX1.out⟩
      · have HNX := Lib.hid (show ∀ j (hj : j < xss.length), j < i + 1 → decide (size * (4 * (m : Int) - 1) ≤ (xss[j].length : Int)) = true from fun j hj h => by
          rcases (by omega : j < i ∨ j = i) with h1 | rfl
          · exact Ha.out j hj h1
          · exact HG.out)
        go_wp2_with fail
        go_roundw
        case rel => exact ⟨i + 1, by omega, by go_num, HNX, HX1.out⟩
        case measure => simp [intOf]; omega
    · obtain rfl : i = n := by omega
      have HF := Lib.hid (show (xss.all fun l => decide (size * (4 * (m : Int) - 1) ≤ (l.length : Int))) = true by
        rw [List.all_eq_true]
        intro x hx
        obtain ⟨j, hj, rfl⟩ := List.getElem_of_mem hx
        exact Ha.out j hj (by rw [← HN.out]; exact hj))
      clear hx
      go_wp2_with fail
      go_ret
      exact ⟨by rw [HF.out]; rfl, HX.out⟩
end Go.Proofs.Ytkjgcmdabelohaa
