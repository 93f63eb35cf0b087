/- lathe.every: with Mask's closure and with Spell's. Condition: the slices read as lists. -/
import Derived.Test.YtkjgcmdabelohaaTNum
import Derived.Test.YtkjgcmdabelohaaLSameB
namespace Go.Proofs.Ytkjgcmdabelohaa
open Go.RowKit

set_option maxHeartbeats 1000000 in
theorem mask1_any (n : Int) (w : World) : Calls Try.prog 69 #[.int .i64 n] w fun e w' => e = .returned (.bool (inB 0 32767 n)) ∧ Ext w w' := by
  have H := Lib.hid fun W : World => latheWithin_any n 0 32767 W
  go_enter Try.func69, Try.ntmps69
  go_wp2_with fail
  refine (H.out _).mono ?_
  rintro e W1 ⟨rfl, x1⟩
  go_wp2_with fail
  go_ret
  exact ⟨rfl, x1⟩
def gnB (n : Int) : Bool := inB 0 32767 n
set_option maxHeartbeats 4000000 in
theorem everyI_any (u : Value) (ws : List Int) (w : World) (hu : intK.Is w u ws) : Calls Try.prog 68 #[u, .func (.func 69) #[] #[]] w fun e w' => e = .returned (.bool (ws.all gnB)) ∧ Ext w w' := by
  obtain ⟨A, n, c, rfl, hn, -, hr, hm⟩ := hu.open_
  have HR := Lib.hid hr
  have HN := Lib.hid hn
  have HM := Lib.hid fun (x : Int) (W : World) => mask1_any x W
  clear hr hn hu
  go_enter Try.func68, Try.ntmps68
  go_wp2_with fail
  go_loopw [9] (fun iv wr => ∃ i : Nat, i ≤ n ∧ iv = .int .i64 (i : Int) ∧ Hid (∀ j (hj : j < ws.length), j < i → gnB ws[j] = true) ∧ Ext w wr) (fun iv _ => n - (intOf iv).toNat)
  case atStart => exact ⟨0, by omega, rfl, Lib.hid (fun j hj h => by omega), by (repeat' (first | with_reducible exact Ext.refl _ | with_reducible apply Ext.alloc | with_reducible apply Ext.drew | with_reducible apply Ext.drewN | with_reducible refine Ext.setCell ?_ ?_ _ | with_reducible apply Ext.step | with_reducible assumption | with_reducible exact Nat.le_refl _ | (simp; done) | (simp; omega)))⟩
  case round =>
    obtain ⟨i, hi, rfl, Ha, hx⟩ := hrel
    have HX := Lib.hid hx
    by_cases hlt : i < n
    · have hl : i < ws.length := by rw [HN.out]; exact hlt
      obtain ⟨b, o, rfl, hb, hc⟩ := ints_at HR.out i hl
      replace hc := hx.cell_some hc
      have lc := cell_lt hc
      obtain ⟨z, hz⟩ : ∃ z, z = ws[i] := ⟨_, rfl⟩
      rw [← hz] at hc
      have HZ := Lib.hid hz
      clear hx hb hz
      go_wp2_with fail
      refine (HM.out _ _).mono ?_
      rintro e W1 ⟨rfl, x1⟩
      have HX1 := Lib.hid (HX.out.trans x1)
      obtain ⟨g, hg⟩ : ∃ g, g = inB 0 32767 z := ⟨_, rfl⟩
      rw [← hg]
      have HG := Lib.hid (show gnB ws[i] = g by rw [← HZ.out, hg]; rfl)
      clear x1 hg hc lc
      cases g
      · have HF := Lib.hid (show ws.all gnB = false by
          rw [List.all_eq_false]
          exact ⟨_, List.getElem_mem hl, by rw [HG.out]; simp⟩)
        go_wp2_with fail
        go_ret
        exact ⟨by rw [HF.out]; rfl, HX1.out⟩
      · have HNX := Lib.hid (show ∀ j (hj : j < ws.length), j < i + 1 → gnB ws[j] = true from fun j hj h => by
          rcases (by omega : j < i ∨ j = i) with h1 | rfl
          · exact Ha.out j hj h1
          · exact HG.out)
        go_wp2_with fail
        go_roundw
        case rel => exact ⟨i + 1, by omega, by go_num, HNX, HX1.out⟩
        case measure => simp [intOf]; omega
    · obtain rfl : i = n := by omega
      have HF := Lib.hid (show ws.all gnB = true by
        rw [List.all_eq_true]
        intro x hx
        obtain ⟨j, hj, rfl⟩ := List.getElem_of_mem hx
        exact Ha.out j hj (by rw [← HN.out]; exact hj))
      clear hx
      go_wp2_with fail
      go_ret
      exact ⟨by rw [HF.out]; rfl, HX.out⟩
end Go.Proofs.Ytkjgcmdabelohaa
