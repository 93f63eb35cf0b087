/- lathe's glyphs read off: number; within, wide. Condition: the number is one of a glyph. -/
import Derived.Test.YtkjgcmdabelohaaTGlyph
namespace Go.Proofs.Ytkjgcmdabelohaa
open Go.RowKit

set_option maxHeartbeats 1000000 in
theorem latheWithin_any (n lo hi : Int) (w : World) : Calls Try.prog 47 #[.int .i64 n, .int .i64 lo, .int .i64 hi] w fun e w' => e = .returned (.bool (inB lo hi n)) ∧ Ext w w' := by
  by_cases h1 : lo ≤ n
  · by_cases h2 : n ≤ hi
    · have hb := Lib.hid (inB_iff.2 ⟨h1, h2⟩)
      go_enter Try.func47, Try.ntmps47
      go_wp2_with fail
      go_ret
      exact ⟨by rw [hb.out]; rfl, by (repeat' (first | with_reducible exact Ext.refl _ | with_reducible apply Ext.alloc | with_reducible apply Ext.drew | with_reducible apply Ext.drewN | with_reducible refine Ext.setCell ?_ ?_ _ | with_reducible apply Ext.step | with_reducible assumption | with_reducible exact Nat.le_refl _ | (simp; done) | (simp; omega)))⟩
    · have hb := Lib.hid (show inB lo hi n = false by unfold inB; simp [h1, h2])
      go_enter Try.func47, Try.ntmps47
      go_wp2_with fail
      go_ret
      exact ⟨by rw [hb.out]; rfl, by (repeat' (first | with_reducible exact Ext.refl _ | with_reducible apply Ext.alloc | with_reducible apply Ext.drew | with_reducible apply Ext.drewN | with_reducible refine Ext.setCell ?_ ?_ _ | with_reducible apply Ext.step | with_reducible assumption | with_reducible exact Nat.le_refl _ | (simp; done) | (simp; omega)))⟩
  · have hb := Lib.hid (show inB lo hi n = false by unfold inB; simp [h1])
    go_enter Try.func47, Try.ntmps47
    go_wp2_with fail
    go_ret
    exact ⟨by rw [hb.out]; rfl, by (repeat' (first | with_reducible exact Ext.refl _ | with_reducible apply Ext.alloc | with_reducible apply Ext.drew | with_reducible apply Ext.drewN | with_reducible refine Ext.setCell ?_ ?_ _ | with_reducible apply Ext.step | with_reducible assumption | with_reducible exact Nat.le_refl _ | (simp; done) | (simp; omega)))⟩
set_option maxHeartbeats 1000000 in
theorem wide_any (size : Int) (m : Nat) (w : World) (h1 : 0 ≤ size) (h2 : size ≤ 1000) (h3 : m ≤ 1000) : Calls Try.prog 50 #[.int .i64 size, .int .i64 (m : Int)] w fun e w' => e = .returned (.int .i64 (size * (4 * (m : Int) - 1))) ∧ Ext w w' := by
  have hp : -1000 ≤ size * (4 * (m : Int) - 1) ∧ size * (4 * (m : Int) - 1) ≤ 4000000 := by
    have e := Int.mul_sub size (4 * (m : Int)) 1
    have e2 : 0 ≤ size * (4 * (m : Int)) := Int.mul_nonneg h1 (by omega)
    have e3 : size * (4 * (m : Int)) ≤ 1000 * (4 * (m : Int)) := Int.mul_le_mul_of_nonneg_right h2 (by omega)
    omega
  have w1 : IntKind.i64.wrap (4 * (m : Int)) = 4 * (m : Int) := IntWalk.i64_in _ (by omega)
  have w2 : IntKind.i64.wrap (4 * (m : Int) - 1) = 4 * (m : Int) - 1 := IntWalk.i64_in _ (by omega)
  have w3 : IntKind.i64.wrap (size * (4 * (m : Int) - 1)) = size * (4 * (m : Int) - 1) := IntWalk.i64_in _ (by omega)
  go_enter Try.func50, Try.ntmps50
  go_wp2_with fail
  go_ret
  exact ⟨rfl, by (repeat' (first | with_reducible exact Ext.refl _ | with_reducible apply Ext.alloc | with_reducible apply Ext.drew | with_reducible apply Ext.drewN | with_reducible refine Ext.setCell ?_ ?_ _ | with_reducible apply Ext.step | with_reducible assumption | with_reducible exact Nat.le_refl _ | (simp; done) | (simp; omega)))⟩
set_option maxRecDepth 1000000 in
theorem idx_row {g : Nat → Value} (s : Nat) (h : s < 5) (W : World) : Sem.run Try.prog (Instr.index 112 (.agg #[g 0, g 1, g 2, g 3, g 4, g 5, g 6, g 7, g 8, g 9, g 10, g 11, g 12, g 13, g 14]) (.int .i64 (s : Int))) W = .ok (.agg #[g (3 * s), g (3 * s + 1), g (3 * s + 2)]) W := by
  rcases (by omega : s = 0 ∨ s = 1 ∨ s = 2 ∨ s = 3 ∨ s = 4) with rfl | rfl | rfl | rfl | rfl <;> rfl
set_option maxRecDepth 1000000 in
theorem idx_cell {x y z : Value} (j : Nat) (h : j < 3) (W : World) : Sem.run Try.prog (Instr.index 110 (.agg #[x, y, z]) (.int .i64 (j : Int))) W = .ok (if j = 0 then x else if j = 1 then y else z) W := by
  rcases (by omega : j = 0 ∨ j = 1 ∨ j = 2) with rfl | rfl | rfl <;> rfl
theorem gcell_full {n s j : Nat} : gcell n 15 (3 * s + j) = .bool (gbit n s j) := by
  unfold gcell gbit
  rw [show decide (15 - 15 ≤ 3 * s + j) = true from decide_eq_true (by omega), Bool.true_and]
set_option maxRecDepth 100000 in
set_option maxHeartbeats 4000000 in
theorem number_any (n : Nat) (w : World) (hn : n < 2 ^ 15) : Calls Try.prog 51 #[glyphV n] w fun e w' => e = .returned (.int .i64 (n : Int)) ∧ Ext w w' := by
  have HB := Lib.hid (BoxAt.new w (gcells n 15) 112)
  go_enter Try.func51, Try.ntmps51
  go_upto_region 2 with fail
  refine lay_wp (fun W => BoxAt w.heap.size (gcells n 15) 112 W ∧ Ext w W) ⟨HB.out, by (repeat' (first | with_reducible exact Ext.refl _ | with_reducible apply Ext.alloc | with_reducible apply Ext.drew | with_reducible apply Ext.drewN | with_reducible refine Ext.setCell ?_ ?_ _ | with_reducible apply Ext.step | with_reducible assumption | with_reducible exact Nat.le_refl _ | (simp; done) | (simp; omega)))⟩ ?_
  rintro W1 ⟨b1, x1⟩
  have HX1 := Lib.hid x1
  have g0 := b1.cell (i := 0) (gcells_at (n := n) (m := 15) (c := 0) (by decide))
  have g1 := b1.cell (i := 1) (gcells_at (n := n) (m := 15) (c := 1) (by decide))
  have g2 := b1.cell (i := 2) (gcells_at (n := n) (m := 15) (c := 2) (by decide))
  have g3 := b1.cell (i := 3) (gcells_at (n := n) (m := 15) (c := 3) (by decide))
  have g4 := b1.cell (i := 4) (gcells_at (n := n) (m := 15) (c := 4) (by decide))
  have g5 := b1.cell (i := 5) (gcells_at (n := n) (m := 15) (c := 5) (by decide))
  have g6 := b1.cell (i := 6) (gcells_at (n := n) (m := 15) (c := 6) (by decide))
  have g7 := b1.cell (i := 7) (gcells_at (n := n) (m := 15) (c := 7) (by decide))
  have g8 := b1.cell (i := 8) (gcells_at (n := n) (m := 15) (c := 8) (by decide))
  have g9 := b1.cell (i := 9) (gcells_at (n := n) (m := 15) (c := 9) (by decide))
  have g10 := b1.cell (i := 10) (gcells_at (n := n) (m := 15) (c := 10) (by decide))
  have g11 := b1.cell (i := 11) (gcells_at (n := n) (m := 15) (c := 11) (by decide))
  have g12 := b1.cell (i := 12) (gcells_at (n := n) (m := 15) (c := 12) (by decide))
  have g13 := b1.cell (i := 13) (gcells_at (n := n) (m := 15) (c := 13) (by decide))
  have g14 := b1.cell (i := 14) (gcells_at (n := n) (m := 15) (c := 14) (by decide))
  have lg := cell_lt g0
  clear b1 x1 HB
  go_wp2_with fail
  clear g0 g1 g2 g3 g4 g5 g6 g7 g8 g9 g10 g11 g12 g13 g14 lg
  go_loopw [9, 3] (fun rv nv W => ∃ s : Nat, s ≤ 5 ∧ rv = .int .i64 (s : Int) ∧ nv = .int .i64 ((numTo n (3 * s) : Nat) : Int) ∧ Ext w W) (fun rv _ _ => 5 - (intOf rv).toNat)
  case atStart => exact ⟨0, by omega, rfl, rfl, HX1.out⟩
  case round =>
    obtain ⟨s, hs, rfl, rfl, hx⟩ := hrel
    have HX := Lib.hid hx
    by_cases hlt : s < 5
    · have HIR := Lib.hid (fun W : World => (show Sem.run Try.prog (Instr.index 112 (.agg #[gcell n 15 0, gcell n 15 1, gcell n 15 2, gcell n 15 3, gcell n 15 4, gcell n 15 5, gcell n 15 6, gcell n 15 7, gcell n 15 8, gcell n 15 9, gcell n 15 10, gcell n 15 11, gcell n 15 12, gcell n 15 13, gcell n 15 14]) (.int .i64 (s : Int))) W = .ok (.agg #[.bool (gbit n s 0), .bool (gbit n s 1), .bool (gbit n s 2)]) W from by
        have := idx_row (g := gcell n 15) s hlt W
        rwa [gcell_full, gcell_full, show gcell n 15 (3 * s) = .bool (gbit n s 0) from gcell_full (j := 0)] at this))
      have hir := HIR.out
      have hsi : (s : Int) < 5 := by omega
      obtain ⟨acc, hacc⟩ : ∃ z, z = numTo n (3 * s) := ⟨_, rfl⟩
      have HACC := Lib.hid hacc
      rw [← hacc]
      clear hx hacc
      obtain ⟨wo, rfl⟩ : ∃ wo, wo = wr := ⟨_, rfl⟩
      go_wp2_with fail
      clear hir
      go_loopw [13, 3] (fun kv nv W => ∃ j : Nat, j ≤ 3 ∧ kv = .int .i64 (j : Int) ∧ nv = .int .i64 ((numTo n (3 * s + j) : Nat) : Int) ∧ Ext w W) (fun kv _ _ => 3 - (intOf kv).toNat)
      case atStart => exact ⟨0, by omega, rfl, by rw [HACC.out]; rfl, HX.out.trans (by (repeat' (first | with_reducible exact Ext.refl _ | with_reducible apply Ext.alloc | with_reducible apply Ext.drew | with_reducible apply Ext.drewN | with_reducible refine Ext.setCell ?_ ?_ _ | with_reducible apply Ext.step | with_reducible assumption | with_reducible exact Nat.le_refl _ | (simp; done) | (simp; omega))))⟩
      case round =>
        obtain ⟨j, hj, rfl, rfl, hx⟩ := hrel
        have HXJ := Lib.hid hx
        by_cases hlj : j < 3
        · have hir := fun W : World => idx_cell (x := .bool (gbit n s 0)) (y := .bool (gbit n s 1)) (z := .bool (gbit n s 2)) j hlj W
          have hji : (j : Int) < 3 := by omega
          obtain ⟨x, hxx⟩ : ∃ z, z = numTo n (3 * s + j) := ⟨_, rfl⟩
          obtain ⟨b, hb⟩ : ∃ b, b = gbit n s j := ⟨_, rfl⟩
          have hbv : (if j = 0 then (Value.bool (gbit n s 0)) else if j = 1 then .bool (gbit n s 1) else .bool (gbit n s 2)) = .bool b := by
            rw [hb]
            rcases (by omega : j = 0 ∨ j = 1 ∨ j = 2) with rfl | rfl | rfl <;> rfl
          simp only [hbv] at hir
          have HST := Lib.hid (show numTo n (3 * s + (j + 1)) = 2 * x + if b = true then 1 else 0 from by
            rw [show 3 * s + (j + 1) = (3 * s + j) + 1 by omega, numTo, ← hxx, show (3 * s + j) / 3 = s by omega, show (3 * s + j) % 3 = j by omega, ← hb])
          have hxb : x < 32768 := by
            rw [hxx, numTo_eq hn _ (by omega)]
            exact Nat.lt_of_le_of_lt (Nat.div_le_self _ _) hn
          rw [← hxx]
          clear hx hxx hb hbv
          have hor : bits BinOp.or IntKind.i64 ((x : Int) * 2) 1 = (x : Int) * 2 + 1 := by
            have h1 := bits_or_i64_nat (2 ^ 1 * x) 1 (by omega) (by decide)
            rw [← Nat.two_pow_add_eq_or_of_lt (i := 1) (by decide)] at h1
            rw [show (x : Int) * 2 = ((2 ^ 1 * x : Nat) : Int) by omega]
            rw [show ((1 : Nat) : Int) = 1 from rfl] at h1
            rw [h1]
            omega
          cases b
          · have HV := Lib.hid (show ((x : Int) * 2) = ((numTo n (3 * s + (j + 1)) : Nat) : Int) by rw [HST.out]; simp; omega)
            go_wp2_with fail
            go_roundw
            case rel => exact ⟨j + 1, by omega, by go_num, congrArg _ HV.out, HXJ.out⟩
            case measure => simp [intOf]; omega
          · have HV := Lib.hid (show ((x : Int) * 2 + 1) = ((numTo n (3 * s + (j + 1)) : Nat) : Int) by rw [HST.out]; simp; omega)
            go_wp2_with fail
            go_roundw
            case rel => exact ⟨j + 1, by omega, by go_num, congrArg _ HV.out, HXJ.out⟩
            case measure => simp [intOf]; omega
        · obtain rfl : j = 3 := by omega
          clear hx
          go_wp2_with fail
          go_roundw
          case rel => exact ⟨s + 1, by omega, by go_num, rfl, HXJ.out⟩
          case measure => simp [intOf]; omega
    · obtain rfl : s = 5 := by omega
      clear hx
      have HV := Lib.hid (numTo_all hn)
      go_wp2_with fail
      go_ret
      exact ⟨congrArg (fun z : Nat => Ending.returned (.int .i64 (z : Int))) HV.out, HX.out⟩
end Go.Proofs.Ytkjgcmdabelohaa
