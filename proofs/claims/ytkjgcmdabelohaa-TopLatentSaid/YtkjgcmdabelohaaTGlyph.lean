/- lathe's glyphs: glyphOf, number, within, wide. Condition: the number is one of a glyph. -/
import Derived.Test.YtkjgcmdabelohaaTMask
import Derived.Test.YtkjgcmdabelohaaTTab
import Derived.Test.YtkjgcmdabelohaaGAppD
import Derived.LoopN
import Derived.Deep.Cut
namespace Go.Proofs.Ytkjgcmdabelohaa
open Go.RowKit

/-- The cells of a glyph, when m of its bits are set, from the last one on. -/
def gcell (n m c : Nat) : Value := .bool (decide (15 - m ≤ c) && decide (n / 2 ^ (14 - c) % 2 = 1))
def gcells (n m : Nat) : Array Value := ((List.range 15).map (gcell n m)).toArray
theorem gcells_at {n m c : Nat} (h : c < 15) : (gcells n m).toList[c]? = some (gcell n m c) := by simp [gcells, h]
theorem gcells_step {n m c : Nat} (hc : c + m = 14) : (gcells n m).setIfInBounds c (.bool (decide (n / 2 ^ m % 2 = 1))) = gcells n (m + 1) := by
  apply Array.ext
  · simp [gcells]
  · intro i h1 h2
    have hi : i < 15 := by simpa [gcells] using h2
    have h3 : i < (gcells n m).size := by simpa [gcells] using hi
    rw [Array.getElem_setIfInBounds h3]
    split
    · rename_i e
      subst e
      simp only [gcells, List.getElem_toArray, List.getElem_map, List.getElem_range, gcell]
      rw [show 14 - c = m by omega, show decide (15 - (m + 1) ≤ c) = true from decide_eq_true (by omega), Bool.true_and]
    · rename_i e
      simp only [gcells, List.getElem_toArray, List.getElem_map, List.getElem_range, gcell]
      rw [show decide (15 - (m + 1) ≤ i) = decide (15 - m ≤ i) from decide_eq_decide.2 (by omega)]
theorem bits_and_i64_nat (a b : Nat) (ha : a < 9223372036854775808) (hb : b < 9223372036854775808) : bits .and .i64 (a : Int) (b : Int) = ((a &&& b : Nat) : Int) := by
  show IntKind.i64.wrap ((BitVec.ofInt 64 (a : Int) &&& BitVec.ofInt 64 (b : Int)).toNat : Int) = _
  rw [BitVec.ofInt_natCast, BitVec.ofInt_natCast, BitVec.toNat_and, BitVec.toNat_ofNat, BitVec.toNat_ofNat, Nat.mod_eq_of_lt (by omega), Nat.mod_eq_of_lt (by omega)]
  have h1 : a &&& b ≤ a := Nat.and_le_left
  exact IntWalk.i64_in _ (by omega)
theorem bits_or_i64_nat (a b : Nat) (ha : a < 4611686018427387904) (hb : b < 4611686018427387904) : bits .or .i64 (a : Int) (b : Int) = ((a ||| b : Nat) : Int) := by
  show IntKind.i64.wrap ((BitVec.ofInt 64 (a : Int) ||| BitVec.ofInt 64 (b : Int)).toNat : Int) = _
  rw [BitVec.ofInt_natCast, BitVec.ofInt_natCast, BitVec.toNat_or, BitVec.toNat_ofNat, BitVec.toNat_ofNat, Nat.mod_eq_of_lt (by omega), Nat.mod_eq_of_lt (by omega)]
  have h1 : a ||| b < 2 ^ 62 := Nat.or_lt_two_pow ha hb
  exact IntWalk.i64_in _ (by omega)
/-- A glyph as a value. -/
def glyphV (n : Nat) : Value := .agg (gcells n 15)
set_option maxRecDepth 100000 in
set_option maxHeartbeats 4000000 in
theorem glyphOf_any (n : Nat) (w : World) (hn : n < 2 ^ 15) : Calls Try.prog 70 #[.int .i64 (n : Int)] w fun e w' => e = .returned (glyphV n) ∧ Ext w w' := by
  have HZ := Lib.hid (show BoxAt (w.heap.size + 1) (gcells n 0) 112 ((w.alloc (.cells (gcells n 0) 112)).alloc (.cells (gcells n 0) 112)) from by
    have := BoxAt.new (w.alloc (.cells (gcells n 0) 112)) (gcells n 0) 112
    simpa using this)
  have h0 : gcells n 0 = #[.bool false, .bool false, .bool false, .bool false, .bool false, .bool false, .bool false, .bool false, .bool false, .bool false, .bool false, .bool false, .bool false, .bool false, .bool false] := by
    unfold gcells gcell
    simp [List.range, List.range.loop]
  rw [h0] at HZ
  have HZE := Lib.hid h0
  go_enter Try.func70, Try.ntmps70
  clear h0
  go_wp2_with fail
  refine lay_wp (fun W => BoxAt (w.heap.size + 1) (gcells n 0) 112 W ∧ BoxAt w.heap.size #[.bool false, .bool false, .bool false, .bool false, .bool false, .bool false, .bool false, .bool false, .bool false, .bool false, .bool false, .bool false, .bool false, .bool false, .bool false] 112 W ∧ Ext w W) ⟨by rw [HZE.out]; exact HZ.out, (BoxAt.new w _ _).ext ((Ext.refl _).alloc _), by (repeat' (first | with_reducible exact Ext.refl _ | with_reducible apply Ext.alloc | with_reducible apply Ext.drew | with_reducible apply Ext.drewN | with_reducible refine Ext.setCell ?_ ?_ _ | with_reducible apply Ext.step | with_reducible assumption | with_reducible exact Nat.le_refl _ | (simp; done) | (simp; omega)))⟩ ?_
  rintro W1 ⟨b1, z1, x1⟩
  have HB1 := Lib.hid b1
  have HZ1 := Lib.hid z1
  have HX1 := Lib.hid x1
  clear b1 z1 x1 HZ
  go_loopw [4, 0] (fun rv nv W => ∃ (s : Nat) (z : Int), s ≤ 5 ∧ z = 4 - s ∧ rv = .int .i64 z ∧ nv = .int .i64 ((n / 2 ^ (3 * s) : Nat) : Int) ∧ BoxAt (w.heap.size + 1) (gcells n (3 * s)) 112 W ∧ BoxAt w.heap.size #[.bool false, .bool false, .bool false, .bool false, .bool false, .bool false, .bool false, .bool false, .bool false, .bool false, .bool false, .bool false, .bool false, .bool false, .bool false] 112 W ∧ Ext w W) (fun rv _ _ => (intOf rv + 1).toNat)
  case atStart => exact ⟨0, 4, by omega, by omega, rfl, by simp, HB1.out, HZ1.out, HX1.out⟩
  case round =>
    obtain ⟨s, z, hs, hz, rfl, rfl, hb, hb0, hx⟩ := hrel
    have HB := Lib.hid hb
    have HB0 := Lib.hid hb0
    have HX := Lib.hid hx
    by_cases hz0 : 0 ≤ z
    · obtain ⟨r, rfl⟩ : ∃ r : Nat, z = (r : Int) := ⟨z.toNat, by omega⟩
      have HRS := Lib.hid (show r + s = 4 by omega)
      have hr5 : r < 5 := by omega
      obtain ⟨x, hx0⟩ : ∃ x, x = n / 2 ^ (3 * s) := ⟨_, rfl⟩
      have HX0 := Lib.hid hx0
      rw [← hx0]
      clear hz hz0 hb hb0 hx hx0
      go_wp2_with fail
      go_loopw [5, 0] (fun kv nv W => ∃ (j : Nat) (y : Int), j ≤ 3 ∧ y = 2 - j ∧ kv = .int .i64 y ∧ nv = .int .i64 ((n / 2 ^ (3 * s + j) : Nat) : Int) ∧ BoxAt (w.heap.size + 1) (gcells n (3 * s + j)) 112 W ∧ BoxAt w.heap.size #[.bool false, .bool false, .bool false, .bool false, .bool false, .bool false, .bool false, .bool false, .bool false, .bool false, .bool false, .bool false, .bool false, .bool false, .bool false] 112 W ∧ Ext w W) (fun kv _ _ => (intOf kv + 1).toNat)
      case atStart => exact ⟨0, 2, by omega, by omega, rfl, by rw [HX0.out]; rfl, HB.out, HB0.out, HX.out⟩
      case round =>
        obtain ⟨j, y, hj, hy, rfl, rfl, hb, hb0, hx⟩ := hrel
        have HBJ := Lib.hid hb
        have HBJ0 := Lib.hid hb0
        have HXJ := Lib.hid hx
        by_cases hy0 : 0 ≤ y
        · obtain ⟨k, rfl⟩ : ∃ k : Nat, y = (k : Int) := ⟨y.toNat, by omega⟩
          have hk3 : k < 3 := by omega
          have HCM := Lib.hid (show (r * 3 + k) + (3 * s + j) = 14 by have := HRS.out; omega)
          have HKJ := Lib.hid (show k + j = 2 by omega)
          have c0 := hb.cell (i := r * 3 + k) (gcells_at (by omega))
          have f0 := frozen_of_row wr (w.heap.size + 1) (r * 3 + k) _ _ hb
          have l0 := cell_lt c0
          obtain ⟨u, hu⟩ : ∃ u, u = n / 2 ^ (3 * s + j) := ⟨_, rfl⟩
          have HU := Lib.hid hu
          have hu15 : u < 32768 := by rw [hu]; exact Nat.lt_of_le_of_lt (Nat.div_le_self _ _) hn
          rw [← hu]
          unfold gcell at c0
          have HST := Lib.hid (fun (b : Bool) (hb' : b = decide (u % 2 = 1)) => (show BoxAt (w.heap.size + 1) (gcells n (3 * s + (j + 1))) 112 (wr.setCell ⟨w.heap.size + 1, r * 3 + k, none⟩ (.bool b)) from by
            have := hb.setCell (r * 3 + k) (.bool b)
            rw [hb', hu, gcells_step HCM.out] at this
            rw [hb', hu]
            exact this))
          have HZT := Lib.hid (fun (b : Bool) => hb0.setOther (p := ⟨w.heap.size + 1, r * 3 + k, none⟩) (by simp) (.bool b))
          have HXT := Lib.hid (fun (b : Bool) => hx.setCell (p := ⟨w.heap.size + 1, r * 3 + k, none⟩) (by simp) (.bool b))
          have HDV := Lib.hid (show ((u : Int) / 2) = ((n / 2 ^ (3 * s + (j + 1)) : Nat) : Int) by
            rw [hu, show 3 * s + (j + 1) = (3 * s + j) + 1 by omega, Nat.pow_succ, ← Nat.div_div_eq_div_mul]
            omega)
          clear hy hy0 hb hb0 hx hu
          rcases Nat.mod_two_eq_zero_or_one u with h2 | h2
          · have hbit : bits BinOp.and IntKind.i64 (u : Int) 1 = 0 := by
              have := bits_and_i64_nat u 1 (by omega) (by decide)
              rw [Nat.and_one_is_mod, h2] at this
              exact this
            have HB2 := Lib.hid (HST.out false (by simp [h2]))
            clear h2
            go_wp2_with fail
            go_roundw
            case rel => exact ⟨j + 1, (k : Int) - 1, by have := HKJ.out; omega, by have := HKJ.out; omega, rfl, congrArg _ HDV.out, HB2.out, HZT.out _, HXT.out _⟩
            case measure => first | (simp [intOf]; done) | (simp [intOf]; omega)
          · have hbit : bits BinOp.and IntKind.i64 (u : Int) 1 = 1 := by
              have := bits_and_i64_nat u 1 (by omega) (by decide)
              rw [Nat.and_one_is_mod, h2] at this
              exact this
            have HB2 := Lib.hid (HST.out true (by simp [h2]))
            clear h2
            go_wp2_with fail
            go_roundw
            case rel => exact ⟨j + 1, (k : Int) - 1, by have := HKJ.out; omega, by have := HKJ.out; omega, rfl, congrArg _ HDV.out, HB2.out, HZT.out _, HXT.out _⟩
            case measure => first | (simp [intOf]; done) | (simp [intOf]; omega)
        · have hj3 : j = 3 := by omega
          subst hj3
          obtain rfl : y = -1 := by omega
          clear hb hb0 hx hy hy0
          go_wp2_with fail
          go_roundw
          case rel => exact ⟨s + 1, (r : Int) - 1, by have := HRS.out; omega, by have := HRS.out; omega, rfl, rfl, HBJ.out, HBJ0.out, HXJ.out⟩
          case measure => first | (simp [intOf]; done) | (simp [intOf]; omega)
    · have hs5 : s = 5 := by omega
      subst hs5
      obtain rfl : z = -1 := by omega
      replace hb : BoxAt (w.heap.size + 1) (gcells n 15) 112 wr := hb
      have g0 := hb.cell (i := 0) (gcells_at (n := n) (m := 15) (c := 0) (by decide))
      have g1 := hb.cell (i := 1) (gcells_at (n := n) (m := 15) (c := 1) (by decide))
      have g2 := hb.cell (i := 2) (gcells_at (n := n) (m := 15) (c := 2) (by decide))
      have g3 := hb.cell (i := 3) (gcells_at (n := n) (m := 15) (c := 3) (by decide))
      have g4 := hb.cell (i := 4) (gcells_at (n := n) (m := 15) (c := 4) (by decide))
      have g5 := hb.cell (i := 5) (gcells_at (n := n) (m := 15) (c := 5) (by decide))
      have g6 := hb.cell (i := 6) (gcells_at (n := n) (m := 15) (c := 6) (by decide))
      have g7 := hb.cell (i := 7) (gcells_at (n := n) (m := 15) (c := 7) (by decide))
      have g8 := hb.cell (i := 8) (gcells_at (n := n) (m := 15) (c := 8) (by decide))
      have g9 := hb.cell (i := 9) (gcells_at (n := n) (m := 15) (c := 9) (by decide))
      have g10 := hb.cell (i := 10) (gcells_at (n := n) (m := 15) (c := 10) (by decide))
      have g11 := hb.cell (i := 11) (gcells_at (n := n) (m := 15) (c := 11) (by decide))
      have g12 := hb.cell (i := 12) (gcells_at (n := n) (m := 15) (c := 12) (by decide))
      have g13 := hb.cell (i := 13) (gcells_at (n := n) (m := 15) (c := 13) (by decide))
      have g14 := hb.cell (i := 14) (gcells_at (n := n) (m := 15) (c := 14) (by decide))
      have lg := cell_lt g0
      have lz := hb0.lt
      clear hb hb0 hx hz hz0 HB
      go_upto_region 10 with fail
      refine wp_region_lit ?_
      iterate 1 (refine wpList_plain (by rfl) (fun K hK => ?_); go_simp; refine hK _ _ ?_; clear hK K)
      refine wpList_store_row rfl 112 (.tmp 2) (.tmp 23) rfl w.heap.size _ rfl rfl 112 #[.bool false, .bool false, .bool false, .bool false, .bool false, .bool false, .bool false, .bool false, .bool false, .bool false, .bool false, .bool false, .bool false, .bool false, .bool false] HB0.out (by kernel_rfl) rfl (by simp [Value.oneCell', gcell]) ?_
      refine lay_list (fun W => BoxAt w.heap.size (gcells n 15) 112 W ∧ Ext w W) ⟨BoxAt.setRow HB0.out _, (setRow_but _ _ _).below HX.out (by simp)⟩ ?_
      clear g0 g1 g2 g3 g4 g5 g6 g7 g8 g9 g10 g11 g12 g13 g14 lg
      rintro W2 ⟨hb, hx⟩
      have HX2 := Lib.hid hx
      have g0 := hb.cell (i := 0) (gcells_at (n := n) (m := 15) (c := 0) (by decide))
      have g1 := hb.cell (i := 1) (gcells_at (n := n) (m := 15) (c := 1) (by decide))
      have g2 := hb.cell (i := 2) (gcells_at (n := n) (m := 15) (c := 2) (by decide))
      have g3 := hb.cell (i := 3) (gcells_at (n := n) (m := 15) (c := 3) (by decide))
      have g4 := hb.cell (i := 4) (gcells_at (n := n) (m := 15) (c := 4) (by decide))
      have g5 := hb.cell (i := 5) (gcells_at (n := n) (m := 15) (c := 5) (by decide))
      have g6 := hb.cell (i := 6) (gcells_at (n := n) (m := 15) (c := 6) (by decide))
      have g7 := hb.cell (i := 7) (gcells_at (n := n) (m := 15) (c := 7) (by decide))
      have g8 := hb.cell (i := 8) (gcells_at (n := n) (m := 15) (c := 8) (by decide))
      have g9 := hb.cell (i := 9) (gcells_at (n := n) (m := 15) (c := 9) (by decide))
      have g10 := hb.cell (i := 10) (gcells_at (n := n) (m := 15) (c := 10) (by decide))
      have g11 := hb.cell (i := 11) (gcells_at (n := n) (m := 15) (c := 11) (by decide))
      have g12 := hb.cell (i := 12) (gcells_at (n := n) (m := 15) (c := 12) (by decide))
      have g13 := hb.cell (i := 13) (gcells_at (n := n) (m := 15) (c := 13) (by decide))
      have g14 := hb.cell (i := 14) (gcells_at (n := n) (m := 15) (c := 14) (by decide))
      clear hb hx
      go_wp2_with fail
      refine bodyPost_ret (v := glyphV n) (by simp [results, Try.results70, go_sem, glyphV, g0, g1, g2, g3, g4, g5, g6, g7, g8, g9, g10, g11, g12, g13, g14]; rfl) rfl ?_
      exact ⟨rfl, HX2.out⟩
end Go.Proofs.Ytkjgcmdabelohaa
