/- lathe.Mask with five lines. Condition: the word reads as a list. -/
import Derived.Test.YtkjgcmdabelohaaTEvery
import Derived.Test.YtkjgcmdabelohaaTRepB
import Derived.Test.YtkjgcmdabelohaaTCopy
namespace Go.Proofs.Ytkjgcmdabelohaa
open Go.RowKit Go.Lib

def rowsK : EK RowH := ⟨45, 57, 1, fun x => [.slice x.1 x.2.1 x.2.2], .slice none 0 0, 24, Try.underlying57, by kernel_rfl, rfl, by decide, by decide, fun _ => rfl, by simp [Value.oneCell']⟩
theorem rows_ne : rowsK.ty ≠ boolK.ty := by decide
theorem own_falses (W : World) (B N : Nat) (hB : B ≤ W.heap.size) (hN : N ≤ 1000) : boolK.Own B (W.alloc (.cells (madeCells #[.bool false] N) 4)) (.slice (some ⟨W.heap.size, 0, none⟩) N N) (List.replicate N false) := by
  have := EK.Own.lit (K := boolK) (B := B) W (madeCells #[.bool false] N) (List.replicate N false) (by rw [madeCells_oneB, List.toList_toArray, repB_enc]) hB (by simp [maxLen]; omega)
  rw [List.length_replicate] at this
  exact this
theorem own_nils (W : World) (B : Nat) (hB : B ≤ W.heap.size) : rowsK.Own B (W.alloc (.cells (madeCells #[.slice none 0 0] 5) 45)) (.slice (some ⟨W.heap.size, 0, none⟩) 5 5) (List.replicate 5 (none, 0, 0)) := by
  have := EK.Own.lit (K := rowsK) (B := B) W (madeCells #[.slice none 0 0] 5) (List.replicate 5 (none, 0, 0)) (by rw [madeCells_oneB, List.toList_toArray]; rfl) hB (by simp [maxLen])
  rw [List.length_replicate] at this
  exact this
/-- A table of five empty rows. -/
theorem tab_nils (W : World) : TabM rowsK boolK W.heap.size (W.alloc (.cells (madeCells #[.slice none 0 0] 5) 45)) (.slice (some ⟨W.heap.size, 0, none⟩) 5 5) (List.replicate 5 (none, 0, 0)) (List.replicate 5 []) := by
  refine ⟨own_nils W _ (Nat.le_refl _), by simp, fun q h h' => ?_, fun p q h h' _ => .inl ?_⟩
  · simp only [List.getElem_replicate]
    exact EK.Own.nil _ _
  · simp only [List.getElem_replicate]
    rfl
def maskE (ws : List Int) (size cols : Int) : Int := if 8 < ws.length then 4 else if ws.all gnB && inB 1 40 size && inB 1 40 cols then (if cols < size * (4 * (ws.length : Int) - 1) then 6 else 0) else 2
def natL (ws : List Int) : List Nat := ws.map Int.toNat
def maskT (ws : List Int) (size cols : Int) : List (List Bool) := if maskE ws size cols = 0 then (List.range 5).map fun r => maskR (natL ws) size.toNat cols.toNat r ws.length 0 else []
/-- The rows that have been made. -/
def madeTo (cols r : Nat) : List (List Bool) := (List.range 5).map fun q => if q < r then List.replicate cols false else []
theorem madeTo_zero {cols : Nat} : madeTo cols 0 = List.replicate 5 [] := rfl
theorem madeTo_step {cols r : Nat} : (madeTo cols r).set r (List.replicate cols false) = madeTo cols (r + 1) := by
  apply List.ext_getElem
  · simp [madeTo]
  · intro q h1 h2
    rw [List.getElem_set]
    simp only [madeTo, List.getElem_map, List.getElem_range]
    split
    · rename_i e
      subst e
      rw [if_pos (by omega)]
    · rename_i e
      split
      · rw [if_pos (by omega)]
      · rw [if_neg (by omega)]
/-- The rows while the row r of the glyph i is come to, up to the cell k. -/
def rowsTo (ws : List Nat) (size cols i r k : Nat) : List (List Bool) := (List.range 5).map fun q => if q < r then maskR ws size cols q (i + 1) 0 else if q = r then maskR ws size cols q i k else maskR ws size cols q i 0
theorem rowsTo_start {ws : List Nat} {size cols : Nat} : madeTo cols 5 = rowsTo ws size cols 0 0 0 := by
  apply List.ext_getElem
  · simp [madeTo, rowsTo]
  · intro q h1 h2
    have hq : q < 5 := by simpa [madeTo] using h1
    simp only [madeTo, rowsTo, List.getElem_map, List.getElem_range]
    rw [if_pos hq, if_neg (by omega)]
    split <;> exact maskR_zero.symm
theorem rowsTo_cell {ws : List Nat} {size cols i r k : Nat} : (rowsTo ws size cols i r k).set r (maskR ws size cols r i (k + 1)) = rowsTo ws size cols i r (k + 1) := by
  apply List.ext_getElem
  · simp [rowsTo]
  · intro q h1 h2
    rw [List.getElem_set]
    simp only [rowsTo, List.getElem_map, List.getElem_range]
    split
    · rename_i e
      subst e
      rw [if_neg (by omega), if_pos rfl]
    · rename_i e
      split
      · rfl
      · rw [if_neg (fun h => e h.symm), if_neg (fun h => e h.symm)]
theorem rowsTo_row {ws : List Nat} {size cols i r : Nat} : rowsTo ws size cols i r 3 = rowsTo ws size cols i (r + 1) 0 := by
  apply List.ext_getElem
  · simp [rowsTo]
  · intro q h1 h2
    simp only [rowsTo, List.getElem_map, List.getElem_range]
    by_cases h : q < r
    · rw [if_pos h, if_pos (by omega)]
    · rw [if_neg h]
      by_cases e : q = r
      · rw [if_pos e, if_pos (by omega), maskR_next]
      · rw [if_neg e, if_neg (by omega)]
        split <;> rfl
theorem rowsTo_glyph {ws : List Nat} {size cols i : Nat} : rowsTo ws size cols i 5 0 = rowsTo ws size cols (i + 1) 0 0 := by
  apply List.ext_getElem
  · simp [rowsTo]
  · intro q h1 h2
    have hq : q < 5 := by simpa [rowsTo] using h1
    simp only [rowsTo, List.getElem_map, List.getElem_range]
    rw [if_pos hq, if_neg (by omega)]
    split <;> rfl
theorem rowsTo_end {ws : List Nat} {size cols : Nat} : rowsTo ws size cols ws.length 0 0 = (List.range 5).map fun r => maskR ws size cols r ws.length 0 := by
  apply List.ext_getElem
  · simp [rowsTo]
  · intro q h1 h2
    simp only [rowsTo, List.getElem_map, List.getElem_range]
    rw [if_neg (by omega)]
    split <;> rfl
theorem rowsTo_at {ws : List Nat} {size cols i r k : Nat} (h : r < (rowsTo ws size cols i r k).length) : (rowsTo ws size cols i r k)[r] = maskR ws size cols r i k := by
  simp only [rowsTo, List.getElem_map, List.getElem_range]
  rw [if_neg (by omega)]
  simp
theorem rowsTo_len {ws : List Nat} {size cols i r k : Nat} : (rowsTo ws size cols i r k).length = 5 := by simp [rowsTo]
def MaskRet (w : World) (er : Int) (xss : List (List Bool)) (e : Ending) (w' : World) : Prop := ∃ v Ts, e = .returned (.tuple #[v, .int .i64 er]) ∧ TabM rowsK boolK w.heap.size w' v Ts xss ∧ Ext w w'
theorem tab_none (B : Nat) (W : World) : TabM rowsK boolK B W (.slice none 0 0) [] [] := ⟨EK.Own.nil _ _, rfl, fun q h => absurd h (by simp), fun p q h => absurd h (by simp)⟩

set_option maxRecDepth 100000 in
set_option maxHeartbeats 8000000 in
theorem mask_any (u : Value) (ws : List Int) (size cols : Int) (w : World) (hu : intK.Is w u ws) :
    Calls Try.prog 40 #[u, .int .i64 size, .int .i64 cols, .int .i64 5] w (MaskRet w (maskE ws size cols) (maskT ws size cols)) := by
  have HEV := Lib.hid fun (W : World) (x : Ext w W) => everyI_any u ws W (hu.ext x)
  have HWI := Lib.hid fun (n lo hi : Int) (W : World) => latheWithin_any n lo hi W
  obtain ⟨A, n, c, rfl, hn, -, hr, hm⟩ := hu.open_
  have HR := Lib.hid hr
  have HN := Lib.hid hn
  clear hr hu
  by_cases h8 : 8 < n
  · have HE := Lib.hid (show maskE ws size cols = 4 by unfold maskE; rw [hn, if_pos h8])
    have HT := Lib.hid (show maskT ws size cols = [] by unfold maskT; rw [HE.out]; rfl)
    have h8i : (8 : Int) < (n : Int) := by omega
    clear hn
    go_enter Try.func40, Try.ntmps40
    go_wp2_with fail
    go_ret2
    exact ⟨.slice none 0 0, [], by rw [HE.out]; rfl, by rw [HT.out]; exact tab_none _ _, Ext.refl _⟩
  have h8i : ¬ (8 : Int) < (n : Int) := by omega
  have HN8 := Lib.hid (show ¬ 8 < ws.length by rw [hn]; exact h8)
  clear hn
  obtain ⟨er, her⟩ : ∃ er, er = maskE ws size cols := ⟨_, rfl⟩
  rw [← her]
  have HER := Lib.hid her
  clear her
  cases ha : ws.all gnB
  · have HE := Lib.hid (show er = 2 by rw [HER.out]; unfold maskE; rw [if_neg HN8.out, ha]; rfl)
    have HT := Lib.hid (show maskT ws size cols = [] by unfold maskT; rw [← HER.out, HE.out]; rfl)
    rw [ha] at HEV
    clear ha
    go_enter Try.func40, Try.ntmps40
    go_wp2_with fail
    refine (HEV.out _ (by (repeat' (first | with_reducible exact Ext.refl _ | with_reducible apply Ext.alloc | with_reducible apply Ext.drew | with_reducible apply Ext.drewN | with_reducible refine Ext.setCell ?_ ?_ _ | with_reducible apply Ext.step | with_reducible assumption | with_reducible exact Nat.le_refl _ | (simp; done) | (simp; omega))))).mono ?_
    rintro e W1 ⟨rfl, x1⟩
    go_wp2_with fail
    go_ret2
    exact ⟨.slice none 0 0, [], by rw [HE.out]; rfl, by rw [HT.out]; exact tab_none _ _, x1⟩
  rw [ha] at HEV
  cases hs : inB 1 40 size
  · have HE := Lib.hid (show er = 2 by rw [HER.out]; unfold maskE; rw [if_neg HN8.out, ha, hs]; rfl)
    have HT := Lib.hid (show maskT ws size cols = [] by unfold maskT; rw [← HER.out, HE.out]; rfl)
    have HW1 := Lib.hid fun W : World => (show Calls Try.prog 47 #[.int .i64 size, .int .i64 1, .int .i64 40] W fun e w' => e = .returned (.bool false) ∧ Ext W w' from hs ▸ HWI.out size 1 40 W)
    clear ha hs
    go_enter Try.func40, Try.ntmps40
    go_wp2_with fail
    refine (HEV.out _ (by (repeat' (first | with_reducible exact Ext.refl _ | with_reducible apply Ext.alloc | with_reducible apply Ext.drew | with_reducible apply Ext.drewN | with_reducible refine Ext.setCell ?_ ?_ _ | with_reducible apply Ext.step | with_reducible assumption | with_reducible exact Nat.le_refl _ | (simp; done) | (simp; omega))))).mono ?_
    rintro e W1 ⟨rfl, x1⟩
    go_wp2_with fail
    refine (HW1.out _).mono ?_
    rintro e W2 ⟨rfl, x2⟩
    go_wp2_with fail
    go_ret2
    exact ⟨.slice none 0 0, [], by rw [HE.out]; rfl, by rw [HT.out]; exact tab_none _ _, x1.trans x2⟩
  have HW1 := Lib.hid fun W : World => (show Calls Try.prog 47 #[.int .i64 size, .int .i64 1, .int .i64 40] W fun e w' => e = .returned (.bool true) ∧ Ext W w' from hs ▸ HWI.out size 1 40 W)
  cases hc : inB 1 40 cols
  · have HE := Lib.hid (show er = 2 by rw [HER.out]; unfold maskE; rw [if_neg HN8.out, ha, hs, hc]; rfl)
    have HT := Lib.hid (show maskT ws size cols = [] by unfold maskT; rw [← HER.out, HE.out]; rfl)
    have HW2 := Lib.hid fun W : World => (show Calls Try.prog 47 #[.int .i64 cols, .int .i64 1, .int .i64 40] W fun e w' => e = .returned (.bool false) ∧ Ext W w' from hc ▸ HWI.out cols 1 40 W)
    clear ha hs hc
    go_enter Try.func40, Try.ntmps40
    go_wp2_with fail
    refine (HEV.out _ (by (repeat' (first | with_reducible exact Ext.refl _ | with_reducible apply Ext.alloc | with_reducible apply Ext.drew | with_reducible apply Ext.drewN | with_reducible refine Ext.setCell ?_ ?_ _ | with_reducible apply Ext.step | with_reducible assumption | with_reducible exact Nat.le_refl _ | (simp; done) | (simp; omega))))).mono ?_
    rintro e W1 ⟨rfl, x1⟩
    go_wp2_with fail
    refine (HW1.out _).mono ?_
    rintro e W2 ⟨rfl, x2⟩
    go_wp2_with fail
    refine (HW2.out _).mono ?_
    rintro e W3 ⟨rfl, x3⟩
    go_wp2_with fail
    go_ret2
    exact ⟨.slice none 0 0, [], by rw [HE.out]; rfl, by rw [HT.out]; exact tab_none _ _, (x1.trans x2).trans x3⟩
  have HW2 := Lib.hid fun W : World => (show Calls Try.prog 47 #[.int .i64 cols, .int .i64 1, .int .i64 40] W fun e w' => e = .returned (.bool true) ∧ Ext W w' from hc ▸ HWI.out cols 1 40 W)
  have HW3 := Lib.hid fun W : World => (show Calls Try.prog 47 #[.int .i64 5, .int .i64 1, .int .i64 12] W fun e w' => e = .returned (.bool true) ∧ Ext W w' from HWI.out 5 1 12 W)
  obtain ⟨s1, s2⟩ := inB_iff.1 hs
  obtain ⟨c1, c2⟩ := inB_iff.1 hc
  have HWD := Lib.hid fun W : World => wide_any size n W (by omega) (by omega) (by omega)
  obtain ⟨wd, hwd⟩ : ∃ z, z = size * (4 * (n : Int) - 1) := ⟨_, rfl⟩
  rw [← hwd] at HWD
  have HWDE := Lib.hid hwd
  clear hwd
  by_cases hw : cols < wd
  · have HE := Lib.hid (show er = 6 by rw [HER.out]; unfold maskE; rw [if_neg HN8.out, ha, hs, hc, HN.out, ← HWDE.out]; exact if_pos hw)
    have HT := Lib.hid (show maskT ws size cols = [] by unfold maskT; rw [← HER.out, HE.out]; rfl)
    clear ha hs hc
    go_enter Try.func40, Try.ntmps40
    go_wp2_with fail
    refine (HEV.out _ (by (repeat' (first | with_reducible exact Ext.refl _ | with_reducible apply Ext.alloc | with_reducible apply Ext.drew | with_reducible apply Ext.drewN | with_reducible refine Ext.setCell ?_ ?_ _ | with_reducible apply Ext.step | with_reducible assumption | with_reducible exact Nat.le_refl _ | (simp; done) | (simp; omega))))).mono ?_
    rintro e W1 ⟨rfl, x1⟩
    go_wp2_with fail
    refine (HW1.out _).mono ?_
    rintro e W2 ⟨rfl, x2⟩
    go_wp2_with fail
    refine (HW2.out _).mono ?_
    rintro e W3 ⟨rfl, x3⟩
    go_wp2_with fail
    refine (HW3.out _).mono ?_
    rintro e W4 ⟨rfl, x4⟩
    go_wp2_with fail
    refine (HWD.out _).mono ?_
    rintro e W5 ⟨rfl, x5⟩
    go_wp2_with fail
    go_ret2
    exact ⟨.slice none 0 0, [], by rw [HE.out]; rfl, by rw [HT.out]; exact tab_none _ _, (((x1.trans x2).trans x3).trans x4).trans x5⟩
  have HE := Lib.hid (show er = 0 by rw [HER.out]; unfold maskE; rw [if_neg HN8.out, ha, hs, hc, HN.out, ← HWDE.out]; exact if_neg hw)
  have hwi : ¬ cols < wd := hw
  obtain ⟨C, hC⟩ : ∃ C : Nat, cols = (C : Int) := ⟨cols.toNat, by omega⟩
  obtain ⟨Z, hZ⟩ : ∃ Z : Nat, size = (Z : Int) := ⟨size.toNat, by omega⟩
  subst hC hZ
  have HT := Lib.hid (show maskT ws Z C = rowsTo (natL ws) Z C (natL ws).length 0 0 by
    unfold maskT
    rw [← HER.out, HE.out, rowsTo_end]
    simp [natL])
  have HALL := Lib.hid (List.all_eq_true.1 ha)
  have hmk : ∀ w : World, (Instr.makeSlice 57 (.int .i64 5) (.int .i64 5)).run Try.prog w = .ok (.slice (some ⟨w.heap.size, 0, none⟩) 5 5) (w.alloc (.cells (madeCells #[.slice none 0 0] 5) 45)) := fun w =>
    run_make_row' (P := Try.prog) 57 45 (.slice none 0 0) 24 Try.underlying57 rowsK.info rfl .i64 .i64 5 (by omega) (by omega) w
  have hmkC : ∀ w : World, (Instr.makeSlice 45 (.int .i64 (C : Int)) (.int .i64 (C : Int))).run Try.prog w = .ok (.slice (some ⟨w.heap.size, 0, none⟩) C C) (w.alloc (.cells (madeCells #[.bool false] C) 4)) := fun w =>
    run_make_row' (P := Try.prog) 45 4 (.bool false) 1 Try.underlying45 boolK.info rfl .i64 .i64 C (by omega) (by omega) w
  clear ha hs hc hw
  go_enter Try.func40, Try.ntmps40
  go_wp2_with fail
  refine (HEV.out _ (by (repeat' (first | with_reducible exact Ext.refl _ | with_reducible apply Ext.alloc | with_reducible apply Ext.drew | with_reducible apply Ext.drewN | with_reducible refine Ext.setCell ?_ ?_ _ | with_reducible apply Ext.step | with_reducible assumption | with_reducible exact Nat.le_refl _ | (simp; done) | (simp; omega))))).mono ?_
  rintro e W1 ⟨rfl, x1⟩
  go_wp2_with fail
  refine (HW1.out _).mono ?_
  rintro e W2 ⟨rfl, x2⟩
  go_wp2_with fail
  refine (HW2.out _).mono ?_
  rintro e W3 ⟨rfl, x3⟩
  go_wp2_with fail
  refine (HW3.out _).mono ?_
  rintro e W4 ⟨rfl, x4⟩
  go_wp2_with fail
  refine (HWD.out _).mono ?_
  rintro e W5 ⟨rfl, x5⟩
  have HX5 := Lib.hid ((((x1.trans x2).trans x3).trans x4).trans x5)
  clear x1 x2 x3 x4 x5
  go_wp2_with fail
  refine lay_wp (fun W => TabM rowsK boolK W5.heap.size W (.slice (some ⟨W5.heap.size, 0, none⟩) 5 5) (List.replicate 5 (none, 0, 0)) (madeTo C 0) ∧ Ext W5 W) ⟨by rw [madeTo_zero]; exact tab_nils W5, by (repeat' (first | with_reducible exact Ext.refl _ | with_reducible apply Ext.alloc | with_reducible apply Ext.drew | with_reducible apply Ext.drewN | with_reducible refine Ext.setCell ?_ ?_ _ | with_reducible apply Ext.step | with_reducible assumption | with_reducible exact Nat.le_refl _ | (simp; done) | (simp; omega)))⟩ ?_
  rintro W6 ⟨t6, x6⟩
  obtain ⟨g, hg⟩ : ∃ g, g = W5.heap.size := ⟨_, rfl⟩
  rw [← hg] at t6 ⊢
  have HGE := Lib.hid (Nat.le_of_eq hg)
  have HGF := Lib.hid (Nat.le_of_eq hg.symm)
  have HT6 := Lib.hid t6
  have HX6 := Lib.hid x6
  clear t6 x6 hg hmk
  go_loopw [54] (fun iv W => ∃ (r : Nat) (Ts : List RowH), r ≤ 5 ∧ iv = .int .i64 (r : Int) ∧ TabM rowsK boolK g W (.slice (some ⟨g, 0, none⟩) 5 5) Ts (madeTo C r) ∧ Ext W5 W) (fun iv _ => 5 - (intOf iv).toNat)
  case' atStart => exact ⟨0, _, by omega, rfl, HT6.out, HX6.out⟩
  case' round =>
    obtain ⟨r, Ts, hr, rfl, ht, hx⟩ := hrel
    have HTR := Lib.hid ht
    have HXR := Lib.hid hx
    have HTL := Lib.hid (show Ts.length = 5 by rw [ht.len]; simp [madeTo])
    by_cases hlt : r < 5
    · have hrT : r < Ts.length := by rw [HTL.out]; exact hlt
      have hri : (r : Int) < 5 := by omega
      obtain ⟨g', c', he, hg1, hg2, hcl, hfr⟩ := ht.own.slot hrT
      simp only [Value.slice.injEq, Option.some.injEq] at he
      obtain ⟨he1, -, -⟩ := he
      obtain rfl : g = g' := by simpa using he1
      have r0 : wr.cell? ⟨g, r, none⟩ = some (.slice Ts[r].1 Ts[r].2.1 Ts[r].2.2) := by have := hcl 0 _ rfl; simpa [rowsK] using this
      have f0 := hfr r
      have lr0 := cell_lt r0
      have HST := Lib.hid (show TabM rowsK boolK g ((wr.setCell ⟨g, r, none⟩ (.slice (some ⟨wr.heap.size, 0, none⟩) C C)).alloc (.cells (madeCells #[.bool false] C) 4)) (.slice (some ⟨g, 0, none⟩) 5 5) (Ts.set r (some ⟨wr.heap.size, 0, none⟩, C, C)) (madeTo C (r + 1)) from by
        rw [← madeTo_step]
        first
          | rw [World.setCell_alloc_past _ _ _ _ lr0]
          | rw [← World.setCell_alloc_past _ _ _ _ lr0]
        exact HTR.out.setRow HTL.out rfl (fun _ => rfl) hrT (Ne.symm rows_ne) (some ⟨wr.heap.size, 0, none⟩, C, C) ((Ext.refl _).alloc _) (own_falses wr _ C (Nat.le_refl _) (by omega)) (by have := HXR.out.bel.size; have := HGE.out; omega))
      have HXS := Lib.hid (show Ext W5 ((wr.setCell ⟨g, r, none⟩ (.slice (some ⟨wr.heap.size, 0, none⟩) C C)).alloc (.cells (madeCells #[.bool false] C) 4)) from (hx.setCell HGF.out _).alloc _)
      generalize Ts[r].1 = q1 at *
      generalize Ts[r].2.1 = q2 at *
      generalize Ts[r].2.2 = q3 at *
      clear ht hx hcl hfr he1
      go_wp2_with fail
      go_roundw
      case rel => exact ⟨r + 1, _, by omega, by go_num, HST.out, HXS.out⟩
      case measure => simp [intOf]; omega
    have HR5 := Lib.hid (show r = 5 by omega)
    have hr5i : ¬ (r : Int) < 5 := by omega
    clear ht hx hmkC hlt hr
    go_wp2_with fail
    go_loopw [65] (fun iv W => ∃ (i : Nat) (Ts : List RowH), i ≤ n ∧ iv = .int .i64 (i : Int) ∧ TabM rowsK boolK g W (.slice (some ⟨g, 0, none⟩) 5 5) Ts (rowsTo (natL ws) Z C i 0 0) ∧ Ext W5 W) (fun iv _ => n - (intOf iv).toNat)
    case' atStart => exact ⟨0, Ts, by omega, rfl, by have h := HTR.out; rw [HR5.out, rowsTo_start (ws := natL ws) (size := Z)] at h; exact h, HXR.out⟩
    case' round =>
      clear HTR HXR HTL HT6 HX6
      obtain ⟨i, Ts, hi, rfl, ht, hx⟩ := hrel
      have HTI := Lib.hid ht
      have HXI := Lib.hid hx
      by_cases hlt : i < n
      · have hl : i < ws.length := by rw [HN.out]; exact hlt
        have hii : (i : Int) < (n : Int) := by omega
        obtain ⟨b, o, rfl, hb, hc⟩ := ints_at HR.out i hl
        replace hc := (HX5.out.trans hx).cell_some hc
        have lc := cell_lt hc
        have hg0 := HALL.out _ (List.getElem_mem hl)
        obtain ⟨q, hq⟩ : ∃ q : Nat, ws[i] = (q : Int) := ⟨ws[i].toNat, by have := (inB_iff.1 hg0).1; omega⟩
        have hq15 : q < 32768 := by have := (inB_iff.1 hg0).2; omega
        have HQ := Lib.hid (show (natL ws)[i]?.getD 0 = q by
          unfold natL
          rw [List.getElem?_map, List.getElem?_eq_getElem hl]
          simp [hq])
        rw [hq] at hc
        have HGL := Lib.hid fun W : World => glyphOf_any q W hq15
        clear ht hx hb hg0 hq
        go_wp2_with fail
        refine (HGL.out _).mono ?_
        rintro e W7 ⟨rfl, x7⟩
        have HX7 := Lib.hid (HXI.out.trans x7)
        have HT7 := Lib.hid (HTI.out.ext x7)
        clear hc lc x7
        go_wp2_with fail
        go_loopw [72] (fun iv W => ∃ (r : Nat) (Ts : List RowH), r ≤ 5 ∧ iv = .int .i64 (r : Int) ∧ TabM rowsK boolK g W (.slice (some ⟨g, 0, none⟩) 5 5) Ts (rowsTo (natL ws) Z C i r 0) ∧ Ext W5 W) (fun iv _ => 5 - (intOf iv).toNat)
        case atStart => exact ⟨0, _, by omega, rfl, HT7.out, HX7.out⟩
        case round =>
          obtain ⟨r, Ts, hr, rfl, ht, hx⟩ := hrel
          have HTR := Lib.hid ht
          have HXR := Lib.hid hx
          by_cases hlr : r < 5
          · have HIR := Lib.hid (fun W : World => (show Sem.run Try.prog (Instr.index 112 (glyphV q) (.int .i64 (r : Int))) W = .ok (.agg #[.bool (gbit q r 0), .bool (gbit q r 1), .bool (gbit q r 2)]) W from by
              have := idx_row (g := gcell q 15) r hlr W
              rwa [gcell_full, gcell_full, show gcell q 15 (3 * r) = .bool (gbit q r 0) from gcell_full (j := 0)] at this))
            have hir := HIR.out
            have hri : (r : Int) < 5 := by omega
            obtain ⟨wo, rfl⟩ : ∃ wo, wo = wr := ⟨_, rfl⟩
            clear ht hx
            go_wp2_with fail
            clear hir
            refine lay_wp (fun W => Ext wo W) (by (repeat' (first | with_reducible exact Ext.refl _ | with_reducible apply Ext.alloc | with_reducible apply Ext.drew | with_reducible apply Ext.drewN | with_reducible refine Ext.setCell ?_ ?_ _ | with_reducible apply Ext.step | with_reducible assumption | with_reducible exact Nat.le_refl _ | (simp; done) | (simp; omega)))) ?_
            rintro W8 x8
            have HX8 := Lib.hid (HXR.out.trans x8)
            have HT8 := Lib.hid (HTR.out.ext x8)
            clear x8
            go_loopw [77] (fun kv W => ∃ (k : Nat) (Ts : List RowH), k ≤ 3 ∧ kv = .int .i64 (k : Int) ∧ TabM rowsK boolK g W (.slice (some ⟨g, 0, none⟩) 5 5) Ts (rowsTo (natL ws) Z C i r k) ∧ Ext W5 W) (fun kv _ => 3 - (intOf kv).toNat)
            case atStart => exact ⟨0, _, by omega, rfl, HT8.out, HX8.out⟩
            case round =>
              obtain ⟨k, Ts, hk, rfl, ht, hx⟩ := hrel
              have HTK := Lib.hid ht
              have HXK := Lib.hid hx
              by_cases hlk : k < 3
              · have hir := fun W : World => idx_cell (x := .bool (gbit q r 0)) (y := .bool (gbit q r 1)) (z := .bool (gbit q r 2)) k hlk W
                have hki : (k : Int) < 3 := by omega
                obtain ⟨bt, hbt⟩ : ∃ b, b = gbit q r k := ⟨_, rfl⟩
                have hbv : (if k = 0 then (Value.bool (gbit q r 0)) else if k = 1 then .bool (gbit q r 1) else .bool (gbit q r 2)) = .bool bt := by
                  rw [hbt]
                  rcases (by omega : k = 0 ∨ k = 1 ∨ k = 2) with rfl | rfl | rfl <;> rfl
                simp only [hbv] at hir
                have HBT := Lib.hid hbt
                clear ht hx hbv hbt
                go_upto_region 22 with fail
                clear hir
                obtain ⟨at_, hat⟩ : ∃ z, z = Z * (4 * i + k) := ⟨_, rfl⟩
                have hlim : at_ + Z ≤ C := by
                  have e1 : Z * (4 * i + k) + Z = Z * (4 * i + k + 1) := by rw [Nat.mul_add Z (4 * i + k) 1, Nat.mul_one]
                  have e2 : Z * (4 * i + k + 1) ≤ Z * (4 * n - 1) := Nat.mul_le_mul_left Z (by omega)
                  have e3 : ((Z * (4 * n - 1) : Nat) : Int) = wd := by
                    rw [HWDE.out, Int.natCast_mul]
                    congr 1
                    omega
                  rw [hat]
                  omega
                have hwq1 : IntKind.i64.wrap (4 * (i : Int)) = 4 * (i : Int) := IntWalk.i64_in _ (by omega)
                have hwq2 : IntKind.i64.wrap (4 * (i : Int) + (k : Int)) = 4 * (i : Int) + (k : Int) := IntWalk.i64_in _ (by omega)
                have hwq3 : IntKind.i64.wrap ((Z : Int) * (4 * (i : Int) + (k : Int))) = (at_ : Int) := by
                  rw [hat, IntWalk.i64_in _ (by
                    have : (Z : Int) * (4 * (i : Int) + (k : Int)) = ((Z * (4 * i + k) : Nat) : Int) := by simp
                    omega)]
                  simp
                have HATE := Lib.hid hat
                clear hat
                go_upto_region 23 with fail
                clear hwq1 hwq2 hwq3
                have hrT : r < Ts.length := by rw [HTK.out.len, rowsTo_len]; exact hlr
                obtain ⟨g', c', he, -, -, hcl, -⟩ := HTK.out.own.slot hrT
                simp only [Value.slice.injEq, Option.some.injEq] at he
                obtain ⟨he1, -, -⟩ := he
                obtain rfl : g = g' := by simpa using he1
                have r0 : wr.cell? ⟨g, r, none⟩ = some (rowH Ts[r]) := by have h3 := hcl 0 _ rfl; rw [show rowsK.k = 1 from rfl, Nat.mul_one, Nat.add_zero] at h3; exact h3
                have hro := HTK.out.row r hrT (by rw [rowsTo_len]; exact hlr)
                rw [rowsTo_at] at hro
                obtain ⟨gr, cr, hrow, -, -, -, -⟩ := hro.slot (j := 0) (by rw [maskR_len]; omega)
                rw [maskR_len] at hrow
                rw [hrow] at r0 hro
                have HRO := Lib.hid hro
                have HROW := Lib.hid hrow
                have hatC : at_ ≤ C := by omega
                have hatCi : (at_ : Int) ≤ (C : Int) := by omega
                have hcr : C ≤ cr ∧ cr ≤ 9223372036854775807 := by
                  obtain ⟨_, c3, he2, _, hc2, _⟩ := hro.is
                  simp only [Value.slice.injEq] at he2
                  obtain ⟨-, -, rfl⟩ := he2
                  have h1 := hc2.1
                  have h2 := hc2.2
                  rw [maskR_len] at h1
                  unfold maxLen at h2
                  omega
                have lr0 := cell_lt r0
                have y0 := But.cells (D := []) r0 (by simp)
                have HRP := Lib.hid fun (u : Value) (W : World) (h : boolK.Is W u [bt]) => repeatB_any u bt Z W h (by omega) (by omega)
                clear hcl he1 hro hrow
                refine (wpIn_wide (n := 3)).1 ?_
                refine wpIn_region_steps [] 10 [(0, true), (1, true), (2, true), (3, true), (4, true), (5, true), (6, true), (8, true), (7, false), (9, false)] (by kernel_rfl) (by kernel_rfl) ?_
                iterate 8 (refine wpSD_q (by rfl) (fun _ _ _ => trivial) (fun K hK => ?_); go_simp; refine hK _ ?_; clear hK K)
                refine wpSD_m (by rfl) (fun _ _ _ => trivial) (fun δ K hK => ?_)
                go_simp
                refine ⟨((Ext.refl _).alloc _).but, hK _ _ ?_⟩
                clear hK K
                have Xd : Ext wr δ.wd := ⟨δ, rfl⟩
                have HLI := Lib.hid (EK.Own.lit (K := boolK) (B := 0) δ.wd #[.bool bt] [bt] rfl (Nat.zero_le _) (by simp [maxLen])).is
                refine wpSD_m (by rfl) (fun _ _ _ => trivial) (fun δ2 K hK => ?_)
                go_simp
                refine (callsIn_wide.2 (HRP.out _ δ2.wd (HLI.out.ext ⟨δ2, rfl⟩))).mono ?_
                rintro e W9 ⟨v9, rfl, o9, x9⟩
                refine ⟨_, rfl, x9.but, hK _ _ ?_⟩
                clear hK K
                obtain ⟨g9, c9, rfl, -, -, hc9, -⟩ := o9.slot (j := 0) (by rw [List.length_replicate]; omega)
                have HI9 := Lib.hid o9
                refine wpSD_nil ?_
                intro W10 x10
                have X9 : Ext wr W9 := ((Xd.alloc _).trans ⟨δ2, rfl⟩).trans x9
                have HX10 := Lib.hid (X9.trans x10)
                have HO10 := Lib.hid (o9.ext x10)
                rw [List.length_replicate]
                clear o9 x9 x10 X9 Xd hc9 y0 r0 lr0
                obtain ⟨cur, hgc, hcs, hBg, -, hov⟩ := (HRO.out.ext HX10.out).over1 rfl at_ (ys := List.replicate Z bt) (by rw [maskR_len, List.length_replicate]; exact hlim)
                have HGC := Lib.hid hgc
                have HOV := Lib.hid hov
                rw [maskR_len] at hcs
                have HCS := Lib.hid hcs
                have hrun := run_copy_rowK Try.prog W10 45 45 3 4 1 Z gr at_ (C - at_) (cr - at_) ⟨g9, 0, none⟩ Z c9 cur boolK.ty ((List.replicate Z bt).flatMap boolK.enc) Try.underlying45 (by kernel_rfl) HGC.out (show Z = min Z (C - at_) by omega) (by rw [flat_len boolK, List.length_replicate]; rfl) (fun j v hj => World.ownsRow.cells HO10.out (g := g9) rfl j v hj) (by rw [flat_len boolK, List.length_replicate]; show at_ + Z * 1 ≤ _; omega) (fun v hv => by
                  obtain ⟨y, _, hy⟩ := List.mem_flatMap.1 hv
                  exact boolK.one y v hy)
                obtain ⟨W11, hW11⟩ : ∃ z, z = W10.setRow gr (cur.toList.take at_ ++ (List.replicate Z bt).flatMap boolK.enc ++ cur.toList.drop (at_ + ((List.replicate Z bt).flatMap boolK.enc).length)).toArray := ⟨_, rfl⟩
                rw [← hW11] at hrun
                have HWE := Lib.hid hW11
                clear hW11
                have HUP := Lib.hid (show TabM rowsK boolK g W11 (.slice (some ⟨g, 0, none⟩) 5 5) Ts (rowsTo (natL ws) Z C i r (k + 1)) from by
                  rw [HWE.out]
                  have h := (HTK.out.ext HX10.out).upd (ys := maskR (natL ws) Z C r i (k + 1)) (w' := W10.setRow gr (cur.toList.take at_ ++ (List.replicate Z bt).flatMap boolK.enc ++ cur.toList.drop (at_ + ((List.replicate Z bt).flatMap boolK.enc).length)).toArray) hrT (by rw [rowsTo_len]; exact hlr) rows_ne (by rw [HROW.out]; exact but_grown' (setRow_but _ _ _)) (by
                    rw [HROW.out]
                    have h2 := HOV.out
                    have h3 := maskR_step (ws := natL ws) (size := Z) (cols := C) (r := r) (i := i) (k := k) (by omega) hlk (by rw [← HATE.out]; exact hlim) (by simp [natL]; exact hl)
                    rw [HQ.out, ← HBT.out, ← HATE.out] at h3
                    rw [h3] at h2
                    exact h2)
                  rwa [rowsTo_cell] at h)
                have HXU := Lib.hid (show Ext W5 W11 from HWE.out ▸ (setRow_but _ _ _).below (HXK.out.trans HX10.out) (by
                  have := HGF.out
                  simp
                  omega))
                simp only [List.drop_succ_cons, List.drop_zero]
                clear hgc hov hcs
                gi_wp2
                go_wp2_with fail
                go_roundw
                case rel => exact ⟨k + 1, Ts, by omega, by go_num, HUP.out, HXU.out⟩
                case measure => simp [intOf]; omega
              · obtain rfl : k = 3 := by omega
                rw [rowsTo_row] at ht
                have HTN := Lib.hid ht
                clear ht hx
                go_wp2_with fail
                go_roundw
                case rel => exact ⟨r + 1, _, by omega, by go_num, HTN.out, HXK.out⟩
                case measure => simp [intOf]; omega
          · obtain rfl : r = 5 := by omega
            rw [rowsTo_glyph] at ht
            have HTN := Lib.hid ht
            clear ht hx
            go_wp2_with fail
            go_roundw
            case rel => exact ⟨i + 1, _, by omega, by go_num, HTN.out, HXR.out⟩
            case measure => simp [intOf]; omega
      obtain rfl : i = n := by omega
      clear ht hx
      have HTT := Lib.hid (show TabM rowsK boolK g wr (.slice (some ⟨g, 0, none⟩) 5 5) Ts (maskT ws Z C) from by
        rw [HT.out, show (natL ws).length = i by simp [natL, HN.out]]
        exact HTI.out)
      go_wp2_with fail
      go_ret2
      exact ⟨.slice (some ⟨g, 0, none⟩) 5 5, Ts, by rw [HE.out]; rfl, HTT.out.mono (by have := HX5.out.bel.size; have := HGF.out; omega), HX5.out.trans HXI.out⟩
end Go.Proofs.Ytkjgcmdabelohaa
