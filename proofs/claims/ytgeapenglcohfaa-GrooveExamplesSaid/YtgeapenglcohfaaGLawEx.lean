/- GrooveExamples: the law's walk. No condition. -/
import Derived.Test.YtgeapenglcohfaaGAlive
import Derived.Test.YtgeapenglcohfaaGLoopW
import Derived.Test.YtgeapenglcohfaaGDeep
import Derived.Test.YtgeapenglcohfaaGChkL
import Derived.Test.YtgeapenglcohfaaGChkO
import Derived.Deep.Cut
import Derived.Laws.OwnMore
import Derived.Deep.OwnRows
namespace Go.Proofs.Ytgeapenglcohfaa
open Go.RowKit

/-- Two cuts that lie in a block. -/
theorem cutsIs_box {W : World} {cb : Nat} {A A' : Option Addr} {k c k' c' : Nat} {xs ys : List (Int × Int)} {p p' : Int} {b b' : Bool} (hb : BoxAt cb #[.slice A k c, .int .i64 p, .bool b, .slice A' k' c', .int .i64 p', .bool b'] 86 W)
    (hx : spotK.Is W (.slice A k c) xs) (hy : spotK.Is W (.slice A' k' c') ys) : CutsIs W (.slice (some ⟨cb, 0, none⟩) 2 2) [(xs, p, b), (ys, p', b')] := by
  refine ⟨[((A, k, c), p, b), ((A', k', c'), p', b')], ⟨some ⟨cb, 0, none⟩, 2, rfl, by simp, by simp [maxLen], fun j hj => ⟨cb, 0, rfl, hb.lt, fun i u hu => ?_⟩⟩, rfl, fun q h h' => ?_⟩
  · have hj' : j = 0 ∨ j = 1 := by simp at hj; omega
    have hi : i < 3 := by
      have := (List.getElem?_eq_some_iff.1 hu).1
      rw [cutK.len] at this
      exact this
    have hi' : i = 0 ∨ i = 1 ∨ i = 2 := by omega
    rcases hj' with rfl | rfl <;> rcases hi' with rfl | rfl | rfl <;> (cases hu; exact hb.cell rfl)
  · have hq : q = 0 ∨ q = 1 := by simp at h; omega
    rcases hq with rfl | rfl
    · exact ⟨hx, rfl⟩
    · exact ⟨hy, rfl⟩
/-- The works of the examples. -/
def exCuts (y : Int) : List CutT := [([(0, 0), (100, 0)], 1, false), ([(0, y), (100, y)], 2, false)]
def exK (f y : Int) : WkT := ⟨2, 1, 2, 50, 3, 1, 0, 0, 0, f, 1, 0, exCuts y⟩
def zeroK : WkT := ⟨0, 0, 0, 0, 0, 0, 0, 0, 0, 0, 0, 0, []⟩
theorem cutsIs_nil (w : World) : CutsIs w (.slice none 0 0) [] := ⟨[], (EK.Own.nil (K := cutK) 0 w).is, rfl, fun q h => by simp at h⟩
theorem isI_nil (w : World) : IsI w (.slice none 0 0) [] := (OwnI.nil 0 w).isI
theorem isI_zeros (W : World) : IsI (W.alloc (.cells (madeCells #[.int .i64 0] 61) 3)) (.slice (some ⟨W.heap.size, 0, none⟩) 61 61) (List.replicate 61 0) := by
  have := (intK_own.1 (EK.Own.lit (K := intK) (B := 0) W (madeCells #[.int .i64 0] 61) (List.replicate 61 0) (by rw [toList_madeCells_one, flat_ints, List.map_replicate]) (Nat.zero_le _) (by simp [maxLen]))).isI
  rw [List.length_replicate] at this
  exact this

theorem ex_depth (w : World) : Calls Try.prog 20 #[toolV 2 1 2 50 3, .int .i64 4] w fun e w' => e = .returned (.tuple #[.int .i64 0, .int .i64 5, .int .i64 0]) ∧ Ext w w' := by
  have h := depth_any 2 1 2 50 3 4 w
  have e0 : depthLo 2 1 2 50 3 4 = 0 := by decide +kernel
  have e1 : depthHi 2 1 2 50 3 4 = 5 := by decide +kernel
  have e2 : depthE 2 1 2 50 3 4 = 0 := by decide +kernel
  unfold depthV at h
  rwa [e0, e1, e2] at h
theorem ex_half (w : World) : Calls Try.prog 22 #[toolV 2 1 2 50 3, .int .i64 0] w fun e w' => e = .returned (.tuple #[.int .i64 2, .int .i64 0]) ∧ Ext w w' := by
  have h := half_any 2 1 2 50 3 0 w
  have e0 : halfN 2 1 2 50 3 0 = 2 := by decide +kernel
  have e1 : halfE 2 1 2 50 3 0 = 0 := by decide +kernel
  unfold halfV at h
  rwa [e0, e1] at h
theorem ex_dist {v u : Value} {w : World} (hx : spotK.Is w v [(0, 0), (10, 0)]) (hy : spotK.Is w u [(5, 3)]) : Calls Try.prog 29 #[v, u] w fun e w' => e = .returned (.tuple #[V2 9 1, .int .i64 0]) ∧ Ext w w' := by
  have h := distance_any v u _ _ w hx hy
  have e0 : distP [(0, 0), (10, 0)] [(5, 3)] = (9, 1) := by decide +kernel
  have e1 : distE [(0, 0), (10, 0)] [(5, 3)] = 0 := by decide +kernel
  rwa [e0, e1] at h
theorem ex_distN {v u : Value} {w : World} (hx : spotK.Is w v []) (hy : spotK.Is w u [(0, 0), (1, 1)]) : Calls Try.prog 29 #[v, u] w fun e w' => e = .returned (.tuple #[V2 (distP [] [(0, 0), (1, 1)]).1 (distP [] [(0, 0), (1, 1)]).2, .int .i64 2]) ∧ Ext w w' := by
  have h := distance_any v u _ _ w hx hy
  have e0 : distE [] [(0, 0), (1, 1)] = 2 := by decide +kernel
  rwa [e0] at h
theorem ex_apart1 {v u : Value} {w : World} (hx : spotK.Is w v [(0, 0), (4, 3)]) (hy : spotK.Is w u [(3, 0), (9, 0)]) : Calls Try.prog 31 #[v, u, .int .i64 1] w fun e w' => e = .returned (.tuple #[.bool true, .int .i64 0]) ∧ Ext w w' := by
  have h := apart2_any v u _ _ 1 w hx hy
  have e0 : apB [(0, 0), (4, 3)] [(3, 0), (9, 0)] 1 = true := by decide +kernel
  have e1 : apE [(0, 0), (4, 3)] [(3, 0), (9, 0)] 1 = 0 := by decide +kernel
  rwa [e0, e1] at h
theorem ex_apart2 {v u : Value} {w : World} (hx : spotK.Is w v [(0, 0), (4, 3)]) (hy : spotK.Is w u [(3, 0), (9, 0)]) : Calls Try.prog 31 #[v, u, .int .i64 2] w fun e w' => e = .returned (.tuple #[.bool false, .int .i64 0]) ∧ Ext w w' := by
  have h := apart2_any v u _ _ 2 w hx hy
  have e0 : apB [(0, 0), (4, 3)] [(3, 0), (9, 0)] 2 = false := by decide +kernel
  have e1 : apE [(0, 0), (4, 3)] [(3, 0), (9, 0)] 2 = 0 := by decide +kernel
  rwa [e0, e1] at h
theorem ex_hide {v : Value} {w : World} (h : IsI w v [0, 0, 9]) : Calls Try.prog 26 #[v, .int .i64 3, .int .i64 2] w fun e w' => ∃ v', e = .returned (.tuple #[v', .int .i64 6]) ∧ Ext w w' := by
  refine (hide_any v _ 3 2 w h).mono ?_
  rintro e w' ⟨v', rfl, ho, x⟩
  have e2 : hideE [0, 0, 9] 3 2 = 6 := by decide +kernel
  exact ⟨v', by rw [e2], x⟩
theorem ex_hideN {v : Value} {w : World} (h : IsI w v []) : Calls Try.prog 26 #[v, .int .i64 0, .int .i64 0] w fun e w' => ∃ v', e = .returned (.tuple #[v', .int .i64 2]) ∧ Ext w w' := by
  refine (hide_any v _ 0 0 w h).mono ?_
  rintro e w' ⟨v', rfl, ho, x⟩
  have e2 : hideE [] 0 0 = 2 := by decide +kernel
  exact ⟨v', by rw [e2], x⟩
theorem ex_hideM {v : Value} {w : World} (h : IsI w v (List.replicate 61 0)) : Calls Try.prog 26 #[v, .int .i64 0, .int .i64 0] w fun e w' => ∃ v', e = .returned (.tuple #[v', .int .i64 4]) ∧ Ext w w' := by
  refine (hide_any v _ 0 0 w h).mono ?_
  rintro e w' ⟨v', rfl, ho, x⟩
  have e2 : hideE (List.replicate 61 0) 0 0 = 4 := by decide +kernel
  exact ⟨v', by rw [e2], x⟩
theorem ex_rules {v : Value} {w : World} (h : CutsIs w v (exK 20 20).cuts) : Calls Try.prog 47 #[(exK 20 20).val v] w fun e w' => ∃ v', e = .returned (.tuple #[v', .int .i64 0]) ∧ pairK.Own w.heap.size w' v' [(0, 1)] ∧ Ext w w' := by
  refine (rules_any (exK 20 20) v w h).mono ?_
  rintro e w' ⟨v', rfl, ho, x⟩
  have e1 : rulesL (exK 20 20) = [(0, 1)] := by decide +kernel
  have e2 : workE (exK 20 20) = 0 := by decide +kernel
  rw [e1] at ho
  exact ⟨v', by rw [e2], ho, x⟩
theorem ex_loop1 {v : Value} {w : World} (h : CutsIs w v (exK 20 20).cuts) : Calls Try.prog 51 #[(exK 20 20).val v] w fun e w' => ∃ v', e = .returned (.tuple #[v', .int .i64 6]) ∧ intK.Own w.heap.size w' v' [] ∧ Ext w w' := by
  refine (loop_any (exK 20 20) v w h).mono ?_
  rintro e w' ⟨v', rfl, ho, x⟩
  have e1 : loopL (exK 20 20) = [] := by decide +kernel
  have e2 : loopE (exK 20 20) = 6 := by decide +kernel
  rw [e1] at ho
  exact ⟨v', by rw [e2], ho, x⟩
theorem ex_loop2 {v : Value} {w : World} (h : CutsIs w v (exK 0 20).cuts) : Calls Try.prog 51 #[(exK 0 20).val v] w fun e w' => ∃ v', e = .returned (.tuple #[v', .int .i64 6]) ∧ intK.Own w.heap.size w' v' [] ∧ Ext w w' := by
  refine (loop_any (exK 0 20) v w h).mono ?_
  rintro e w' ⟨v', rfl, ho, x⟩
  have e1 : loopL (exK 0 20) = [] := by decide +kernel
  have e2 : loopE (exK 0 20) = 6 := by decide +kernel
  rw [e1] at ho
  exact ⟨v', by rw [e2], ho, x⟩
theorem ex_loop3 {v : Value} {w : World} (h : CutsIs w v (exK 0 4).cuts) : Calls Try.prog 51 #[(exK 0 4).val v] w fun e w' => ∃ v', e = .returned (.tuple #[v', .int .i64 0]) ∧ intK.Own w.heap.size w' v' [0, 1] ∧ Ext w w' := by
  refine (loop_any (exK 0 4) v w h).mono ?_
  rintro e w' ⟨v', rfl, ho, x⟩
  have e1 : loopL (exK 0 4) = [0, 1] := by decide +kernel
  have e2 : loopE (exK 0 4) = 0 := by decide +kernel
  rw [e1] at ho
  exact ⟨v', by rw [e2], ho, x⟩
theorem ex_order2 {v : Value} {w : World} (h : CutsIs w v (exK 0 20).cuts) : Calls Try.prog 49 #[(exK 0 20).val v] w fun e w' => ∃ v', e = .returned (.tuple #[v', .int .i64 0]) ∧ Ext w w' := by
  refine (order_any (exK 0 20) v w h).mono ?_
  rintro e w' ⟨v', rfl, ho, x⟩
  have e2 : orderE (exK 0 20) = 0 := by decide +kernel
  exact ⟨v', by rw [e2], x⟩
theorem ex_order3 {v : Value} {w : World} (h : CutsIs w v (exK 0 4).cuts) : Calls Try.prog 49 #[(exK 0 4).val v] w fun e w' => ∃ v', e = .returned (.tuple #[v', .int .i64 52]) ∧ Ext w w' := by
  refine (order_any (exK 0 4) v w h).mono ?_
  rintro e w' ⟨v', rfl, ho, x⟩
  have e2 : orderE (exK 0 4) = 52 := by decide +kernel
  exact ⟨v', by rw [e2], x⟩
theorem ex_deep {v : Value} {w : World} (h : CutsIs w v (exK 0 20).cuts) : Calls Try.prog 37 #[(exK 0 20).val v] w fun e w' => ∃ v', e = .returned (.tuple #[v', .int .i64 0]) ∧ intK.Own w.heap.size w' v' [0, 1] ∧ Ext w w' := by
  refine (deep_any (exK 0 20) v w h).mono ?_
  rintro e w' ⟨v', rfl, ho, x⟩
  have e1 : deepL (exK 0 20) = [0, 1] := by decide +kernel
  have e2 : workE (exK 0 20) = 0 := by decide +kernel
  rw [e1] at ho
  exact ⟨v', by rw [e2], ho, x⟩
theorem ex_chkL1 {v u : Value} {w : World} (h : CutsIs w v (exK 0 4).cuts) (hl : IsI w u [1, 0]) : Calls Try.prog 45 #[(exK 0 4).val v, u] w fun e w' => e = .returned (.int .i64 0) ∧ Ext w w' := by
  have e2 : chkLE (exK 0 4) [1, 0] = 0 := by decide +kernel
  have := checkLoop_any (exK 0 4) v u [1, 0] w h hl
  rwa [e2] at this
theorem ex_chkL2 {v u : Value} {w : World} (h : CutsIs w v (exK 0 4).cuts) (hl : IsI w u [0]) : Calls Try.prog 45 #[(exK 0 4).val v, u] w fun e w' => e = .returned (.int .i64 53) ∧ Ext w w' := by
  have e2 : chkLE (exK 0 4) [0] = 53 := by decide +kernel
  have := checkLoop_any (exK 0 4) v u [0] w h hl
  rwa [e2] at this
theorem ex_chkO {v u : Value} {w : World} (h : CutsIs w v (exK 0 4).cuts) (hl : IsI w u [0, 1]) : Calls Try.prog 43 #[(exK 0 4).val v, u] w fun e w' => e = .returned (.int .i64 53) ∧ Ext w w' := by
  have e2 : chkOE (exK 0 4) [0, 1] = 53 := by decide +kernel
  have := checkOrder_any (exK 0 4) v u [0, 1] w h hl
  rwa [e2] at this
theorem ex_check (w : World) : Calls Try.prog 39 #[zeroK.val (.slice none 0 0)] w fun e w' => e = .returned (.int .i64 51) ∧ Ext w w' := by
  have e2 : workE zeroK = 51 := by decide +kernel
  have := check_any zeroK (.slice none 0 0) w (cutsIs_nil w)
  rwa [e2] at this
theorem ex_tool (w : World) : Calls Try.prog 24 #[toolV 0 0 0 0 0] w fun e w' => e = .returned (.int .i64 50) ∧ Ext w w' := by
  have e2 : toolE 0 0 0 0 0 = 50 := by decide +kernel
  have := checkTool_any 0 0 0 0 0 w
  rwa [e2] at this

set_option maxRecDepth 100000 in
set_option maxHeartbeats 16000000 in
theorem lawExamplesG_any (w : World) : Calls Try.prog 19 #[] w fun e w' => e = .returned (.bool true) ∧ Ext w w' := by
  have HT := Lib.hid fun W : World => tool_any W
  have HL := Lib.hid fun (x y u v : Int) (W : World) => line_any x y u v W
  have HAL := Lib.hid fun W : World => alive_any W
  have HDE := Lib.hid fun W : World => ex_depth W
  have HHA := Lib.hid fun W : World => ex_half W
  have HCK := Lib.hid fun W : World => ex_check W
  have HTL := Lib.hid fun W : World => ex_tool W
  have hmk : ∀ w : World, (Instr.makeSlice 36 (.int .i64 61) (.int .i64 61)).run Try.prog w = .ok (.slice (some ⟨w.heap.size, 0, none⟩) 61 61) (w.alloc (.cells (madeCells #[.int .i64 0] 61) 3)) := fun w =>
    run_make_row' (P := Try.prog) 36 3 (.int .i64 0) 8 Try.underlying36 intInfo rfl .i64 .i64 61 (by omega) (by omega) w
  go_enter Try.func19, Try.ntmps19
  have HX0 := Lib.hid (Ext.refl w)
  go_wp2_with fail
  refine (HAL.out _).mono ?_
  rintro e w1 ⟨rfl, x'⟩
  have x : Ext w w1 := x'
  replace HX0 := Lib.hid (HX0.out.trans x)
  clear x x'
  go_wp2_with fail
  refine (HT.out _).mono ?_
  rintro e w2 ⟨rfl, x'⟩
  have x : Ext w1 w2 := x'
  replace HX0 := Lib.hid (HX0.out.trans x)
  clear x x'
  go_wp2_with fail
  refine (HDE.out _).mono ?_
  rintro e w3 ⟨rfl, x'⟩
  have x : Ext w2 w3 := x'
  replace HX0 := Lib.hid (HX0.out.trans x)
  clear x x'
  go_wp2_with fail
  refine (HT.out _).mono ?_
  rintro e w4 ⟨rfl, x'⟩
  have x : Ext w3 w4 := x'
  replace HX0 := Lib.hid (HX0.out.trans x)
  clear x x'
  go_wp2_with fail
  refine (HHA.out _).mono ?_
  rintro e w5 ⟨rfl, x'⟩
  have x : Ext w4 w5 := x'
  replace HX0 := Lib.hid (HX0.out.trans x)
  clear x x'
  go_wp2_with fail
  refine (HL.out _ _ _ _ _).mono ?_
  rintro e w6 ⟨b, rfl, o, x'⟩
  have x : Ext w5 w6 := x'
  replace HX0 := Lib.hid (HX0.out.trans x)
  have S1 := Lib.hid o.is
  clear o
  clear x x'
  go_wp2_with fail
  have HSL := Lib.hid ((EK.Own.lit (K := spotK) (B := w6.heap.size) w6 #[.int .i64 5, .int .i64 3] [(5, 3)] rfl (Nat.le_refl _) (by decide)).is)
  refine (ex_dist (S1.out.ext ((Ext.refl _).alloc _)) HSL.out).mono ?_
  rintro e w7 ⟨rfl, x'⟩
  have x : Ext w6 w7 := Ext.trans ((Ext.refl _).alloc _) x'
  replace S1 := Lib.hid (S1.out.ext x)
  replace HX0 := Lib.hid (HX0.out.trans x)
  clear HSL S1
  clear x x'
  have BX := Lib.hid (BoxAt.new w7 #[.int .i64 9, .int .i64 1] 45)
  go_wp2_with fail
  refine (HL.out _ _ _ _ _).mono ?_
  rintro e w8 ⟨b1, rfl, o, x'⟩
  have x : Ext w7 w8 := Ext.trans ((Ext.refl _).alloc _) x'
  replace HX0 := Lib.hid (HX0.out.trans x)
  replace BX := Lib.hid (BX.out.ext x')
  have S1 := Lib.hid o.is
  clear o
  clear x x'
  go_wp2_with fail
  refine (HL.out _ _ _ _ _).mono ?_
  rintro e w9 ⟨b2, rfl, o, x'⟩
  have x : Ext w8 w9 := x'
  replace BX := Lib.hid (BX.out.ext x)
  replace S1 := Lib.hid (S1.out.ext x)
  replace HX0 := Lib.hid (HX0.out.trans x)
  have S2 := Lib.hid o.is
  clear o
  clear x x'
  go_wp2_with fail
  refine (ex_apart1 S1.out S2.out).mono ?_
  rintro e w10 ⟨rfl, x'⟩
  have x : Ext w9 w10 := x'
  replace BX := Lib.hid (BX.out.ext x)
  replace S1 := Lib.hid (S1.out.ext x)
  replace S2 := Lib.hid (S2.out.ext x)
  replace HX0 := Lib.hid (HX0.out.trans x)
  clear S1 S2
  clear x x'
  go_wp2_with fail
  refine (HL.out _ _ _ _ _).mono ?_
  rintro e w11 ⟨b1, rfl, o, x'⟩
  have x : Ext w10 w11 := x'
  replace BX := Lib.hid (BX.out.ext x)
  replace HX0 := Lib.hid (HX0.out.trans x)
  have S1 := Lib.hid o.is
  clear o
  clear x x'
  go_wp2_with fail
  refine (HL.out _ _ _ _ _).mono ?_
  rintro e w12 ⟨b2, rfl, o, x'⟩
  have x : Ext w11 w12 := x'
  replace BX := Lib.hid (BX.out.ext x)
  replace S1 := Lib.hid (S1.out.ext x)
  replace HX0 := Lib.hid (HX0.out.trans x)
  have S2 := Lib.hid o.is
  clear o
  clear x x'
  go_wp2_with fail
  refine (ex_apart2 S1.out S2.out).mono ?_
  rintro e w13 ⟨rfl, x'⟩
  have x : Ext w12 w13 := x'
  replace BX := Lib.hid (BX.out.ext x)
  replace S1 := Lib.hid (S1.out.ext x)
  replace S2 := Lib.hid (S2.out.ext x)
  replace HX0 := Lib.hid (HX0.out.trans x)
  clear S1 S2
  clear x x'
  go_wp2_with fail
  have HSL := Lib.hid ((intK_own.1 (EK.Own.lit (K := intK) (B := w13.heap.size) w13 #[.int .i64 0, .int .i64 0, .int .i64 9] [0, 0, 9] rfl (Nat.le_refl _) (by decide))).isI)
  refine (ex_hide HSL.out).mono ?_
  rintro e w14 ⟨v, rfl, x'⟩
  have x : Ext w13 w14 := Ext.trans ((Ext.refl _).alloc _) x'
  replace BX := Lib.hid (BX.out.ext x)
  replace HX0 := Lib.hid (HX0.out.trans x)
  clear HSL
  clear x x'
  have b0 := BX.out.cell (i := 0) rfl
  have b1 := BX.out.cell (i := 1) rfl
  have lb := cell_lt b0
  go_wp2_with fail
  refine (HT.out _).mono ?_
  rintro e w15 ⟨rfl, x'⟩
  have x : Ext w14 w15 := x'
  replace BX := Lib.hid (BX.out.ext x)
  replace HX0 := Lib.hid (HX0.out.trans x)
  clear b0 b1 lb BX
  clear x x'
  go_wp2_with fail
  refine (HL.out _ _ _ _ _).mono ?_
  rintro e w16 ⟨bp, rfl, o, x'⟩
  have x : Ext w15 w16 := x'
  replace HX0 := Lib.hid (HX0.out.trans x)
  have L1 := Lib.hid o
  have hp := (o.lt bp rfl).2
  clear o
  clear x x'
  go_wp2_with fail
  refine (HL.out _ _ _ _ _).mono ?_
  rintro e w17 ⟨bq, rfl, o, x'⟩
  have x : Ext w16 w17 := x'
  replace L1 := Lib.hid (L1.out.ext x)
  replace HX0 := Lib.hid (HX0.out.trans x)
  have L2 := Lib.hid o
  have hq := (o.lt bq rfl).2
  replace hp := Nat.lt_of_lt_of_le hp x.bel.size
  clear o
  clear x x'
  have HNB := Lib.hid (And.intro hp hq)
  clear hp hq
  have HXC := Lib.hid HX0.out
  have HB := Lib.hid (show BoxAt (w17.heap.size + 1) #[.int .i64 0, .int .i64 0, .int .i64 0, .int .i64 0, .int .i64 0, .int .i64 0, .int .i64 0, .int .i64 0, .int .i64 0, .int .i64 0, .int .i64 0, .int .i64 0, .slice none 0 0] 59 ((w17.alloc (.cells #[.slice (some ⟨bp, 0, none⟩) 2 2, .int .i64 1, .bool false, .slice (some ⟨bq, 0, none⟩) 2 2, .int .i64 2, .bool false] 86)).alloc (.cells #[.int .i64 0, .int .i64 0, .int .i64 0, .int .i64 0, .int .i64 0, .int .i64 0, .int .i64 0, .int .i64 0, .int .i64 0, .int .i64 0, .int .i64 0, .int .i64 0, .slice none 0 0] 59)) from by
    have := BoxAt.new (w17.alloc (.cells #[.slice (some ⟨bp, 0, none⟩) 2 2, .int .i64 1, .bool false, .slice (some ⟨bq, 0, none⟩) 2 2, .int .i64 2, .bool false] 86)) #[.int .i64 0, .int .i64 0, .int .i64 0, .int .i64 0, .int .i64 0, .int .i64 0, .int .i64 0, .int .i64 0, .int .i64 0, .int .i64 0, .int .i64 0, .int .i64 0, .slice none 0 0] 59
    simpa using this)
  have HC := Lib.hid (BoxAt.new w17 #[.slice (some ⟨bp, 0, none⟩) 2 2, .int .i64 1, .bool false, .slice (some ⟨bq, 0, none⟩) 2 2, .int .i64 2, .bool false] 86)
  rename_i K2 hK2
  refine hK2 _ _ ?_
  iterate 4 (refine wpList_plain (by rfl) (fun K hK => ?_); go_simp; refine hK _ _ ?_; clear hK K)
  refine wpList_store_row rfl 59 (.tmp 14) (.tmp 114) rfl (w17.heap.size + 1) _ rfl rfl 59 #[.int .i64 0, .int .i64 0, .int .i64 0, .int .i64 0, .int .i64 0, .int .i64 0, .int .i64 0, .int .i64 0, .int .i64 0, .int .i64 0, .int .i64 0, .int .i64 0, .slice none 0 0] HB.out (by kernel_rfl) rfl (by simp [Value.oneCell']) ?_
  refine lay_list (fun W => spotK.Own 0 W (.slice (some ⟨bp, 0, none⟩) 2 2) [(0, 0), (100, 0)] ∧ spotK.Own 0 W (.slice (some ⟨bq, 0, none⟩) 2 2) [(0, 20), (100, 20)] ∧ BoxAt w17.heap.size #[.slice (some ⟨bp, 0, none⟩) 2 2, .int .i64 1, .bool false, .slice (some ⟨bq, 0, none⟩) 2 2, .int .i64 2, .bool false] 86 W ∧ BoxAt (w17.heap.size + 1) #[.int .i64 2, .int .i64 1, .int .i64 2, .int .i64 50, .int .i64 3, .int .i64 1, .int .i64 0, .int .i64 0, .int .i64 0, .int .i64 20, .int .i64 1, .int .i64 0, .slice (some ⟨w17.heap.size, 0, none⟩) 2 2] 59 W ∧ Ext w W) ⟨?_, ?_, ?_, ?_, ?_⟩ ?_
  · exact ((L1.out.mono (Nat.zero_le _)).ext (((Ext.refl _).alloc _).alloc _)).kept (but_grown (setRow_but _ _ _)) (.inr (by have := HNB.out.1; simp [Value.ownBlock]; omega))
  · exact ((L2.out.mono (Nat.zero_le _)).ext (((Ext.refl _).alloc _).alloc _)).kept (but_grown (setRow_but _ _ _)) (.inr (by have := HNB.out.2; simp [Value.ownBlock]; omega))
  · exact (HC.out.ext ((Ext.refl _).alloc _)).but (setRow_but _ _ _) (by simp)
  · exact BoxAt.setRow HB.out _
  · exact (setRow_but _ _ _).below ((HX0.out.alloc _).alloc _) (by have := HX0.out.bel.size; simp; omega)
  rintro w18 ⟨l1, l2, cb, bw, x⟩
  replace L1 := Lib.hid l1
  replace L2 := Lib.hid l2
  have CB := Lib.hid cb
  have BW := Lib.hid bw
  replace HX0 := Lib.hid x
  clear l1 l2 cb bw x HB HC
  have k0 := BW.out.cell (i := 0) rfl
  have k1 := BW.out.cell (i := 1) rfl
  have k2 := BW.out.cell (i := 2) rfl
  have k3 := BW.out.cell (i := 3) rfl
  have k4 := BW.out.cell (i := 4) rfl
  have k5 := BW.out.cell (i := 5) rfl
  have k6 := BW.out.cell (i := 6) rfl
  have k7 := BW.out.cell (i := 7) rfl
  have k8 := BW.out.cell (i := 8) rfl
  have k9 := BW.out.cell (i := 9) rfl
  have k10 := BW.out.cell (i := 10) rfl
  have k11 := BW.out.cell (i := 11) rfl
  have k12 := BW.out.cell (i := 12) rfl
  have lk := cell_lt k0
  go_wp2_with fail
  have hgo := BW.out.lt
  refine (ex_rules (cutsIs_box CB.out L1.out.is L2.out.is)).mono ?_
  rintro e w19 ⟨vr, rfl, o, x'⟩
  have x : Ext w18 w19 := x'
  replace L1 := Lib.hid (L1.out.ext x)
  replace L2 := Lib.hid (L2.out.ext x)
  replace CB := Lib.hid (CB.out.ext x)
  replace BW := Lib.hid (BW.out.ext x)
  replace HX0 := Lib.hid (HX0.out.trans x)
  clear k0 k1 k2 k3 k4 k5 k6 k7 k8 k9 k10 k11 k12 lk
  have hg := (BW.out).lt
  have R1 := Lib.hid o
  clear o
  clear x x'
  have HGO := Lib.hid hgo
  clear hgo hg
  have k0 := BW.out.cell (i := 0) rfl
  have k1 := BW.out.cell (i := 1) rfl
  have k2 := BW.out.cell (i := 2) rfl
  have k3 := BW.out.cell (i := 3) rfl
  have k4 := BW.out.cell (i := 4) rfl
  have k5 := BW.out.cell (i := 5) rfl
  have k6 := BW.out.cell (i := 6) rfl
  have k7 := BW.out.cell (i := 7) rfl
  have k8 := BW.out.cell (i := 8) rfl
  have k9 := BW.out.cell (i := 9) rfl
  have k10 := BW.out.cell (i := 10) rfl
  have k11 := BW.out.cell (i := 11) rfl
  have k12 := BW.out.cell (i := 12) rfl
  have lk := cell_lt k0
  go_wp2_with fail
  refine (ex_loop1 (cutsIs_box CB.out L1.out.is L2.out.is)).mono ?_
  rintro e w20 ⟨v, rfl, o, x'⟩
  have x : Ext w19 w20 := x'
  replace L1 := Lib.hid (L1.out.ext x)
  replace L2 := Lib.hid (L2.out.ext x)
  replace CB := Lib.hid (CB.out.ext x)
  replace BW := Lib.hid (BW.out.ext x)
  replace R1 := Lib.hid (R1.out.ext x)
  replace HX0 := Lib.hid (HX0.out.trans x)
  clear k0 k1 k2 k3 k4 k5 k6 k7 k8 k9 k10 k11 k12 lk o
  clear x x'
  have k9 := BW.out.cell (i := 9) rfl
  have f9 := frozen_of_row _ _ 9 _ _ BW.out
  have lk := cell_lt k9
  go_upto_region 15 with fail
  refine lay_wp (fun W => spotK.Own 0 W (.slice (some ⟨bp, 0, none⟩) 2 2) [(0, 0), (100, 0)] ∧ spotK.Own 0 W (.slice (some ⟨bq, 0, none⟩) 2 2) [(0, 20), (100, 20)] ∧ BoxAt w17.heap.size #[.slice (some ⟨bp, 0, none⟩) 2 2, .int .i64 1, .bool false, .slice (some ⟨bq, 0, none⟩) 2 2, .int .i64 2, .bool false] 86 W ∧ BoxAt (w17.heap.size + 1) #[.int .i64 2, .int .i64 1, .int .i64 2, .int .i64 50, .int .i64 3, .int .i64 1, .int .i64 0, .int .i64 0, .int .i64 0, .int .i64 0, .int .i64 1, .int .i64 0, .slice (some ⟨w17.heap.size, 0, none⟩) 2 2] 59 W ∧ Ext w W ∧ pairK.Is W vr [(0, 1)]) ⟨?_, ?_, ?_, ?_, ?_, ?_⟩ ?_
  · exact L1.out.oth (.inr (by have := HNB.out.1; simp [Value.ownBlock]; omega))
  · exact L2.out.oth (.inr (by have := HNB.out.2; simp [Value.ownBlock]; omega))
  · exact CB.out.setOther (by simp) _
  · exact BW.out.setCell 9 _
  · exact HX0.out.setCell (p := ⟨w17.heap.size + 1, 9, none⟩) (by have := HXC.out.bel.size; simp; omega) _
  · exact (R1.out.oth (own_off R1.out HGO.out)).is
  rintro w21 ⟨l1, l2, cb, bw, x, r1⟩
  replace L1 := Lib.hid l1
  replace L2 := Lib.hid l2
  replace CB := Lib.hid cb
  replace BW := Lib.hid bw
  replace HX0 := Lib.hid x
  replace R1 := Lib.hid r1
  clear l1 l2 cb bw x r1 k9 f9 lk
  have k0 := BW.out.cell (i := 0) rfl
  have k1 := BW.out.cell (i := 1) rfl
  have k2 := BW.out.cell (i := 2) rfl
  have k3 := BW.out.cell (i := 3) rfl
  have k4 := BW.out.cell (i := 4) rfl
  have k5 := BW.out.cell (i := 5) rfl
  have k6 := BW.out.cell (i := 6) rfl
  have k7 := BW.out.cell (i := 7) rfl
  have k8 := BW.out.cell (i := 8) rfl
  have k9 := BW.out.cell (i := 9) rfl
  have k10 := BW.out.cell (i := 10) rfl
  have k11 := BW.out.cell (i := 11) rfl
  have k12 := BW.out.cell (i := 12) rfl
  have lk := cell_lt k0
  go_wp2_with fail
  refine (ex_loop2 (cutsIs_box CB.out L1.out.is L2.out.is)).mono ?_
  rintro e w22 ⟨v2, rfl, o, x'⟩
  have x : Ext w21 w22 := x'
  replace L1 := Lib.hid (L1.out.ext x)
  replace L2 := Lib.hid (L2.out.ext x)
  replace CB := Lib.hid (CB.out.ext x)
  replace BW := Lib.hid (BW.out.ext x)
  replace R1 := Lib.hid (R1.out.ext x)
  replace HX0 := Lib.hid (HX0.out.trans x)
  clear k0 k1 k2 k3 k4 k5 k6 k7 k8 k9 k10 k11 k12 lk
  obtain ⟨A2, c2, rfl, -⟩ := o.is
  clear o
  clear x x'
  have k0 := BW.out.cell (i := 0) rfl
  have k1 := BW.out.cell (i := 1) rfl
  have k2 := BW.out.cell (i := 2) rfl
  have k3 := BW.out.cell (i := 3) rfl
  have k4 := BW.out.cell (i := 4) rfl
  have k5 := BW.out.cell (i := 5) rfl
  have k6 := BW.out.cell (i := 6) rfl
  have k7 := BW.out.cell (i := 7) rfl
  have k8 := BW.out.cell (i := 8) rfl
  have k9 := BW.out.cell (i := 9) rfl
  have k10 := BW.out.cell (i := 10) rfl
  have k11 := BW.out.cell (i := 11) rfl
  have k12 := BW.out.cell (i := 12) rfl
  have lk := cell_lt k0
  go_wp2_with fail
  refine (ex_order2 (cutsIs_box CB.out L1.out.is L2.out.is)).mono ?_
  rintro e w23 ⟨v3, rfl, x'⟩
  have x : Ext w22 w23 := x'
  replace L1 := Lib.hid (L1.out.ext x)
  replace L2 := Lib.hid (L2.out.ext x)
  replace CB := Lib.hid (CB.out.ext x)
  replace BW := Lib.hid (BW.out.ext x)
  replace R1 := Lib.hid (R1.out.ext x)
  replace HX0 := Lib.hid (HX0.out.trans x)
  clear k0 k1 k2 k3 k4 k5 k6 k7 k8 k9 k10 k11 k12 lk
  clear x x'
  have k0 := BW.out.cell (i := 0) rfl
  have k1 := BW.out.cell (i := 1) rfl
  have k2 := BW.out.cell (i := 2) rfl
  have k3 := BW.out.cell (i := 3) rfl
  have k4 := BW.out.cell (i := 4) rfl
  have k5 := BW.out.cell (i := 5) rfl
  have k6 := BW.out.cell (i := 6) rfl
  have k7 := BW.out.cell (i := 7) rfl
  have k8 := BW.out.cell (i := 8) rfl
  have k9 := BW.out.cell (i := 9) rfl
  have k10 := BW.out.cell (i := 10) rfl
  have k11 := BW.out.cell (i := 11) rfl
  have k12 := BW.out.cell (i := 12) rfl
  have lk := cell_lt k0
  go_wp2_with fail
  refine (ex_deep (cutsIs_box CB.out L1.out.is L2.out.is)).mono ?_
  rintro e w24 ⟨vd, rfl, o, x'⟩
  have x : Ext w23 w24 := x'
  replace L1 := Lib.hid (L1.out.ext x)
  replace L2 := Lib.hid (L2.out.ext x)
  replace CB := Lib.hid (CB.out.ext x)
  replace BW := Lib.hid (BW.out.ext x)
  replace R1 := Lib.hid (R1.out.ext x)
  replace HX0 := Lib.hid (HX0.out.trans x)
  clear k0 k1 k2 k3 k4 k5 k6 k7 k8 k9 k10 k11 k12 lk
  have D1 := Lib.hid (intK_own.1 o).isI
  clear o
  clear x x'
  go_wp2_with fail
  refine (HL.out _ _ _ _ _).mono ?_
  rintro e w25 ⟨b, rfl, o, x'⟩
  have x : Ext w24 w25 := x'
  replace L1 := Lib.hid (L1.out.ext x)
  replace L2 := Lib.hid (L2.out.ext x)
  replace CB := Lib.hid (CB.out.ext x)
  replace BW := Lib.hid (BW.out.ext x)
  replace R1 := Lib.hid (R1.out.ext x)
  replace D1 := Lib.hid (D1.out.ext x)
  replace HX0 := Lib.hid (HX0.out.trans x)
  have S1 := Lib.hid o.is
  clear o
  clear x x'
  go_wp2_with fail
  refine (ex_distN (EK.Own.nil (K := spotK) 0 _).is S1.out).mono ?_
  rintro e w26 ⟨rfl, x'⟩
  have x : Ext w25 w26 := x'
  replace L1 := Lib.hid (L1.out.ext x)
  replace L2 := Lib.hid (L2.out.ext x)
  replace CB := Lib.hid (CB.out.ext x)
  replace BW := Lib.hid (BW.out.ext x)
  replace R1 := Lib.hid (R1.out.ext x)
  replace D1 := Lib.hid (D1.out.ext x)
  replace S1 := Lib.hid (S1.out.ext x)
  replace HX0 := Lib.hid (HX0.out.trans x)
  clear S1
  clear x x'
  go_wp2_with fail
  refine (ex_hideN (isI_nil _)).mono ?_
  rintro e w27 ⟨v4, rfl, x'⟩
  have x : Ext w26 w27 := x'
  replace L1 := Lib.hid (L1.out.ext x)
  replace L2 := Lib.hid (L2.out.ext x)
  replace CB := Lib.hid (CB.out.ext x)
  replace BW := Lib.hid (BW.out.ext x)
  replace R1 := Lib.hid (R1.out.ext x)
  replace D1 := Lib.hid (D1.out.ext x)
  replace HX0 := Lib.hid (HX0.out.trans x)
  clear x x'
  go_wp2_with fail
  refine (ex_hideM (isI_zeros _)).mono ?_
  rintro e w28 ⟨v5, rfl, x'⟩
  have x : Ext w27 w28 := Ext.trans ((Ext.refl _).alloc _) x'
  replace L1 := Lib.hid (L1.out.ext x)
  replace L2 := Lib.hid (L2.out.ext x)
  replace CB := Lib.hid (CB.out.ext x)
  replace BW := Lib.hid (BW.out.ext x)
  replace R1 := Lib.hid (R1.out.ext x)
  replace D1 := Lib.hid (D1.out.ext x)
  replace HX0 := Lib.hid (HX0.out.trans x)
  clear x x'
  go_wp2_with fail
  have HSL := Lib.hid ((EK.Own.lit (K := pairK) (B := w28.heap.size) w28 #[.int .i64 0, .int .i64 1] [(0, 1)] rfl (Nat.le_refl _) (by decide)).is)
  have C := samePairs_any _ _ _ _ _ (R1.out.ext ((Ext.refl _).alloc _)) HSL.out
  rw [decide_eq_true rfl] at C
  refine (C).mono ?_
  rintro e w29 ⟨rfl, x'⟩
  have x : Ext w28 w29 := Ext.trans ((Ext.refl _).alloc _) x'
  replace L1 := Lib.hid (L1.out.ext x)
  replace L2 := Lib.hid (L2.out.ext x)
  replace CB := Lib.hid (CB.out.ext x)
  replace BW := Lib.hid (BW.out.ext x)
  replace R1 := Lib.hid (R1.out.ext x)
  replace D1 := Lib.hid (D1.out.ext x)
  replace HX0 := Lib.hid (HX0.out.trans x)
  clear C HSL R1
  clear x x'
  go_wp2_with fail
  have HSL := Lib.hid ((intK_own.1 (EK.Own.lit (K := intK) (B := w29.heap.size) w29 #[.int .i64 0, .int .i64 1] [0, 1] rfl (Nat.le_refl _) (by decide))).isI)
  have C := same_any _ _ _ _ _ (D1.out.ext ((Ext.refl _).alloc _)) HSL.out
  rw [show (([0, 1] : List Int) == [0, 1]) = true by decide] at C
  refine (C).mono ?_
  rintro e w30 ⟨rfl, x'⟩
  have x : Ext w29 w30 := Ext.trans ((Ext.refl _).alloc _) x'
  replace L1 := Lib.hid (L1.out.ext x)
  replace L2 := Lib.hid (L2.out.ext x)
  replace CB := Lib.hid (CB.out.ext x)
  replace BW := Lib.hid (BW.out.ext x)
  replace D1 := Lib.hid (D1.out.ext x)
  replace HX0 := Lib.hid (HX0.out.trans x)
  clear C HSL D1
  clear x x'
  go_wp2_with fail
  have q12 := But.cells (D := []) (BW.out.cell (i := 12) rfl) (by simp)
  have lk := BW.out.lt
  refine (wpIn_wide (n := 3)).1 ?_
  refine wpIn_region_steps [] 5 [(0, true), (1, true), (2, false), (3, true), (4, true)] (by kernel_rfl) (by kernel_rfl) ?_
  iterate 2 (refine wpSD_q (by rfl) (fun _ _ _ => trivial) (fun K hK => ?_); go_simp; refine hK _ ?_; clear hK K)
  refine wpSD_m (by rfl) (fun _ _ _ => trivial) (fun δ K hK => ?_)
  go_simp
  have E1 := Lib.hid (show Ext w30 δ.wd from ⟨δ, rfl⟩)
  refine (callsIn_wide.2 (HL.out _ _ _ _ _)).mono ?_
  rintro e w31 ⟨bn, rfl, o, x'⟩
  have x := E1.out.trans x'
  have L3 := Lib.hid (o.mono (B' := 0) (Nat.zero_le _))
  have hbn := Nat.lt_of_lt_of_le (BW.out.ext E1.out).lt (o.lt bn rfl).1
  refine ⟨_, rfl, x'.but, hK _ _ ?_⟩
  clear hK K
  replace L1 := Lib.hid (L1.out.ext x)
  replace L2 := Lib.hid (L2.out.ext x)
  replace CB := Lib.hid (CB.out.ext x)
  replace BW := Lib.hid (BW.out.ext x)
  replace HX0 := Lib.hid (HX0.out.trans x)
  clear x x' E1 o
  iterate 2 (refine wpSD_q (by rfl) (fun _ _ _ => trivial) (fun K hK => ?_); go_simp; refine hK _ ?_; clear hK K)
  refine wpSD_nil ?_
  intro w32 x
  replace L3 := Lib.hid (L3.out.ext x)
  replace L1 := Lib.hid (L1.out.ext x)
  replace L2 := Lib.hid (L2.out.ext x)
  replace CB := Lib.hid (CB.out.ext x)
  replace BW := Lib.hid (BW.out.ext x)
  replace HX0 := Lib.hid (HX0.out.trans x)
  clear x q12 lk
  have HBN := Lib.hid hbn
  clear hbn
  have c3 := CB.out.cell (i := 3) rfl
  have f3 := frozen_of_row _ _ 3 _ _ CB.out
  have lk := cell_lt c3
  simp only [List.drop_succ_cons, List.drop_zero]
  gi_wp2
  go_upto_region 24 with fail
  refine lay_wp (fun W => spotK.Own 0 W (.slice (some ⟨bp, 0, none⟩) 2 2) [(0, 0), (100, 0)] ∧ spotK.Own 0 W (.slice (some ⟨bn, 0, none⟩) 2 2) [(0, 4), (100, 4)] ∧ BoxAt w17.heap.size #[.slice (some ⟨bp, 0, none⟩) 2 2, .int .i64 1, .bool false, .slice (some ⟨bn, 0, none⟩) 2 2, .int .i64 2, .bool false] 86 W ∧ BoxAt (w17.heap.size + 1) #[.int .i64 2, .int .i64 1, .int .i64 2, .int .i64 50, .int .i64 3, .int .i64 1, .int .i64 0, .int .i64 0, .int .i64 0, .int .i64 0, .int .i64 1, .int .i64 0, .slice (some ⟨w17.heap.size, 0, none⟩) 2 2] 59 W ∧ Ext w W) ⟨?_, ?_, ?_, ?_, ?_⟩ ?_
  · exact L1.out.oth (.inr (by have := HNB.out.1; simp [Value.ownBlock]; omega))
  · exact L3.out.oth (.inr (by have := HBN.out; simp [Value.ownBlock]; omega))
  · exact CB.out.setCell 3 _
  · exact BW.out.setOther (by simp) _
  · exact HX0.out.setCell (p := ⟨w17.heap.size, 3, none⟩) (by have := HXC.out.bel.size; simp; omega) _
  rintro w33 ⟨l1, l2, cb, bw, x⟩
  replace L1 := Lib.hid l1
  replace L2 := Lib.hid l2
  replace CB := Lib.hid cb
  replace BW := Lib.hid bw
  replace HX0 := Lib.hid x
  clear l1 l2 cb bw x c3 f3 lk L3
  have k0 := BW.out.cell (i := 0) rfl
  have k1 := BW.out.cell (i := 1) rfl
  have k2 := BW.out.cell (i := 2) rfl
  have k3 := BW.out.cell (i := 3) rfl
  have k4 := BW.out.cell (i := 4) rfl
  have k5 := BW.out.cell (i := 5) rfl
  have k6 := BW.out.cell (i := 6) rfl
  have k7 := BW.out.cell (i := 7) rfl
  have k8 := BW.out.cell (i := 8) rfl
  have k9 := BW.out.cell (i := 9) rfl
  have k10 := BW.out.cell (i := 10) rfl
  have k11 := BW.out.cell (i := 11) rfl
  have k12 := BW.out.cell (i := 12) rfl
  have lk := cell_lt k0
  go_wp2_with fail
  refine (ex_loop3 (cutsIs_box CB.out L1.out.is L2.out.is)).mono ?_
  rintro e w34 ⟨v6, rfl, o, x'⟩
  have x : Ext w33 w34 := x'
  replace L1 := Lib.hid (L1.out.ext x)
  replace L2 := Lib.hid (L2.out.ext x)
  replace CB := Lib.hid (CB.out.ext x)
  replace BW := Lib.hid (BW.out.ext x)
  replace HX0 := Lib.hid (HX0.out.trans x)
  clear k0 k1 k2 k3 k4 k5 k6 k7 k8 k9 k10 k11 k12 lk
  have D1 := Lib.hid (intK_own.1 o).isI
  clear o
  clear x x'
  have k0 := BW.out.cell (i := 0) rfl
  have k1 := BW.out.cell (i := 1) rfl
  have k2 := BW.out.cell (i := 2) rfl
  have k3 := BW.out.cell (i := 3) rfl
  have k4 := BW.out.cell (i := 4) rfl
  have k5 := BW.out.cell (i := 5) rfl
  have k6 := BW.out.cell (i := 6) rfl
  have k7 := BW.out.cell (i := 7) rfl
  have k8 := BW.out.cell (i := 8) rfl
  have k9 := BW.out.cell (i := 9) rfl
  have k10 := BW.out.cell (i := 10) rfl
  have k11 := BW.out.cell (i := 11) rfl
  have k12 := BW.out.cell (i := 12) rfl
  have lk := cell_lt k0
  go_wp2_with fail
  refine (ex_order3 (cutsIs_box CB.out L1.out.is L2.out.is)).mono ?_
  rintro e w35 ⟨v7, rfl, x'⟩
  have x : Ext w34 w35 := x'
  replace L1 := Lib.hid (L1.out.ext x)
  replace L2 := Lib.hid (L2.out.ext x)
  replace CB := Lib.hid (CB.out.ext x)
  replace BW := Lib.hid (BW.out.ext x)
  replace D1 := Lib.hid (D1.out.ext x)
  replace HX0 := Lib.hid (HX0.out.trans x)
  clear k0 k1 k2 k3 k4 k5 k6 k7 k8 k9 k10 k11 k12 lk
  clear x x'
  go_wp2_with fail
  have HSL := Lib.hid ((intK_own.1 (EK.Own.lit (K := intK) (B := w35.heap.size) w35 #[.int .i64 0, .int .i64 1] [0, 1] rfl (Nat.le_refl _) (by decide))).isI)
  have C := same_any _ _ _ _ _ (D1.out.ext ((Ext.refl _).alloc _)) HSL.out
  rw [show (([0, 1] : List Int) == [0, 1]) = true by decide] at C
  refine (C).mono ?_
  rintro e w36 ⟨rfl, x'⟩
  have x : Ext w35 w36 := Ext.trans ((Ext.refl _).alloc _) x'
  replace L1 := Lib.hid (L1.out.ext x)
  replace L2 := Lib.hid (L2.out.ext x)
  replace CB := Lib.hid (CB.out.ext x)
  replace BW := Lib.hid (BW.out.ext x)
  replace D1 := Lib.hid (D1.out.ext x)
  replace HX0 := Lib.hid (HX0.out.trans x)
  clear C HSL D1
  clear x x'
  have k0 := BW.out.cell (i := 0) rfl
  have k1 := BW.out.cell (i := 1) rfl
  have k2 := BW.out.cell (i := 2) rfl
  have k3 := BW.out.cell (i := 3) rfl
  have k4 := BW.out.cell (i := 4) rfl
  have k5 := BW.out.cell (i := 5) rfl
  have k6 := BW.out.cell (i := 6) rfl
  have k7 := BW.out.cell (i := 7) rfl
  have k8 := BW.out.cell (i := 8) rfl
  have k9 := BW.out.cell (i := 9) rfl
  have k10 := BW.out.cell (i := 10) rfl
  have k11 := BW.out.cell (i := 11) rfl
  have k12 := BW.out.cell (i := 12) rfl
  have lk := cell_lt k0
  go_wp2_with fail
  have HSL := Lib.hid ((intK_own.1 (EK.Own.lit (K := intK) (B := w36.heap.size) w36 #[.int .i64 1, .int .i64 0] [1, 0] rfl (Nat.le_refl _) (by decide))).isI)
  refine (ex_chkL1 (cutsIs_box (CB.out.ext ((Ext.refl _).alloc _)) (L1.out.ext ((Ext.refl _).alloc _)).is (L2.out.ext ((Ext.refl _).alloc _)).is) HSL.out).mono ?_
  rintro e w37 ⟨rfl, x'⟩
  have x : Ext w36 w37 := Ext.trans ((Ext.refl _).alloc _) x'
  replace L1 := Lib.hid (L1.out.ext x)
  replace L2 := Lib.hid (L2.out.ext x)
  replace CB := Lib.hid (CB.out.ext x)
  replace BW := Lib.hid (BW.out.ext x)
  replace HX0 := Lib.hid (HX0.out.trans x)
  clear k0 k1 k2 k3 k4 k5 k6 k7 k8 k9 k10 k11 k12 lk HSL
  clear x x'
  have k0 := BW.out.cell (i := 0) rfl
  have k1 := BW.out.cell (i := 1) rfl
  have k2 := BW.out.cell (i := 2) rfl
  have k3 := BW.out.cell (i := 3) rfl
  have k4 := BW.out.cell (i := 4) rfl
  have k5 := BW.out.cell (i := 5) rfl
  have k6 := BW.out.cell (i := 6) rfl
  have k7 := BW.out.cell (i := 7) rfl
  have k8 := BW.out.cell (i := 8) rfl
  have k9 := BW.out.cell (i := 9) rfl
  have k10 := BW.out.cell (i := 10) rfl
  have k11 := BW.out.cell (i := 11) rfl
  have k12 := BW.out.cell (i := 12) rfl
  have lk := cell_lt k0
  go_wp2_with fail
  have HSL := Lib.hid ((intK_own.1 (EK.Own.lit (K := intK) (B := w37.heap.size) w37 #[.int .i64 0] [0] rfl (Nat.le_refl _) (by decide))).isI)
  refine (ex_chkL2 (cutsIs_box (CB.out.ext ((Ext.refl _).alloc _)) (L1.out.ext ((Ext.refl _).alloc _)).is (L2.out.ext ((Ext.refl _).alloc _)).is) HSL.out).mono ?_
  rintro e w38 ⟨rfl, x'⟩
  have x : Ext w37 w38 := Ext.trans ((Ext.refl _).alloc _) x'
  replace L1 := Lib.hid (L1.out.ext x)
  replace L2 := Lib.hid (L2.out.ext x)
  replace CB := Lib.hid (CB.out.ext x)
  replace BW := Lib.hid (BW.out.ext x)
  replace HX0 := Lib.hid (HX0.out.trans x)
  clear k0 k1 k2 k3 k4 k5 k6 k7 k8 k9 k10 k11 k12 lk HSL
  clear x x'
  have k0 := BW.out.cell (i := 0) rfl
  have k1 := BW.out.cell (i := 1) rfl
  have k2 := BW.out.cell (i := 2) rfl
  have k3 := BW.out.cell (i := 3) rfl
  have k4 := BW.out.cell (i := 4) rfl
  have k5 := BW.out.cell (i := 5) rfl
  have k6 := BW.out.cell (i := 6) rfl
  have k7 := BW.out.cell (i := 7) rfl
  have k8 := BW.out.cell (i := 8) rfl
  have k9 := BW.out.cell (i := 9) rfl
  have k10 := BW.out.cell (i := 10) rfl
  have k11 := BW.out.cell (i := 11) rfl
  have k12 := BW.out.cell (i := 12) rfl
  have lk := cell_lt k0
  go_wp2_with fail
  have HSL := Lib.hid ((intK_own.1 (EK.Own.lit (K := intK) (B := w38.heap.size) w38 #[.int .i64 0, .int .i64 1] [0, 1] rfl (Nat.le_refl _) (by decide))).isI)
  refine (ex_chkO (cutsIs_box (CB.out.ext ((Ext.refl _).alloc _)) (L1.out.ext ((Ext.refl _).alloc _)).is (L2.out.ext ((Ext.refl _).alloc _)).is) HSL.out).mono ?_
  rintro e w39 ⟨rfl, x'⟩
  have x : Ext w38 w39 := Ext.trans ((Ext.refl _).alloc _) x'
  replace L1 := Lib.hid (L1.out.ext x)
  replace L2 := Lib.hid (L2.out.ext x)
  replace CB := Lib.hid (CB.out.ext x)
  replace BW := Lib.hid (BW.out.ext x)
  replace HX0 := Lib.hid (HX0.out.trans x)
  clear k0 k1 k2 k3 k4 k5 k6 k7 k8 k9 k10 k11 k12 lk HSL
  clear x x'
  go_wp2_with fail
  refine (HCK.out _).mono ?_
  rintro e w40 ⟨rfl, x'⟩
  have x : Ext w39 w40 := x'
  replace L1 := Lib.hid (L1.out.ext x)
  replace L2 := Lib.hid (L2.out.ext x)
  replace CB := Lib.hid (CB.out.ext x)
  replace BW := Lib.hid (BW.out.ext x)
  replace HX0 := Lib.hid (HX0.out.trans x)
  clear x x'
  go_wp2_with fail
  refine (HTL.out _).mono ?_
  rintro e w41 ⟨rfl, x'⟩
  have x : Ext w40 w41 := x'
  replace L1 := Lib.hid (L1.out.ext x)
  replace L2 := Lib.hid (L2.out.ext x)
  replace CB := Lib.hid (CB.out.ext x)
  replace BW := Lib.hid (BW.out.ext x)
  replace HX0 := Lib.hid (HX0.out.trans x)
  clear x x'
  go_wp2_with fail
  go_ret
  exact ⟨rfl, HX0.out⟩
end Go.Proofs.Ytgeapenglcohfaa
