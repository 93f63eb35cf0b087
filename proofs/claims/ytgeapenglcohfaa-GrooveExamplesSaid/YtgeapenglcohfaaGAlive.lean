/- The layer's examples hold: alive. No condition. -/
import Derived.Test.YtgeapenglcohfaaGOrd
import Derived.Test.YtgeapenglcohfaaGSame
import Derived.Test.YtgeapenglcohfaaGHidL
namespace Go.Proofs.Ytgeapenglcohfaa
open Go.RowKit

set_option maxHeartbeats 1000000 in
theorem tool_any (w : World) : Calls Try.prog 59 #[] w fun e w' => e = .returned (toolV 2 1 2 50 3) ∧ Ext w w' := by
  go_enter Try.func59, Try.ntmps59
  go_wp2_with fail
  refine bodyPost_ret (v := toolV 2 1 2 50 3) (by simp [results, Try.results59, go_sem]) rfl ?_
  exact ⟨rfl, by (repeat' (first | with_reducible exact Ext.refl _ | with_reducible apply Ext.alloc | with_reducible apply Ext.drew | with_reducible apply Ext.drewN | with_reducible refine Ext.setCell ?_ ?_ _ | with_reducible apply Ext.step | with_reducible assumption | with_reducible exact Nat.le_refl _ | (simp; done) | (simp; omega)))⟩
set_option maxHeartbeats 1000000 in
theorem line_any (x y u v : Int) (w : World) : Calls Try.prog 60 #[.int .i64 x, .int .i64 y, .int .i64 u, .int .i64 v] w fun e w' => ∃ b, e = .returned (.slice (some ⟨b, 0, none⟩) 2 2) ∧ spotK.Own w.heap.size w' (.slice (some ⟨b, 0, none⟩) 2 2) [(x, y), (u, v)] ∧ Ext w w' := by
  go_enter Try.func60, Try.ntmps60
  go_wp2_with fail
  go_ret
  exact ⟨_, rfl, EK.Own.lit (K := spotK) w _ [(x, y), (u, v)] rfl (Nat.le_refl _) (by simp [maxLen]), by (repeat' (first | with_reducible exact Ext.refl _ | with_reducible apply Ext.alloc | with_reducible apply Ext.drew | with_reducible apply Ext.drewN | with_reducible refine Ext.setCell ?_ ?_ _ | with_reducible apply Ext.step | with_reducible assumption | with_reducible exact Nat.le_refl _ | (simp; done) | (simp; omega)))⟩

/-- Two cuts in new memory, another block turned. -/
theorem cutsIs_two {w W : World} {B B' g : Nat} {A A' : Option Addr} {k c k' c' : Nat} {xs ys : List (Int × Int)} (p p' : Int) (b b' : Bool) (hx : spotK.Own B w (.slice A k c) xs) (hy : spotK.Own B' w (.slice A' k' c') ys)
    (hB : g < B) (hB' : g < B') (hg : g < w.heap.size) (hb : But [g] (w.alloc (.cells #[.slice A k c, .int .i64 p, .bool b, .slice A' k' c', .int .i64 p', .bool b'] 86)) W) :
    CutsIs W (.slice (some ⟨w.heap.size, 0, none⟩) 2 2) [(xs, p, b), (ys, p', b')] := by
  have hl : cutK.Own w.heap.size (w.alloc (.cells #[.slice A k c, .int .i64 p, .bool b, .slice A' k' c', .int .i64 p', .bool b'] 86)) (.slice (some ⟨w.heap.size, 0, none⟩) 2 2) [((A, k, c), p, b), ((A', k', c'), p', b')] :=
    EK.Own.lit (K := cutK) w _ [((A, k, c), p, b), ((A', k', c'), p', b')] rfl (Nat.le_refl _) (by simp [maxLen])
  refine ⟨[((A, k, c), p, b), ((A', k', c'), p', b')], (hl.kept (but_grown hb) (own_off hl hg)).is, rfl, fun q h h' => ?_⟩
  have hx' := hx.ext ((Ext.refl w).alloc (.cells #[.slice A k c, .int .i64 p, .bool b, .slice A' k' c', .int .i64 p', .bool b'] 86))
  have hy' := hy.ext ((Ext.refl w).alloc (.cells #[.slice A k c, .int .i64 p, .bool b, .slice A' k' c', .int .i64 p', .bool b'] 86))
  have hq : q = 0 ∨ q = 1 := by simp at h; omega
  rcases hq with rfl | rfl
  · exact ⟨(hx'.kept (but_grown hb) (own_off hx' hB)).is, rfl⟩
  · exact ⟨(hy'.kept (but_grown hb) (own_off hy' hB')).is, rfl⟩

/-- The work of the examples about walls, and the one with an order. -/
def walledK (p : Int) : WkT := ⟨2, 1, 2, 50, 3, 10, 100, p, 0, 0, 0, 100, [([(0, 0), (100, 0)], 21, false), ([(0, 29), (100, 29)], 21, false)]⟩
def orderK : WkT := ⟨2, 1, 2, 50, 3, 10, 100, 0, 0, 0, 0, 100, [([(0, 0), (9, 9)], 1, false), ([(0, 9), (9, 0)], 2, false)]⟩
def WalledR (p : Int) (w : World) (e : Ending) (w' : World) : Prop := ∃ v, e = .returned ((walledK p).val v) ∧ CutsIs w' v (walledK p).cuts ∧ Ext w w'
set_option maxHeartbeats 8000000 in
set_option maxRecDepth 100000 in
theorem walled_any (p : Int) (w : World) : Calls Try.prog 92 #[.int .i64 p] w (WalledR p w) := by
  have HT := Lib.hid fun W : World => tool_any W
  have HL := Lib.hid fun (x y u v : Int) (W : World) => line_any x y u v W
  go_enter Try.func92, Try.ntmps92
  go_wp2_with fail
  refine (HT.out _).mono ?_
  rintro e W1 ⟨rfl, x1⟩
  go_wp2_with fail
  refine (HL.out _ _ _ _ _).mono ?_
  rintro e W2 ⟨b2, rfl, o2, x2⟩
  go_wp2_with fail
  refine (HL.out _ _ _ _ _).mono ?_
  rintro e W3 ⟨b3, rfl, o3, x3⟩
  have hs1 := (BoxAt.ext (BoxAt.new w _ _) x1).lt
  have hs2 := x2.bel.size
  have HC := Lib.hid fun (W : World) hb => cutsIs_two (w := W3) (W := W) (g := w.heap.size) 21 21 false false (o2.ext x3) o3 hs1 (by omega) (by have := x3.bel.size; omega) hb
  have HX := Lib.hid (show Ext w W3 from Ext.trans (Ext.alloc (Ext.refl w) _) ((x1.trans x2).trans x3))
  have HB := Lib.hid ((BoxAt.new w #[.int .i64 0, .int .i64 0, .int .i64 0, .int .i64 0, .int .i64 0, .int .i64 0, .int .i64 0, .int .i64 0, .int .i64 0, .int .i64 0, .int .i64 0, .int .i64 0, .slice none 0 0] 59).ext ((x1.trans x2).trans x3))
  have hs3 := HB.out.lt
  clear o2 o3 x1 x2 x3
  rename_i K2 hK2
  refine hK2 _ _ ?_
  iterate 3 (refine wpList_plain (by rfl) (fun K hK => ?_); go_simp; refine hK _ _ ?_; clear hK K)
  refine wpList_store_row rfl 59 (.tmp 2) (.tmp 10) rfl w.heap.size _ rfl rfl 59 #[.int .i64 0, .int .i64 0, .int .i64 0, .int .i64 0, .int .i64 0, .int .i64 0, .int .i64 0, .int .i64 0, .int .i64 0, .int .i64 0, .int .i64 0, .int .i64 0, .slice none 0 0] (HB.out.ext ((Ext.refl _).alloc _)) (by kernel_rfl) rfl (by simp [Value.oneCell']) ?_
  refine lay_list (fun W => WkAt (walledK p) (.slice (some ⟨W3.heap.size, 0, none⟩) 2 2) w.heap.size W ∧ CutsIs W (.slice (some ⟨W3.heap.size, 0, none⟩) 2 2) (walledK p).cuts ∧ Ext w W) ⟨WkAt.box (k := walledK p) (BoxAt.setRow (HB.out.ext ((Ext.refl _).alloc _)) _), HC.out _ (setRow_but _ _ _), (setRow_but _ _ _).below (HX.out.alloc _) (by simp)⟩ ?_
  rintro W ⟨⟨h0, h1, h2, h3, h4, h5, h6, h7, h8, h9, h10, h11, h12⟩, hc, hx⟩
  have HCC := Lib.hid hc
  have HXX := Lib.hid hx
  simp only [walledK] at h0 h1 h2 h3 h4 h5 h6 h7 h8 h9 h10 h11
  clear hc hx
  go_wp2_with fail
  refine bodyPost_ret (v := (walledK p).val (.slice (some ⟨W3.heap.size, 0, none⟩) 2 2)) (by simp [results, Try.results92, go_sem, walledK, h0, h1, h2, h3, h4, h5, h6, h7, h8, h9, h10, h11, h12]) rfl ?_
  exact ⟨_, rfl, HCC.out, HXX.out⟩

theorem depth_alive (w : World) : Calls Try.prog 20 #[toolV 2 1 2 50 3, .int .i64 21] w fun e w' => e = .returned (.tuple #[.int .i64 7, .int .i64 13, .int .i64 0]) ∧ Ext w w' := by
  have h := depth_any 2 1 2 50 3 21 w
  have e1 : depthLo 2 1 2 50 3 21 = 7 := by decide
  have e2 : depthHi 2 1 2 50 3 21 = 13 := by decide
  have e3 : depthE 2 1 2 50 3 21 = 0 := by decide
  unfold depthV at h
  rwa [e1, e2, e3] at h
theorem half_alive (w : World) : Calls Try.prog 22 #[toolV 2 1 2 50 3, .int .i64 13] w fun e w' => e = .returned (.tuple #[.int .i64 9, .int .i64 0]) ∧ Ext w w' := by
  have h := half_any 2 1 2 50 3 13 w
  have e1 : halfN 2 1 2 50 3 13 = 9 := by decide
  have e2 : halfE 2 1 2 50 3 13 = 0 := by decide
  unfold halfV at h
  rwa [e1, e2] at h
theorem dist_alive {v u : Value} {w : World} (hx : spotK.Is w v [(0, 0), (4, 3)]) (hy : spotK.Is w u [(3, 0), (9, 0)]) : Calls Try.prog 29 #[v, u] w fun e w' => e = .returned (.tuple #[V2 81 25, .int .i64 0]) ∧ Ext w w' := by
  have h := distance_any v u _ _ w hx hy
  have e1 : distP [(0, 0), (4, 3)] [(3, 0), (9, 0)] = (81, 25) := by decide +kernel
  have e2 : distE [(0, 0), (4, 3)] [(3, 0), (9, 0)] = 0 := by decide +kernel
  rwa [e1, e2] at h
theorem walls_alive0 {v : Value} {w : World} (h : CutsIs w v (walledK 0).cuts) : Calls Try.prog 35 #[(walledK 0).val v] w fun e w' => ∃ A c, e = .returned (.tuple #[.slice A 0 c, .int .i64 0]) ∧ Ext w w' := by
  refine (walls_any (walledK 0) v w h).mono ?_
  rintro e w' ⟨v', rfl, ho, x⟩
  have e1 : wallsL (walledK 0) = [] := by decide +kernel
  have e2 : workE (walledK 0) = 0 := by decide +kernel
  rw [e1] at ho
  obtain ⟨A, c, rfl, _⟩ := ho.is
  exact ⟨A, c, by rw [e2]; rfl, x⟩
theorem walls_alive1 {v : Value} {w : World} (h : CutsIs w v (walledK 1).cuts) : Calls Try.prog 35 #[(walledK 1).val v] w fun e w' => ∃ v', e = .returned (.tuple #[v', .int .i64 0]) ∧ pairK.Is w' v' [(0, 1)] ∧ Ext w w' := by
  refine (walls_any (walledK 1) v w h).mono ?_
  rintro e w' ⟨v', rfl, ho, x⟩
  have e1 : wallsL (walledK 1) = [(0, 1)] := by decide +kernel
  have e2 : workE (walledK 1) = 0 := by decide +kernel
  rw [e1] at ho
  exact ⟨v', by rw [e2], ho.is, x⟩
theorem order_alive {v : Value} {w : World} (h : CutsIs w v orderK.cuts) : Calls Try.prog 49 #[orderK.val v] w fun e w' => ∃ v', e = .returned (.tuple #[v', .int .i64 0]) ∧ IsI w' v' [1, 0] ∧ Ext w w' := by
  refine (order_any orderK v w h).mono ?_
  rintro e w' ⟨v', rfl, ho, x⟩
  have e1 : orderL orderK = [1, 0] := by decide +kernel
  have e2 : orderE orderK = 0 := by decide +kernel
  rw [e1] at ho
  exact ⟨v', by rw [e2], (intK_own.1 ho).isI, x⟩
theorem hide_alive {v : Value} {w : World} (h : IsI w v [0, 0, 5]) : Calls Try.prog 26 #[v, .int .i64 3, .int .i64 2] w fun e w' => ∃ v', e = .returned (.tuple #[v', .int .i64 0]) ∧ IsI w' v' [3, 1, 0] ∧ Ext w w' := by
  refine (hide_any v [0, 0, 5] 3 2 w h).mono ?_
  rintro e w' ⟨v', rfl, ho, x⟩
  have e1 : hideO [0, 0, 5] 3 2 = [3, 1, 0] := by decide +kernel
  have e2 : hideE [0, 0, 5] 3 2 = 0 := by decide +kernel
  rw [e1] at ho
  exact ⟨v', by rw [e2], ho, x⟩

set_option maxRecDepth 100000 in
set_option maxHeartbeats 4000000 in
theorem alive_any (w : World) : Calls Try.prog 53 #[] w fun e w' => e = .returned (.bool true) ∧ Ext w w' := by
  have HT := Lib.hid fun W : World => tool_any W
  have HL := Lib.hid fun (x y u v : Int) (W : World) => line_any x y u v W
  have HWK := Lib.hid fun (p : Int) (W : World) => walled_any p W
  have HDA := Lib.hid fun W : World => depth_alive W
  have HHA := Lib.hid fun W : World => half_alive W
  go_enter Try.func53, Try.ntmps53
  go_wp2_with fail
  refine (HT.out _).mono ?_
  rintro e W1 ⟨rfl, x1⟩
  go_wp2_with fail
  refine (HDA.out _).mono ?_
  rintro e W2 ⟨rfl, x2⟩
  go_wp2_with fail
  refine (HT.out _).mono ?_
  rintro e W3 ⟨rfl, x3⟩
  go_wp2_with fail
  refine (HHA.out _).mono ?_
  rintro e W4 ⟨rfl, x4⟩
  go_wp2_with fail
  refine (HL.out _ _ _ _ _).mono ?_
  rintro e W5 ⟨b5, rfl, o5, x5⟩
  go_wp2_with fail
  refine (HL.out _ _ _ _ _).mono ?_
  rintro e W6 ⟨b6, rfl, o6, x6⟩
  have HDI := Lib.hid (dist_alive (o5.is.ext x6) o6.is)
  have X6 := Lib.hid (((((x1.trans x2).trans x3).trans x4).trans x5).trans x6)
  clear x1 x2 x3 x4 x5 x6 o5 o6
  go_wp2_with fail
  refine HDI.out.mono ?_
  rintro e W7 ⟨rfl, x7⟩
  have X7 := Lib.hid (X6.out.trans x7)
  clear x7
  go_wp2_with fail
  refine (HWK.out _ _).mono ?_
  rintro e W8 ⟨v8, rfl, c8, x8⟩
  have HW0 := Lib.hid (walls_alive0 c8)
  have d0 : W8.cell? ⟨W7.heap.size, 0, none⟩ = some (.int .i64 81) := x8.cell_some (by go_cell)
  have d1 : W8.cell? ⟨W7.heap.size, 1, none⟩ = some (.int .i64 25) := x8.cell_some (by go_cell)
  have X8 := Lib.hid (show Ext w W8 from Ext.trans (X7.out.alloc _) x8)
  have l8 := cell_lt d0
  clear x8 c8
  go_wp2_with fail
  refine HW0.out.mono ?_
  rintro e W9 ⟨A9, c9, rfl, x9⟩
  have X9 := Lib.hid (X8.out.trans x9)
  replace d0 := x9.cell_some d0
  replace d1 := x9.cell_some d1
  clear x9
  go_wp2_with fail
  refine (HWK.out _ _).mono ?_
  rintro e W10 ⟨v10, rfl, c10, x10⟩
  have HW1 := Lib.hid (walls_alive1 c10)
  have X10 := Lib.hid (X9.out.trans x10)
  replace d0 := x10.cell_some d0
  replace d1 := x10.cell_some d1
  clear x10 c10
  go_wp2_with fail
  refine HW1.out.mono ?_
  rintro e W11 ⟨v11, rfl, p11, x11⟩
  have X11 := Lib.hid (X10.out.trans x11)
  have P11 := Lib.hid p11
  replace d0 := x11.cell_some d0
  replace d1 := x11.cell_some d1
  replace l8 := cell_lt d0
  have HIH := Lib.hid (show IsI (W11.alloc (.cells #[.int .i64 0, .int .i64 0, .int .i64 5] 3)) (.slice (some ⟨W11.heap.size, 0, none⟩) 3 3) [0, 0, 5] from (intK_own.1 (EK.Own.lit (K := intK) W11 _ [0, 0, 5] rfl (Nat.zero_le _) (by simp [maxLen]))).isI)
  clear x11 p11
  go_wp2_with fail
  refine (hide_alive HIH.out).mono ?_
  rintro e W12 ⟨v12, rfl, i12, x12⟩
  have X12 := Lib.hid (show Ext w W12 from Ext.trans (X11.out.alloc _) x12)
  have I12 := Lib.hid i12
  have P12 := Lib.hid (P11.out.ext (((Ext.refl _).alloc _).trans x12))
  replace d0 : W12.cell? ⟨W7.heap.size, 0, none⟩ = some (.int .i64 81) := x12.cell_some (by go_cell)
  replace d1 : W12.cell? ⟨W7.heap.size, 1, none⟩ = some (.int .i64 25) := x12.cell_some (by go_cell)
  replace l8 := cell_lt d0
  clear x12 i12
  have HSP := Lib.hid fun (W : World) (v : Value) (x : Ext W12 W) (h : pairK.Is W v [(0, 1)]) => samePairs_any v11 v [(0, 1)] [(0, 1)] W (P12.out.ext x) h
  have HPL := Lib.hid (show pairK.Is (W12.alloc (.cells #[.int .i64 0, .int .i64 1] 91)) (.slice (some ⟨W12.heap.size, 0, none⟩) 1 1) [(0, 1)] from (EK.Own.lit (K := pairK) W12 _ [(0, 1)] rfl (Nat.zero_le _) (by simp [maxLen])).is)
  go_wp2_with fail
  refine (HSP.out _ _ ((Ext.refl _).alloc _) HPL.out).mono ?_
  rintro e W13 ⟨rfl, x13⟩
  have X13 := Lib.hid (show Ext w W13 from Ext.trans (X12.out.alloc _) x13)
  have I13 := Lib.hid (I12.out.ext (((Ext.refl _).alloc _).trans x13))
  clear x13 d0 d1 l8
  go_wp2_with fail
  refine (HWK.out _ _).mono ?_
  rintro e W14 ⟨v14, rfl, c14, x14⟩
  obtain ⟨A14, k14, hv14, -⟩ := cutsIs_at c14
  obtain rfl : v14 = .slice A14 2 k14 := hv14
  have X14 := Lib.hid (X13.out.trans x14)
  have I14 := Lib.hid (I13.out.ext x14)
  clear x14 c14
  rename_i K2 hK2
  refine hK2 _ _ ?_
  iterate 1 (refine wpList_plain (by rfl) (fun K hK => ?_); go_simp; refine hK _ _ ?_; clear hK K)
  refine wpList_store_row rfl 59 (.tmp 14) (.tmp 96) rfl W14.heap.size _ rfl rfl 59 #[.int .i64 0, .int .i64 0, .int .i64 0, .int .i64 0, .int .i64 0, .int .i64 0, .int .i64 0, .int .i64 0, .int .i64 0, .int .i64 0, .int .i64 0, .int .i64 0, .slice none 0 0] (BoxAt.new W14 _ _) (by kernel_rfl) rfl (by simp [Value.oneCell']) ?_
  refine lay_list (fun W => BoxAt W14.heap.size #[.int .i64 2, .int .i64 1, .int .i64 2, .int .i64 50, .int .i64 3, .int .i64 10, .int .i64 100, .int .i64 0, .int .i64 0, .int .i64 0, .int .i64 0, .int .i64 100, .slice A14 2 k14] 59 W ∧ Ext W14 W) ⟨BoxAt.setRow (BoxAt.new W14 _ _) _, (setRow_but _ _ _).below ((Ext.refl _).alloc _) (by simp)⟩ ?_
  rintro W15 ⟨b15, x15⟩
  have X15 := Lib.hid (X14.out.trans x15)
  have Y15 := Lib.hid x15
  have I15 := Lib.hid (I14.out.ext x15)
  have B15 := Lib.hid b15
  have l15 := b15.lt
  clear x15 b15
  go_wp2_with fail
  refine (HL.out _ _ _ _ _).mono ?_
  rintro e W16 ⟨b16, rfl, o16, x16⟩
  go_wp2_with fail
  refine (HL.out _ _ _ _ _).mono ?_
  rintro e W17 ⟨b17, rfl, o17, x17⟩
  have X17 := Lib.hid ((X15.out.trans x16).trans x17)
  have Y17 := Lib.hid ((Y15.out.trans x16).trans x17)
  have I17 := Lib.hid ((I15.out.ext x16).ext x17)
  have B17 := Lib.hid ((B15.out.ext x16).ext x17)
  have hs16 := x16.bel.size
  have hs14 := X14.out.bel.size
  have HC := Lib.hid fun (W : World) hb => cutsIs_two (w := W17) (W := W) (g := W14.heap.size) 1 2 false false (o16.ext x17) o17 l15 (by omega) (by have := x17.bel.size; omega) hb
  have w12 : W17.cell? ⟨W14.heap.size, 12, none⟩ = some (.slice A14 2 k14) := B17.out.cell rfl
  have g12 : W17.frozen? ⟨W14.heap.size, 12, none⟩ = false := frozen_of_row _ _ _ _ _ B17.out
  have l17 := cell_lt w12
  clear o16 o17 x16 x17
  rename_i K2 hK2
  refine hK2 _ _ ?_
  iterate 4 (refine wpList_plain (by rfl) (fun K hK => ?_); go_simp; refine hK _ _ ?_; clear hK K)
  refine lay_list (fun W => WkAt orderK (.slice (some ⟨W17.heap.size, 0, none⟩) 2 2) W14.heap.size W ∧ CutsIs W (.slice (some ⟨W17.heap.size, 0, none⟩) 2 2) orderK.cuts ∧ Ext w W ∧ IsI W v12 [3, 1, 0]) ⟨⟨((Ext.refl _).alloc _).cell_some ((cell_set_other (.inr (by decide))).trans (B17.out.cell rfl)), ((Ext.refl _).alloc _).cell_some ((cell_set_other (.inr (by decide))).trans (B17.out.cell rfl)), ((Ext.refl _).alloc _).cell_some ((cell_set_other (.inr (by decide))).trans (B17.out.cell rfl)), ((Ext.refl _).alloc _).cell_some ((cell_set_other (.inr (by decide))).trans (B17.out.cell rfl)), ((Ext.refl _).alloc _).cell_some ((cell_set_other (.inr (by decide))).trans (B17.out.cell rfl)), ((Ext.refl _).alloc _).cell_some ((cell_set_other (.inr (by decide))).trans (B17.out.cell rfl)), ((Ext.refl _).alloc _).cell_some ((cell_set_other (.inr (by decide))).trans (B17.out.cell rfl)), ((Ext.refl _).alloc _).cell_some ((cell_set_other (.inr (by decide))).trans (B17.out.cell rfl)), ((Ext.refl _).alloc _).cell_some ((cell_set_other (.inr (by decide))).trans (B17.out.cell rfl)), ((Ext.refl _).alloc _).cell_some ((cell_set_other (.inr (by decide))).trans (B17.out.cell rfl)), ((Ext.refl _).alloc _).cell_some ((cell_set_other (.inr (by decide))).trans (B17.out.cell rfl)), ((Ext.refl _).alloc _).cell_some ((cell_set_other (.inr (by decide))).trans (B17.out.cell rfl)), ((Ext.refl _).alloc _).cell_some (cell_set_same (B17.out.cell rfl))⟩, HC.out _ (by rw [← World.setCell_alloc_past _ _ _ _ l17]; exact (But.refl _ _).setCell (by simp) _), (X17.out.setCell hs14 _).alloc _, I14.out.ext ((Y17.out.setCell (Nat.le_refl _) _).alloc _)⟩ ?_
  rintro W18 ⟨⟨h0, h1, h2, h3, h4, h5, h6, h7, h8, h9, h10, h11, h12⟩, c18, x18, i18⟩
  have HO := Lib.hid (order_alive c18)
  have X18 := Lib.hid x18
  have I18 := Lib.hid i18
  have l18 := cell_lt h0
  simp only [orderK] at h0 h1 h2 h3 h4 h5 h6 h7 h8 h9 h10 h11
  clear c18 x18 i18 w12 g12 l17
  go_wp2_with fail
  refine HO.out.mono ?_
  rintro e W19 ⟨v19, rfl, i19, x19⟩
  have X19 := Lib.hid (X18.out.trans x19)
  have HS1 := Lib.hid fun (W : World) (v : Value) (x : Ext W19 W) (h : IsI W v [3, 1, 0]) => same_any v12 v [3, 1, 0] [3, 1, 0] W ((I18.out.ext x19).ext x) h
  have HS2 := Lib.hid fun (W : World) (v : Value) (x : Ext W19 W) (h : IsI W v [1, 0]) => same_any v19 v [1, 0] [1, 0] W (i19.ext x) h
  have HLI := Lib.hid (show IsI (W19.alloc (.cells #[.int .i64 3, .int .i64 1, .int .i64 0] 3)) (.slice (some ⟨W19.heap.size, 0, none⟩) 3 3) [3, 1, 0] from (intK_own.1 (EK.Own.lit (K := intK) W19 _ [3, 1, 0] rfl (Nat.zero_le _) (by simp [maxLen]))).isI)
  clear x19 i19
  go_wp2_with fail
  refine (HS1.out _ _ ((Ext.refl _).alloc _) HLI.out).mono ?_
  rintro e W20 ⟨rfl, x20⟩
  have Y20 := Lib.hid (show Ext W19 W20 from Ext.trans ((Ext.refl _).alloc _) x20)
  have HLJ := Lib.hid (show IsI (W20.alloc (.cells #[.int .i64 1, .int .i64 0] 3)) (.slice (some ⟨W20.heap.size, 0, none⟩) 2 2) [1, 0] from (intK_own.1 (EK.Own.lit (K := intK) W20 _ [1, 0] rfl (Nat.zero_le _) (by simp [maxLen]))).isI)
  clear x20
  go_wp2_with fail
  refine (HS2.out _ _ (Y20.out.alloc _) HLJ.out).mono ?_
  rintro e W21 ⟨rfl, x21⟩
  have X21 := Lib.hid (show Ext w W21 from Ext.trans ((X19.out.trans Y20.out).alloc _) x21)
  clear x21
  go_wp2_with fail
  go_ret
  exact ⟨rfl, X21.out⟩
end Go.Proofs.Ytgeapenglcohfaa
