/- GrooveOrders: the law's walk. Condition: the work's cuts read as a list. -/
import Derived.Test.YtgeapenglcohfaaGRLp
import Derived.Test.YtgeapenglcohfaaGSamW
import Derived.Test.YtgeapenglcohfaaGTwin
import Derived.Test.YtgeapenglcohfaaGGreat
import Derived.Test.YtgeapenglcohfaaGSame
namespace Go.Proofs.Ytgeapenglcohfaa
open Go.RowKit

theorem great_lens {k : WkT} (h : greatK k = false) : k.cuts.length ≤ 1000 ∧ ∀ c ∈ k.cuts, c.1.length ≤ 1000 := by
  unfold greatK at h
  simp only [Bool.or_eq_false_iff, decide_eq_false_iff_not, List.any_eq_false, decide_eq_true_eq] at h
  exact ⟨by omega, fun c hc => by have := h.2 c hc; omega⟩
theorem same_pairs {u v : Value} {xs : List (Int × Int)} {w : World} (hu : pairK.Is w u xs) (hv : pairK.Is w v xs) : Calls Try.prog 41 #[u, v] w fun e w' => e = .returned (.bool true) ∧ Ext w w' := by
  have := samePairs_any u v xs xs w hu hv
  rwa [decide_eq_true rfl] at this
theorem same_ints {u v : Value} {xs : List Int} {w : World} (hu : IsI w u xs) (hv : IsI w v xs) : Calls Try.prog 28 #[u, v] w fun e w' => e = .returned (.bool true) ∧ Ext w w' := by
  have := same_any u v xs xs w hu hv
  rwa [beq_self_eq_true] at this

set_option maxRecDepth 100000 in
set_option maxHeartbeats 8000000 in
theorem lawOrders_any (k : WkT) (v : Value) (w : World) (hI : CutsIs w v k.cuts) :
    Calls Try.prog 8 #[k.val v] w fun e w' => e = .returned (.bool true) ∧ Ext w w' := by
  have HG := Lib.hid fun (W : World) (x : Ext w W) => great_any k v W (hI.ext x)
  have HI := Lib.hid fun (W : World) (x : Ext w W) => hI.ext x
  obtain ⟨A, n, c, rfl⟩ : ∃ A n c, v = .slice A n c := by
    obtain ⟨A, c, h, -⟩ := cutsIs_at hI
    exact ⟨A, _, c, h⟩
  clear hI
  cases hg : greatK k
  case true =>
    rw [hg] at HG
    clear hg
    go_enter Try.func8, Try.ntmps8
    go_wp2_with fail
    refine (HG.out _ (by (repeat' (first | with_reducible exact Ext.refl _ | with_reducible apply Ext.alloc | with_reducible apply Ext.drew | with_reducible apply Ext.drewN | with_reducible refine Ext.setCell ?_ ?_ _ | with_reducible apply Ext.step | with_reducible assumption | with_reducible exact Nat.le_refl _ | (simp; done) | (simp; omega))))).mono ?_
    rintro e W1 ⟨rfl, x1⟩
    have HX1 := Lib.hid (show Ext w W1 from Ext.trans (by (repeat' (first | with_reducible exact Ext.refl _ | with_reducible apply Ext.alloc | with_reducible apply Ext.drew | with_reducible apply Ext.drewN | with_reducible refine Ext.setCell ?_ ?_ _ | with_reducible apply Ext.step | with_reducible assumption | with_reducible exact Nat.le_refl _ | (simp; done) | (simp; omega)))) x1)
    clear x1
    go_wp2_with fail
    go_ret
    exact ⟨rfl, HX1.out⟩
  have HT := Lib.hid fun (W : World) (x : Ext w W) => twin_any k _ W (HI.out W x) (great_lens hg).1 (great_lens hg).2
  rw [hg] at HG
  clear hg
  go_enter Try.func8, Try.ntmps8
  go_wp2_with fail
  refine (HG.out _ (by (repeat' (first | with_reducible exact Ext.refl _ | with_reducible apply Ext.alloc | with_reducible apply Ext.drew | with_reducible apply Ext.drewN | with_reducible refine Ext.setCell ?_ ?_ _ | with_reducible apply Ext.step | with_reducible assumption | with_reducible exact Nat.le_refl _ | (simp; done) | (simp; omega))))).mono ?_
  rintro e W1 ⟨rfl, x1⟩
  have HX1 := Lib.hid (show Ext w W1 from Ext.trans (by (repeat' (first | with_reducible exact Ext.refl _ | with_reducible apply Ext.alloc | with_reducible apply Ext.drew | with_reducible apply Ext.drewN | with_reducible refine Ext.setCell ?_ ?_ _ | with_reducible apply Ext.step | with_reducible assumption | with_reducible exact Nat.le_refl _ | (simp; done) | (simp; omega)))) x1)
  have HA1 := Lib.hid ((WkAt.new k (.slice A n c) w).ext x1)
  clear x1
  obtain ⟨h0, h1, h2, h3, h4, h5, h6, h7, h8, h9, h10, h11, h12⟩ := HA1.out
  have lh0 := cell_lt h0
  go_wp2_with fail
  refine (HT.out _ HX1.out).mono ?_
  rintro e W2 ⟨v', Ts, rfl, ht, x2⟩
  obtain ⟨A', n', c', rfl⟩ := own_shapeW ht.own
  have HC2 := Lib.hid ht.cuts
  have HX2 := Lib.hid (HX1.out.trans x2)
  have HA2 := Lib.hid (HA1.out.ext x2)
  have HB2 := Lib.hid (BoxAt.new W2 #[.int .i64 0, .int .i64 0, .int .i64 0, .int .i64 0, .int .i64 0, .int .i64 0, .int .i64 0, .int .i64 0, .int .i64 0, .int .i64 0, .int .i64 0, .int .i64 0, .slice none 0 0] 59)
  clear ht x2 h0 h1 h2 h3 h4 h5 h6 h7 h8 h9 h10 h11 h12 lh0
  rename_i K2 hK2
  refine hK2 _ _ ?_
  iterate 1 (refine wpList_plain (by rfl) (fun K hK => ?_); go_simp; refine hK _ _ ?_; clear hK K)
  refine wpList_store_row rfl 59 (.tmp 3) (.tmp 19) rfl W2.heap.size _ rfl rfl 59 #[.int .i64 0, .int .i64 0, .int .i64 0, .int .i64 0, .int .i64 0, .int .i64 0, .int .i64 0, .int .i64 0, .int .i64 0, .int .i64 0, .int .i64 0, .int .i64 0, .slice none 0 0] HB2.out (by kernel_rfl) rfl (by simp [Value.oneCell']) ?_
  refine lay_list (fun W => WkAt k (.slice A' n' c') W2.heap.size W ∧ Ext W2 W) ⟨WkAt.box (k := k) (BoxAt.setRow HB2.out _), (setRow_but _ _ _).below ((Ext.refl W2).alloc _) (by simp)⟩ ?_
  rintro W3 ⟨hb3, x3⟩
  have HB3 := Lib.hid hb3
  have HA3 := Lib.hid (HA2.out.ext x3)
  have HX3 := Lib.hid (HX2.out.trans x3)
  have HC3 := Lib.hid (HC2.out.ext x3)
  have HI3 := Lib.hid (HI.out W3 HX3.out)
  have C1 := Lib.hid fun (W : World) (x : Ext W3 W) => rules_any k (.slice A' n' c') W (HC3.out.ext x)
  have C2 := Lib.hid fun (W : World) (x : Ext W3 W) => refRules_any k (.slice A n c) W (HI3.out.ext x)
  have C3 := Lib.hid fun (W : World) (x : Ext W3 W) => order_any k (.slice A' n' c') W (HC3.out.ext x)
  have C4 := Lib.hid fun (W : World) (x : Ext W3 W) => refOrder_any k (.slice A n c) W (HI3.out.ext x)
  have C5 := Lib.hid fun (W : World) (x : Ext W3 W) => loop_any k (.slice A' n' c') W (HC3.out.ext x)
  have C6 := Lib.hid fun (W : World) (x : Ext W3 W) => refLoop_any k (.slice A n c) W (HI3.out.ext x)
  have C7 := Lib.hid fun (W : World) (x : Ext W3 W) => sameW_any k (.slice A' n' c') (.slice A n c) W (HC3.out.ext x) (HI3.out.ext x)
  simp only [WkT.val] at C7
  generalize workE k = er at *
  generalize orderE k = er2 at *
  generalize loopE k = er3 at *
  generalize rulesL k = wl at *
  generalize orderL k = dl at *
  generalize loopL k = ll at *
  have e1 : (er == er) = true := by simp
  have e2 : (er2 == er2) = true := by simp
  have e3 : (er3 == er3) = true := by simp
  clear hb3 x3 HI HC2 HT HG HB2 HA2 HA1 HX1 HX2
  obtain ⟨b0, b1, b2, b3, b4, b5, b6, b7, b8, b9, b10, b11, b12⟩ := HB3.out
  have lb0 := cell_lt b0
  go_wp2_with fail
  refine (C1.out _ (Ext.refl _)).mono ?_
  rintro e W4 ⟨u0, rfl, o0, x4⟩
  obtain ⟨P0, m0, q0, rfl⟩ := own_shapeW o0
  have HO0 := Lib.hid o0.is
  have HX4 := Lib.hid (x4)
  clear b0 b1 b2 b3 b4 b5 b6 b7 b8 b9 b10 b11 b12 lb0 o0 x4
  obtain ⟨b0, b1, b2, b3, b4, b5, b6, b7, b8, b9, b10, b11, b12⟩ := HA3.out.ext HX4.out
  have lb0 := cell_lt b0
  go_wp2_with fail
  refine (C2.out _ HX4.out).mono ?_
  rintro e W5 ⟨u1, rfl, o1, x5⟩
  obtain ⟨P1, m1, q1, rfl⟩ := own_shapeW o1
  have HO1 := Lib.hid o1.is
  replace HO0 := Lib.hid (HO0.out.ext x5)
  have HX5 := Lib.hid (HX4.out.trans x5)
  clear b0 b1 b2 b3 b4 b5 b6 b7 b8 b9 b10 b11 b12 lb0 o1 x5
  obtain ⟨b0, b1, b2, b3, b4, b5, b6, b7, b8, b9, b10, b11, b12⟩ := HB3.out.ext HX5.out
  have lb0 := cell_lt b0
  go_wp2_with fail
  refine (C3.out _ HX5.out).mono ?_
  rintro e W6 ⟨u2, rfl, o2, x6⟩
  obtain ⟨P2, m2, q2, rfl⟩ := own_shapeW o2
  have HO2 := Lib.hid (intK_own.1 o2).isI
  replace HO0 := Lib.hid (HO0.out.ext x6)
  replace HO1 := Lib.hid (HO1.out.ext x6)
  have HX6 := Lib.hid (HX5.out.trans x6)
  clear b0 b1 b2 b3 b4 b5 b6 b7 b8 b9 b10 b11 b12 lb0 o2 x6
  obtain ⟨b0, b1, b2, b3, b4, b5, b6, b7, b8, b9, b10, b11, b12⟩ := HA3.out.ext HX6.out
  have lb0 := cell_lt b0
  go_wp2_with fail
  refine (C4.out _ HX6.out).mono ?_
  rintro e W7 ⟨u3, rfl, o3, x7⟩
  obtain ⟨P3, m3, q3, rfl⟩ := own_shapeW o3
  have HO3 := Lib.hid (intK_own.1 o3).isI
  replace HO0 := Lib.hid (HO0.out.ext x7)
  replace HO1 := Lib.hid (HO1.out.ext x7)
  replace HO2 := Lib.hid (HO2.out.ext x7)
  have HX7 := Lib.hid (HX6.out.trans x7)
  clear b0 b1 b2 b3 b4 b5 b6 b7 b8 b9 b10 b11 b12 lb0 o3 x7
  obtain ⟨b0, b1, b2, b3, b4, b5, b6, b7, b8, b9, b10, b11, b12⟩ := HB3.out.ext HX7.out
  have lb0 := cell_lt b0
  go_wp2_with fail
  refine (C5.out _ HX7.out).mono ?_
  rintro e W8 ⟨u4, rfl, o4, x8⟩
  obtain ⟨P4, m4, q4, rfl⟩ := own_shapeW o4
  have HO4 := Lib.hid (intK_own.1 o4).isI
  replace HO0 := Lib.hid (HO0.out.ext x8)
  replace HO1 := Lib.hid (HO1.out.ext x8)
  replace HO2 := Lib.hid (HO2.out.ext x8)
  replace HO3 := Lib.hid (HO3.out.ext x8)
  have HX8 := Lib.hid (HX7.out.trans x8)
  clear b0 b1 b2 b3 b4 b5 b6 b7 b8 b9 b10 b11 b12 lb0 o4 x8
  obtain ⟨b0, b1, b2, b3, b4, b5, b6, b7, b8, b9, b10, b11, b12⟩ := HA3.out.ext HX8.out
  have lb0 := cell_lt b0
  go_wp2_with fail
  refine (C6.out _ HX8.out).mono ?_
  rintro e W9 ⟨u5, rfl, o5, x9⟩
  obtain ⟨P5, q5, m5, rfl, -⟩ := o5.open_
  have HO5 := Lib.hid o5
  replace HO0 := Lib.hid (HO0.out.ext x9)
  replace HO1 := Lib.hid (HO1.out.ext x9)
  replace HO2 := Lib.hid (HO2.out.ext x9)
  replace HO3 := Lib.hid (HO3.out.ext x9)
  replace HO4 := Lib.hid (HO4.out.ext x9)
  have HX9 := Lib.hid (HX8.out.trans x9)
  clear b0 b1 b2 b3 b4 b5 b6 b7 b8 b9 b10 b11 b12 lb0 o5 x9
  have XF := Lib.hid (HX3.out.trans HX9.out)
  have D1 := Lib.hid fun (W : World) (x : Ext W9 W) => same_pairs (HO0.out.ext x) (HO1.out.ext x)
  have D2 := Lib.hid fun (W : World) (x : Ext W9 W) => same_ints (HO2.out.ext x) (HO3.out.ext x)
  have D3 := Lib.hid fun (W : World) (x : Ext W9 W) => same_ints (HO4.out.ext x) (HO5.out.ext x)
  have D4 := Lib.hid fun (W : World) (x : Ext W9 W) => C7.out W (HX9.out.trans x)
  clear C1 C2 C3 C4 C5 C6 C7 HO0 HO1 HO2 HO3 HO4 HO5
  go_wp2_with fail
  refine (D1.out _ (Ext.refl _)).mono ?_
  rintro e Wa ⟨rfl, xa⟩
  have Xa := Lib.hid xa
  clear xa
  go_wp2_with fail
  refine (D2.out _ Xa.out).mono ?_
  rintro e Wb ⟨rfl, xb⟩
  have Xb := Lib.hid (Xa.out.trans xb)
  clear xb
  go_wp2_with fail
  refine (D3.out _ Xb.out).mono ?_
  rintro e Wc ⟨rfl, xc⟩
  have Xc := Lib.hid (Xb.out.trans xc)
  clear xc
  obtain ⟨b0, b1, b2, b3, b4, b5, b6, b7, b8, b9, b10, b11, b12⟩ := HB3.out.ext (HX9.out.trans Xc.out)
  have lb0 := cell_lt b0
  obtain ⟨a0, a1, a2, a3, a4, a5, a6, a7, a8, a9, a10, a11, a12⟩ := HA3.out.ext (HX9.out.trans Xc.out)
  have la0 := cell_lt a0
  go_wp2_with fail
  refine (D4.out _ Xc.out).mono ?_
  rintro e Wd ⟨rfl, xd⟩
  have XG := Lib.hid (XF.out.trans (Xc.out.trans xd))
  clear xd
  go_wp2_with fail
  go_ret
  exact ⟨rfl, XG.out⟩
end Go.Proofs.Ytgeapenglcohfaa
