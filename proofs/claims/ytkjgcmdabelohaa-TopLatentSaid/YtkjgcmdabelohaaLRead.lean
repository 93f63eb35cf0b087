/- light.Read. Condition: the slice reads as a list. -/
import Derived.Test.YtkjgcmdabelohaaLReadP
import Derived.Test.YtkjgcmdabelohaaQS
namespace Go.Proofs.Ytkjgcmdabelohaa
open Go.RowKit

theorem sort_none (p : Option Addr) (c : Nat) (fv : Value) (w : World) :
    Calls Try.prog 79 #[.slice p 0 c, fv] w fun e w' => e = .returned (.tuple #[]) ∧ w = w' := by
  have := AnyF.slices_SortFunc_none Try.sortL p c fv w
  change Calls Try.prog 79 _ _ _ at this
  exact this.mono fun e w' ⟨he, hw⟩ => ⟨he, hw.symm⟩
theorem compact_none (p : Option Addr) (c : Nat) (w : World) :
    Calls Try.prog 80 #[.slice p 0 c] w fun e w' => e = .returned (.slice p 0 c) ∧ w = w' := by
  go_enter Try.func80, Try.ntmps80
  go_wp2_with fail
  go_ret
  exact ⟨rfl, rfl⟩
theorem retEE_mk {α : Type} {K : EK α} {w W : World} {zs zs' : List α} {v : Value} {er er' : Int} (ho : K.Own w.heap.size W v zs) (hz : zs' = zs) (he : er' = er) (x : Ext w W) : RetEE K w zs' er' (.returned (.tuple #[v, .int .i64 er])) W := by
  subst hz he
  exact ⟨v, rfl, ho, x⟩
theorem readL_no {xs : List (Int × Int)} {e : Int} (h : readE xs = e) (he : e ≠ 0) : readL xs = [] := by
  unfold readL
  rw [if_neg (by rw [h]; exact he)]

set_option maxRecDepth 100000 in
set_option maxHeartbeats 4000000 in
theorem Read_any (v : Value) (xs : List (Int × Int)) (w : World) (hI : shadeK.Is w v xs) :
    Calls Try.prog 46 #[v] w (RetEE boolK w (readL xs) (readE xs)) := by
  have HI := Lib.hid hI
  have HCO := Lib.hid (containsRead_any v xs w hI)
  have HCL := Lib.hid fun (W : World) (x : Ext w W) (hl : xs.length ≤ 1000000) => clone_any v xs W (hI.ext x) hl
  obtain ⟨A, n, c, rfl, hn, _, hr, hm⟩ := hI.open_
  have HN := Lib.hid hn
  have HR := Lib.hid hr
  clear hI hr
  by_cases h1 : 576 < n
  · have HE := Lib.hid (show readE xs = 4 from if_pos (by rw [hn]; exact h1))
    have HL := Lib.hid (readL_no HE.out (by decide))
    have q1 : decide ((576 : Int) < (n : Int)) = true := by simp; omega
    clear hn h1
    go_enter Try.func46, Try.ntmps46
    go_wp2_with fail
    go_ret2
    exact retEE_mk (EK.Own.nil _ _) HL.out HE.out (by (repeat' (first | with_reducible exact Ext.refl _ | with_reducible apply Ext.alloc | with_reducible apply Ext.drew | with_reducible apply Ext.drewN | with_reducible refine Ext.setCell ?_ ?_ _ | with_reducible apply Ext.step | with_reducible assumption | with_reducible exact Nat.le_refl _ | (simp; done) | (simp; omega))))
  have q1 : decide ((576 : Int) < (n : Int)) = false := by simp; omega
  cases ha : xs.all fracS
  · have HE := Lib.hid (show readE xs = 2 by unfold readE; rw [if_neg (by omega), ha]; rfl)
    have HL := Lib.hid (readL_no HE.out (by decide))
    rw [ha] at HCO
    clear hn h1 ha
    go_enter Try.func46, Try.ntmps46
    go_wp2_with fail
    refine HCO.out.mono ?_
    rintro e w1 ⟨rfl, x1⟩
    have HX1 := Lib.hid x1
    clear x1
    go_wp2_with fail
    go_ret2
    exact retEE_mk (EK.Own.nil _ _) HL.out HE.out HX1.out
  rw [ha] at HCO
  by_cases h0 : n = 0
  · subst h0
    have HE := Lib.hid (show readE xs = 6 by unfold readE; rw [if_neg (by omega), ha, if_pos rfl, if_neg (fun h => h.1 hn)])
    have HL := Lib.hid (readL_no HE.out (by decide))
    have hx0 := List.length_eq_zero_iff.1 hn
    clear hn h1 ha
    go_enter Try.func46, Try.ntmps46
    go_wp2_with fail
    refine HCO.out.mono ?_
    rintro e w1 ⟨rfl, x1⟩
    have HX1 := Lib.hid x1
    clear x1
    go_wp2_with fail
    refine (HCL.out _ HX1.out (by rw [hx0]; decide)).mono ?_
    rintro e w2 ⟨u, rfl, ou, x2⟩
    have HX2 := Lib.hid (HX1.out.trans x2)
    obtain ⟨Au, nu, cu, rfl, hnu, -⟩ := ou.is.open_
    rw [hx0] at hnu
    obtain rfl : nu = 0 := hnu.symm
    clear ou x2 hx0
    go_wp2_with fail
    refine (sort_none _ _ _ _).mono ?_
    rintro e _ ⟨rfl, rfl⟩
    go_wp2_with fail
    refine (compact_none _ _ _).mono ?_
    rintro e _ ⟨rfl, rfl⟩
    go_wp2_with fail
    go_ret2
    exact retEE_mk (EK.Own.nil _ _) HL.out HE.out HX2.out
  have hx : ∀ x ∈ xs, FracIs x.1 x.2 := fun x h => fracB_iff.1 (List.all_eq_true.1 ha x h)
  have HTW := Lib.hid fun (ys : List (Int × Int)) (hp : ys.Perm xs) (hs : SortedS ys) => read_two hp hs hx (by omega)
  have HFX := Lib.hid hx
  have HES := Lib.hid (show readE xs = if twoB xs = true then 0 else 6 by
    unfold readE
    rw [if_neg (by omega), ha, if_pos rfl]
    by_cases h : twoB xs = true
    · rw [if_pos ⟨by omega, h⟩, if_pos h]
    · rw [if_neg (fun hh => h hh.2), if_neg h])
  clear ha hx
  refine (callsIn_wide (n := 3)).1 ?_
  refine callsIn_of_wp Try.func46 rfl trivial ?_ rfl
  simp only [Try.ntmps46, List.size_toArray, List.length_cons, List.length_nil, Nat.reduceAdd, Nat.reduceSub, Array.replicate_succ, Array.replicate_zero, List.push_toArray, List.append_toArray, List.nil_append, List.cons_append]
  have F1 : Fence.wide.fn 76 := trivial
  have F2 : Fence.wide.fn 78 := trivial
  have F3 : Fence.wide.fn 79 := trivial
  have F4 : Fence.wide.fn 80 := trivial
  gi_wp2
  refine (callsIn_wide.2 HCO.out).mono ?_
  rintro e w1 ⟨rfl, x1⟩
  have HX1 := Lib.hid x1
  clear x1
  gi_wp2
  refine (callsIn_wide.2 (HCL.out _ HX1.out (by omega))).mono ?_
  rintro e w2 ⟨u, rfl, ou, x2⟩
  have HX2 := Lib.hid (HX1.out.trans x2)
  obtain ⟨g, cu, rfl, hg1, -, -, -⟩ := ou.slot (show 0 < xs.length by omega)
  have HG := Lib.hid (show w.heap.size ≤ g from Nat.le_trans HX1.out.bel.size hg1)
  have HSO := Lib.hid (sort_any _ g cu xs w2 HFX.out ou (by omega))
  rw [hn] at HSO ⊢
  clear ou x2 hg1
  gi_wp2
  refine (callsIn_wide.2 HSO.out).mono ?_
  rintro e w3 ⟨rfl, ys, ⟨hp, hs⟩, oy, b3⟩
  have HX3 := Lib.hid (show Ext w w3 from b3.below HX2.out (fun d hd => by rw [List.mem_singleton] at hd; rw [hd]; exact HG.out))
  have hyn : ys.length = n := by rw [hp.length_eq, hn]
  have HCM := Lib.hid (compact_any _ g n cu ys w3 hyn oy (by omega))
  obtain ⟨HT1, HT2⟩ := HTW.out ys hp hs
  rw [hyn] at HT1 HT2
  have HT1' := Lib.hid HT1
  have HT2' := Lib.hid HT2
  clear hp hs oy b3 hyn HT1 HT2 HSO HTW
  gi_wp2
  refine (callsIn_wide.2 HCM.out).mono ?_
  rintro e w4 ⟨k, rfl, ic, b4⟩
  have HX4 := Lib.hid (show Ext w w4 from b4.below HX3.out (fun d hd => by rw [List.mem_singleton] at hd; rw [hd]; exact HG.out))
  have hkl : (cmpTo ys n).length = k := by
    obtain ⟨_, _, he, _⟩ := ic
    cases he
    rfl
  clear b4 HCM
  by_cases hk2 : k = 2
  case neg =>
    have HE := Lib.hid (show readE xs = 6 by rw [HES.out, if_neg]; exact fun h => hk2 (hkl.symm.trans (HT1'.out.2 h)))
    have HL := Lib.hid (readL_no HE.out (by decide))
    have q2 : ((k : Int) != 2) = true := by simp; omega
    clear hkl ic hk2 hn
    gi_wp2
    go_ret2
    exact retEE_mk (EK.Own.nil _ _) HL.out HE.out HX4.out
  subst hk2
  have HE := Lib.hid (show readE xs = 0 by rw [HES.out, if_pos (HT1'.out.1 hkl)])
  have HL := Lib.hid (show readL xs = xs.map (· == highS xs) from if_pos HE.out)
  have hC1 := HT2'.out hkl
  obtain ⟨A', c', he, _, _, hrow⟩ := ic
  simp only [Value.slice.injEq] at he
  obtain ⟨rfl, -, rfl⟩ := he
  obtain ⟨_, _, hA, hgl, hcell⟩ := hrow 1 (by omega)
  cases hA
  have hC1' : (cmpTo ys n)[1] = highS xs := by
    rw [List.getElem?_eq_getElem (by omega)] at hC1
    exact Option.some.inj hC1
  rw [hC1'] at hcell
  have p0 := hcell 0 _ rfl
  have p1 := hcell 1 _ rfl
  simp only [shadeK, Nat.add_zero, Nat.zero_add, Nat.one_mul] at p0 p1
  obtain ⟨hh1, hh2, hhs⟩ : ∃ hh1 hh2, highS xs = (hh1, hh2) := ⟨_, _, rfl⟩
  rw [hhs] at p0 p1 HL
  simp only at p0 p1
  have lp := cell_lt p0
  obtain ⟨W4, rfl⟩ : ∃ W4, W4 = w4 := ⟨w4, rfl⟩
  have hw4 := HX4.out.bel.size
  clear hkl hC1 hC1' hrow hcell hhs hgl HES HT1' HT2'
  gi_wp2
  gi_loopw [5, 24] (fun ov iv wr => ∃ j : Nat, j ≤ n ∧ iv = .int .i64 (j : Int) ∧ boolK.Own W4.heap.size wr ov ((xs.take j).map (· == (hh1, hh2))) ∧ Ext W4 wr) (fun _ iv _ => n - (intOf iv).toNat)
  case atStart => exact ⟨0, by omega, rfl, by simpa using EK.Own.nil (K := boolK) W4.heap.size W4, Ext.refl _⟩
  case round =>
    obtain ⟨j, hj, rfl, ho, hx⟩ := hrel
    obtain ⟨Av, kv, cv, rfl⟩ := ho.shape
    have HO := Lib.hid ho
    have HX := Lib.hid hx
    by_cases hlt : j < n
    · have hjl : j < xs.length := by rw [HN.out]; exact hlt
      obtain ⟨b, o, rfl, hb, hc⟩ := HR.out j hjl
      have a0 := (HX4.out.trans hx).cell_some (hc 0 _ rfl)
      have a1 := (HX4.out.trans hx).cell_some (hc 1 _ rfl)
      simp only [shadeK, Nat.add_zero] at a0 a1
      have q0 := hx.cell_some p0
      have q1x := hx.cell_some p1
      have HSN := Lib.hid (show (xs.take (j + 1)).map (· == (hh1, hh2)) = (xs.take j).map (· == (hh1, hh2)) ++ [xs[j] == (hh1, hh2)] by
        rw [List.take_succ_eq_append_getElem hjl, List.map_append]; rfl)
      have HZ := Lib.hid (show ((xs.take j).map (· == (hh1, hh2))).length ≤ 1000000000 by rw [List.length_map, List.length_take]; omega)
      have hji : (j : Int) < (n : Int) := by omega
      generalize xs[j] = x at *
      obtain ⟨x1, x2⟩ := x
      simp only at a0 a1
      have la := cell_lt a0
      have hw4r := hx.bel.size
      clear hc hx ho hb
      by_cases e1 : x1 = hh1
      · subst e1
        by_cases e2 : x2 = hh2
        · subst e2
          have HBV := Lib.hid (show ((x1, x2) == (x1, x2)) = true by simp)

          gi_wp2
          have b0 := cell_new (w := wr) (cs := #[.int .i64 x1, .int .i64 x2]) (T := 49) (i := 0) (u := .int .i64 x1) rfl
          have b1 := cell_new (w := wr) (cs := #[.int .i64 x1, .int .i64 x2]) (T := 49) (i := 1) (u := .int .i64 x2) rfl
          refine lay_in (fun W => Ext wr W ∧ W.cell? ⟨wr.heap.size, 0, none⟩ = some (.int .i64 x1) ∧ W.cell? ⟨wr.heap.size, 1, none⟩ = some (.int .i64 x2)) ⟨(Ext.refl _).alloc _, b0, b1⟩ ?_
          clear b0 b1
          rintro Wa ⟨xa, b0, b1⟩
          have HXa := Lib.hid xa
          have HOa := Lib.hid (HO.out.ext xa)
          have y0 := But.cells (D := (Value.slice Av kv cv).ownBlock.toList) b0 (notin_own (fun g' hg => by have := (HO.out.lt g' hg).2; omega))
          have y1 := But.cells (D := (Value.slice Av kv cv).ownBlock.toList) b1 (notin_own (fun g' hg => by have := (HO.out.lt g' hg).2; omega))
          have z0 := But.cells (D := (Value.slice Av kv cv).ownBlock.toList) (xa.cell_some q0) (notin_own (fun g' hg => by have := (HO.out.lt g' hg).1; omega))
          have z1 := But.cells (D := (Value.slice Av kv cv).ownBlock.toList) (xa.cell_some q1x) (notin_own (fun g' hg => by have := (HO.out.lt g' hg).1; omega))
          have HBB := Lib.hid (show W4.heap.size ≤ Wa.heap.size from (HX.out.trans xa).bel.size)
          clear xa b0 b1
          gi_wp2
          refine wpIn_region_steps (Value.slice Av kv cv).ownBlock.toList 8 [(0, true), (1, true), (2, true), (3, true), (4, true), (5, true), (6, false), (7, false)] (by kernel_rfl) (by kernel_rfl) ?_
          iterate 6 (refine wpSD_q (by rfl) (fun _ _ _ => trivial) (fun K hK => ?_); go_simp; refine hK _ ?_; clear hK K)
          refine wpSD_m (by rfl) (fun _ _ _ => trivial) (fun δ K hK => ?_)
          go_simp
          refine ⟨((Ext.refl _).alloc _).but, hK _ _ ?_⟩
          clear hK K
          have Xd : Ext Wa δ.wd := ⟨δ, rfl⟩
          refine EK.app_s (K := boolK) (B := W4.heap.size) (v := .slice Av kv cv) (by rfl) rfl (.tmp 28) (.tmp 34) rfl δ.wd.heap.size 1 true rfl rfl (fun i u hu => cell_new hu) (HOa.out.ext (Xd.alloc _)) (Nat.le_trans HBB.out (Xd.alloc _).bel.size) HZ.out ?_
          intro v' w3 w4 o3 x3 g3
          obtain ⟨Av3, kv3, cv3, rfl⟩ := o3.shape
          refine wpSD_nil ?_
          intro w5 x5
          have HX5 := Lib.hid (show Ext W4 w5 from ((((HX.out.trans HXa.out).trans Xd).alloc _).trans x3 |>.below ((Below.refl W4.heap.size w3).grown g3 (Nat.le_trans HBB.out ((Xd.alloc _).trans x3).bel.size) (fun r e => (HOa.out.lt r e).1)) (Nat.le_refl _)).trans x5)
          have HO3 := Lib.hid (show boolK.Own W4.heap.size w5 (.slice Av3 kv3 cv3) _ from o3.ext x5)
          clear o3 x3 g3 x5 y0 y1 z0 z1 q0 q1x
          simp only [List.drop_succ_cons, List.drop_zero]
          gi_wp2
          go_roundw
          case rel => exact ⟨j + 1, by omega, by go_num, by rw [HSN.out, HBV.out]; exact HO3.out, HX5.out⟩
          case measure => simp [intOf]; omega

        · have hb2 : (x2 == hh2) = false := by simpa using e2
          have HBV := Lib.hid (show ((x1, x2) == (x1, hh2)) = false by simp [e2])
          clear e2

          gi_wp2
          have b0 := cell_new (w := wr) (cs := #[.int .i64 x1, .int .i64 x2]) (T := 49) (i := 0) (u := .int .i64 x1) rfl
          have b1 := cell_new (w := wr) (cs := #[.int .i64 x1, .int .i64 x2]) (T := 49) (i := 1) (u := .int .i64 x2) rfl
          refine lay_in (fun W => Ext wr W ∧ W.cell? ⟨wr.heap.size, 0, none⟩ = some (.int .i64 x1) ∧ W.cell? ⟨wr.heap.size, 1, none⟩ = some (.int .i64 x2)) ⟨(Ext.refl _).alloc _, b0, b1⟩ ?_
          clear b0 b1
          rintro Wa ⟨xa, b0, b1⟩
          have HXa := Lib.hid xa
          have HOa := Lib.hid (HO.out.ext xa)
          have y0 := But.cells (D := (Value.slice Av kv cv).ownBlock.toList) b0 (notin_own (fun g' hg => by have := (HO.out.lt g' hg).2; omega))
          have y1 := But.cells (D := (Value.slice Av kv cv).ownBlock.toList) b1 (notin_own (fun g' hg => by have := (HO.out.lt g' hg).2; omega))
          have z0 := But.cells (D := (Value.slice Av kv cv).ownBlock.toList) (xa.cell_some q0) (notin_own (fun g' hg => by have := (HO.out.lt g' hg).1; omega))
          have z1 := But.cells (D := (Value.slice Av kv cv).ownBlock.toList) (xa.cell_some q1x) (notin_own (fun g' hg => by have := (HO.out.lt g' hg).1; omega))
          have HBB := Lib.hid (show W4.heap.size ≤ Wa.heap.size from (HX.out.trans xa).bel.size)
          clear xa b0 b1
          gi_wp2
          refine wpIn_region_steps (Value.slice Av kv cv).ownBlock.toList 8 [(0, true), (1, true), (2, true), (3, true), (4, true), (5, true), (6, false), (7, false)] (by kernel_rfl) (by kernel_rfl) ?_
          iterate 6 (refine wpSD_q (by rfl) (fun _ _ _ => trivial) (fun K hK => ?_); go_simp; refine hK _ ?_; clear hK K)
          refine wpSD_m (by rfl) (fun _ _ _ => trivial) (fun δ K hK => ?_)
          go_simp
          refine ⟨((Ext.refl _).alloc _).but, hK _ _ ?_⟩
          clear hK K
          have Xd : Ext Wa δ.wd := ⟨δ, rfl⟩
          refine EK.app_s (K := boolK) (B := W4.heap.size) (v := .slice Av kv cv) (by rfl) rfl (.tmp 28) (.tmp 34) rfl δ.wd.heap.size 1 false rfl rfl (fun i u hu => cell_new hu) (HOa.out.ext (Xd.alloc _)) (Nat.le_trans HBB.out (Xd.alloc _).bel.size) HZ.out ?_
          intro v' w3 w4 o3 x3 g3
          obtain ⟨Av3, kv3, cv3, rfl⟩ := o3.shape
          refine wpSD_nil ?_
          intro w5 x5
          have HX5 := Lib.hid (show Ext W4 w5 from ((((HX.out.trans HXa.out).trans Xd).alloc _).trans x3 |>.below ((Below.refl W4.heap.size w3).grown g3 (Nat.le_trans HBB.out ((Xd.alloc _).trans x3).bel.size) (fun r e => (HOa.out.lt r e).1)) (Nat.le_refl _)).trans x5)
          have HO3 := Lib.hid (show boolK.Own W4.heap.size w5 (.slice Av3 kv3 cv3) _ from o3.ext x5)
          clear o3 x3 g3 x5 y0 y1 z0 z1 q0 q1x
          simp only [List.drop_succ_cons, List.drop_zero]
          gi_wp2
          go_roundw
          case rel => exact ⟨j + 1, by omega, by go_num, by rw [HSN.out, HBV.out]; exact HO3.out, HX5.out⟩
          case measure => simp [intOf]; omega

      · have hb1 : (x1 == hh1) = false := by simpa using e1
        have HBV := Lib.hid (show ((x1, x2) == (hh1, hh2)) = false by simp [e1])
        clear e1

        gi_wp2
        have b0 := cell_new (w := wr) (cs := #[.int .i64 x1, .int .i64 x2]) (T := 49) (i := 0) (u := .int .i64 x1) rfl
        have b1 := cell_new (w := wr) (cs := #[.int .i64 x1, .int .i64 x2]) (T := 49) (i := 1) (u := .int .i64 x2) rfl
        refine lay_in (fun W => Ext wr W ∧ W.cell? ⟨wr.heap.size, 0, none⟩ = some (.int .i64 x1) ∧ W.cell? ⟨wr.heap.size, 1, none⟩ = some (.int .i64 x2)) ⟨(Ext.refl _).alloc _, b0, b1⟩ ?_
        clear b0 b1
        rintro Wa ⟨xa, b0, b1⟩
        have HXa := Lib.hid xa
        have HOa := Lib.hid (HO.out.ext xa)
        have y0 := But.cells (D := (Value.slice Av kv cv).ownBlock.toList) b0 (notin_own (fun g' hg => by have := (HO.out.lt g' hg).2; omega))
        have y1 := But.cells (D := (Value.slice Av kv cv).ownBlock.toList) b1 (notin_own (fun g' hg => by have := (HO.out.lt g' hg).2; omega))
        have z0 := But.cells (D := (Value.slice Av kv cv).ownBlock.toList) (xa.cell_some q0) (notin_own (fun g' hg => by have := (HO.out.lt g' hg).1; omega))
        have z1 := But.cells (D := (Value.slice Av kv cv).ownBlock.toList) (xa.cell_some q1x) (notin_own (fun g' hg => by have := (HO.out.lt g' hg).1; omega))
        have HBB := Lib.hid (show W4.heap.size ≤ Wa.heap.size from (HX.out.trans xa).bel.size)
        clear xa b0 b1
        gi_wp2
        refine wpIn_region_steps (Value.slice Av kv cv).ownBlock.toList 8 [(0, true), (1, true), (2, true), (3, true), (4, true), (5, true), (6, false), (7, false)] (by kernel_rfl) (by kernel_rfl) ?_
        iterate 6 (refine wpSD_q (by rfl) (fun _ _ _ => trivial) (fun K hK => ?_); go_simp; refine hK _ ?_; clear hK K)
        refine wpSD_m (by rfl) (fun _ _ _ => trivial) (fun δ K hK => ?_)
        go_simp
        refine ⟨((Ext.refl _).alloc _).but, hK _ _ ?_⟩
        clear hK K
        have Xd : Ext Wa δ.wd := ⟨δ, rfl⟩
        refine EK.app_s (K := boolK) (B := W4.heap.size) (v := .slice Av kv cv) (by rfl) rfl (.tmp 28) (.tmp 34) rfl δ.wd.heap.size 1 false rfl rfl (fun i u hu => cell_new hu) (HOa.out.ext (Xd.alloc _)) (Nat.le_trans HBB.out (Xd.alloc _).bel.size) HZ.out ?_
        intro v' w3 w4 o3 x3 g3
        obtain ⟨Av3, kv3, cv3, rfl⟩ := o3.shape
        refine wpSD_nil ?_
        intro w5 x5
        have HX5 := Lib.hid (show Ext W4 w5 from ((((HX.out.trans HXa.out).trans Xd).alloc _).trans x3 |>.below ((Below.refl W4.heap.size w3).grown g3 (Nat.le_trans HBB.out ((Xd.alloc _).trans x3).bel.size) (fun r e => (HOa.out.lt r e).1)) (Nat.le_refl _)).trans x5)
        have HO3 := Lib.hid (show boolK.Own W4.heap.size w5 (.slice Av3 kv3 cv3) _ from o3.ext x5)
        clear o3 x3 g3 x5 y0 y1 z0 z1 q0 q1x
        simp only [List.drop_succ_cons, List.drop_zero]
        gi_wp2
        go_roundw
        case rel => exact ⟨j + 1, by omega, by go_num, by rw [HSN.out, HBV.out]; exact HO3.out, HX5.out⟩
        case measure => simp [intOf]; omega

    · obtain rfl : j = n := by omega
      clear ho hx
      gi_wp2
      go_ret2
      exact retEE_mk (HO.out.mono hw4) (by rw [HL.out, List.take_of_length_le (by rw [HN.out]; exact Nat.le_refl _)]) HE.out (HX4.out.trans HX.out)
end Go.Proofs.Ytkjgcmdabelohaa
