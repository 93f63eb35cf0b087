/- The reference's Levels. Condition: the slice reads as a list. -/
import Derived.Test.YtlljhimaopnbfaaLLw
namespace Go.Proofs.Ytlljhimaopnbfaa
open Go.RowKit Go.Shelf

attribute [local go_sem] Oper.semAt_some

set_option maxRecDepth 100000 in
set_option maxHeartbeats 8000000 in
theorem refLevels_any (W H P : Int) (hv : Value) (hs : List Int) (lx ly lz k : Int) (w : World) (hI : intK.Is w hv hs) :
    Calls Try.prog 40 #[surfV W H P hv, lightV lx ly lz, .int .i64 k] w (RetEE intK w (levelsL W H P hs lx ly lz k) (levE W H P hs lx ly lz k)) := by
  have HAS := Lib.hid fun (W0 : World) (x : Ext w W0) => asked_any W H P hv hs lx ly lz W0 (hI.ext x)
  cases hbl : surfB W H P hs && lightB lx ly lz
  · have HR := Lib.hid (show levelsL W H P hs lx ly lz k = [] by simp [levelsL, hbl])
    have hne : (shadE W H P hs lx ly lz = 60 ∨ shadE W H P hs lx ly lz = 61) ∧ levE W H P hs lx ly lz k = shadE W H P hs lx ly lz := by
      rw [Bool.and_eq_false_iff] at hbl
      unfold shadE levE
      rcases hbl with h | h
      · rw [h]; exact ⟨.inl rfl, rfl⟩
      · rw [h]
        cases surfB W H P hs
        · exact ⟨.inl rfl, rfl⟩
        · exact ⟨.inr rfl, rfl⟩
    obtain ⟨hne, hE⟩ := hne
    have HE := Lib.hid hE
    obtain ⟨A, L, c, rfl, _⟩ := hI.open_
    generalize shadE W H P hs lx ly lz = E at *
    clear hI hbl hE
    rcases hne with rfl | rfl
    all_goals
      go_enter Try.func40, Try.ntmps40
      go_wp2_with fail
      refine (HAS.out _ (by (repeat' (first | with_reducible exact Ext.refl _ | with_reducible apply Ext.alloc | with_reducible apply Ext.drew | with_reducible apply Ext.drewN | with_reducible refine Ext.setCell ?_ ?_ _ | with_reducible apply Ext.step | with_reducible assumption | with_reducible exact Nat.le_refl _ | (simp; done) | (simp; omega))))).mono ?_
      rintro e _ ⟨rfl, hx⟩
      obtain ⟨δ, rfl⟩ : Ext ((w.alloc (.cells #[.int .i64 W, .int .i64 H, .int .i64 P, .slice A L c] 37)).alloc (.cells #[.int .i64 lx, .int .i64 ly, .int .i64 lz] 25)) _ := Ext.trans (by (repeat' (first | with_reducible exact Ext.refl _ | with_reducible apply Ext.alloc | with_reducible apply Ext.drew | with_reducible apply Ext.drewN | with_reducible refine Ext.setCell ?_ ?_ _ | with_reducible apply Ext.step | with_reducible assumption | with_reducible exact Nat.le_refl _ | (simp; done) | (simp; omega)))) hx
      clear hx
      try (have hs0 := δ.lt (w.heap.size) (by first | (simp; done) | (simp; omega)))
      try (have hs1 := δ.lt (w.heap.size + 1) (by first | (simp; done) | (simp; omega)))
      go_wp2_with fail
      go_ret2
      exact ⟨_, by rw [HE.out]; rfl, by rw [HR.out]; exact EK.Own.nil _ _, by (repeat' (first | with_reducible exact Ext.refl _ | with_reducible apply Ext.alloc | with_reducible apply Ext.drew | with_reducible apply Ext.drewN | with_reducible refine Ext.setCell ?_ ?_ _ | with_reducible apply Ext.step | with_reducible assumption | with_reducible exact Nat.le_refl _ | (simp; done) | (simp; omega)))⟩
  rw [Bool.and_eq_true] at hbl
  obtain ⟨hb, hl⟩ := hbl
  obtain ⟨n, m, rfl, rfl, hn1, hn2, hm1, hm2⟩ := surf_nm hb
  have hall := (surfB_iff.1 hb).2.2.2.2
  obtain ⟨_, _, ⟨hp1, hp2⟩, _⟩ := surfB_iff.1 hb
  have HE0 := Lib.hid (show shadE ((n : Int) + 1) ((m : Int) + 1) P hs lx ly lz = 0 by simp [shadE, hb, hl])
  have HS := Lib.hid (show SurfOk w hv n m P hs from ⟨hI, hb⟩)
  rw [HE0.out] at HAS
  obtain ⟨⟨hl1, hl2⟩, ⟨hl3, hl4⟩, hl5, hl6⟩ := lightB_iff.1 hl
  obtain ⟨A, L, c, rfl, _⟩ := hI.open_
  cases hk : inB 1 256 k
  · have HE := Lib.hid (show levE ((n : Int) + 1) ((m : Int) + 1) P hs lx ly lz k = 2 by simp [levE, hb, hl, hk])
    have HR := Lib.hid (show levelsL ((n : Int) + 1) ((m : Int) + 1) P hs lx ly lz k = [] by simp [levelsL, hk])
    have HK := Lib.hid fun W : World => (show Calls Try.prog 67 #[.int .i64 k, .int .i64 1, .int .i64 256] W fun e w' => e = .returned (.bool false) ∧ W = w' by
      have := within_any k 1 256 W
      rwa [hk] at this)
    clear hb hl hall hk hI
    go_enter Try.func40, Try.ntmps40
    go_wp2_with fail
    refine (HAS.out _ (by (repeat' (first | with_reducible exact Ext.refl _ | with_reducible apply Ext.alloc | with_reducible apply Ext.drew | with_reducible apply Ext.drewN | with_reducible refine Ext.setCell ?_ ?_ _ | with_reducible apply Ext.step | with_reducible assumption | with_reducible exact Nat.le_refl _ | (simp; done) | (simp; omega))))).mono ?_
    rintro e _ ⟨rfl, hx⟩
    obtain ⟨δ, rfl⟩ : Ext ((w.alloc (.cells #[.int .i64 ((n : Int) + 1), .int .i64 ((m : Int) + 1), .int .i64 P, .slice A L c] 37)).alloc (.cells #[.int .i64 lx, .int .i64 ly, .int .i64 lz] 25)) _ := Ext.trans (by (repeat' (first | with_reducible exact Ext.refl _ | with_reducible apply Ext.alloc | with_reducible apply Ext.drew | with_reducible apply Ext.drewN | with_reducible refine Ext.setCell ?_ ?_ _ | with_reducible apply Ext.step | with_reducible assumption | with_reducible exact Nat.le_refl _ | (simp; done) | (simp; omega)))) hx
    clear hx
    try (have hs0 := δ.lt (w.heap.size) (by first | (simp; done) | (simp; omega)))
    try (have hs1 := δ.lt (w.heap.size + 1) (by first | (simp; done) | (simp; omega)))
    go_wp2_with fail
    refine (HK.out _).mono ?_
    rintro e _ ⟨rfl, rfl⟩
    go_wp2_with fail
    go_ret2
    exact ⟨_, by rw [HE.out]; rfl, by rw [HR.out]; exact EK.Own.nil _ _, by (repeat' (first | with_reducible exact Ext.refl _ | with_reducible apply Ext.alloc | with_reducible apply Ext.drew | with_reducible apply Ext.drewN | with_reducible refine Ext.setCell ?_ ?_ _ | with_reducible apply Ext.step | with_reducible assumption | with_reducible exact Nat.le_refl _ | (simp; done) | (simp; omega)))⟩
  have HE := Lib.hid (show levE ((n : Int) + 1) ((m : Int) + 1) P hs lx ly lz k = 0 by simp [levE, hb, hl, hk])
  have HR := Lib.hid (show levelsL ((n : Int) + 1) ((m : Int) + 1) P hs lx ly lz k = (seenL n m P hs lx ly lz).map (levelOf k) by simp [levelsL, hb, hl, hk, nOf_add])
  have HK := Lib.hid fun W : World => (show Calls Try.prog 67 #[.int .i64 k, .int .i64 1, .int .i64 256] W fun e w' => e = .returned (.bool true) ∧ W = w' by
    have := within_any k 1 256 W
    rwa [hk] at this)
  obtain ⟨hk1, hk2⟩ := inB_iff.1 hk
  have HSB := Lib.hid fun (j : Nat) (hj : j < (seenL n m P hs lx ly lz).length) => seenL_bd (hA_bd hall) hp1 hp2 hl1 hl2 hl3 hl4 hl5 hl6 j hj
  have hSL : (seenL n m P hs lx ly lz).length = m * n := by simp [seenL]
  have hmn := Nat.mul_le_mul hm2 hn2
  have HSL := Lib.hid hSL
  clear hb hl hall hk hSL hI
  refine (callsIn_wide (n := 3)).1 ?_
  refine callsIn_of_wp Try.func40 rfl trivial ?_ rfl
  simp only [Try.ntmps40, List.size_toArray, List.length_cons, List.length_nil, Nat.reduceAdd, Nat.reduceSub, Array.replicate_succ, Array.replicate_zero, List.push_toArray, List.append_toArray, List.nil_append, List.cons_append]
  have F1 : Fence.wide.fn 79 := trivial
  have F2 : Fence.wide.fn 67 := trivial
  have F3 : Fence.wide.fn 82 := trivial
  gi_wp2
  refine (callsIn_wide.2 (HAS.out _ (by (repeat' (first | with_reducible exact Ext.refl _ | with_reducible apply Ext.alloc | with_reducible apply Ext.drew | with_reducible apply Ext.drewN | with_reducible refine Ext.setCell ?_ ?_ _ | with_reducible apply Ext.step | with_reducible assumption | with_reducible exact Nat.le_refl _ | (simp; done) | (simp; omega)))))).mono ?_
  rintro e _ ⟨rfl, hx⟩
  obtain ⟨δ, rfl⟩ : Ext ((w.alloc (.cells #[.int .i64 ((n : Int) + 1), .int .i64 ((m : Int) + 1), .int .i64 P, .slice A L c] 37)).alloc (.cells #[.int .i64 lx, .int .i64 ly, .int .i64 lz] 25)) _ := Ext.trans (by (repeat' (first | with_reducible exact Ext.refl _ | with_reducible apply Ext.alloc | with_reducible apply Ext.drew | with_reducible apply Ext.drewN | with_reducible refine Ext.setCell ?_ ?_ _ | with_reducible apply Ext.step | with_reducible assumption | with_reducible exact Nat.le_refl _ | (simp; done) | (simp; omega)))) hx
  clear hx
  try (have hs0 := δ.lt (w.heap.size) (by first | (simp; done) | (simp; omega)))
  try (have hs1 := δ.lt (w.heap.size + 1) (by first | (simp; done) | (simp; omega)))
  gi_wp2
  refine (callsIn_wide.2 (HK.out _)).mono ?_
  rintro e _ ⟨rfl, rfl⟩
  gi_wp2
  have X1 : Ext w δ.wd := by (repeat' (first | with_reducible exact Ext.refl _ | with_reducible apply Ext.alloc | with_reducible apply Ext.drew | with_reducible apply Ext.drewN | with_reducible refine Ext.setCell ?_ ?_ _ | with_reducible apply Ext.step | with_reducible assumption | with_reducible exact Nat.le_refl _ | (simp; done) | (simp; omega)))
  refine (callsIn_wide.2 (refSeen_any n m P _ hs lx ly lz δ.wd (HS.out.ext X1) hl1 hl2 hl3 hl4 hl5 hl6)).mono ?_
  rintro e W3 ⟨pv, rfl, op, x3⟩
  have HX3 := Lib.hid (X1.trans x3)
  obtain ⟨Ap, kp, cp, rfl, hkp, _, hrp, _⟩ := op.is.open_
  have HRP := Lib.hid hrp
  have HKP := Lib.hid hkp
  have hkpb : kp ≤ 1000 := by rw [← hkp, HSL.out]; omega
  clear x3 op hrp hkp X1
  gi_wp2
  gi_loopw [11, 10] (fun i ov wr => ∃ j : Nat, j ≤ kp ∧ i = .int .i64 j ∧ intK.Own W3.heap.size wr ov (((seenL n m P hs lx ly lz).take j).map (levelOf k)) ∧ Ext W3 wr) (fun i _ _ => kp - (intOf i).toNat)
  case atStart => exact ⟨0, by omega, rfl, by simpa using EK.Own.nil (K := intK) W3.heap.size W3, Ext.refl _⟩
  case round =>
    obtain ⟨j, hj, rfl, ho, hx⟩ := hrel
    obtain ⟨Av, kv, cv, rfl⟩ := ho.shape
    by_cases hlt : j < kp
    · have hjl : j < (seenL n m P hs lx ly lz).length := by rw [HKP.out]; exact hlt
      obtain ⟨b, o, rfl, hb, h0, h1⟩ := pairs_at (K := shadeK) rfl (fun _ => rfl) HRP.out j hjl
      obtain ⟨⟨s1, s2⟩, s3, s4⟩ := HSB.out j hjl
      have q0 := But.cells (D := (Value.slice Av kv cv).ownBlock.toList) (hx.cell_some h0) (notin_own (fun g hg => by have := (ho.lt g hg).1; omega))
      have q1 := But.cells (D := (Value.slice Av kv cv).ownBlock.toList) (hx.cell_some h1) (notin_own (fun g hg => by have := (ho.lt g hg).1; omega))
      have HSN := Lib.hid (show ((seenL n m P hs lx ly lz).take (j + 1)).map (levelOf k) = ((seenL n m P hs lx ly lz).take j).map (levelOf k) ++ [levelOf k ((seenL n m P hs lx ly lz)[j].1, (seenL n m P hs lx ly lz)[j].2)] by
        rw [List.take_succ_eq_append_getElem hjl, List.map_append]; rfl)
      have HZ := Lib.hid (show (((seenL n m P hs lx ly lz).take j).map (levelOf k)).length ≤ 1000000000 by rw [List.length_map, List.length_take]; omega)
      generalize (seenL n m P hs lx ly lz)[j].1 = sn at *
      generalize (seenL n m P hs lx ly lz)[j].2 = sd at *
      have HLV := Lib.hid (show levelOf k (sn, sd) = (if k - 1 < k * sn / sd then k - 1 else k * sn / sd) by unfold levelOf; simp only; split <;> omega)
      have HO := Lib.hid ho
      have HX := Lib.hid hx
      have HBB := Lib.hid (show W3.heap.size ≤ wr.heap.size from hx.bel.size)
      obtain ⟨r1, r2⟩ := mul_bd (a := k) (b := sn) (A := 256) (B := 1000000000) (by omega) hk2 s1 s2
      have r3 := Int.ediv_nonneg r1 (show 0 ≤ sd by omega)
      have r4 := Int.ediv_le_self sd r1
      have hsd : ¬ sd = 0 := by omega
      have t1 := Int.tdiv_eq_ediv_of_nonneg (b := sd) r1
      have i1 : IntKind.i64.wrap (k * sn) = k * sn := IntWalk.i64_in _ (by omega)
      have i2 : IntKind.i64.wrap (k * sn / sd) = k * sn / sd := IntWalk.i64_in _ (by omega)
      have i3 : IntKind.i64.wrap (k - 1) = k - 1 := IntWalk.i64_in _ (by omega)
      clear h0 h1 ho hx
      gi_wp2
      refine wpIn_region_steps (Value.slice Av kv cv).ownBlock.toList 19 [(0, true), (1, true), (2, true), (3, true), (4, true), (5, true), (6, true), (7, true), (8, true), (9, true), (10, true), (11, true), (12, true), (13, true), (14, true), (15, true), (16, true), (17, false), (18, false)] (by kernel_rfl) (by kernel_rfl) ?_
      repeat (refine wpSD_q (by rfl) (fun _ _ _ => trivial) (fun K hK => ?_); go_simp; refine hK _ ?_; clear hK K)
      refine wpSD_m (by rfl) (fun _ _ _ => trivial) (fun δ K hK => ?_)
      go_simp
      refine ⟨((Ext.refl _).alloc _).but, hK _ _ ?_⟩
      clear hK K
      have Xd : Ext wr δ.wd := ⟨δ, rfl⟩
      refine EK.app_s (K := intK) (B := W3.heap.size) (v := .slice Av kv cv) (by rfl) rfl (.tmp 30) (.tmp 47) rfl δ.wd.heap.size 1 (if k - 1 < k * sn / sd then k - 1 else k * sn / sd) rfl rfl (fun i u hu => cell_new hu) (HO.out.ext (Xd.alloc _)) (Nat.le_trans HBB.out (Xd.alloc _).bel.size) HZ.out ?_
      intro v' w3 w4 o3 x3 g3
      obtain ⟨Av3, kv3, cv3, rfl⟩ := o3.shape
      refine wpSD_nil ?_
      intro w5 x5
      have HX5 := Lib.hid (show Ext W3 w5 from (((HX.out.trans Xd).alloc _).trans x3 |>.below ((Below.refl W3.heap.size w3).grown g3 (Nat.le_trans HBB.out ((Xd.alloc _).trans x3).bel.size) (fun r e => (HO.out.lt r e).1)) (Nat.le_refl _)).trans x5)
      have HO3 := Lib.hid (show intK.Own W3.heap.size w5 (.slice Av3 kv3 cv3) _ from o3.ext x5)
      clear o3 x3 g3 x5 q0 q1 t1 i1 i2 i3
      simp only [List.drop_succ_cons, List.drop_zero]
      gi_wp2
      go_roundw
      case rel => exact ⟨j + 1, by omega, by go_num, by rw [HSN.out, HLV.out]; exact HO3.out, HX5.out⟩
      case measure => simp [intOf]; omega
    · obtain rfl : j = kp := by omega
      have HO := Lib.hid ho
      have HX := Lib.hid hx
      clear ho hx
      gi_wp2
      go_ret2
      exact ⟨_, by rw [HE.out]; rfl, by
        rw [HR.out]
        have h := HO.out
        rw [List.take_of_length_le (by rw [HKP.out]; exact Nat.le_refl _)] at h
        exact h.mono HX3.out.bel.size, HX3.out.trans HX.out⟩
end Go.Proofs.Ytlljhimaopnbfaa
