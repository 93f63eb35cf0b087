/- The reference's pictures. Condition: the slice reads as a list. -/
import Derived.Test.YtlljhimaopnbfaaLRn
namespace Go.Proofs.Ytlljhimaopnbfaa
open Go.RowKit Go.Shelf

attribute [local go_sem] Oper.semAt_some

set_option maxRecDepth 100000 in
set_option maxHeartbeats 8000000 in
theorem refSeen_any (n m : Nat) (P : Int) (hv : Value) (hs : List Int) (lx ly lz : Int) (w : World) (hS : SurfOk w hv n m P hs)
    (hl1 : -30 ≤ lx) (hl2 : lx ≤ 30) (hl3 : -30 ≤ ly) (hl4 : ly ≤ 30) (hl5 : 1 ≤ lz) (hl6 : lz ≤ 30) :
    Calls Try.prog 82 #[surfV ((n : Int) + 1) ((m : Int) + 1) P hv, lightV lx ly lz] w (RetE shadeK w (seenL n m P hs lx ly lz)) := by
  have HS := Lib.hid hS
  obtain ⟨⟨hn1, hn2⟩, ⟨hm1, hm2⟩, hp1, hp2⟩ := hS.nm
  have HTB := Lib.hid fun X Y : Nat => (show (-400 ≤ tiltX n hs X Y ∧ tiltX n hs X Y ≤ 400) ∧ -400 ≤ tiltY n hs X Y ∧ tiltY n hs X Y ≤ 400 by
    have h0 : -100 ≤ cor0 n hs X Y ∧ cor0 n hs X Y ≤ 100 := hS.bd _
    have h1 : -100 ≤ cor1 n hs X Y ∧ cor1 n hs X Y ≤ 100 := hS.bd _
    have h2 : -100 ≤ cor2 n hs X Y ∧ cor2 n hs X Y ≤ 100 := hS.bd _
    have h3 : -100 ≤ cor3 n hs X Y ∧ cor3 n hs X Y ≤ 100 := hS.bd _
    unfold tiltX tiltY
    omega)
  obtain ⟨A, L, c, rfl, _⟩ := hS.is.open_
  clear hS
  refine (callsIn_wide (n := 3)).1 ?_
  refine callsIn_of_wp Try.func82 rfl trivial ?_ rfl
  simp only [Try.ntmps82, List.size_toArray, List.length_cons, List.length_nil, Nat.reduceAdd, Nat.reduceSub, Array.replicate_succ, Array.replicate_zero, List.push_toArray, List.append_toArray, List.nil_append, List.cons_append]
  have F1 : Fence.wide.fn 80 := trivial
  have F2 : Fence.wide.fn 75 := trivial
  have F3 : Fence.wide.fn 69 := trivial
  gi_wp2
  refine lay_in (fun W0 => Ext w W0 ∧ W0.cell? ⟨w.heap.size, 0, none⟩ = some (.int .i64 ((n : Int) + 1)) ∧ W0.cell? ⟨w.heap.size, 1, none⟩ = some (.int .i64 ((m : Int) + 1)) ∧ W0.cell? ⟨w.heap.size, 2, none⟩ = some (.int .i64 P) ∧ W0.cell? ⟨w.heap.size, 3, none⟩ = some (.slice A L c) ∧
    W0.cell? ⟨w.heap.size + 1, 0, none⟩ = some (.int .i64 lx) ∧ W0.cell? ⟨w.heap.size + 1, 1, none⟩ = some (.int .i64 ly) ∧ W0.cell? ⟨w.heap.size + 1, 2, none⟩ = some (.int .i64 lz)) ⟨by (repeat' (first | with_reducible exact Ext.refl _ | with_reducible apply Ext.alloc | with_reducible apply Ext.drew | with_reducible apply Ext.drewN | with_reducible refine Ext.setCell ?_ ?_ _ | with_reducible apply Ext.step | with_reducible assumption | with_reducible exact Nat.le_refl _ | (simp; done) | (simp; omega))), by go_cell, by go_cell, by go_cell, by go_cell, by go_cell, by go_cell, by go_cell⟩ ?_
  rintro W0 ⟨X0, c0, c1, c2, c3, b0, b1, b2⟩
  have HX0 := Lib.hid X0
  clear X0
  gi_loopw [6, 5, 7] (fun yv ov _ wr => ∃ k : Nat, k ≤ m ∧ yv = .int .i64 k ∧ shadeK.Own W0.heap.size wr ov ((List.range (k * n)).map fun j => seenC n m P hs lx ly lz (cx n j) (cy n j)) ∧ Ext W0 wr) (fun yv _ _ _ => m - (intOf yv).toNat)
  case atStart => exact ⟨0, by omega, rfl, by simpa using EK.Own.nil (K := shadeK) W0.heap.size W0, Ext.refl _⟩
  case round =>
    obtain ⟨k, hk, rfl, ho, hx⟩ := hrel
    obtain ⟨Av, kv, cv, rfl⟩ := ho.shape
    by_cases hlt : k < m
    · have d1 := hx.cell_some c1
      have l1 := cell_lt d1
      have HO := Lib.hid ho
      have HX := Lib.hid hx
      clear ho hx
      gi_wp2
      obtain ⟨wo, rfl⟩ : ∃ wo : World, wo = wr := ⟨_, rfl⟩
      gi_loopw [7, 5] (fun xv ov wr => ∃ j : Nat, j ≤ n ∧ xv = .int .i64 j ∧ shadeK.Own W0.heap.size wr ov ((List.range (k * n + j)).map fun j => seenC n m P hs lx ly lz (cx n j) (cy n j)) ∧ Ext W0 wr) (fun xv _ _ => n - (intOf xv).toNat)
      case atStart => exact ⟨0, by omega, rfl, HO.out, HX.out⟩
      case round =>
        obtain ⟨j, hj, rfl, ho, hx⟩ := hrel
        obtain ⟨Av2, kv2, cv2, rfl⟩ := ho.shape
        by_cases hjl : j < n
        · have e0 := hx.cell_some c0
          have e1 := hx.cell_some c1
          have e2 := hx.cell_some c2
          have e3 := hx.cell_some c3
          have e4 := hx.cell_some b0
          have e5 := hx.cell_some b1
          have e6 := hx.cell_some b2
          have le0 := cell_lt e0
          have le4 := cell_lt e4
          have HD := Lib.hid (refDark_any n m P (.slice A L c) hs lx ly lz j k wr (HS.out.ext (HX0.out.trans hx)) hjl hlt hl1 hl2 hl3 hl4 hl5 hl6)
          have HT := Lib.hid fun (Wd : World) (Y : Cells (fun b => b < w.heap.size) w Wd) => refTiltAt_any n m P (.slice A L c) hs j k Wd ⟨HS.out.is.cells Y (fun _ h => h), HS.out.ok⟩ hjl hlt
          have HSN := Lib.hid (show (List.range (k * n + (j + 1))).map (fun j => seenC n m P hs lx ly lz (cx n j) (cy n j)) = (List.range (k * n + j)).map (fun j => seenC n m P hs lx ly lz (cx n j) (cy n j)) ++ [seenC n m P hs lx ly lz j k] by
            rw [← Nat.add_assoc, List.range_succ, List.map_append, List.map_singleton, cx_at hjl, cy_at hjl])
          have HZ := Lib.hid (show ((List.range (k * n + j)).map fun j => seenC n m P hs lx ly lz (cx n j) (cy n j)).length ≤ 1000000000 by
            rw [List.length_map, List.length_range]
            have := Nat.mul_le_mul (show k ≤ 23 by omega) hn2
            omega)
          have HO := Lib.hid ho
          have HX := Lib.hid hx
          have HBB := Lib.hid (show W0.heap.size ≤ wr.heap.size from hx.bel.size)
          obtain ⟨sc, hsc⟩ : ∃ z, z = seenC n m P hs lx ly lz j k := ⟨_, rfl⟩
          rw [← hsc] at HSN
          have HSC := Lib.hid (show sc = if darkB n m P hs lx ly lz j k then (0, 1) else (shadeN (tiltX n hs j k) (tiltY n hs j k) P lx ly lz, shadeD (tiltX n hs j k) (tiltY n hs j k) P lx ly lz) by rw [hsc]; rfl)
          obtain ⟨⟨tb1, tb2⟩, tb3, tb4⟩ := HTB.out j k
          generalize tiltX n hs j k = tx at *
          generalize tiltY n hs j k = ty at *
          have hnot : ∀ b, b < W0.heap.size → b ∉ (Value.slice Av2 kv2 cv2).ownBlock.toList := fun b hb => notin_own (fun g hg => by have := ho.lt g hg; omega)
          clear hsc ho hx
          cases hd : darkB n m P hs lx ly lz j k
          · rw [hd] at HD HSC
            clear hd
            gi_wp2
            refine (callsIn_wide.2 HD.out).mono ?_
            rintro e W2 ⟨rfl, x2⟩
            have HX2 := Lib.hid x2
            have q0 := But.cells (D := (Value.slice Av2 kv2 cv2).ownBlock.toList) (x2.cell_some e0) (hnot _ (cell_lt c0))
            have q1 := But.cells (D := (Value.slice Av2 kv2 cv2).ownBlock.toList) (x2.cell_some e1) (hnot _ (cell_lt c0))
            have q2 := But.cells (D := (Value.slice Av2 kv2 cv2).ownBlock.toList) (x2.cell_some e2) (hnot _ (cell_lt c0))
            have q3 := But.cells (D := (Value.slice Av2 kv2 cv2).ownBlock.toList) (x2.cell_some e3) (hnot _ (cell_lt c0))
            have q4 := But.cells (D := (Value.slice Av2 kv2 cv2).ownBlock.toList) (x2.cell_some e4) (hnot _ (cell_lt b0))
            have q5 := But.cells (D := (Value.slice Av2 kv2 cv2).ownBlock.toList) (x2.cell_some e5) (hnot _ (cell_lt b0))
            have q6 := But.cells (D := (Value.slice Av2 kv2 cv2).ownBlock.toList) (x2.cell_some e6) (hnot _ (cell_lt b0))
            have HSB := Lib.hid fun Wd : World => refShade_any tx ty P lx ly lz Wd tb1 tb2 tb3 tb4 hp1 hp2 hl1 hl2 hl3 hl4 hl5 hl6
            have HTD := Lib.hid fun (δ : BBut (Value.slice Av2 kv2 cv2).ownBlock.toList W2) => HT.out δ.wd ⟨Nat.le_trans ((HX0.out.trans HX.out).trans HX2.out).bel.size δ.but.size, fun b o v hb hc => δ.but.cell (((HX0.out.trans HX.out).trans HX2.out).cell_some hc) (hnot b (Nat.lt_of_lt_of_le hb HX0.out.bel.size))⟩
            clear x2 hnot
            gi_wp2
            refine wpIn_region_steps (Value.slice Av2 kv2 cv2).ownBlock.toList 11 [(0, true), (1, true), (2, true), (3, true), (4, true), (5, true), (6, true), (7, true), (8, true), (9, false), (10, false)] (by kernel_rfl) (by kernel_rfl) ?_
            repeat (refine wpSD_q (by rfl) (fun _ _ _ => trivial) (fun K hK => ?_); go_simp; refine hK _ ?_; clear hK K)
            refine wpSD_q (by rfl) (fun _ _ _ => trivial) (fun K hK => ?_)
            go_simp
            refine ⟨tiltV tx ty, fun δ => callsIn_wide.2 (HTD.out δ), hK _ ?_⟩
            clear hK K
            repeat (refine wpSD_q (by rfl) (fun _ _ _ => trivial) (fun K hK => ?_); go_simp; refine hK _ ?_; clear hK K)
            refine wpSD_q (by rfl) (fun _ _ _ => trivial) (fun K hK => ?_)
            go_simp
            refine ⟨shadeV (shadeN tx ty P lx ly lz) (shadeD tx ty P lx ly lz), fun δ => callsIn_wide.2 (HSB.out δ.wd), hK _ ?_⟩
            clear hK K
            refine wpSD_m (by rfl) (fun _ _ _ => trivial) (fun δ K hK => ?_)
            go_simp
            refine ⟨((Ext.refl _).alloc _).but, hK _ _ ?_⟩
            clear hK K
            have Xd : Ext W2 δ.wd := ⟨δ, rfl⟩
            refine EK.app_s (K := shadeK) (B := W0.heap.size) (v := .slice Av2 kv2 cv2) (by rfl) rfl (.tmp 31) (.tmp 40) rfl δ.wd.heap.size 1 (shadeN tx ty P lx ly lz, shadeD tx ty P lx ly lz) rfl rfl (fun i u hu => cell_new hu) (HO.out.ext ((HX2.out.trans Xd).alloc _)) (Nat.le_trans HBB.out ((HX2.out.trans Xd).alloc _).bel.size) HZ.out ?_
            intro v' w3 w4 o3 x3 g3
            obtain ⟨Av3, kv3, cv3, rfl⟩ := o3.shape
            refine wpSD_nil ?_
            intro w5 x5
            have HX5 := Lib.hid (show Ext W0 w5 from ((((HX.out.trans HX2.out).trans Xd).alloc _).trans x3 |>.below ((Below.refl W0.heap.size w3).grown g3 (Nat.le_trans HBB.out (((HX2.out.trans Xd).alloc _).trans x3).bel.size) (fun r e => (HO.out.lt r e).1)) (Nat.le_refl _)).trans x5)
            have HO3 := Lib.hid (show shadeK.Own W0.heap.size w5 (.slice Av3 kv3 cv3) _ from o3.ext x5)
            clear o3 x3 g3 x5 q0 q1 q2 q3 q4 q5 q6
            simp only [List.drop_succ_cons, List.drop_zero]
            gi_wp2
            go_roundw
            case rel => exact ⟨j + 1, by omega, by go_num, by rw [HSN.out, HSC.out]; exact HO3.out, HX5.out⟩
            case measure => simp [intOf]; omega
          · rw [hd] at HD HSC
            clear hd hnot
            gi_wp2
            refine (callsIn_wide.2 HD.out).mono ?_
            rintro e W2 ⟨rfl, x2⟩
            have HX2 := Lib.hid x2
            clear x2
            gi_wp2_with (gi_at_builtin; refine EK.app_in (K := shadeK) (B := W0.heap.size) rfl (.tmp 27) (.tmp 29) rfl W2.heap.size 1 ((0 : Int), (1 : Int)) rfl rfl (fun i u hu => cell_new hu) (HO.out.ext (HX2.out.alloc _)) (Nat.le_trans HBB.out (HX2.out.alloc _).bel.size) HZ.out ?_; intro v' w3 o3 b3 _; obtain ⟨Av3, kv3, cv3, rfl⟩ := o3.shape; have HO3 := Lib.hid o3; have HB3 := Lib.hid b3; clear o3 b3)
            go_roundw
            case rel => exact ⟨j + 1, by omega, by go_num, by rw [HSN.out, HSC.out]; exact HO3.out, ((HX.out.trans HX2.out).alloc _).below HB3.out (Nat.le_refl _)⟩
            case measure => simp [intOf]; omega
        · obtain rfl : j = n := by omega
          have e0 := hx.cell_some c0
          have le0 := cell_lt e0
          have HO := Lib.hid (show shadeK.Own W0.heap.size wr (.slice Av2 kv2 cv2) ((List.range ((k + 1) * j)).map fun i => seenC j m P hs lx ly lz (cx j i) (cy j i)) by rw [Nat.succ_mul]; exact ho)
          have HX := Lib.hid hx
          clear ho hx
          gi_wp2
          go_roundw
          case rel => exact ⟨k + 1, by omega, by go_num, HO.out, HX.out⟩
          case measure => simp [intOf]; omega
    · obtain rfl : k = m := by omega
      have d1 := hx.cell_some c1
      have l1 := cell_lt d1
      have HO := Lib.hid ho
      have HX := Lib.hid hx
      clear ho hx
      gi_wp2
      go_ret
      exact ⟨_, rfl, HO.out.mono HX0.out.bel.size, HX0.out.trans HX.out⟩
end Go.Proofs.Ytlljhimaopnbfaa
