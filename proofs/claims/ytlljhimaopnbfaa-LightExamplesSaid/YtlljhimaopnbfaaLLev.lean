/- light.Picture and Levels. Condition: the slice reads as a list. -/
import Derived.Test.YtlljhimaopnbfaaLShw
namespace Go.Proofs.Ytlljhimaopnbfaa
section
/- LPct: light.picture. Conditions: a field lies there; bounds. -/
open Go.RowKit Go.Shelf

attribute [local go_sem] Oper.semAt_some

/-- How bright a cell is in a picture. -/
def seenC (n m : Nat) (p : Int) (hs : List Int) (lx ly lz : Int) (x y : Nat) : Int × Int :=
  if darkB n m p hs lx ly lz x y then (0, 1) else (shadeN (tiltX n hs x y) (tiltY n hs x y) p lx ly lz, shadeD (tiltX n hs x y) (tiltY n hs x y) p lx ly lz)
def seenL (n m : Nat) (p : Int) (hs : List Int) (lx ly lz : Int) : List (Int × Int) := (List.range (m * n)).map fun j => seenC n m p hs lx ly lz (cx n j) (cy n j)

theorem tilt_bd {w : World} {B n m : Nat} {p : Int} {hs : List Int} (h : FieldAt w B n m p hs) (x y : Nat) : (-400 ≤ tiltX n hs x y ∧ tiltX n hs x y ≤ 400) ∧ -400 ≤ tiltY n hs x y ∧ tiltY n hs x y ≤ 400 := by
  obtain ⟨h0, h1, h2, h3⟩ := cor_bd h x y
  unfold tiltX tiltY
  omega
theorem tilts_at {n m : Nat} {hs : List Int} {x y : Nat} (hx : x < n) (hy : y < m) : ∃ h : y * n + x < (tiltsL n m hs).length, (tiltsL n m hs)[y * n + x] = (tiltX n hs x y, tiltY n hs x y) := by
  have h : y * n + x < m * n := by
    have : (y + 1) * n ≤ m * n := Nat.mul_le_mul_right _ hy
    rw [Nat.succ_mul] at this
    omega
  refine ⟨by simpa [tiltsL] using h, ?_⟩
  simp [tiltsL, cx_at hx, cy_at hx]

set_option maxRecDepth 100000 in
set_option maxHeartbeats 8000000 in
theorem picture_any (B n m : Nat) (p : Int) (hs : List Int) (lx ly lz : Int) (w : World) (hF : Fld w B n m p hs)
    (hl1 : -30 ≤ lx) (hl2 : lx ≤ 30) (hl3 : -30 ≤ ly) (hl4 : ly ≤ 30) (hl5 : 1 ≤ lz) (hl6 : lz ≤ 30) :
    Calls Try.prog 81 #[.pointer (some ⟨B, 0, none⟩), lightV lx ly lz] w (RetE shadeK w (seenL n m p hs lx ly lz)) := by
  have HF := Lib.hid hF
  have hn1 := hF.at_.n1
  have hn2 := hF.at_.n2
  have hm2 := hF.at_.m2
  have hp1 := hF.at_.p1
  have hp2 := hF.at_.p2
  have hB := cell_lt hF.at_.fw
  clear hF
  refine (callsIn_wide (n := 3)).1 ?_
  refine callsIn_of_wp_marks Try.func81 rfl trivial ?_ rfl
  simp only [Try.ntmps81, List.size_toArray, List.length_cons, List.length_nil, Nat.reduceAdd, Nat.reduceSub, Array.replicate_succ, Array.replicate_zero, List.push_toArray, List.append_toArray, List.nil_append, List.cons_append]
  have F1 : Fence.wide.fn 73 := trivial
  have F2 : Fence.wide.fn 78 := trivial
  have F3 : Fence.wide.fn 77 := trivial
  have F4 : Fence.wide.fn 110 := trivial
  have F5 : Fence.wide.fn 65 := trivial
  have F6 : Fence.wide.fn 107 := trivial
  gi_wp2
  refine (callsIn_wide.2 (tilts_any B n m p hs _ (HF.out.at_.ext (by (repeat' (first | with_reducible exact Ext.refl _ | with_reducible apply Ext.alloc | with_reducible apply Ext.drew | with_reducible apply Ext.drewN | with_reducible refine Ext.setCell ?_ ?_ _ | with_reducible apply Ext.step | with_reducible assumption | with_reducible exact Nat.le_refl _ | (simp; done) | (simp; omega))))))).mono ?_
  rintro e W1 ⟨tv, rfl, ot, x1⟩
  have z0 : W1.cell? ⟨w.heap.size + 1, 0, none⟩ = some (.int .i64 lx) := x1.cell_some (by go_cell)
  have z1 : W1.cell? ⟨w.heap.size + 1, 1, none⟩ = some (.int .i64 ly) := x1.cell_some (by go_cell)
  have z2 : W1.cell? ⟨w.heap.size + 1, 2, none⟩ = some (.int .i64 lz) := x1.cell_some (by go_cell)
  have zp : W1.cell? ⟨w.heap.size, 0, none⟩ = some (.pointer (some ⟨B, 0, none⟩)) := x1.cell_some (by go_cell)
  have zo : W1.cell? ⟨w.heap.size + 1 + 1, 0, none⟩ = some (.slice none 0 0) := x1.cell_some (by go_cell)
  have yo : W1.frozen? ⟨w.heap.size + 1 + 1, 0, none⟩ = false := x1.frozen (v := .slice none 0 0) (by go_cell) (by go_simp)
  have HX1 := Lib.hid (show Ext w W1 from Ext.trans (by (repeat' (first | with_reducible exact Ext.refl _ | with_reducible apply Ext.alloc | with_reducible apply Ext.drew | with_reducible apply Ext.drewN | with_reducible refine Ext.setCell ?_ ?_ _ | with_reducible apply Ext.step | with_reducible assumption | with_reducible exact Nat.le_refl _ | (simp; done) | (simp; omega)))) x1)
  have hz := cell_lt z0
  have hzo := cell_lt zo
  have hzp := cell_lt zp
  have HT := Lib.hid ot.is
  have HOB := Lib.hid (show ∀ g, tv.ownBlock = some g → w.heap.size + 3 ≤ g from fun g hg => by have := (ot.lt g hg).1; simpa using this)
  obtain ⟨At, kt, ct, rfl⟩ := ot.shape
  clear x1 ot
  gi_wp2
  refine (cells_in Fence.wide 2 trivial rfl _ _).mono ?_
  rintro e _ ⟨rfl, rfl⟩
  gi_wp2
  refine lay_in (fun W => Ext W1 W ∧ W.heap.size = W1.heap.size + 2 ∧ W.cell? ⟨w.heap.size + 1, 0, none⟩ = some (.int .i64 lx) ∧ W.cell? ⟨w.heap.size + 1, 1, none⟩ = some (.int .i64 ly) ∧ W.cell? ⟨w.heap.size + 1, 2, none⟩ = some (.int .i64 lz) ∧
    W.cell? ⟨w.heap.size, 0, none⟩ = some (.pointer (some ⟨B, 0, none⟩)) ∧ W.cell? ⟨w.heap.size + 1 + 1, 0, none⟩ = some (.slice none 0 0) ∧ W.frozen? ⟨w.heap.size + 1 + 1, 0, none⟩ = false ∧ W.cell? ⟨W1.heap.size + 1, 0, none⟩ = some (.pointer (some ⟨B, 0, none⟩)) ∧ W.cell? ⟨W1.heap.size, 0, none⟩ = some (.slice At kt ct))
    ⟨by (repeat' (first | with_reducible exact Ext.refl _ | with_reducible apply Ext.alloc | with_reducible apply Ext.drew | with_reducible apply Ext.drewN | with_reducible refine Ext.setCell ?_ ?_ _ | with_reducible apply Ext.step | with_reducible assumption | with_reducible exact Nat.le_refl _ | (simp; done) | (simp; omega))), by simp, Ext.cell_some (by (repeat' (first | with_reducible exact Ext.refl _ | with_reducible apply Ext.alloc | with_reducible apply Ext.drew | with_reducible apply Ext.drewN | with_reducible refine Ext.setCell ?_ ?_ _ | with_reducible apply Ext.step | with_reducible assumption | with_reducible exact Nat.le_refl _ | (simp; done) | (simp; omega)))) z0, Ext.cell_some (by (repeat' (first | with_reducible exact Ext.refl _ | with_reducible apply Ext.alloc | with_reducible apply Ext.drew | with_reducible apply Ext.drewN | with_reducible refine Ext.setCell ?_ ?_ _ | with_reducible apply Ext.step | with_reducible assumption | with_reducible exact Nat.le_refl _ | (simp; done) | (simp; omega)))) z1, Ext.cell_some (by (repeat' (first | with_reducible exact Ext.refl _ | with_reducible apply Ext.alloc | with_reducible apply Ext.drew | with_reducible apply Ext.drewN | with_reducible refine Ext.setCell ?_ ?_ _ | with_reducible apply Ext.step | with_reducible assumption | with_reducible exact Nat.le_refl _ | (simp; done) | (simp; omega)))) z2, Ext.cell_some (by (repeat' (first | with_reducible exact Ext.refl _ | with_reducible apply Ext.alloc | with_reducible apply Ext.drew | with_reducible apply Ext.drewN | with_reducible refine Ext.setCell ?_ ?_ _ | with_reducible apply Ext.step | with_reducible assumption | with_reducible exact Nat.le_refl _ | (simp; done) | (simp; omega)))) zp, Ext.cell_some (by (repeat' (first | with_reducible exact Ext.refl _ | with_reducible apply Ext.alloc | with_reducible apply Ext.drew | with_reducible apply Ext.drewN | with_reducible refine Ext.setCell ?_ ?_ _ | with_reducible apply Ext.step | with_reducible assumption | with_reducible exact Nat.le_refl _ | (simp; done) | (simp; omega)))) zo, Ext.frozen (by (repeat' (first | with_reducible exact Ext.refl _ | with_reducible apply Ext.alloc | with_reducible apply Ext.drew | with_reducible apply Ext.drewN | with_reducible refine Ext.setCell ?_ ?_ _ | with_reducible apply Ext.step | with_reducible assumption | with_reducible exact Nat.le_refl _ | (simp; done) | (simp; omega)))) zo yo, by go_cell, by go_cell⟩ ?_
  rintro W0 ⟨X0, hs0, b0, b1, b2, bp, b4, g4, bs, bt⟩
  have HX0 := Lib.hid X0
  have HXX := Lib.hid (HX1.out.trans X0)
  have HF0 := Lib.hid (HF.out.ext (HX1.out.trans X0))
  have HT0 := Lib.hid (HT.out.ext X0)
  clear X0 z0 z1 z2 zp zo yo
  refine wpIn_rangeFunc_acc (K := shadeK) (Bx := w.heap.size + 1 + 1) (off := 0) (N := m * n) (fun j => seenC n m p hs lx ly lz (cx n j) (cy n j)) rfl (by decide) (gf := 109) (lb := #[.pointer (some ⟨W1.heap.size + 1, 0, none⟩)]) rfl trivial (enters_of Try.func109 (by kernel_rfl) rfl)
    (cells_stops Fence.wide 2 trivial rfl (by decide) (W1.heap.size + 1) B (w.heap.size + 1 + 1) 0 n m hn1 hn2 hm2 W0 (by omega) (by omega) bs HF0.out.at_.fw HF0.out.at_.fh) (fun _ => rfl) b4 g4 ?a1 ?assign ?body ?done
  case assign =>
    intro l x W K hK
    simp only [cellEnc]
    gi_wp2
    exact hK
  case body =>
    intro l ans x W sv hlen hA hc ho
    have hcx : cx n x.val < n := cx_lt hn1
    have hcy : cy n x.val < m := cy_lt x.isLt
    show Code.wpIn _ _ _ _ (AccPost shadeK W0 (w.heap.size + 1 + 1) 0 W sv (ans ++ [seenC n m p hs lx ly lz (cx n x.val) (cy n x.val)])) _ _
    have kp := hA.cell bp (.inl (by omega))
    have k0 := hA.cell b0 (.inl (by omega))
    have k1 := hA.cell b1 (.inl (by omega))
    have k2 := hA.cell b2 (.inl (by omega))
    have kt' := hA.cell bt (.inl (by omega))
    have HFW := Lib.hid (hA.fld HF.out HXX.out (by omega))
    have HAA := Lib.hid hA
    have HO := Lib.hid ho
    have HC := Lib.hid hc
    have hWs := hA.but.size
    have HZ := Lib.hid (show ans.length ≤ 1000000000 by have := Nat.mul_le_mul hm2 hn2; omega)
    obtain ⟨hti, hte⟩ := tilts_at (hs := hs) hcx hcy
    obtain ⟨tb1, tb2⟩ := tilt_bd HF.out.at_ (cx n x.val) (cy n x.val)
    have hkt : kt = (tiltsL n m hs).length := by
      obtain ⟨_, _, he, _⟩ := HT.out
      cases he
      rfl
    obtain ⟨bT, oT, hAt, hbT, hcT⟩ := (show tiltK.Row W0 At (tiltsL n m hs) by
      obtain ⟨_, _, he, _, _, hr⟩ := HT0.out
      cases he
      exact hr) _ hti
    subst hAt
    rw [hte] at hcT
    have hne : bT ≠ w.heap.size + 1 + 1 := by have := HOB.out bT rfl; omega
    have hbTl : bT < W0.heap.size := cell_lt (hcT 0 _ rfl)
    have t0 := hA.cell (hcT 0 _ rfl) (.inl hne)
    have t1 := hA.cell (hcT 1 _ rfl) (.inl hne)
    have HIX := Lib.hid (show (cy n x.val : Int) * (n : Int) + (cx n x.val : Int) = ((cy n x.val * n + cx n x.val : Nat) : Int) by simp)
    have HSH := Lib.hid (shadow_any B n m p hs lx ly lz (cx n x.val) (cy n x.val) W HFW.out hcx hcy hl1 hl2 hl3 hl4 hl5 hl6)
    have hinc : inC n m (cx n x.val) (cy n x.val) = true := inC_iff.2 ⟨⟨by omega, by omega⟩, by omega, by omega⟩
    have HAT := Lib.hid fun (Wd : World) (hd : Ext W Wd) => (show Calls Try.prog 110 #[.pointer (some ⟨B, 0, none⟩), .int .i64 (cx n x.val), .int .i64 (cy n x.val)] Wd fun e w' => e = .returned (.tuple #[.int .i64 ((cy n x.val * n + cx n x.val : Nat) : Int), .bool true]) ∧ Ext Wd w' by
      have := at_any B n m p hs (cx n x.val) (cy n x.val) Wd (HFW.out.at_.ext hd) (by omega) (by omega) (by omega) (by omega)
      rwa [HIX.out, hinc] at this)
    have hixl : cy n x.val * n + cx n x.val < kt := by rw [hkt]; exact hti
    obtain ⟨sc, hsc⟩ : ∃ z, z = seenC n m p hs lx ly lz (cx n x.val) (cy n x.val) := ⟨_, rfl⟩
    rw [← hsc]
    have HSN := Lib.hid (show sc = if darkB n m p hs lx ly lz (cx n x.val) (cy n x.val) then (0, 1) else (shadeN (tiltX n hs (cx n x.val) (cy n x.val)) (tiltY n hs (cx n x.val) (cy n x.val)) p lx ly lz, shadeD (tiltX n hs (cx n x.val) (cy n x.val)) (tiltY n hs (cx n x.val) (cy n x.val)) p lx ly lz) by rw [hsc]; rfl)
    simp only [tiltK, Nat.add_zero] at t0 t1
    generalize tiltX n hs (cx n x.val) (cy n x.val) = tx at *
    generalize tiltY n hs (cx n x.val) (cy n x.val) = ty at *
    generalize cy n x.val * n + cx n x.val = ix at *
    cases hd : darkB n m p hs lx ly lz (cx n x.val) (cy n x.val)
    · rw [hd] at HSH HSN
      generalize cx n x.val = xx at *
      generalize cy n x.val = yy at *
      clear hkt hti hte hcT HIX hinc hsc hd hA ho hc
      gi_wp2
      refine (CallsIn.inRound l (callsIn_wide.2 HSH.out)).mono ?_
      rintro e Wb ⟨rfl, x1⟩
      have HXb := Lib.hid x1
      have kp1 := x1.cell_some kp
      have hkp1 := cell_lt kp1
      clear x1
      gi_wp2
      refine (CallsIn.inRound l (callsIn_wide.2 (HAT.out Wb HXb.out))).mono ?_
      rintro e Wc ⟨rfl, x2⟩
      have HXc := Lib.hid (HXb.out.trans x2)
      have hWc := HXc.out.bel.size
      have q0 := But.cells (D := sv.ownBlock.toList) (HXc.out.cell_some k0) (Acc.notin HO.out (.inl (by omega)))
      have q1 := But.cells (D := sv.ownBlock.toList) (HXc.out.cell_some k1) (Acc.notin HO.out (.inl (by omega)))
      have q2 := But.cells (D := sv.ownBlock.toList) (HXc.out.cell_some k2) (Acc.notin HO.out (.inl (by omega)))
      have qp := But.cells (D := sv.ownBlock.toList) (HXc.out.cell_some kp) (Acc.notin HO.out (.inl (by omega)))
      have qt := But.cells (D := sv.ownBlock.toList) (HXc.out.cell_some kt') (Acc.notin HO.out (.inl (by omega)))
      have qa := But.cells (D := sv.ownBlock.toList) (HXc.out.cell_some t0) (Acc.notin HO.out (.inl hbTl))
      have qb := But.cells (D := sv.ownBlock.toList) (HXc.out.cell_some t1) (Acc.notin HO.out (.inl hbTl))
      have qm := But.cells (D := sv.ownBlock.toList) (HXc.out.cell_some HC.out) (Acc.notin HO.out (.inl (by omega)))
      have qf := But.cells (D := sv.ownBlock.toList) (HXc.out.cell_some HFW.out.at_.fp) (Acc.notin HO.out (.inl (by omega)))
      have HBR := Lib.hid fun Wd : World => bright_any tx ty p lx ly lz Wd tb1.1 tb1.2 tb2.1 tb2.2 hp1 hp2 hl1 hl2 hl3 hl4 hl5 hl6
      clear x2 kp1 hkp1 kp k0 k1 k2 kt' t0 t1
      gi_wp2
      refine wpIn_region_steps sv.ownBlock.toList 14 [(0, true), (1, true), (2, true), (3, true), (4, true), (5, true), (6, true), (7, true), (8, true), (9, true), (10, true), (11, true), (12, false), (13, false)] (by kernel_rfl) (by kernel_rfl) ?_
      repeat (refine wpSD_q (by rfl) (fun _ _ _ => trivial) (fun K hK => ?_); go_simp; refine hK _ ?_; clear hK K)
      refine wpSD_q (by rfl) (fun _ _ _ => trivial) (fun K hK => ?_)
      go_simp
      refine ⟨.agg #[.int .i64 (shadeN tx ty p lx ly lz), .int .i64 (shadeD tx ty p lx ly lz)], fun δ => (CallsIn.inRound l (callsIn_wide.2 (HBR.out δ.wd))), hK _ ?_⟩
      clear hK K
      refine wpSD_m (by rfl) (fun _ _ _ => trivial) (fun δ K hK => ?_)
      go_simp
      refine ⟨((Ext.refl _).alloc _).but, hK _ _ ?_⟩
      clear hK K
      have Xd : Ext Wc δ.wd := ⟨δ, rfl⟩
      refine EK.app_s (K := shadeK) (B := W0.heap.size) (xs := ans) (by rfl) rfl (.tmp 33) (.tmp 45) rfl δ.wd.heap.size 1 ((shadeN tx ty p lx ly lz, shadeD tx ty p lx ly lz)) rfl rfl (fun i u hu => cell_new hu) (HO.out.ext ((HXc.out.trans Xd).alloc _)) (Nat.le_trans hWs ((HXc.out.trans Xd).alloc _).bel.size) HZ.out ?_
      intro v' w2 w3 o3 x2 g3
      obtain ⟨Av, kv, cv, rfl⟩ := o3.shape
      refine wpSD_nil ?_
      intro w4 x4
      obtain ⟨e3, f3, _⟩ := HAA.out.after HC.out HO.out (((HXc.out.trans Xd).alloc _).trans x2) g3
      have f4 := x4.frozen e3 f3
      have e4 := x4.cell_some e3
      have HX2 := Lib.hid (((HXc.out.trans Xd).alloc _).trans x2)
      have HX4 := Lib.hid x4
      have HG3 := Lib.hid g3
      have HO3 := Lib.hid o3
      clear e3 f3 x2 x4 g3 o3 qp qm q0 q1 q2 qt qa qb qf
      have l4 := cell_lt e4
      simp only [List.drop_succ_cons, List.drop_zero]
      gi_wp2
      have HO4 := HO3.out
      rw [show ((shadeN tx ty p lx ly lz, shadeD tx ty p lx ly lz)) = sc by rw [HSN.out]; rfl] at HO4
      exact ⟨_, _, _, _, HX2.out, HG3.out, HO4, HX4.out, Ext.refl _⟩
    · rw [hd] at HSH HSN
      generalize cx n x.val = xx at *
      generalize cy n x.val = yy at *
      clear hkt hti hte hcT HIX hinc hsc hd hA ho hc HAT t0 t1 tb1 tb2
      gi_wp2
      refine (CallsIn.inRound l (callsIn_wide.2 HSH.out)).mono ?_
      rintro e Wb ⟨rfl, x1⟩
      have HXb := Lib.hid x1
      have hWb := x1.bel.size
      have qm := But.cells (D := sv.ownBlock.toList) (HXb.out.cell_some HC.out) (Acc.notin HO.out (.inl (by omega)))
      clear x1 kp k0 k1 k2 kt'
      gi_wp2
      refine wpIn_region_steps sv.ownBlock.toList 4 [(0, true), (1, true), (2, false), (3, false)] (by kernel_rfl) (by kernel_rfl) ?_
      refine wpSD_q (by rfl) (fun _ _ _ => trivial) (fun K hK => ?_)
      go_simp
      refine hK _ ?_
      clear hK K
      refine wpSD_q (by rfl) (fun _ _ _ => trivial) (fun K hK => ?_)
      go_simp
      refine ⟨.agg #[.int .i64 0, .int .i64 1], fun δ => (CallsIn.inRound l (callsIn_wide.2 (dark_any δ.wd))), hK _ ?_⟩
      clear hK K
      refine wpSD_m (by rfl) (fun _ _ _ => trivial) (fun δ K hK => ?_)
      go_simp
      refine ⟨((Ext.refl _).alloc _).but, hK _ _ ?_⟩
      clear hK K
      have Xd : Ext Wb δ.wd := ⟨δ, rfl⟩
      refine EK.app_s (K := shadeK) (B := W0.heap.size) (xs := ans) (by rfl) rfl (.tmp 22) (.tmp 24) rfl δ.wd.heap.size 1 (((0 : Int), (1 : Int))) rfl rfl (fun i u hu => cell_new hu) (HO.out.ext ((HXb.out.trans Xd).alloc _)) (Nat.le_trans hWs ((HXb.out.trans Xd).alloc _).bel.size) HZ.out ?_
      intro v' w2 w3 o3 x2 g3
      obtain ⟨Av, kv, cv, rfl⟩ := o3.shape
      refine wpSD_nil ?_
      intro w4 x4
      obtain ⟨e3, f3, _⟩ := HAA.out.after HC.out HO.out (((HXb.out.trans Xd).alloc _).trans x2) g3
      have f4 := x4.frozen e3 f3
      have e4 := x4.cell_some e3
      have HX2 := Lib.hid (((HXb.out.trans Xd).alloc _).trans x2)
      have HX4 := Lib.hid x4
      have HG3 := Lib.hid g3
      have HO3 := Lib.hid o3
      clear e3 f3 x2 x4 g3 o3 qm
      have l4 := cell_lt e4
      simp only [List.drop_succ_cons, List.drop_zero]
      gi_wp2
      have HO4 := HO3.out
      rw [show (((0 : Int), (1 : Int))) = sc by rw [HSN.out]; rfl] at HO4
      exact ⟨_, _, _, _, HX2.out, HG3.out, HO4, HX4.out, Ext.refl _⟩
  case done =>
    intro D W sv hD hA hc ho hK
    have HO := Lib.hid ho
    have HAA := Lib.hid hA
    have HK := Lib.hid hK
    clear hA ho hK
    gi_wp2
    have hw1 := HX1.out.bel.size
    refine leaves_marks [D] W (by simp) (mark_one HK.out) (fun W' hW => ⟨_, results_tmp rfl _ _ _, sv, rfl, (HO.out.put hW (mark_one HK.out)).mono (by omega), hW.ext (HAA.out.but.below HXX.out (by simp <;> omega)) (by simp; omega)⟩)
end
open Go.RowKit Go.Shelf

def pictureL (W H P : Int) (hs : List Int) (lx ly lz : Int) : List (Int × Int) := if surfB W H P hs && lightB lx ly lz then seenL (nOf W) (nOf H) P hs lx ly lz else []

set_option maxRecDepth 100000 in
set_option maxHeartbeats 4000000 in
theorem Picture_any (W H P : Int) (hv : Value) (hs : List Int) (lx ly lz : Int) (w : World) (hI : intK.Is w hv hs) :
    Calls Try.prog 37 #[surfV W H P hv, lightV lx ly lz] w (RetEE shadeK w (pictureL W H P hs lx ly lz) (shadE W H P hs lx ly lz)) := by
  have HI := Lib.hid fun (W0 : World) (x : Ext w W0) => hI.ext x
  have hI' := hI
  obtain ⟨A, L, c, rfl, _⟩ := hI'.open_
  clear hI' hI
  cases hb : surfB W H P hs
  · have HE := Lib.hid (show shadE W H P hs lx ly lz = 60 by simp [shadE, hb])
    have HR := Lib.hid (show pictureL W H P hs lx ly lz = [] by simp [pictureL, hb])
    have HB := Lib.hid hb
    clear hb
    go_enter Try.func37, Try.ntmps37
    go_wp2_with fail
    refine (lit_bad W H P _ hs _ _ (HI.out _ (by (repeat' (first | with_reducible exact Ext.refl _ | with_reducible apply Ext.alloc | with_reducible apply Ext.drew | with_reducible apply Ext.drewN | with_reducible refine Ext.setCell ?_ ?_ _ | with_reducible apply Ext.step | with_reducible assumption | with_reducible exact Nat.le_refl _ | (simp; done) | (simp; omega))))) HB.out).mono ?_
    rintro e W1 ⟨rfl, x1⟩
    have HX1 := Lib.hid (show Ext w W1 from Ext.trans (by (repeat' (first | with_reducible exact Ext.refl _ | with_reducible apply Ext.alloc | with_reducible apply Ext.drew | with_reducible apply Ext.drewN | with_reducible refine Ext.setCell ?_ ?_ _ | with_reducible apply Ext.step | with_reducible assumption | with_reducible exact Nat.le_refl _ | (simp; done) | (simp; omega)))) x1)
    clear x1
    go_wp2_with fail
    go_ret2
    exact ⟨_, by rw [HE.out]; rfl, by rw [HR.out]; exact EK.Own.nil _ _, HX1.out⟩
  obtain ⟨n, m, rfl, rfl, hn1, hn2, hm1, hm2⟩ := surf_nm hb
  cases hl : lightB lx ly lz
  · have HE := Lib.hid (show shadE ((n : Int) + 1) ((m : Int) + 1) P hs lx ly lz = 61 by simp [shadE, hb, hl])
    have HR := Lib.hid (show pictureL ((n : Int) + 1) ((m : Int) + 1) P hs lx ly lz = [] by simp [pictureL, hl])
    have HB := Lib.hid hb
    have HL := Lib.hid (show [(lx, ly, lz)].all lightB' = false by simp [lightB', hl])
    clear hb hl
    go_enter Try.func37, Try.ntmps37
    go_wp2_with fail
    refine (lit_dark n m P _ hs _ [(lx, ly, lz)] _ (HI.out _ (by (repeat' (first | with_reducible exact Ext.refl _ | with_reducible apply Ext.alloc | with_reducible apply Ext.drew | with_reducible apply Ext.drewN | with_reducible refine Ext.setCell ?_ ?_ _ | with_reducible apply Ext.step | with_reducible assumption | with_reducible exact Nat.le_refl _ | (simp; done) | (simp; omega))))) (by have := light_one (w := (w.alloc (.cells #[.int .i64 ((n : Int) + 1), .int .i64 ((m : Int) + 1), .int .i64 P, .slice A L c] 37)).alloc (.cells #[.int .i64 lx, .int .i64 ly, .int .i64 lz] 25)) lx ly lz; simpa using this) HB.out HL.out).mono ?_
    rintro e W1 ⟨rfl, x1⟩
    have HX1 := Lib.hid (show Ext w W1 from Ext.trans (by (repeat' (first | with_reducible exact Ext.refl _ | with_reducible apply Ext.alloc | with_reducible apply Ext.drew | with_reducible apply Ext.drewN | with_reducible refine Ext.setCell ?_ ?_ _ | with_reducible apply Ext.step | with_reducible assumption | with_reducible exact Nat.le_refl _ | (simp; done) | (simp; omega)))) x1)
    clear x1
    go_wp2_with fail
    go_ret2
    exact ⟨_, by rw [HE.out]; rfl, by rw [HR.out]; exact EK.Own.nil _ _, HX1.out⟩
  have HE := Lib.hid (show shadE ((n : Int) + 1) ((m : Int) + 1) P hs lx ly lz = 0 by simp [shadE, hb, hl])
  have HR := Lib.hid (show pictureL ((n : Int) + 1) ((m : Int) + 1) P hs lx ly lz = seenL n m P hs lx ly lz by simp [pictureL, hb, hl, nOf_add])
  have HB := Lib.hid hb
  have HL := Lib.hid (show [(lx, ly, lz)].all lightB' = true by simp [lightB', hl])
  obtain ⟨⟨hl1, hl2⟩, ⟨hl3, hl4⟩, hl5, hl6⟩ := lightB_iff.1 hl
  clear hb hl
  go_enter Try.func37, Try.ntmps37
  go_wp2_with fail
  refine (lit_good n m P _ hs _ [(lx, ly, lz)] _ (HI.out _ (by (repeat' (first | with_reducible exact Ext.refl _ | with_reducible apply Ext.alloc | with_reducible apply Ext.drew | with_reducible apply Ext.drewN | with_reducible refine Ext.setCell ?_ ?_ _ | with_reducible apply Ext.step | with_reducible assumption | with_reducible exact Nat.le_refl _ | (simp; done) | (simp; omega))))) (by have := light_one (w := (w.alloc (.cells #[.int .i64 ((n : Int) + 1), .int .i64 ((m : Int) + 1), .int .i64 P, .slice A L c] 37)).alloc (.cells #[.int .i64 lx, .int .i64 ly, .int .i64 lz] 25)) lx ly lz; simpa using this) HB.out HL.out).mono ?_
  rintro e W1 ⟨B, rfl, hF, hB, x1⟩
  have z0 : W1.cell? ⟨w.heap.size + 1, 0, none⟩ = some (.int .i64 lx) := x1.cell_some (by go_cell)
  have z1 : W1.cell? ⟨w.heap.size + 1, 1, none⟩ = some (.int .i64 ly) := x1.cell_some (by go_cell)
  have z2 : W1.cell? ⟨w.heap.size + 1, 2, none⟩ = some (.int .i64 lz) := x1.cell_some (by go_cell)
  have HX1 := Lib.hid (show Ext w W1 from Ext.trans (by (repeat' (first | with_reducible exact Ext.refl _ | with_reducible apply Ext.alloc | with_reducible apply Ext.drew | with_reducible apply Ext.drewN | with_reducible refine Ext.setCell ?_ ?_ _ | with_reducible apply Ext.step | with_reducible assumption | with_reducible exact Nat.le_refl _ | (simp; done) | (simp; omega)))) x1)
  have HF := Lib.hid hF
  have hz := cell_lt z0
  clear x1 hF hB
  go_wp2_with fail
  refine (picture_any B n m P hs lx ly lz W1 HF.out hl1 hl2 hl3 hl4 hl5 hl6).mono ?_
  rintro e W2 ⟨v, rfl, ov, x2⟩
  have HX2 := Lib.hid (HX1.out.trans x2)
  have HO := Lib.hid ov
  clear x2 ov
  go_wp2_with fail
  go_ret2
  exact ⟨_, by rw [HE.out]; rfl, by rw [HR.out]; exact HO.out.mono HX1.out.bel.size, HX2.out⟩
end Go.Proofs.Ytlljhimaopnbfaa
