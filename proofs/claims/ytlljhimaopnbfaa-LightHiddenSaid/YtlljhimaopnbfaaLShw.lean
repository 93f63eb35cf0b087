/- light.Shadows. Condition: the slice reads as a list. -/
import Derived.Test.YtlljhimaopnbfaaLLit
import Derived.Test.YtlljhimaopnbfaaLShb
namespace Go.Proofs.Ytlljhimaopnbfaa
open Go.RowKit Go.Shelf

attribute [local go_sem] Oper.semAt_some

/-- A field of an elder world lies on, whatever is done to the slice's own block. -/
theorem Acc.fldD {α : Type} {K : EK α} {w W0 W Wc : World} {Bx off : Nat} {ans : List α} {sv : Value} (hA : Acc K W0 Bx off ans W) (ho : K.Own W0.heap.size W sv ans) {B n m : Nat} {p : Int} {hs : List Int} (hF : Fld w B n m p hs) (x : Ext w W0) (hb : w.heap.size ≤ Bx) (xc : Ext W Wc) (δ : BBut sv.ownBlock.toList Wc) : Fld δ.wd B n m p hs := by
  have h1 := hA.fld hF x hb
  refine hF.cells (S := fun b => b < w.heap.size) ⟨?_, fun b o v hb' hc => ?_⟩ (fun _ h => h)
  · exact Nat.le_trans x.bel.size (Nat.le_trans hA.but.size (Nat.le_trans xc.bel.size δ.but.size))
  · have := x.bel.size
    exact δ.but.cell (xc.cell_some (hA.cell (x.cell_some hc) (.inl (by omega)))) (Acc.notin ho (.inl (by omega)))

theorem light_one {w : World} (lx ly lz : Int) : lightK.Is (w.alloc (.cells #[.int .i64 lx, .int .i64 ly, .int .i64 lz] 25)) (.slice (some ⟨w.heap.size, 0, none⟩) 1 1) [(lx, ly, lz)] :=
  (EK.Own.lit (K := lightK) (B := 0) w #[.int .i64 lx, .int .i64 ly, .int .i64 lz] [(lx, ly, lz)] rfl (Nat.zero_le _) (by simp [maxLen])).is

def shadE (W H P : Int) (hs : List Int) (lx ly lz : Int) : Int := if surfB W H P hs then (if lightB lx ly lz then 0 else 61) else 60
def darksL (n m : Nat) (p : Int) (hs : List Int) (lx ly lz : Int) : List Bool := (List.range (m * n)).map fun j => darkB n m p hs lx ly lz (cx n j) (cy n j)
def shadowsL (W H P : Int) (hs : List Int) (lx ly lz : Int) : List Bool := if surfB W H P hs && lightB lx ly lz then darksL (nOf W) (nOf H) P hs lx ly lz else []

set_option maxRecDepth 100000 in
set_option maxHeartbeats 4000000 in
theorem shadows_any (W H P : Int) (hv : Value) (hs : List Int) (lx ly lz : Int) (w : World) (hI : intK.Is w hv hs) :
    Calls Try.prog 35 #[surfV W H P hv, lightV lx ly lz] w (RetEE boolK w (shadowsL W H P hs lx ly lz) (shadE W H P hs lx ly lz)) := by
  have HI := Lib.hid fun (W0 : World) (x : Ext w W0) => hI.ext x
  have hI' := hI
  obtain ⟨A, L, c, rfl, _⟩ := hI'.open_
  clear hI' hI
  cases hb : surfB W H P hs
  · have HE := Lib.hid (show shadE W H P hs lx ly lz = 60 by simp [shadE, hb])
    have HR := Lib.hid (show shadowsL W H P hs lx ly lz = [] by simp [shadowsL, hb])
    have HB := Lib.hid hb
    clear hb
    go_enter Try.func35, Try.ntmps35
    go_wp2_with fail
    refine (lit_bad W H P _ hs _ _ (HI.out _ (by (repeat' (first | with_reducible exact Ext.refl _ | with_reducible apply Ext.alloc | with_reducible apply Ext.drew | with_reducible apply Ext.drewN | with_reducible refine Ext.setCell ?_ ?_ _ | with_reducible apply Ext.step | with_reducible assumption | with_reducible exact Nat.le_refl _ | (simp; done) | (simp; omega))))) HB.out).mono ?_
    rintro e W1 ⟨rfl, x1⟩
    have HX1 := Lib.hid (show Ext w W1 from Ext.trans (by (repeat' (first | with_reducible exact Ext.refl _ | with_reducible apply Ext.alloc | with_reducible apply Ext.drew | with_reducible apply Ext.drewN | with_reducible refine Ext.setCell ?_ ?_ _ | with_reducible apply Ext.step | with_reducible assumption | with_reducible exact Nat.le_refl _ | (simp; done) | (simp; omega)))) x1)
    clear x1
    go_wp2_with fail
    go_ret2
    exact ⟨_, by rw [HE.out]; rfl, by rw [HR.out]; exact EK.Own.nil _ _, HX1.out.alloc _⟩
  obtain ⟨n, m, rfl, rfl, hn1, hn2, hm1, hm2⟩ := surf_nm hb
  cases hl : lightB lx ly lz
  · have HE := Lib.hid (show shadE ((n : Int) + 1) ((m : Int) + 1) P hs lx ly lz = 61 by simp [shadE, hb, hl])
    have HR := Lib.hid (show shadowsL ((n : Int) + 1) ((m : Int) + 1) P hs lx ly lz = [] by simp [shadowsL, hl])
    have HB := Lib.hid hb
    have HL := Lib.hid (show [(lx, ly, lz)].all lightB' = false by simp [lightB', hl])
    clear hb hl
    go_enter Try.func35, Try.ntmps35
    go_wp2_with fail
    refine (lit_dark n m P _ hs _ [(lx, ly, lz)] _ (HI.out _ (by (repeat' (first | with_reducible exact Ext.refl _ | with_reducible apply Ext.alloc | with_reducible apply Ext.drew | with_reducible apply Ext.drewN | with_reducible refine Ext.setCell ?_ ?_ _ | with_reducible apply Ext.step | with_reducible assumption | with_reducible exact Nat.le_refl _ | (simp; done) | (simp; omega))))) (by have := light_one (w := (w.alloc (.cells #[.int .i64 ((n : Int) + 1), .int .i64 ((m : Int) + 1), .int .i64 P, .slice A L c] 37)).alloc (.cells #[.int .i64 lx, .int .i64 ly, .int .i64 lz] 25)) lx ly lz; simpa using this) HB.out HL.out).mono ?_
    rintro e W1 ⟨rfl, x1⟩
    have HX1 := Lib.hid (show Ext w W1 from Ext.trans (by (repeat' (first | with_reducible exact Ext.refl _ | with_reducible apply Ext.alloc | with_reducible apply Ext.drew | with_reducible apply Ext.drewN | with_reducible refine Ext.setCell ?_ ?_ _ | with_reducible apply Ext.step | with_reducible assumption | with_reducible exact Nat.le_refl _ | (simp; done) | (simp; omega)))) x1)
    clear x1
    go_wp2_with fail
    go_ret2
    exact ⟨_, by rw [HE.out]; rfl, by rw [HR.out]; exact EK.Own.nil _ _, HX1.out.alloc _⟩
  have HE := Lib.hid (show shadE ((n : Int) + 1) ((m : Int) + 1) P hs lx ly lz = 0 by simp [shadE, hb, hl])
  have HR := Lib.hid (show shadowsL ((n : Int) + 1) ((m : Int) + 1) P hs lx ly lz = darksL n m P hs lx ly lz by simp [shadowsL, hb, hl, nOf_add])
  have HB := Lib.hid hb
  have HL := Lib.hid (show [(lx, ly, lz)].all lightB' = true by simp [lightB', hl])
  obtain ⟨⟨hl1, hl2⟩, ⟨hl3, hl4⟩, hl5, hl6⟩ := lightB_iff.1 hl
  clear hb hl
  refine (callsIn_wide (n := 3)).1 ?_
  refine callsIn_of_wp_marks Try.func35 rfl trivial ?_ rfl
  simp only [Try.ntmps35, List.size_toArray, List.length_cons, List.length_nil, Nat.reduceAdd, Nat.reduceSub, Array.replicate_succ, Array.replicate_zero, List.push_toArray, List.append_toArray, List.nil_append, List.cons_append]
  have F1 : Fence.wide.fn 76 := trivial
  have F2 : Fence.wide.fn 78 := trivial
  have F3 : Fence.wide.fn 77 := trivial
  gi_wp2
  refine (callsIn_wide.2 (lit_good n m P _ hs _ [(lx, ly, lz)] _ (HI.out _ (by (repeat' (first | with_reducible exact Ext.refl _ | with_reducible apply Ext.alloc | with_reducible apply Ext.drew | with_reducible apply Ext.drewN | with_reducible refine Ext.setCell ?_ ?_ _ | with_reducible apply Ext.step | with_reducible assumption | with_reducible exact Nat.le_refl _ | (simp; done) | (simp; omega))))) (by have := light_one (w := (w.alloc (.cells #[.int .i64 ((n : Int) + 1), .int .i64 ((m : Int) + 1), .int .i64 P, .slice A L c] 37)).alloc (.cells #[.int .i64 lx, .int .i64 ly, .int .i64 lz] 25)) lx ly lz; simpa using this) HB.out HL.out)).mono ?_
  rintro e W1 ⟨B, rfl, hF, hB, x1⟩
  have z0 : W1.cell? ⟨w.heap.size + 1, 0, none⟩ = some (.int .i64 lx) := x1.cell_some (by go_cell)
  have z1 : W1.cell? ⟨w.heap.size + 1, 1, none⟩ = some (.int .i64 ly) := x1.cell_some (by go_cell)
  have z2 : W1.cell? ⟨w.heap.size + 1, 2, none⟩ = some (.int .i64 lz) := x1.cell_some (by go_cell)
  have HX1 := Lib.hid (show Ext w W1 from Ext.trans (by (repeat' (first | with_reducible exact Ext.refl _ | with_reducible apply Ext.alloc | with_reducible apply Ext.drew | with_reducible apply Ext.drewN | with_reducible refine Ext.setCell ?_ ?_ _ | with_reducible apply Ext.step | with_reducible assumption | with_reducible exact Nat.le_refl _ | (simp; done) | (simp; omega)))) x1)
  have HF := Lib.hid hF
  have hz := cell_lt z0
  clear x1 hF hB
  gi_wp2
  refine (cells_in Fence.wide 2 trivial rfl _ _).mono ?_
  rintro e _ ⟨rfl, rfl⟩
  gi_wp2
  refine lay_in (fun W => Ext W1 W ∧ W.heap.size = W1.heap.size + 3 ∧ W.cell? ⟨w.heap.size + 1, 0, none⟩ = some (.int .i64 lx) ∧ W.cell? ⟨w.heap.size + 1, 1, none⟩ = some (.int .i64 ly) ∧ W.cell? ⟨w.heap.size + 1, 2, none⟩ = some (.int .i64 lz) ∧
    W.cell? ⟨W1.heap.size, 0, none⟩ = some (.pointer (some ⟨B, 0, none⟩)) ∧ W.cell? ⟨W1.heap.size + 1, 0, none⟩ = some (.slice none 0 0) ∧ W.frozen? ⟨W1.heap.size + 1, 0, none⟩ = false ∧ W.cell? ⟨W1.heap.size + 1 + 1, 0, none⟩ = some (.pointer (some ⟨B, 0, none⟩)))
    ⟨by (repeat' (first | with_reducible exact Ext.refl _ | with_reducible apply Ext.alloc | with_reducible apply Ext.drew | with_reducible apply Ext.drewN | with_reducible refine Ext.setCell ?_ ?_ _ | with_reducible apply Ext.step | with_reducible assumption | with_reducible exact Nat.le_refl _ | (simp; done) | (simp; omega))), by simp, Ext.cell_some (by (repeat' (first | with_reducible exact Ext.refl _ | with_reducible apply Ext.alloc | with_reducible apply Ext.drew | with_reducible apply Ext.drewN | with_reducible refine Ext.setCell ?_ ?_ _ | with_reducible apply Ext.step | with_reducible assumption | with_reducible exact Nat.le_refl _ | (simp; done) | (simp; omega)))) z0, Ext.cell_some (by (repeat' (first | with_reducible exact Ext.refl _ | with_reducible apply Ext.alloc | with_reducible apply Ext.drew | with_reducible apply Ext.drewN | with_reducible refine Ext.setCell ?_ ?_ _ | with_reducible apply Ext.step | with_reducible assumption | with_reducible exact Nat.le_refl _ | (simp; done) | (simp; omega)))) z1, Ext.cell_some (by (repeat' (first | with_reducible exact Ext.refl _ | with_reducible apply Ext.alloc | with_reducible apply Ext.drew | with_reducible apply Ext.drewN | with_reducible refine Ext.setCell ?_ ?_ _ | with_reducible apply Ext.step | with_reducible assumption | with_reducible exact Nat.le_refl _ | (simp; done) | (simp; omega)))) z2, by go_cell, by go_cell, by go_simp, by go_cell⟩ ?_
  rintro W0 ⟨X0, hs0, b0, b1, b2, bp, b4, g4, bs⟩
  have HX0 := Lib.hid X0
  have HF0 := Lib.hid (HF.out.ext X0)
  have hBl := cell_lt HF.out.at_.fw
  clear X0 z0 z1 z2
  refine wpIn_rangeFunc_acc (K := boolK) (Bx := W1.heap.size + 1) (off := 0) (N := m * n) (fun j => darkB n m P hs lx ly lz (cx n j) (cy n j)) rfl (by decide) (gf := 109) (lb := #[.pointer (some ⟨W1.heap.size + 1 + 1, 0, none⟩)]) rfl trivial (enters_of Try.func109 (by kernel_rfl) rfl)
    (cells_stops Fence.wide 2 trivial rfl (by decide) (W1.heap.size + 1 + 1) B (W1.heap.size + 1) 0 n m hn1 hn2 hm2 W0 (by omega) (by omega) bs HF0.out.at_.fw HF0.out.at_.fh) (fun _ => rfl) b4 g4 ?a1 ?assign ?body ?done
  case assign =>
    intro l x W K hK
    simp only [cellEnc]
    gi_wp2
    exact hK
  case body =>
    intro l ans x W sv hlen hA hc ho
    have hcx : cx n x.val < n := cx_lt hn1
    have hcy : cy n x.val < m := cy_lt x.isLt
    obtain ⟨dk, hdk⟩ : ∃ z, z = darkB n m P hs lx ly lz (cx n x.val) (cy n x.val) := ⟨_, rfl⟩
    show Code.wpIn _ _ _ _ (AccPost boolK W0 (W1.heap.size + 1) 0 W sv (ans ++ [darkB n m P hs lx ly lz (cx n x.val) (cy n x.val)])) _ _
    rw [← hdk]
    have HSH := Lib.hid fun (Wd : World) (hd : Fld Wd B n m P hs) => (show Calls Try.prog 78 #[.pointer (some ⟨B, 0, none⟩), lightV lx ly lz, .int .i64 (cx n x.val), .int .i64 (cy n x.val)] Wd fun e w' => e = .returned (.bool dk) ∧ Ext Wd w' by
      rw [hdk]
      exact shadow_any B n m P hs lx ly lz _ _ Wd hd hcx hcy hl1 hl2 hl3 hl4 hl5 hl6)
    generalize cx n x.val = xx at *
    generalize cy n x.val = yy at *
    have HAA := Lib.hid hA
    have HO := Lib.hid ho
    have HC := Lib.hid hc
    have hWs := hA.but.size
    have q0 := But.cells (D := sv.ownBlock.toList) (hA.cell b0 (.inl (by omega))) (Acc.notin ho (.inl (by omega)))
    have q1 := But.cells (D := sv.ownBlock.toList) (hA.cell b1 (.inl (by omega))) (Acc.notin ho (.inl (by omega)))
    have q2 := But.cells (D := sv.ownBlock.toList) (hA.cell b2 (.inl (by omega))) (Acc.notin ho (.inl (by omega)))
    have qp := But.cells (D := sv.ownBlock.toList) (hA.cell bp (.inl (by omega))) (Acc.notin ho (.inl (by omega)))
    have qm := But.cells (D := sv.ownBlock.toList) hc (Acc.notin ho (.inl (by omega)))
    have HZ := Lib.hid (show ans.length ≤ 1000000000 by have := Nat.mul_le_mul hm2 hn2; omega)
    clear hdk hA ho hc
    gi_wp2
    refine wpIn_region_steps sv.ownBlock.toList 8 [(0, true), (1, true), (2, true), (3, true), (4, true), (5, true), (6, false), (7, false)] (by kernel_rfl) (by kernel_rfl) ?_
    repeat (refine wpSD_q (by rfl) (fun _ _ _ => trivial) (fun K hK => ?_); go_simp; refine hK _ ?_; clear hK K)
    refine wpSD_q (by rfl) (fun _ _ _ => trivial) (fun K hK => ?_)
    go_simp
    refine ⟨.bool dk, fun δ => (CallsIn.inRound l (callsIn_wide.2 (HSH.out δ.wd (HAA.out.fldD HO.out HF.out HX0.out (by omega) (Ext.refl _) δ)))), hK _ ?_⟩
    clear hK K
    refine wpSD_m (by rfl) (fun _ _ _ => trivial) (fun δ K hK => ?_)
    go_simp
    refine ⟨((Ext.refl _).alloc _).but, hK _ _ ?_⟩
    clear hK K
    have Xd : Ext W δ.wd := ⟨δ, rfl⟩
    refine EK.app_s (K := boolK) (B := W0.heap.size) (xs := ans) (by rfl) rfl (.tmp 25) (.tmp 31) rfl δ.wd.heap.size 1 dk rfl rfl (fun i u hu => cell_new hu) (HO.out.ext (Xd.alloc _)) (Nat.le_trans hWs (Xd.alloc _).bel.size) HZ.out ?_
    intro v' w2 w3 o3 x2 g3
    obtain ⟨Av, kv, cv, rfl⟩ := o3.shape
    refine wpSD_nil ?_
    intro w4 x4
    obtain ⟨e3, f3, _⟩ := HAA.out.after HC.out HO.out ((Xd.alloc _).trans x2) g3
    have f4 := x4.frozen e3 f3
    have e4 := x4.cell_some e3
    have HX2 := Lib.hid ((Xd.alloc _).trans x2)
    have HX4 := Lib.hid x4
    have HG3 := Lib.hid g3
    have HO3 := Lib.hid o3
    clear e3 f3 x2 x4 g3 o3 qp qm q0 q1 q2
    have l4 := cell_lt e4
    simp only [List.drop_succ_cons, List.drop_zero]
    gi_wp2
    exact ⟨_, _, _, _, HX2.out, HG3.out, HO3.out, HX4.out, Ext.refl _⟩
  case done =>
    intro D W sv hD hA hc ho hK
    have HO := Lib.hid ho
    have HAA := Lib.hid hA
    have HK := Lib.hid hK
    clear hA ho hK
    gi_wp2
    have hw1 := HX1.out.bel.size
    refine leaves_marks [D] W (by simp) (mark_one HK.out) (fun W' hW => ⟨_, results_tmp2 rfl _ _ _, sv, by rw [HE.out]; rfl, by rw [HR.out]; exact (HO.out.put hW (mark_one HK.out)).mono (by omega), hW.ext (HAA.out.but.below (HX1.out.trans HX0.out) (by simp; omega)) (by simp; omega)⟩)
end Go.Proofs.Ytlljhimaopnbfaa
