/- light's tilts, Check and Facets. Condition: the slice reads as a list. -/
import Derived.Test.YtlljhimaopnbfaaLX
import Derived.Test.YtlljhimaopnbfaaLPl
namespace Go.Proofs.Ytlljhimaopnbfaa
open Go.RowKit Go.Shelf

attribute [local go_sem] Oper.semAt_some

def tiltsL (n m : Nat) (hs : List Int) : List (Int × Int) := (List.range (m * n)).map fun j => (tiltX n hs (cx n j) (cy n j), tiltY n hs (cx n j) (cy n j))

set_option maxRecDepth 100000 in
set_option maxHeartbeats 8000000 in
theorem tilts_any (B n m : Nat) (p : Int) (hs : List Int) (w : World) (hF : FieldAt w B n m p hs) :
    Calls Try.prog 73 #[.pointer (some ⟨B, 0, none⟩)] w (RetE tiltK w (tiltsL n m hs)) := by
  have HF := Lib.hid hF
  have hn1 := hF.n1
  have hn2 := hF.n2
  have hm2 := hF.m2
  have hB := cell_lt hF.fw
  clear hF
  refine (callsIn_wide (n := 3)).1 ?_
  refine callsIn_of_wp_marks Try.func73 rfl trivial ?_ rfl
  simp only [Try.ntmps73, List.size_toArray, List.length_cons, List.length_nil, Nat.reduceAdd, Nat.reduceSub, Array.replicate_succ, Array.replicate_zero, List.push_toArray, List.append_toArray, List.nil_append, List.cons_append]
  have F2 : Fence.wide.fn 108 := trivial
  have F3 : Fence.wide.fn 77 := trivial
  gi_wp2
  refine (cells_in Fence.wide 2 trivial rfl _ _).mono ?_
  rintro e _ ⟨rfl, rfl⟩
  gi_wp2
  refine lay_in (fun W => Ext w W ∧ W.heap.size = w.heap.size + 3 ∧ W.cell? ⟨w.heap.size, 0, none⟩ = some (.pointer (some ⟨B, 0, none⟩)) ∧ W.cell? ⟨w.heap.size + 1, 0, none⟩ = some (.slice none 0 0) ∧ W.frozen? ⟨w.heap.size + 1, 0, none⟩ = false ∧ W.cell? ⟨w.heap.size + 1 + 1, 0, none⟩ = some (.pointer (some ⟨B, 0, none⟩)))
    ⟨by (repeat' (first | with_reducible exact Ext.refl _ | with_reducible apply Ext.alloc | with_reducible apply Ext.drew | with_reducible apply Ext.drewN | with_reducible refine Ext.setCell ?_ ?_ _ | with_reducible apply Ext.step | with_reducible assumption | with_reducible exact Nat.le_refl _ | (simp; done) | (simp; omega))), by simp, by go_cell, by go_cell, by go_simp, by go_cell⟩ ?_
  rintro W0 ⟨X0, hs0, bp, b4, g4, bs⟩
  have HX0 := Lib.hid X0
  have HF0 := Lib.hid (HF.out.ext X0)
  clear X0
  refine wpIn_rangeFunc_acc (K := tiltK) (Bx := w.heap.size + 1) (off := 0) (N := m * n) (fun j => (tiltX n hs (cx n j) (cy n j), tiltY n hs (cx n j) (cy n j))) rfl (by decide) (gf := 109) (lb := #[.pointer (some ⟨w.heap.size + 1 + 1, 0, none⟩)]) rfl trivial (enters_of Try.func109 (by kernel_rfl) rfl)
    (cells_stops Fence.wide 2 trivial rfl (by decide) (w.heap.size + 1 + 1) B (w.heap.size + 1) 0 n m hn1 hn2 hm2 W0 (by omega) (by omega) bs HF0.out.fw HF0.out.fh) (fun _ => rfl) b4 g4 ?a1 ?assign ?body ?done
  case assign =>
    intro l x W K hK
    simp only [cellEnc]
    gi_wp2
    exact hK
  case body =>
    intro l ans x W sv hlen hA hc ho
    have kp := hA.cell bp (.inl (by omega))
    have hFW : FieldAt W B n m p hs := hA.field HF.out HX0.out (by omega)
    have hcx : cx n x.val < n := cx_lt hn1
    have hcy : cy n x.val < m := cy_lt x.isLt
    have HCO := Lib.hid (corners_any B n m p hs (cx n x.val) (cy n x.val) W hFW hcx hcy)
    obtain ⟨tx, htx⟩ : ∃ z, z = tiltX n hs (cx n x.val) (cy n x.val) := ⟨_, rfl⟩
    obtain ⟨ty, hty⟩ : ∃ z, z = tiltY n hs (cx n x.val) (cy n x.val) := ⟨_, rfl⟩
    show Code.wpIn _ _ _ _ (AccPost tiltK W0 (w.heap.size + 1) 0 W sv (ans ++ [(tiltX n hs (cx n x.val) (cy n x.val), tiltY n hs (cx n x.val) (cy n x.val))])) _ _
    rw [← htx, ← hty]
    unfold tiltX at htx
    unfold tiltY at hty
    obtain ⟨cb0, cb1, cb2, cb3⟩ := cor_bd HF.out (cx n x.val) (cy n x.val)
    generalize cor0 n hs (cx n x.val) (cy n x.val) = r0 at *
    generalize cor1 n hs (cx n x.val) (cy n x.val) = r1 at *
    generalize cor2 n hs (cx n x.val) (cy n x.val) = r2 at *
    generalize cor3 n hs (cx n x.val) (cy n x.val) = r3 at *
    generalize cx n x.val = xx at *
    generalize cy n x.val = yy at *
    have HTX := Lib.hid htx
    have HTY := Lib.hid hty
    have HAA := Lib.hid hA
    have HO := Lib.hid ho
    have HC := Lib.hid hc
    clear htx hty hA ho hc hFW
    have hWs := HAA.out.but.size
    gi_wp2
    refine (CallsIn.inRound l (callsIn_wide.2 HCO.out)).mono ?_
    rintro e W1 ⟨rfl, x1⟩
    have HX1 := Lib.hid x1
    have hp1 := x1.cell_some kp
    have hc1 := x1.cell_some HC.out
    have hlt1 := cell_lt hc1
    have hw1 := x1.bel.size
    clear x1 kp
    have HZ := Lib.hid (show ans.length ≤ 1000000000 by have := Nat.mul_le_mul hm2 hn2; omega)
    gi_wp2_with (gi_at_builtin; refine EK.app_in (K := tiltK) (B := W0.heap.size) (xs := ans) rfl (.tmp 15) (.tmp 39) rfl (W1.heap.size + 1) 1 (r1 + r3 - r0 - r2, r2 + r3 - r0 - r1) rfl rfl (fun i u hu => cell_new1 hu) (HO.out.ext ((HX1.out.alloc _).alloc _)) (Nat.le_trans hWs ((HX1.out.alloc _).alloc _).bel.size) HZ.out ?_; intro v' w2 o3 _ g3; obtain ⟨Av, kv, cv, rfl⟩ := o3.shape; obtain ⟨e3, f3, l3⟩ := HAA.out.after HC.out HO.out ((HX1.out.alloc _).alloc _) g3; have HO3 := Lib.hid o3; have HG3 := Lib.hid g3; clear o3 g3)
    have HO4 := HO3.out
    rw [← HTX.out, ← HTY.out] at HO4
    exact ⟨_, _, _, _, (HX1.out.alloc _).alloc _, HG3.out, HO4, Ext.refl _, Ext.refl _⟩
  case done =>
    intro D W sv hD hA hc ho hK
    have HO := Lib.hid ho
    have HAA := Lib.hid hA
    have HK := Lib.hid hK
    clear hA ho hK
    gi_wp2
    refine leaves_marks [D] W (by simp) (mark_one HK.out) (fun W' hW => ⟨_, results_tmp rfl _ _ _, sv, rfl, (HO.out.put hW (mark_one HK.out)).mono (by omega), hW.ext (HAA.out.but.below HX0.out (by simp)) (by have := HX0.out.bel.size; simp; omega)⟩)
end Go.Proofs.Ytlljhimaopnbfaa
