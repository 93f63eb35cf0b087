/- LightFlat: the law's walk. No condition. -/
import Derived.Test.YtlljhimaopnbfaaLLawFs
import Derived.Laws.OwnMore
import Derived.Deep.OwnRows
namespace Go.Proofs.Ytlljhimaopnbfaa
open Go.RowKit

/-- The list while its first i numbers are set to c. -/
def flatL (N : Nat) (c : Int) (i : Nat) : List Int := (List.range N).map fun j => if j < i then c else 0
theorem flatL_len {N : Nat} {c : Int} {i : Nat} : (flatL N c i).length = N := by simp [flatL]
theorem flatL_zero {N : Nat} {c : Int} : flatL N c 0 = List.replicate N 0 := by
  apply List.ext_getElem
  · simp [flatL]
  · intro j h1 h2
    simp [flatL]
theorem flatL_end {N : Nat} {c : Int} : flatL N c N = List.replicate N c := by
  apply List.ext_getElem
  · simp [flatL]
  · intro j h1 h2
    rw [flatL_len] at h1
    simp only [flatL, List.getElem_map, List.getElem_range, List.getElem_replicate]
    rw [if_pos h1]
theorem flatL_set {N : Nat} {c : Int} {i : Nat} : (flatL N c i).set i c = flatL N c (i + 1) := by
  apply List.ext_getElem
  · simp [flatL]
  · intro j h1 h2
    rw [List.getElem_set]
    simp only [flatL, List.getElem_map, List.getElem_range]
    split
    · rw [if_pos (by omega)]
    · split
      · rw [if_pos (by omega)]
      · rw [if_neg (by omega)]
theorem hA_flat {N : Nat} {c : Int} {i : Nat} (h : i < N) : hA (List.replicate N c) i = c := by
  unfold hA
  simp [h]
theorem flat_picture {n m N : Nat} {P c lx ly lz : Int} (hN : N = (n + 1) * (m + 1)) (hn : 1 ≤ n) (h1 : surfB ((n : Int) + 1) ((m : Int) + 1) P (List.replicate N c) = true) (h2 : lightB lx ly lz = true) :
    pictureL ((n : Int) + 1) ((m : Int) + 1) P (List.replicate N c) lx ly lz = List.replicate (m * n) (shadeN 0 0 P lx ly lz, shadeD 0 0 P lx ly lz) := by
  unfold pictureL
  rw [h1, h2, nOf_add, nOf_add]
  show seenL n m P (List.replicate N c) lx ly lz = _
  have hp := (surfB_iff.1 h1).2.2.1
  have hz := (lightB_iff.1 h2).2.2
  apply List.ext_getElem
  · simp [seenL]
  · intro j h3 h4
    simp only [seenL, List.getElem_map, List.getElem_range, List.getElem_replicate]
    rw [List.length_replicate] at h4
    exact flat_seen (c := c) (fun i hi => hA_flat (by rw [hN]; exact hi)) (by omega) (by omega) (cx_lt hn) (cy_lt h4)
theorem flat_shadows {n m N : Nat} {P c lx ly lz : Int} (hN : N = (n + 1) * (m + 1)) (hn : 1 ≤ n) (h1 : surfB ((n : Int) + 1) ((m : Int) + 1) P (List.replicate N c) = true) (h2 : lightB lx ly lz = true) :
    shadowsL ((n : Int) + 1) ((m : Int) + 1) P (List.replicate N c) lx ly lz = List.replicate (m * n) false := by
  rw [shadowsL_ok h1 h2]
  have hp := (surfB_iff.1 h1).2.2.1
  have hz := (lightB_iff.1 h2).2.2
  apply List.ext_getElem
  · simp [darksL]
  · intro j h3 h4
    rw [darksL_at, List.getElem_replicate]
    rw [List.length_replicate] at h4
    exact flat_dark (c := c) (fun i hi => hA_flat (by rw [hN]; exact hi)) (by omega) (by omega) (cx_lt hn) (cy_lt h4)
theorem shOf_flat {pp : List (List (Int × Int))} {N : Nat} (h : ∀ q (h : q < pp.length), ∃ s, pp[q] = List.replicate N s) {j : Nat} (hj : j < N) : shOf pp j = shOf pp 0 := by
  funext q
  unfold shOf
  by_cases hq : q < pp.length
  · obtain ⟨s, hs⟩ := h q hq
    rw [List.getElem?_eq_getElem hq, Option.getD_some, hs, List.getElem?_replicate, List.getElem?_replicate, if_pos hj, if_pos (by omega)]
  · rw [show pp[q]? = none from List.getElem?_eq_none (by omega)]
    rfl
theorem flat_flash {n m N : Nat} {P c : Int} {ls : List (Int × Int × Int)} (hN : N = (n + 1) * (m + 1)) (hn : 1 ≤ n) (h1 : surfB ((n : Int) + 1) ((m : Int) + 1) P (List.replicate N c) = true) (h : flashE ((n : Int) + 1) ((m : Int) + 1) P (List.replicate N c) ls = 0) :
    ∃ z : Int, flashL ((n : Int) + 1) ((m : Int) + 1) P (List.replicate N c) ls = List.replicate (m * n) z := by
  obtain ⟨hsb, hlb, hla⟩ := flashE_ok h
  refine ⟨(bestTo (shOf (picsL n m P (List.replicate N c) ls) 0) (picsL n m P (List.replicate N c) ls).length : Nat), ?_⟩
  have h2 : flashL ((n : Int) + 1) ((m : Int) + 1) P (List.replicate N c) ls = bestL (picsL n m P (List.replicate N c) ls) (m * n) := by
    unfold flashL
    rw [hsb, hlb, hla, nOf_add, nOf_add]
    rfl
  rw [h2]
  apply List.ext_getElem
  · simp [bestL]
  · intro j h3 h4
    rw [List.length_replicate] at h4
    simp only [bestL, List.getElem_map, List.getElem_range, List.getElem_replicate]
    rw [shOf_flat (N := m * n) (fun q hq => ?_) h4]
    have hq' : q < ls.length := by rw [picsL_len] at hq; exact hq
    have hl := List.all_eq_true.1 hla _ (List.getElem_mem hq')
    have h5 := flat_picture hN hn h1 hl
    unfold pictureL at h5
    rw [h1, show lightB ls[q].1 ls[q].2.1 ls[q].2.2 = true from hl, nOf_add, nOf_add] at h5
    exact ⟨(shadeN 0 0 P ls[q].1 ls[q].2.1 ls[q].2.2, shadeD 0 0 P ls[q].1 ls[q].2.1 ls[q].2.2), by simp only [picsL, List.getElem_map]; exact h5⟩
theorem two_lightsF {w : World} {B : Nat} (hB : w.heap.size = B) (a b c d e f : Int) : lightK.Is (w.alloc (.cells #[.int .i64 a, .int .i64 b, .int .i64 c, .int .i64 d, .int .i64 e, .int .i64 f] 25)) (.slice (some ⟨B, 0, none⟩) 2 2) [(a, b, c), (d, e, f)] := by
  subst hB
  exact (EK.Own.lit (K := lightK) (B := 0) w #[.int .i64 a, .int .i64 b, .int .i64 c, .int .i64 d, .int .i64 e, .int .i64 f] [(a, b, c), (d, e, f)] rfl (Nat.zero_le _) (by simp [maxLen])).is
theorem shadeK_atF {w : World} {A : Option Addr} {xs : List (Int × Int)} (h : shadeK.Row w A xs) {j : Nat} (hj : j < xs.length) : ∃ b o, A = some ⟨b, o, none⟩ ∧ b < w.heap.size ∧ w.cell? ⟨b, o + j * 2, none⟩ = some (.int .i64 xs[j].1) ∧ w.cell? ⟨b, o + j * 2 + 1, none⟩ = some (.int .i64 xs[j].2) := by
  obtain ⟨b, o, rfl, hb, hc⟩ := h j hj
  exact ⟨b, o, rfl, hb, hc 0 _ rfl, hc 1 _ rfl⟩

set_option maxRecDepth 100000 in
set_option maxHeartbeats 8000000 in
theorem lawFlat_any (W H P ht lx ly lz mx my mz : Int) (w : World) :
    Calls Try.prog 15 #[.int .i64 W, .int .i64 H, .int .i64 P, .int .i64 ht, lightV lx ly lz, lightV mx my mz] w fun e w' => e = .returned (.bool true) ∧ Ext w w' := by
  have HAL := Lib.hid fun W : World => light_alive W
  have X0 := Lib.hid (show Ext w ((w.alloc (.cells #[.int .i64 lx, .int .i64 ly, .int .i64 lz] 25)).alloc (.cells #[.int .i64 mx, .int .i64 my, .int .i64 mz] 25)) from by (repeat' (first | with_reducible exact Ext.refl _ | with_reducible apply Ext.alloc | with_reducible apply Ext.drew | with_reducible apply Ext.drewN | with_reducible refine Ext.setCell ?_ ?_ _ | with_reducible apply Ext.step | with_reducible assumption | with_reducible exact Nat.le_refl _ | (simp; done) | (simp; omega))))
  go_enter Try.func15, Try.ntmps15
  go_wp2_with fail
  refine (HAL.out _).mono ?_
  rintro e w1 ⟨rfl, x1⟩
  have HX1 := Lib.hid (X0.out.trans x1)
  have a0 : w1.cell? ⟨w.heap.size, 0, none⟩ = some (.int .i64 lx) := x1.cell_some (by go_cell)
  have a1 : w1.cell? ⟨w.heap.size, 1, none⟩ = some (.int .i64 ly) := x1.cell_some (by go_cell)
  have a2 : w1.cell? ⟨w.heap.size, 2, none⟩ = some (.int .i64 lz) := x1.cell_some (by go_cell)
  have b0 : w1.cell? ⟨w.heap.size + 1, 0, none⟩ = some (.int .i64 mx) := x1.cell_some (by go_cell)
  have b1 : w1.cell? ⟨w.heap.size + 1, 1, none⟩ = some (.int .i64 my) := x1.cell_some (by go_cell)
  have b2 : w1.cell? ⟨w.heap.size + 1, 2, none⟩ = some (.int .i64 mz) := x1.cell_some (by go_cell)
  have la := cell_lt a0
  have lb := cell_lt b0
  clear x1
  by_cases hW1 : W < 2
  · have g1 : decide (W < 2) = true := by simpa using hW1
    clear hW1
    go_wp2_with fail
    go_ret
    exact ⟨rfl, HX1.out⟩
  have g1 : decide (W < 2) = false := by simpa using hW1
  by_cases hW2 : 24 < W
  · have g2 : decide (24 < W) = true := by simpa using hW2
    clear hW1 hW2
    go_wp2_with fail
    go_ret
    exact ⟨rfl, HX1.out⟩
  have g2 : decide (24 < W) = false := by simpa using hW2
  by_cases hH1 : H < 2
  · have g3 : decide (H < 2) = true := by simpa using hH1
    clear hH1 hW1 hW2
    go_wp2_with fail
    go_ret
    exact ⟨rfl, HX1.out⟩
  have g3 : decide (H < 2) = false := by simpa using hH1
  by_cases hH2 : 24 < H
  · have g4 : decide (24 < H) = true := by simpa using hH2
    clear hH1 hW1 hW2 hH2
    go_wp2_with fail
    go_ret
    exact ⟨rfl, HX1.out⟩
  have g4 : decide (24 < H) = false := by simpa using hH2
  obtain ⟨n, hn⟩ : ∃ n : Nat, W = (n : Int) + 1 := ⟨(W - 1).toNat, by omega⟩
  obtain ⟨m, hm⟩ : ∃ m : Nat, H = (m : Int) + 1 := ⟨(H - 1).toNat, by omega⟩
  have hmn := Nat.mul_le_mul (show n + 1 ≤ 24 by omega) (show m + 1 ≤ 24 by omega)
  obtain ⟨N, hN⟩ : ∃ N, N = (n + 1) * (m + 1) := ⟨_, rfl⟩
  have hNI : W * H = (N : Int) := by rw [hN, hn, hm]; simp
  have hwN : IntKind.i64.wrap (W * H) = (N : Int) := by rw [hNI]; exact IntWalk.i64_in _ (by omega)
  have HNM := Lib.hid (And.intro hn (And.intro hm (And.intro hN (show 1 ≤ n ∧ n ≤ 23 ∧ 1 ≤ m ∧ m ≤ 23 by omega))))
  have hN2 : N ≤ 576 := by omega
  have hmk : ∀ w : World, (Instr.makeSlice 35 (.int .i64 (N : Int)) (.int .i64 (N : Int))).run Try.prog w = .ok (.slice (some ⟨w.heap.size, 0, none⟩) N N) (w.alloc (.cells (madeCells #[.int .i64 0] N) 3)) := fun w =>
    run_make_row' (P := Try.prog) 35 3 (.int .i64 0) 8 Try.underlying35 intInfo rfl .i64 .i64 N (by omega) (by omega) w
  clear hn hm hN hNI hmn hW1 hW2 hH1 hH2
  go_wp2_with fail
  have HZ1 := Lib.hid (show intK.Own w1.heap.size ((w1.alloc (.cells (madeCells #[.int .i64 0] N) 3)).alloc (.cells #[.int .i64 W, .int .i64 H, .int .i64 P, .slice (some ⟨w1.heap.size, 0, none⟩) N N] 37)) (.slice (some ⟨w1.heap.size, 0, none⟩) N N) (flatL N ht 0) from by
    rw [flatL_zero]
    have := EK.Own.lit (K := intK) (B := w1.heap.size) w1 (madeCells #[.int .i64 0] N) (List.replicate N 0) (by rw [toList_madeCells_one, flat_ints, List.map_replicate]) (Nat.le_refl _) (by simp [maxLen]; omega)
    rw [List.length_replicate] at this
    exact this.ext ((Ext.refl _).alloc _))
  refine lay_wp (fun Wa => intK.Own w1.heap.size Wa (.slice (some ⟨w1.heap.size, 0, none⟩) N N) (flatL N ht 0) ∧ Ext w1 Wa ∧ Wa.cell? ⟨w1.heap.size + 1, 0, none⟩ = some (.int .i64 W) ∧ Wa.cell? ⟨w1.heap.size + 1, 1, none⟩ = some (.int .i64 H) ∧ Wa.cell? ⟨w1.heap.size + 1, 2, none⟩ = some (.int .i64 P) ∧ Wa.cell? ⟨w1.heap.size + 1, 3, none⟩ = some (.slice (some ⟨w1.heap.size, 0, none⟩) N N)) ⟨HZ1.out, by (repeat' (first | with_reducible exact Ext.refl _ | with_reducible apply Ext.alloc | with_reducible apply Ext.drew | with_reducible apply Ext.drewN | with_reducible refine Ext.setCell ?_ ?_ _ | with_reducible apply Ext.step | with_reducible assumption | with_reducible exact Nat.le_refl _ | (simp; done) | (simp; omega))), by go_cell, by go_cell, by go_cell, by go_cell⟩ ?_
  rintro Wa ⟨ho, hx, s0, s1, s2, s3⟩
  have HO := Lib.hid ho
  have HXA := Lib.hid hx
  have HS := Lib.hid (And.intro s0 (And.intro s1 (And.intro s2 s3)))
  have HA := Lib.hid (And.intro a0 (And.intro a1 (And.intro a2 (And.intro b0 (And.intro b1 b2)))))
  clear ho hx s0 s1 s2 s3 a0 a1 a2 b0 b1 b2 la lb hmk hwN g1 g2 g3 g4 HZ1
  go_loopw [56] (fun iv wr => ∃ i : Nat, i ≤ N ∧ iv = .int .i64 (i : Int) ∧ intK.Own w1.heap.size wr (.slice (some ⟨w1.heap.size, 0, none⟩) N N) (flatL N ht i) ∧ But [w1.heap.size] Wa wr) (fun iv _ => N - (intOf iv).toNat)
  case atStart => exact ⟨0, by omega, rfl, HO.out, But.refl _ _⟩
  case round =>
    obtain ⟨i, hi, rfl, ho, hb⟩ := hrel
    have HOI := Lib.hid ho
    have HB := Lib.hid hb
    have s0 := hb.cell HS.out.1 (by simp)
    have s1 := hb.cell HS.out.2.1 (by simp)
    have s2 := hb.cell HS.out.2.2.1 (by simp)
    have s3 := hb.cell HS.out.2.2.2 (by simp)
    have lsx := cell_lt s0
    by_cases hlt : i < N
    · have hii : (i : Int) < (N : Int) := by omega
      obtain ⟨g, cg, hge, _, hgl, hgc, hgf⟩ := ho.slot (j := i) (by rw [flatL_len]; exact hlt)
      simp only [Value.slice.injEq, Option.some.injEq, Addr.mk.injEq] at hge
      obtain ⟨⟨rfl, -⟩, -, -⟩ := hge
      have g0 := hgc 0 _ rfl
      simp only [intK, Nat.mul_one, Nat.add_zero] at g0
      have gf := hgf i
      clear hgc hgf ho hb
      go_wp2_with fail
      go_roundw
      case rel =>
        have h1 := HOI.out.put1N flatL_len hlt rfl ht (.int .i64 ht) rfl
        rw [flatL_set] at h1
        exact ⟨i + 1, by omega, by go_num, h1, HB.out.setCell (by simp) _⟩
      case measure => simp [intOf]; omega
    · obtain rfl : i = N := by omega
      have hxf : Ext w1 wr := hb.below HXA.out (by simp)
      have HXF := Lib.hid (HX1.out.trans hxf)
      have a0 := hxf.cell_some HA.out.1
      have a1 := hxf.cell_some HA.out.2.1
      have a2 := hxf.cell_some HA.out.2.2.1
      have b0 := hxf.cell_some HA.out.2.2.2.1
      have b1 := hxf.cell_some HA.out.2.2.2.2.1
      have b2 := hxf.cell_some HA.out.2.2.2.2.2
      have la := cell_lt a0
      have lb := cell_lt b0
      have hI := ho.is
      rw [flatL_end] at hI
      obtain ⟨wf, rfl⟩ : ∃ wf, wf = wr := ⟨wr, rfl⟩
      have HPI := Lib.hid fun (W1 : World) (x : Ext wf W1) => Picture_any W H P _ _ lx ly lz W1 (hI.ext x)
      have HSH := Lib.hid fun (W1 : World) (x : Ext wf W1) => shadows_any W H P _ _ lx ly lz W1 (hI.ext x)
      have HFL := Lib.hid fun (W1 : World) (x : Ext wf W1) (lv : Value) (h : lightK.Is W1 lv [(lx, ly, lz), (mx, my, mz)]) => Flash_any W H P _ _ lv _ W1 (hI.ext x) h
      clear ho hb hI hlt hi hxf
      by_cases he : shadE W H P (List.replicate i ht) lx ly lz = 0
      case neg =>
        have f1 : (shadE W H P (List.replicate i ht) lx ly lz != 0) = true := by simpa using he
        generalize shadE W H P (List.replicate i ht) lx ly lz = er at *
        generalize flashE W H P (List.replicate i ht) [(lx, ly, lz), (mx, my, mz)] = fe at *
        clear he
        go_wp2_with fail
        refine (HPI.out _ (Ext.refl _)).mono ?_
        rintro e w2 ⟨v2, rfl, o2, x2⟩
        have HX2 := Lib.hid x2
        replace a0 := x2.cell_some a0
        replace a1 := x2.cell_some a1
        replace a2 := x2.cell_some a2
        replace b0 := x2.cell_some b0
        replace b1 := x2.cell_some b1
        replace b2 := x2.cell_some b2
        replace s0 := x2.cell_some s0
        replace s1 := x2.cell_some s1
        replace s2 := x2.cell_some s2
        replace s3 := x2.cell_some s3
        replace la := cell_lt a0
        replace lb := cell_lt b0
        replace lsx := cell_lt s0
        obtain ⟨A2, k2, c2, rfl⟩ := o2.shape
        clear x2 o2
        go_wp2_with fail
        refine (HSH.out _ HX2.out).mono ?_
        rintro e w3 ⟨v3, rfl, o3, x3⟩
        have HX3 := Lib.hid (HX2.out.trans x3)
        replace a0 := x3.cell_some a0
        replace a1 := x3.cell_some a1
        replace a2 := x3.cell_some a2
        replace b0 := x3.cell_some b0
        replace b1 := x3.cell_some b1
        replace b2 := x3.cell_some b2
        replace s0 := x3.cell_some s0
        replace s1 := x3.cell_some s1
        replace s2 := x3.cell_some s2
        replace s3 := x3.cell_some s3
        replace la := cell_lt a0
        replace lb := cell_lt b0
        replace lsx := cell_lt s0
        obtain ⟨A3, k3, c3, rfl⟩ := o3.shape
        clear x3 o3
        go_wp2_with fail
        refine (HFL.out _ (HX3.out.alloc _) _ (two_lightsF rfl lx ly lz mx my mz)).mono ?_
        rintro e w4 ⟨v4, rfl, o4, x4⟩
        have HX4 := Lib.hid ((HX3.out.alloc _).trans x4)
        obtain ⟨A4, k4, c4, rfl⟩ := o4.shape
        clear x4 o4 a0 a1 a2 b0 b1 b2 s0 s1 s2 s3 la lb lsx
        go_wp2_with fail
        go_ret
        exact ⟨rfl, HXF.out.trans HX4.out⟩
      obtain ⟨hsb, hlb⟩ := shadE_ok he
      obtain ⟨hn, hm, hN, hn1, hn2, hm1, hm2⟩ := HNM.out
      have hmn := Nat.mul_le_mul hm2 hn2
      obtain ⟨M, hM⟩ : ∃ M, M = m * n := ⟨_, rfl⟩
      have hM5 : M ≤ 529 := by rw [hM]; exact hmn
      have hM0 : 0 < M := by rw [hM]; exact Nat.mul_pos (by omega) (by omega)
      have hw1 : IntKind.i64.wrap (W - 1) = (n : Int) := by rw [hn]; exact (IntWalk.i64_in _ (by omega)).trans (by omega)
      have hw2 : IntKind.i64.wrap (H - 1) = (m : Int) := by rw [hm]; exact (IntWalk.i64_in _ (by omega)).trans (by omega)
      have hw3 : IntKind.i64.wrap ((n : Int) * (m : Int)) = (M : Int) := by
        rw [show (n : Int) * (m : Int) = (M : Int) by rw [hM, Int.mul_comm]; simp]
        exact IntWalk.i64_in _ (by omega)
      have hPL : pictureL W H P (List.replicate i ht) lx ly lz = List.replicate M (shadeN 0 0 P lx ly lz, shadeD 0 0 P lx ly lz) := by
        rw [hn, hm] at hsb ⊢
        rw [hM]
        exact flat_picture hN hn1 hsb hlb
      have hSL : shadowsL W H P (List.replicate i ht) lx ly lz = List.replicate M false := by
        rw [hn, hm] at hsb ⊢
        rw [hM]
        exact flat_shadows hN hn1 hsb hlb
      have HFZ := Lib.hid (show flashE W H P (List.replicate i ht) [(lx, ly, lz), (mx, my, mz)] = 0 → ∃ z : Int, flashL W H P (List.replicate i ht) [(lx, ly, lz), (mx, my, mz)] = List.replicate M z from by
        rw [hn, hm] at hsb ⊢
        rw [hM]
        exact flat_flash hN hn1 hsb)
      have hP := (surfB_iff.1 hsb).2.2.1
      have hBE : brightE 0 0 P lx ly lz = 0 := by
        unfold brightE
        rw [hlb, inB_iff.2 hP]
        rfl
      have hBN : brightN 0 0 P lx ly lz = shadeN 0 0 P lx ly lz := by
        unfold brightN
        rw [hlb, inB_iff.2 hP]
        rfl
      have hBD : brightD 0 0 P lx ly lz = shadeD 0 0 P lx ly lz := by
        unfold brightD
        rw [hlb, inB_iff.2 hP]
        rfl
      have HBR := Lib.hid fun W : World => Bright_any 0 0 P lx ly lz W
      unfold brightV at HBR
      rw [hBE, hBN, hBD] at HBR
      rw [he, hPL] at HPI
      rw [he, hSL] at HSH
      have z1 : ((M : Int) != (M : Int)) = false := by simp
      clear he hsb hlb hn hm hN hn1 hn2 hm1 hm2 hmn hM hPL hSL hP hBE hBN hBD
      generalize shadeN 0 0 P lx ly lz = sn at *
      generalize shadeD 0 0 P lx ly lz = sd at *
      go_wp2_with fail
      refine (HPI.out _ (Ext.refl _)).mono ?_
      rintro e w2 ⟨v2, rfl, o2, x2⟩
      have HX2 := Lib.hid x2
      replace a0 := x2.cell_some a0
      replace a1 := x2.cell_some a1
      replace a2 := x2.cell_some a2
      replace b0 := x2.cell_some b0
      replace b1 := x2.cell_some b1
      replace b2 := x2.cell_some b2
      replace s0 := x2.cell_some s0
      replace s1 := x2.cell_some s1
      replace s2 := x2.cell_some s2
      replace s3 := x2.cell_some s3
      replace la := cell_lt a0
      replace lb := cell_lt b0
      replace lsx := cell_lt s0
      obtain ⟨A2, k2, c2, rfl, hk2, _, hr2, -⟩ := o2.is.open_
      rw [List.length_replicate] at hk2
      subst hk2
      have HR2 := Lib.hid o2.is
      clear x2 o2 hr2
      go_wp2_with fail
      refine (HSH.out _ HX2.out).mono ?_
      rintro e w3 ⟨v3, rfl, o3, x3⟩
      have HX3 := Lib.hid (HX2.out.trans x3)
      have HR3 := Lib.hid (HR2.out.ext x3)
      replace a0 := x3.cell_some a0
      replace a1 := x3.cell_some a1
      replace a2 := x3.cell_some a2
      replace b0 := x3.cell_some b0
      replace b1 := x3.cell_some b1
      replace b2 := x3.cell_some b2
      replace s0 := x3.cell_some s0
      replace s1 := x3.cell_some s1
      replace s2 := x3.cell_some s2
      replace s3 := x3.cell_some s3
      replace la := cell_lt a0
      replace lb := cell_lt b0
      replace lsx := cell_lt s0
      obtain ⟨A3, k3, c3, rfl, hk3, -⟩ := o3.is.open_
      rw [List.length_replicate] at hk3
      subst hk3
      have HT3 := Lib.hid o3.is
      clear x3 o3 HR2
      go_wp2_with fail
      refine (HFL.out _ (HX3.out.alloc _) _ (two_lightsF rfl lx ly lz mx my mz)).mono ?_
      rintro e w4 ⟨v4, rfl, o4, x4⟩
      have x34 : Ext w3 w4 := ((Ext.refl _).alloc _).trans x4
      have HX4 := Lib.hid (HX3.out.trans x34)
      have HR4 := Lib.hid (HR3.out.ext x34)
      have HT4 := Lib.hid (HT3.out.ext x34)
      replace a0 := x34.cell_some a0
      replace a1 := x34.cell_some a1
      replace a2 := x34.cell_some a2
      replace la := cell_lt a0
      obtain ⟨A4, k4, c4, rfl, hk4, -⟩ := o4.is.open_
      have HF4 := Lib.hid o4.is
      clear x4 x34 o4 b0 b1 b2 s0 s1 s2 s3 lb lsx HR3 HT3 HFL
      by_cases hf : flashE W H P (List.replicate i ht) [(lx, ly, lz), (mx, my, mz)] = 0
      case pos =>
        obtain ⟨z, hz⟩ := HFZ.out hf
        rw [hz] at HF4
        rw [hz, List.length_replicate] at hk4
        subst hk4
        rw [hf]
        clear hf hz HFZ
        go_wp2_with fail
        refine (HBR.out _).mono ?_
        rintro e w5 ⟨rfl, x5⟩
        have HX5 := Lib.hid (HX4.out.trans x5)
        have HR5 := Lib.hid (HR4.out.ext x5)
        have HT5 := Lib.hid (HT4.out.ext x5)
        have HF5 := Lib.hid (HF4.out.ext x5)
        clear x5 a0 a1 a2 la HR4 HT4 HF4
        go_wp2_with fail
        refine lay_wp (fun Wb => Ext w5 Wb ∧ Wb.cell? ⟨w5.heap.size, 0, none⟩ = some (.int .i64 sn) ∧ Wb.cell? ⟨w5.heap.size, 1, none⟩ = some (.int .i64 sd)) ⟨by (repeat' (first | with_reducible exact Ext.refl _ | with_reducible apply Ext.alloc | with_reducible apply Ext.drew | with_reducible apply Ext.drewN | with_reducible refine Ext.setCell ?_ ?_ _ | with_reducible apply Ext.step | with_reducible assumption | with_reducible exact Nat.le_refl _ | (simp; done) | (simp; omega))), by go_cell, by go_cell⟩ ?_
        rintro Wb ⟨xb, p0, p1⟩
        have HXb := Lib.hid (HX5.out.trans xb)
        have HP := Lib.hid (And.intro p0 p1)
        obtain ⟨_, _, he2, _, _, hr2⟩ := HR5.out.ext xb
        simp only [Value.slice.injEq] at he2
        obtain ⟨rfl, -, -⟩ := he2
        obtain ⟨_, _, he3, _, _, hr3⟩ := HT5.out.ext xb
        simp only [Value.slice.injEq] at he3
        obtain ⟨rfl, -, -⟩ := he3
        obtain ⟨_, _, he4, _, _, hr4⟩ := HF5.out.ext xb
        simp only [Value.slice.injEq] at he4
        obtain ⟨rfl, -, -⟩ := he4
        obtain ⟨bf, of, rfl, hbf, fc0⟩ := ints_at hr4 0 (by rw [List.length_replicate]; exact hM0)
        rw [List.getElem_replicate] at fc0
        simp only [Nat.add_zero] at fc0
        have HR := Lib.hid hr2
        have HT := Lib.hid hr3
        have HF := Lib.hid hr4
        have HF0 := Lib.hid fc0
        clear xb p0 p1 hr2 hr3 hr4 fc0 hbf hM0 hw1 hw2 hw3
        go_loopw [132] (fun iv wr => ∃ j : Nat, j ≤ M ∧ iv = .int .i64 (j : Int) ∧ Ext Wb wr) (fun iv _ => M - (intOf iv).toNat)
        case atStart => exact ⟨0, by omega, rfl, Ext.refl _⟩
        case round =>
          obtain ⟨j, hj, rfl, hx⟩ := hrel
          have HX := Lib.hid hx
          by_cases hlt : j < M
          · have hjj : (j : Int) < (M : Int) := by omega
            obtain ⟨bs, os, rfl, -, q0, q1⟩ := shadeK_atF HR.out (j := j) (by rw [List.length_replicate]; exact hlt)
            obtain ⟨bt, ot, rfl, -, t0⟩ := bools_at HT.out j (by rw [List.length_replicate]; exact hlt)
            obtain ⟨bf', of', hff, -, u0⟩ := ints_at HF.out j (by rw [List.length_replicate]; exact hlt)
            simp only [Option.some.injEq, Addr.mk.injEq] at hff
            obtain ⟨rfl, rfl, -⟩ := hff
            rw [List.getElem_replicate] at q0 q1 t0 u0
            replace q0 := hx.cell_some q0
            replace q1 := hx.cell_some q1
            replace t0 := hx.cell_some t0
            replace u0 := hx.cell_some u0
            have v0 := hx.cell_some HF0.out
            have p0 := hx.cell_some HP.out.1
            have p1 := hx.cell_some HP.out.2
            have l1 := cell_lt q0
            have l2 := cell_lt t0
            have l3 := cell_lt u0
            have l4 := cell_lt p0
            have e1 : (z != z) = false := by simp
            clear hx
            go_wp2_with fail
            refine wp_region_bext (by kernel_rfl) (by kernel_rfl) ?_
            repeat (any_goals (go_big_quiet_step (fail)))
            all_goals refine wpQuiet_nil ?_
            all_goals rintro _ ⟨δ, rfl⟩
            have HX7 := Lib.hid (HX.out.trans (show Ext wr δ.wd from ⟨δ, rfl⟩))
            generalize δ.wd = W7 at *
            go_wp2_with fail
            go_roundw
            case rel => exact ⟨j + 1, by omega, by go_num, HX7.out⟩
            case measure => simp [intOf]; omega
          · obtain rfl : j = M := by omega
            clear hx
            go_wp2_with fail
            go_ret
            exact ⟨rfl, HXF.out.trans (HXb.out.trans HX.out)⟩
      case neg =>
        have f1 : (flashE W H P (List.replicate i ht) [(lx, ly, lz), (mx, my, mz)] == 0) = false := by simpa using hf
        generalize flashE W H P (List.replicate i ht) [(lx, ly, lz), (mx, my, mz)] = fe at *
        clear hf HFZ HF4 hk4
        go_wp2_with fail
        refine (HBR.out _).mono ?_
        rintro e w5 ⟨rfl, x5⟩
        have HX5 := Lib.hid (HX4.out.trans x5)
        have HR5 := Lib.hid (HR4.out.ext x5)
        have HT5 := Lib.hid (HT4.out.ext x5)
        clear x5 a0 a1 a2 la HR4 HT4
        go_wp2_with fail
        refine lay_wp (fun Wb => Ext w5 Wb ∧ Wb.cell? ⟨w5.heap.size, 0, none⟩ = some (.int .i64 sn) ∧ Wb.cell? ⟨w5.heap.size, 1, none⟩ = some (.int .i64 sd)) ⟨by (repeat' (first | with_reducible exact Ext.refl _ | with_reducible apply Ext.alloc | with_reducible apply Ext.drew | with_reducible apply Ext.drewN | with_reducible refine Ext.setCell ?_ ?_ _ | with_reducible apply Ext.step | with_reducible assumption | with_reducible exact Nat.le_refl _ | (simp; done) | (simp; omega))), by go_cell, by go_cell⟩ ?_
        rintro Wb ⟨xb, p0, p1⟩
        have HXb := Lib.hid (HX5.out.trans xb)
        have HP := Lib.hid (And.intro p0 p1)
        obtain ⟨_, _, he2, _, _, hr2⟩ := HR5.out.ext xb
        simp only [Value.slice.injEq] at he2
        obtain ⟨rfl, -, -⟩ := he2
        obtain ⟨_, _, he3, _, _, hr3⟩ := HT5.out.ext xb
        simp only [Value.slice.injEq] at he3
        obtain ⟨rfl, -, -⟩ := he3
        have HR := Lib.hid hr2
        have HT := Lib.hid hr3
        clear xb p0 p1 hr2 hr3 hM0 hw1 hw2 hw3
        go_loopw [132] (fun iv wr => ∃ j : Nat, j ≤ M ∧ iv = .int .i64 (j : Int) ∧ Ext Wb wr) (fun iv _ => M - (intOf iv).toNat)
        case atStart => exact ⟨0, by omega, rfl, Ext.refl _⟩
        case round =>
          obtain ⟨j, hj, rfl, hx⟩ := hrel
          have HX := Lib.hid hx
          by_cases hlt : j < M
          · have hjj : (j : Int) < (M : Int) := by omega
            obtain ⟨bs, os, rfl, -, q0, q1⟩ := shadeK_atF HR.out (j := j) (by rw [List.length_replicate]; exact hlt)
            obtain ⟨bt, ot, rfl, -, t0⟩ := bools_at HT.out j (by rw [List.length_replicate]; exact hlt)
            rw [List.getElem_replicate] at q0 q1 t0
            replace q0 := hx.cell_some q0
            replace q1 := hx.cell_some q1
            replace t0 := hx.cell_some t0
            have p0 := hx.cell_some HP.out.1
            have p1 := hx.cell_some HP.out.2
            have l1 := cell_lt q0
            have l2 := cell_lt t0
            have l4 := cell_lt p0
            clear hx
            go_wp2_with fail
            refine wp_region_bext (by kernel_rfl) (by kernel_rfl) ?_
            repeat (any_goals (go_big_quiet_step (fail)))
            all_goals refine wpQuiet_nil ?_
            all_goals rintro _ ⟨δ, rfl⟩
            have HX7 := Lib.hid (HX.out.trans (show Ext wr δ.wd from ⟨δ, rfl⟩))
            generalize δ.wd = W7 at *
            go_wp2_with fail
            go_roundw
            case rel => exact ⟨j + 1, by omega, by go_num, HX7.out⟩
            case measure => simp [intOf]; omega
          · obtain rfl : j = M := by omega
            clear hx
            go_wp2_with fail
            go_ret
            exact ⟨rfl, HXF.out.trans (HXb.out.trans HX.out)⟩
end Go.Proofs.Ytlljhimaopnbfaa
