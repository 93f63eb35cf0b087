/- The reference's Flash. Conditions: the slices read as lists. -/
import Derived.Test.YtlljhimaopnbfaaLFlash
import Derived.Test.YtlljhimaopnbfaaLRm
namespace Go.Proofs.Ytlljhimaopnbfaa
open Go.RowKit Go.Shelf

attribute [local go_sem] Oper.semAt_some

theorem shadeK_at {w : World} {A : Option Addr} {xs : List (Int × Int)} (h : shadeK.Row w A xs) {j : Nat} (hj : j < xs.length) : ∃ b o, A = some ⟨b, o, none⟩ ∧ b < w.heap.size ∧ w.cell? ⟨b, o + j * 2, none⟩ = some (.int .i64 xs[j].1) ∧ w.cell? ⟨b, o + j * 2 + 1, none⟩ = some (.int .i64 xs[j].2) := by
  obtain ⟨b, o, rfl, hb, hc⟩ := h j hj
  exact ⟨b, o, rfl, hb, hc 0 _ rfl, hc 1 _ rfl⟩

theorem own_head {α : Type} {K : EK α} {B : Nat} {w : World} {v : Value} {xs : List α} {N : Nat} (h : K.Own B w v xs) (hl : xs.length = N) (h1 : 1 ≤ N) : ∃ g c, v = .slice (some ⟨g, 0, none⟩) N c ∧ B ≤ g ∧ g < w.heap.size := by
  obtain ⟨g, c, rfl, hB, hg, _⟩ := h.slot (j := 0) (by omega)
  exact ⟨g, c, by rw [hl], hB, hg⟩

set_option maxRecDepth 100000 in
set_option maxHeartbeats 8000000 in
theorem refFlash_bad (W H P : Int) (hv : Value) (hs : List Int) (lv : Value) (ls : List (Int × Int × Int)) (w : World) (hI : intK.Is w hv hs) (hL : lightK.Is w lv ls) (hbad : (surfB W H P hs && inB 1 8 ls.length && ls.all lightB') = false) :
    Calls Try.prog 45 #[surfV W H P hv, lv] w (RetEE intK w (flashL W H P hs ls) (flashE W H P hs ls)) := by
  have HR := Lib.hid (show flashL W H P hs ls = [] by rw [flashL, hbad]; rfl)
  have HSB := Lib.hid fun (W0 : World) (x : Ext w W0) => refSurface_any W H P hv hs W0 (hI.ext x)
  have hI' := hI
  obtain ⟨A, L, c, rfl, _⟩ := hI'.open_
  obtain ⟨A', k, c', rfl, hk, hk0, hr, _⟩ := hL.open_
  have HLR := Lib.hid hr
  clear hI' hI hL hr
  cases hb : surfB W H P hs
  · have HE := Lib.hid (show flashE W H P hs ls = 60 by simp [flashE, hb])
    rw [hb] at HSB
    clear hb hbad
    go_enter Try.func45, Try.ntmps45
    go_wp2_with fail
    refine (HSB.out _ (by (repeat' (first | with_reducible exact Ext.refl _ | with_reducible apply Ext.alloc | with_reducible apply Ext.drew | with_reducible apply Ext.drewN | with_reducible refine Ext.setCell ?_ ?_ _ | with_reducible apply Ext.step | with_reducible assumption | with_reducible exact Nat.le_refl _ | (simp; done) | (simp; omega))))).mono ?_
    rintro e W1 ⟨rfl, x1⟩
    have HX1 := Lib.hid (show Ext w W1 from Ext.trans (by (repeat' (first | with_reducible exact Ext.refl _ | with_reducible apply Ext.alloc | with_reducible apply Ext.drew | with_reducible apply Ext.drewN | with_reducible refine Ext.setCell ?_ ?_ _ | with_reducible apply Ext.step | with_reducible assumption | with_reducible exact Nat.le_refl _ | (simp; done) | (simp; omega)))) x1)
    clear x1
    go_wp2_with fail
    go_ret2
    exact ⟨_, by rw [HE.out]; rfl, by rw [HR.out]; exact EK.Own.nil _ _, HX1.out⟩
  cases hi : inB 1 8 (ls.length : Int)
  · have HE := Lib.hid (show flashE W H P hs ls = 4 by simp [flashE, hb, hi])
    rw [hb] at HSB
    have hik : inB 1 8 (k : Int) = false := by rw [← hk]; exact hi
    have HWI := Lib.hid fun Wd : World => (show Calls Try.prog 67 #[.int .i64 (k : Int), .int .i64 1, .int .i64 8] Wd fun e w' => e = .returned (.bool false) ∧ Wd = w' by
      have := within_any (k : Int) 1 8 Wd
      rwa [hik] at this)
    clear hb hi hk hbad hik
    go_enter Try.func45, Try.ntmps45
    go_wp2_with fail
    refine (HSB.out _ (by (repeat' (first | with_reducible exact Ext.refl _ | with_reducible apply Ext.alloc | with_reducible apply Ext.drew | with_reducible apply Ext.drewN | with_reducible refine Ext.setCell ?_ ?_ _ | with_reducible apply Ext.step | with_reducible assumption | with_reducible exact Nat.le_refl _ | (simp; done) | (simp; omega))))).mono ?_
    rintro e W1 ⟨rfl, x1⟩
    have HX1 := Lib.hid (show Ext w W1 from Ext.trans (by (repeat' (first | with_reducible exact Ext.refl _ | with_reducible apply Ext.alloc | with_reducible apply Ext.drew | with_reducible apply Ext.drewN | with_reducible refine Ext.setCell ?_ ?_ _ | with_reducible apply Ext.step | with_reducible assumption | with_reducible exact Nat.le_refl _ | (simp; done) | (simp; omega)))) x1)
    clear x1
    go_wp2_with fail
    refine (HWI.out _).mono ?_
    rintro e _ ⟨rfl, rfl⟩
    go_wp2_with fail
    go_ret2
    exact ⟨_, by rw [HE.out]; rfl, by rw [HR.out]; exact EK.Own.nil _ _, HX1.out⟩
  have hl : ls.all lightB' = false := by simpa [hb, hi] using hbad
  have HE := Lib.hid (show flashE W H P hs ls = 61 by simp [flashE, hb, hi, hl])
  rw [hb] at HSB
  have hik : inB 1 8 (k : Int) = true := by rw [← hk]; exact hi
  have HWI := Lib.hid fun Wd : World => (show Calls Try.prog 67 #[.int .i64 (k : Int), .int .i64 1, .int .i64 8] Wd fun e w' => e = .returned (.bool true) ∧ Wd = w' by
    have := within_any (k : Int) 1 8 Wd
    rwa [hik] at this)
  have HK := Lib.hid (show ls.length = k from hk)
  have HNL := Lib.hid hl
  have HNE : ∀ q : Nat, Hid (∀ (p : Nat) (hp : p < ls.length), p < q → lightB' ls[p] = true) → q < k := fun q hq => by
    rcases Nat.lt_or_ge q k with h | h
    · exact h
    · exfalso
      have : ls.all lightB' = true := by
        rw [List.all_eq_true]
        intro x hx
        obtain ⟨p, hp, rfl⟩ := List.getElem_of_mem hx
        exact hq.out p hp (by rw [HK.out] at hp; omega)
      rw [HNL.out] at this
      cases this
  have HNE' := Lib.hid HNE
  clear hb hi hk hl hbad HNE hik
  go_enter Try.func45, Try.ntmps45
  go_wp2_with fail
  refine (HSB.out _ (by (repeat' (first | with_reducible exact Ext.refl _ | with_reducible apply Ext.alloc | with_reducible apply Ext.drew | with_reducible apply Ext.drewN | with_reducible refine Ext.setCell ?_ ?_ _ | with_reducible apply Ext.step | with_reducible assumption | with_reducible exact Nat.le_refl _ | (simp; done) | (simp; omega))))).mono ?_
  rintro e W1 ⟨rfl, x1⟩
  have HX1 := Lib.hid (show Ext w W1 from Ext.trans (by (repeat' (first | with_reducible exact Ext.refl _ | with_reducible apply Ext.alloc | with_reducible apply Ext.drew | with_reducible apply Ext.drewN | with_reducible refine Ext.setCell ?_ ?_ _ | with_reducible apply Ext.step | with_reducible assumption | with_reducible exact Nat.le_refl _ | (simp; done) | (simp; omega)))) x1)
  clear x1
  go_wp2_with fail
  refine (HWI.out _).mono ?_
  rintro e _ ⟨rfl, rfl⟩
  go_wp2_with fail
  go_loopw [6] (fun iv wr => ∃ j : Nat, j ≤ k ∧ iv = .int .i64 j ∧ Hid (∀ (p : Nat) (hp : p < ls.length), p < j → lightB' ls[p] = true) ∧ Ext W1 wr) (fun iv _ => k - (intOf iv).toNat)
  case atStart => exact ⟨0, by omega, rfl, (fun q hq h => by omega), Ext.refl _⟩
  case round =>
    obtain ⟨j, hj, rfl, Ha, hx⟩ := hrel
    have hlt := HNE'.out j Ha
    have hjl : j < ls.length := by rw [HK.out]; exact hlt
    obtain ⟨b, o, rfl, hb, h0, h1, h2⟩ := lightK_at HLR.out j hjl
    have HXR := Lib.hid (HX1.out.trans hx)
    have g0 := HXR.out.cell_some h0
    have g1 := HXR.out.cell_some h1
    have g2 := HXR.out.cell_some h2
    have hbr := HXR.out.lt hb
    have HJ := Lib.hid (show lightB' ls[j] = lightB ls[j].1 ls[j].2.1 ls[j].2.2 from rfl)
    have HCL := Lib.hid (refLight_any ls[j].1 ls[j].2.1 ls[j].2.2)
    have HXW := Lib.hid hx
    generalize hl1 : ls[j].1 = lx at *
    generalize hl2 : ls[j].2.1 = ly at *
    generalize hl3 : ls[j].2.2 = lz at *
    clear h0 h1 h2 hx hl1 hl2 hl3
    cases hv : lightB lx ly lz
    · rw [hv] at HCL
      clear hv
      go_wp2_with fail
      refine (HCL.out _).mono ?_
      rintro e W2 ⟨rfl, x2⟩
      have HX2 := Lib.hid (show Ext w W2 from HXR.out.trans (Ext.trans (by (repeat' (first | with_reducible exact Ext.refl _ | with_reducible apply Ext.alloc | with_reducible apply Ext.drew | with_reducible apply Ext.drewN | with_reducible refine Ext.setCell ?_ ?_ _ | with_reducible apply Ext.step | with_reducible assumption | with_reducible exact Nat.le_refl _ | (simp; done) | (simp; omega)))) x2))
      clear x2
      go_wp2_with fail
      go_ret2
      exact ⟨_, by rw [HE.out]; rfl, by rw [HR.out]; exact EK.Own.nil _ _, HX2.out⟩
    · have HA2 := Lib.hid (show ∀ (q : Nat) (hq : q < ls.length), q < j + 1 → lightB' ls[q] = true from fun q hq h => by
        rcases (by omega : q < j ∨ q = j) with h | rfl
        · exact Ha.out q hq h
        · rw [HJ.out, hv])
      rw [hv] at HCL
      clear hv
      go_wp2_with fail
      refine (HCL.out _).mono ?_
      rintro e W2 ⟨rfl, x2⟩
      have HX2 := Lib.hid (show Ext W1 W2 from HXW.out.trans (Ext.trans (by (repeat' (first | with_reducible exact Ext.refl _ | with_reducible apply Ext.alloc | with_reducible apply Ext.drew | with_reducible apply Ext.drewN | with_reducible refine Ext.setCell ?_ ?_ _ | with_reducible apply Ext.step | with_reducible assumption | with_reducible exact Nat.le_refl _ | (simp; done) | (simp; omega)))) x2))
      clear x2
      go_wp2_with fail
      go_roundw
      case rel => exact ⟨j + 1, by omega, by go_num, HA2, HX2.out⟩
      case measure => simp [intOf]; omega

set_option maxRecDepth 100000 in
set_option maxHeartbeats 8000000 in
theorem refFlash_good (n m : Nat) (P : Int) (hv : Value) (hs : List Int) (lv : Value) (ls : List (Int × Int × Int)) (w : World) (hS : SurfOk w hv n m P hs) (hL : lightK.Is w lv ls) (hk1 : 1 ≤ ls.length) (hk8 : ls.length ≤ 8) (hl : ls.all lightB' = true) :
    Calls Try.prog 45 #[surfV ((n : Int) + 1) ((m : Int) + 1) P hv, lv] w (RetEE intK w (bestL (picsL n m P hs ls) (m * n)) 0) := by
  have HS := Lib.hid hS
  have HSB := Lib.hid fun (W0 : World) (x : Ext w W0) => refSurface_any ((n : Int) + 1) ((m : Int) + 1) P hv hs W0 (hS.ext x).is
  rw [hS.ok] at HSB
  have hS' := hS
  obtain ⟨A, L, c, rfl, _⟩ := hS'.is.open_
  obtain ⟨A', k, c', rfl, hk, hk0, hr, _⟩ := hL.open_
  have HLR := Lib.hid hr
  obtain ⟨⟨hn1, hn2⟩, ⟨hm1, hm2⟩, hp1, hp2⟩ := hS.nm
  have HK := Lib.hid (show ls.length = k from hk)
  have HB := Lib.hid (show ∀ q (h : q < ls.length), lightB ls[q].1 ls[q].2.1 ls[q].2.2 = true from fun q h => List.all_eq_true.1 hl _ (List.getElem_mem h))
  have HWI := Lib.hid fun Wd : World => (show Calls Try.prog 67 #[.int .i64 (k : Int), .int .i64 1, .int .i64 8] Wd fun e w' => e = .returned (.bool true) ∧ Wd = w' by
    have := within_any (k : Int) 1 8 Wd
    rwa [show inB 1 8 (k : Int) = true from inB_iff.2 ⟨by omega, by omega⟩] at this)
  have hK1 : 1 ≤ k := by omega
  have hK8 : k ≤ 8 := by omega
  obtain ⟨N, hN⟩ : ∃ N, N = m * n := ⟨_, rfl⟩
  have hN1 : 1 ≤ N := by rw [hN]; exact Nat.mul_le_mul hm1 hn1
  have hN2 : N ≤ 529 := by rw [hN]; exact Nat.mul_le_mul hm2 hn2
  rw [← hN]
  have HSE := Lib.hid fun (W0 : World) (x : Ext w W0) (q : Nat) (h : q < ls.length) (h' : q < (picsL n m P hs ls).length) => (show Calls Try.prog 82 #[surfV ((n : Int) + 1) ((m : Int) + 1) P (.slice A L c), lightV ls[q].1 ls[q].2.1 ls[q].2.2] W0 (fun e w' => ∃ v, e = .returned v ∧ shadeK.Own W0.heap.size w' v ((picsL n m P hs ls)[q]'h') ∧ Ext W0 w') by
    obtain ⟨⟨b1, b2⟩, ⟨b3, b4⟩, b5, b6⟩ := lightB_iff.1 (HB.out q h)
    have := refSeen_any n m P (.slice A L c) hs ls[q].1 ls[q].2.1 ls[q].2.2 W0 (HS.out.ext x) b1 b2 b3 b4 b5 b6
    refine this.mono ?_
    rintro e w' ⟨v, h1, h2, h3⟩
    exact ⟨v, h1, by simpa [picsL] using h2, h3⟩)
  have HPL := Lib.hid (show (picsL n m P hs ls).length = k by rw [picsL_len, HK.out])
  have HPN := Lib.hid (show ∀ q (h : q < (picsL n m P hs ls).length), (picsL n m P hs ls)[q].length = N from fun q h => by rw [picsL_each, hN])
  generalize picsL n m P hs ls = pp at *
  clear hS hS' hL hr hk hk1 hk8 hl hN
  refine (callsIn_wide (n := 3)).1 ?_
  refine callsIn_of_wp Try.func45 rfl trivial ?_ rfl
  simp only [Try.ntmps45, List.size_toArray, List.length_cons, List.length_nil, Nat.reduceAdd, Nat.reduceSub, Array.replicate_succ, Array.replicate_zero, List.push_toArray, List.append_toArray, List.nil_append, List.cons_append]
  have F1 : Fence.wide.fn 74 := trivial
  have F2 : Fence.wide.fn 67 := trivial
  have F3 : Fence.wide.fn 68 := trivial
  have F4 : Fence.wide.fn 82 := trivial
  have F5 : Fence.wide.fn 24 := trivial
  gi_wp2
  refine (callsIn_wide.2 (HSB.out _ (by (repeat' (first | with_reducible exact Ext.refl _ | with_reducible apply Ext.alloc | with_reducible apply Ext.drew | with_reducible apply Ext.drewN | with_reducible refine Ext.setCell ?_ ?_ _ | with_reducible apply Ext.step | with_reducible assumption | with_reducible exact Nat.le_refl _ | (simp; done) | (simp; omega)))))).mono ?_
  rintro e W1 ⟨rfl, x1⟩
  have z0 : W1.cell? ⟨w.heap.size, 0, none⟩ = some (.int .i64 ((n : Int) + 1)) := x1.cell_some (by go_cell)
  have z1 : W1.cell? ⟨w.heap.size, 1, none⟩ = some (.int .i64 ((m : Int) + 1)) := x1.cell_some (by go_cell)
  have z2 : W1.cell? ⟨w.heap.size, 2, none⟩ = some (.int .i64 P) := x1.cell_some (by go_cell)
  have z3 : W1.cell? ⟨w.heap.size, 3, none⟩ = some (.slice A L c) := x1.cell_some (by go_cell)
  have hz := cell_lt z0
  have HX1 := Lib.hid (show Ext w W1 from Ext.trans (by (repeat' (first | with_reducible exact Ext.refl _ | with_reducible apply Ext.alloc | with_reducible apply Ext.drew | with_reducible apply Ext.drewN | with_reducible refine Ext.setCell ?_ ?_ _ | with_reducible apply Ext.step | with_reducible assumption | with_reducible exact Nat.le_refl _ | (simp; done) | (simp; omega)))) x1)
  clear x1
  gi_wp2
  refine (callsIn_wide.2 (HWI.out _)).mono ?_
  rintro e _ ⟨rfl, rfl⟩
  gi_wp2
  gi_loopw [6] (fun iv wr => ∃ j : Nat, j ≤ k ∧ iv = .int .i64 j ∧ Ext W1 wr) (fun iv _ => k - (intOf iv).toNat)
  case atStart => exact ⟨0, by omega, rfl, Ext.refl _⟩
  case round =>
    obtain ⟨j, hj, rfl, hx⟩ := hrel
    by_cases hlt : j < k
    · have hjl : j < ls.length := by rw [HK.out]; exact hlt
      obtain ⟨b, o, rfl, hb, h0, h1, h2⟩ := lightK_at HLR.out j hjl
      have HXW := Lib.hid hx
      have g0 := (HX1.out.trans hx).cell_some h0
      have g1 := (HX1.out.trans hx).cell_some h1
      have g2 := (HX1.out.trans hx).cell_some h2
      have hbr := (HX1.out.trans hx).lt hb
      have HCL := Lib.hid (refLight_any ls[j].1 ls[j].2.1 ls[j].2.2)
      rw [HB.out j hjl] at HCL
      generalize ls[j].1 = lx at *
      generalize ls[j].2.1 = ly at *
      generalize ls[j].2.2 = lz at *
      clear h0 h1 h2 hx
      gi_wp2
      refine (callsIn_wide.2 (HCL.out _)).mono ?_
      rintro e W2 ⟨rfl, x2⟩
      have HX2 := Lib.hid (show Ext W1 W2 from HXW.out.trans (Ext.trans (by (repeat' (first | with_reducible exact Ext.refl _ | with_reducible apply Ext.alloc | with_reducible apply Ext.drew | with_reducible apply Ext.drewN | with_reducible refine Ext.setCell ?_ ?_ _ | with_reducible apply Ext.step | with_reducible assumption | with_reducible exact Nat.le_refl _ | (simp; done) | (simp; omega)))) x2))
      clear x2
      gi_wp2
      go_roundw
      case rel => exact ⟨j + 1, by omega, by go_num, HX2.out⟩
      case measure => simp [intOf]; omega
    · obtain rfl : j = k := by omega
      have h0l : 0 < ls.length := by rw [HK.out]; exact hK1
      have hj0 : 0 < j := hK1
      obtain ⟨b, o, rfl, hb, h0, h1, h2⟩ := lightK_at HLR.out 0 (by rw [HK.out]; exact hK1)
      simp only [Nat.zero_mul, Nat.add_zero] at h0 h1 h2
      have HXR := Lib.hid (HX1.out.trans hx)
      have g0 := HXR.out.cell_some h0
      have g1 := HXR.out.cell_some h1
      have g2 := HXR.out.cell_some h2
      have hbr := HXR.out.lt hb
      have y0 := hx.cell_some z0
      have y1 := hx.cell_some z1
      have y2 := hx.cell_some z2
      have y3 := hx.cell_some z3
      have hy := cell_lt y0
      have HX := Lib.hid hx
      have HYY := Lib.hid (show ∀ W, Ext W1 W → W.cell? ⟨w.heap.size, 0, none⟩ = some (.int .i64 ((n : Int) + 1)) ∧ W.cell? ⟨w.heap.size, 1, none⟩ = some (.int .i64 ((m : Int) + 1)) ∧ W.cell? ⟨w.heap.size, 2, none⟩ = some (.int .i64 P) ∧ W.cell? ⟨w.heap.size, 3, none⟩ = some (.slice A L c) from fun W x =>
        ⟨x.cell_some z0, x.cell_some z1, x.cell_some z2, x.cell_some z3⟩)
      have HS0 := Lib.hid fun (W0 : World) (x : Ext wr W0) => HSE.out W0 (HXR.out.trans x) 0 (by rw [HK.out]; exact hK1) (by rw [HPL.out]; exact hK1)
      generalize ls[0].1 = lx at *
      generalize ls[0].2.1 = ly at *
      generalize ls[0].2.2 = lz at *
      clear h0 h1 h2 hx z0 z1 z2 z3 hz
      have q0 := But.cells (D := []) y0 (by simp)
      have q1 := But.cells (D := []) y1 (by simp)
      have q2 := But.cells (D := []) y2 (by simp)
      have q3 := But.cells (D := []) y3 (by simp)
      have r0 := But.cells (D := []) g0 (by simp)
      have r1 := But.cells (D := []) g1 (by simp)
      have r2 := But.cells (D := []) g2 (by simp)
      gi_wp2
      refine wpIn_region_steps [] 5 [(0, true), (1, true), (2, true), (3, true), (4, false)] (by kernel_rfl) (by kernel_rfl) ?_
      repeat (refine wpSD_q (by rfl) (fun _ _ _ => trivial) (fun K hK => ?_); go_simp; refine hK _ ?_; clear hK K)
      refine wpSD_m (by rfl) (fun _ _ _ => trivial) (fun δ K hK => ?_)
      go_simp
      refine (callsIn_wide.2 (HS0.out δ.wd ⟨δ, rfl⟩)).mono ?_
      rintro e Wb ⟨bv, rfl, ob, xb⟩
      have Xd : Ext wr Wb := Ext.trans ⟨δ, rfl⟩ xb
      obtain ⟨gb, cb, rfl, hgb1, hgb2⟩ := own_head ob (HPN.out _ _) hN1
      refine ⟨_, rfl, xb.but, hK _ _ ?_⟩
      clear hK K
      refine wpSD_nil ?_
      intro Wc xc
      have HB0 := Lib.hid (show shadeK.Own W1.heap.size Wc (.slice (some ⟨gb, 0, none⟩) N cb) (refS pp N 1 0) by
        rw [refS_one (by rw [HPL.out]; exact hK1) (HPN.out _ _)]
        exact (ob.mono (Nat.le_trans HX.out.bel.size (Ext.bel (show Ext wr δ.wd from ⟨δ, rfl⟩)).size)).ext xc)
      have HXC := Lib.hid (HX.out.trans (Xd.trans xc))
      have HLR2 := Lib.hid (show ∀ W, Ext W1 W → ∀ q (h : q < ls.length), W.cell? ⟨b, o + q * 3, none⟩ = some (.int .i64 ls[q].1) ∧ W.cell? ⟨b, o + q * 3 + 1, none⟩ = some (.int .i64 ls[q].2.1) ∧ W.cell? ⟨b, o + q * 3 + 2, none⟩ = some (.int .i64 ls[q].2.2) from fun W x q h => by
        obtain ⟨b', o', he, _, h0, h1, h2⟩ := lightK_at HLR.out q h
        cases he
        exact ⟨(HX1.out.trans x).cell_some h0, (HX1.out.trans x).cell_some h1, (HX1.out.trans x).cell_some h2⟩)
      clear q0 q1 q2 q3 r0 r1 r2 y0 y1 y2 y3 g0 g1 g2 hbr hy ob xb Xd xc
      simp only [List.drop_succ_cons, List.drop_zero]
      gi_wp2
      obtain ⟨wo, rfl⟩ : ∃ wo : World, wo = wr := ⟨_, rfl⟩
      gi_loopw [9, 7] (fun iv ov wq => ∃ i : Nat, i ≤ N ∧ iv = .int .i64 i ∧ intK.Own Wc.heap.size wq ov (List.replicate i 0) ∧ Ext Wc wq) (fun iv _ _ => N - (intOf iv).toNat)
      case atStart => exact ⟨0, by omega, rfl, EK.Own.nil _ _, Ext.refl _⟩
      case round =>
        obtain ⟨i, hi, rfl, ho, hx⟩ := hrel
        by_cases hlt : i < N
        · have HO := Lib.hid ho
          have HXQ := Lib.hid hx
          obtain ⟨Av, kv, cv, rfl⟩ := ho.shape
          have hsz : Wc.heap.size ≤ wr.heap.size := hx.bel.size
          clear ho hx
          gi_wp2_with (gi_at_builtin; refine EK.app_in (K := intK) (B := Wc.heap.size) rfl (.tmp 43) (.tmp 44) rfl wr.heap.size 1 (0 : Int) rfl rfl (fun i u hu => cell_new hu) (HO.out.ext ((Ext.refl _).alloc _)) (Nat.le_trans hsz ((Ext.refl wr).alloc _).bel.size) (by simp; omega) ?_; intro v' w3 o3 b3 _; obtain ⟨Av3, kv3, cv3, rfl⟩ := o3.shape; have HO3 := Lib.hid o3; have HB3 := Lib.hid b3; clear o3 b3)
          go_roundw
          case rel => exact ⟨i + 1, by omega, by go_num, by rw [List.replicate_succ']; exact HO3.out, (HXQ.out.alloc _).below HB3.out (Nat.le_refl _)⟩
          case measure => simp [intOf]; omega
        · obtain rfl : i = N := by omega
          have HO1 := Lib.hid (show intK.Own W1.heap.size wr _ (refL pp i 1 0) by rw [refL_one]; exact ho.mono HXC.out.bel.size)
          have HB1 := Lib.hid (HB0.out.ext hx)
          have HXD := Lib.hid hx
          obtain ⟨go, co, rfl, hgo1, hgo2⟩ := own_head HO1.out refL_len hN1
          have hgb3 : gb < wr.heap.size := by
            obtain ⟨_, _, he, _, h⟩ := own_head HB1.out refS_len hN1
            cases he
            exact h
          have HNE := Lib.hid (show gb ≠ go from fun e => by
            have := own_ne HO1.out HB1.out (by decide)
            simp only [Value.ownBlock] at this
            rcases this with h | h
            · cases h
            · exact h (by rw [e]))
          clear ho hx hgb1 hgb2 hgo1 HS0
          gi_wp2
          obtain ⟨wd, rfl⟩ : ∃ wd : World, wd = wr := ⟨_, rfl⟩
          gi_loopw [10] (fun iv wq => ∃ q : Nat, 1 ≤ q ∧ q ≤ j ∧ iv = .int .i64 q ∧ intK.Own W1.heap.size wq (.slice (some ⟨go, 0, none⟩) i co) (refL pp i q 0) ∧ shadeK.Own W1.heap.size wq (.slice (some ⟨gb, 0, none⟩) i cb) (refS pp i q 0) ∧ wd.heap.size ≤ wq.heap.size ∧ Ext W1 wq) (fun iv _ => j - (intOf iv).toNat)
          case atStart => exact ⟨1, by omega, by omega, rfl, HO1.out, HB1.out, Nat.le_refl _, HXC.out.trans HXD.out⟩
          case round =>
            obtain ⟨q, hq0, hq, rfl, ho, hb, hsz, hx⟩ := hrel
            have HOQ := Lib.hid ho
            have HBQ := Lib.hid hb
            have HXQ := Lib.hid hx
            by_cases hlt : q < j
            · have hql : q < ls.length := by rw [HK.out]; exact hlt
              have hqp : q < pp.length := by rw [HPL.out]; exact hlt
              obtain ⟨y0, y1, y2, y3⟩ := HYY.out wr hx
              obtain ⟨g0, g1, g2⟩ := HLR2.out wr hx q hql
              have hy := cell_lt y0
              have HS1 := Lib.hid fun (W0 : World) (x : Ext wr W0) => HSE.out W0 (HX1.out.trans (hx.trans x)) q hql hqp
              obtain ⟨pq, hpq⟩ : ∃ pq, pq = pp[q] := ⟨_, rfl⟩
              have hpl : pq.length = i := by rw [hpq]; exact HPN.out q hqp
              have HPQ := Lib.hid (show ∀ a (h : a < pq.length), pq[a] = shOf pp a q from fun a h => by
                subst hpq
                exact (shOf_at hqp h).symm)
              rw [← hpq] at HS1
              generalize ls[q].1 = lx at *
              generalize ls[q].2.1 = ly at *
              generalize ls[q].2.2 = lz at *
              have q0 := But.cells (D := []) y0 (by simp)
              have q1 := But.cells (D := []) y1 (by simp)
              have q2 := But.cells (D := []) y2 (by simp)
              have q3 := But.cells (D := []) y3 (by simp)
              have r0 := But.cells (D := []) g0 (by simp)
              have r1 := But.cells (D := []) g1 (by simp)
              have r2 := But.cells (D := []) g2 (by simp)
              clear ho hb hx hqp hpq hql
              gi_wp2
              refine wpIn_region_steps [] 6 [(0, true), (1, true), (2, true), (3, true), (4, true), (5, false)] (by kernel_rfl) (by kernel_rfl) ?_
              repeat (refine wpSD_q (by rfl) (fun _ _ _ => trivial) (fun K hK => ?_); go_simp; refine hK _ ?_; clear hK K)
              refine wpSD_m (by rfl) (fun _ _ _ => trivial) (fun δ K hK => ?_)
              go_simp
              refine (callsIn_wide.2 (HS1.out δ.wd ⟨δ, rfl⟩)).mono ?_
              rintro e Wb ⟨av, rfl, oa, xb⟩
              have Xd : Ext wr Wb := Ext.trans ⟨δ, rfl⟩ xb
              obtain ⟨ga, ca, rfl, hga1, hga2⟩ := own_head oa hpl hN1
              refine ⟨_, rfl, xb.but, hK _ _ ?_⟩
              clear hK K
              refine wpSD_nil ?_
              intro We xe
              have HA0 := Lib.hid (oa.ext xe)
              have hga : wd.heap.size ≤ ga := Nat.le_trans hsz (Nat.le_trans (Ext.bel (show Ext wr δ.wd from ⟨δ, rfl⟩)).size hga1)
              have HGA := Lib.hid (show ga ≠ go ∧ ga ≠ gb from ⟨fun e => by omega, fun e => by omega⟩)
              have HOE := Lib.hid (HOQ.out.ext (Xd.trans xe))
              have HBE := Lib.hid (HBQ.out.ext (Xd.trans xe))
              have HXE := Lib.hid (HXQ.out.trans (Xd.trans xe))
              have hsE : wd.heap.size ≤ We.heap.size := Nat.le_trans hsz (Xd.trans xe).bel.size
              clear q0 q1 q2 q3 r0 r1 r2 y0 y1 y2 y3 g0 g1 g2 hy oa xb Xd xe hga hga1 hga2
              simp only [List.drop_succ_cons, List.drop_zero]
              gi_wp2
              obtain ⟨we, rfl⟩ : ∃ we : World, we = wr := ⟨_, rfl⟩
              gi_loopw [12] (fun iv wq => ∃ a : Nat, a ≤ i ∧ iv = .int .i64 a ∧ intK.Own W1.heap.size wq (.slice (some ⟨go, 0, none⟩) i co) (refL pp i q a) ∧ shadeK.Own W1.heap.size wq (.slice (some ⟨gb, 0, none⟩) i cb) (refS pp i q a) ∧ shadeK.Own 0 wq (.slice (some ⟨ga, 0, none⟩) i ca) pq ∧ wd.heap.size ≤ wq.heap.size ∧ Ext W1 wq) (fun iv _ => i - (intOf iv).toNat)
              case atStart => exact ⟨0, by omega, rfl, HOE.out, HBE.out, HA0.out.mono (Nat.zero_le _), hsE, HXE.out⟩
              case round =>
                obtain ⟨a, ha, rfl, ho, hb, hav, hsz, hx⟩ := hrel
                have HOQ := Lib.hid ho
                have HBQ := Lib.hid hb
                have HAQ := Lib.hid hav
                have HXQ := Lib.hid hx
                by_cases hal : a < i
                · obtain ⟨bt, hbt⟩ : ∃ bt, bt = bestTo (shOf pp a) q := ⟨_, rfl⟩
                  have HOL : (refL pp i q a).length = i := refL_len
                  have HSL : (refS pp i q a).length = i := refS_len
                  have hpl2 : pq.length = i := hpl
                  obtain ⟨_, _, he1, _, _, hgc1, hgf1⟩ := ho.slot (j := a) (by rw [HOL]; exact hal)
                  rw [HOL] at he1; cases he1
                  obtain ⟨_, _, he2, _, _, hgc2, hgf2⟩ := hb.slot (j := a) (by rw [HSL]; exact hal)
                  rw [HSL] at he2; cases he2
                  obtain ⟨_, _, he3, _, _, hgc3, _⟩ := hav.slot (j := a) (by rw [hpl2]; exact hal)
                  rw [hpl2] at he3; cases he3
                  have g0 := hgc1 0 _ rfl
                  have g1 := hgc2 0 _ rfl
                  have g2 := hgc2 1 _ rfl
                  have g3 := hgc3 0 _ rfl
                  have g4 := hgc3 1 _ rfl
                  rw [HPQ.out] at g3 g4
                  rw [refS_at, ← hbt] at g1 g2
                  simp only [intK, shadeK, Nat.mul_one, Nat.add_zero] at g0 g1 g2 g3 g4
                  have f0 := hgf1 a
                  have f1 := hgf2 (a * 2)
                  have f2 := hgf2 (a * 2 + 1)
                  have HYES := Lib.hid fun h => best_yes (sh := shOf pp a) (n := q) h
                  have HNO := Lib.hid fun h => best_no (sh := shOf pp a) (n := q) h
                  have HSH := Lib.hid (show shOf pp a q = ((shOf pp a q).1, (shOf pp a q).2) from rfl)
                  rw [← hbt] at HYES HNO
                  obtain ⟨cv, hcv⟩ : ∃ cv, cv = compareOf (shOf pp a q).1 (shOf pp a q).2 (shOf pp a bt).1 (shOf pp a bt).2 := ⟨_, rfl⟩
                  have HCM := Lib.hid fun Wd : World => refCompare_any (shOf pp a q).1 (shOf pp a q).2 (shOf pp a bt).1 (shOf pp a bt).2 Wd
                  rw [← hcv] at HYES HNO HCM
                  obtain ⟨a1, ha1⟩ : ∃ z, z = (shOf pp a q).1 := ⟨_, rfl⟩
                  obtain ⟨a2, ha2⟩ : ∃ z, z = (shOf pp a q).2 := ⟨_, rfl⟩
                  rw [← ha1, ← ha2] at HSH HCM
                  rw [← ha1] at g3
                  rw [← ha2] at g4
                  generalize (shOf pp a bt).1 = b1 at *
                  generalize (shOf pp a bt).2 = b2 at *
                  generalize ((refL pp i q a)[a]'_) = ov at *
                  have HBT := Lib.hid hbt
                  have r1 := But.cells (D := []) g1 (by simp)
                  have r2 := But.cells (D := []) g2 (by simp)
                  have r3 := But.cells (D := []) g3 (by simp)
                  have r4 := But.cells (D := []) g4 (by simp)
                  clear hgc1 hgc2 hgc3 hgf1 hgf2 hcv ho hb hav hx hbt HOL HSL hpl2 ha1 ha2
                  by_cases hc : 0 < cv
                  · have hd : decide (0 < cv) = true := decide_eq_true hc
                    have HST := Lib.hid (refL_set (N := i) (HYES.out hc))
                    have HSS := Lib.hid (refS_set (N := i) (HYES.out hc))
                    clear hc
                    gi_wp2
                    refine wpIn_region_steps [] 9 [(0, true), (1, true), (2, true), (3, true), (4, true), (5, true), (6, true), (7, true), (8, true)] (by kernel_rfl) (by kernel_rfl) ?_
                    repeat (refine wpSD_q (by rfl) (fun _ _ _ => trivial) (fun K hK => ?_); go_simp; refine hK _ ?_; clear hK K)
                    refine wpSD_q (by rfl) (fun _ _ _ => trivial) (fun K hK => ?_)
                    go_simp
                    refine ⟨.int .i64 cv, fun δ => callsIn_wide.2 (HCM.out δ.wd), hK _ ?_⟩
                    clear hK K
                    refine wpSD_nil ?_
                    intro Wf xf
                    have HXF := Lib.hid xf
                    have k0 := xf.cell_some g0
                    have k1 := xf.cell_some g1
                    have k2 := xf.cell_some g2
                    have k3 := xf.cell_some g3
                    have k4 := xf.cell_some g4
                    have l0 := xf.frozen g0 f0
                    have l1 := xf.frozen g1 f1
                    have l2 := xf.frozen g2 f2
                    obtain ⟨ne1, ne2⟩ := HGA.out
                    have ne3 := HNE.out
                    clear r1 r2 r3 r4 g0 g1 g2 g3 g4 f0 f1 f2 xf
                    simp only [List.drop_succ_cons, List.drop_zero]
                    gi_wp2
                    go_roundw
                    case rel =>
                      have h1 := ((((HOQ.out.ext HXF.out).put1N refL_len hal rfl (q : Int) (.int .i64 q) rfl).oth (g := gb) (o := a * 2) (u := .int .i64 a1) (.inr fun e => ne3 (by simpa [Value.ownBlock] using e.symm))).oth (g := gb) (o := a * 2 + 1) (u := .int .i64 a2) (.inr fun e => ne3 (by simpa [Value.ownBlock] using e.symm)))
                      have h2 := ((HBQ.out.ext HXF.out).oth (g := go) (o := a) (u := .int .i64 q) (.inr fun e => ne3 (by simpa [Value.ownBlock] using e))).put2N refS_len hal rfl (shOf pp a q) (.int .i64 a1) (.int .i64 a2) (by rw [HSH.out]; rfl)
                      have h3 := (((HAQ.out.ext HXF.out).oth (g := go) (o := a) (u := .int .i64 q) (.inr fun e => ne1 (by simpa [Value.ownBlock] using e))).oth (g := gb) (o := a * 2) (u := .int .i64 a1) (.inr fun e => ne2 (by simpa [Value.ownBlock] using e))).oth (g := gb) (o := a * 2 + 1) (u := .int .i64 a2) (.inr fun e => ne2 (by simpa [Value.ownBlock] using e))
                      rw [HST.out] at h1
                      rw [HSS.out] at h2
                      refine ⟨a + 1, by omega, by go_num, h1, h2, h3, by simpa using Nat.le_trans hsz HXF.out.bel.size, ?_⟩
                      have x := HXQ.out.trans HXF.out
                      have b1 := (HOQ.out.lt go rfl).1
                      have b2 := (HBQ.out.lt gb rfl).1
                      exact Ext.setCell (p := ⟨gb, a * 2 + 1, none⟩) (Ext.setCell (p := ⟨gb, a * 2, none⟩) (Ext.setCell (p := ⟨go, a, none⟩) x b1 _) b2 _) b2 _
                    case measure => simp [intOf]; omega
                  · have hd : decide (0 < cv) = false := decide_eq_false hc
                    have HST := Lib.hid (refL_stay (N := i) ((HNO.out hc).trans HBT.out))
                    have HSS := Lib.hid (refS_stay (N := i) ((HNO.out hc).trans HBT.out))
                    clear hc
                    gi_wp2
                    refine wpIn_region_steps [] 9 [(0, true), (1, true), (2, true), (3, true), (4, true), (5, true), (6, true), (7, true), (8, true)] (by kernel_rfl) (by kernel_rfl) ?_
                    repeat (refine wpSD_q (by rfl) (fun _ _ _ => trivial) (fun K hK => ?_); go_simp; refine hK _ ?_; clear hK K)
                    refine wpSD_q (by rfl) (fun _ _ _ => trivial) (fun K hK => ?_)
                    go_simp
                    refine ⟨.int .i64 cv, fun δ => callsIn_wide.2 (HCM.out δ.wd), hK _ ?_⟩
                    clear hK K
                    refine wpSD_nil ?_
                    intro Wf xf
                    have HXF := Lib.hid xf
                    clear r1 r2 r3 r4 g0 g1 g2 g3 g4 f0 f1 f2 xf
                    simp only [List.drop_succ_cons, List.drop_zero]
                    gi_wp2
                    go_roundw
                    case rel => exact ⟨a + 1, by omega, by go_num, by rw [← HST.out]; exact HOQ.out.ext HXF.out, by rw [← HSS.out]; exact HBQ.out.ext HXF.out, HAQ.out.ext HXF.out, Nat.le_trans hsz HXF.out.bel.size, HXQ.out.trans HXF.out⟩
                    case measure => simp [intOf]; omega
                · obtain rfl : a = i := by omega
                  clear ho hb hav hx
                  gi_wp2
                  go_roundw
                  case rel => exact ⟨q + 1, by omega, by omega, by go_num, by rw [← refL_next]; exact HOQ.out, by rw [← refS_next]; exact HBQ.out, hsz, HXQ.out⟩
                  case measure => simp [intOf]; omega
            · obtain rfl : q = j := by omega
              clear ho hb hx
              gi_wp2
              go_ret2
              exact ⟨_, rfl, by rw [← refL_end, HPL.out]; exact HOQ.out.mono HX1.out.bel.size, HX1.out.trans HXQ.out⟩

theorem refFlash_any (W H P : Int) (hv : Value) (hs : List Int) (lv : Value) (ls : List (Int × Int × Int)) (w : World) (hI : intK.Is w hv hs) (hL : lightK.Is w lv ls) :
    Calls Try.prog 45 #[surfV W H P hv, lv] w (RetEE intK w (flashL W H P hs ls) (flashE W H P hs ls)) := by
  cases h : surfB W H P hs && inB 1 8 ls.length && ls.all lightB'
  · exact refFlash_bad W H P hv hs lv ls w hI hL h
  · have h' := h
    simp only [Bool.and_eq_true] at h'
    obtain ⟨⟨hb, hi⟩, hl⟩ := h'
    obtain ⟨n, m, rfl, rfl, hn1, hn2, hm1, hm2⟩ := surf_nm hb
    obtain ⟨hi1, hi2⟩ := inB_iff.1 hi
    have := refFlash_good n m P hv hs lv ls w ⟨hI, hb⟩ hL (by omega) (by omega) hl
    rwa [show flashL ((n : Int) + 1) ((m : Int) + 1) P hs ls = bestL (picsL n m P hs ls) (m * n) by rw [flashL, h, nOf_add, nOf_add]; rfl, show flashE ((n : Int) + 1) ((m : Int) + 1) P hs ls = 0 by rw [flashE, hb, hi, hl]; rfl]
end Go.Proofs.Ytlljhimaopnbfaa
