/- light.Levels and the reference's Picture and Levels. Condition: the slice reads as a list. -/
import Derived.Test.YtlljhimaopnbfaaLRm
namespace Go.Proofs.Ytlljhimaopnbfaa
section
/- LLvl: light.Levels and the reference's. Condition: the slice reads as a list. -/
open Go.RowKit Go.Shelf

attribute [local go_sem] Oper.semAt_some

theorem shade_bd {tx ty p lx ly lz : Int} (ht1 : -400 ≤ tx) (ht2 : tx ≤ 400) (ht3 : -400 ≤ ty) (ht4 : ty ≤ 400) (hp1 : 1 ≤ p) (hp2 : p ≤ 100)
    (hl1 : -30 ≤ lx) (hl2 : lx ≤ 30) (hl3 : -30 ≤ ly) (hl4 : ly ≤ 30) (hl5 : 1 ≤ lz) (hl6 : lz ≤ 30) :
    (0 ≤ shadeN tx ty p lx ly lz ∧ shadeN tx ty p lx ly lz ≤ 1000000000) ∧ 1 ≤ shadeD tx ty p lx ly lz ∧ shadeD tx ty p lx ly lz ≤ 1000000000 := by
  obtain ⟨ha1, ha2⟩ := abs_mul_bd (b := tx) (B := 400) hl1 hl2 (by omega) (by omega)
  obtain ⟨hb1, hb2⟩ := abs_mul_bd (b := ty) (B := 400) hl3 hl4 (by omega) (by omega)
  obtain ⟨hc1, hc2⟩ := mul_bd (a := 2 * p) (A := 200) (by omega) (by omega) (by omega : 0 ≤ lz) hl6
  obtain ⟨hd1, hd2⟩ := sq_bd ht1 ht2
  obtain ⟨he1, he2⟩ := sq_bd ht3 ht4
  obtain ⟨hf1, hf2⟩ := mul_bd (a := 4 * p) (A := 400) (by omega) (by omega) (by omega : 0 ≤ p) hp2
  obtain ⟨hg1, hg2⟩ := sq_bd hl1 hl2
  obtain ⟨hh1, hh2⟩ := sq_bd hl3 hl4
  obtain ⟨hi1, hi2⟩ := sq_bd (a := lz) (A := 30) (by omega) hl6
  obtain ⟨hal1, hal2⟩ := sq_bd (a := alongOf tx ty p lx ly lz) (A := 30000) (by unfold alongOf; omega) (by unfold alongOf; omega)
  have hn0 : 1 ≤ 4 * p * p := by
    have := Int.mul_le_mul (show (1 : Int) ≤ 4 * p by omega) hp1 (by decide) (by omega)
    omega
  have hm0 : 1 ≤ lz * lz := by
    have := Int.mul_le_mul hl5 hl5 (by decide) (by omega)
    omega
  have hnm := mul_bd (a := tx * tx + ty * ty + 4 * p * p) (b := lx * lx + ly * ly + lz * lz) (A := 360000) (B := 2700) (by omega) (by omega) (by omega) (by omega)
  have hnm1 : 1 ≤ (tx * tx + ty * ty + 4 * p * p) * (lx * lx + ly * ly + lz * lz) := by
    have := Int.mul_le_mul (show (1 : Int) ≤ tx * tx + ty * ty + 4 * p * p by omega) (show (1 : Int) ≤ lx * lx + ly * ly + lz * lz by omega) (by decide) (by omega)
    omega
  unfold shadeN shadeD
  split
  · omega
  · have hde : denOf tx ty p lx ly lz = (tx * tx + ty * ty + 4 * p * p) * (lx * lx + ly * ly + lz * lz) := rfl
    have hg : 1 ≤ (Int.gcd (alongOf tx ty p lx ly lz * alongOf tx ty p lx ly lz) (denOf tx ty p lx ly lz) : Int) := by
      have := Int.gcd_pos_of_ne_zero_right (alongOf tx ty p lx ly lz * alongOf tx ty p lx ly lz) (show denOf tx ty p lx ly lz ≠ 0 by rw [hde]; omega)
      omega
    have hdv : (Int.gcd (alongOf tx ty p lx ly lz * alongOf tx ty p lx ly lz) (denOf tx ty p lx ly lz) : Int) ∣ denOf tx ty p lx ly lz := Int.gcd_dvd_right _ _
    rw [← hde] at hnm hnm1
    generalize (Int.gcd (alongOf tx ty p lx ly lz * alongOf tx ty p lx ly lz) (denOf tx ty p lx ly lz) : Int) = g at *
    have q1 := Int.ediv_nonneg hal1 (show 0 ≤ g by omega)
    have q2 := Int.ediv_le_self g hal1
    have q4 := Int.ediv_le_self g hnm.1
    have q5 : 1 ≤ denOf tx ty p lx ly lz / g := by
      obtain ⟨k, hk⟩ := hdv
      rw [hk, Int.mul_ediv_cancel_left _ (by omega)]
      rcases Int.lt_or_le k 1 with h | h
      · have : g * k ≤ 0 := Int.mul_nonpos_of_nonneg_of_nonpos (by omega) (by omega)
        omega
      · exact h
    omega

def levelOf (n : Int) (s : Int × Int) : Int := min (n * s.1 / s.2) (n - 1)
theorem level_is {n a b : Int} (hn : 1 ≤ n) (hb : 1 ≤ b) : levelOf n (a, b) = if a < b then n * a / b else n - 1 := by
  unfold levelOf
  simp only
  split
  · have h1 : n * a / b < n := Int.ediv_lt_of_lt_mul (by omega) (Int.mul_lt_mul_of_pos_left (by assumption) (by omega))
    omega
  · have h1 : n ≤ n * a / b := by
      rw [Int.le_ediv_iff_mul_le (by omega)]
      exact Int.mul_le_mul_of_nonneg_left (by omega) (by omega)
    omega
end
open Go.RowKit Go.Shelf

attribute [local go_sem] Oper.semAt_some

def levE (W H P : Int) (hs : List Int) (lx ly lz k : Int) : Int := if surfB W H P hs then (if lightB lx ly lz then (if inB 1 256 k then 0 else 2) else 61) else 60
def levelsL (W H P : Int) (hs : List Int) (lx ly lz k : Int) : List Int := if surfB W H P hs && lightB lx ly lz && inB 1 256 k then (seenL (nOf W) (nOf H) P hs lx ly lz).map (levelOf k) else []

theorem seen_bd {n m : Nat} {P : Int} {hs : List Int} {lx ly lz : Int} (hb : ∀ i, -100 ≤ hA hs i ∧ hA hs i ≤ 100) (hp1 : 1 ≤ P) (hp2 : P ≤ 100) (hl1 : -30 ≤ lx) (hl2 : lx ≤ 30) (hl3 : -30 ≤ ly) (hl4 : ly ≤ 30) (hl5 : 1 ≤ lz) (hl6 : lz ≤ 30) (x y : Nat) :
    (0 ≤ (seenC n m P hs lx ly lz x y).1 ∧ (seenC n m P hs lx ly lz x y).1 ≤ 1000000000) ∧ 1 ≤ (seenC n m P hs lx ly lz x y).2 ∧ (seenC n m P hs lx ly lz x y).2 ≤ 1000000000 := by
  unfold seenC
  split
  · decide
  · have h0 : -100 ≤ cor0 n hs x y ∧ cor0 n hs x y ≤ 100 := hb _
    have h1 : -100 ≤ cor1 n hs x y ∧ cor1 n hs x y ≤ 100 := hb _
    have h2 : -100 ≤ cor2 n hs x y ∧ cor2 n hs x y ≤ 100 := hb _
    have h3 : -100 ≤ cor3 n hs x y ∧ cor3 n hs x y ≤ 100 := hb _
    exact shade_bd (by unfold tiltX; omega) (by unfold tiltX; omega) (by unfold tiltY; omega) (by unfold tiltY; omega) hp1 hp2 hl1 hl2 hl3 hl4 hl5 hl6
theorem seenL_bd {n m : Nat} {P : Int} {hs : List Int} {lx ly lz : Int} (hb : ∀ i, -100 ≤ hA hs i ∧ hA hs i ≤ 100) (hp1 : 1 ≤ P) (hp2 : P ≤ 100) (hl1 : -30 ≤ lx) (hl2 : lx ≤ 30) (hl3 : -30 ≤ ly) (hl4 : ly ≤ 30) (hl5 : 1 ≤ lz) (hl6 : lz ≤ 30) (j : Nat) (hj : j < (seenL n m P hs lx ly lz).length) :
    (0 ≤ (seenL n m P hs lx ly lz)[j].1 ∧ (seenL n m P hs lx ly lz)[j].1 ≤ 1000000000) ∧ 1 ≤ (seenL n m P hs lx ly lz)[j].2 ∧ (seenL n m P hs lx ly lz)[j].2 ≤ 1000000000 := by
  simp only [seenL, List.getElem_map, List.getElem_range]
  exact seen_bd hb hp1 hp2 hl1 hl2 hl3 hl4 hl5 hl6 _ _

set_option maxRecDepth 100000 in
set_option maxHeartbeats 8000000 in
theorem Levels_any (W H P : Int) (hv : Value) (hs : List Int) (lx ly lz k : Int) (w : World) (hI : intK.Is w hv hs) :
    Calls Try.prog 39 #[surfV W H P hv, lightV lx ly lz, .int .i64 k] w (RetEE intK w (levelsL W H P hs lx ly lz k) (levE W H P hs lx ly lz k)) := by
  have HI := Lib.hid fun (W0 : World) (x : Ext w W0) => hI.ext x
  have hI' := hI
  obtain ⟨A, L, c, rfl, _⟩ := hI'.open_
  clear hI' hI
  cases hb : surfB W H P hs
  · have HE := Lib.hid (show levE W H P hs lx ly lz k = 60 by simp [levE, hb])
    have HR := Lib.hid (show levelsL W H P hs lx ly lz k = [] by simp [levelsL, hb])
    have HB := Lib.hid hb
    clear hb
    go_enter Try.func39, Try.ntmps39
    go_wp2_with fail
    refine (lit_bad W H P _ hs _ _ (HI.out _ (by (repeat' (first | with_reducible exact Ext.refl _ | with_reducible apply Ext.alloc | with_reducible apply Ext.drew | with_reducible apply Ext.drewN | with_reducible refine Ext.setCell ?_ ?_ _ | with_reducible apply Ext.step | with_reducible assumption | with_reducible exact Nat.le_refl _ | (simp; done) | (simp; omega))))) HB.out).mono ?_
    rintro e W1 ⟨rfl, x1⟩
    have HX1 := Lib.hid (show Ext w W1 from Ext.trans (by (repeat' (first | with_reducible exact Ext.refl _ | with_reducible apply Ext.alloc | with_reducible apply Ext.drew | with_reducible apply Ext.drewN | with_reducible refine Ext.setCell ?_ ?_ _ | with_reducible apply Ext.step | with_reducible assumption | with_reducible exact Nat.le_refl _ | (simp; done) | (simp; omega)))) x1)
    clear x1
    go_wp2_with fail
    go_ret2
    exact ⟨_, by rw [HE.out]; rfl, by rw [HR.out]; exact EK.Own.nil _ _, HX1.out⟩
  obtain ⟨n, m, rfl, rfl, hn1, hn2, hm1, hm2⟩ := surf_nm hb
  have hall := (surfB_iff.1 hb).2.2.2.2
  obtain ⟨_, _, ⟨hp1, hp2⟩, _⟩ := surfB_iff.1 hb
  cases hl : lightB lx ly lz
  · have HE := Lib.hid (show levE ((n : Int) + 1) ((m : Int) + 1) P hs lx ly lz k = 61 by simp [levE, hb, hl])
    have HR := Lib.hid (show levelsL ((n : Int) + 1) ((m : Int) + 1) P hs lx ly lz k = [] by simp [levelsL, hl])
    have HB := Lib.hid hb
    have HL := Lib.hid (show [(lx, ly, lz)].all lightB' = false by simp [lightB', hl])
    clear hb hl hall
    go_enter Try.func39, Try.ntmps39
    go_wp2_with fail
    refine (lit_dark n m P _ hs _ [(lx, ly, lz)] _ (HI.out _ (by (repeat' (first | with_reducible exact Ext.refl _ | with_reducible apply Ext.alloc | with_reducible apply Ext.drew | with_reducible apply Ext.drewN | with_reducible refine Ext.setCell ?_ ?_ _ | with_reducible apply Ext.step | with_reducible assumption | with_reducible exact Nat.le_refl _ | (simp; done) | (simp; omega))))) (by have := light_one (w := (w.alloc (.cells #[.int .i64 ((n : Int) + 1), .int .i64 ((m : Int) + 1), .int .i64 P, .slice A L c] 37)).alloc (.cells #[.int .i64 lx, .int .i64 ly, .int .i64 lz] 25)) lx ly lz; simpa using this) HB.out HL.out).mono ?_
    rintro e W1 ⟨rfl, x1⟩
    have HX1 := Lib.hid (show Ext w W1 from Ext.trans (by (repeat' (first | with_reducible exact Ext.refl _ | with_reducible apply Ext.alloc | with_reducible apply Ext.drew | with_reducible apply Ext.drewN | with_reducible refine Ext.setCell ?_ ?_ _ | with_reducible apply Ext.step | with_reducible assumption | with_reducible exact Nat.le_refl _ | (simp; done) | (simp; omega)))) x1)
    clear x1
    go_wp2_with fail
    go_ret2
    exact ⟨_, by rw [HE.out]; rfl, by rw [HR.out]; exact EK.Own.nil _ _, HX1.out⟩
  have HB := Lib.hid hb
  have HL := Lib.hid (show [(lx, ly, lz)].all lightB' = true by simp [lightB', hl])
  obtain ⟨⟨hl1, hl2⟩, ⟨hl3, hl4⟩, hl5, hl6⟩ := lightB_iff.1 hl
  cases hk : inB 1 256 k
  · have HE := Lib.hid (show levE ((n : Int) + 1) ((m : Int) + 1) P hs lx ly lz k = 2 by simp [levE, hb, hl, hk])
    have HR := Lib.hid (show levelsL ((n : Int) + 1) ((m : Int) + 1) P hs lx ly lz k = [] by simp [levelsL, hk])
    have HK := Lib.hid fun (b : Nat) (Wd : World) (h : Wd.cell? ⟨b, 0, none⟩ = some (.int .i64 k)) => (show Calls Try.prog 64 #[.int .i64 1, .int .i64 256, .slice (some ⟨b, 0, none⟩) 1 1] Wd fun e w' => e = .returned (.bool false) ∧ Ext Wd w' by
      have := lfrom_one b k 1 256 1 Wd h
      rwa [hk] at this)
    clear hb hl hall hk
    go_enter Try.func39, Try.ntmps39
    go_wp2_with fail
    refine (lit_good n m P _ hs _ [(lx, ly, lz)] _ (HI.out _ (by (repeat' (first | with_reducible exact Ext.refl _ | with_reducible apply Ext.alloc | with_reducible apply Ext.drew | with_reducible apply Ext.drewN | with_reducible refine Ext.setCell ?_ ?_ _ | with_reducible apply Ext.step | with_reducible assumption | with_reducible exact Nat.le_refl _ | (simp; done) | (simp; omega))))) (by have := light_one (w := (w.alloc (.cells #[.int .i64 ((n : Int) + 1), .int .i64 ((m : Int) + 1), .int .i64 P, .slice A L c] 37)).alloc (.cells #[.int .i64 lx, .int .i64 ly, .int .i64 lz] 25)) lx ly lz; simpa using this) HB.out HL.out).mono ?_
    rintro e W1 ⟨B, rfl, hF, hB, x1⟩
    have HX1 := Lib.hid (show Ext w W1 from Ext.trans (by (repeat' (first | with_reducible exact Ext.refl _ | with_reducible apply Ext.alloc | with_reducible apply Ext.drew | with_reducible apply Ext.drewN | with_reducible refine Ext.setCell ?_ ?_ _ | with_reducible apply Ext.step | with_reducible assumption | with_reducible exact Nat.le_refl _ | (simp; done) | (simp; omega)))) x1)
    clear x1 hF hB
    go_wp2_with fail
    refine (HK.out _ _ (by go_cell)).mono ?_
    rintro e W2 ⟨rfl, x2⟩
    have HX2 := Lib.hid (show Ext w W2 from HX1.out.trans (Ext.trans (by (repeat' (first | with_reducible exact Ext.refl _ | with_reducible apply Ext.alloc | with_reducible apply Ext.drew | with_reducible apply Ext.drewN | with_reducible refine Ext.setCell ?_ ?_ _ | with_reducible apply Ext.step | with_reducible assumption | with_reducible exact Nat.le_refl _ | (simp; done) | (simp; omega)))) x2))
    clear x2
    go_wp2_with fail
    go_ret2
    exact ⟨_, by rw [HE.out]; rfl, by rw [HR.out]; exact EK.Own.nil _ _, HX2.out⟩
  have HE := Lib.hid (show levE ((n : Int) + 1) ((m : Int) + 1) P hs lx ly lz k = 0 by simp [levE, hb, hl, hk])
  have HR := Lib.hid (show levelsL ((n : Int) + 1) ((m : Int) + 1) P hs lx ly lz k = (seenL n m P hs lx ly lz).map (levelOf k) by simp [levelsL, hb, hl, hk, nOf_add])
  have HK := Lib.hid fun (b : Nat) (Wd : World) (h : Wd.cell? ⟨b, 0, none⟩ = some (.int .i64 k)) => (show Calls Try.prog 64 #[.int .i64 1, .int .i64 256, .slice (some ⟨b, 0, none⟩) 1 1] Wd fun e w' => e = .returned (.bool true) ∧ Ext Wd w' by
    have := lfrom_one b k 1 256 1 Wd h
    rwa [hk] at this)
  obtain ⟨hk1, hk2⟩ := inB_iff.1 hk
  have HSB := Lib.hid fun (j : Nat) (hj : j < (seenL n m P hs lx ly lz).length) => seenL_bd (hA_bd hall) hp1 hp2 hl1 hl2 hl3 hl4 hl5 hl6 j hj
  have hSL : (seenL n m P hs lx ly lz).length = m * n := by simp [seenL]
  have hmn := Nat.mul_le_mul hm2 hn2
  have HSL := Lib.hid hSL
  clear hb hl hall hk hSL
  go_enter Try.func39, Try.ntmps39
  go_wp2_with fail
  refine (lit_good n m P _ hs _ [(lx, ly, lz)] _ (HI.out _ (by (repeat' (first | with_reducible exact Ext.refl _ | with_reducible apply Ext.alloc | with_reducible apply Ext.drew | with_reducible apply Ext.drewN | with_reducible refine Ext.setCell ?_ ?_ _ | with_reducible apply Ext.step | with_reducible assumption | with_reducible exact Nat.le_refl _ | (simp; done) | (simp; omega))))) (by have := light_one (w := (w.alloc (.cells #[.int .i64 ((n : Int) + 1), .int .i64 ((m : Int) + 1), .int .i64 P, .slice A L c] 37)).alloc (.cells #[.int .i64 lx, .int .i64 ly, .int .i64 lz] 25)) lx ly lz; simpa using this) HB.out HL.out).mono ?_
  rintro e W1 ⟨B, rfl, hF, hB, x1⟩
  have z0 : W1.cell? ⟨w.heap.size + 1, 0, none⟩ = some (.int .i64 lx) := x1.cell_some (by go_cell)
  have z1 : W1.cell? ⟨w.heap.size + 1, 1, none⟩ = some (.int .i64 ly) := x1.cell_some (by go_cell)
  have z2 : W1.cell? ⟨w.heap.size + 1, 2, none⟩ = some (.int .i64 lz) := x1.cell_some (by go_cell)
  have HX1 := Lib.hid (show Ext w W1 from Ext.trans (by (repeat' (first | with_reducible exact Ext.refl _ | with_reducible apply Ext.alloc | with_reducible apply Ext.drew | with_reducible apply Ext.drewN | with_reducible refine Ext.setCell ?_ ?_ _ | with_reducible apply Ext.step | with_reducible assumption | with_reducible exact Nat.le_refl _ | (simp; done) | (simp; omega)))) x1)
  have HF := Lib.hid hF
  have hz := cell_lt z0
  clear x1 hF hB
  go_wp2_with fail
  refine (HK.out _ _ (by go_cell)).mono ?_
  rintro e W2 ⟨rfl, x2⟩
  have X12 : Ext W1 W2 := Ext.trans (by (repeat' (first | with_reducible exact Ext.refl _ | with_reducible apply Ext.alloc | with_reducible apply Ext.drew | with_reducible apply Ext.drewN | with_reducible refine Ext.setCell ?_ ?_ _ | with_reducible apply Ext.step | with_reducible assumption | with_reducible exact Nat.le_refl _ | (simp; done) | (simp; omega)))) x2
  replace z0 := X12.cell_some z0
  replace z1 := X12.cell_some z1
  replace z2 := X12.cell_some z2
  replace hz := cell_lt z0
  have HX2 := Lib.hid (HX1.out.trans X12)
  have HF2 := Lib.hid (HF.out.ext X12)
  clear x2 X12
  go_wp2_with fail
  refine (picture_any B n m P hs lx ly lz W2 HF2.out hl1 hl2 hl3 hl4 hl5 hl6).mono ?_
  rintro e W3 ⟨pv, rfl, op, x3⟩
  have HX3 := Lib.hid (HX2.out.trans x3)
  obtain ⟨Ap, kp, cp, rfl, hkp, _, hrp, _⟩ := op.is.open_
  have HRP := Lib.hid hrp
  have HKP := Lib.hid hkp
  have hkpb : kp ≤ 1000 := by rw [← hkp, HSL.out]; omega
  clear x3 op hrp hkp z0 z1 z2 hz
  go_wp2_with fail
  go_loopw [32, 10, 12, 13] (fun i ov _ _ wr => ∃ j : Nat, j ≤ kp ∧ i = .int .i64 j ∧ intK.Own W3.heap.size wr ov (((seenL n m P hs lx ly lz).take j).map (levelOf k)) ∧ Ext W3 wr) (fun i _ _ _ _ => kp - (intOf i).toNat)
  case atStart => exact ⟨0, by omega, rfl, by simpa using EK.Own.nil (K := intK) W3.heap.size W3, Ext.refl _⟩
  case round =>
    obtain ⟨j, hj, rfl, ho, hx⟩ := hrel
    obtain ⟨Av, kv, cv, rfl⟩ := ho.shape
    by_cases hlt : j < kp
    · have hjl : j < (seenL n m P hs lx ly lz).length := by rw [HKP.out]; exact hlt
      obtain ⟨b, o, rfl, hb, h0, h1⟩ := pairs_at (K := shadeK) rfl (fun _ => rfl) HRP.out j hjl
      obtain ⟨⟨s1, s2⟩, s3, s4⟩ := HSB.out j hjl
      have g0 := hx.cell_some h0
      have g1 := hx.cell_some h1
      have lg := cell_lt g0
      have HSN := Lib.hid (show ((seenL n m P hs lx ly lz).take (j + 1)).map (levelOf k) = ((seenL n m P hs lx ly lz).take j).map (levelOf k) ++ [levelOf k ((seenL n m P hs lx ly lz)[j].1, (seenL n m P hs lx ly lz)[j].2)] by
        rw [List.take_succ_eq_append_getElem hjl, List.map_append]; rfl)
      have HZ := Lib.hid (show (((seenL n m P hs lx ly lz).take j).map (levelOf k)).length ≤ 1000000000 by rw [List.length_map, List.length_take]; omega)
      generalize (seenL n m P hs lx ly lz)[j].1 = sn at *
      generalize (seenL n m P hs lx ly lz)[j].2 = sd at *
      have HLV := Lib.hid (level_is (n := k) (a := sn) (b := sd) hk1 s3)
      have HO := Lib.hid ho
      have HX := Lib.hid hx
      have HBB := Lib.hid (show W3.heap.size ≤ wr.heap.size from hx.bel.size)
      obtain ⟨r1, r2⟩ := mul_bd (a := k) (b := sn) (A := 256) (B := 1000000000) (by omega) hk2 s1 s2
      have r3 := Int.ediv_nonneg r1 (show 0 ≤ sd by omega)
      have r4 := Int.ediv_le_self sd r1
      have hsd : ¬ sd = 0 := by omega
      clear h0 h1 ho hx
      by_cases hcmp : sn < sd
      · rw [if_pos hcmp] at HLV
        go_wp2_with (at_builtin; refine EK.app (K := intK) (B := W3.heap.size) rfl (.tmp 50) (.tmp 52) rfl (wr.heap.size + 1) 1 (k * sn / sd) rfl rfl (fun i u hu => cell_new1 hu) (HO.out.ext (((Ext.refl wr).alloc _).alloc _)) (Nat.le_trans HBB.out (((Ext.refl wr).alloc _).alloc _).bel.size) HZ.out ?_; intro v' w3 o3 b3 _; obtain ⟨Av3, kv3, cv3, rfl⟩ := o3.shape; have HO3 := Lib.hid o3; have HB3 := Lib.hid b3; clear o3 b3)
        go_roundw
        case rel => exact ⟨j + 1, by omega, by go_num, by rw [HSN.out, HLV.out]; exact HO3.out, ((HX.out.alloc _).alloc _).below HB3.out (Nat.le_refl _)⟩
        case measure => simp [intOf]; omega
      · rw [if_neg hcmp] at HLV
        go_wp2_with (at_builtin; refine EK.app (K := intK) (B := W3.heap.size) rfl (.tmp 50) (.tmp 52) rfl (wr.heap.size + 1) 1 (k - 1) rfl rfl (fun i u hu => cell_new1 hu) (HO.out.ext (((Ext.refl wr).alloc _).alloc _)) (Nat.le_trans HBB.out (((Ext.refl wr).alloc _).alloc _).bel.size) HZ.out ?_; intro v' w3 o3 b3 _; obtain ⟨Av3, kv3, cv3, rfl⟩ := o3.shape; have HO3 := Lib.hid o3; have HB3 := Lib.hid b3; clear o3 b3)
        go_roundw
        case rel => exact ⟨j + 1, by omega, by go_num, by rw [HSN.out, HLV.out]; exact HO3.out, ((HX.out.alloc _).alloc _).below HB3.out (Nat.le_refl _)⟩
        case measure => simp [intOf]; omega
    · obtain rfl : j = kp := by omega
      have HO := Lib.hid ho
      have HX := Lib.hid hx
      clear ho hx
      go_wp2_with fail
      go_ret2
      exact ⟨_, by rw [HE.out]; rfl, by
        rw [HR.out]
        have h := HO.out
        rw [List.take_of_length_le (by rw [HKP.out]; exact Nat.le_refl _)] at h
        exact h.mono HX3.out.bel.size, HX3.out.trans HX.out⟩

set_option maxRecDepth 100000 in
set_option maxHeartbeats 4000000 in
theorem refPicture_any (W H P : Int) (hv : Value) (hs : List Int) (lx ly lz : Int) (w : World) (hI : intK.Is w hv hs) :
    Calls Try.prog 38 #[surfV W H P hv, lightV lx ly lz] w (RetEE shadeK w (pictureL W H P hs lx ly lz) (shadE W H P hs lx ly lz)) := by
  have HAS := Lib.hid fun (W0 : World) (x : Ext w W0) => asked_any W H P hv hs lx ly lz W0 (hI.ext x)
  cases hbl : surfB W H P hs && lightB lx ly lz
  · have HR := Lib.hid (show pictureL W H P hs lx ly lz = [] by simp [pictureL, hbl])
    have hne : shadE W H P hs lx ly lz = 60 ∨ shadE W H P hs lx ly lz = 61 := by
      rw [Bool.and_eq_false_iff] at hbl
      unfold shadE
      rcases hbl with h | h
      · rw [h]; exact .inl rfl
      · rw [h]
        cases surfB W H P hs
        · exact .inl rfl
        · exact .inr rfl
    obtain ⟨A, L, c, rfl, _⟩ := hI.open_
    generalize shadE W H P hs lx ly lz = E at *
    clear hI hbl
    rcases hne with rfl | rfl
    all_goals
      go_enter Try.func38, Try.ntmps38
      go_wp2_with fail
      refine (HAS.out _ (by (repeat' (first | with_reducible exact Ext.refl _ | with_reducible apply Ext.alloc | with_reducible apply Ext.drew | with_reducible apply Ext.drewN | with_reducible refine Ext.setCell ?_ ?_ _ | with_reducible apply Ext.step | with_reducible assumption | with_reducible exact Nat.le_refl _ | (simp; done) | (simp; omega))))).mono ?_
      rintro e _ ⟨rfl, hx⟩
      obtain ⟨δ, rfl⟩ : Ext ((w.alloc (.cells #[.int .i64 W, .int .i64 H, .int .i64 P, .slice A L c] 37)).alloc (.cells #[.int .i64 lx, .int .i64 ly, .int .i64 lz] 25)) _ := Ext.trans (by (repeat' (first | with_reducible exact Ext.refl _ | with_reducible apply Ext.alloc | with_reducible apply Ext.drew | with_reducible apply Ext.drewN | with_reducible refine Ext.setCell ?_ ?_ _ | with_reducible apply Ext.step | with_reducible assumption | with_reducible exact Nat.le_refl _ | (simp; done) | (simp; omega)))) hx
      clear hx
      try (have hs0 := δ.lt (w.heap.size) (by first | (simp; done) | (simp; omega)))
      try (have hs1 := δ.lt (w.heap.size + 1) (by first | (simp; done) | (simp; omega)))
      go_wp2_with fail
      go_ret2
      exact ⟨_, rfl, by rw [HR.out]; exact EK.Own.nil _ _, by (repeat' (first | with_reducible exact Ext.refl _ | with_reducible apply Ext.alloc | with_reducible apply Ext.drew | with_reducible apply Ext.drewN | with_reducible refine Ext.setCell ?_ ?_ _ | with_reducible apply Ext.step | with_reducible assumption | with_reducible exact Nat.le_refl _ | (simp; done) | (simp; omega)))⟩
  · rw [Bool.and_eq_true] at hbl
    obtain ⟨hb, hl⟩ := hbl
    obtain ⟨n, m, rfl, rfl, hn1, hn2, hm1, hm2⟩ := surf_nm hb
    have HE := Lib.hid (show shadE ((n : Int) + 1) ((m : Int) + 1) P hs lx ly lz = 0 by simp [shadE, hb, hl])
    have HR := Lib.hid (show pictureL ((n : Int) + 1) ((m : Int) + 1) P hs lx ly lz = seenL n m P hs lx ly lz by simp [pictureL, hb, hl, nOf_add])
    have HS := Lib.hid (show SurfOk w hv n m P hs from ⟨hI, hb⟩)
    rw [HE.out] at HAS
    obtain ⟨⟨hl1, hl2⟩, ⟨hl3, hl4⟩, hl5, hl6⟩ := lightB_iff.1 hl
    obtain ⟨A, L, c, rfl, _⟩ := hI.open_
    clear hI hb hl
    go_enter Try.func38, Try.ntmps38
    go_wp2_with fail
    refine (HAS.out _ (by (repeat' (first | with_reducible exact Ext.refl _ | with_reducible apply Ext.alloc | with_reducible apply Ext.drew | with_reducible apply Ext.drewN | with_reducible refine Ext.setCell ?_ ?_ _ | with_reducible apply Ext.step | with_reducible assumption | with_reducible exact Nat.le_refl _ | (simp; done) | (simp; omega))))).mono ?_
    rintro e _ ⟨rfl, hx⟩
    obtain ⟨δ, rfl⟩ : Ext ((w.alloc (.cells #[.int .i64 ((n : Int) + 1), .int .i64 ((m : Int) + 1), .int .i64 P, .slice A L c] 37)).alloc (.cells #[.int .i64 lx, .int .i64 ly, .int .i64 lz] 25)) _ := Ext.trans (by (repeat' (first | with_reducible exact Ext.refl _ | with_reducible apply Ext.alloc | with_reducible apply Ext.drew | with_reducible apply Ext.drewN | with_reducible refine Ext.setCell ?_ ?_ _ | with_reducible apply Ext.step | with_reducible assumption | with_reducible exact Nat.le_refl _ | (simp; done) | (simp; omega)))) hx
    clear hx
    try (have hs0 := δ.lt (w.heap.size) (by first | (simp; done) | (simp; omega)))
    try (have hs1 := δ.lt (w.heap.size + 1) (by first | (simp; done) | (simp; omega)))
    go_wp2_with fail
    have X1 : Ext w δ.wd := by (repeat' (first | with_reducible exact Ext.refl _ | with_reducible apply Ext.alloc | with_reducible apply Ext.drew | with_reducible apply Ext.drewN | with_reducible refine Ext.setCell ?_ ?_ _ | with_reducible apply Ext.step | with_reducible assumption | with_reducible exact Nat.le_refl _ | (simp; done) | (simp; omega)))
    refine (refSeen_any n m P _ hs lx ly lz δ.wd (HS.out.ext X1) hl1 hl2 hl3 hl4 hl5 hl6).mono ?_
    rintro e W2 ⟨v, rfl, ov, x2⟩
    have HX2 := Lib.hid (X1.trans x2)
    have HO := Lib.hid (ov.mono X1.bel.size)
    clear x2 ov X1
    go_wp2_with fail
    go_ret2
    exact ⟨_, by rw [HE.out]; rfl, by rw [HR.out]; exact HO.out, HX2.out⟩
end Go.Proofs.Ytlljhimaopnbfaa
