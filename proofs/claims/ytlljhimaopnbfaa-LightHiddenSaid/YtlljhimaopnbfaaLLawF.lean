/- LightFacets: the law's walk. Condition: the slice reads as a list. -/
import Derived.Test.YtlljhimaopnbfaaLRf
import Derived.Test.YtlljhimaopnbfaaLSame
import Derived.Test.YtlljhimaopnbfaaQS
namespace Go.Proofs.Ytlljhimaopnbfaa
open Go.RowKit

attribute [local go_sem] Oper.semAt_some

theorem great_any (W H P : Int) (hv : Value) (hs : List Int) (w : World) (hI : intK.Is w hv hs) :
    Calls Try.prog 25 #[surfV W H P hv] w fun e w' => e = .returned (.bool (decide (700 < hs.length))) ∧ Ext w w' := by
  obtain ⟨A, L, c, rfl, hL, _⟩ := hI.open_
  have HL := Lib.hid hL
  clear hL hI
  go_enter Try.func25, Try.ntmps25
  go_wp2
  go_ret
  exact ⟨ret_b (by rw [HL.out]; simp; omega), by (repeat' (first | with_reducible exact Ext.refl _ | with_reducible apply Ext.alloc | with_reducible apply Ext.drew | with_reducible apply Ext.drewN | with_reducible refine Ext.setCell ?_ ?_ _ | with_reducible apply Ext.step | with_reducible assumption | with_reducible exact Nat.le_refl _ | (simp; done) | (simp; omega)))⟩

set_option maxRecDepth 100000 in
set_option maxHeartbeats 4000000 in
theorem twin_any (W H P : Int) (hv : Value) (hs : List Int) (w : World) (hI : intK.Is w hv hs) (hl : hs.length ≤ 700) :
    Calls Try.prog 26 #[surfV W H P hv] w fun e w' => ∃ v, e = .returned (surfV W H P v) ∧ intK.Own w.heap.size w' v hs ∧ Ext w w' := by
  have HII := Lib.hid (intK_isI hI)
  obtain ⟨A, L, c, rfl, hL, _⟩ := hI.open_
  have HL := Lib.hid hL
  clear hL hI
  obtain ⟨W2, hW2⟩ : ∃ W2, W2 = ((w.alloc (.cells #[.int .i64 W, .int .i64 H, .int .i64 P, .slice A L c] 37)).alloc (.cells #[.int .i64 0, .int .i64 0, .int .i64 0, .slice none 0 0] 37)).alloc (.cells #[] 3) := ⟨_, rfl⟩
  have HM := Lib.hid (show OwnI (w.heap.size + 2) W2 (.slice (some ⟨w.heap.size + 1 + 1, 0, none⟩) 0 0) [] by
    rw [hW2]
    have := OwnI.made (w.heap.size + 2) ((w.alloc (.cells #[.int .i64 W, .int .i64 H, .int .i64 P, .slice A L c] 37)).alloc (.cells #[.int .i64 0, .int .i64 0, .int .i64 0, .slice none 0 0] 37)) 0 (by simp) #[] (by decide) rfl
    simpa using this)
  have HB2 := Lib.hid (show w.heap.size + 2 ≤ W2.heap.size by rw [hW2]; simp)
  have HX2 := Lib.hid (show Ext w W2 by rw [hW2]; exact by (repeat' (first | with_reducible exact Ext.refl _ | with_reducible apply Ext.alloc | with_reducible apply Ext.drew | with_reducible apply Ext.drewN | with_reducible refine Ext.setCell ?_ ?_ _ | with_reducible apply Ext.step | with_reducible assumption | with_reducible exact Nat.le_refl _ | (simp; done) | (simp; omega))))
  have HU := Lib.hid (HII.out.ext HX2.out)
  have a0 : W2.cell? ⟨w.heap.size, 0, none⟩ = some (.int .i64 W) := by rw [hW2]; go_cell
  have a1 : W2.cell? ⟨w.heap.size, 1, none⟩ = some (.int .i64 H) := by rw [hW2]; go_cell
  have a2 : W2.cell? ⟨w.heap.size, 2, none⟩ = some (.int .i64 P) := by rw [hW2]; go_cell
  have a3 : W2.cell? ⟨w.heap.size, 3, none⟩ = some (.slice A L c) := by rw [hW2]; go_cell
  have b0 : W2.cell? ⟨w.heap.size + 1, 0, none⟩ = some (.int .i64 0) := by rw [hW2]; go_cell
  have b1 : W2.cell? ⟨w.heap.size + 1, 1, none⟩ = some (.int .i64 0) := by rw [hW2]; go_cell
  have b2 : W2.cell? ⟨w.heap.size + 1, 2, none⟩ = some (.int .i64 0) := by rw [hW2]; go_cell
  have b3 : W2.cell? ⟨w.heap.size + 1, 3, none⟩ = some (.slice none 0 0) := by rw [hW2]; go_cell
  have f3 : W2.frozen? ⟨w.heap.size, 3, none⟩ = false := by rw [hW2]; go_simp
  have g0 : W2.frozen? ⟨w.heap.size + 1, 0, none⟩ = false := by rw [hW2]; go_simp
  have g1 : W2.frozen? ⟨w.heap.size + 1, 1, none⟩ = false := by rw [hW2]; go_simp
  have g2 : W2.frozen? ⟨w.heap.size + 1, 2, none⟩ = false := by rw [hW2]; go_simp
  have g3 : W2.frozen? ⟨w.heap.size + 1, 3, none⟩ = false := by rw [hW2]; go_simp
  have HZ := Lib.hid (show ([] : List Int).length + hs.length ≤ 10000000000 by simp; omega)
  have HW2 := Lib.hid hW2
  clear hW2
  go_enter Try.func26, Try.ntmps26
  have HCK := Lib.hid fun (w3 : World) (hb : Below (w.heap.size + 2) W2 w3) => (show (w3.cell? ⟨w.heap.size, 0, none⟩ = some (.int .i64 W) ∧ w3.cell? ⟨w.heap.size, 1, none⟩ = some (.int .i64 H) ∧ w3.cell? ⟨w.heap.size, 2, none⟩ = some (.int .i64 P) ∧ w3.cell? ⟨w.heap.size, 3, none⟩ = some (.slice A L c)) ∧
      (w3.cell? ⟨w.heap.size + 1, 0, none⟩ = some (.int .i64 0) ∧ w3.cell? ⟨w.heap.size + 1, 1, none⟩ = some (.int .i64 0) ∧ w3.cell? ⟨w.heap.size + 1, 2, none⟩ = some (.int .i64 0) ∧ w3.cell? ⟨w.heap.size + 1, 3, none⟩ = some (.slice none 0 0)) ∧
      w3.frozen? ⟨w.heap.size, 3, none⟩ = false ∧ w3.frozen? ⟨w.heap.size + 1, 0, none⟩ = false ∧ w3.frozen? ⟨w.heap.size + 1, 1, none⟩ = false ∧ w3.frozen? ⟨w.heap.size + 1, 2, none⟩ = false ∧ w3.frozen? ⟨w.heap.size + 1, 3, none⟩ = false ∧ w.heap.size + 1 < w3.heap.size from by
    obtain ⟨kc, kf⟩ := bcell hb
    refine ⟨⟨?_, ?_, ?_, ?_⟩, ⟨?_, ?_, ?_, ?_⟩, ?_, ?_, ?_, ?_, ?_, ?_⟩
    all_goals first | (rw [kc _ _ (by omega)]; assumption) | (rw [kf _ _ (by omega)]; assumption) | skip
    have := cell_lt b0
    have := hb.size
    omega)
  clear a0 a1 a2 a3 b0 b1 b2 b3 f3 g0 g1 g2 g3
  go_wp2_with (at_builtin; rw [← HW2.out]; refine app_all rfl (.tmp 3) (.tmp 5) rfl rfl rfl HU.out HM.out HB2.out HZ.out ?_; intro v' w3 o3 hb3; obtain ⟨⟨a0, a1, a2, a3⟩, ⟨b0, b1, b2, b3⟩, f3, g0, g1, g2, g3, l3⟩ := HCK.out w3 hb3; obtain ⟨Av, kv, cv, rfl⟩ := (intK_own.2 o3).shape; have HO3 := Lib.hid o3; have HB3 := Lib.hid hb3; clear o3 hb3)
  have ne1 : w.heap.size + 1 ≠ w.heap.size := by omega
  have hset := set4 (W := w3.setCell ⟨w.heap.size, 3, none⟩ (.slice Av kv cv)) ((cell_set_other (.inl ne1)).trans b0) ((cell_set_other (.inl ne1)).trans b1) ((cell_set_other (.inl ne1)).trans b2) ((cell_set_other (.inl ne1)).trans b3) (.int .i64 W) (.int .i64 H) (.int .i64 P) (.slice Av kv cv)
  have X3 : Ext w w3 := HX2.out.below HB3.out (by omega)
  have X4 : Ext w _ := (((((X3.setCell (p := ⟨w.heap.size, 3, none⟩) (Nat.le_refl _) (.slice Av kv cv)).setCell (p := ⟨w.heap.size + 1, 0, none⟩) (Nat.le_succ _) (.int .i64 W)).setCell (p := ⟨w.heap.size + 1, 1, none⟩) (Nat.le_succ _) (.int .i64 H)).setCell (p := ⟨w.heap.size + 1, 2, none⟩) (Nat.le_succ _) (.int .i64 P)).setCell (p := ⟨w.heap.size + 1, 3, none⟩) (Nat.le_succ _) (.slice Av kv cv))
  have O4 : intK.Own (w.heap.size + 2) _ _ hs := ((((((show intK.Own (w.heap.size + 2) w3 (.slice Av kv cv) hs from intK_own.2 (by simpa using HO3.out)).setCell (b := w.heap.size) (o := 3) (u := .slice Av kv cv) (by omega)).setCell (b := w.heap.size + 1) (o := 0) (u := .int .i64 W) (by omega)).setCell (b := w.heap.size + 1) (o := 1) (u := .int .i64 H) (by omega)).setCell (b := w.heap.size + 1) (o := 2) (u := .int .i64 P) (by omega)).setCell (b := w.heap.size + 1) (o := 3) (u := .slice Av kv cv) (by omega))
  generalize ((((w3.setCell ⟨w.heap.size, 3, none⟩ (.slice Av kv cv)).setCell ⟨w.heap.size + 1, 0, none⟩ (.int .i64 W)).setCell ⟨w.heap.size + 1, 1, none⟩ (.int .i64 H)).setCell ⟨w.heap.size + 1, 2, none⟩ (.int .i64 P)).setCell ⟨w.heap.size + 1, 3, none⟩ (.slice Av kv cv) = W4 at *
  obtain ⟨t0, t1, t2, t3⟩ := hset
  exact bodyPost_ret (v := surfV W H P (.slice Av kv cv)) (by simp [results, Try.results26, go_sem, t0, t1, t2, t3]) rfl ⟨_, rfl, O4.mono (by omega), X4⟩

set_option maxHeartbeats 4000000 in
theorem sameSurf_any (W H P : Int) (u v : Value) (hs : List Int) (w : World) (hu : intK.Is w u hs) (hv : intK.Is w v hs) :
    Calls Try.prog 34 #[surfV W H P u, surfV W H P v] w fun e w' => e = .returned (.bool true) ∧ Ext w w' := by
  have HS := Lib.hid fun (W0 : World) (x : Ext w W0) => (show Calls Try.prog 43 #[u, v] W0 fun e w' => e = .returned (.bool true) ∧ Ext W0 w' by
    have := sameInts_any u v hs hs W0 (hu.ext x) (hv.ext x)
    rwa [decide_eq_true rfl] at this)
  obtain ⟨A, L, c, rfl, _⟩ := hu.open_
  obtain ⟨A', L', c', rfl, _⟩ := hv.open_
  clear hu hv
  go_enter Try.func34, Try.ntmps34
  go_wp2_with fail
  refine (HS.out _ (by (repeat' (first | with_reducible exact Ext.refl _ | with_reducible apply Ext.alloc | with_reducible apply Ext.drew | with_reducible apply Ext.drewN | with_reducible refine Ext.setCell ?_ ?_ _ | with_reducible apply Ext.step | with_reducible assumption | with_reducible exact Nat.le_refl _ | (simp; done) | (simp; omega))))).mono ?_
  rintro e _ ⟨rfl, hx⟩
  obtain ⟨δ, rfl⟩ : Ext ((w.alloc (.cells #[.int .i64 W, .int .i64 H, .int .i64 P, .slice A L c] 37)).alloc (.cells #[.int .i64 W, .int .i64 H, .int .i64 P, .slice A' L' c'] 37)) _ := Ext.trans (by (repeat' (first | with_reducible exact Ext.refl _ | with_reducible apply Ext.alloc | with_reducible apply Ext.drew | with_reducible apply Ext.drewN | with_reducible refine Ext.setCell ?_ ?_ _ | with_reducible apply Ext.step | with_reducible assumption | with_reducible exact Nat.le_refl _ | (simp; done) | (simp; omega)))) hx
  clear hx
  try (have hs0 := δ.lt (w.heap.size) (by first | (simp; done) | (simp; omega)))
  try (have hs1 := δ.lt (w.heap.size + 1) (by first | (simp; done) | (simp; omega)))
  go_wp2_with fail
  go_ret
  exact ⟨rfl, by (repeat' (first | with_reducible exact Ext.refl _ | with_reducible apply Ext.alloc | with_reducible apply Ext.drew | with_reducible apply Ext.drewN | with_reducible refine Ext.setCell ?_ ?_ _ | with_reducible apply Ext.step | with_reducible assumption | with_reducible exact Nat.le_refl _ | (simp; done) | (simp; omega)))⟩

theorem refCheckLight_any (lx ly lz : Int) (w : World) :
    Calls Try.prog 32 #[lightV lx ly lz] w fun e w' => e = .returned (.int .i64 (lightE lx ly lz)) ∧ Ext w w' := by
  cases h : lightB lx ly lz
  all_goals
    have HE := Lib.hid (show lightE lx ly lz = _ by rw [lightE, h])
    have HL := Lib.hid (refLight_any lx ly lz)
    rw [h] at HL
    go_enter Try.func32, Try.ntmps32
    go_wp2_with fail
    refine (HL.out _).mono ?_
    rintro e _ ⟨rfl, hx⟩
    obtain ⟨δ, rfl⟩ : Ext (w.alloc (.cells #[.int .i64 lx, .int .i64 ly, .int .i64 lz] 25)) _ := Ext.trans (by (repeat' (first | with_reducible exact Ext.refl _ | with_reducible apply Ext.alloc | with_reducible apply Ext.drew | with_reducible apply Ext.drewN | with_reducible refine Ext.setCell ?_ ?_ _ | with_reducible apply Ext.step | with_reducible assumption | with_reducible exact Nat.le_refl _ | (simp; done) | (simp; omega)))) hx
    clear hx
    try (have hs0 := δ.lt (w.heap.size) (by first | (simp; done) | (simp; omega)))
    go_wp2_with fail
    go_ret
    exact ⟨by rw [HE.out]; rfl, by (repeat' (first | with_reducible exact Ext.refl _ | with_reducible apply Ext.alloc | with_reducible apply Ext.drew | with_reducible apply Ext.drewN | with_reducible refine Ext.setCell ?_ ?_ _ | with_reducible apply Ext.step | with_reducible assumption | with_reducible exact Nat.le_refl _ | (simp; done) | (simp; omega)))⟩

set_option maxRecDepth 100000 in
set_option maxHeartbeats 4000000 in
theorem lawFacets_any (W H P : Int) (hv : Value) (hs : List Int) (lx ly lz : Int) (w : World) (hI : intK.Is w hv hs) :
    Calls Try.prog 4 #[surfV W H P hv, lightV lx ly lz] w fun e w' => e = .returned (.bool true) ∧ Ext w w' := by
  have HI := Lib.hid fun (W0 : World) (x : Ext w W0) => hI.ext x
  have HGR := Lib.hid fun (W0 : World) (x : Ext w W0) => great_any W H P hv hs W0 (hI.ext x)
  obtain ⟨A, L, c, rfl, hL, _⟩ := hI.open_
  clear hI
  by_cases hg : 700 < hs.length
  · rw [decide_eq_true hg] at HGR
    clear hg
    go_enter Try.func4, Try.ntmps4
    go_wp2_with fail
    refine (HGR.out _ (by (repeat' (first | with_reducible exact Ext.refl _ | with_reducible apply Ext.alloc | with_reducible apply Ext.drew | with_reducible apply Ext.drewN | with_reducible refine Ext.setCell ?_ ?_ _ | with_reducible apply Ext.step | with_reducible assumption | with_reducible exact Nat.le_refl _ | (simp; done) | (simp; omega))))).mono ?_
    rintro e _ ⟨rfl, hx⟩
    obtain ⟨δ, rfl⟩ : Ext ((w.alloc (.cells #[.int .i64 W, .int .i64 H, .int .i64 P, .slice A L c] 37)).alloc (.cells #[.int .i64 lx, .int .i64 ly, .int .i64 lz] 25)) _ := Ext.trans (by (repeat' (first | with_reducible exact Ext.refl _ | with_reducible apply Ext.alloc | with_reducible apply Ext.drew | with_reducible apply Ext.drewN | with_reducible refine Ext.setCell ?_ ?_ _ | with_reducible apply Ext.step | with_reducible assumption | with_reducible exact Nat.le_refl _ | (simp; done) | (simp; omega)))) hx
    clear hx
    try (have hs0 := δ.lt (w.heap.size) (by first | (simp; done) | (simp; omega)))
    try (have hs1 := δ.lt (w.heap.size + 1) (by first | (simp; done) | (simp; omega)))
    go_wp2_with fail
    go_ret
    exact ⟨rfl, by (repeat' (first | with_reducible exact Ext.refl _ | with_reducible apply Ext.alloc | with_reducible apply Ext.drew | with_reducible apply Ext.drewN | with_reducible refine Ext.setCell ?_ ?_ _ | with_reducible apply Ext.step | with_reducible assumption | with_reducible exact Nat.le_refl _ | (simp; done) | (simp; omega)))⟩
  · rw [decide_eq_false hg] at HGR
    have hl : hs.length ≤ 700 := by omega
    have HL := Lib.hid hl
    clear hg hL hl
    go_enter Try.func4, Try.ntmps4
    go_wp2_with fail
    refine (HGR.out _ (by (repeat' (first | with_reducible exact Ext.refl _ | with_reducible apply Ext.alloc | with_reducible apply Ext.drew | with_reducible apply Ext.drewN | with_reducible refine Ext.setCell ?_ ?_ _ | with_reducible apply Ext.step | with_reducible assumption | with_reducible exact Nat.le_refl _ | (simp; done) | (simp; omega))))).mono ?_
    rintro e _ ⟨rfl, hx⟩
    obtain ⟨δ, rfl⟩ : Ext ((w.alloc (.cells #[.int .i64 W, .int .i64 H, .int .i64 P, .slice A L c] 37)).alloc (.cells #[.int .i64 lx, .int .i64 ly, .int .i64 lz] 25)) _ := Ext.trans (by (repeat' (first | with_reducible exact Ext.refl _ | with_reducible apply Ext.alloc | with_reducible apply Ext.drew | with_reducible apply Ext.drewN | with_reducible refine Ext.setCell ?_ ?_ _ | with_reducible apply Ext.step | with_reducible assumption | with_reducible exact Nat.le_refl _ | (simp; done) | (simp; omega)))) hx
    clear hx
    try (have hs0 := δ.lt (w.heap.size) (by first | (simp; done) | (simp; omega)))
    try (have hs1 := δ.lt (w.heap.size + 1) (by first | (simp; done) | (simp; omega)))
    go_wp2_with fail
    refine lay_calls (fun W0 => Ext w W0 ∧ W0.cell? ⟨w.heap.size, 0, none⟩ = some (.int .i64 W) ∧ W0.cell? ⟨w.heap.size, 1, none⟩ = some (.int .i64 H) ∧ W0.cell? ⟨w.heap.size, 2, none⟩ = some (.int .i64 P) ∧ W0.cell? ⟨w.heap.size, 3, none⟩ = some (.slice A L c) ∧
      W0.cell? ⟨w.heap.size + 1, 0, none⟩ = some (.int .i64 lx) ∧ W0.cell? ⟨w.heap.size + 1, 1, none⟩ = some (.int .i64 ly) ∧ W0.cell? ⟨w.heap.size + 1, 2, none⟩ = some (.int .i64 lz)) ⟨by (repeat' (first | with_reducible exact Ext.refl _ | with_reducible apply Ext.alloc | with_reducible apply Ext.drew | with_reducible apply Ext.drewN | with_reducible refine Ext.setCell ?_ ?_ _ | with_reducible apply Ext.step | with_reducible assumption | with_reducible exact Nat.le_refl _ | (simp; done) | (simp; omega))), by go_cell, by go_cell, by go_cell, by go_cell, by go_cell, by go_cell, by go_cell⟩ ?_
    rintro W0 ⟨X0, c0, c1, c2, c3, k0, k1, k2⟩
    have HX0 := Lib.hid X0
    have l0 := cell_lt c0
    have l1 := cell_lt k0
    clear X0
    refine (twin_any W H P _ hs W0 (HI.out _ HX0.out) HL.out).mono ?_
    rintro e W1 ⟨ov, rfl, oo, x1⟩
    obtain ⟨Ao, ko, co, rfl⟩ := oo.shape
    have HX1 := Lib.hid (HX0.out.trans x1)
    have HO := Lib.hid oo.is
    replace c0 := x1.cell_some c0
    replace c1 := x1.cell_some c1
    replace c2 := x1.cell_some c2
    replace c3 := x1.cell_some c3
    replace k0 := x1.cell_some k0
    replace k1 := x1.cell_some k1
    replace k2 := x1.cell_some k2
    replace l0 := cell_lt c0
    replace l1 := cell_lt k0
    clear x1 oo
    go_wp2_with fail
    refine lay_calls (fun W2 => Ext W1 W2 ∧ W2.cell? ⟨W1.heap.size, 0, none⟩ = some (.int .i64 W) ∧ W2.cell? ⟨W1.heap.size, 1, none⟩ = some (.int .i64 H) ∧ W2.cell? ⟨W1.heap.size, 2, none⟩ = some (.int .i64 P) ∧ W2.cell? ⟨W1.heap.size, 3, none⟩ = some (.slice Ao ko co)) ⟨by (repeat' (first | with_reducible exact Ext.refl _ | with_reducible apply Ext.alloc | with_reducible apply Ext.drew | with_reducible apply Ext.drewN | with_reducible refine Ext.setCell ?_ ?_ _ | with_reducible apply Ext.step | with_reducible assumption | with_reducible exact Nat.le_refl _ | (simp; done) | (simp; omega))), by go_cell, by go_cell, by go_cell, by go_cell⟩ ?_
    rintro W2 ⟨X2, o0, o1, o2, o3⟩
    have HX2 := Lib.hid X2
    refine (facets_any W H P _ hs W2 (HO.out.ext X2)).mono ?_
    rintro e W3 ⟨va, rfl, oa, x3⟩
    obtain ⟨Aa, ka, ca, rfl⟩ := oa.shape
    have HOA := Lib.hid oa.is
    have X3 := X2.trans x3
    have HX3 := Lib.hid X3
    replace c0 := X3.cell_some c0
    replace c1 := X3.cell_some c1
    replace c2 := X3.cell_some c2
    replace c3 := X3.cell_some c3
    replace k0 := X3.cell_some k0
    replace k1 := X3.cell_some k1
    replace k2 := X3.cell_some k2
    replace o0 := x3.cell_some o0
    replace o1 := x3.cell_some o1
    replace o2 := x3.cell_some o2
    replace o3 := x3.cell_some o3
    replace l0 := cell_lt c0
    replace l1 := cell_lt k0
    have l2 := cell_lt o0
    clear x3 oa X2 X3
    go_wp2_with fail
    refine (refFacets_any W H P _ hs W3 (HI.out _ (HX1.out.trans HX3.out))).mono ?_
    rintro e W4 ⟨vb, rfl, ob, x4⟩
    obtain ⟨Ab, kb, cb, rfl⟩ := ob.shape
    have HOB := Lib.hid ob.is
    have HX4 := Lib.hid x4
    replace c0 := x4.cell_some c0
    replace c1 := x4.cell_some c1
    replace c2 := x4.cell_some c2
    replace c3 := x4.cell_some c3
    replace k0 := x4.cell_some k0
    replace k1 := x4.cell_some k1
    replace k2 := x4.cell_some k2
    replace o0 := x4.cell_some o0
    replace o1 := x4.cell_some o1
    replace o2 := x4.cell_some o2
    replace o3 := x4.cell_some o3
    replace l0 := cell_lt c0
    replace l1 := cell_lt k0
    replace l2 := cell_lt o0
    clear x4 ob
    have HC1 := Lib.hid fun (δ : BExt W4) => check_any W H P (.slice Ao ko co) hs δ.wd (HO.out.ext ((HX3.out.trans HX4.out).step δ))
    have HC2 := Lib.hid fun (δ : BExt W4) => refCheck_any W H P (.slice A L c) hs δ.wd (HI.out _ (((HX1.out.trans HX3.out).trans HX4.out).step δ))
    have HC5 := Lib.hid fun (δ : BExt W4) => (show Calls Try.prog 33 #[.slice Aa ka ca, .slice Ab kb cb] δ.wd fun e w' => e = .returned (.bool true) ∧ Ext δ.wd w' by
      have := sameTilts_any _ _ _ _ δ.wd (HOA.out.ext (HX4.out.step δ)) (HOB.out.ext ((Ext.refl W4).step δ))
      rwa [decide_eq_true rfl] at this)
    have HC6 := Lib.hid fun (δ : BExt W4) => sameSurf_any W H P (.slice Ao ko co) (.slice A L c) hs δ.wd (HO.out.ext ((HX3.out.trans HX4.out).step δ)) (HI.out _ (((HX1.out.trans HX3.out).trans HX4.out).step δ))
    go_wp2_with fail
    refine wp_region_bext (by kernel_rfl) (by kernel_rfl) ?_
    repeat (any_goals (go_big_quiet_step ((first | (go_at_call 29; exact bext_call (HC1.out _)) | (go_at_call 30; exact bext_call (HC2.out _)) | (go_at_call 31; exact bext_call (checkLight_any _ _ _ _)) | (go_at_call 32; exact bext_call (refCheckLight_any _ _ _ _)) | (go_at_call 33; exact bext_call (HC5.out _)) | (go_at_call 34; exact bext_call (HC6.out _))))))
    all_goals refine wpQuiet_nil ?_
    all_goals rintro _ ⟨δ, rfl⟩
    go_wp2_with fail
    go_ret
    exact ⟨rfl, (((HX1.out.trans HX3.out).trans HX4.out).step _)⟩
end Go.Proofs.Ytlljhimaopnbfaa
