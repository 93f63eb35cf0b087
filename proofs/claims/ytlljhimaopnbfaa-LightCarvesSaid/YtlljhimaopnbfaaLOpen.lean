/- light.open: a surface at work, or its error. Condition: the slice reads as a list. -/
import Derived.Test.YtlljhimaopnbfaaLCells
import Derived.Shelf.Abstract
namespace Go.Proofs.Ytlljhimaopnbfaa
open Go.RowKit Go.Shelf

attribute [local go_sem] Oper.semAt_some

abbrev surfV (W H P : Int) (hv : Value) : Value := .agg #[.int .i64 W, .int .i64 H, .int .i64 P, hv]
def surfB (W H P : Int) (hs : List Int) : Bool := inB 2 24 W && inB 2 24 H && inB 1 100 P && decide ((hs.length : Int) = W * H) && allB (-100) 100 hs
def surfE (W H P : Int) (hs : List Int) : Int := if surfB W H P hs then 0 else 60

theorem intK_isI {w : World} {v : Value} {hs : List Int} (h : intK.Is w v hs) : IsI w v hs := by
  obtain ⟨A, c, rfl, h0, hc, hr⟩ := h
  refine ⟨A, c, rfl, h0, hc, ⟨rfl, by omega, fun k hk => ?_⟩⟩
  obtain ⟨b, o, hA, hb, hcell⟩ := hr k hk
  refine ⟨b, o, hA, hb, ?_⟩
  have := hcell 0 (.int .i64 hs[k]) rfl
  rw [List.getElem?_eq_getElem hk]
  simpa [intK] using this
theorem isI_intK {w : World} {v : Value} {hs : List Int} (h : IsI w v hs) : intK.Is w v hs := by
  obtain ⟨A, c, rfl, h0, hc, hr⟩ := h
  refine ⟨A, c, rfl, h0, hc, fun k hk => ?_⟩
  obtain ⟨b, o, hA, hb, hcell⟩ := hr.at_ k hk
  refine ⟨b, o, hA, hb, fun i u hu => ?_⟩
  match i with
  | 0 =>
    have e : u = .int .i64 hs[k] := by simpa [intK] using hu.symm
    rw [List.getElem?_eq_getElem hk] at hcell
    rw [e]
    simpa [intK] using hcell
  | i + 1 => simp [intK] at hu

theorem lfrom_list (hv : Value) (hs : List Int) (lo hi : Int) (w : World) (h : intK.Is w hv hs) :
    Calls Try.prog 64 #[.int .i64 lo, .int .i64 hi, hv] w fun e w' => e = .returned (.bool (allB lo hi hs)) ∧ Ext w w' := by
  obtain ⟨A, c, rfl, _, _, hr⟩ := intK_isI h
  exact lfrom_any A _ c hs lo hi w hr

theorem surfB_iff {W H P : Int} {hs : List Int} : surfB W H P hs = true ↔ (2 ≤ W ∧ W ≤ 24) ∧ (2 ≤ H ∧ H ≤ 24) ∧ (1 ≤ P ∧ P ≤ 100) ∧ (hs.length : Int) = W * H ∧ allB (-100) 100 hs = true := by
  simp [surfB, inB, and_assoc]

def OpenBad (w : World) (e : Ending) (w' : World) : Prop := e = .returned (.tuple #[.pointer none, .int .i64 60]) ∧ Ext w w'
set_option maxRecDepth 100000 in
set_option maxHeartbeats 4000000 in
theorem open_bad (W H P : Int) (hv : Value) (hs : List Int) (w : World) (hI : intK.Is w hv hs) (hb : surfB W H P hs = false) :
    Calls Try.prog 72 #[surfV W H P hv] w (OpenBad w) := by
  have hl := hI.len
  unfold maxLen at hl
  have HI := Lib.hid fun (W0 : World) (x : Ext w W0) => lfrom_list hv hs (-100) 100 W0 (hI.ext x)
  obtain ⟨A, c, rfl, _⟩ := hI
  generalize hL : hs.length = L at *
  have HL := Lib.hid hL
  clear hL
  have HB := Lib.hid hb
  clear hb
  cases h1 : (inB 2 24 W && inB 2 24 H)
  · go_enter Try.func72, Try.ntmps72
    go_wp2_with fail
    refine (lfrom_two _ W H _ _ _ _ (by go_cell) (by go_cell)).mono ?_
    rintro e _ ⟨rfl, hx⟩
    obtain ⟨δ, rfl⟩ : Ext (w.alloc (.cells #[.int .i64 W, .int .i64 H, .int .i64 P, .slice A L c] 37)) _ := Ext.trans (by (repeat' (first | with_reducible exact Ext.refl _ | with_reducible apply Ext.alloc | with_reducible apply Ext.drew | with_reducible apply Ext.drewN | with_reducible refine Ext.setCell ?_ ?_ _ | with_reducible apply Ext.step | with_reducible assumption | with_reducible exact Nat.le_refl _ | (simp; done) | (simp; omega)))) hx
    clear hx
    try (have hs0 := δ.lt (w.heap.size) (by first | (simp; done) | (simp; omega)))
    go_wp2_with fail
    go_ret2
    exact ⟨rfl, by (repeat' (first | with_reducible exact Ext.refl _ | with_reducible apply Ext.alloc | with_reducible apply Ext.drew | with_reducible apply Ext.drewN | with_reducible refine Ext.setCell ?_ ?_ _ | with_reducible apply Ext.step | with_reducible assumption | with_reducible exact Nat.le_refl _ | (simp; done) | (simp; omega)))⟩
  cases h2 : inB 1 100 P
  · go_enter Try.func72, Try.ntmps72
    go_wp2_with fail
    refine (lfrom_two _ W H _ _ _ _ (by go_cell) (by go_cell)).mono ?_
    rintro e _ ⟨rfl, hx⟩
    obtain ⟨δ, rfl⟩ : Ext (w.alloc (.cells #[.int .i64 W, .int .i64 H, .int .i64 P, .slice A L c] 37)) _ := Ext.trans (by (repeat' (first | with_reducible exact Ext.refl _ | with_reducible apply Ext.alloc | with_reducible apply Ext.drew | with_reducible apply Ext.drewN | with_reducible refine Ext.setCell ?_ ?_ _ | with_reducible apply Ext.step | with_reducible assumption | with_reducible exact Nat.le_refl _ | (simp; done) | (simp; omega)))) hx
    clear hx
    try (have hs0 := δ.lt (w.heap.size) (by first | (simp; done) | (simp; omega)))
    go_wp2_with fail
    refine (lfrom_one _ P _ _ _ _ (by go_cell)).mono ?_
    rintro e _ ⟨rfl, hx⟩
    obtain ⟨δ, rfl⟩ : Ext (w.alloc (.cells #[.int .i64 W, .int .i64 H, .int .i64 P, .slice A L c] 37)) _ := Ext.trans (by (repeat' (first | with_reducible exact Ext.refl _ | with_reducible apply Ext.alloc | with_reducible apply Ext.drew | with_reducible apply Ext.drewN | with_reducible refine Ext.setCell ?_ ?_ _ | with_reducible apply Ext.step | with_reducible assumption | with_reducible exact Nat.le_refl _ | (simp; done) | (simp; omega)))) hx
    clear hx
    try (have hs0 := δ.lt (w.heap.size) (by first | (simp; done) | (simp; omega)))
    go_wp2_with fail
    go_ret2
    exact ⟨rfl, by (repeat' (first | with_reducible exact Ext.refl _ | with_reducible apply Ext.alloc | with_reducible apply Ext.drew | with_reducible apply Ext.drewN | with_reducible refine Ext.setCell ?_ ?_ _ | with_reducible apply Ext.step | with_reducible assumption | with_reducible exact Nat.le_refl _ | (simp; done) | (simp; omega)))⟩
  have h1' := h1
  rw [Bool.and_eq_true, inB_iff, inB_iff] at h1'
  obtain ⟨⟨a1, a2⟩, b1, b2⟩ := h1'
  obtain ⟨m1, m2⟩ := mul_bd (a := W) (b := H) (A := 24) (B := 24) (by omega) a2 (by omega) b2
  cases h3 : decide ((L : Int) = W * H)
  · have hne : ((L : Int) != W * H) = true := by simpa using h3
    have h3' : ((L : Int) == W * H) = false := by simpa using h3
    clear h3
    go_enter Try.func72, Try.ntmps72
    go_wp2_with fail
    refine (lfrom_two _ W H _ _ _ _ (by go_cell) (by go_cell)).mono ?_
    rintro e _ ⟨rfl, hx⟩
    obtain ⟨δ, rfl⟩ : Ext (w.alloc (.cells #[.int .i64 W, .int .i64 H, .int .i64 P, .slice A L c] 37)) _ := Ext.trans (by (repeat' (first | with_reducible exact Ext.refl _ | with_reducible apply Ext.alloc | with_reducible apply Ext.drew | with_reducible apply Ext.drewN | with_reducible refine Ext.setCell ?_ ?_ _ | with_reducible apply Ext.step | with_reducible assumption | with_reducible exact Nat.le_refl _ | (simp; done) | (simp; omega)))) hx
    clear hx
    try (have hs0 := δ.lt (w.heap.size) (by first | (simp; done) | (simp; omega)))
    go_wp2_with fail
    refine (lfrom_one _ P _ _ _ _ (by go_cell)).mono ?_
    rintro e _ ⟨rfl, hx⟩
    obtain ⟨δ, rfl⟩ : Ext (w.alloc (.cells #[.int .i64 W, .int .i64 H, .int .i64 P, .slice A L c] 37)) _ := Ext.trans (by (repeat' (first | with_reducible exact Ext.refl _ | with_reducible apply Ext.alloc | with_reducible apply Ext.drew | with_reducible apply Ext.drewN | with_reducible refine Ext.setCell ?_ ?_ _ | with_reducible apply Ext.step | with_reducible assumption | with_reducible exact Nat.le_refl _ | (simp; done) | (simp; omega)))) hx
    clear hx
    try (have hs0 := δ.lt (w.heap.size) (by first | (simp; done) | (simp; omega)))
    go_wp2_with fail
    go_ret2
    exact ⟨rfl, by (repeat' (first | with_reducible exact Ext.refl _ | with_reducible apply Ext.alloc | with_reducible apply Ext.drew | with_reducible apply Ext.drewN | with_reducible refine Ext.setCell ?_ ?_ _ | with_reducible apply Ext.step | with_reducible assumption | with_reducible exact Nat.le_refl _ | (simp; done) | (simp; omega)))⟩
  have hne : ((L : Int) != W * H) = false := by simpa using h3
  have h3' : ((L : Int) == W * H) = true := by simpa using h3
  have H3 := Lib.hid h3
  clear h3
  cases h4 : allB (-100) 100 hs
  · go_enter Try.func72, Try.ntmps72
    go_wp2_with fail
    refine (lfrom_two _ W H _ _ _ _ (by go_cell) (by go_cell)).mono ?_
    rintro e _ ⟨rfl, hx⟩
    obtain ⟨δ, rfl⟩ : Ext (w.alloc (.cells #[.int .i64 W, .int .i64 H, .int .i64 P, .slice A L c] 37)) _ := Ext.trans (by (repeat' (first | with_reducible exact Ext.refl _ | with_reducible apply Ext.alloc | with_reducible apply Ext.drew | with_reducible apply Ext.drewN | with_reducible refine Ext.setCell ?_ ?_ _ | with_reducible apply Ext.step | with_reducible assumption | with_reducible exact Nat.le_refl _ | (simp; done) | (simp; omega)))) hx
    clear hx
    try (have hs0 := δ.lt (w.heap.size) (by first | (simp; done) | (simp; omega)))
    go_wp2_with fail
    refine (lfrom_one _ P _ _ _ _ (by go_cell)).mono ?_
    rintro e _ ⟨rfl, hx⟩
    obtain ⟨δ, rfl⟩ : Ext (w.alloc (.cells #[.int .i64 W, .int .i64 H, .int .i64 P, .slice A L c] 37)) _ := Ext.trans (by (repeat' (first | with_reducible exact Ext.refl _ | with_reducible apply Ext.alloc | with_reducible apply Ext.drew | with_reducible apply Ext.drewN | with_reducible refine Ext.setCell ?_ ?_ _ | with_reducible apply Ext.step | with_reducible assumption | with_reducible exact Nat.le_refl _ | (simp; done) | (simp; omega)))) hx
    clear hx
    try (have hs0 := δ.lt (w.heap.size) (by first | (simp; done) | (simp; omega)))
    go_wp2_with fail
    refine (HI.out _ (by (repeat' (first | with_reducible exact Ext.refl _ | with_reducible apply Ext.alloc | with_reducible apply Ext.drew | with_reducible apply Ext.drewN | with_reducible refine Ext.setCell ?_ ?_ _ | with_reducible apply Ext.step | with_reducible assumption | with_reducible exact Nat.le_refl _ | (simp; done) | (simp; omega))))).mono ?_
    rintro e _ ⟨rfl, hx⟩
    obtain ⟨δ, rfl⟩ : Ext (w.alloc (.cells #[.int .i64 W, .int .i64 H, .int .i64 P, .slice A L c] 37)) _ := Ext.trans (by (repeat' (first | with_reducible exact Ext.refl _ | with_reducible apply Ext.alloc | with_reducible apply Ext.drew | with_reducible apply Ext.drewN | with_reducible refine Ext.setCell ?_ ?_ _ | with_reducible apply Ext.step | with_reducible assumption | with_reducible exact Nat.le_refl _ | (simp; done) | (simp; omega)))) hx
    clear hx
    try (have hs0 := δ.lt (w.heap.size) (by first | (simp; done) | (simp; omega)))
    go_wp2_with fail
    go_ret2
    exact ⟨rfl, by (repeat' (first | with_reducible exact Ext.refl _ | with_reducible apply Ext.alloc | with_reducible apply Ext.drew | with_reducible apply Ext.drewN | with_reducible refine Ext.setCell ?_ ?_ _ | with_reducible apply Ext.step | with_reducible assumption | with_reducible exact Nat.le_refl _ | (simp; done) | (simp; omega)))⟩
  · exact absurd HB.out (by simp [surfB, h1, h2, h4, HL.out, H3.out])

/-- The surface is at work. -/
def OpenGood (n m : Nat) (P : Int) (hs : List Int) (w : World) (e : Ending) (w' : World) : Prop := ∃ B, e = .returned (.tuple #[.pointer (some ⟨B, 0, none⟩), .int .i64 0]) ∧ Fld w' B n m P hs ∧ w.heap.size ≤ B ∧ Ext w w'

theorem hA_bd {hs : List Int} (h : allB (-100) 100 hs = true) (i : Nat) : -100 ≤ hA hs i ∧ hA hs i ≤ 100 := by
  unfold hA
  rcases Nat.lt_or_ge i hs.length with hi | hi
  · rw [List.getElem?_eq_getElem hi]
    exact inB_iff.1 (List.all_eq_true.1 h _ (List.getElem_mem hi))
  · rw [List.getElem?_eq_none hi]
    decide

set_option maxRecDepth 100000 in
set_option maxHeartbeats 8000000 in
theorem open_good (n m : Nat) (P : Int) (hv : Value) (hs : List Int) (w : World) (hI : intK.Is w hv hs) (hb : surfB ((n : Int) + 1) ((m : Int) + 1) P hs = true) :
    Calls Try.prog 72 #[surfV ((n : Int) + 1) ((m : Int) + 1) P hv] w (OpenGood n m P hs w) := by
  obtain ⟨⟨a1, a2⟩, ⟨b1, b2⟩, ⟨p1, p2⟩, hlen, hall⟩ := surfB_iff.1 hb
  obtain ⟨m1, m2⟩ := mul_bd (a := (n : Int) + 1) (b := (m : Int) + 1) (A := 24) (B := 24) (by omega) a2 (by omega) b2
  have hl := hI.len
  unfold maxLen at hl
  have HII := Lib.hid hI
  have HI := Lib.hid fun (W0 : World) (x : Ext w W0) => (show Calls Try.prog 64 #[.int .i64 (-100), .int .i64 100, hv] W0 fun e w' => e = .returned (.bool true) ∧ Ext W0 w' by
    have := lfrom_list hv hs (-100) 100 W0 (hI.ext x)
    rwa [hall] at this)
  have HL := Lib.hid hlen
  have HA := Lib.hid hall
  obtain ⟨A, c, rfl, _⟩ := hI
  generalize hL : hs.length = L at *
  have HLL := Lib.hid hL
  have h1 : (inB 2 24 ((n : Int) + 1) && inB 2 24 ((m : Int) + 1)) = true := by simp [inB]; omega
  have h2 : inB 1 100 P = true := inB_iff.2 ⟨p1, p2⟩
  have h3 : ((L : Int) == ((n : Int) + 1) * ((m : Int) + 1)) = true := by simpa using hlen
  have h3' : ((L : Int) != ((n : Int) + 1) * ((m : Int) + 1)) = false := by simpa using hlen
  have H12 := Lib.hid fun (b : Nat) (W0 : World) (c0 : W0.cell? ⟨b, 0, none⟩ = some (.int .i64 ((n : Int) + 1))) (c1 : W0.cell? ⟨b, 1, none⟩ = some (.int .i64 ((m : Int) + 1))) => (show Calls Try.prog 64 #[.int .i64 2, .int .i64 24, .slice (some ⟨b, 0, none⟩) 2 2] W0 fun e w' => e = .returned (.bool true) ∧ Ext W0 w' by
    have := lfrom_two b _ _ 2 24 2 W0 c0 c1
    rwa [h1] at this)
  have H2 := Lib.hid fun (b : Nat) (W0 : World) (c0 : W0.cell? ⟨b, 0, none⟩ = some (.int .i64 P)) => (show Calls Try.prog 64 #[.int .i64 1, .int .i64 100, .slice (some ⟨b, 0, none⟩) 1 1] W0 fun e w' => e = .returned (.bool true) ∧ Ext W0 w' by
    have := lfrom_one b _ 1 100 1 W0 c0
    rwa [h2] at this)
  clear hL hlen hall hb h1 h2
  refine (callsIn_wide (n := 3)).1 ?_
  refine callsIn_of_wp_marks Try.func72 rfl trivial ?_ rfl
  simp only [Try.ntmps72, List.size_toArray, List.length_cons, List.length_nil, Nat.reduceAdd, Nat.reduceSub, Array.replicate_succ, Array.replicate_zero, List.push_toArray, List.append_toArray, List.nil_append, List.cons_append]
  have F1 : Fence.wide.fn 64 := trivial
  have F2 : Fence.wide.fn 108 := trivial
  gi_wp2
  refine (callsIn_wide.2 (H12.out _ _ (by go_cell) (by go_cell))).mono ?_
  rintro e _ ⟨rfl, hx⟩
  obtain ⟨δ, rfl⟩ : Ext (w.alloc (.cells #[.int .i64 ((n : Int) + 1), .int .i64 ((m : Int) + 1), .int .i64 P, .slice A L c] 37)) _ := Ext.trans (by (repeat' (first | with_reducible exact Ext.refl _ | with_reducible apply Ext.alloc | with_reducible apply Ext.drew | with_reducible apply Ext.drewN | with_reducible refine Ext.setCell ?_ ?_ _ | with_reducible apply Ext.step | with_reducible assumption | with_reducible exact Nat.le_refl _ | (simp; done) | (simp; omega)))) hx
  clear hx
  try (have hs0 := δ.lt (w.heap.size) (by first | (simp; done) | (simp; omega)))
  gi_wp2
  refine (callsIn_wide.2 (H2.out _ _ (by go_cell))).mono ?_
  rintro e _ ⟨rfl, hx⟩
  obtain ⟨δ, rfl⟩ : Ext (w.alloc (.cells #[.int .i64 ((n : Int) + 1), .int .i64 ((m : Int) + 1), .int .i64 P, .slice A L c] 37)) _ := Ext.trans (by (repeat' (first | with_reducible exact Ext.refl _ | with_reducible apply Ext.alloc | with_reducible apply Ext.drew | with_reducible apply Ext.drewN | with_reducible refine Ext.setCell ?_ ?_ _ | with_reducible apply Ext.step | with_reducible assumption | with_reducible exact Nat.le_refl _ | (simp; done) | (simp; omega)))) hx
  clear hx
  try (have hs0 := δ.lt (w.heap.size) (by first | (simp; done) | (simp; omega)))
  gi_wp2
  refine (callsIn_wide.2 (HI.out _ (by (repeat' (first | with_reducible exact Ext.refl _ | with_reducible apply Ext.alloc | with_reducible apply Ext.drew | with_reducible apply Ext.drewN | with_reducible refine Ext.setCell ?_ ?_ _ | with_reducible apply Ext.step | with_reducible assumption | with_reducible exact Nat.le_refl _ | (simp; done) | (simp; omega)))))).mono ?_
  rintro e W9 ⟨rfl, x9⟩
  have z0 : W9.cell? ⟨w.heap.size, 0, none⟩ = some (.int .i64 ((n : Int) + 1)) := x9.cell_some (by go_cell)
  have z1 : W9.cell? ⟨w.heap.size, 1, none⟩ = some (.int .i64 ((m : Int) + 1)) := x9.cell_some (by go_cell)
  have z2 : W9.cell? ⟨w.heap.size, 2, none⟩ = some (.int .i64 P) := x9.cell_some (by go_cell)
  have z3 : W9.cell? ⟨w.heap.size, 3, none⟩ = some (.slice A L c) := x9.cell_some (by go_cell)
  have X9 : Ext w W9 := Ext.trans (by (repeat' (first | with_reducible exact Ext.refl _ | with_reducible apply Ext.alloc | with_reducible apply Ext.drew | with_reducible apply Ext.drewN | with_reducible refine Ext.setCell ?_ ?_ _ | with_reducible apply Ext.step | with_reducible assumption | with_reducible exact Nat.le_refl _ | (simp; done) | (simp; omega)))) x9
  have HX9 := Lib.hid X9
  have hz := cell_lt z0
  clear x9 X9
  have F3 : Fence.wide.fn 77 := trivial
  gi_wp2
  refine (cells_in Fence.wide 2 trivial rfl _ _).mono ?_
  rintro e _ ⟨rfl, rfl⟩
  gi_wp2
  have X9 := HX9.out
  refine lay_in (fun W => Ext w W ∧ W.heap.size = W9.heap.size + 3 ∧ W.cell? ⟨W9.heap.size, 0, none⟩ = some (.int .i64 ((n : Int) + 1)) ∧ W.cell? ⟨W9.heap.size, 1, none⟩ = some (.int .i64 ((m : Int) + 1)) ∧ W.cell? ⟨W9.heap.size, 2, none⟩ = some (.int .i64 P) ∧
    W.cell? ⟨W9.heap.size, 3, none⟩ = some (.slice A L c) ∧ W.cell? ⟨W9.heap.size, 4, none⟩ = some (.slice none 0 0) ∧ W.frozen? ⟨W9.heap.size, 4, none⟩ = false ∧ W.cell? ⟨W9.heap.size + 1, 0, none⟩ = some (.pointer (some ⟨W9.heap.size, 0, none⟩)) ∧ W.cell? ⟨W9.heap.size + 1 + 1, 0, none⟩ = some (.pointer (some ⟨W9.heap.size, 0, none⟩)))
    ⟨by (repeat' (first | with_reducible exact Ext.refl _ | with_reducible apply Ext.alloc | with_reducible apply Ext.drew | with_reducible apply Ext.drewN | with_reducible refine Ext.setCell ?_ ?_ _ | with_reducible apply Ext.step | with_reducible assumption | with_reducible exact Nat.le_refl _ | (simp; done) | (simp; omega))), by simp, by go_cell, by go_cell, by go_cell, by go_cell, by go_cell, by go_simp, by go_cell, by go_cell⟩ ?_
  rintro W0 ⟨X0, hs0, b0, b1, b2, b3, b4, g4, bp, bs⟩
  have hle := HX9.out.bel.size
  have hFA : FieldAt W0 W9.heap.size n m P hs := ⟨b0, b1, b2, ⟨_, b3, HII.out.ext X0⟩, by omega, by omega, by omega, by omega, p1, p2, by rw [HLL.out]; have := HL.out; rw [← Int.natCast_inj]; simpa using this, hA_bd HA.out⟩
  have HFA := Lib.hid hFA
  have HX0 := Lib.hid X0
  have hn2 := hFA.n2
  have hm2 := hFA.m2
  have hn1 := hFA.n1
  clear X9 hFA X0 z0 z1 z2 z3 hz m1 m2 h3 h3'
  refine wpIn_rangeFunc_acc (K := intK) (Bx := W9.heap.size) (off := 4) (N := m * n) (fun j => midC n hs (cx n j) (cy n j)) rfl (by decide) (gf := 109) (lb := #[.pointer (some ⟨W9.heap.size + 1 + 1, 0, none⟩)]) rfl trivial (enters_of Try.func109 (by kernel_rfl) rfl)
    (cells_stops Fence.wide 2 trivial rfl (by decide) (W9.heap.size + 1 + 1) W9.heap.size W9.heap.size 4 n m hn1 hn2 hm2 W0 (by omega) (by omega) bs b0 b1) (fun _ => rfl) b4 g4 ?a1 ?assign ?body ?done
  case assign =>
    intro l x W K hK
    simp only [cellEnc]
    gi_wp2
    exact hK
  case body =>
    intro l ans x W sv hlen hA hc ho
    have k0 := hA.cell b0 (.inr (by decide))
    have k1 := hA.cell b1 (.inr (by decide))
    have k2 := hA.cell b2 (.inr (by decide))
    have k3 := hA.cell b3 (.inr (by decide))
    have kp := hA.cell bp (.inl (by omega))
    have hFW : FieldAt W W9.heap.size n m P hs := ⟨k0, k1, k2, ⟨_, k3, hA.is (HII.out.ext HX0.out) (fun a ha => by have := HII.out.blk (by rw [HFA.out.hl]; exact Nat.mul_pos (by omega) (by omega)) a ha; omega)⟩, hn1, hn2, HFA.out.m1, hm2, p1, p2, HFA.out.hl, HFA.out.hb⟩
    have hcx : cx n x.val < n := cx_lt hn1
    have hcy : cy n x.val < m := cy_lt x.isLt
    have HCO := Lib.hid (corners_any W9.heap.size n m P hs (cx n x.val) (cy n x.val) W hFW hcx hcy)
    obtain ⟨md, hmd⟩ : ∃ z, z = midC n hs (cx n x.val) (cy n x.val) := ⟨_, rfl⟩
    show Code.wpIn _ _ _ _ (AccPost intK W0 W9.heap.size 4 W sv (ans ++ [midC n hs (cx n x.val) (cy n x.val)])) _ _
    rw [← hmd]
    unfold midC at hmd
    have cb0 := HFA.out.hb (cy n x.val * (n + 1) + cx n x.val)
    have cb1 := HFA.out.hb (cy n x.val * (n + 1) + cx n x.val + 1)
    have cb2 := HFA.out.hb (cy n x.val * (n + 1) + cx n x.val + (n + 1))
    have cb3 := HFA.out.hb (cy n x.val * (n + 1) + cx n x.val + (n + 1) + 1)
    change -100 ≤ cor0 n hs (cx n x.val) (cy n x.val) ∧ cor0 n hs (cx n x.val) (cy n x.val) ≤ 100 at cb0
    change -100 ≤ cor1 n hs (cx n x.val) (cy n x.val) ∧ cor1 n hs (cx n x.val) (cy n x.val) ≤ 100 at cb1
    change -100 ≤ cor2 n hs (cx n x.val) (cy n x.val) ∧ cor2 n hs (cx n x.val) (cy n x.val) ≤ 100 at cb2
    change -100 ≤ cor3 n hs (cx n x.val) (cy n x.val) ∧ cor3 n hs (cx n x.val) (cy n x.val) ≤ 100 at cb3
    generalize cor0 n hs (cx n x.val) (cy n x.val) = r0 at *
    generalize cor1 n hs (cx n x.val) (cy n x.val) = r1 at *
    generalize cor2 n hs (cx n x.val) (cy n x.val) = r2 at *
    generalize cor3 n hs (cx n x.val) (cy n x.val) = r3 at *
    generalize cx n x.val = xx at *
    generalize cy n x.val = yy at *
    have HMD := Lib.hid hmd
    have HAA := Lib.hid hA
    have HO := Lib.hid ho
    have HC := Lib.hid hc
    clear hmd hA ho hc hFW k0 k1 k2 k3
    have hWs := HAA.out.but.size
    gi_wp2
    refine (CallsIn.inRound l (callsIn_wide.2 HCO.out)).mono ?_
    rintro e W1 ⟨rfl, x1⟩
    have HX1 := Lib.hid x1
    have hp1 := x1.cell_some kp
    have hc1 := x1.cell_some HC.out
    have hw1 := x1.bel.size
    clear x1 kp
    gi_wp2
    have X1 := HX1.out
    refine lay_in (fun Wc => Ext W Wc ∧ Wc.heap.size = W1.heap.size + 1 ∧ Wc.cell? ⟨W1.heap.size, 0, none⟩ = some (.int .i64 r0) ∧ Wc.cell? ⟨W1.heap.size, 1, none⟩ = some (.int .i64 r1) ∧ Wc.cell? ⟨W1.heap.size, 2, none⟩ = some (.int .i64 r2) ∧ Wc.cell? ⟨W1.heap.size, 3, none⟩ = some (.int .i64 r3) ∧
      Wc.cell? ⟨W9.heap.size + 1, 0, none⟩ = some (.pointer (some ⟨W9.heap.size, 0, none⟩)) ∧ Wc.cell? ⟨W9.heap.size, 4, none⟩ = some sv) ⟨by (repeat' (first | with_reducible exact Ext.refl _ | with_reducible apply Ext.alloc | with_reducible apply Ext.drew | with_reducible apply Ext.drewN | with_reducible refine Ext.setCell ?_ ?_ _ | with_reducible apply Ext.step | with_reducible assumption | with_reducible exact Nat.le_refl _ | (simp; done) | (simp; omega))), by simp, by go_cell, by go_cell, by go_cell, by go_cell, (X1.alloc _).cell_some (HAA.out.cell bp (.inl (by omega))), (X1.alloc _).cell_some HC.out⟩ ?_
    rintro Wc ⟨Xc, hsc, y0, y1, y2, y3, yp, ym⟩
    have hnot : ∀ b, b < W0.heap.size ∨ W.heap.size ≤ b → b ∉ sv.ownBlock.toList := fun b hb => notin_own (fun g hg => by have := HO.out.lt g hg; omega)
    have q0 := But.cells (D := sv.ownBlock.toList) y0 (hnot _ (.inr (by omega)))
    have q1 := But.cells (D := sv.ownBlock.toList) y1 (hnot _ (.inr (by omega)))
    have q2 := But.cells (D := sv.ownBlock.toList) y2 (hnot _ (.inr (by omega)))
    have q3 := But.cells (D := sv.ownBlock.toList) y3 (hnot _ (.inr (by omega)))
    have qp := But.cells (D := sv.ownBlock.toList) yp (hnot _ (.inl (by omega)))
    have qm := But.cells (D := sv.ownBlock.toList) ym (hnot _ (.inl (by omega)))
    have i1 : IntKind.i64.wrap (r0 + r1) = r0 + r1 := IntWalk.i64_in _ (by omega)
    have i2 : IntKind.i64.wrap (r0 + r1 + r2) = r0 + r1 + r2 := IntWalk.i64_in _ (by omega)
    have i3 : IntKind.i64.wrap (r0 + r1 + r2 + r3) = r0 + r1 + r2 + r3 := IntWalk.i64_in _ (by omega)
    have HXc := Lib.hid Xc
    have HYM := Lib.hid ym
    clear y0 y1 y2 y3 yp ym hp1 hc1 X1 Xc hnot HX1
    refine wpIn_region_pull sv.ownBlock.toList 18 [0, 1, 2, 3, 4, 5, 6, 7, 8, 9, 10, 11, 12, 13, 14, 15] [16, 17] (by kernel_rfl) (by kernel_rfl) ?_
    repeat (refine wpQD_step (by rfl) (fun _ _ _ => trivial) (fun K hK => ?_); go_simp; refine hK _ ?_; clear hK K)
    refine wpQD_nil ?_
    refine wpMD_step (by rfl) (fun _ _ _ => trivial) (fun δ K hK => ?_)
    go_simp
    refine ⟨((Ext.refl _).alloc _).but, hK _ _ ?_⟩
    clear hK K
    have Xd : Ext W δ.wd := HXc.out.trans ⟨δ, rfl⟩
    refine EK.app_mid (K := intK) (B := W0.heap.size) (xs := ans) (by rfl) rfl (.tmp 54) (.tmp 66) rfl δ.wd.heap.size 1 (r0 + r1 + r2 + r3) rfl rfl (fun i u hu => cell_new hu) (HO.out.ext (Xd.alloc _)) (Nat.le_trans hWs (Xd.alloc _).bel.size) (by have := Nat.mul_le_mul hm2 hn2; omega) ?_
    intro v' w2 w3 o3 x2 g3
    rw [← HMD.out] at o3
    obtain ⟨Av, kv, cv, rfl⟩ := o3.shape
    refine wpMD_nil ?_
    intro w4 x4
    have e2 := ((Xd.alloc _).trans x2).cell_some HC.out
    have e3 := g3.cell e2 (fun e => by have := HO.out.lt _ e.symm; simp at this; omega)
    have f3 : w3.frozen? ⟨W9.heap.size, 4, none⟩ = false := by
      rw [← ((Xd.alloc _).trans x2).frozen HC.out HAA.out.fr]
      exact World.frozen?_of_block (g3.block W9.heap.size (cell_lt e2) (fun e => by have := HO.out.lt _ e.symm; omega))
    have f4 := x4.frozen e3 f3
    have e4 := x4.cell_some e3
    have HX2 := Lib.hid ((Xd.alloc _).trans x2)
    have HX4 := Lib.hid x4
    have HG3 := Lib.hid g3
    have HO3 := Lib.hid o3
    clear e2 e3 f3 x2 x4 g3 o3 qp qm q0 q1 q2 q3 i1 i2 i3
    have l4 := cell_lt e4
    simp only [List.drop_succ_cons, List.drop_zero]
    gi_wp2
    exact ⟨_, _, _, _, HX2.out, HG3.out, HO3.out, HX4.out, Ext.refl _⟩
  case done =>
    intro D W sv hD hA hc ho hK
    have kp := hA.cell bp (.inl (by omega))
    have k0 := hA.cell b0 (.inr (by decide))
    have k1 := hA.cell b1 (.inr (by decide))
    have k2 := hA.cell b2 (.inr (by decide))
    have k3 := hA.cell b3 (.inr (by decide))
    have hFW : FieldAt W W9.heap.size n m P hs := ⟨k0, k1, k2, ⟨_, k3, hA.is (HII.out.ext HX0.out) (fun a ha => by have := HII.out.blk (by rw [HFA.out.hl]; exact Nat.mul_pos (by omega) (by omega)) a ha; omega)⟩, hn1, hn2, HFA.out.m1, hm2, p1, p2, HFA.out.hl, HFA.out.hb⟩
    have HFW := Lib.hid hFW
    have HO := Lib.hid ho
    have HAA := Lib.hid hA
    have HK := Lib.hid hK
    have HC := Lib.hid hc
    clear hFW hA ho k0 k1 k2 k3 hc hK
    gi_wp2
    refine leaves_marks [D] W (by simp) (mark_one HK.out) (fun W' hW => ⟨_, results_tmp2 rfl _ _ _, W9.heap.size, rfl, ⟨HFW.out.cells (hW.cells (mark_one HK.out)) (fun _ _ => trivial), sv, hW.cell (mark_one HK.out) HC.out, (HO.out.put hW (mark_one HK.out)).is⟩, hle, hW.ext (HAA.out.but.below HX0.out (by simpa using hle)) (by have := HX0.out.bel.size; simp; omega)⟩)
end Go.Proofs.Ytlljhimaopnbfaa
