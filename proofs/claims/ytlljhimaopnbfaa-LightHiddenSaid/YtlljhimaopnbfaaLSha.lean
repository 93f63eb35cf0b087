/- light.at and shadow. Conditions: a field lies there; bounds. -/
import Derived.Test.YtlljhimaopnbfaaQS
import Derived.Test.YtlljhimaopnbfaaLX
import Derived.Test.YtlljhimaopnbfaaLPl
namespace Go.Proofs.Ytlljhimaopnbfaa
open Go.RowKit Go.Shelf

attribute [local go_sem] Oper.semAt_some

theorem lfrom_one' (x lo hi : Int) (b c : Nat) (w : World) (h : w.cell? ⟨b, 0, none⟩ = some (.int .i64 x)) {r : Bool} (hr : inB lo hi x = r) :
    Calls Try.prog 64 #[.int .i64 lo, .int .i64 hi, .slice (some ⟨b, 0, none⟩) 1 c] w fun e w' => e = .returned (.bool r) ∧ Ext w w' := by
  have := lfrom_one b x lo hi c w h
  rwa [hr] at this

set_option maxRecDepth 100000 in
set_option maxHeartbeats 4000000 in
theorem at_any (B n m : Nat) (p : Int) (hs : List Int) (x y : Int) (w : World) (hF : FieldAt w B n m p hs) (hx1 : -1000 ≤ x) (hx2 : x ≤ 1000) (hy1 : -1000 ≤ y) (hy2 : y ≤ 1000) :
    Calls Try.prog 110 #[.pointer (some ⟨B, 0, none⟩), .int .i64 x, .int .i64 y] w fun e w' => e = .returned (.tuple #[.int .i64 (y * (n : Int) + x), .bool (inC n m x y)]) ∧ Ext w w' := by
  have g0 := But.cells (D := []) hF.fw (by simp)
  have g1 := But.cells (D := []) hF.fh (by simp)
  have e0 := hF.fw
  have e1 := hF.fh
  have hB := cell_lt e0
  have hn1 := hF.n1
  have hn2 := hF.n2
  have hm1 := hF.m1
  have hm2 := hF.m2
  clear hF
  obtain ⟨a1, a2⟩ := abs_mul_bd (A := 1000) (B := 23) hy1 hy2 (show -23 ≤ (n : Int) by omega) (show (n : Int) ≤ 23 by omega)
  have i0 : IntKind.i64.wrap (n : Int) = n := IntWalk.i64_in _ (by omega)
  have i1 : IntKind.i64.wrap (y * (n : Int)) = y * n := IntWalk.i64_in _ (by omega)
  have i2 : IntKind.i64.wrap (y * (n : Int) + x) = y * n + x := IntWalk.i64_in _ (by omega)
  have i3 : IntKind.i64.wrap ((n : Int) + 1 - 2) = (n : Int) - 1 := by rw [IntWalk.i64_in _ (by omega)]; omega
  have i4 : IntKind.i64.wrap ((m : Int) + 1 - 2) = (m : Int) - 1 := by rw [IntWalk.i64_in _ (by omega)]; omega
  have F1 : Fence.wide.fn 64 := trivial
  have HR := Lib.hid (show inC n m x y = (inB 0 ((n : Int) - 1) x && inB 0 ((m : Int) - 1) y) from rfl)
  refine (callsIn_wide (n := 3)).1 ?_
  refine callsIn_of_wp Try.func110 rfl trivial ?_ rfl
  simp only [Try.ntmps110, List.size_toArray, List.length_cons, List.length_nil, Nat.reduceAdd, Nat.reduceSub, Array.replicate_succ, Array.replicate_zero, List.push_toArray, List.append_toArray, List.nil_append, List.cons_append]
  gi_wp2
  cases h1 : inB 0 ((n : Int) - 1) x
  · have H1 := Lib.hid h1
    clear h1
    refine wpIn_region_steps [] 31 [(0, true), (1, true), (2, true), (3, true), (4, true), (5, true), (6, true), (7, true), (8, true), (9, true), (10, true), (11, true), (12, true), (13, true), (14, true), (15, true), (16, true), (17, false), (18, false), (19, false), (20, true), (21, true), (22, true), (23, true), (24, true), (25, true), (26, true), (27, false), (28, false), (29, true), (30, false)] (by kernel_rfl) (by kernel_rfl) ?_
    repeat (refine wpSD_q (by rfl) (fun _ _ _ => trivial) (fun K hK => ?_); go_simp; refine hK _ ?_; clear hK K)
    refine wpSD_m (by rfl) (fun _ _ _ => trivial) (fun δ K hK => ?_)
    go_simp
    refine ⟨((Ext.refl _).alloc _).but, hK _ _ ?_⟩
    clear hK K
    refine wpSD_m (by rfl) (fun _ _ _ => trivial) (fun δ2 K hK => ?_)
    go_simp
    refine (callsIn_wide.2 (lfrom_one' x _ _ _ _ _ (by go_cell) H1.out)).mono ?_
    rintro e w3 ⟨rfl, x3⟩
    refine ⟨_, rfl, x3.but, hK _ _ ?_⟩
    have X3 : Ext w w3 := Ext.trans (by (repeat' (first | with_reducible exact Ext.refl _ | with_reducible apply Ext.alloc | with_reducible apply Ext.drew | with_reducible apply Ext.drewN | with_reducible refine Ext.setCell ?_ ?_ _ | with_reducible apply Ext.step | with_reducible assumption | with_reducible exact Nat.le_refl _ | (simp; done) | (simp; omega)))) x3
    clear hK K x3
    refine wpSD_m (by rfl) (fun _ _ _ => trivial) (fun δ3 K hK => ?_)
    go_simp
    refine ⟨(Ext.refl _).but, hK _ _ ?_⟩
    clear hK K
    have X4 : Ext w δ3.wd := X3.trans ⟨δ3, rfl⟩
    clear g0 g1
    have g1 := But.cells (D := []) (X4.cell_some e1) (by simp)
    repeat (refine wpSD_q (by rfl) (fun _ _ _ => trivial) (fun K hK => ?_); go_simp; refine hK _ ?_; clear hK K)
    refine wpSD_m (by rfl) (fun _ _ _ => trivial) (fun δ5 K hK => ?_)
    go_simp
    refine hK _ _ ?_
    clear hK K
    refine wpSD_m (by rfl) (fun _ _ _ => trivial) (fun δ6 K hK => ?_)
    go_simp
    refine hK _ _ ?_
    clear hK K
    refine wpSD_q (by rfl) (fun _ _ _ => trivial) (fun K hK => ?_)
    go_simp
    refine hK _ ?_
    clear hK K
    refine wpSD_m (by rfl) (fun _ _ _ => trivial) (fun δ7 K hK => ?_)
    go_simp
    refine ⟨(Ext.refl _).but, hK _ _ ?_⟩
    clear hK K
    have XX : Ext w δ7.wd := ((X4.trans ⟨δ5, rfl⟩).trans ⟨δ6, rfl⟩).trans ⟨δ7, rfl⟩
    refine wpSD_nil ?_
    intro w9 x9
    have HX9 := Lib.hid (XX.trans x9)
    clear x9 XX
    simp only [List.drop_succ_cons, List.drop_zero]
    gi_wp2
    go_ret2
    exact ⟨by rw [HR.out, H1.out]; rfl, HX9.out⟩
  · have H1 := Lib.hid h1
    clear h1
    cases h2 : inB 0 ((m : Int) - 1) y
    all_goals
      have H2 := Lib.hid h2
      clear h2
      refine wpIn_region_steps [] 31 [(0, true), (1, true), (2, true), (3, true), (4, true), (5, true), (6, true), (7, true), (8, true), (9, true), (10, true), (11, true), (12, true), (13, true), (14, true), (15, true), (16, true), (17, false), (18, false), (19, false), (20, true), (21, true), (22, true), (23, true), (24, true), (25, true), (26, true), (27, false), (28, false), (29, true), (30, false)] (by kernel_rfl) (by kernel_rfl) ?_
      repeat (refine wpSD_q (by rfl) (fun _ _ _ => trivial) (fun K hK => ?_); go_simp; refine hK _ ?_; clear hK K)
      refine wpSD_m (by rfl) (fun _ _ _ => trivial) (fun δ K hK => ?_)
      go_simp
      refine ⟨((Ext.refl _).alloc _).but, hK _ _ ?_⟩
      clear hK K
      refine wpSD_m (by rfl) (fun _ _ _ => trivial) (fun δ2 K hK => ?_)
      go_simp
      refine (callsIn_wide.2 (lfrom_one' x _ _ _ _ _ (by go_cell) H1.out)).mono ?_
      rintro e w3 ⟨rfl, x3⟩
      refine ⟨_, rfl, x3.but, hK _ _ ?_⟩
      have X3 : Ext w w3 := Ext.trans (by (repeat' (first | with_reducible exact Ext.refl _ | with_reducible apply Ext.alloc | with_reducible apply Ext.drew | with_reducible apply Ext.drewN | with_reducible refine Ext.setCell ?_ ?_ _ | with_reducible apply Ext.step | with_reducible assumption | with_reducible exact Nat.le_refl _ | (simp; done) | (simp; omega)))) x3
      clear hK K x3
      refine wpSD_m (by rfl) (fun _ _ _ => trivial) (fun δ3 K hK => ?_)
      go_simp
      refine ⟨(Ext.refl _).but, hK _ _ ?_⟩
      clear hK K
      have X4 : Ext w δ3.wd := X3.trans ⟨δ3, rfl⟩
      clear g0 g1
      have g1 := But.cells (D := []) (X4.cell_some e1) (by simp)
      repeat (refine wpSD_q (by rfl) (fun _ _ _ => trivial) (fun K hK => ?_); go_simp; refine hK _ ?_; clear hK K)
      refine wpSD_m (by rfl) (fun _ _ _ => trivial) (fun δ5 K hK => ?_)
      go_simp
      refine ⟨((Ext.refl _).alloc _).but, hK _ _ ?_⟩
      clear hK K
      refine wpSD_m (by rfl) (fun _ _ _ => trivial) (fun δ6 K hK => ?_)
      go_simp
      refine (callsIn_wide.2 (lfrom_one' y _ _ _ _ _ (by go_cell) H2.out)).mono ?_
      rintro e w6 ⟨rfl, x6⟩
      refine ⟨_, rfl, x6.but, hK _ _ ?_⟩
      have X6 : Ext w w6 := Ext.trans (by (repeat' (first | with_reducible exact Ext.refl _ | with_reducible apply Ext.alloc | with_reducible apply Ext.drew | with_reducible apply Ext.drewN | with_reducible refine Ext.setCell ?_ ?_ _ | with_reducible apply Ext.step | with_reducible assumption | with_reducible exact Nat.le_refl _ | (simp; done) | (simp; omega)))) x6
      clear hK K x6
      refine wpSD_q (by rfl) (fun _ _ _ => trivial) (fun K hK => ?_)
      go_simp
      refine hK _ ?_
      clear hK K
      refine wpSD_m (by rfl) (fun _ _ _ => trivial) (fun δ7 K hK => ?_)
      go_simp
      refine ⟨(Ext.refl _).but, hK _ _ ?_⟩
      clear hK K
      have XX : Ext w δ7.wd := X6.trans ⟨δ7, rfl⟩
      refine wpSD_nil ?_
      intro w9 x9
      have HX9 := Lib.hid (XX.trans x9)
      clear x9 XX
      simp only [List.drop_succ_cons, List.drop_zero]
      gi_wp2
      go_ret2
      exact ⟨by rw [HR.out, H1.out, H2.out]; rfl, HX9.out⟩

theorem gL_le {lx ly : Int} (h1 : -30 ≤ lx) (h2 : lx ≤ 30) (h3 : -30 ≤ ly) (h4 : ly ≤ 30) : gL lx ly ≤ 30 := by
  by_cases hx : lx = 0
  · by_cases hy : ly = 0
    · rw [gL_zero.2 ⟨hx, hy⟩]
      decide
    · have := Int.le_of_dvd (show 0 < (ly.natAbs : Int) by omega) (show gL lx ly ∣ (ly.natAbs : Int) from Int.dvd_natAbs.2 (Int.gcd_dvd_right lx ly))
      omega
  · have := Int.le_of_dvd (show 0 < (lx.natAbs : Int) by omega) (show gL lx ly ∣ (lx.natAbs : Int) from Int.dvd_natAbs.2 (Int.gcd_dvd_left lx ly))
    omega
theorem quo_bd {g d a : Int} (hg : 1 ≤ g) (h : g * d = a) (h1 : -30 ≤ a) (h2 : a ≤ 30) : -30 ≤ d ∧ d ≤ 30 := by
  have e := congrArg Int.natAbs h
  rw [Int.natAbs_mul] at e
  have : d.natAbs ≤ g.natAbs * d.natAbs := Nat.le_mul_of_pos_left _ (by omega)
  omega
theorem mid_bd {w : World} {B n m : Nat} {p : Int} {hs : List Int} (h : FieldAt w B n m p hs) (x y : Nat) : -400 ≤ midC n hs x y ∧ midC n hs x y ≤ 400 := by
  obtain ⟨h0, h1, h2, h3⟩ := cor_bd h x y
  unfold midC
  omega
theorem mids_at {n m : Nat} {hs : List Int} {x y : Nat} (hx : x < n) (hy : y < m) : hA (midsL n m hs) (y * n + x) = midC n hs x y := by
  have h : y * n + x < m * n := by
    have : (y + 1) * n ≤ m * n := Nat.mul_le_mul_right _ hy
    rw [Nat.succ_mul] at this
    omega
  rw [hA, midsL, List.getElem?_map, List.getElem?_range h]
  simp [cx_at hx, cy_at hx]

end Go.Proofs.Ytlljhimaopnbfaa
