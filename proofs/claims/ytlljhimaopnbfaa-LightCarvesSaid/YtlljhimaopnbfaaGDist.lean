/- groove's near, Distance, Apart. Conditions: the slices read as lists. -/
import Derived.Test.YtlljhimaopnbfaaGFar
namespace Go.Proofs.Ytlljhimaopnbfaa
open Go.RowKit

theorem spotK_cells {w : World} {v : Value} {xs : List (Int × Int)} (h : spotK.Is w v xs) (h1 : 1 ≤ xs.length) :
    ∃ b o c, v = .slice (some ⟨b, o, none⟩) xs.length c ∧ xs.length ≤ c ∧ c ≤ maxLen ∧ ∀ i (h : i < xs.length), w.cell? ⟨b, o + i * 2, none⟩ = some (.int .i64 xs[i].1) ∧ w.cell? ⟨b, o + i * 2 + 1, none⟩ = some (.int .i64 xs[i].2) := by
  obtain ⟨A, c, rfl, _, hc, hr⟩ := h
  obtain ⟨b, o, rfl, _⟩ := hr 0 (by omega)
  refine ⟨b, o, c, rfl, hc.1, hc.2, fun i hi => ?_⟩
  obtain ⟨b', o', he, _, h2, h3⟩ := spotK_at hr hi
  simp only [Option.some.injEq, Addr.mk.injEq, and_true] at he
  obtain ⟨rfl, rfl⟩ := he
  exact ⟨h2, h3⟩

theorem lineB_iff {xs : List (Int × Int)} : lineB xs = true ↔ (∀ s ∈ xs, (-10000 ≤ s.1 ∧ s.1 ≤ 10000) ∧ -10000 ≤ s.2 ∧ s.2 ≤ 10000) ∧ 1 ≤ xs.length ∧ xs.length ≤ 12 := by
  simp only [lineB, Bool.and_eq_true, List.all_eq_true, spotOk, inB_iff]
  exact ⟨fun ⟨h, a, b⟩ => ⟨h, by omega, by omega⟩, fun ⟨h, a, b⟩ => ⟨h, by omega, by omega⟩⟩
theorem lineB_co {xs : List (Int × Int)} (h : lineB xs = true) : ∀ s ∈ xs, CoP s := fun s hs => by
  obtain ⟨⟨h1, h2⟩, h3, h4⟩ := (lineB_iff.1 h).1 s hs
  exact ⟨⟨by omega, by omega⟩, by omega, by omega⟩
theorem lineB_len {xs : List (Int × Int)} (h : lineB xs = true) : 1 ≤ xs.length ∧ xs.length ≤ 1000 := by
  have := (lineB_iff.1 h).2
  omega

theorem farK_any (v u : Value) (xs ys : List (Int × Int)) (w : World) (hx : spotK.Is w v xs) (hy : spotK.Is w u ys) (hl : 1 ≤ xs.length ∧ xs.length ≤ 1000) (hl' : 1 ≤ ys.length ∧ ys.length ≤ 1000) (hcx : ∀ s ∈ xs, CoP s) (hcy : ∀ s ∈ ys, CoP s) :
    Calls Try.prog 113 #[v, u] w fun e w' => e = .returned (V2 (farL xs ys).1 (farL xs ys).2) ∧ Ext w w' := by
  obtain ⟨b, o, c, rfl, h1, h2, h3⟩ := spotK_cells hx hl.1
  obtain ⟨b', o', c', rfl, h1', h2', h3'⟩ := spotK_cells hy hl'.1
  exact far_any b o _ c b' o' _ c' xs ys w rfl hl.1 hl.2 h1 h2 rfl hl'.1 hl'.2 h1' h2' h3 h3' hcx hcy

/-- The lines come nearer than n. -/
def nearB (xs ys : List (Int × Int)) (n : Int) : Bool := decide ((farL xs ys).1 < n * n * (farL xs ys).2)

set_option maxHeartbeats 1000000 in
theorem near_any (v u : Value) (xs ys : List (Int × Int)) (n : Int) (w : World) (hx : spotK.Is w v xs) (hy : spotK.Is w u ys) (hl : 1 ≤ xs.length ∧ xs.length ≤ 1000) (hl' : 1 ≤ ys.length ∧ ys.length ≤ 1000) (hcx : ∀ s ∈ xs, CoP s) (hcy : ∀ s ∈ ys, CoP s)
    (hn : 0 ≤ n) (hn2 : n ≤ 1000000000) : Calls Try.prog 104 #[v, u, .int .i64 n] w fun e w' => e = .returned (.bool (nearB xs ys n)) ∧ Ext w w' := by
  have hf := (far_eq hcx hcy).1
  have HF := Lib.hid (farK_any v u xs ys w hx hy hl hl' hcx hcy)
  obtain ⟨n1, n2⟩ : 0 ≤ n * n ∧ n * n ≤ 1000000000000000000 := by
    have := Int.mul_le_mul hn2 hn2 hn (by omega)
    exact ⟨sq_nn n, by omega⟩
  have HL := Lib.hid fun W : World => less_any (farL xs ys).1 (farL xs ys).2 (n * n) 1 W hf.up.1 hf.up.2 ⟨n1, by omega⟩ ⟨by decide, by decide⟩
  clear hf hx hy hl hl' hcx hcy
  go_enter Try.func104, Try.ntmps104
  go_wp2_with fail
  refine HF.out.mono ?_
  rintro e W1 ⟨rfl, x1⟩
  go_wp2_with fail
  refine (HL.out _).mono ?_
  rintro e W2 ⟨rfl, x2⟩
  have HX := Lib.hid (x1.trans x2)
  clear x1 x2
  go_wp2_with fail
  go_ret
  exact ⟨rfl, HX.out⟩

def distE (xs ys : List (Int × Int)) : Int := if lineB xs && lineB ys then 0 else 2
def distP (xs ys : List (Int × Int)) : Int × Int := if lineB xs && lineB ys then lowF (farL xs ys).1 (farL xs ys).2 else (0, 0)
def apE (xs ys : List (Int × Int)) (n : Int) : Int := if (lineB xs && lineB ys) && inB 0 30000 n then 0 else 2
def apB (xs ys : List (Int × Int)) (n : Int) : Bool := if (lineB xs && lineB ys) && inB 0 30000 n then !nearB xs ys n else false

theorem gcdG_step (x y : Int) : Int.gcd y (x.tmod y) = Int.gcd x y := by
  simp [Int.gcd, Int.natAbs_tmod]
  rw [Nat.gcd_comm, ← Nat.gcd_rec]
  exact Nat.gcd_comm _ _
def GcdG (a b x y : Int) : Prop := Int.gcd x y = Int.gcd a b

set_option maxRecDepth 100000 in
set_option maxHeartbeats 4000000 in
theorem distance_any (v u : Value) (xs ys : List (Int × Int)) (w : World) (hx : spotK.Is w v xs) (hy : spotK.Is w u ys) :
    Calls Try.prog 86 #[v, u] w fun e w' => e = .returned (.tuple #[V2 (distP xs ys).1 (distP xs ys).2, .int .i64 (distE xs ys)]) ∧ Ext w w' := by
  have HX := Lib.hid hx
  have HY := Lib.hid hy
  obtain ⟨A, k, c, rfl, _⟩ := hx.open_
  obtain ⟨A', k', c', rfl, _⟩ := hy.open_
  clear hx hy
  cases h1 : lineB xs
  · have HE := Lib.hid (show distE xs ys = 2 by simp [distE, h1])
    have HP := Lib.hid (show distP xs ys = (0, 0) by simp [distP, h1])
    have HL := Lib.hid fun (W : World) (x : Ext w W) => isLine_any _ xs W (HX.out.ext x)
    rw [h1] at HL
    go_enter Try.func86, Try.ntmps86
    go_wp2_with fail
    refine (HL.out _ (by (repeat' (first | with_reducible exact Ext.refl _ | with_reducible apply Ext.alloc | with_reducible apply Ext.drew | with_reducible apply Ext.drewN | with_reducible refine Ext.setCell ?_ ?_ _ | with_reducible apply Ext.step | with_reducible assumption | with_reducible exact Nat.le_refl _ | (simp; done) | (simp; omega))))).mono ?_
    rintro e _ ⟨rfl, hx⟩
    obtain ⟨δ, rfl⟩ : Ext (w.alloc (.cells #[.int .i64 0, .int .i64 0] 144)) _ := Ext.trans (by (repeat' (first | with_reducible exact Ext.refl _ | with_reducible apply Ext.alloc | with_reducible apply Ext.drew | with_reducible apply Ext.drewN | with_reducible refine Ext.setCell ?_ ?_ _ | with_reducible apply Ext.step | with_reducible assumption | with_reducible exact Nat.le_refl _ | (simp; done) | (simp; omega)))) hx
    clear hx
    try (have hs0 := δ.lt (w.heap.size) (by first | (simp; done) | (simp; omega)))
    go_wp2_with fail
    go_returns
    exact ⟨by rw [HE.out, HP.out], by (repeat' (first | with_reducible exact Ext.refl _ | with_reducible apply Ext.alloc | with_reducible apply Ext.drew | with_reducible apply Ext.drewN | with_reducible refine Ext.setCell ?_ ?_ _ | with_reducible apply Ext.step | with_reducible assumption | with_reducible exact Nat.le_refl _ | (simp; done) | (simp; omega)))⟩
  have HL := Lib.hid fun (W : World) (x : Ext w W) => isLine_any _ xs W (HX.out.ext x)
  have HM := Lib.hid fun (W : World) (x : Ext w W) => isLine_any _ ys W (HY.out.ext x)
  rw [h1] at HL
  cases h2 : lineB ys
  · have HE := Lib.hid (show distE xs ys = 2 by simp [distE, h1, h2])
    have HP := Lib.hid (show distP xs ys = (0, 0) by simp [distP, h1, h2])
    rw [h2] at HM
    go_enter Try.func86, Try.ntmps86
    go_wp2_with fail
    refine (HL.out _ (by (repeat' (first | with_reducible exact Ext.refl _ | with_reducible apply Ext.alloc | with_reducible apply Ext.drew | with_reducible apply Ext.drewN | with_reducible refine Ext.setCell ?_ ?_ _ | with_reducible apply Ext.step | with_reducible assumption | with_reducible exact Nat.le_refl _ | (simp; done) | (simp; omega))))).mono ?_
    rintro e _ ⟨rfl, hx⟩
    obtain ⟨δ, rfl⟩ : Ext (w.alloc (.cells #[.int .i64 0, .int .i64 0] 144)) _ := Ext.trans (by (repeat' (first | with_reducible exact Ext.refl _ | with_reducible apply Ext.alloc | with_reducible apply Ext.drew | with_reducible apply Ext.drewN | with_reducible refine Ext.setCell ?_ ?_ _ | with_reducible apply Ext.step | with_reducible assumption | with_reducible exact Nat.le_refl _ | (simp; done) | (simp; omega)))) hx
    clear hx
    try (have hs0 := δ.lt (w.heap.size) (by first | (simp; done) | (simp; omega)))
    go_wp2_with fail
    refine (HM.out _ (by (repeat' (first | with_reducible exact Ext.refl _ | with_reducible apply Ext.alloc | with_reducible apply Ext.drew | with_reducible apply Ext.drewN | with_reducible refine Ext.setCell ?_ ?_ _ | with_reducible apply Ext.step | with_reducible assumption | with_reducible exact Nat.le_refl _ | (simp; done) | (simp; omega))))).mono ?_
    rintro e _ ⟨rfl, hx⟩
    obtain ⟨δ, rfl⟩ : Ext (w.alloc (.cells #[.int .i64 0, .int .i64 0] 144)) _ := Ext.trans (by (repeat' (first | with_reducible exact Ext.refl _ | with_reducible apply Ext.alloc | with_reducible apply Ext.drew | with_reducible apply Ext.drewN | with_reducible refine Ext.setCell ?_ ?_ _ | with_reducible apply Ext.step | with_reducible assumption | with_reducible exact Nat.le_refl _ | (simp; done) | (simp; omega)))) hx
    clear hx
    try (have hs0 := δ.lt (w.heap.size) (by first | (simp; done) | (simp; omega)))
    go_wp2_with fail
    go_returns
    exact ⟨by rw [HE.out, HP.out], by (repeat' (first | with_reducible exact Ext.refl _ | with_reducible apply Ext.alloc | with_reducible apply Ext.drew | with_reducible apply Ext.drewN | with_reducible refine Ext.setCell ?_ ?_ _ | with_reducible apply Ext.step | with_reducible assumption | with_reducible exact Nat.le_refl _ | (simp; done) | (simp; omega)))⟩
  rw [h2] at HM
  have HE := Lib.hid (show distE xs ys = 0 by simp [distE, h1, h2])
  have HP := Lib.hid (show distP xs ys = lowF (farL xs ys).1 (farL xs ys).2 by simp [distP, h1, h2])
  have HF := Lib.hid fun (W : World) (x : Ext w W) => farK_any _ _ xs ys W (HX.out.ext x) (HY.out.ext x) (lineB_len h1) (lineB_len h2) (lineB_co h1) (lineB_co h2)
  have hb := (far_eq (lineB_co h1) (lineB_co h2)).1
  generalize farL xs ys = fa at *
  obtain ⟨p, q⟩ := fa
  obtain ⟨hp0, hp1, hq0, hq1⟩ := hb
  simp only at hp0 hp1 hq0 hq1
  clear h1 h2
  go_enter Try.func86, Try.ntmps86
  go_wp2_with fail
  refine (HL.out _ (by (repeat' (first | with_reducible exact Ext.refl _ | with_reducible apply Ext.alloc | with_reducible apply Ext.drew | with_reducible apply Ext.drewN | with_reducible refine Ext.setCell ?_ ?_ _ | with_reducible apply Ext.step | with_reducible assumption | with_reducible exact Nat.le_refl _ | (simp; done) | (simp; omega))))).mono ?_
  rintro e _ ⟨rfl, hx⟩
  obtain ⟨δ, rfl⟩ : Ext (w.alloc (.cells #[.int .i64 0, .int .i64 0] 144)) _ := Ext.trans (by (repeat' (first | with_reducible exact Ext.refl _ | with_reducible apply Ext.alloc | with_reducible apply Ext.drew | with_reducible apply Ext.drewN | with_reducible refine Ext.setCell ?_ ?_ _ | with_reducible apply Ext.step | with_reducible assumption | with_reducible exact Nat.le_refl _ | (simp; done) | (simp; omega)))) hx
  clear hx
  try (have hs0 := δ.lt (w.heap.size) (by first | (simp; done) | (simp; omega)))
  go_wp2_with fail
  refine (HM.out _ (by (repeat' (first | with_reducible exact Ext.refl _ | with_reducible apply Ext.alloc | with_reducible apply Ext.drew | with_reducible apply Ext.drewN | with_reducible refine Ext.setCell ?_ ?_ _ | with_reducible apply Ext.step | with_reducible assumption | with_reducible exact Nat.le_refl _ | (simp; done) | (simp; omega))))).mono ?_
  rintro e _ ⟨rfl, hx⟩
  obtain ⟨δ, rfl⟩ : Ext (w.alloc (.cells #[.int .i64 0, .int .i64 0] 144)) _ := Ext.trans (by (repeat' (first | with_reducible exact Ext.refl _ | with_reducible apply Ext.alloc | with_reducible apply Ext.drew | with_reducible apply Ext.drewN | with_reducible refine Ext.setCell ?_ ?_ _ | with_reducible apply Ext.step | with_reducible assumption | with_reducible exact Nat.le_refl _ | (simp; done) | (simp; omega)))) hx
  clear hx
  try (have hs0 := δ.lt (w.heap.size) (by first | (simp; done) | (simp; omega)))
  go_wp2_with fail
  refine (HF.out _ (by (repeat' (first | with_reducible exact Ext.refl _ | with_reducible apply Ext.alloc | with_reducible apply Ext.drew | with_reducible apply Ext.drewN | with_reducible refine Ext.setCell ?_ ?_ _ | with_reducible apply Ext.step | with_reducible assumption | with_reducible exact Nat.le_refl _ | (simp; done) | (simp; omega))))).mono ?_
  rintro e W1 ⟨rfl, x1⟩
  have y1 : Ext (w.alloc (.cells #[.int .i64 0, .int .i64 0] 144)) W1 := Ext.trans (by (repeat' (first | with_reducible exact Ext.refl _ | with_reducible apply Ext.alloc | with_reducible apply Ext.drew | with_reducible apply Ext.drewN | with_reducible refine Ext.setCell ?_ ?_ _ | with_reducible apply Ext.step | with_reducible assumption | with_reducible exact Nat.le_refl _ | (simp; done) | (simp; omega)))) x1
  have c0 := y1.cell_some (show (w.alloc (.cells #[.int .i64 0, .int .i64 0] 144)).cell? ⟨w.heap.size, 0, none⟩ = some (.int .i64 0) by go_cell)
  have c1 := y1.cell_some (show (w.alloc (.cells #[.int .i64 0, .int .i64 0] 144)).cell? ⟨w.heap.size, 1, none⟩ = some (.int .i64 0) by go_cell)
  have f0 := y1.frozen (b := w.heap.size) (o := 0) (v := .int .i64 0) (c := false) (by go_cell) (by go_simp)
  have f1 := y1.frozen (b := w.heap.size) (o := 1) (v := .int .i64 0) (c := false) (by go_cell) (by go_simp)
  have lw := cell_lt c0
  have HW1 := Lib.hid (show Ext w W1 from Ext.trans (by (repeat' (first | with_reducible exact Ext.refl _ | with_reducible apply Ext.alloc | with_reducible apply Ext.drew | with_reducible apply Ext.drewN | with_reducible refine Ext.setCell ?_ ?_ _ | with_reducible apply Ext.step | with_reducible assumption | with_reducible exact Nat.le_refl _ | (simp; done) | (simp; omega)))) y1)
  clear x1 y1 HX HY HL HM HF
  go_wp2_with fail
  refine wp_region_bext (by kernel_rfl) (by kernel_rfl) ?_
  repeat (any_goals (go_big_quiet_step (fail)))
  all_goals refine wpQuiet_nil ?_
  all_goals rintro _ ⟨δ, rfl⟩
  go_wp2_with fail
  go_loopw [7, 8] (fun u v wr => ∃ x y : Int, u = .int .i64 x ∧ v = .int .i64 y ∧ (0 ≤ x ∧ x ≤ 937024000000000000) ∧ (0 ≤ y ∧ y ≤ 937024000000000000) ∧ GcdG p q x y ∧ Ext (W1.alloc (.cells #[.int .i64 p, .int .i64 q] 172)) wr) (fun _ v _ => (intOf v).natAbs)
  case atStart => exact ⟨p, q, rfl, rfl, ⟨hp0, hp1⟩, ⟨by omega, by omega⟩, rfl, by (repeat' (first | with_reducible exact Ext.refl _ | with_reducible apply Ext.alloc | with_reducible apply Ext.drew | with_reducible apply Ext.drewN | with_reducible refine Ext.setCell ?_ ?_ _ | with_reducible apply Ext.step | with_reducible assumption | with_reducible exact Nat.le_refl _ | (simp; done) | (simp; omega)))⟩
  case round =>
    obtain ⟨x, y, rfl, rfl, ⟨hx1, hx2⟩, ⟨hy1, hy2⟩, hg, hw⟩ := hrel
    by_cases hy : y = 0
    · subst hy
      have hxg : x = (Int.gcd p q : Int) := by
        unfold GcdG at hg
        rw [← hg]
        simp
        omega
      have d0 := hw.cell_some (show (W1.alloc (.cells #[.int .i64 p, .int .i64 q] 172)).cell? ⟨W1.heap.size, 0, none⟩ = some (.int .i64 p) by go_cell)
      have d1 := hw.cell_some (show (W1.alloc (.cells #[.int .i64 p, .int .i64 q] 172)).cell? ⟨W1.heap.size, 1, none⟩ = some (.int .i64 q) by go_cell)
      obtain ⟨g, hgq, g1, gp, gq, gg⟩ := gcd_parts (n := p) hq0
      rw [← hgq] at hxg
      subst hxg
      have HLO := Lib.hid (show lowF p q = (p / x, q / x) by rw [lowF, ← hgq])
      have hx0 : ¬ x = 0 := by omega
      have i1 := Int.ediv_nonneg hp0 (show 0 ≤ x by omega)
      have i2 := Int.ediv_le_self x hp0
      have i3 := Int.ediv_nonneg (show 0 ≤ q by omega) (show 0 ≤ x by omega)
      have i4 := Int.ediv_le_self x (show 0 ≤ q by omega)
      have hw1 : Ext W1 wr := Ext.trans (by (repeat' (first | with_reducible exact Ext.refl _ | with_reducible apply Ext.alloc | with_reducible apply Ext.drew | with_reducible apply Ext.drewN | with_reducible refine Ext.setCell ?_ ?_ _ | with_reducible apply Ext.step | with_reducible assumption | with_reducible exact Nat.le_refl _ | (simp; done) | (simp; omega)))) hw
      have e0 := hw1.cell_some c0
      have e1 := hw1.cell_some c1
      have g0 := hw1.frozen c0 f0
      have g1 := hw1.frozen c1 f1
      have HWR := Lib.hid (HW1.out.trans hw1)
      have lr := cell_lt e0
      have ld := cell_lt d0
      clear c0 c1 f0 f1 hw hw1 hgq gp gq hg
      go_wp2_with fail
      refine wp_region_still_tail 9 (by kernel_rfl) (by kernel_rfl) ?_
      simp only [List.take_succ_cons, List.take_zero, List.drop_succ_cons, List.drop_zero]
      repeat (refine wpStill_step (fun K hK => ?_); go_simp; (try go_bits); refine hK _ ?_; clear hK K)
      refine wpStill_nil ?_
      change wpList _ _ _ _ _ wr.drew
      go_wp2_with fail
      have z0 := cell_set_same (u := .int .i64 (p / x)) e0
      have z1 := (set2 e0 e1 (.int .i64 (p / x)) (.int .i64 (q / x))).2
      exact bodyPost_ret (v := .tuple #[V2 (p / x) (q / x), .int .i64 0]) (by simp [results, Try.results86, go_sem, z0, z1]) rfl ⟨by rw [HP.out, HLO.out, HE.out], ((HWR.out.setCell (by simp) _).setCell (by simp) _).drew⟩
    · have hyb : (y != 0) = true := by simpa using hy
      have hm := Int.natAbs_tmod x y
      have hm2 := Nat.mod_lt x.natAbs (show 0 < y.natAbs by omega)
      have hm3 : (x.tmod y).natAbs < y.natAbs := by omega
      have Hm := Lib.hid hm3
      have hm4 : 0 ≤ x.tmod y := Int.tmod_nonneg _ hx1
      have hm5 : x.tmod y ≤ 937024000000000000 := by omega
      have Hg := Lib.hid (show GcdG p q y (x.tmod y) from (gcdG_step x y).trans hg)
      have HM4 := Lib.hid hm4
      have HM5 := Lib.hid hm5
      have HMM := Lib.hid (Int.tmod_eq_emod_of_nonneg hx1 (b := y))
      clear hm hm2 hm3 hg hm4 hm5
      go_wp2_with fail
      refine wp_region_bext (by kernel_rfl) (by kernel_rfl) ?_
      repeat (any_goals (go_big_quiet_step (fail)))
      all_goals refine wpQuiet_nil ?_
      all_goals rintro _ ⟨δ, rfl⟩
      go_wp2_with fail
      go_roundw
      case rel => first | exact ⟨y, x.tmod y, rfl, rfl, ⟨hy1, hy2⟩, ⟨HM4.out, HM5.out⟩, Hg.out, by (repeat' (first | with_reducible exact Ext.refl _ | with_reducible apply Ext.alloc | with_reducible apply Ext.drew | with_reducible apply Ext.drewN | with_reducible refine Ext.setCell ?_ ?_ _ | with_reducible apply Ext.step | with_reducible assumption | with_reducible exact Nat.le_refl _ | (simp; done) | (simp; omega)))⟩ | exact ⟨y, x % y, rfl, rfl, ⟨hy1, hy2⟩, ⟨HMM.out ▸ HM4.out, HMM.out ▸ HM5.out⟩, HMM.out ▸ Hg.out, by (repeat' (first | with_reducible exact Ext.refl _ | with_reducible apply Ext.alloc | with_reducible apply Ext.drew | with_reducible apply Ext.drewN | with_reducible refine Ext.setCell ?_ ?_ _ | with_reducible apply Ext.step | with_reducible assumption | with_reducible exact Nat.le_refl _ | (simp; done) | (simp; omega)))⟩
      case measure => first | simpa [intOf] using Hm.out | simpa [intOf, HMM.out] using Hm.out

set_option maxRecDepth 100000 in
set_option maxHeartbeats 4000000 in
theorem apart2_any (v u : Value) (xs ys : List (Int × Int)) (n : Int) (w : World) (hx : spotK.Is w v xs) (hy : spotK.Is w u ys) :
    Calls Try.prog 61 #[v, u, .int .i64 n] w fun e w' => e = .returned (.tuple #[.bool (apB xs ys n), .int .i64 (apE xs ys n)]) ∧ Ext w w' := by
  have HX := Lib.hid hx
  have HY := Lib.hid hy
  obtain ⟨A, k, c, rfl, _⟩ := hx.open_
  obtain ⟨A', k', c', rfl, _⟩ := hy.open_
  clear hx hy
  have HL := Lib.hid fun (W : World) (x : Ext w W) => isLine_any _ xs W (HX.out.ext x)
  have HM := Lib.hid fun (W : World) (x : Ext w W) => isLine_any _ ys W (HY.out.ext x)
  cases h1 : lineB xs
  · have HE := Lib.hid (show apE xs ys n = 2 by simp [apE, h1])
    have HP := Lib.hid (show apB xs ys n = false by simp [apB, h1])
    rw [h1] at HL
    go_enter Try.func61, Try.ntmps61
    go_wp2_with fail
    refine (HL.out _ (by (repeat' (first | with_reducible exact Ext.refl _ | with_reducible apply Ext.alloc | with_reducible apply Ext.drew | with_reducible apply Ext.drewN | with_reducible refine Ext.setCell ?_ ?_ _ | with_reducible apply Ext.step | with_reducible assumption | with_reducible exact Nat.le_refl _ | (simp; done) | (simp; omega))))).mono ?_
    rintro e _ ⟨rfl, hx⟩
    obtain ⟨δ, rfl⟩ : Ext (w) _ := Ext.trans (by (repeat' (first | with_reducible exact Ext.refl _ | with_reducible apply Ext.alloc | with_reducible apply Ext.drew | with_reducible apply Ext.drewN | with_reducible refine Ext.setCell ?_ ?_ _ | with_reducible apply Ext.step | with_reducible assumption | with_reducible exact Nat.le_refl _ | (simp; done) | (simp; omega)))) hx
    clear hx
    go_wp2_with fail
    go_ret2
    exact ⟨by rw [HE.out, HP.out]; rfl, by (repeat' (first | with_reducible exact Ext.refl _ | with_reducible apply Ext.alloc | with_reducible apply Ext.drew | with_reducible apply Ext.drewN | with_reducible refine Ext.setCell ?_ ?_ _ | with_reducible apply Ext.step | with_reducible assumption | with_reducible exact Nat.le_refl _ | (simp; done) | (simp; omega)))⟩
  rw [h1] at HL
  cases h2 : lineB ys
  · have HE := Lib.hid (show apE xs ys n = 2 by simp [apE, h1, h2])
    have HP := Lib.hid (show apB xs ys n = false by simp [apB, h1, h2])
    rw [h2] at HM
    go_enter Try.func61, Try.ntmps61
    go_wp2_with fail
    refine (HL.out _ (by (repeat' (first | with_reducible exact Ext.refl _ | with_reducible apply Ext.alloc | with_reducible apply Ext.drew | with_reducible apply Ext.drewN | with_reducible refine Ext.setCell ?_ ?_ _ | with_reducible apply Ext.step | with_reducible assumption | with_reducible exact Nat.le_refl _ | (simp; done) | (simp; omega))))).mono ?_
    rintro e _ ⟨rfl, hx⟩
    obtain ⟨δ, rfl⟩ : Ext (w) _ := Ext.trans (by (repeat' (first | with_reducible exact Ext.refl _ | with_reducible apply Ext.alloc | with_reducible apply Ext.drew | with_reducible apply Ext.drewN | with_reducible refine Ext.setCell ?_ ?_ _ | with_reducible apply Ext.step | with_reducible assumption | with_reducible exact Nat.le_refl _ | (simp; done) | (simp; omega)))) hx
    clear hx
    go_wp2_with fail
    refine (HM.out _ (by (repeat' (first | with_reducible exact Ext.refl _ | with_reducible apply Ext.alloc | with_reducible apply Ext.drew | with_reducible apply Ext.drewN | with_reducible refine Ext.setCell ?_ ?_ _ | with_reducible apply Ext.step | with_reducible assumption | with_reducible exact Nat.le_refl _ | (simp; done) | (simp; omega))))).mono ?_
    rintro e _ ⟨rfl, hx⟩
    obtain ⟨δ, rfl⟩ : Ext (w) _ := Ext.trans (by (repeat' (first | with_reducible exact Ext.refl _ | with_reducible apply Ext.alloc | with_reducible apply Ext.drew | with_reducible apply Ext.drewN | with_reducible refine Ext.setCell ?_ ?_ _ | with_reducible apply Ext.step | with_reducible assumption | with_reducible exact Nat.le_refl _ | (simp; done) | (simp; omega)))) hx
    clear hx
    go_wp2_with fail
    go_ret2
    exact ⟨by rw [HE.out, HP.out]; rfl, by (repeat' (first | with_reducible exact Ext.refl _ | with_reducible apply Ext.alloc | with_reducible apply Ext.drew | with_reducible apply Ext.drewN | with_reducible refine Ext.setCell ?_ ?_ _ | with_reducible apply Ext.step | with_reducible assumption | with_reducible exact Nat.le_refl _ | (simp; done) | (simp; omega)))⟩
  rw [h2] at HM
  cases h3 : inB 0 30000 n
  · have HE := Lib.hid (show apE xs ys n = 2 by simp [apE, h1, h2, h3])
    have HP := Lib.hid (show apB xs ys n = false by simp [apB, h1, h2, h3])
    go_enter Try.func61, Try.ntmps61
    go_wp2_with fail
    refine (HL.out _ (by (repeat' (first | with_reducible exact Ext.refl _ | with_reducible apply Ext.alloc | with_reducible apply Ext.drew | with_reducible apply Ext.drewN | with_reducible refine Ext.setCell ?_ ?_ _ | with_reducible apply Ext.step | with_reducible assumption | with_reducible exact Nat.le_refl _ | (simp; done) | (simp; omega))))).mono ?_
    rintro e _ ⟨rfl, hx⟩
    obtain ⟨δ, rfl⟩ : Ext (w) _ := Ext.trans (by (repeat' (first | with_reducible exact Ext.refl _ | with_reducible apply Ext.alloc | with_reducible apply Ext.drew | with_reducible apply Ext.drewN | with_reducible refine Ext.setCell ?_ ?_ _ | with_reducible apply Ext.step | with_reducible assumption | with_reducible exact Nat.le_refl _ | (simp; done) | (simp; omega)))) hx
    clear hx
    go_wp2_with fail
    refine (HM.out _ (by (repeat' (first | with_reducible exact Ext.refl _ | with_reducible apply Ext.alloc | with_reducible apply Ext.drew | with_reducible apply Ext.drewN | with_reducible refine Ext.setCell ?_ ?_ _ | with_reducible apply Ext.step | with_reducible assumption | with_reducible exact Nat.le_refl _ | (simp; done) | (simp; omega))))).mono ?_
    rintro e _ ⟨rfl, hx⟩
    obtain ⟨δ, rfl⟩ : Ext (w) _ := Ext.trans (by (repeat' (first | with_reducible exact Ext.refl _ | with_reducible apply Ext.alloc | with_reducible apply Ext.drew | with_reducible apply Ext.drewN | with_reducible refine Ext.setCell ?_ ?_ _ | with_reducible apply Ext.step | with_reducible assumption | with_reducible exact Nat.le_refl _ | (simp; done) | (simp; omega)))) hx
    clear hx
    go_wp2_with fail
    refine (from_one _ n _ _ _ _ (by go_cell)).mono ?_
    rintro e _ ⟨rfl, hx⟩
    obtain ⟨δ, rfl⟩ : Ext (w) _ := Ext.trans (by (repeat' (first | with_reducible exact Ext.refl _ | with_reducible apply Ext.alloc | with_reducible apply Ext.drew | with_reducible apply Ext.drewN | with_reducible refine Ext.setCell ?_ ?_ _ | with_reducible apply Ext.step | with_reducible assumption | with_reducible exact Nat.le_refl _ | (simp; done) | (simp; omega)))) hx
    clear hx
    go_wp2_with fail
    go_ret2
    exact ⟨by rw [HE.out, HP.out]; rfl, by (repeat' (first | with_reducible exact Ext.refl _ | with_reducible apply Ext.alloc | with_reducible apply Ext.drew | with_reducible apply Ext.drewN | with_reducible refine Ext.setCell ?_ ?_ _ | with_reducible apply Ext.step | with_reducible assumption | with_reducible exact Nat.le_refl _ | (simp; done) | (simp; omega)))⟩
  · have HE := Lib.hid (show apE xs ys n = 0 by simp [apE, h1, h2, h3])
    have HP := Lib.hid (show apB xs ys n = !nearB xs ys n by simp [apB, h1, h2, h3])
    obtain ⟨hn0, hn1⟩ := inB_iff.1 h3
    have HN := Lib.hid fun (W : World) (x : Ext w W) => near_any _ _ xs ys n W (HX.out.ext x) (HY.out.ext x) (lineB_len h1) (lineB_len h2) (lineB_co h1) (lineB_co h2) hn0 (by omega)
    go_enter Try.func61, Try.ntmps61
    go_wp2_with fail
    refine (HL.out _ (by (repeat' (first | with_reducible exact Ext.refl _ | with_reducible apply Ext.alloc | with_reducible apply Ext.drew | with_reducible apply Ext.drewN | with_reducible refine Ext.setCell ?_ ?_ _ | with_reducible apply Ext.step | with_reducible assumption | with_reducible exact Nat.le_refl _ | (simp; done) | (simp; omega))))).mono ?_
    rintro e _ ⟨rfl, hx⟩
    obtain ⟨δ, rfl⟩ : Ext (w) _ := Ext.trans (by (repeat' (first | with_reducible exact Ext.refl _ | with_reducible apply Ext.alloc | with_reducible apply Ext.drew | with_reducible apply Ext.drewN | with_reducible refine Ext.setCell ?_ ?_ _ | with_reducible apply Ext.step | with_reducible assumption | with_reducible exact Nat.le_refl _ | (simp; done) | (simp; omega)))) hx
    clear hx
    go_wp2_with fail
    refine (HM.out _ (by (repeat' (first | with_reducible exact Ext.refl _ | with_reducible apply Ext.alloc | with_reducible apply Ext.drew | with_reducible apply Ext.drewN | with_reducible refine Ext.setCell ?_ ?_ _ | with_reducible apply Ext.step | with_reducible assumption | with_reducible exact Nat.le_refl _ | (simp; done) | (simp; omega))))).mono ?_
    rintro e _ ⟨rfl, hx⟩
    obtain ⟨δ, rfl⟩ : Ext (w) _ := Ext.trans (by (repeat' (first | with_reducible exact Ext.refl _ | with_reducible apply Ext.alloc | with_reducible apply Ext.drew | with_reducible apply Ext.drewN | with_reducible refine Ext.setCell ?_ ?_ _ | with_reducible apply Ext.step | with_reducible assumption | with_reducible exact Nat.le_refl _ | (simp; done) | (simp; omega)))) hx
    clear hx
    go_wp2_with fail
    refine (from_one _ n _ _ _ _ (by go_cell)).mono ?_
    rintro e _ ⟨rfl, hx⟩
    obtain ⟨δ, rfl⟩ : Ext (w) _ := Ext.trans (by (repeat' (first | with_reducible exact Ext.refl _ | with_reducible apply Ext.alloc | with_reducible apply Ext.drew | with_reducible apply Ext.drewN | with_reducible refine Ext.setCell ?_ ?_ _ | with_reducible apply Ext.step | with_reducible assumption | with_reducible exact Nat.le_refl _ | (simp; done) | (simp; omega)))) hx
    clear hx
    go_wp2_with fail
    refine (HN.out _ (by (repeat' (first | with_reducible exact Ext.refl _ | with_reducible apply Ext.alloc | with_reducible apply Ext.drew | with_reducible apply Ext.drewN | with_reducible refine Ext.setCell ?_ ?_ _ | with_reducible apply Ext.step | with_reducible assumption | with_reducible exact Nat.le_refl _ | (simp; done) | (simp; omega))))).mono ?_
    rintro e _ ⟨rfl, hx⟩
    obtain ⟨δ, rfl⟩ : Ext (w) _ := Ext.trans (by (repeat' (first | with_reducible exact Ext.refl _ | with_reducible apply Ext.alloc | with_reducible apply Ext.drew | with_reducible apply Ext.drewN | with_reducible refine Ext.setCell ?_ ?_ _ | with_reducible apply Ext.step | with_reducible assumption | with_reducible exact Nat.le_refl _ | (simp; done) | (simp; omega)))) hx
    clear hx
    go_wp2_with fail
    go_ret2
    exact ⟨by rw [HE.out, HP.out]; rfl, by (repeat' (first | with_reducible exact Ext.refl _ | with_reducible apply Ext.alloc | with_reducible apply Ext.drew | with_reducible apply Ext.drewN | with_reducible refine Ext.setCell ?_ ?_ _ | with_reducible apply Ext.step | with_reducible assumption | with_reducible exact Nat.le_refl _ | (simp; done) | (simp; omega)))⟩
end Go.Proofs.Ytlljhimaopnbfaa
