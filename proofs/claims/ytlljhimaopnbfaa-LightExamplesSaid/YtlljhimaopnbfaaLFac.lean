/- light.Check, Facets and lit. Condition: the slices read as lists. -/
import Derived.Test.YtlljhimaopnbfaaLX
namespace Go.Proofs.Ytlljhimaopnbfaa
section
/- LPl: Shadows of cells, plain. No condition. -/
open Go.RowKit

def gL (lx ly : Int) : Int := (Int.gcd lx ly : Int)
def rayX (lx ly : Int) (x k : Nat) : Int := (x : Int) + (k : Int) * (lx / gL lx ly)
def rayY (lx ly : Int) (y k : Nat) : Int := (y : Int) + (k : Int) * (ly / gL lx ly)
def inC (n m : Nat) (i j : Int) : Bool := inB 0 ((n : Int) - 1) i && inB 0 ((m : Int) - 1) j
def hitB (n m : Nat) (p : Int) (hs : List Int) (lx ly lz : Int) (x y k : Nat) : Bool :=
  inC n m (rayX lx ly x k) (rayY lx ly y k) && decide (4 * (k : Int) * p * lz < gL lx ly * (midC n hs (rayX lx ly x k).toNat (rayY lx ly y k).toNat - midC n hs x y))
/-- Does a cell lie in shadow? -/
def darkB (n m : Nat) (p : Int) (hs : List Int) (lx ly lz : Int) (x y : Nat) : Bool := decide (gL lx ly ≠ 0) && (List.range 24).any fun k => decide (1 ≤ k) && hitB n m p hs lx ly lz x y k

theorem inC_iff {n m : Nat} {i j : Int} : inC n m i j = true ↔ (0 ≤ i ∧ i < n) ∧ 0 ≤ j ∧ j < m := by
  simp [inC, inB]
  omega
theorem gL_nonneg (lx ly : Int) : 0 ≤ gL lx ly := by unfold gL; omega
theorem gL_zero {lx ly : Int} : gL lx ly = 0 ↔ lx = 0 ∧ ly = 0 := by
  unfold gL
  rw [Int.natCast_eq_zero]
  exact Int.gcd_eq_zero_iff
theorem gL_x (lx ly : Int) : gL lx ly * (lx / gL lx ly) = lx := Int.mul_ediv_cancel' (Int.gcd_dvd_left lx ly)
theorem gL_y (lx ly : Int) : gL lx ly * (ly / gL lx ly) = ly := Int.mul_ediv_cancel' (Int.gcd_dvd_right lx ly)
theorem ray_divx {lx ly : Int} (h : gL lx ly ≠ 0) (k : Int) : (k * lx).tdiv (gL lx ly) = k * (lx / gL lx ly) := by
  have e : k * lx = (k * (lx / gL lx ly)) * gL lx ly := by
    rw [Int.mul_assoc, Int.mul_comm (lx / gL lx ly), gL_x]
  rw [e, Int.mul_tdiv_cancel _ h]
theorem ray_divy {lx ly : Int} (h : gL lx ly ≠ 0) (k : Int) : (k * ly).tdiv (gL lx ly) = k * (ly / gL lx ly) := by
  have e : k * ly = (k * (ly / gL lx ly)) * gL lx ly := by
    rw [Int.mul_assoc, Int.mul_comm (ly / gL lx ly), gL_y]
  rw [e, Int.mul_tdiv_cancel _ h]

theorem between {d a : Int} {k k' n : Nat} (h0 : 0 ≤ a) (h1 : a < n) (hk : k ≤ k') (h2 : 0 ≤ a + (k' : Int) * d) (h3 : a + (k' : Int) * d < n) : 0 ≤ a + (k : Int) * d ∧ a + (k : Int) * d < n := by
  have hk' : (k : Int) ≤ (k' : Int) := by omega
  rcases Int.le_total 0 d with hd | hd
  · have e1 := Int.mul_le_mul_of_nonneg_right hk' hd
    have e2 := Int.mul_nonneg (show (0 : Int) ≤ k by omega) hd
    omega
  · have e1 := Int.mul_le_mul_of_nonpos_right hk' hd
    have e2 := Int.mul_nonpos_of_nonneg_of_nonpos (show (0 : Int) ≤ k by omega) hd
    omega
theorem out_mono {n m : Nat} {lx ly : Int} {x y k k' : Nat} (hx : x < n) (hy : y < m) (hk : k ≤ k') (h : inC n m (rayX lx ly x k) (rayY lx ly y k) = false) : inC n m (rayX lx ly x k') (rayY lx ly y k') = false := by
  cases h' : inC n m (rayX lx ly x k') (rayY lx ly y k')
  · rfl
  · obtain ⟨⟨a1, a2⟩, b1, b2⟩ := inC_iff.1 h'
    have := inC_iff.2 ⟨between (n := n) (show (0 : Int) ≤ (x : Int) by omega) (by omega) hk a1 a2, between (n := m) (show (0 : Int) ≤ (y : Int) by omega) (by omega) hk b1 b2⟩
    rw [show inC n m (rayX lx ly x k) (rayY lx ly y k) = true from this] at h
    cases h
theorem out_24 {n m : Nat} {lx ly : Int} {x y : Nat} (hx : x < n) (hy : y < m) (hn : n ≤ 23) (hm : m ≤ 23) (hg : gL lx ly ≠ 0) : inC n m (rayX lx ly x 24) (rayY lx ly y 24) = false := by
  cases h' : inC n m (rayX lx ly x 24) (rayY lx ly y 24)
  · rfl
  · obtain ⟨⟨a1, a2⟩, b1, b2⟩ := inC_iff.1 h'
    have ex := gL_x lx ly
    have ey := gL_y lx ly
    simp only [rayX, rayY] at a1 a2 b1 b2
    generalize lx / gL lx ly = dx at *
    generalize ly / gL lx ly = dy at *
    have d1 : dx = 0 := by omega
    have d2 : dy = 0 := by omega
    rw [d1, Int.mul_zero] at ex
    rw [d2, Int.mul_zero] at ey
    exact absurd (gL_zero.2 ⟨ex.symm, ey.symm⟩) hg
theorem hit_in {n m : Nat} {p : Int} {hs : List Int} {lx ly lz : Int} {x y k : Nat} (h : inC n m (rayX lx ly x k) (rayY lx ly y k) = false) : hitB n m p hs lx ly lz x y k = false := by simp [hitB, h]
theorem in_lt {n m : Nat} {lx ly : Int} {x y k : Nat} (hx : x < n) (hy : y < m) (hn : n ≤ 23) (hm : m ≤ 23) (hg : gL lx ly ≠ 0) (h : inC n m (rayX lx ly x k) (rayY lx ly y k) = true) : k < 24 := by
  rcases Nat.lt_or_ge k 24 with h1 | h1
  · exact h1
  · rw [out_mono hx hy h1 (out_24 hx hy hn hm hg)] at h
    cases h
theorem dark_no {n m : Nat} {p : Int} {hs : List Int} {lx ly lz : Int} {x y k : Nat} (hx : x < n) (hy : y < m) (h : ∀ j, 1 ≤ j → j < k → hitB n m p hs lx ly lz x y j = false) (ho : inC n m (rayX lx ly x k) (rayY lx ly y k) = false) : darkB n m p hs lx ly lz x y = false := by
  have : ((List.range 24).any fun k => decide (1 ≤ k) && hitB n m p hs lx ly lz x y k) = false := by
    rw [List.any_eq_false]
    intro j _
    rcases Nat.lt_or_ge j k with hj | hj
    · by_cases h1 : 1 ≤ j
      · simp [h j h1 hj]
      · simp [h1]
    · simp [hit_in (out_mono hx hy hj ho)]
  rw [darkB, this, Bool.and_false]
theorem dark_yes {n m : Nat} {p : Int} {hs : List Int} {lx ly lz : Int} {x y k : Nat} (hg : gL lx ly ≠ 0) (h1 : 1 ≤ k) (hk : k < 24) (h : hitB n m p hs lx ly lz x y k = true) : darkB n m p hs lx ly lz x y = true := by
  rw [darkB, Bool.and_eq_true]
  exact ⟨by simpa using hg, List.any_eq_true.2 ⟨k, List.mem_range.2 hk, by simp [h1, h]⟩⟩
theorem dark_flat {n m : Nat} {p : Int} {hs : List Int} {lx ly lz : Int} {x y : Nat} (hg : gL lx ly = 0) : darkB n m p hs lx ly lz x y = false := by simp [darkB, hg]
theorem dark_iff {n m : Nat} {p : Int} {hs : List Int} {lx ly lz : Int} {x y : Nat} : darkB n m p hs lx ly lz x y = true ↔ gL lx ly ≠ 0 ∧ ∃ k, 1 ≤ k ∧ k < 24 ∧ hitB n m p hs lx ly lz x y k = true := by
  rw [darkB, Bool.and_eq_true, List.any_eq_true]
  constructor
  · rintro ⟨h, k, hk, h2⟩
    rw [Bool.and_eq_true] at h2
    exact ⟨by simpa using h, k, by simpa using h2.1, List.mem_range.1 hk, h2.2⟩
  · rintro ⟨h, k, h1, hk, h2⟩
    exact ⟨by simpa using h, k, List.mem_range.2 hk, by simp [h1, h2]⟩
end
section
/- LTilts: light's tilts, Check and Facets. Condition: the slice reads as a list. -/
open Go.RowKit Go.Shelf

attribute [local go_sem] Oper.semAt_some

def tiltsL (n m : Nat) (hs : List Int) : List (Int × Int) := (List.range (m * n)).map fun j => (tiltX n hs (cx n j) (cy n j), tiltY n hs (cx n j) (cy n j))

set_option maxRecDepth 100000 in
set_option maxHeartbeats 8000000 in
theorem tilts_any (B n m : Nat) (p : Int) (hs : List Int) (w : World) (hF : FieldAt w B n m p hs) :
    Calls Try.prog 73 #[.pointer (some ⟨B, 0, none⟩)] w (RetE tiltK w (tiltsL n m hs)) := by
  have HF := Lib.hid hF
  have hn1 := hF.n1
  have hn2 := hF.n2
  have hm2 := hF.m2
  have hB := cell_lt hF.fw
  clear hF
  refine (callsIn_wide (n := 3)).1 ?_
  refine callsIn_of_wp_marks Try.func73 rfl trivial ?_ rfl
  simp only [Try.ntmps73, List.size_toArray, List.length_cons, List.length_nil, Nat.reduceAdd, Nat.reduceSub, Array.replicate_succ, Array.replicate_zero, List.push_toArray, List.append_toArray, List.nil_append, List.cons_append]
  have F2 : Fence.wide.fn 108 := trivial
  have F3 : Fence.wide.fn 77 := trivial
  gi_wp2
  refine (cells_in Fence.wide 2 trivial rfl _ _).mono ?_
  rintro e _ ⟨rfl, rfl⟩
  gi_wp2
  refine lay_in (fun W => Ext w W ∧ W.heap.size = w.heap.size + 3 ∧ W.cell? ⟨w.heap.size, 0, none⟩ = some (.pointer (some ⟨B, 0, none⟩)) ∧ W.cell? ⟨w.heap.size + 1, 0, none⟩ = some (.slice none 0 0) ∧ W.frozen? ⟨w.heap.size + 1, 0, none⟩ = false ∧ W.cell? ⟨w.heap.size + 1 + 1, 0, none⟩ = some (.pointer (some ⟨B, 0, none⟩)))
    ⟨by (repeat' (first | with_reducible exact Ext.refl _ | with_reducible apply Ext.alloc | with_reducible apply Ext.drew | with_reducible apply Ext.drewN | with_reducible refine Ext.setCell ?_ ?_ _ | with_reducible apply Ext.step | with_reducible assumption | with_reducible exact Nat.le_refl _ | (simp; done) | (simp; omega))), by simp, by go_cell, by go_cell, by go_simp, by go_cell⟩ ?_
  rintro W0 ⟨X0, hs0, bp, b4, g4, bs⟩
  have HX0 := Lib.hid X0
  have HF0 := Lib.hid (HF.out.ext X0)
  clear X0
  refine wpIn_rangeFunc_acc (K := tiltK) (Bx := w.heap.size + 1) (off := 0) (N := m * n) (fun j => (tiltX n hs (cx n j) (cy n j), tiltY n hs (cx n j) (cy n j))) rfl (by decide) (gf := 109) (lb := #[.pointer (some ⟨w.heap.size + 1 + 1, 0, none⟩)]) rfl trivial (enters_of Try.func109 (by kernel_rfl) rfl)
    (cells_stops Fence.wide 2 trivial rfl (by decide) (w.heap.size + 1 + 1) B (w.heap.size + 1) 0 n m hn1 hn2 hm2 W0 (by omega) (by omega) bs HF0.out.fw HF0.out.fh) (fun _ => rfl) b4 g4 ?a1 ?assign ?body ?done
  case assign =>
    intro l x W K hK
    simp only [cellEnc]
    gi_wp2
    exact hK
  case body =>
    intro l ans x W sv hlen hA hc ho
    have kp := hA.cell bp (.inl (by omega))
    have hFW : FieldAt W B n m p hs := hA.field HF.out HX0.out (by omega)
    have hcx : cx n x.val < n := cx_lt hn1
    have hcy : cy n x.val < m := cy_lt x.isLt
    have HCO := Lib.hid (corners_any B n m p hs (cx n x.val) (cy n x.val) W hFW hcx hcy)
    obtain ⟨tx, htx⟩ : ∃ z, z = tiltX n hs (cx n x.val) (cy n x.val) := ⟨_, rfl⟩
    obtain ⟨ty, hty⟩ : ∃ z, z = tiltY n hs (cx n x.val) (cy n x.val) := ⟨_, rfl⟩
    show Code.wpIn _ _ _ _ (AccPost tiltK W0 (w.heap.size + 1) 0 W sv (ans ++ [(tiltX n hs (cx n x.val) (cy n x.val), tiltY n hs (cx n x.val) (cy n x.val))])) _ _
    rw [← htx, ← hty]
    unfold tiltX at htx
    unfold tiltY at hty
    obtain ⟨cb0, cb1, cb2, cb3⟩ := cor_bd HF.out (cx n x.val) (cy n x.val)
    generalize cor0 n hs (cx n x.val) (cy n x.val) = r0 at *
    generalize cor1 n hs (cx n x.val) (cy n x.val) = r1 at *
    generalize cor2 n hs (cx n x.val) (cy n x.val) = r2 at *
    generalize cor3 n hs (cx n x.val) (cy n x.val) = r3 at *
    generalize cx n x.val = xx at *
    generalize cy n x.val = yy at *
    have HTX := Lib.hid htx
    have HTY := Lib.hid hty
    have HAA := Lib.hid hA
    have HO := Lib.hid ho
    have HC := Lib.hid hc
    clear htx hty hA ho hc hFW
    have hWs := HAA.out.but.size
    gi_wp2
    refine (CallsIn.inRound l (callsIn_wide.2 HCO.out)).mono ?_
    rintro e W1 ⟨rfl, x1⟩
    have HX1 := Lib.hid x1
    have hp1 := x1.cell_some kp
    have hc1 := x1.cell_some HC.out
    have hlt1 := cell_lt hc1
    have hw1 := x1.bel.size
    clear x1 kp
    have HZ := Lib.hid (show ans.length ≤ 1000000000 by have := Nat.mul_le_mul hm2 hn2; omega)
    gi_wp2_with (gi_at_builtin; refine EK.app_in (K := tiltK) (B := W0.heap.size) (xs := ans) rfl (.tmp 15) (.tmp 39) rfl (W1.heap.size + 1) 1 (r1 + r3 - r0 - r2, r2 + r3 - r0 - r1) rfl rfl (fun i u hu => cell_new1 hu) (HO.out.ext ((HX1.out.alloc _).alloc _)) (Nat.le_trans hWs ((HX1.out.alloc _).alloc _).bel.size) HZ.out ?_; intro v' w2 o3 _ g3; obtain ⟨Av, kv, cv, rfl⟩ := o3.shape; obtain ⟨e3, f3, l3⟩ := HAA.out.after HC.out HO.out ((HX1.out.alloc _).alloc _) g3; have HO3 := Lib.hid o3; have HG3 := Lib.hid g3; clear o3 g3)
    have HO4 := HO3.out
    rw [← HTX.out, ← HTY.out] at HO4
    exact ⟨_, _, _, _, (HX1.out.alloc _).alloc _, HG3.out, HO4, Ext.refl _, Ext.refl _⟩
  case done =>
    intro D W sv hD hA hc ho hK
    have HO := Lib.hid ho
    have HAA := Lib.hid hA
    have HK := Lib.hid hK
    clear hA ho hK
    gi_wp2
    refine leaves_marks [D] W (by simp) (mark_one HK.out) (fun W' hW => ⟨_, results_tmp rfl _ _ _, sv, rfl, (HO.out.put hW (mark_one HK.out)).mono (by omega), hW.ext (HAA.out.but.below HX0.out (by simp)) (by have := HX0.out.bel.size; simp; omega)⟩)
end
open Go.RowKit Go.Shelf

attribute [local go_sem] Oper.semAt_some

theorem surf_nm {W H P : Int} {hs : List Int} (h : surfB W H P hs = true) : ∃ n m : Nat, W = (n : Int) + 1 ∧ H = (m : Int) + 1 ∧ 1 ≤ n ∧ n ≤ 23 ∧ 1 ≤ m ∧ m ≤ 23 := by
  obtain ⟨⟨a1, a2⟩, ⟨b1, b2⟩, _⟩ := surfB_iff.1 h
  exact ⟨(W - 1).toNat, (H - 1).toNat, by omega, by omega, by omega, by omega, by omega, by omega⟩
/-- The cells of a row, and the rows of cells. -/
def nOf (W : Int) : Nat := (W - 1).toNat
theorem nOf_add (n : Nat) : nOf ((n : Int) + 1) = n := by unfold nOf; omega

set_option maxHeartbeats 1000000 in
theorem checkS_any (W H P : Int) (hv : Value) (hs : List Int) (w : World) (hI : intK.Is w hv hs) :
    Calls Try.prog 29 #[surfV W H P hv] w fun e w' => e = .returned (.int .i64 (surfE W H P hs)) ∧ Ext w w' := by
  have HI := Lib.hid fun (W0 : World) (x : Ext w W0) => hI.ext x
  have hI' := hI
  obtain ⟨A, L, c, rfl, _⟩ := hI'.open_
  clear hI' hI
  cases hb : surfB W H P hs
  · have HE := Lib.hid (show surfE W H P hs = 60 by simp [surfE, hb])
    have HB := Lib.hid hb
    clear hb
    go_enter Try.func29, Try.ntmps29
    go_wp2_with fail
    refine (open_bad W H P _ hs _ (HI.out _ (by (repeat' (first | with_reducible exact Ext.refl _ | with_reducible apply Ext.alloc | with_reducible apply Ext.drew | with_reducible apply Ext.drewN | with_reducible refine Ext.setCell ?_ ?_ _ | with_reducible apply Ext.step | with_reducible assumption | with_reducible exact Nat.le_refl _ | (simp; done) | (simp; omega))))) HB.out).mono ?_
    rintro e W1 ⟨rfl, x1⟩
    have HX1 := Lib.hid (show Ext w W1 from Ext.trans (by (repeat' (first | with_reducible exact Ext.refl _ | with_reducible apply Ext.alloc | with_reducible apply Ext.drew | with_reducible apply Ext.drewN | with_reducible refine Ext.setCell ?_ ?_ _ | with_reducible apply Ext.step | with_reducible assumption | with_reducible exact Nat.le_refl _ | (simp; done) | (simp; omega)))) x1)
    clear x1
    go_wp2_with fail
    go_ret
    exact ⟨by rw [HE.out]; rfl, HX1.out⟩
  · have HE := Lib.hid (show surfE W H P hs = 0 by simp [surfE, hb])
    obtain ⟨n, m, rfl, rfl, _⟩ := surf_nm hb
    have HB := Lib.hid hb
    clear hb
    go_enter Try.func29, Try.ntmps29
    go_wp2_with fail
    refine (open_good n m P _ hs _ (HI.out _ (by (repeat' (first | with_reducible exact Ext.refl _ | with_reducible apply Ext.alloc | with_reducible apply Ext.drew | with_reducible apply Ext.drewN | with_reducible refine Ext.setCell ?_ ?_ _ | with_reducible apply Ext.step | with_reducible assumption | with_reducible exact Nat.le_refl _ | (simp; done) | (simp; omega))))) HB.out).mono ?_
    rintro e W1 ⟨B, rfl, hF, hB, x1⟩
    have HX1 := Lib.hid (show Ext w W1 from Ext.trans (by (repeat' (first | with_reducible exact Ext.refl _ | with_reducible apply Ext.alloc | with_reducible apply Ext.drew | with_reducible apply Ext.drewN | with_reducible refine Ext.setCell ?_ ?_ _ | with_reducible apply Ext.step | with_reducible assumption | with_reducible exact Nat.le_refl _ | (simp; done) | (simp; omega)))) x1)
    clear x1 hF hB
    go_wp2_with fail
    go_ret
    exact ⟨by rw [HE.out]; rfl, HX1.out⟩

def facetsL (W H P : Int) (hs : List Int) : List (Int × Int) := if surfB W H P hs then tiltsL (nOf W) (nOf H) hs else []
set_option maxHeartbeats 1000000 in
theorem facets_any (W H P : Int) (hv : Value) (hs : List Int) (w : World) (hI : intK.Is w hv hs) :
    Calls Try.prog 27 #[surfV W H P hv] w (RetEE tiltK w (facetsL W H P hs) (surfE W H P hs)) := by
  have HI := Lib.hid fun (W0 : World) (x : Ext w W0) => hI.ext x
  have hI' := hI
  obtain ⟨A, L, c, rfl, _⟩ := hI'.open_
  clear hI' hI
  cases hb : surfB W H P hs
  · have HE := Lib.hid (show surfE W H P hs = 60 by simp [surfE, hb])
    have HR := Lib.hid (show facetsL W H P hs = [] by simp [facetsL, hb])
    have HB := Lib.hid hb
    clear hb
    go_enter Try.func27, Try.ntmps27
    go_wp2_with fail
    refine (open_bad W H P _ hs _ (HI.out _ (by (repeat' (first | with_reducible exact Ext.refl _ | with_reducible apply Ext.alloc | with_reducible apply Ext.drew | with_reducible apply Ext.drewN | with_reducible refine Ext.setCell ?_ ?_ _ | with_reducible apply Ext.step | with_reducible assumption | with_reducible exact Nat.le_refl _ | (simp; done) | (simp; omega))))) HB.out).mono ?_
    rintro e W1 ⟨rfl, x1⟩
    have HX1 := Lib.hid (show Ext w W1 from Ext.trans (by (repeat' (first | with_reducible exact Ext.refl _ | with_reducible apply Ext.alloc | with_reducible apply Ext.drew | with_reducible apply Ext.drewN | with_reducible refine Ext.setCell ?_ ?_ _ | with_reducible apply Ext.step | with_reducible assumption | with_reducible exact Nat.le_refl _ | (simp; done) | (simp; omega)))) x1)
    clear x1
    go_wp2_with fail
    go_ret2
    exact ⟨_, by rw [HE.out]; rfl, by rw [HR.out]; exact EK.Own.nil _ _, HX1.out⟩
  · have HE := Lib.hid (show surfE W H P hs = 0 by simp [surfE, hb])
    obtain ⟨n, m, rfl, rfl, _⟩ := surf_nm hb
    have HR := Lib.hid (show facetsL ((n : Int) + 1) ((m : Int) + 1) P hs = tiltsL n m hs by simp [facetsL, hb, nOf_add])
    have HB := Lib.hid hb
    clear hb
    go_enter Try.func27, Try.ntmps27
    go_wp2_with fail
    refine (open_good n m P _ hs _ (HI.out _ (by (repeat' (first | with_reducible exact Ext.refl _ | with_reducible apply Ext.alloc | with_reducible apply Ext.drew | with_reducible apply Ext.drewN | with_reducible refine Ext.setCell ?_ ?_ _ | with_reducible apply Ext.step | with_reducible assumption | with_reducible exact Nat.le_refl _ | (simp; done) | (simp; omega))))) HB.out).mono ?_
    rintro e W1 ⟨B, rfl, hF, hB, x1⟩
    have HX1 := Lib.hid (show Ext w W1 from Ext.trans (by (repeat' (first | with_reducible exact Ext.refl _ | with_reducible apply Ext.alloc | with_reducible apply Ext.drew | with_reducible apply Ext.drewN | with_reducible refine Ext.setCell ?_ ?_ _ | with_reducible apply Ext.step | with_reducible assumption | with_reducible exact Nat.le_refl _ | (simp; done) | (simp; omega)))) x1)
    have HF := Lib.hid hF
    clear x1 hF hB
    go_wp2_with fail
    refine (tilts_any B n m P hs W1 HF.out.at_).mono ?_
    rintro e W2 ⟨v, rfl, ov, x2⟩
    have HX2 := Lib.hid (HX1.out.trans x2)
    have HO := Lib.hid ov
    clear x2 ov
    go_wp2_with fail
    go_ret2
    exact ⟨_, by rw [HE.out]; rfl, by rw [HR.out]; exact HO.out.mono HX1.out.bel.size, HX2.out⟩
end Go.Proofs.Ytlljhimaopnbfaa
